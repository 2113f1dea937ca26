import Derived.Test.YteipljggjegpoaaDoorV3
import Derived.Maps.OwnIn
namespace Go.Proofs.YteipljggjegpoaaDoor
set_option linter.unusedVariables false
set_option linter.unusedSimpArgs false
open Go.RowKit Go.Lib Go.Maps
set_option maxHeartbeats 2000000
set_option maxRecDepth 100000

theorem EscMap.lt {w : World} {b : Nat} (h : EscMap w b) : b < w.heap.size := by
  obtain ⟨D, ho, _⟩ := h
  exact ho.lt
theorem ownsMap_more {P : Program} {k b n : Nat} {R : Value → Option (DataW Unit × List MemPlace)} {D : DataW Unit} {w : World} (h : w.ownsMap P k R b n D) (L : List Obj) (d : Nat) : (w.more L d).ownsMap P k R b n D := by
  have hlt := h.lt
  obtain ⟨es, clock, hb, F⟩ := h
  exact ⟨es, clock, (World.more_heap w L d b hlt).trans hb, F⟩
theorem alloc_more (X : World) (o : Obj) : X.alloc o = X.more [o] X.drawn := by
  rw [World.alloc, World.more, Array.append_singleton]
theorem zero9 (w : World) : (zeroValue 9).run Tryd.prog w = .ok (.string ⟨#[]⟩) w := by kernel_rfl
theorem key_at (c : UInt8) : keyOf Tryd.prog 5 (.int .u8 c.toNat) = some (kB c) := keyOf_int_mk Tryd.underlying5 (kB_wf c)
theorem esc_take (l : List UInt8) (k : Nat) (h : k < l.length) : Vw.esc (l.take (k + 1)) = Vw.esc (l.take k) ++ Vw.escB (l[k]'h) := by
  rw [List.take_add_one, List.getElem?_eq_getElem h, Vw.esc, Vw.esc, List.flatMap_append]
  simp

theorem text_of {c : UInt8} {t : ByteArray} {ps : List MemPlace} (h : ((DataW.lit (.string (Vw.escB c)) : DataW Unit), ps) = (.lit (.string t.data.toList), [])) (h6 : (Vw.escB c).length ≤ 6) : t.data.toList = Vw.escB c ∧ t.size ≤ 6 := by
  have h1 := congrArg Prod.fst h
  simp only [DataW.lit.injEq, Lit.string.injEq] at h1
  refine ⟨h1.symm, ?_⟩
  rw [h1] at h6
  simpa using h6

theorem escape_any (s : ByteArray) (hs : s.size ≤ 1000000) (w : World) :
    Calls Tryd.prog 5 #[.string s] w fun e w' => e = .returned (.string ⟨(Vw.esc s.data.toList).toArray⟩) ∧ Below w.heap.size w w' := by
  by_cases hany : s.data.toList.any Vw.special = false
  · rw [Vw.esc_plain _ hany]
    exact escape_plain s hany w
  have hx := idx_special s
  rw [show s.data.toList.any Vw.special = true by simpa using hany] at hx
  simp only [Bool.not_true] at hx
  have hlen : s.data.toList.length = s.size := by simp
  go_enter Tryd.func5, Tryd.ntmps5
  go_wp2_with (first
    | (go_at_call 10; refine (indexFunc_any s _).mono ?_; rintro e w1 ⟨rfl, hb1⟩)
    | (go_at_call 12; refine (escapes_any _).mono ?_; rintro e X ⟨rfl, hmap, hb2⟩))
  obtain ⟨D, hown, hrd⟩ := hmap
  have HB := Lib.hid (hb1.trans (hb2.mono hb1.size))
  generalize w1.heap.size = mb at *
  clear hb1 hb2
  go_loopw [15] (fun i wr => ∃ (k : Nat) (L : List Obj) (d : Nat), k ≤ s.size ∧ i = .int .i64 k ∧ wr = X.more L d ∧ IsB X L d (Vw.esc (s.data.toList.take k)))
    (fun i _ => s.size - (intOf i).toNat)
  case atStart => exact ⟨0, _, _, Nat.zero_le _, rfl, alloc_more _ _, isB_new X⟩
  case round =>
    obtain ⟨k, L, d, hk, rfl, rfl, hB⟩ := hrel
    by_cases hlt : k < s.size
    · have hk0 : (0 : Int) ≤ (k : Int) := by omega
      have hk1 : (k : Int) < (s.size : Int) := by omega
      have hm1 : (s.size : Int) ≤ 9223372036854775807 := by omega
      have hl6 := Vw.esc_length6 (s.data.toList.take k)
      rw [List.length_take] at hl6
      have hl6' : (Vw.esc (s.data.toList.take k)).length ≤ 6000000 := by omega
      clear hl6
      have hnext := esc_take s.data.toList k (by omega)
      rw [show s.data.toList[k]'(by omega) = s[k]'hlt by rw [Array.getElem_toList]; rfl] at hnext
      have hown' := ownsMap_more hown L d
      obtain ⟨r0, r1, r2⟩ := hrd
      generalize hc : s[k]'hlt = c at *
      have hkey := key_at c
      have HN := Lib.hid hnext
      clear hnext
      cases hsp : Vw.special c with
      | true =>
        have r1c := r1 c
        have r2c := r2 c hsp
        rw [hsp] at r1c
        have h6 : (Vw.escB c).length ≤ 6 := by
          obtain ⟨_, _, _, _, h6⟩ := Vw.escB_form c hsp
          exact h6
        go_wp2_with (first
          | (at_lookup; refine wpList_lookup_own_ok _ rfl _ _ 43 rfl 5 9 law5 Tryd.underlying43 (plainElem Tryd.prog 9) (zero9 _) (.lit (.string [])) [] (plainElem_string Tryd.underlying9 (by decide)) _ 37 D rfl hown' _ _ rfl hkey ?_; intro v ps hv; rw [r2c] at hv; obtain ⟨t, rfl, ht, htm⟩ := plainElem_string_inv Tryd.underlying9 hv; rw [r1c]; obtain ⟨hte, htz⟩ := text_of ht h6; clear hv ht htm)
          | (go_at_call 13; refine (b_writeString X L d _ t hB (by omega)).mono ?_; rintro e w' ⟨rfl, L2, d2, rfl, hB2⟩)
          | go_in)
        go_roundw
        case rel => exact ⟨k + 1, L2, d2, by omega, by go_num, rfl, by rw [HN.out, ← hte]; exact hB2⟩
        case measure => simp [intOf]; omega
      | false =>
        have r1c := r1 c
        rw [hsp] at r1c
        go_wp2_with (first
          | (at_lookup; refine wpList_lookup_own_ok _ rfl _ _ 43 rfl 5 9 law5 Tryd.underlying43 (plainElem Tryd.prog 9) (zero9 _) (.lit (.string [])) [] (plainElem_string Tryd.underlying9 (by decide)) _ 37 D rfl hown' _ _ rfl hkey ?_; intro v ps hv; obtain ⟨t, rfl, ht, htm⟩ := plainElem_string_inv Tryd.underlying9 hv; clear hv ht htm; rw [r1c])
          | (go_at_call 14; refine (b_writeByte X L d _ c hB (by omega)).mono ?_; rintro e w' ⟨rfl, L2, d2, rfl, hB2⟩)
          | go_in)
        go_roundw
        case rel => exact ⟨k + 1, L2, d2, by omega, by go_num, rfl, by rw [HN.out, Vw.escB_plain _ hsp]; exact hB2⟩
        case measure => simp [intOf]; omega
    · have : k = s.size := by omega
      subst this
      rw [List.take_of_length_le (by omega)] at hB
      go_wp2_with (go_at_call 15; refine (b_string X L d _ hB).mono ?_; rintro e w' ⟨rfl, L2, d2, rfl⟩)
      go_ret
      exact ⟨rfl, HB.out.mored _ _ _ HB.out.size⟩
end Go.Proofs.YteipljggjegpoaaDoor
