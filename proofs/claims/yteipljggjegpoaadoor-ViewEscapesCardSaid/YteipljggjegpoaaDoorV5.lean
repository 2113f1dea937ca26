import Derived.Test.YteipljggjegpoaaDoorV4
import Derived.StringKeys
namespace Go.Proofs.YteipljggjegpoaaDoor
set_option linter.unusedVariables false
set_option linter.unusedSimpArgs false
open Go.RowKit Go.Lib Go.Maps
set_option maxHeartbeats 2000000
set_option maxRecDepth 100000

/-! the map back, read by its keys -/
def VReads (D : DataW Unit) (S : UInt8 → Bool) : Prop :=
  IsMap D ∧ (∀ t, has D (.string t) = Vw.allBytes.any fun c => S c && Vw.escB c == t) ∧ (∀ c, S c = true → ∀ z, D.atKey (.string (Vw.escB c)) z = .lit (kB c)) ∧ (∀ c, S c = true → Vw.special c = true)
theorem vreads_start : VReads (.map []) (fun _ => false) := by
  refine ⟨⟨_, rfl⟩, fun t => ?_, fun c h => Bool.noConfusion h, fun c h => Bool.noConfusion h⟩
  rw [has_eq]
  symm
  rw [List.any_nil, List.any_eq_false]
  intro x _ h
  simp at h
theorem escB_inj {c d : UInt8} (hc : Vw.special c = true) (hd : Vw.special d = true) (h : Vw.escB c = Vw.escB d) : c = d := by
  obtain ⟨_, _, _, h1, _⟩ := Vw.escB_form c hc
  obtain ⟨_, _, _, h2, _⟩ := Vw.escB_form d hd
  rw [h, h2] at h1
  exact (Option.some.inj h1).symm
theorem vreads_put {D : DataW Unit} {S : UInt8 → Bool} (h : VReads D S) (c0 : UInt8) (h0 : Vw.special c0 = true) : VReads (D.put (.string (Vw.escB c0)) (.lit (kB c0))) (fun c => S c || c == c0) := by
  obtain ⟨hm, h1, h2, h3⟩ := h
  have hsp : ∀ c, (S c || c == c0) = true → Vw.special c = true := by
    intro c hc
    rcases Bool.or_eq_true_iff.1 hc with e | e
    · exact h3 c e
    · rw [eq_of_beq e]; exact h0
  refine ⟨hm.put _ _, fun t => ?_, fun c hc z => ?_, hsp⟩
  · by_cases e : t = Vw.escB c0
    · subst e
      rw [has_put_same hm (by trivial)]
      symm
      rw [List.any_eq_true]
      exact ⟨c0, Vw.mem_all c0, by simp⟩
    · rw [has_put_other (fun h => e (Lit.string.inj h)), h1]
      congr 1
      funext c
      by_cases ec : c = c0
      · subst ec
        have : (Vw.escB c == t) = false := by simpa using fun h => e h.symm
        simp [this]
      · have : (c == c0) = false := by simpa using ec
        simp only [this, Bool.or_false]
  · by_cases e : c = c0
    · subst e; rw [atKey_put_same hm (by trivial)]
    · have hS : S c = true := by
        have : (c == c0) = false := by simpa using e
        simpa only [this, Bool.or_false] using hc
      rw [atKey_put_other (fun h => e (escB_inj (h3 c hS) h0 (Lit.string.inj h)))]
      exact h2 c hS z
theorem vreads_congr {D : DataW Unit} {Q Q' : UInt8 → Bool} (h : VReads D Q) (e : ∀ c, Q c = Q' c) : VReads D Q' := by
  have : Q = Q' := funext e
  rw [← this]; exact h
theorem vreads_has {D : DataW Unit} (h : VReads D Vw.special) (t : List UInt8) : has D (.string t) = (Vw.val t).isSome := by
  rw [h.2.1]
  unfold Vw.val
  rw [Bool.eq_iff_iff, List.find?_isSome, List.any_eq_true]
theorem vreads_at {D : DataW Unit} (h : VReads D Vw.special) (t : List UInt8) (c : UInt8) (hc : Vw.val t = some c) (z : DataW Unit) : D.atKey (.string t) z = .lit (kB c) := by
  have := List.find?_some hc
  simp only [Bool.and_eq_true, beq_iff_eq] at this
  rw [← this.2]
  exact h.2.2.1 c this.1 z
theorem kB_same (c d : UInt8) : (kB c).sameKey (kB d) = (c == d) := by
  by_cases e : c = d
  · subst e; simp [Lit.sameKey]
  · rw [Maps.sameKey_ne (fun h => e (kB_inj h))]
    simp [e]
theorem upTo_index (l : List UInt8) : Lib.indexByte l 59 + 1 = (Vw.upTo l : Int) := by
  induction l with
  | nil => rfl
  | cons c r ih =>
    unfold Lib.indexByte Vw.upTo
    by_cases e : c = 59
    · subst e; simp
    · have e' : (c == 59) = false := by simpa using e
      rw [if_neg (by simp [e']), if_neg e]
      by_cases h0 : Vw.upTo r = 0
      · rw [h0] at ih
        have hi : Lib.indexByte r 59 = -1 := by omega
        rw [hi, if_pos (by decide), if_pos h0]
        rfl
      · have hi : ¬ (Lib.indexByte r 59 == -1) = true := by
          intro hc
          have := eq_of_beq hc
          omega
        rw [if_neg hi, if_neg h0]
        omega
theorem upTo_le (l : List UInt8) : Vw.upTo l ≤ l.length := by
  induction l with
  | nil => simp [Vw.upTo]
  | cons c r ih =>
    unfold Vw.upTo
    split
    · simp
    · split
      · simp
      · simp; omega
theorem val_nil : Vw.val [] = none := by decide +kernel
theorem law9 : Keyed Tryd.prog 9 := string_keyed Tryd.underlying9
theorem zero5 (w : World) : (zeroValue 5).run Tryd.prog w = .ok (.int .u8 0) w := by kernel_rfl

theorem uloop_plain (f : Nat) (acc : List UInt8) (c : UInt8) (r : List UInt8) (h : c ≠ 38) : Vw.uloop (f + 1) acc (c :: r) = Vw.uloop f (acc ++ [c]) r := by
  rw [Vw.uloop, if_pos h]
theorem uloop_some (f : Nat) (acc : List UInt8) (r : List UInt8) (d : UInt8) (h : Vw.val ((38 :: r).take (Vw.upTo (38 :: r))) = some d) : Vw.uloop (f + 1) acc (38 :: r) = Vw.uloop f (acc ++ [d]) ((38 :: r).drop (Vw.upTo (38 :: r))) := by
  rw [Vw.uloop, if_neg (by simp)]
  simp only [h]
theorem uloop_none (f : Nat) (acc : List UInt8) (r : List UInt8) (h : Vw.val ((38 :: r).take (Vw.upTo (38 :: r))) = none) : Vw.uloop (f + 1) acc (38 :: r) = none := by
  rw [Vw.uloop, if_neg (by simp)]
  simp only [h]
theorem uloop_end (f : Nat) (acc : List UInt8) : Vw.uloop f acc [] = some acc := by cases f <;> rfl

theorem drop_text (rb : ByteArray) (a : Nat) : (rb.extract a rb.size).data.toList = rb.data.toList.drop a := by
  rw [ByteArray.data_extract, Array.toList_extract, List.extract_eq_take_drop, List.take_of_length_le (by simp)]
theorem take_text (rb : ByteArray) (a : Nat) : (rb.extract 0 a).data.toList = rb.data.toList.take a := by
  rw [ByteArray.data_extract, Array.toList_extract, List.extract_eq_take_drop]
  simp
/-- a builder that may have been read -/
def IsBF (X : World) (L : List Obj) (d : Nat) (bs : List UInt8) : Prop := Lib.IsBuilderF 48 5 X.heap.size X.heap.size (Lib.byteCells bs) (X.more L d)
theorem IsB.toF {X : World} {L : List Obj} {d : Nat} {bs : List UInt8} (h : IsB X L d bs) : IsBF X L d bs := Lib.IsBuilderF.of h
theorem atF_below {B b : Nat} {p : Value} {bs : List Value} {W W' : World} (h : Lib.BuilderAtF 48 5 B b p bs W) (hb : Below W.heap.size W W') : Lib.BuilderAtF 48 5 B b p bs W' := by
  have hl := h.lt
  obtain ⟨h1, v, h2, h3, h4⟩ := h
  refine ⟨h1, v, (hb.block b hl).trans h2, ?_, h4⟩
  exact h3.kept (row := none) ⟨hb.os, hb.tape, hb.output, hb.size, fun k hk _ => hb.block k hk⟩ (Classical.em _)
theorem IsBF.below {X W' : World} {L : List Obj} {d : Nat} {bs : List UInt8} (h : IsBF X L d bs) (hb : Below (X.more L d).heap.size (X.more L d) W') : ∃ L' d', W' = X.more L' d' ∧ IsBF X L' d' bs := by
  obtain ⟨L', d', rfl⟩ := below_of_more (hb.mono (by rw [World.more_size]; omega))
  exact ⟨L', d', rfl, h.elim (fun x => .inl (atF_below x hb)) (fun x => .inr (atF_below x hb))⟩
theorem b_stringF (X : World) (L : List Obj) (d : Nat) (bs : List UInt8) (h : IsBF X L d bs) :
    Calls Tryd.prog 15 #[.pointer (some ⟨X.heap.size, 0, none⟩)] (X.more L d) fun e w' => e = .returned (.string ⟨bs.toArray⟩) ∧ ∃ L' d', w' = X.more L' d' ∧ IsBF X L' d' bs := by
  refine (Tryd.Builder_String_any_f _ _ _ _ h (by simp [World.more_size])).mono ?_
  rintro e w' ⟨he, hf, hbel⟩
  obtain ⟨L', d', rfl⟩ := below_of_more hbel
  exact ⟨he, L', d', rfl, hf⟩
def strLen : Value → Nat
  | .string t => t.size
  | _ => 0

theorem byte_of {dd : UInt8} {cv : Int} (h : (DataW.lit (kB dd) : DataW Unit) = .lit (.int .u8 cv)) : cv = dd.toNat := by
  simp only [DataW.lit.injEq, kB, Lit.int.injEq, true_and] at h
  exact h.symm
theorem unescape_any (s : ByteArray) (hs : s.size ≤ 100000) (w : World) :
    Calls Tryd.prog 6 #[.string s] w fun e w' => e = .returned (.tuple #[.string ⟨(Vw.unesc s.data.toList).1.toArray⟩, .bool (Vw.unesc s.data.toList).2]) ∧ Below w.heap.size w w' := by
  have hx := idx_special s
  by_cases hany : s.data.toList.any Vw.special = false
  · rw [hany] at hx
    simp only [Bool.not_false] at hx
    have hu : Vw.unesc s.data.toList = (s.data.toList, true) := by unfold Vw.unesc; rw [if_pos hany]
    rw [hu]
    go_enter Tryd.func6, Tryd.ntmps6
    go_wp2_with (go_at_call 10; refine (indexFunc_any s _).mono ?_; rintro e w' ⟨rfl, hb⟩)
    refine bodyPost_ret (v := .tuple #[.string s, .bool true]) (by simp [results, Tryd.results6, go_sem]) rfl ⟨rfl, hb⟩
  have hany' : s.data.toList.any Vw.special = true := by simpa using hany
  rw [hany'] at hx
  simp only [Bool.not_true] at hx
  have hunN : Vw.uloop s.data.toList.length [] s.data.toList = none → Vw.unesc s.data.toList = ([], false) := by
    intro h; rw [Vw.unesc, if_neg hany, h]
  have hunY : ∀ b, Vw.uloop s.data.toList.length [] s.data.toList = some b → Vw.unesc s.data.toList = if Vw.esc b = s.data.toList then (b, true) else ([], false) := by
    intro b h; rw [Vw.unesc, if_neg hany, h]
  have HN := Lib.hid hunN
  have HY := Lib.hid hunY
  clear hunN hunY hany hany'
  have hmm := @run_makeMap Tryd.prog
  go_enter Tryd.func6, Tryd.ntmps6
  go_wp2_with (first
    | (go_at_call 10; refine (indexFunc_any s _).mono ?_; rintro e w1 ⟨rfl, hb1⟩)
    | (go_at_call 12; refine (escapes_any _).mono ?_; rintro e w2 ⟨rfl, hmap, hb2⟩; rw [World.size_alloc] at hmap hb2; obtain ⟨D, hown, hrd⟩ := hmap)
    | (at_range; refine wpList_range_own _ rfl _ 43 rfl 5 9 law5 Tryd.underlying43 _ _ 37 _ rfl hown ?_; intro w3 hrg3 hg3 hs3))
  go_frame
  have hml := hown.lt
  have hr0 := hrd.1
  have hB3 : Below w.heap.size w w3 := by
    have b1 := (hb1.trans ((Below.refl _ _).alloc hb1.size (.map #[] 0)))
    have b2 := b1.trans (hb2.mono (by have := hb1.size; omega))
    exact b2.grown hg3 b2.size (fun j hj => by cases hj)
  have hv3 : w3.ownsMap Tryd.prog 9 (plainElem (H := Unit) Tryd.prog 5) w1.heap.size 0 (.map []) := by
    have h0 := World.ownsMap_made (H := Unit) w1 Tryd.prog 9 (plainElem Tryd.prog 5)
    have hlt0 := h0.lt
    obtain ⟨es, clock, hb, F⟩ := h0
    have h2 : w2.ownsMap Tryd.prog 9 (plainElem (H := Unit) Tryd.prog 5) w1.heap.size 0 (.map []) := ⟨es, clock, (hb2.block _ (by omega)).trans hb, F⟩
    exact h2.kept hg3 (by simp)
  have hszD := hown.size_le
  have hne1 : some w1.heap.size ≠ some w2.heap.size := by intro h; have := Option.some.inj h; omega
  have hne2 : some (w1.heap.size + 1) ≠ some w1.heap.size := by intro h; have := Option.some.inj h; omega
  have hvw : w.heap.size ≤ w1.heap.size := hb1.size
  generalize hvb : w1.heap.size = vb at *
  generalize hrb : w2.heap.size = ri at *
  clear hb1 hb2 hown hg3 hmm
  go_loopw [5] (fun _ wr => ∃ (left : Lit → Bool) (cnt : Nat) (DV : DataW Unit), wr.ranges Tryd.prog 5 (plainElem Tryd.prog 9) (vb + 1) ri 37 D left cnt ∧ cnt ≤ 37 ∧
      wr.ownsMap Tryd.prog 9 (plainElem Tryd.prog 5) vb (37 - cnt) DV ∧ VReads DV (fun c => Vw.special c && !left (kB c)) ∧ (∀ kl, left kl = true → has D kl = true) ∧ Below w.heap.size w wr)
    (fun _ wr => wr.rangeLeft (vb + 1) ri)
  case atStart =>
    refine ⟨_, _, .map [], hrg3, hszD, hv3.mono (Nat.zero_le _), vreads_congr vreads_start (fun c => ?_), fun kl h => h, hB3⟩
    rw [hrd.2.1 c]
    cases Vw.special c <;> rfl
  case round =>
    obtain ⟨left, cnt, DV, hrg, hcs, hout, hV, hL, hnx⟩ := hrel
    go_wp2_with (first
      | (at_next; refine wpList_next_ranges_is _ rfl _ rfl 5 9 .u8 law5 Tryd.underlying5 Tryd.underlying9 (vb + 1) ri 37 _ _ _ rfl hrg ?_ ?_)
      | go_in)
    · intro hc0 hl0
      have hV' := vreads_congr hV (Q' := Vw.special) (fun c => by rw [hl0]; simp)
      clear hV hL hrg hrg3 hB3 hv3 hrd hr0
      go_wp2
      have hdl : wr.heap.size = wr.heap.size := rfl
      have HX := Lib.hid hnx
      clear hnx hdl
      go_loopw [8] (fun rv wl => ∃ (acc : List UInt8) (rb : ByteArray) (L : List Obj) (d f : Nat), rv = .string rb ∧ wl = wr.more L d ∧ IsB wr L d acc ∧ rb.size ≤ f ∧
          Vw.uloop f acc rb.data.toList = Vw.uloop s.data.toList.length [] s.data.toList ∧ acc.length + rb.size ≤ s.size)
        (fun rv _ => strLen rv)
      case atStart => exact ⟨[], s, _, _, s.data.toList.length, rfl, alloc_more _ _, isB_new wr, by simp, rfl, by simp⟩
      case round =>
        obtain ⟨acc, rb, L, d, f, rfl, rfl, hB, hf, hU, hsz⟩ := hrel
        have hdt := drop_text rb
        have htt := take_text rb
        have hlen : rb.data.toList.length = rb.size := by simp
        have hout2 := ownsMap_more hout L d
        by_cases hz : rb.size = 0
        · have hl0 : rb.data.toList = [] := List.eq_nil_of_length_eq_zero (by omega)
          have hemp : (!rb.toList.isEmpty) = false := by rw [Lib.toList_data, hl0]; rfl
          rw [hl0, uloop_end] at hU
          have hY := HY.out acc hU.symm
          have hBF := hB.toF
          have hsz0 : (⟨acc.toArray⟩ : ByteArray).size ≤ 1000000 := by
            show acc.toArray.size ≤ _
            rw [List.size_toArray]
            omega
          have hesc := escape_any ⟨acc.toArray⟩ hsz0
          by_cases hes : Vw.esc acc = s.data.toList
          · rw [if_pos hes] at hY
            go_wp2_with (first
              | (go_at_call 15; refine (b_stringF wr L d acc hBF).mono ?_; rintro e w' ⟨rfl, L2, d2, rfl, hB2⟩)
              | (go_at_call 5; refine (hesc _).mono ?_; rintro e w' ⟨rfl, hbe⟩; obtain ⟨L3, d3, rfl, hB3⟩ := hB2.below hbe)
              | (go_at_call 15; refine (b_stringF wr L3 d3 acc hB3).mono ?_; rintro e w' ⟨rfl, L4, d4, rfl, hB4⟩)
              | go_in)
            refine bodyPost_ret (v := .tuple #[.string ⟨acc.toArray⟩, .bool true]) (by simp [results, Tryd.results6, go_sem]) rfl ⟨by rw [hY], HX.out.mored _ _ _ HX.out.size⟩
          · rw [if_neg hes] at hY
            have hes2 : (!Vw.esc acc == s.toList) = true := by
              rw [Lib.toList_data]
              simpa using hes
            go_wp2_with (first
              | (go_at_call 15; refine (b_stringF wr L d acc hBF).mono ?_; rintro e w' ⟨rfl, L2, d2, rfl, hB2⟩)
              | (go_at_call 5; refine (hesc _).mono ?_; rintro e w' ⟨rfl, hbe⟩; obtain ⟨L3, d3, rfl, hB3⟩ := hB2.below hbe)
              | go_in)
            refine bodyPost_ret (v := .tuple #[.string ⟨#[]⟩, .bool false]) (by simp [results, Tryd.results6, go_sem]) rfl ⟨by rw [hY], HX.out.mored _ _ _ HX.out.size⟩
        · obtain ⟨c, r, hcr⟩ : ∃ c r, rb.data.toList = c :: r := by
            cases h : rb.data.toList with
            | nil => rw [h] at hlen; simp at hlen; omega
            | cons c r => exact ⟨c, r, rfl⟩
          have h0 : 0 < rb.size := by omega
          have hat : rb[0]'h0 = c := by
            have := getD_at rb 0 h0
            rw [hcr] at this
            simpa using this.symm
          obtain ⟨f, rfl⟩ : ∃ g, f = g + 1 := ⟨f - 1, by omega⟩
          have hne : (!rb.toList.isEmpty) = true := by rw [Lib.toList_data, hcr]; rfl
          have hdrop1 : (rb.extract 1 rb.size).data.toList = r := by rw [hdt, hcr]; rfl
          have hsz1 : (rb.extract 1 rb.size).size = rb.size - 1 := by simp
          have hU0 := hU
          rw [hcr] at hU
          have hm1 : (rb.size : Int) ≤ 9223372036854775807 := by omega
          have hi1 : (0 : Int) < (rb.size : Int) := by omega
          by_cases hc : c = 38
          · subst hc
            have hc2 : (((38 : UInt8).toNat : Int) != 38) = false := by decide
            have hup := upTo_index rb.data.toList
            have hle := upTo_le rb.data.toList
            rw [hcr] at hup hle
            generalize hu : Vw.upTo (38 :: r) = u at *
            have hul : u ≤ rb.size := by rw [← hlen, hcr]; exact hle
            have hix : Lib.indexByte (38 :: r) 59 = (u : Int) - 1 := by omega
            have htt1 := htt u
            rw [hcr] at htt1
            have hdt1 := hdt u
            rw [hcr] at hdt1
            have hkey := WideMaps.keyOf_string_mk (P := Tryd.prog) (k := 9) Tryd.underlying9 (s := rb.extract 0 u) (by unfold maxLen; simp; omega)
            rw [htt1] at hkey
            have hhas := vreads_has hV' ((38 :: r).take u)
            have hav := vreads_at hV' ((38 :: r).take u)
            cases hval : Vw.val ((38 :: r).take u) with
            | none =>
              rw [hval] at hhas
              have hnone := uloop_none f acc r (by rw [hu]; exact hval)
              rw [hnone] at hU
              have hN := HN.out hU.symm
              go_wp2_with (first
                | (go_at_call 16; refine (Tryd.strings_IndexByte _ _ _).mono ?_; rintro e w' ⟨rfl, rfl⟩; rw [hcr, show ((59 : Int).toNat.toUInt8) = 59 from rfl, hix])
                | (at_lookup; refine wpList_lookup_own_ok_int _ rfl _ _ 55 rfl 9 5 .u8 law9 Tryd.underlying55 Tryd.underlying5 (zero5 _) vb _ DV rfl hout2 _ _ rfl hkey ?_; intro cv hcv hwcv; rw [hhas])
                | go_in)
              refine bodyPost_ret (v := .tuple #[.string ⟨#[]⟩, .bool false]) (by simp [results, Tryd.results6, go_sem]) rfl ⟨by rw [hN], HX.out.mored _ _ _ HX.out.size⟩
            | some dd =>
              rw [hval] at hhas
              have hav' := hav dd hval (.lit (.int .u8 0))
              have hsm := uloop_some f acc r dd (by rw [hu]; exact hval)
              rw [hu] at hsm
              rw [hsm] at hU
              have hu1 : 1 ≤ u := by
                rcases Nat.eq_zero_or_pos u with e | e
                · rw [e, List.take_zero, val_nil] at hval; cases hval
                · exact e
              have hszu : (rb.extract u rb.size).size = rb.size - u := by simp
              go_wp2_with (first
                | (go_at_call 16; refine (Tryd.strings_IndexByte _ _ _).mono ?_; rintro e w' ⟨rfl, rfl⟩; rw [hcr, show ((59 : Int).toNat.toUInt8) = 59 from rfl, hix])
                | (at_lookup; refine wpList_lookup_own_ok_int _ rfl _ _ 55 rfl 9 5 .u8 law9 Tryd.underlying55 Tryd.underlying5 (zero5 _) vb _ DV rfl hout2 _ _ rfl hkey ?_; intro cv hcv hwcv; rw [hhas]; rw [hav'] at hcv; obtain rfl := byte_of hcv; clear hcv hwcv)
                | (go_at_call 14; refine (b_writeByte wr L d _ dd hB (by omega)).mono ?_; rintro e w' ⟨rfl, L2, d2, rfl, hB2⟩)
                | go_in)
              go_roundw
              case rel => exact ⟨acc ++ [dd], rb.extract u rb.size, L2, d2, f, rfl, rfl, hB2, by omega, by rw [hdt1]; exact hU, by simp; omega⟩
              case measure => simp [strLen]; omega
          · have hc2 : ((c.toNat : Int) != 38) = true := by
              simp only [bne_iff_ne, ne_eq]
              intro h
              exact hc (UInt8.toNat.inj (by show c.toNat = 38; omega))
            rw [uloop_plain _ _ _ _ hc] at hU
            go_wp2_with (first
              | (go_at_call 14; refine (b_writeByte wr L d _ c hB (by omega)).mono ?_; rintro e w' ⟨rfl, L2, d2, rfl, hB2⟩)
              | go_in)
            go_roundw
            case rel => exact ⟨acc ++ [c], rb.extract 1 rb.size, L2, d2, f, rfl, rfl, hB2, by omega, by rw [hdrop1]; exact hU, by simp; omega⟩
            case measure => simp [strLen]; omega
    · intro x c w4 cnt1 hwx hwc hlx hat hrg4 hlt hg4 hs4 hen
      have hout1 := hout.kept hg4 hne1
      have hD := hL _ hlx
      obtain ⟨c0, rfl⟩ : ∃ c0 : UInt8, x = (c0.toNat : Int) := by
        refine ⟨UInt8.ofNat x.toNat, ?_⟩
        simp [Lit.wf] at hwx
        have h1 : IntKind.u8.min = 0 := rfl
        have h2 : IntKind.u8.max = 255 := rfl
        rw [h1, h2] at hwx
        rw [UInt8.toNat_ofNat']
        omega
      have hsp : Vw.special c0 = true := by rw [← hrd.2.1 c0]; exact hD
      have htx : c.data.toList = Vw.escB c0 := by
        have h1 := hat (.lit (.string []))
        rw [hrd.2.2 c0 hsp] at h1
        simp only [DataW.lit.injEq, Lit.string.injEq] at h1
        exact h1.symm
      have hkey := WideMaps.keyOf_string_mk (P := Tryd.prog) (k := 9) Tryd.underlying9 hwc
      rw [htx] at hkey
      go_wp2_with (first
        | (at_mapUpdate; refine wpList_mapUpdate_own _ rfl _ _ _ 55 rfl 9 5 law9 Tryd.underlying55 _ vb _ _ rfl hout1 (by unfold maxLen; omega) _ _ _ rfl rfl hkey _ [] (plainElem_int Tryd.underlying5 hwx) ?_; intro w5 hout2 hg5; go_frame)
        | go_in)
      have hrg5 := hrg4.kept hg5 hne2 (fun e => hne1 e.symm)
      go_roundw
      case rel =>
        exact ⟨_, cnt1, _, hrg5, by omega, hout2.mono (by omega), vreads_congr (vreads_put hV c0 hsp) (fun c => by
            show (Vw.special c && !left (kB c) || c == c0) = (Vw.special c && !(left (kB c) && !(kB c).sameKey (kB c0)))
            rw [kB_same]
            by_cases e : c = c0
            · subst e; simp [hsp]
            · have : (c == c0) = false := by simpa using e
              simp [this]),
          fun kl h => hL kl (by
            simp only [Bool.and_eq_true] at h
            exact h.1),
          (hnx.grown hg4 hnx.size (fun j hj => by cases hj; omega)).grown hg5 (by have := hnx.size; omega) (fun j hj => by cases hj; omega)⟩
      case measure => rw [hrg5.left_eq, hrg.left_eq]; exact hlt
end Go.Proofs.YteipljggjegpoaaDoor
