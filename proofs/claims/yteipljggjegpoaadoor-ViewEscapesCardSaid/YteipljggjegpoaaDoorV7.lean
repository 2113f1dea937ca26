import Derived.Test.YteipljggjegpoaaDoorV6
import Derived.OwnWalk
import Derived.Laws.AppendOwn
import Derived.Maps.AppendAt
namespace Go.Proofs.YteipljggjegpoaaDoor
set_option linter.unusedVariables false
set_option linter.unusedSimpArgs false
open Go.RowKit Go.Lib Go.Maps
set_option maxHeartbeats 4000000
set_option maxRecDepth 100000

theorem escC (s t : ByteArray) (hs : s.size ≤ 1000000) (h : (⟨(Vw.esc s.data.toList).toArray⟩ : ByteArray) = t) (w : World) :
    Calls Tryd.prog 5 #[.string s] w fun e w' => e = .returned (.string t) ∧ Below w.heap.size w w' := by
  rw [← h]; exact escape_any s hs w
theorem decC (n : Nat) (t : ByteArray) (hn : n < 100) (h : (⟨(decDigits n).toArray⟩ : ByteArray) = t) (w : World) :
    Calls Tryd.prog 28 #[.int .i64 n] w fun e w' => e = .returned (.string t) ∧ w' = w := by
  rw [← h]; exact decimal_small n hn w


def vMsg (bl ol cl bi oi ci : Nat) : Value := .agg #[.string ⟨#[105]⟩, .string ⟨#[]⟩, .string ⟨#[]⟩, .int .i64 0, .int .i64 0, .slice (some ⟨bl, ol, none⟩) 2 cl, .string ⟨#[]⟩, .slice (some ⟨bi, oi, none⟩) 2 ci]

/-- the class of the worlds in the midst of the first statement of lines -/
def CM (X : World) (acc : List UInt8) (w' : World) : Prop := ∃ L d, w' = X.more L d ∧ IsBF X L d acc

theorem CM.esc {X : World} {acc : List UInt8} {w1 : World} (h : CM X acc w1) (s t : ByteArray) (hs : s.size ≤ 1000000) (he : (⟨(Vw.esc s.data.toList).toArray⟩ : ByteArray) = t) :
    Calls Tryd.prog 5 #[.string s] w1 fun e w' => e = .returned (.string t) ∧ CM X acc w' := by
  obtain ⟨L, d, rfl, hB⟩ := h
  refine (escC s t hs he _).mono ?_
  rintro e w' ⟨h1, h2⟩
  obtain ⟨L', d', h3, h4⟩ := hB.below h2
  exact ⟨h1, L', d', h3, h4⟩
theorem CM.hex {X : World} {acc : List UInt8} {w1 : World} (h : CM X acc w1) :
    Calls Tryd.prog 29 #[.string ⟨#[]⟩] w1 fun e w' => e = .returned (.string ⟨#[]⟩) ∧ CM X acc w' := by
  obtain ⟨L, d, rfl, hB⟩ := h
  refine (hex_empty _).mono ?_
  rintro e w' ⟨h1, h2⟩
  obtain ⟨L', d', h3, h4⟩ := hB.below h2
  exact ⟨h1, L', d', h3, h4⟩
theorem CM.str {X : World} {acc : List UInt8} {w1 : World} (h : CM X acc w1) :
    Calls Tryd.prog 15 #[.pointer (some ⟨X.heap.size, 0, none⟩)] w1 fun e w' => e = .returned (.string ⟨acc.toArray⟩) ∧ CM X acc w' := by
  obtain ⟨L, d, rfl, hB⟩ := h
  refine (b_stringF X L d acc hB).mono ?_
  rintro e w' ⟨h1, L', d', h3, h4⟩
  exact ⟨h1, L', d', h3, h4⟩
theorem CM.dec {X : World} {acc : List UInt8} {w1 : World} (h : CM X acc w1) :
    Calls Tryd.prog 28 #[.int .i64 0] w1 fun e w' => e = .returned (.string ⟨#[48]⟩) ∧ CM X acc w' := by
  refine (decC 0 ⟨#[48]⟩ (by omega) (by kernel_rfl) w1).mono ?_
  rintro e w' ⟨h1, rfl⟩
  exact ⟨h1, h⟩

/-- worlds that have grown from Y -/
def CQ (Y w' : World) : Prop := ∃ L d, w' = Y.more L d
theorem CQ.start (Y : World) : CQ Y Y.drew := ⟨[], _, World.drewN_eq_more Y 1⟩
theorem CQ.hexs {Y w1 : World} (h : CQ Y w1) : Calls Tryd.prog 29 #[.string ⟨#[115]⟩] w1 fun e w' => e = .returned (.string ⟨#[55, 51]⟩) ∧ CQ Y w' := by
  obtain ⟨L, d, rfl⟩ := h
  refine (hex_s _).mono ?_
  rintro e w' ⟨h1, h2⟩
  exact ⟨h1, below_of_more (h2.mono (by rw [World.more_size]; omega))⟩
theorem CQ.esc {Y w1 : World} (h : CQ Y w1) (s t : ByteArray) (hs : s.size ≤ 1000000) (he : (⟨(Vw.esc s.data.toList).toArray⟩ : ByteArray) = t) :
    Calls Tryd.prog 5 #[.string s] w1 fun e w' => e = .returned (.string t) ∧ CQ Y w' := by
  obtain ⟨L, d, rfl⟩ := h
  refine (escC s t hs he _).mono ?_
  rintro e w' ⟨h1, h2⟩
  exact ⟨h1, below_of_more (h2.mono (by rw [World.more_size]; omega))⟩
theorem ownsRow_more {w : World} {B e size n : Nat} {v : Value} {xs : List Value} (h : w.ownsRow B e size v n xs) (L : List Obj) (d : Nat) : (w.more L d).ownsRow B e size v n xs :=
  h.kept (row := none) ⟨rfl, rfl, rfl, by rw [World.more_size]; omega, fun k hk _ => World.more_heap w L d k hk⟩ (Classical.em _)
theorem strInfo : (Tryd.prog.info? 9).map (fun i => (i.zero, i.size, i.bytes)) = some (some (.string ⟨#[]⟩), 1, 16) := by kernel_rfl
theorem lines_of_own {w : World} {B : Nat} {v : Value} {ls : List ByteArray} (h : w.ownsRow B 9 1 v ls.length (ls.map Value.string)) (hne : 0 < ls.length) : ∃ g cap, v = .slice (some ⟨g, 0, none⟩) ls.length cap ∧ Lines w g 0 ls := by
  obtain ⟨h1, h2 | ⟨g, cap, cur, hv, hg, hh, hc1, hc2, hc3, hc4⟩⟩ := h
  · omega
  · refine ⟨g, cap, hv, ?_, fun j hj => ?_⟩
    · rcases Nat.lt_or_ge g w.heap.size with h | h
      · exact h
      · rw [Array.getElem?_eq_none h] at hh; cases hh
    · have h3 := congrArg (fun l => l[j]?) hc4
      simp only [Nat.mul_one] at h3
      rw [List.getElem?_take_of_lt hj, List.getElem?_map, List.getElem?_eq_getElem hj] at h3
      simp only [World.cell?, hh, Nat.zero_add]
      simpa using h3

theorem message_const (bl ol cl bi oi ci : Nat) (w : World) (hbl : bl < w.heap.size) (hbi : bi < w.heap.size)
    (hl0 : w.cell? ⟨bl, ol, none⟩ = some (.bool false)) (hl1 : w.cell? ⟨bl, ol + 1, none⟩ = some (.string ⟨#[115]⟩)) (hl2 : w.cell? ⟨bl, ol + 2, none⟩ = some (.string ⟨#[60]⟩)) (hl3 : w.cell? ⟨bl, ol + 3, none⟩ = some (.string ⟨#[]⟩))
    (hl4 : w.cell? ⟨bl, ol + 4, none⟩ = some (.bool true)) (hl5 : w.cell? ⟨bl, ol + 5, none⟩ = some (.string ⟨#[]⟩)) (hl6 : w.cell? ⟨bl, ol + 6, none⟩ = some (.string ⟨#[]⟩)) (hl7 : w.cell? ⟨bl, ol + 7, none⟩ = some (.string ⟨#[104]⟩))
    (hi0 : w.cell? ⟨bi, oi, none⟩ = some (.int .i64 1)) (hi1 : w.cell? ⟨bi, oi + 1, none⟩ = some (.int .i64 2)) :
    Calls Tryd.prog 9 #[vMsg bl ol cl bi oi ci] w fun e w' => e = .returned (.string ⟨(unl [⟨#[109, 101, 115, 115, 97, 103, 101, 32, 105]⟩, ⟨#[102, 114, 111, 109, 32]⟩, ⟨#[115, 117, 98, 106, 101, 99, 116, 32]⟩, ⟨#[100, 97, 116, 101, 32, 48]⟩, ⟨#[115, 116, 97, 116, 101, 32, 48]⟩, ⟨#[108, 105, 115, 116, 115, 32, 49, 32, 50]⟩, ⟨#[99, 111, 109, 109, 105, 116, 32]⟩, ⟨#[43, 55, 51, 32, 38, 108, 116, 59]⟩, ⟨#[45, 54, 56]⟩, ⟨#[101, 110, 100]⟩]).toArray⟩) ∧ Below w.heap.size w w' := by
  unfold vMsg
  obtain ⟨X, hX⟩ : ∃ X, X = w.alloc (.cells #[.string ⟨#[105]⟩, .string ⟨#[]⟩, .string ⟨#[]⟩, .int .i64 0, .int .i64 0, .slice (some ⟨bl, ol, none⟩) 2 cl, .string ⟨#[]⟩, .slice (some ⟨bi, oi, none⟩) 2 ci] 34) := ⟨_, rfl⟩
  have hXs : X.heap.size = w.heap.size + 1 := by rw [hX, World.size_alloc]
  have hXb : Below w.heap.size w X := by rw [hX]; exact (Below.refl _ _).alloc (Nat.le_refl _) _
  have c0 : X.cell? ⟨w.heap.size, 0, none⟩ = some (.string ⟨#[105]⟩) := by rw [hX]; go_simp
  have c1 : X.cell? ⟨w.heap.size, 1, none⟩ = some (.string ⟨#[]⟩) := by rw [hX]; go_simp
  have c2 : X.cell? ⟨w.heap.size, 2, none⟩ = some (.string ⟨#[]⟩) := by rw [hX]; go_simp
  have c3 : X.cell? ⟨w.heap.size, 3, none⟩ = some (.int .i64 0) := by rw [hX]; go_simp
  have c4 : X.cell? ⟨w.heap.size, 4, none⟩ = some (.int .i64 0) := by rw [hX]; go_simp
  have c5 : X.cell? ⟨w.heap.size, 5, none⟩ = some (.slice (some ⟨bl, ol, none⟩) 2 cl) := by rw [hX]; go_simp
  have c6 : X.cell? ⟨w.heap.size, 6, none⟩ = some (.string ⟨#[]⟩) := by rw [hX]; go_simp
  have c7 : X.cell? ⟨w.heap.size, 7, none⟩ = some (.slice (some ⟨bi, oi, none⟩) 2 ci) := by rw [hX]; go_simp
  have m0 := (hXb.cell (p := ⟨bl, ol, none⟩) hbl).trans hl0
  have m1 := (hXb.cell (p := ⟨bl, ol + 1, none⟩) hbl).trans hl1
  have m2 := (hXb.cell (p := ⟨bl, ol + 2, none⟩) hbl).trans hl2
  have m3 := (hXb.cell (p := ⟨bl, ol + 3, none⟩) hbl).trans hl3
  have m4 := (hXb.cell (p := ⟨bl, ol + 4, none⟩) hbl).trans hl4
  have m5 := (hXb.cell (p := ⟨bl, ol + 5, none⟩) hbl).trans hl5
  have m6 := (hXb.cell (p := ⟨bl, ol + 6, none⟩) hbl).trans hl6
  have m7 := (hXb.cell (p := ⟨bl, ol + 7, none⟩) hbl).trans hl7
  have q0 := (hXb.cell (p := ⟨bi, oi, none⟩) hbi).trans hi0
  have q1 := (hXb.cell (p := ⟨bi, oi + 1, none⟩) hbi).trans hi1
  have lx : w.heap.size < X.heap.size := by omega
  have lbl : bl < X.heap.size := by omega
  have lbi : bi < X.heap.size := by omega
  clear hl0 hl1 hl2 hl3 hl4 hl5 hl6 hl7 hi0 hi1
  go_enter Tryd.func9, Tryd.ntmps9
  go_wp2_with (fail)
  rw [← hX, ← hXs, alloc_more]
  have HXb := Lib.hid hXb
  have HXs := Lib.hid hXs
  clear hX hXb hXs
  refine (b_writeString X _ _ [] _ (isB_new X) (by decide)).mono ?_
  rintro e w' ⟨rfl, L1, d1, rfl, hB1⟩
  go_wp2
  refine wp_loop_rounds 3 ?_
  rw [rounds_succ]
  go_wp2_with (first
    | (go_at_call 28; refine (decC 1 ⟨#[49]⟩ (by omega) (by kernel_rfl) _).mono ?_; rintro e w' ⟨rfl, rfl⟩)
    | (go_at_call 13; refine (b_writeString X L1 d1 _ _ hB1 (by decide)).mono ?_; rintro e w' ⟨rfl, L2, d2, rfl, hB2⟩)
    | go_in)
  rw [rounds_succ]
  go_wp2_with (first
    | (go_at_call 28; refine (decC 2 ⟨#[50]⟩ (by omega) (by kernel_rfl) _).mono ?_; rintro e w' ⟨rfl, rfl⟩)
    | (go_at_call 13; refine (b_writeString X L2 d2 _ _ hB2 (by decide)).mono ?_; rintro e w' ⟨rfl, L3, d3, rfl, hB3⟩)
    | go_in)
  rw [rounds_succ]
  go_wp2
  have eacc : ([] ++ [108, 105, 115, 116, 115] ++ ((⟨#[32]⟩ : ByteArray) ++ ⟨#[49]⟩).data.toList ++ ((⟨#[32]⟩ : ByteArray) ++ ⟨#[50]⟩).data.toList : List UInt8) = [108, 105, 115, 116, 115, 32, 49, 32, 50] := by decide +kernel
  replace hB3 : IsB X L3 d3 [108, 105, 115, 116, 115, 32, 49, 32, 50] := eacc ▸ hB3
  generalize hacc : ([108, 105, 115, 116, 115, 32, 49, 32, 50] : List UInt8) = acc at hB3
  have hC0 : CM X acc (X.more L3 d3).drew := hB3.toF.below ((Below.refl _ _).drew)
  refine wp_region_quiet_tail 25 (CM X acc) (by kernel_rfl) (by kernel_rfl) hC0 ?_
  simp only [List.take_succ_cons, List.take_zero, List.drop_succ_cons, List.drop_zero]
  clear hB1 hB2 hB3 hC0 eacc
  iterate 25 (refine wpQuiet_step (fun K hK => ?_); go_simp; first | (refine hK _ ?_; clear hK K) |
    (apply Exists.intro; refine ⟨fun _ => ?_, hK _ ?_⟩; ((intro hw; first
    | (go_at_call_of 5 (Value.string ⟨#[105]⟩); exact hw.esc ⟨#[105]⟩ ⟨#[105]⟩ (by decide) (by decide +kernel))
    | (go_at_call_of 5 (Value.string ⟨#[]⟩); exact hw.esc ⟨#[]⟩ ⟨#[]⟩ (by decide) (by decide +kernel))
    | (go_at_call 28; exact hw.dec)
    | (go_at_call 15; exact hw.str)
    | (go_at_call 29; exact hw.hex)
    | (obtain ⟨L, d, rfl, hB⟩ := hw; (try go_simp); with_reducible rfl))); clear hK K))
  refine wpQuiet_nil ?_
  rintro w2 ⟨L, d, rfl, hB⟩
  clear hB
  go_wp2
  rw [show ((⟨#[109, 101, 115, 115, 97, 103, 101, 32]⟩ : ByteArray) ++ ⟨#[105]⟩) = ⟨#[109, 101, 115, 115, 97, 103, 101, 32, 105]⟩ by kernel_rfl,
    show ((⟨#[102, 114, 111, 109, 32]⟩ : ByteArray) ++ ⟨#[]⟩) = ⟨#[102, 114, 111, 109, 32]⟩ by kernel_rfl,
    show ((⟨#[115, 117, 98, 106, 101, 99, 116, 32]⟩ : ByteArray) ++ ⟨#[]⟩) = ⟨#[115, 117, 98, 106, 101, 99, 116, 32]⟩ by kernel_rfl,
    show ((⟨#[100, 97, 116, 101, 32]⟩ : ByteArray) ++ ⟨#[48]⟩) = ⟨#[100, 97, 116, 101, 32, 48]⟩ by kernel_rfl,
    show ((⟨#[115, 116, 97, 116, 101, 32]⟩ : ByteArray) ++ ⟨#[48]⟩) = ⟨#[115, 116, 97, 116, 101, 32, 48]⟩ by kernel_rfl,
    show ((⟨#[99, 111, 109, 109, 105, 116, 32]⟩ : ByteArray) ++ ⟨#[]⟩) = ⟨#[99, 111, 109, 109, 105, 116, 32]⟩ by kernel_rfl]
  rw [← hacc, show ((⟨[108, 105, 115, 116, 115, 32, 49, 32, 50].toArray⟩ : ByteArray)) = ⟨#[108, 105, 115, 116, 115, 32, 49, 32, 50]⟩ by kernel_rfl]
  have hown0 : ((X.more L d).alloc (.cells #[.string ⟨#[109, 101, 115, 115, 97, 103, 101, 32, 105]⟩, .string ⟨#[102, 114, 111, 109, 32]⟩, .string ⟨#[115, 117, 98, 106, 101, 99, 116, 32]⟩, .string ⟨#[100, 97, 116, 101, 32, 48]⟩, .string ⟨#[115, 116, 97, 116, 101, 32, 48]⟩, .string ⟨#[108, 105, 115, 116, 115, 32, 49, 32, 50]⟩, .string ⟨#[99, 111, 109, 109, 105, 116, 32]⟩] 9)).ownsRow X.heap.size 9 1 (.slice (some ⟨X.heap.size + L.length, 0, none⟩) 7 7) 7 [.string ⟨#[109, 101, 115, 115, 97, 103, 101, 32, 105]⟩, .string ⟨#[102, 114, 111, 109, 32]⟩, .string ⟨#[115, 117, 98, 106, 101, 99, 116, 32]⟩, .string ⟨#[100, 97, 116, 101, 32, 48]⟩, .string ⟨#[115, 116, 97, 116, 101, 32, 48]⟩, .string ⟨#[108, 105, 115, 116, 115, 32, 49, 32, 50]⟩, .string ⟨#[99, 111, 109, 109, 105, 116, 32]⟩] := by
    refine ⟨rfl, .inr ⟨X.heap.size + L.length, 7, #[.string ⟨#[109, 101, 115, 115, 97, 103, 101, 32, 105]⟩, .string ⟨#[102, 114, 111, 109, 32]⟩, .string ⟨#[115, 117, 98, 106, 101, 99, 116, 32]⟩, .string ⟨#[100, 97, 116, 101, 32, 48]⟩, .string ⟨#[115, 116, 97, 116, 101, 32, 48]⟩, .string ⟨#[108, 105, 115, 116, 115, 32, 49, 32, 50]⟩, .string ⟨#[99, 111, 109, 109, 105, 116, 32]⟩], rfl, by omega, ?_, by omega, by decide, rfl, rfl⟩⟩
    have := (MapKept.heap_alloc (X.more L d) (.cells #[.string ⟨#[109, 101, 115, 115, 97, 103, 101, 32, 105]⟩, .string ⟨#[102, 114, 111, 109, 32]⟩, .string ⟨#[115, 117, 98, 106, 101, 99, 116, 32]⟩, .string ⟨#[100, 97, 116, 101, 32, 48]⟩, .string ⟨#[115, 116, 97, 116, 101, 32, 48]⟩, .string ⟨#[108, 105, 115, 116, 115, 32, 49, 32, 50]⟩, .string ⟨#[99, 111, 109, 109, 105, 116, 32]⟩] 9)).1
    rwa [World.more_size] at this
  rw [World.more_alloc] at hown0 ⊢
  generalize Value.slice (some ⟨X.heap.size + L.length, 0, none⟩) 7 7 = v6 at hown0 ⊢
  have HO := Lib.hid hown0
  generalize L ++ [Obj.cells #[Value.string ⟨#[109, 101, 115, 115, 97, 103, 101, 32, 105]⟩, .string ⟨#[102, 114, 111, 109, 32]⟩, .string ⟨#[115, 117, 98, 106, 101, 99, 116, 32]⟩, .string ⟨#[100, 97, 116, 101, 32, 48]⟩, .string ⟨#[115, 116, 97, 116, 101, 32, 48]⟩, .string ⟨#[108, 105, 115, 116, 115, 32, 49, 32, 50]⟩, .string ⟨#[99, 111, 109, 109, 105, 116, 32]⟩] 9] = L7 at HO ⊢
  clear hown0 hacc c0 c1 c2 c3 c4 c6 q0 q1
  refine wp_loop_rounds 3 ?_
  rw [rounds_succ]
  go_wp2
  refine wp_region_move_tail 9 (CQ _) (Operand.tmp 6) rfl rfl (by kernel_rfl) (by kernel_rfl) (CQ.start _) (fun c a v w h => h) ?_
  simp only [List.take_succ_cons, List.take_zero, List.drop_succ_cons, List.drop_zero]
  iterate 9 (refine wpQuiet_step (fun K hK => ?_); go_simp; first | (refine hK _ ?_; clear hK K) |
    (apply Exists.intro; refine ⟨fun _ => ?_, hK _ ?_⟩; ((intro hw; first
    | (go_at_call 29; exact hw.hexs)
    | (go_at_call 5; exact hw.esc ⟨#[60]⟩ ⟨#[38, 108, 116, 59]⟩ (by decide) (by decide +kernel))
    | (obtain ⟨L, d, rfl⟩ := hw; (try go_simp); with_reducible rfl))); clear hK K))
  refine wpQuiet_nil ?_
  rintro w3 ⟨L8, d8, rfl⟩
  obtain ⟨i0, hi0, hz0, hz1, hz2⟩ := info_parts strInfo
  go_wp2_with (at_builtin; go_loud (refine wpList_append_own _ rfl _ _ 60 rfl X.heap.size 9 i0 (.string ⟨#[]⟩) 1 16 Tryd.underlying60 hi0 hz0 hz1 hz2 rfl (by omega) v6 7 _ rfl (World.ownsRow.alloc (ownsRow_more (World.ownsRow.alloc HO.out _) _ _) _) ⟨X.heap.size + L7.length + 1 + L8.length, 0, none⟩ 1 1 [.string ((⟨#[43]⟩ : ByteArray) ++ ⟨#[55, 51]⟩ ++ ⟨#[32]⟩ ++ ⟨#[38, 108, 116, 59]⟩)] rfl rfl ?a1 ?a2 ?a3 ?a4 ?a5 ?_))
  case a1 =>
    intro j u hj
    match j, hj with
    | 0, hj => simp at hj; subst hj; simp [Addr.add, go_sem]
  case a2 => intro u hu; simp at hu; subst hu; rfl
  case a3 => decide
  case a4 => omega
  case a5 => simp only [World.more_size, World.size_alloc]; omega
  intro v7 w1 hown1 hg1 _
  have hvb : ∀ k, v6.ownBlock = some k → X.heap.size ≤ k ∧ k < (X.more L7 d).heap.size := World.ownsRow.lt HO.out
  have hbel : Below X.heap.size X w1 := by
    refine (Below.alloc (Below.mored _ _ _ (Below.alloc (Below.mored _ _ _ (Below.refl X.heap.size X) (Nat.le_refl _)) ?_ _) ?_) ?_ _).grown hg1 ?_ (fun k hk => (hvb k hk).1)
    all_goals (simp only [World.more_size, World.size_alloc]; omega)
  obtain ⟨L9, d9, rfl⟩ := hbel.more
  rw [show ((⟨#[43]⟩ : ByteArray) ++ ⟨#[55, 51]⟩ ++ ⟨#[32]⟩ ++ ⟨#[38, 108, 116, 59]⟩) = ⟨#[43, 55, 51, 32, 38, 108, 116, 59]⟩ by kernel_rfl] at hown1
  have HO9 := Lib.hid hown1
  clear hown1 hg1 hvb HO hbel
  go_wp2
  rw [rounds_succ]
  go_wp2_with (first
    | (go_at_call 29; refine (hex_h _).mono ?_; rintro e w' ⟨rfl, hb⟩; obtain ⟨L10, d10, rfl⟩ := hb.more; clear hb)
    | (at_builtin; refine wpList_append_own _ rfl _ _ 60 rfl X.heap.size 9 i0 (.string ⟨#[]⟩) 1 16 Tryd.underlying60 hi0 hz0 hz1 hz2 rfl (by omega) v7 8 _ rfl (World.ownsRow.alloc (ownsRow_more (World.ownsRow.alloc HO9.out _) _ _) _) ⟨X.heap.size + L9.length + 1 + L10.length, 0, none⟩ 1 1 [.string ((⟨#[45]⟩ : ByteArray) ++ ⟨#[54, 56]⟩)] rfl rfl ?b1 ?b2 ?b3 ?b4 ?b5 ?_)
    | go_in)
  case b1 =>
    intro j u hj
    match j, hj with
    | 0, hj => simp at hj; subst hj; simp [Addr.add, go_sem]
  case b2 => intro u hu; simp at hu; subst hu; rfl
  case b3 => decide
  case b4 => omega
  case b5 => simp only [World.more_size, World.size_alloc]; omega
  intro v8 w1 hown1 hg1 _
  have hvb : ∀ k, v7.ownBlock = some k → X.heap.size ≤ k ∧ k < (X.more L9 d9).heap.size := World.ownsRow.lt HO9.out
  have hbel : Below X.heap.size X w1 := by
    refine (Below.alloc (Below.mored _ _ _ (Below.alloc (Below.mored _ _ _ (Below.refl X.heap.size X) (Nat.le_refl _)) ?_ _) ?_) ?_ _).grown hg1 ?_ (fun k hk => (hvb k hk).1)
    all_goals (simp only [World.more_size, World.size_alloc]; omega)
  obtain ⟨L11, d11, rfl⟩ := hbel.more
  rw [show ((⟨#[45]⟩ : ByteArray) ++ ⟨#[54, 56]⟩) = ⟨#[45, 54, 56]⟩ by kernel_rfl] at hown1
  have HO11 := Lib.hid hown1
  clear hown1 hg1 hvb HO9 hbel
  go_wp2
  rw [rounds_succ]
  go_wp2_with (first
    | (at_builtin; refine wpList_append_own _ rfl _ _ 60 rfl X.heap.size 9 i0 (.string ⟨#[]⟩) 1 16 Tryd.underlying60 hi0 hz0 hz1 hz2 rfl (by omega) v8 9 _ rfl (World.ownsRow.alloc HO11.out _) ⟨X.heap.size + L11.length, 0, none⟩ 1 1 [.string ⟨#[101, 110, 100]⟩] rfl rfl ?d1 ?d2 ?d3 ?d4 ?d5 ?_)
    | go_in)
  case d1 =>
    intro j u hj
    match j, hj with
    | 0, hj => simp at hj; subst hj; simp [Addr.add, go_sem]
  case d2 => intro u hu; simp at hu; subst hu; rfl
  case d3 => decide
  case d4 => omega
  case d5 => (try simp only [World.more_size, World.size_alloc]); omega
  intro v9 w1 hown1 hg1 _
  have hvb : ∀ k, v8.ownBlock = some k → X.heap.size ≤ k ∧ k < (X.more L11 d11).heap.size := World.ownsRow.lt HO11.out
  have hbel : Below X.heap.size X w1 := by
    refine (Below.alloc (Below.mored _ _ _ (Below.refl X.heap.size X) (Nat.le_refl _)) ?_ _).grown hg1 ?_ (fun k hk => (hvb k hk).1)
    all_goals ((try simp only [World.more_size, World.size_alloc]); omega)
  obtain ⟨L12, d12, rfl⟩ := hbel.more
  obtain ⟨g, cap, rfl, hlines⟩ := lines_of_own (ls := [⟨#[109, 101, 115, 115, 97, 103, 101, 32, 105]⟩, ⟨#[102, 114, 111, 109, 32]⟩, ⟨#[115, 117, 98, 106, 101, 99, 116, 32]⟩, ⟨#[100, 97, 116, 101, 32, 48]⟩, ⟨#[115, 116, 97, 116, 101, 32, 48]⟩, ⟨#[108, 105, 115, 116, 115, 32, 49, 32, 50]⟩, ⟨#[99, 111, 109, 109, 105, 116, 32]⟩, ⟨#[43, 55, 51, 32, 38, 108, 116, 59]⟩, ⟨#[45, 54, 56]⟩, ⟨#[101, 110, 100]⟩]) hown1 (by decide)
  clear hown1 hg1 hvb HO11
  have hul := unlines_any g 0 cap _ _ hlines (by decide) (by
    intro l hl
    have hd : ∀ l ∈ ([⟨#[109, 101, 115, 115, 97, 103, 101, 32, 105]⟩, ⟨#[102, 114, 111, 109, 32]⟩, ⟨#[115, 117, 98, 106, 101, 99, 116, 32]⟩, ⟨#[100, 97, 116, 101, 32, 48]⟩, ⟨#[115, 116, 97, 116, 101, 32, 48]⟩, ⟨#[108, 105, 115, 116, 115, 32, 49, 32, 50]⟩, ⟨#[99, 111, 109, 109, 105, 116, 32]⟩, ⟨#[43, 55, 51, 32, 38, 108, 116, 59]⟩, ⟨#[45, 54, 56]⟩, ⟨#[101, 110, 100]⟩] : List ByteArray), l.size ≤ 10000 := by decide
    exact hd l hl)
  have HUL := Lib.hid hul
  clear hul hlines
  go_wp2_with (go_at_call 20; refine HUL.out.mono ?_; rintro e w' ⟨rfl, hb⟩)
  go_ret
  refine ⟨rfl, ?_⟩
  have hb2 : Below w.heap.size X _ := (hbel.trans (hb.mono (by rw [World.more_size]; omega))).mono (by omega)
  exact HXb.out.trans hb2
end Go.Proofs.YteipljggjegpoaaDoor
