import Derived.Test.YteipljggjegpoaaDoorV14
import Derived.Test.YteipljggjegpoaaDoorQS
namespace Go.Proofs.YteipljggjegpoaaDoor
set_option linter.unusedVariables false
set_option linter.unusedSimpArgs false
open Go.RowKit Go.Lib Go.Maps
set_option maxHeartbeats 8000000
set_option maxRecDepth 100000

theorem split_page (m : Int) (W : World) (hm : W.cell? ⟨0, 0, none⟩ = some (.int .i64 m)) :
    Calls Tryd.prog 21 #[.string page, .string ⟨#[10]⟩] W fun e w' => e = .returned (.slice (some ⟨W.heap.size, 0, none⟩) 11 11) ∧ w' = W.alloc (.cells #[.string ⟨#[109, 101, 115, 115, 97, 103, 101, 32, 105]⟩, .string ⟨#[102, 114, 111, 109, 32]⟩, .string ⟨#[115, 117, 98, 106, 101, 99, 116, 32]⟩, .string ⟨#[100, 97, 116, 101, 32, 48]⟩, .string ⟨#[115, 116, 97, 116, 101, 32, 48]⟩, .string ⟨#[108, 105, 115, 116, 115, 32, 49, 32, 50]⟩, .string ⟨#[99, 111, 109, 109, 105, 116, 32]⟩, .string ⟨#[43, 55, 51, 32, 38, 108, 116, 59]⟩, .string ⟨#[45, 54, 56]⟩, .string ⟨#[101, 110, 100]⟩, .string ⟨#[]⟩] 9) := by
  have h := Tryd.strings_Split page ⟨#[10]⟩ m W (by decide +kernel) hm (by decide)
  have c1 : Lib.countB page ⟨#[10]⟩ = 10 := by decide +kernel
  rw [c1] at h
  have c2 : ((Lib.splitB ⟨#[10]⟩ 0 10 page).map Value.string).toArray = #[.string ⟨#[109, 101, 115, 115, 97, 103, 101, 32, 105]⟩, .string ⟨#[102, 114, 111, 109, 32]⟩, .string ⟨#[115, 117, 98, 106, 101, 99, 116, 32]⟩, .string ⟨#[100, 97, 116, 101, 32, 48]⟩, .string ⟨#[115, 116, 97, 116, 101, 32, 48]⟩, .string ⟨#[108, 105, 115, 116, 115, 32, 49, 32, 50]⟩, .string ⟨#[99, 111, 109, 109, 105, 116, 32]⟩, .string ⟨#[43, 55, 51, 32, 38, 108, 116, 59]⟩, .string ⟨#[45, 54, 56]⟩, .string ⟨#[101, 110, 100]⟩, .string ⟨#[]⟩] := by kernel_rfl
  rw [c2] at h
  exact h
theorem split_ids (m : Int) (W : World) (hm : W.cell? ⟨0, 0, none⟩ = some (.int .i64 m)) :
    Calls Tryd.prog 21 #[.string ⟨#[49, 32, 50]⟩, .string ⟨#[32]⟩] W fun e w' => e = .returned (.slice (some ⟨W.heap.size, 0, none⟩) 2 2) ∧ w' = W.alloc (.cells #[.string ⟨#[49]⟩, .string ⟨#[50]⟩] 9) := by
  have h := Tryd.strings_Split ⟨#[49, 32, 50]⟩ ⟨#[32]⟩ m W (by decide) hm (by decide)
  have c1 : Lib.countB ⟨#[49, 32, 50]⟩ ⟨#[32]⟩ = 1 := by decide +kernel
  rw [c1] at h
  have c2 : ((Lib.splitB ⟨#[32]⟩ 0 1 ⟨#[49, 32, 50]⟩).map Value.string).toArray = #[.string ⟨#[49]⟩, .string ⟨#[50]⟩] := by kernel_rfl
  rw [c2] at h
  exact h

/-- a row of the call's own lies where the elder blocks do not reach -/
theorem ownsRow_swap {X X' : World} {L : List Obj} {d d' : Nat} {B e size n : Nat} {v : Value} {xs : List Value} (h : (X.more L d).ownsRow B e size v n xs) (hs : X'.heap.size = X.heap.size) (hB : X.heap.size ≤ B) : (X'.more L d').ownsRow B e size v n xs := by
  obtain ⟨h1, h2 | ⟨g, cap, cur, hv, hg, hh, hc⟩⟩ := h
  · exact ⟨h1, .inl h2⟩
  · refine ⟨h1, .inr ⟨g, cap, cur, hv, hg, ?_, hc⟩⟩
    have e1 : (X.more L d).heap[g]? = (X'.more L d').heap[g]? := by
      show (X.heap ++ L.toArray)[g]? = (X'.heap ++ L.toArray)[g]?
      rw [Array.getElem?_append_right (by omega), Array.getElem?_append_right (by omega), hs]
    rw [← e1]; exact hh
theorem ownsRow_swap2 {X X' : World} {L L' : List Obj} {d d' : Nat} {B e size n : Nat} {v : Value} {xs : List Value} (h : (X.more L d).ownsRow B e size v n xs) (hs : X'.heap.size = X.heap.size) (hB : X.heap.size ≤ B) : (X'.more (L ++ L') d').ownsRow B e size v n xs := by
  have h1 := ownsRow_more (ownsRow_swap (X' := X') (d' := d') h hs hB) L' d'
  rwa [World.more_more] at h1
theorem ownsRow_swap3 {X X' : World} {M L L' : List Obj} {d d' : Nat} {B e size n : Nat} {v : Value} {xs : List Value} (h : (X.more (M ++ L) d).ownsRow B e size v n xs) (hs : X'.heap.size = X.heap.size) (hB : X.heap.size ≤ B) : (X'.more (M ++ (L ++ L')) d').ownsRow B e size v n xs := by
  rw [← List.append_assoc]; exact ownsRow_swap2 h hs hB
theorem below_more1 {X w' : World} {M : List Obj} {d : Nat} {o : Obj} (hg : ((X.more M d).alloc o).grownBy w' none) : ∃ L' d', w' = X.more (M ++ L') d' := by
  obtain ⟨L', d', h⟩ := RowKit.Below.more ((((Below.refl _ _).alloc (Nat.le_refl _) _)).grown hg (by simp) (fun j hj => by cases hj))
  exact ⟨L', d', by rw [h, World.more_more]⟩
theorem below_more2 {X w' : World} {M L : List Obj} {d : Nat} {o : Obj} {row : Option Nat} (hg : ((X.more (M ++ L) d).alloc o).grownBy w' row) (hr : ∀ k, row = some k → X.heap.size + M.length ≤ k) : ∃ L' d', w' = X.more (M ++ L') d' := by
  rw [← World.more_more X M d L d] at hg
  obtain ⟨L', d', h⟩ := RowKit.Below.more (((Below.mored _ _ _ (Below.refl _ _) (Nat.le_refl _)).alloc (by simp only [World.more_size]; omega) _).grown hg (by simp only [World.more_size, World.size_alloc]; omega) (fun k hk => by rw [World.more_size]; exact hr k hk))
  exact ⟨L', d', by rw [h, World.more_more]⟩
theorem own_form {w : World} {base e size : Nat} {v : Value} {n : Nat} {xs : List Value} (h : w.ownsRow base e size v n xs) (hn : 0 < n) :
    ∃ g cap, v = .slice (some ⟨g, 0, none⟩) n cap ∧ base ≤ g ∧ g < w.heap.size := by
  obtain ⟨_, ⟨_, h0⟩ | ⟨g, cap, cur, hv, hb, hg, _⟩⟩ := h
  · omega
  · refine ⟨g, cap, hv, hb, ?_⟩
    rcases Nat.lt_or_ge g w.heap.size with hlt | hge
    · exact hlt
    · rw [Array.getElem?_eq_none hge] at hg; cases hg
theorem own_cell {w : World} {base e size : Nat} {g cap n : Nat} {xs : List Value} (h : w.ownsRow base e size (.slice (some ⟨g, 0, none⟩) n cap) n xs) (j : Nat) (hj : j < n * size) : w.cell? ⟨g, j, none⟩ = xs[j]? := by
  obtain ⟨_, ⟨h0, _⟩ | ⟨g', cap', cur, hv, hb, hg, h1, h2, h3, h4⟩⟩ := h
  · cases h0
  · cases hv
    rw [← h4, List.getElem?_take_of_lt hj]
    simp [World.cell?, hg]
theorem stInfo : (Tryd.prog.info? 40).map (fun i => (i.zero, i.size, i.bytes)) = some (some (.agg #[.bool false, .string ⟨#[]⟩, .string ⟨#[]⟩, .string ⟨#[]⟩]), 4, 56) := by kernel_rfl
theorem intInfo : (Tryd.prog.info? 3).map (fun i => (i.zero, i.size, i.bytes)) = some (some (.int .i64 0), 1, 8) := by kernel_rfl
theorem read_const (m : Int) (W : World) (hm : W.cell? ⟨0, 0, none⟩ = some (.int .i64 m)) (h0 : 0 < W.heap.size) :
    Calls Tryd.prog 8 #[.string page] W fun e w' => (∃ bl ol cl bi oi ci, e = .returned (.tuple #[vMsg bl ol cl bi oi ci, .bool true])) ∧ Below W.heap.size W w' := by
  go_enter Tryd.func8, Tryd.ntmps8
  go_wp2_with (fail)
  refine (split_page m _ ?_).mono ?_
  focus go_simp
  rintro e w' ⟨rfl, rfl⟩
  go_wp2_with (fail)
  refine (next_any _ (W.heap.size + 1) 0 10 10 ⟨#[109, 101, 115, 115, 97, 103, 101, 32, 105]⟩ ⟨#[109, 101, 115, 115, 97, 103, 101, 32]⟩ ⟨#[105]⟩ _ ?_ ?_ ?_ ?_ ?_ (by omega) (by omega) (by kernel_rfl) (by kernel_rfl)).mono ?_
  iterate 5 (focus go_simp)
  rintro e w' ⟨rfl, rfl⟩
  go_wp2_with (fail)
  refine (plain_any _ ⟨#[105]⟩ ⟨#[105]⟩ _ ?_ ?_ ?_ (by decide) (by decide +kernel) (by decide +kernel)).mono ?_
  iterate 3 (focus (first | go_simp | go_size))
  rintro e w' ⟨rfl, L1, d1, rfl⟩
  go_wp2_with (fail)
  refine (next_any _ (W.heap.size + 1) 1 9 9 ⟨#[102, 114, 111, 109, 32]⟩ ⟨#[102, 114, 111, 109, 32]⟩ ⟨#[]⟩ _ ?_ ?_ ?_ ?_ ?_ (by omega) (by omega) (by kernel_rfl) (by kernel_rfl)).mono ?_
  iterate 5 (focus go_simp)
  rintro e w' ⟨rfl, rfl⟩
  go_wp2_with (fail)
  refine (plain_any _ ⟨#[]⟩ ⟨#[]⟩ _ ?_ ?_ ?_ (by decide) (by decide +kernel) (by decide +kernel)).mono ?_
  iterate 3 (focus (first | go_simp | go_size))
  rintro e w' ⟨rfl, L2, d2, rfl⟩
  go_wp2_with (fail)
  refine (next_any _ (W.heap.size + 1) 2 8 8 ⟨#[115, 117, 98, 106, 101, 99, 116, 32]⟩ ⟨#[115, 117, 98, 106, 101, 99, 116, 32]⟩ ⟨#[]⟩ _ ?_ ?_ ?_ ?_ ?_ (by omega) (by omega) (by kernel_rfl) (by kernel_rfl)).mono ?_
  iterate 5 (focus go_simp)
  rintro e w' ⟨rfl, rfl⟩
  go_wp2_with (fail)
  refine (plain_any _ ⟨#[]⟩ ⟨#[]⟩ _ ?_ ?_ ?_ (by decide) (by decide +kernel) (by decide +kernel)).mono ?_
  iterate 3 (focus (first | go_simp | go_size))
  rintro e w' ⟨rfl, L3, d3, rfl⟩
  go_wp2_with (fail)
  refine (next_any _ (W.heap.size + 1) 3 7 7 ⟨#[100, 97, 116, 101, 32, 48]⟩ ⟨#[100, 97, 116, 101, 32]⟩ ⟨#[48]⟩ _ ?_ ?_ ?_ ?_ ?_ (by omega) (by omega) (by kernel_rfl) (by kernel_rfl)).mono ?_
  iterate 5 (focus go_simp)
  rintro e w' ⟨rfl, rfl⟩
  go_wp2_with (fail)
  refine (number_rd _ 48 (by decide) _ ?_ ?_).mono ?_
  iterate 2 (focus go_simp)
  rintro e w' ⟨rfl, rfl⟩
  go_wp2_with (fail)
  refine (next_any _ (W.heap.size + 1) 4 6 6 ⟨#[115, 116, 97, 116, 101, 32, 48]⟩ ⟨#[115, 116, 97, 116, 101, 32]⟩ ⟨#[48]⟩ _ ?_ ?_ ?_ ?_ ?_ (by omega) (by omega) (by kernel_rfl) (by kernel_rfl)).mono ?_
  iterate 5 (focus go_simp)
  rintro e w' ⟨rfl, rfl⟩
  go_wp2_with (fail)
  refine (number_rd _ 48 (by decide) _ ?_ ?_).mono ?_
  iterate 2 (focus go_simp)
  rintro e w' ⟨rfl, rfl⟩
  go_wp2_with (fail)
  refine (next_any _ (W.heap.size + 1) 5 5 5 ⟨#[108, 105, 115, 116, 115, 32, 49, 32, 50]⟩ ⟨#[108, 105, 115, 116, 115]⟩ ⟨#[32, 49, 32, 50]⟩ _ ?_ ?_ ?_ ?_ ?_ (by omega) (by omega) (by kernel_rfl) (by kernel_rfl)).mono ?_
  iterate 5 (focus go_simp)
  rintro e w' ⟨rfl, rfl⟩
  go_wp2_with (fail)
  refine (Tryd.strings_TrimPrefix ⟨#[32, 49, 32, 50]⟩ ⟨#[32]⟩ _).mono ?_
  rw [show (⟨(trimPrefix (⟨#[32, 49, 32, 50]⟩ : ByteArray).data.toList (⟨#[32]⟩ : ByteArray).data.toList).toArray⟩ : ByteArray) = ⟨#[49, 32, 50]⟩ by kernel_rfl]
  rintro e w' ⟨rfl, rfl⟩
  go_wp2_with (fail)
  refine (split_ids m _ ?_).mono ?_
  focus go_simp
  rintro e w' ⟨rfl, rfl⟩
  go_wp2_with (fail)
  refine wp_loop_rounds 3 ?_
  rw [rounds_succ]
  go_wp2_with (fail)
  obtain ⟨i0, hi0, hz0, hz1, hz2⟩ := info_parts intInfo
  refine wp_region_seqs [0, 2] [1] [3, 4] [5, 6, 7] (fun w' => w'.cell? ⟨W.heap.size + 1 + 1 + 1 + (L1.length + (L2.length + L3.length)), 7, none⟩ = some (.slice none 0 0)) (by kernel_rfl) (by kernel_rfl) (by go_simp) (fun c a d v w h => h) ?_
  simp only [Region.pick_cons, Region.pick_nil, List.getElem?_cons_succ, List.getElem?_cons_zero]
  iterate 2 (refine wpPure_step _ rfl rfl ?_; apply Exists.intro; refine ⟨fun w => ?_, ?_⟩; focus (go_simp; (try with_reducible rfl)); (try simp only [Act.put, List.setIfInBounds_toArray, List.set_cons_zero, List.set_cons_succ]))
  refine wpPure_nil ?_
  (refine wpHold_step _ rfl rfl ?_; apply Exists.intro; refine ⟨fun w hw => ?_, ?_⟩; focus ((try dsimp only at hw); go_simp; (try with_reducible rfl)); (try simp only [Act.put, List.setIfInBounds_toArray, List.set_cons_zero, List.set_cons_succ]))
  refine wpHold_nil ?_
  refine wpKeep_step _ rfl (fun K hK => ?_)
  go_simp
  go_at_call 24
  refine (number_rd _ 49 (by decide) _ (by go_simp) (by go_simp)).mono ?_
  rintro e w' ⟨rfl, rfl⟩
  go_simp
  refine hK.out _ _ (by go_simp) ?_
  clear hK K
  refine wpKeep_step _ rfl (fun K hK => ?_)
  go_simp
  refine hK.out _ _ (by go_simp) (wpKeep_nil ?_)
  clear hK K
  refine wpList_append_own _ rfl _ _ 32 rfl (W.heap.size + 1 + 1 + 1 + (L1.length + (L2.length + L3.length)) + 1 + 1) 3 i0 (.int .i64 0) 1 8 Tryd.underlying32 hi0 hz0 hz1 hz2 rfl (by decide) (.slice none 0 0) 0 [] rfl (World.ownsRow_nil _ _ _ _) ⟨W.heap.size + 1 + 1 + 1 + (L1.length + (L2.length + L3.length)) + 1 + 1, 0, none⟩ 1 1 [.int .i64 1] rfl rfl ?a1 ?a2 ?a3 ?a4 ?a5 ?_
  case a1 =>
    intro j u hj
    match j, hj with
    | 0, hj => simp at hj; subst hj; simp [Addr.add, go_sem]
  case a2 => intro u hu; simp at hu; subst hu; rfl
  case a3 => decide
  case a4 => decide
  case a5 => (simp only [World.size_drew, World.more_size, World.size_alloc, List.length_append]; omega)
  intro v1 w1 hown1 hg1 _
  simp only [Nat.zero_add, List.nil_append] at hown1
  obtain ⟨g1, cap1, rfl, -⟩ := own_form hown1 (by decide)
  have HO1 := Lib.hid hown1
  clear hown1
  obtain ⟨L4, d4, rfl⟩ := RowKit.Below.more ((((Below.refl _ _).alloc (Nat.le_refl _) _).drew).grown hg1 (by simp) (fun j hj => by cases hj))
  clear hg1
  go_wp2_with (fail)
  rw [rounds_succ]
  go_wp2_with (fail)
  refine wp_region_seqs [0, 2] [1] [3, 4] [5, 6, 7] (fun w' => w'.cell? ⟨W.heap.size + 1 + 1 + 1 + (L1.length + (L2.length + L3.length)), 7, none⟩ = some (.slice (some ⟨g1, 0, none⟩) 1 cap1)) (by kernel_rfl) (by kernel_rfl) (by go_simp) (fun c a d v w h => h) ?_
  simp only [Region.pick_cons, Region.pick_nil, List.getElem?_cons_succ, List.getElem?_cons_zero]
  iterate 2 (refine wpPure_step _ rfl rfl ?_; apply Exists.intro; refine ⟨fun w => ?_, ?_⟩; focus (go_simp; (try with_reducible rfl)); (try simp only [Act.put, List.setIfInBounds_toArray, List.set_cons_zero, List.set_cons_succ]))
  refine wpPure_nil ?_
  (refine wpHold_step _ rfl rfl ?_; apply Exists.intro; refine ⟨fun w hw => ?_, ?_⟩; focus ((try dsimp only at hw); go_simp; (try with_reducible rfl)); (try simp only [Act.put, List.setIfInBounds_toArray, List.set_cons_zero, List.set_cons_succ]))
  refine wpHold_nil ?_
  refine wpKeep_step _ rfl (fun K hK => ?_)
  go_simp
  go_at_call 24
  refine (number_rd _ 50 (by decide) _ (by go_simp) (by go_simp)).mono ?_
  rintro e w' ⟨rfl, rfl⟩
  go_simp
  refine hK.out _ _ (by go_simp) ?_
  clear hK K
  refine wpKeep_step _ rfl (fun K hK => ?_)
  go_simp
  refine hK.out _ _ (by go_simp) (wpKeep_nil ?_)
  clear hK K
  refine wpList_append_own _ rfl _ _ 32 rfl (W.heap.size + 1 + 1 + 1 + (L1.length + (L2.length + L3.length)) + 1 + 1) 3 i0 (.int .i64 0) 1 8 Tryd.underlying32 hi0 hz0 hz1 hz2 rfl (by decide) (.slice (some ⟨g1, 0, none⟩) 1 cap1) 1 [.int .i64 1] rfl (World.ownsRow.alloc (ownsRow_swap HO1.out ?b1 ?b2) _) ⟨W.heap.size + 1 + 1 + 1 + (L1.length + (L2.length + L3.length)) + 1 + 1 + L4.length, 0, none⟩ 1 1 [.int .i64 2] rfl rfl ?a1 ?a2 ?a3 ?a4 ?a5 ?_
  case b1 => simp only [World.size_alloc, World.more_size]
  case b2 => (simp only [World.size_alloc, World.more_size, List.length_append]; omega)
  case a1 =>
    intro j u hj
    match j, hj with
    | 0, hj => simp at hj; subst hj; simp [Addr.add, go_sem]
  case a2 => intro u hu; simp at hu; subst hu; rfl
  case a3 => decide
  case a4 => decide
  case a5 => (simp only [World.more_size, World.size_alloc, List.length_append]; omega)
  intro v2 w2 hown2 hg2 _
  obtain ⟨g2, cap2, rfl, -⟩ := own_form hown2 (by decide)
  have HO2 := Lib.hid hown2
  have hb1 := World.ownsRow.lt HO1.out
  have hbel := ((Below.mored _ _ _ (Below.refl _ _) (Nat.le_refl _)).alloc (by simp only [World.more_size]; omega) _).grown hg2 (by simp only [World.more_size, World.size_alloc]; omega) (fun j hj => by have h := (hb1 j hj).1; simp only [World.size_alloc, World.more_size, List.length_append] at h ⊢; omega)
  obtain ⟨L5, d5, rfl⟩ := RowKit.Below.more hbel
  clear hg2 hown2 hb1 HO1 hbel
  go_wp2_with (fail)
  rw [rounds_succ]
  go_wp2_with (fail)
  refine (next_any _ (W.heap.size + 1) 6 4 4 ⟨#[99, 111, 109, 109, 105, 116, 32]⟩ ⟨#[99, 111, 109, 109, 105, 116, 32]⟩ ⟨#[]⟩ _ ?_ ?_ ?_ ?_ ?_ (by omega) (by omega) (by kernel_rfl) (by kernel_rfl)).mono ?_
  iterate 5 (focus go_simp)
  rintro e w' ⟨rfl, rfl⟩
  go_wp2_with (fail)
  refine (bytes_rd _ ⟨#[]⟩ ⟨#[]⟩ _ ?_ ?_ ?_ (unhex_empty _)).mono ?_
  iterate 3 (focus (first | go_simp | go_size))
  rintro e w' ⟨rfl, L6, d6, rfl⟩
  go_wp2_with (fail)
  refine wp_loop_rounds 3 ?_
  rw [rounds_succ]
  go_wp2_with (fail)
  obtain ⟨i1, hi1, hy0, hy1, hy2⟩ := info_parts stInfo
  refine wp_region_seqs [0] [1] [2, 3, 4] [5, 6, 7] (fun w' => w'.cell? ⟨W.heap.size + 1 + 1 + 1 + (L1.length + (L2.length + L3.length)), 5, none⟩ = some (.slice none 0 0)) (by kernel_rfl) (by kernel_rfl) (by go_simp) (fun c a d v w h => h) ?_
  simp only [Region.pick_cons, Region.pick_nil, List.getElem?_cons_succ, List.getElem?_cons_zero]
  (refine wpPure_step _ rfl rfl ?_; apply Exists.intro; refine ⟨fun w => ?_, ?_⟩; focus (go_simp; (try with_reducible rfl)); (try simp only [Act.put, List.setIfInBounds_toArray, List.set_cons_zero, List.set_cons_succ]))
  refine wpPure_nil ?_
  (refine wpHold_step _ rfl rfl ?_; apply Exists.intro; refine ⟨fun w hw => ?_, ?_⟩; focus ((try dsimp only at hw); go_simp; (try with_reducible rfl)); (try simp only [Act.put, List.setIfInBounds_toArray, List.set_cons_zero, List.set_cons_succ]))
  refine wpHold_nil ?_
  refine wpKeep_step _ rfl (fun K hK => ?_)
  go_simp
  go_at_call 23
  refine (next_any _ (W.heap.size + 1) 7 3 3 ⟨#[43, 55, 51, 32, 38, 108, 116, 59]⟩ ⟨#[]⟩ ⟨#[43, 55, 51, 32, 38, 108, 116, 59]⟩ _ ?_ ?_ ?_ ?_ ?_ (by omega) (by omega) (by kernel_rfl) (by kernel_rfl)).mono ?_
  iterate 5 (focus go_simp)
  rintro e w' ⟨rfl, rfl⟩
  go_simp
  refine hK.out _ _ (by go_simp) ?_
  clear hK K
  refine wpKeep_step _ rfl (fun K hK => ?_)
  go_simp
  go_at_call 27
  refine (shown_plus _ m _ ?_ ?_ ?_ ?_ ?_).mono ?_
  iterate 5 (focus (first | go_simp | go_size))
  rintro e w' ⟨rfl, hb⟩
  obtain ⟨L7, d7, rfl⟩ := hb.more
  clear hb
  go_simp
  refine hK.out _ _ (by go_simp) ?_
  clear hK K
  refine wpKeep_step _ rfl (fun K hK => ?_)
  go_simp
  refine hK.out _ _ (by go_simp) (wpKeep_nil ?_)
  clear hK K
  refine wpList_append_own _ rfl _ _ 31 rfl (W.heap.size + 1 + 1 + 1 + (L1.length + (L2.length + L3.length)) + 1 + 1 + (L5.length + (L6.length + L7.length))) 40 i1 (.agg #[.bool false, .string ⟨#[]⟩, .string ⟨#[]⟩, .string ⟨#[]⟩]) 4 56 Tryd.underlying31 hi1 hy0 hy1 hy2 rfl (by decide) (.slice none 0 0) 0 [] rfl (World.ownsRow_nil _ _ _ _) ⟨W.heap.size + 1 + 1 + 1 + (L1.length + (L2.length + L3.length)) + 1 + 1 + (L5.length + (L6.length + L7.length)), 0, none⟩ 1 1 [.bool false, .string ⟨#[115]⟩, .string ⟨#[60]⟩, .string ⟨#[]⟩] rfl rfl ?a1 ?a2 ?a3 ?a4 ?a5 ?_
  case a1 =>
    intro j u hj
    match j, hj with
    | 0, hj => simp at hj; subst hj; simp [Addr.add, go_sem]
    | 1, hj => simp at hj; subst hj; simp [Addr.add, go_sem]
    | 2, hj => simp at hj; subst hj; simp [Addr.add, go_sem]
    | 3, hj => simp at hj; subst hj; simp [Addr.add, go_sem]
  case a2 =>
    intro u hu
    simp only [List.mem_cons, List.not_mem_nil, or_false] at hu
    obtain rfl | rfl | rfl | rfl := hu <;> rfl
  case a3 => decide
  case a4 => decide
  case a5 => (simp only [World.more_size, World.size_alloc, List.length_append]; omega)
  intro v3 w3 hown3 hg3 _
  simp only [Nat.zero_add, List.nil_append] at hown3
  obtain ⟨g3, cap3, rfl, -⟩ := own_form hown3 (by decide)
  have HO3 := Lib.hid hown3
  clear hown3
  obtain ⟨M, hM⟩ : ∃ M, M = L5 ++ (L6 ++ L7) := ⟨_, rfl⟩
  have hMl : M.length = L5.length + (L6.length + L7.length) := by rw [hM]; simp
  rw [← hM] at hg3
  have HM := Lib.hid hM
  have HML := Lib.hid hMl
  clear hM hMl
  obtain ⟨L8, d8, rfl⟩ := below_more1 hg3
  clear hg3
  go_wp2_with (fail)
  rw [rounds_succ]
  go_wp2_with (fail)
  refine wp_region_seqs [0] [1] [2, 3, 4] [5, 6, 7] (fun w' => w'.cell? ⟨W.heap.size + 1 + 1 + 1 + (L1.length + (L2.length + L3.length)), 5, none⟩ = some (.slice (some ⟨g3, 0, none⟩) 1 cap3)) (by kernel_rfl) (by kernel_rfl) (by go_simp) (fun c a d v w h => h) ?_
  simp only [Region.pick_cons, Region.pick_nil, List.getElem?_cons_succ, List.getElem?_cons_zero]
  (refine wpPure_step _ rfl rfl ?_; apply Exists.intro; refine ⟨fun w => ?_, ?_⟩; focus (go_simp; (try with_reducible rfl)); (try simp only [Act.put, List.setIfInBounds_toArray, List.set_cons_zero, List.set_cons_succ]))
  refine wpPure_nil ?_
  (refine wpHold_step _ rfl rfl ?_; apply Exists.intro; refine ⟨fun w hw => ?_, ?_⟩; focus ((try dsimp only at hw); go_simp; (try with_reducible rfl)); (try simp only [Act.put, List.setIfInBounds_toArray, List.set_cons_zero, List.set_cons_succ]))
  refine wpHold_nil ?_
  refine wpKeep_step _ rfl (fun K hK => ?_)
  go_simp
  go_at_call 23
  refine (next_any _ (W.heap.size + 1) 8 2 2 ⟨#[45, 54, 56]⟩ ⟨#[]⟩ ⟨#[45, 54, 56]⟩ _ ?_ ?_ ?_ ?_ ?_ (by omega) (by omega) (by kernel_rfl) (by kernel_rfl)).mono ?_
  iterate 5 (focus go_simp)
  rintro e w' ⟨rfl, rfl⟩
  go_simp
  refine hK.out _ _ (by go_simp) ?_
  clear hK K
  refine wpKeep_step _ rfl (fun K hK => ?_)
  go_simp
  go_at_call 27
  refine (shown_minus _ _ ?_ ?_ ?_).mono ?_
  iterate 3 (focus (first | go_simp | go_size))
  rintro e w' ⟨rfl, hb⟩
  obtain ⟨L9, d9, rfl⟩ := hb.more
  clear hb
  go_simp
  refine hK.out _ _ (by go_simp) ?_
  clear hK K
  refine wpKeep_step _ rfl (fun K hK => ?_)
  go_simp
  refine hK.out _ _ (by go_simp) (wpKeep_nil ?_)
  clear hK K
  refine wpList_append_own _ rfl _ _ 31 rfl (W.heap.size + 1 + 1 + 1 + (L1.length + (L2.length + L3.length)) + 1 + 1 + (L5.length + (L6.length + L7.length))) 40 i1 (.agg #[.bool false, .string ⟨#[]⟩, .string ⟨#[]⟩, .string ⟨#[]⟩]) 4 56 Tryd.underlying31 hi1 hy0 hy1 hy2 rfl (by decide) (.slice (some ⟨g3, 0, none⟩) 1 cap3) 1 [.bool false, .string ⟨#[115]⟩, .string ⟨#[60]⟩, .string ⟨#[]⟩] rfl (World.ownsRow.alloc (ownsRow_swap3 HO3.out (by simp only [World.size_alloc, World.more_size]) (by simp only [World.size_alloc, World.more_size, List.length_append]; omega)) _) ⟨W.heap.size + 1 + 1 + 1 + (L1.length + (L2.length + L3.length)) + 1 + 1 + (M.length + (L8.length + L9.length)), 0, none⟩ 1 1 [.bool true, .string ⟨#[]⟩, .string ⟨#[]⟩, .string ⟨#[104]⟩] rfl rfl ?a1 ?a2 ?a3 ?a4 ?a5 ?_
  case a1 =>
    intro j u hj
    match j, hj with
    | 0, hj => simp at hj; subst hj; simp [Addr.add, go_sem]
    | 1, hj => simp at hj; subst hj; simp [Addr.add, go_sem]
    | 2, hj => simp at hj; subst hj; simp [Addr.add, go_sem]
    | 3, hj => simp at hj; subst hj; simp [Addr.add, go_sem]
  case a2 =>
    intro u hu
    simp only [List.mem_cons, List.not_mem_nil, or_false] at hu
    obtain rfl | rfl | rfl | rfl := hu <;> rfl
  case a3 => decide
  case a4 => decide
  case a5 => (have hml := HML.out; simp only [World.more_size, World.size_alloc, List.length_append]; omega)
  intro v4 w4 hown4 hg4 _
  obtain ⟨g4, cap4, rfl, -⟩ := own_form hown4 (by decide)
  have HO4 := Lib.hid hown4
  have hb3 := World.ownsRow.lt HO3.out
  obtain ⟨L10, d10, rfl⟩ := below_more2 hg4 (fun j hj => by have h := (hb3 j hj).1; have hml := HML.out; simp only [World.size_alloc, World.more_size, List.length_append]; omega)
  clear hown4 hg4 hb3 HO3
  go_wp2_with (fail)
  rw [rounds_succ]
  go_wp2_with (fail)
  refine (message_const g4 0 cap4 g2 0 cap2 _ ?s1 ?s2 ?m0 ?m1 ?m2 ?m3 ?m4 ?m5 ?m6 ?m7 ?q0 ?q1).mono ?_
  case s1 => (have h := (World.ownsRow.lt HO4.out g4 rfl).2; simp only [World.size_alloc, World.more_size, List.length_append] at h ⊢; omega)
  case s2 => (have h := (World.ownsRow.lt HO2.out g2 rfl).2; have hml := HML.out; simp only [World.size_alloc, World.more_size, List.length_append] at h ⊢; omega)
  case m0 => exact (own_cell (ownsRow_swap HO4.out (by simp only [World.size_alloc, World.more_size]) (by simp only [World.size_alloc, World.more_size, List.length_append]; omega)) _ (by decide)).trans rfl
  case m1 => exact (own_cell (ownsRow_swap HO4.out (by simp only [World.size_alloc, World.more_size]) (by simp only [World.size_alloc, World.more_size, List.length_append]; omega)) _ (by decide)).trans rfl
  case m2 => exact (own_cell (ownsRow_swap HO4.out (by simp only [World.size_alloc, World.more_size]) (by simp only [World.size_alloc, World.more_size, List.length_append]; omega)) _ (by decide)).trans rfl
  case m3 => exact (own_cell (ownsRow_swap HO4.out (by simp only [World.size_alloc, World.more_size]) (by simp only [World.size_alloc, World.more_size, List.length_append]; omega)) _ (by decide)).trans rfl
  case m4 => exact (own_cell (ownsRow_swap HO4.out (by simp only [World.size_alloc, World.more_size]) (by simp only [World.size_alloc, World.more_size, List.length_append]; omega)) _ (by decide)).trans rfl
  case m5 => exact (own_cell (ownsRow_swap HO4.out (by simp only [World.size_alloc, World.more_size]) (by simp only [World.size_alloc, World.more_size, List.length_append]; omega)) _ (by decide)).trans rfl
  case m6 => exact (own_cell (ownsRow_swap HO4.out (by simp only [World.size_alloc, World.more_size]) (by simp only [World.size_alloc, World.more_size, List.length_append]; omega)) _ (by decide)).trans rfl
  case m7 => exact (own_cell (ownsRow_swap HO4.out (by simp only [World.size_alloc, World.more_size]) (by simp only [World.size_alloc, World.more_size, List.length_append]; omega)) _ (by decide)).trans rfl
  case q0 => (rw [HM.out, List.append_assoc]; exact (own_cell (ownsRow_swap2 HO2.out (by simp only [World.size_alloc, World.more_size]) (by simp only [World.size_alloc, World.more_size, List.length_append]; omega)) _ (by decide)).trans rfl)
  case q1 => (rw [HM.out, List.append_assoc]; exact (own_cell (ownsRow_swap2 HO2.out (by simp only [World.size_alloc, World.more_size]) (by simp only [World.size_alloc, World.more_size, List.length_append]; omega)) _ (by decide)).trans rfl)
  rintro e w' ⟨he, hb⟩
  have he' : e = .returned (.string page) := he
  clear he
  subst he'
  obtain ⟨L11, d11, rfl⟩ := hb.more
  clear hb
  go_wp2_with (fail)
  refine bodyPost_ret (v := .tuple #[vMsg g4 0 cap4 g2 0 cap2, .bool true]) (by simp [results, Tryd.results8, go_sem, vMsg]) rfl ⟨⟨_, _, _, _, _, _, rfl⟩, ?_⟩
  (repeat' (first | (with_reducible exact Below.refl _ _) | (with_reducible refine Below.mored _ _ _ ?_ ?_) | (with_reducible refine Below.alloc ?_ ?_ _) | (with_reducible refine Below.drewN' _ ?_ _) | (with_reducible refine Below.drew ?_) | (with_reducible refine Below.setCell ?_ ?_ _) | (simp only [World.more_size, World.size_alloc, World.size_setCell, World.size_drew, World.heap_drewN]; omega) | go_size))

end Go.Proofs.YteipljggjegpoaaDoor
