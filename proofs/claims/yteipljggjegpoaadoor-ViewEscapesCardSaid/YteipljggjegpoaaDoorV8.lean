import Derived.Test.YteipljggjegpoaaDoorV7
namespace Go.Proofs.YteipljggjegpoaaDoor
set_option linter.unusedVariables false
set_option linter.unusedSimpArgs false
open Go.RowKit Go.Lib Go.Maps
set_option maxHeartbeats 4000000
set_option maxRecDepth 100000

theorem mkViews (w : World) : (Instr.makeMap 58 (some (.int .i64 1))).run Tryd.prog w = .ok (.map (some w.heap.size)) (w.alloc (.map #[] 0)) := by kernel_rfl
def vB : Value := .agg #[.string ⟨#[98]⟩, .string ⟨#[120]⟩, .string ⟨#[83]⟩, .int .i64 0, .int .i64 0, .slice none 0 0, .string ⟨#[]⟩, .slice none 0 0]
def vZ : Value := .agg #[.string ⟨#[]⟩, .string ⟨#[]⟩, .string ⟨#[]⟩, .int .i64 0, .int .i64 0, .slice none 0 0, .string ⟨#[]⟩, .slice none 0 0]
theorem zero34 (w : World) : (zeroValue 34).run Tryd.prog w = .ok vZ w := by kernel_rfl
open Classical in
/-- how a view reads -/
noncomputable def RV (v : Value) : Option (DataW Unit × List MemPlace) := if v = vB then some (.lit (.bool true), []) else if v = vZ then some (.lit (.bool false), []) else none
theorem RV_B : RV vB = some (.lit (.bool true), []) := by simp [RV]
theorem vZ_ne : vZ ≠ vB := by
  intro h
  simp [vZ, vB] at h
theorem RV_Z : RV vZ = some (.lit (.bool false), []) := by simp [RV, vZ_ne]
theorem RV_inv {v : Value} {ps : List MemPlace} (h : RV v = some (.lit (.bool true), ps)) : v = vB := by
  unfold RV at h
  split at h
  · assumption
  · split at h
    · simp at h
    · cases h
theorem RV_invZ {v : Value} {ps : List MemPlace} (h : RV v = some (.lit (.bool false), ps)) : v = vZ := by
  unfold RV at h
  split at h
  · simp at h
  · split at h
    · assumption
    · cases h
/-- 'm[k]', whatever the elements -/
theorem wpList_lookup_own1 {H : Type} {P : Program} (w : World) {ops : Array Oper} {rest : List Oper} {o : Oper} {a : Act} {Q : Exit → Act → World → Prop} (hg : o.guard = none) (m x : Operand) (t : TypeId) (hop : o.op = Op.lookup t m x false)
    (k e : TypeId) (K : Keyed P k) (ht : P.underlying t = some (.map k e)) (R : Value → Option (DataW H × List MemPlace)) {z : Value} (hz : (zeroValue e).run P w = .ok z w) (zd : DataW H) (zp : List MemPlace) (hzd : R z = some (zd, zp)) (b n : Nat) (D : DataW H)
    (hm : a.eval m = .map (some b)) (hown : w.ownsMap P k R b n D) (key : Value) (kl : Lit) (hx : a.eval x = key) (hkey : keyOf P k key = some kl)
    (hK : ∀ v ps, R v = some (D.atKey kl zd, ps) → wpList P ops Q rest (a.put o.dst v) w) : wpList P ops Q (o :: rest) a w := by
  refine wpList_plain hg fun K' hK' => ?_
  obtain ⟨v, ps, hrun, hv⟩ := hown.lookup K ht hz hzd hkey
  unfold Oper.wp
  simp [execOp, hop, hm, hx, hrun, Result.andThen]
  exact hK' _ _ (hK v ps hv)
theorem key_b : keyOf Tryd.prog 9 (.string ⟨#[98]⟩) = some (.string [98]) := WideMaps.keyOf_string_mk Tryd.underlying9 (by decide)

/-- the map of the one view -/
def Known (w : World) (b : Nat) : Prop := w.ownsMap Tryd.prog 9 RV b 1 ((DataW.map []).put (.string [98]) (.lit (.bool true)))

theorem first_const (b off cap : Nat) (w : World) (hb : b < w.heap.size)
    (h0 : w.cell? ⟨b, off, none⟩ = some (.string ⟨#[98]⟩)) (h1 : w.cell? ⟨b, off + 1, none⟩ = some (.string ⟨#[120]⟩)) (h2 : w.cell? ⟨b, off + 2, none⟩ = some (.string ⟨#[83]⟩)) (h3 : w.cell? ⟨b, off + 3, none⟩ = some (.int .i64 0))
    (h4 : w.cell? ⟨b, off + 4, none⟩ = some (.int .i64 0)) (h5 : w.cell? ⟨b, off + 5, none⟩ = some (.slice none 0 0)) (h6 : w.cell? ⟨b, off + 6, none⟩ = some (.string ⟨#[]⟩)) (h7 : w.cell? ⟨b, off + 7, none⟩ = some (.slice none 0 0)) :
    Calls Tryd.prog 17 #[.slice (some ⟨b, off, none⟩) 1 cap] w fun e w' => e = .returned (.map (some w.heap.size)) ∧ Known w' w.heap.size ∧ Below w.heap.size w w' := by
  have hmk := mkViews
  have hown0 := World.ownsMap_made (H := Unit) w Tryd.prog 9 RV
  go_enter Tryd.func17, Tryd.ntmps17
  go_wp2
  refine wp_loop_rounds 2 ?_
  rw [rounds_succ]
  go_wp2_with (first
    | (at_lookup; refine wpList_lookup_own_ok _ rfl _ _ 58 rfl 9 34 law9 Tryd.underlying58 RV (zero34 _) (.lit (.bool false)) [] RV_Z _ 0 (.map []) rfl (World.ownsMap.alloc hown0 _) _ _ rfl key_b ?_; intro v ps hv; obtain rfl := RV_invZ hv; clear hv; unfold vZ)
    | (at_mapUpdate; refine wpList_mapUpdate_own _ rfl _ _ _ 58 rfl 9 34 law9 Tryd.underlying58 _ w.heap.size 0 _ rfl (World.ownsMap.alloc (World.ownsMap.alloc hown0 _) _) (by decide) _ vB _ rfl rfl key_b _ [] RV_B ?_; intro w1 hown1 hg1)
    | go_in)
  rw [rounds_succ]
  go_wp2
  go_ret
  have hb1 : Below w.heap.size w w1 := by
    refine (Below.alloc (Below.alloc (Below.alloc (Below.refl w.heap.size w) (Nat.le_refl _) _) ?_ _) ?_ _).grown hg1 ?_ (fun j hj => by cases hj; exact Nat.le_refl _)
    all_goals (simp only [World.size_alloc]; omega)
  exact ⟨rfl, hown1, hb1⟩

theorem entry_const (m : Nat) (w : World) (hk : Known w m) :
    Calls Tryd.prog 18 #[.string ⟨#[98]⟩, .map (some m)] w fun e w' => e = .returned (.string ⟨#[42, 32, 98, 32, 120, 32, 83]⟩) ∧ Below w.heap.size w w' := by
  go_enter Tryd.func18, Tryd.ntmps18
  go_wp2_with (first
    | (at_lookup; refine wpList_lookup_own1 _ rfl _ _ 58 rfl 9 34 law9 Tryd.underlying58 RV (zero34 _) (.lit (.bool false)) [] RV_Z _ 1 _ rfl hk _ _ rfl key_b ?_; intro v ps hv; rw [atKey_put_same ⟨_, rfl⟩ (by trivial)] at hv; obtain rfl := RV_inv hv; clear hv; unfold vB)
    | go_in)
  refine wp_region_quiet_all (CQ _) (by kernel_rfl) (by kernel_rfl) (CQ.start _) ?_
  iterate 14 (refine wpQuiet_step (fun K hK => ?_); go_simp; first | (refine hK _ ?_; clear hK K) |
    (apply Exists.intro; refine ⟨fun _ => ?_, hK _ ?_⟩; ((intro hw; first
    | (go_at_call_of 5 (Value.string ⟨#[98]⟩); exact hw.esc ⟨#[98]⟩ ⟨#[98]⟩ (by decide) (by decide +kernel))
    | (go_at_call_of 5 (Value.string ⟨#[120]⟩); exact hw.esc ⟨#[120]⟩ ⟨#[120]⟩ (by decide) (by decide +kernel))
    | (go_at_call_of 5 (Value.string ⟨#[83]⟩); exact hw.esc ⟨#[83]⟩ ⟨#[83]⟩ (by decide) (by decide +kernel))
    | (obtain ⟨L, d, rfl⟩ := hw; (try go_simp); with_reducible rfl))); clear hK K))
  refine wpQuiet_nil ?_
  rintro w3 ⟨L8, d8, rfl⟩
  go_wp2
  go_ret
  refine ⟨?_, ?_⟩
  · exact congrArg (fun x => Ending.returned (Value.string x)) (by kernel_rfl)
  · (repeat' (first | (with_reducible exact Below.refl _ _) | (with_reducible refine Below.mored _ _ _ ?_ ?_) | (with_reducible refine Below.alloc ?_ ?_ _) | (with_reducible refine Below.drewN' _ ?_ _) | (with_reducible refine Below.drew ?_) | (with_reducible refine Below.setCell ?_ ?_ _) | (simp only [World.more_size, World.size_alloc, World.size_setCell, World.size_drew, World.heap_drewN]; omega) | go_size))

theorem thread_const (bn on_ cn bv ov cv : Nat) (w : World) (hbn : bn < w.heap.size) (hbv : bv < w.heap.size)
    (n0 : w.cell? ⟨bn, on_, none⟩ = some (.string ⟨#[97]⟩)) (n1 : w.cell? ⟨bn, on_ + 1, none⟩ = some (.bool true)) (n2 : w.cell? ⟨bn, on_ + 2, none⟩ = some (.int .i64 (-1))) (n3 : w.cell? ⟨bn, on_ + 3, none⟩ = some (.int .i64 0))
    (n4 : w.cell? ⟨bn, on_ + 4, none⟩ = some (.string ⟨#[98]⟩)) (n5 : w.cell? ⟨bn, on_ + 5, none⟩ = some (.bool false)) (n6 : w.cell? ⟨bn, on_ + 6, none⟩ = some (.int .i64 0)) (n7 : w.cell? ⟨bn, on_ + 7, none⟩ = some (.int .i64 1))
    (h0 : w.cell? ⟨bv, ov, none⟩ = some (.string ⟨#[98]⟩)) (h1 : w.cell? ⟨bv, ov + 1, none⟩ = some (.string ⟨#[120]⟩)) (h2 : w.cell? ⟨bv, ov + 2, none⟩ = some (.string ⟨#[83]⟩)) (h3 : w.cell? ⟨bv, ov + 3, none⟩ = some (.int .i64 0))
    (h4 : w.cell? ⟨bv, ov + 4, none⟩ = some (.int .i64 0)) (h5 : w.cell? ⟨bv, ov + 5, none⟩ = some (.slice none 0 0)) (h6 : w.cell? ⟨bv, ov + 6, none⟩ = some (.string ⟨#[]⟩)) (h7 : w.cell? ⟨bv, ov + 7, none⟩ = some (.slice none 0 0)) :
    Calls Tryd.prog 7 #[.slice (some ⟨bn, on_, none⟩) 2 cn, .slice (some ⟨bv, ov, none⟩) 1 cv] w fun e w' => e = .returned (.string ⟨(unl [⟨#[63, 32, 97]⟩, ⟨#[32, 32, 42, 32, 98, 32, 120, 32, 83]⟩]).toArray⟩) ∧ Below w.heap.size w w' := by
  have hF := Lib.hid (first_const bv ov cv w hbv h0 h1 h2 h3 h4 h5 h6 h7)
  clear h0 h1 h2 h3 h4 h5 h6 h7
  go_enter Tryd.func7, Tryd.ntmps7
  go_wp2_with (go_at_call 17; refine hF.out.mono ?_; rintro e X ⟨rfl, hk, hbX⟩)
  have HK := Lib.hid hk
  have p0 := (hbX.cell (p := ⟨bn, on_, none⟩) hbn).trans n0
  have p1 := (hbX.cell (p := ⟨bn, on_ + 1, none⟩) hbn).trans n1
  have p2 := (hbX.cell (p := ⟨bn, on_ + 2, none⟩) hbn).trans n2
  have p3 := (hbX.cell (p := ⟨bn, on_ + 3, none⟩) hbn).trans n3
  have p4 := (hbX.cell (p := ⟨bn, on_ + 4, none⟩) hbn).trans n4
  have p5 := (hbX.cell (p := ⟨bn, on_ + 5, none⟩) hbn).trans n5
  have p6 := (hbX.cell (p := ⟨bn, on_ + 6, none⟩) hbn).trans n6
  have p7 := (hbX.cell (p := ⟨bn, on_ + 7, none⟩) hbn).trans n7
  have lbn : bn < X.heap.size := Nat.lt_of_lt_of_le hbn hbX.size
  have lm : w.heap.size < X.heap.size := hk.lt
  have HBX := Lib.hid hbX
  clear n0 n1 n2 n3 n4 n5 n6 n7 hk hbX hbn hbv
  obtain ⟨i0, hi0, hz0, hz1, hz2⟩ := info_parts strInfo
  refine wp_loop_rounds 3 ?_
  rw [rounds_succ]
  go_wp2_with (first
    | (go_at_call 5; refine (escC ⟨#[97]⟩ ⟨#[97]⟩ (by decide) (by decide +kernel) _).mono ?_; rintro e w' ⟨rfl, hb⟩; obtain ⟨L1, d1, rfl⟩ := hb.more; clear hb)
    | (go_at_call 19; refine (Tryd.strings_Repeat_zero _ _).mono ?_; rintro e w' ⟨rfl, rfl⟩)
    | (at_builtin; refine wpList_append_own _ rfl _ _ 60 rfl X.heap.size 9 i0 (.string ⟨#[]⟩) 1 16 Tryd.underlying60 hi0 hz0 hz1 hz2 rfl (by omega) (.slice none 0 0) 0 [] rfl (World.ownsRow_nil _ _ _ _) ⟨X.heap.size + 1 + L1.length, 0, none⟩ 1 1 [.string ((⟨#[]⟩ : ByteArray) ++ ((⟨#[63, 32]⟩ : ByteArray) ++ ⟨#[97]⟩))] rfl rfl ?a1 ?a2 ?a3 ?a4 ?a5 ?_))
  case a1 =>
    intro j u hj
    match j, hj with
    | 0, hj => simp at hj; subst hj; simp [Addr.add, go_sem]
  case a2 => intro u hu; simp at hu; subst hu; rfl
  case a3 => decide
  case a4 => omega
  case a5 => simp only [World.more_size, World.size_alloc]; omega
  intro v1 w1 hown1 hg1 _
  have hbel : Below X.heap.size X w1 := by
    refine (Below.alloc (Below.mored _ _ _ (Below.alloc (Below.refl X.heap.size X) (Nat.le_refl _) _) ?_) ?_ _).grown hg1 ?_ (fun k hk => by simp [Value.ownBlock] at hk)
    all_goals (simp only [World.more_size, World.size_alloc]; omega)
  obtain ⟨L9, d9, rfl⟩ := hbel.more
  rw [show ((⟨#[]⟩ : ByteArray) ++ ((⟨#[63, 32]⟩ : ByteArray) ++ ⟨#[97]⟩)) = ⟨#[63, 32, 97]⟩ by kernel_rfl] at hown1
  have HO9 := Lib.hid hown1
  clear hown1 hg1 hbel
  go_wp2
  rw [rounds_succ]
  go_wp2_with (fail)
  obtain ⟨Y, hY⟩ : ∃ Y, Y = (X.more L9 d9).alloc (.cells #[.string ⟨#[98]⟩, .bool false, .int .i64 0, .int .i64 1] 29) := ⟨_, rfl⟩
  have y0 : Y.cell? ⟨X.heap.size + L9.length, 0, none⟩ = some (.string ⟨#[98]⟩) := by rw [hY]; go_simp
  have y1 : Y.cell? ⟨X.heap.size + L9.length, 1, none⟩ = some (.bool false) := by rw [hY]; go_simp
  have y3 : Y.cell? ⟨X.heap.size + L9.length, 3, none⟩ = some (.int .i64 1) := by rw [hY]; go_simp
  have hYs : Y.heap.size = X.heap.size + L9.length + 1 := by rw [hY, World.size_alloc, World.more_size]
  have ly : X.heap.size + L9.length < Y.heap.size := by omega
  have HKY := Lib.hid (show Known Y w.heap.size by rw [hY]; exact World.ownsMap.alloc (ownsMap_more HK.out _ _) _)
  have HOY : Hid (Y.ownsRow X.heap.size 9 1 v1 1 _) := Lib.hid (by rw [hY]; exact World.ownsRow.alloc HO9.out _)
  have HBY := Lib.hid (show Below X.heap.size X Y by rw [hY]; exact ((Below.refl X.heap.size X).mored _ _ _ (Nat.le_refl _)).alloc (by rw [World.more_size]; omega) _)
  rw [← hY]
  clear hY HO9 HK p0 p1 p2 p3 p4 p5 p6 p7
  have hXY : X.heap.size ≤ Y.heap.size := by omega
  clear hYs
  go_wp2_with (first
    | (go_at_call 5; refine (escC ⟨#[98]⟩ ⟨#[98]⟩ (by decide) (by decide +kernel) _).mono ?_; rintro e w' ⟨rfl, hb⟩; obtain ⟨L1, d1, rfl⟩ := hb.more; clear hb)
    | (go_at_call 18; refine (entry_const w.heap.size (Y.more L1 d1) (ownsMap_more HKY.out _ _)).mono ?_; rintro e w' ⟨rfl, hb⟩; obtain ⟨L2, d2, rfl⟩ := below_of_more (X := Y) (hb.mono (by rw [World.more_size]; omega)); clear hb)
    | (go_at_call 19; refine (Tryd.strings_Repeat_one _ _).mono ?_; rintro e w' ⟨rfl, rfl⟩)
    | (at_builtin; refine wpList_append_own _ rfl _ _ 60 rfl X.heap.size 9 i0 (.string ⟨#[]⟩) 1 16 Tryd.underlying60 hi0 hz0 hz1 hz2 rfl (by omega) v1 1 _ rfl (World.ownsRow.alloc (ownsRow_more HOY.out _ _) _) ⟨Y.heap.size + L2.length, 0, none⟩ 1 1 [.string ((⟨#[32, 32]⟩ : ByteArray) ++ ⟨#[42, 32, 98, 32, 120, 32, 83]⟩)] rfl rfl ?b1 ?b2 ?b3 ?b4 ?b5 ?_))
  case b1 =>
    intro j u hj
    match j, hj with
    | 0, hj => simp at hj; subst hj; simp [Addr.add, go_sem]
  case b2 => intro u hu; simp at hu; subst hu; rfl
  case b3 => decide
  case b4 => omega
  case b5 => simp only [World.more_size, World.size_alloc]; omega
  intro v2 w2 hown2 hg2 _
  have hvb : ∀ k, v1.ownBlock = some k → X.heap.size ≤ k ∧ k < Y.heap.size := World.ownsRow.lt HOY.out
  have hbel : Below X.heap.size X w2 := by
    refine (Below.alloc (Below.mored _ _ _ HBY.out ?_) ?_ _).grown hg2 ?_ (fun k hk => (hvb k hk).1)
    all_goals ((try simp only [World.more_size, World.size_alloc]); omega)
  rw [show ((⟨#[32, 32]⟩ : ByteArray) ++ ⟨#[42, 32, 98, 32, 120, 32, 83]⟩) = ⟨#[32, 32, 42, 32, 98, 32, 120, 32, 83]⟩ by kernel_rfl] at hown2
  obtain ⟨g, cap, rfl, hlines⟩ := lines_of_own (ls := [⟨#[63, 32, 97]⟩, ⟨#[32, 32, 42, 32, 98, 32, 120, 32, 83]⟩]) hown2 (by decide)
  clear hown2 hg2 hvb HOY HKY
  go_wp2
  rw [rounds_succ]
  have hul := unlines_any g 0 cap _ _ hlines (by decide) (by decide)
  have HUL := Lib.hid hul
  clear hul hlines
  go_wp2_with (go_at_call 20; refine HUL.out.mono ?_; rintro e w' ⟨rfl, hb⟩)
  go_ret
  refine ⟨rfl, ?_⟩
  have h1 : Below X.heap.size X _ := hbel.trans (hb.mono hbel.size)
  exact HBX.out.trans (h1.mono HBX.out.size)
end Go.Proofs.YteipljggjegpoaaDoor
