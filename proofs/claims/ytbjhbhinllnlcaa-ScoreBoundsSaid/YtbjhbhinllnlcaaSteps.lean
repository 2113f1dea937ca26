import Derived.Test.YtbjhbhinllnlcaaRows
import Derived.Test.YtbjhbhinllnlcaaPlain
import Derived.WalkKit
import Derived.ProofKit
import Derived.Outline
import Derived.WalkLawsBesides
import Derived.WalkSpells
import Derived.Lib.Hide
import Derived.Deep.RegionHeld3
import Derived.Deep.DrawnRows
import Derived.Deep.QuietTactic
import Derived.BigQuiet
import Derived.Deep.DeepFit
import Derived.StillTailTactics
import Derived.Handy
import Derived.Test.YtbjhbhinllnlcaaBounce
namespace Go.Proofs.Ytbjhbhinllnlcaa
open Go.ChangeShapes Go.WideShapes Go.ChangeAt Go.RowKit
set_option maxHeartbeats 800000
set_option linter.unusedSimpArgs false

theorem hv_eq (a : ByteArray) {r s : Sc.Hl} (h : r = s) : hv a r = hv a s := by rw [h]

theorem down_ok (a : ByteArray) (h : Sc.Hl) (n : Int) (w : World) :
    Calls Try.prog 17 #[hv a h, .int .i64 n, .bool true] w fun e w' => e = .returned (hv a (Sc.dnOk h)) ∧ Below w.heap.size w w' := by
  obtain ⟨sc, day, tod, st, nx, pr⟩ := h
  by_cases h2 : st = 2
  · subst h2
    rw [hv_eq a (show Sc.dnOk ⟨sc, day, tod, 2, nx, pr⟩ = ⟨0, day, tod, 0, 0, 0⟩ by simp [Sc.dnOk])]
    unfold hv hcs
    go_enter Try.func17, Try.ntmps17
    go_wp2
    refine bodyPost_ret (v := (.agg #[.string a, .int .i64 0, .int .i64 day, .int .i64 tod, .int .i64 0, .int .i64 0, .int .i64 0])) (by simp [results, Try.results17, go_sem]) rfl ⟨rfl, by repeat' (first | (with_reducible exact Below.refl _ _) | (with_reducible refine Below.mored _ _ _ ?_ ?_) | (with_reducible refine Below.alloc ?_ ?_ _) | (with_reducible refine Below.drewN' _ ?_ _) | (with_reducible refine Below.drew ?_) | (with_reducible refine Below.setCell ?_ ?_ _) | (simp only [World.more_size, World.size_alloc, World.size_setCell, World.size_drew, World.heap_drewN]; omega) | go_size)⟩
  · rw [hv_eq a (show Sc.dnOk ⟨sc, day, tod, st, nx, pr⟩ = ⟨sc, day, tod, st, nx, pr⟩ by simp [Sc.dnOk, h2])]
    have h2' : (st != 2) = true := by simpa using h2
    unfold hv hcs
    go_enter Try.func17, Try.ntmps17
    go_wp2
    refine bodyPost_ret (v := (.agg #[.string a, .int .i64 sc, .int .i64 day, .int .i64 tod, .int .i64 st, .int .i64 nx, .int .i64 pr])) (by simp [results, Try.results17, go_sem]) rfl ⟨rfl, by repeat' (first | (with_reducible exact Below.refl _ _) | (with_reducible refine Below.mored _ _ _ ?_ ?_) | (with_reducible refine Below.alloc ?_ ?_ _) | (with_reducible refine Below.drewN' _ ?_ _) | (with_reducible refine Below.drew ?_) | (with_reducible refine Below.setCell ?_ ?_ _) | (simp only [World.more_size, World.size_alloc, World.size_setCell, World.size_drew, World.heap_drewN]; omega) | go_size)⟩

theorem down_no (a : ByteArray) (h : Sc.Hl) (n : Int) (w : World) (h0 : 0 ≤ n) (h1 : n ≤ 1000000000000000000) (b1 : 0 ≤ h.sc) (b2 : h.sc ≤ 1000000000000000) 
    (b5 : Sc.dy n ≤ h.day → -1000000 ≤ h.tod) (b6 : -1 ≤ h.day) (b7 : h.day ≤ 1000000000000000000) (p0 : 0 ≤ h.pr) (p1 : h.pr ≤ 1000) :
    Calls Try.prog 17 #[hv a h, .int .i64 n, .bool false] w fun e w' => e = .returned (hv a (Sc.dnNo h n)) ∧ Below w.heap.size w w' := by
  obtain ⟨sc, day, tod, st, nx, pr⟩ := h
  simp only at b1 b2 b5 b6 b7 p0 p1
  have B5 := Lib.hid b5
  clear b5
  by_cases h2 : st = 2
  · subst h2
    by_cases q3 : 3 ≤ pr + 1
    · rw [hv_eq a (show Sc.dnNo ⟨sc, day, tod, 2, nx, pr⟩ n = ⟨sc, day, tod, 3, 0, pr + 1⟩ by simp [Sc.dnNo, q3])]
      unfold hv hcs
      go_enter Try.func17, Try.ntmps17
      go_wp2
      refine bodyPost_ret (v := (.agg #[.string a, .int .i64 sc, .int .i64 day, .int .i64 tod, .int .i64 3, .int .i64 0, .int .i64 (pr + 1)])) (by simp [results, Try.results17, go_sem]) rfl ⟨rfl, by repeat' (first | (with_reducible exact Below.refl _ _) | (with_reducible refine Below.mored _ _ _ ?_ ?_) | (with_reducible refine Below.alloc ?_ ?_ _) | (with_reducible refine Below.drewN' _ ?_ _) | (with_reducible refine Below.drew ?_) | (with_reducible refine Below.setCell ?_ ?_ _) | (simp only [World.more_size, World.size_alloc, World.size_setCell, World.size_drew, World.heap_drewN]; omega) | go_size)⟩
    · by_cases q1 : pr + 1 ≤ 1
      · rw [hv_eq a (show Sc.dnNo ⟨sc, day, tod, 2, nx, pr⟩ n = ⟨sc, day, tod, 1, n + 259200000, pr + 1⟩ by simp [Sc.dnNo, q3, q1])]
        unfold hv hcs
        go_enter Try.func17, Try.ntmps17
        go_wp2
        refine bodyPost_ret (v := (.agg #[.string a, .int .i64 sc, .int .i64 day, .int .i64 tod, .int .i64 1, .int .i64 (n + 259200000), .int .i64 (pr + 1)])) (by simp [results, Try.results17, go_sem]) rfl ⟨rfl, by repeat' (first | (with_reducible exact Below.refl _ _) | (with_reducible refine Below.mored _ _ _ ?_ ?_) | (with_reducible refine Below.alloc ?_ ?_ _) | (with_reducible refine Below.drewN' _ ?_ _) | (with_reducible refine Below.drew ?_) | (with_reducible refine Below.setCell ?_ ?_ _) | (simp only [World.more_size, World.size_alloc, World.size_setCell, World.size_drew, World.heap_drewN]; omega) | go_size)⟩
      · rw [hv_eq a (show Sc.dnNo ⟨sc, day, tod, 2, nx, pr⟩ n = ⟨sc, day, tod, 1, n + 604800000, pr + 1⟩ by simp [Sc.dnNo, q3, q1])]
        unfold hv hcs
        go_enter Try.func17, Try.ntmps17
        go_wp2
        refine bodyPost_ret (v := (.agg #[.string a, .int .i64 sc, .int .i64 day, .int .i64 tod, .int .i64 1, .int .i64 (n + 604800000), .int .i64 (pr + 1)])) (by simp [results, Try.results17, go_sem]) rfl ⟨rfl, by repeat' (first | (with_reducible exact Below.refl _ _) | (with_reducible refine Below.mored _ _ _ ?_ ?_) | (with_reducible refine Below.alloc ?_ ?_ _) | (with_reducible refine Below.drewN' _ ?_ _) | (with_reducible refine Below.drew ?_) | (with_reducible refine Below.setCell ?_ ?_ _) | (simp only [World.more_size, World.size_alloc, World.size_setCell, World.size_drew, World.heap_drewN]; omega) | go_size)⟩
  · have h2' : (st != 2) = true := by simpa using h2
    rw [hv_eq a (show Sc.dnNo ⟨sc, day, tod, st, nx, pr⟩ n = Sc.bnc ⟨sc, day, tod, st, nx, pr⟩ n 1000 by simp [Sc.dnNo, h2])]
    obtain ⟨v, hv1⟩ : ∃ v, hv a (Sc.bnc ⟨sc, day, tod, st, nx, pr⟩ n 1000) = v := ⟨_, rfl⟩
    rw [hv1]
    have HV := Lib.hid hv1
    clear hv1
    unfold hv hcs
    go_enter Try.func17, Try.ntmps17
    go_wp2_with fail
    refine (open_hv (bounce_any a ⟨sc, day, tod, st, nx, pr⟩ n true _ h0 h1 b1 b2 B5.out b6 b7)).mono ?_
    rintro e w1 ⟨x1, x2, x3, x4, x5, x6, rfl, hr, L, k, rfl⟩
    go_wp2
    refine bodyPost_ret (v := (.agg #[.string a, .int .i64 x1, .int .i64 x2, .int .i64 x3, .int .i64 x4, .int .i64 x5, .int .i64 x6])) (by simp [results, Try.results17, go_sem]) rfl ⟨by rw [← HV.out]; simp only [if_true] at hr; rw [← hr.out]; rfl, by repeat' (first | (with_reducible exact Below.refl _ _) | (with_reducible refine Below.mored _ _ _ ?_ ?_) | (with_reducible refine Below.alloc ?_ ?_ _) | (with_reducible refine Below.drewN' _ ?_ _) | (with_reducible refine Below.drew ?_) | (with_reducible refine Below.setCell ?_ ?_ _) | (simp only [World.more_size, World.size_alloc, World.size_setCell, World.size_drew, World.heap_drewN]; omega) | go_size)⟩

theorem success_any (a : ByteArray) (h : Sc.Hl) (n : Int) (w : World) (h0 : 0 ≤ n) (h1 : n ≤ 1000000000000000000) (b6 : -1 ≤ h.day) (b7 : h.day ≤ 1000000000000000000) :
    Calls Try.prog 15 #[hv a h, .int .i64 n] w fun e w' => e = .returned (hv a (Sc.suc h n)) ∧ Below w.heap.size w w' := by
  obtain ⟨sc, day, tod, st, nx, pr⟩ := h
  simp only at b6 b7
  by_cases t : st = 0
  · subst t
    by_cases q : day + 1 < Sc.dy n
    · rw [hv_eq a (show Sc.suc ⟨sc, day, tod, 0, nx, pr⟩ n = ⟨0, day, tod, 0, nx, pr⟩ by simp [Sc.suc, q])]
      unfold hv hcs
      go_enter Try.func15, Try.ntmps15
      go_wp2
      go_quiet ((go_at_call 19; exact Calls.quiet_of_same ((day_any n _ h0 (by omega)).mono fun _ _ ⟨he, hw⟩ => ⟨he, hw.symm⟩)))
      go_wp2
      refine bodyPost_ret (v := (.agg #[.string a, .int .i64 0, .int .i64 day, .int .i64 tod, .int .i64 0, .int .i64 nx, .int .i64 pr])) (by simp [results, Try.results15, go_sem]) rfl ⟨rfl, by repeat' (first | (with_reducible exact Below.refl _ _) | (with_reducible refine Below.mored _ _ _ ?_ ?_) | (with_reducible refine Below.alloc ?_ ?_ _) | (with_reducible refine Below.drewN' _ ?_ _) | (with_reducible refine Below.drew ?_) | (with_reducible refine Below.setCell ?_ ?_ _) | (simp only [World.more_size, World.size_alloc, World.size_setCell, World.size_drew, World.heap_drewN]; omega) | go_size)⟩
    · rw [hv_eq a (show Sc.suc ⟨sc, day, tod, 0, nx, pr⟩ n = ⟨sc, day, tod, 0, nx, pr⟩ by simp [Sc.suc, q])]
      unfold hv hcs
      go_enter Try.func15, Try.ntmps15
      go_wp2
      go_quiet ((go_at_call 19; exact Calls.quiet_of_same ((day_any n _ h0 (by omega)).mono fun _ _ ⟨he, hw⟩ => ⟨he, hw.symm⟩)))
      go_wp2
      refine bodyPost_ret (v := (.agg #[.string a, .int .i64 sc, .int .i64 day, .int .i64 tod, .int .i64 0, .int .i64 nx, .int .i64 pr])) (by simp [results, Try.results15, go_sem]) rfl ⟨rfl, by repeat' (first | (with_reducible exact Below.refl _ _) | (with_reducible refine Below.mored _ _ _ ?_ ?_) | (with_reducible refine Below.alloc ?_ ?_ _) | (with_reducible refine Below.drewN' _ ?_ _) | (with_reducible refine Below.drew ?_) | (with_reducible refine Below.setCell ?_ ?_ _) | (simp only [World.more_size, World.size_alloc, World.size_setCell, World.size_drew, World.heap_drewN]; omega) | go_size)⟩
  · rw [hv_eq a (show Sc.suc ⟨sc, day, tod, st, nx, pr⟩ n = ⟨sc, day, tod, st, nx, pr⟩ by simp [Sc.suc, t])]
    have t' : (st == 0) = false := by simpa using t
    unfold hv hcs
    go_enter Try.func15, Try.ntmps15
    go_wp2
    go_quiet (fail)
    go_wp2
    refine bodyPost_ret (v := (.agg #[.string a, .int .i64 sc, .int .i64 day, .int .i64 tod, .int .i64 st, .int .i64 nx, .int .i64 pr])) (by simp [results, Try.results15, go_sem]) rfl ⟨rfl, by repeat' (first | (with_reducible exact Below.refl _ _) | (with_reducible refine Below.mored _ _ _ ?_ ?_) | (with_reducible refine Below.alloc ?_ ?_ _) | (with_reducible refine Below.drewN' _ ?_ _) | (with_reducible refine Below.drew ?_) | (with_reducible refine Below.setCell ?_ ?_ _) | (simp only [World.more_size, World.size_alloc, World.size_setCell, World.size_drew, World.heap_drewN]; omega) | go_size)⟩

theorem tick_any (a : ByteArray) (h : Sc.Hl) (n : Int) (w : World) (h0 : 0 ≤ n) (h1 : n ≤ 1000000000000000000) (b1 : 0 ≤ h.sc) (b2 : h.sc ≤ 1000000000000000) 
    (b5 : Sc.dy n ≤ h.day → -1000000 ≤ h.tod) (b6 : -1 ≤ h.day) (b7 : h.day ≤ 1000000000000000000) (p0 : 0 ≤ h.pr) (p1 : h.pr ≤ 1000) :
    Calls Try.prog 16 #[hv a h, .int .i64 n] w fun e w' => e = .returned (.tuple #[hv a (Sc.tck h n).1, .bool (Sc.tck h n).2]) ∧ Below w.heap.size w w' := by
  obtain ⟨sc, day, tod, st, nx, pr⟩ := h
  simp only at b1 b2 b5 b6 b7 p0 p1
  have B5 := Lib.hid b5
  clear b5
  by_cases q : n < nx
  · rw [show Sc.tck ⟨sc, day, tod, st, nx, pr⟩ n = (⟨sc, day, tod, st, nx, pr⟩, false) by simp [Sc.tck, q]]
    unfold hv hcs
    go_enter Try.func16, Try.ntmps16
    go_wp2
    refine bodyPost_ret (v := (.tuple #[.agg #[.string a, .int .i64 sc, .int .i64 day, .int .i64 tod, .int .i64 st, .int .i64 nx, .int .i64 pr], .bool false])) (by simp [results, Try.results16, go_sem]) rfl ⟨rfl, by repeat' (first | (with_reducible exact Below.refl _ _) | (with_reducible refine Below.mored _ _ _ ?_ ?_) | (with_reducible refine Below.alloc ?_ ?_ _) | (with_reducible refine Below.drewN' _ ?_ _) | (with_reducible refine Below.drew ?_) | (with_reducible refine Below.setCell ?_ ?_ _) | (simp only [World.more_size, World.size_alloc, World.size_setCell, World.size_drew, World.heap_drewN]; omega) | go_size)⟩
  · by_cases t1 : st = 1
    · subst t1
      rw [show Sc.tck ⟨sc, day, tod, 1, nx, pr⟩ n = (⟨sc, day, tod, 2, n + 604800000, pr⟩, true) by simp [Sc.tck, q]]
      unfold hv hcs
      go_enter Try.func16, Try.ntmps16
      go_wp2
      refine bodyPost_ret (v := (.tuple #[.agg #[.string a, .int .i64 sc, .int .i64 day, .int .i64 tod, .int .i64 2, .int .i64 (n + 604800000), .int .i64 pr], .bool true])) (by simp [results, Try.results16, go_sem]) rfl ⟨rfl, by repeat' (first | (with_reducible exact Below.refl _ _) | (with_reducible refine Below.mored _ _ _ ?_ ?_) | (with_reducible refine Below.alloc ?_ ?_ _) | (with_reducible refine Below.drewN' _ ?_ _) | (with_reducible refine Below.drew ?_) | (with_reducible refine Below.setCell ?_ ?_ _) | (simp only [World.more_size, World.size_alloc, World.size_setCell, World.size_drew, World.heap_drewN]; omega) | go_size)⟩
    · have t1' : (st == 1) = false := by simpa using t1
      by_cases t2 : st = 2
      · subst t2
        rw [show Sc.tck ⟨sc, day, tod, 2, nx, pr⟩ n = (Sc.dnNo ⟨sc, day, tod, 2, nx, pr⟩ n, false) by simp [Sc.tck, q]]
        obtain ⟨v, hv1⟩ : ∃ v, hv a (Sc.dnNo ⟨sc, day, tod, 2, nx, pr⟩ n) = v := ⟨_, rfl⟩
        simp only [hv1]
        have HV := Lib.hid hv1
        clear hv1
        unfold hv hcs
        go_enter Try.func16, Try.ntmps16
        go_wp2_with fail
        refine (open_hv (down_no a ⟨sc, day, tod, 2, nx, pr⟩ n _ h0 h1 b1 b2 B5.out b6 b7 p0 p1)).mono ?_
        rintro e w1 ⟨x1, x2, x3, x4, x5, x6, rfl, hr, L, k, rfl⟩
        go_wp2
        refine bodyPost_ret (v := (.tuple #[.agg #[.string a, .int .i64 x1, .int .i64 x2, .int .i64 x3, .int .i64 x4, .int .i64 x5, .int .i64 x6], .bool false])) (by simp [results, Try.results16, go_sem]) rfl ⟨by rw [← HV.out, ← hr.out]; rfl, by repeat' (first | (with_reducible exact Below.refl _ _) | (with_reducible refine Below.mored _ _ _ ?_ ?_) | (with_reducible refine Below.alloc ?_ ?_ _) | (with_reducible refine Below.drewN' _ ?_ _) | (with_reducible refine Below.drew ?_) | (with_reducible refine Below.setCell ?_ ?_ _) | (simp only [World.more_size, World.size_alloc, World.size_setCell, World.size_drew, World.heap_drewN]; omega) | go_size)⟩
      · have t2' : (st == 2) = false := by simpa using t2
        rw [show Sc.tck ⟨sc, day, tod, st, nx, pr⟩ n = (⟨sc, day, tod, st, nx, pr⟩, false) by simp [Sc.tck, q, t1, t2]]
        unfold hv hcs
        go_enter Try.func16, Try.ntmps16
        go_wp2
        refine bodyPost_ret (v := (.tuple #[.agg #[.string a, .int .i64 sc, .int .i64 day, .int .i64 tod, .int .i64 st, .int .i64 nx, .int .i64 pr], .bool false])) (by simp [results, Try.results16, go_sem]) rfl ⟨rfl, by repeat' (first | (with_reducible exact Below.refl _ _) | (with_reducible refine Below.mored _ _ _ ?_ ?_) | (with_reducible refine Below.alloc ?_ ?_ _) | (with_reducible refine Below.drewN' _ ?_ _) | (with_reducible refine Below.drew ?_) | (with_reducible refine Below.setCell ?_ ?_ _) | (simp only [World.more_size, World.size_alloc, World.size_setCell, World.size_drew, World.heap_drewN]; omega) | go_size)⟩

theorem new_any (a : ByteArray) (w : World) :
    Calls Try.prog 10 #[.string a] w fun e w' => e = .returned (hv a Sc.new) ∧ Below w.heap.size w w' := by
  unfold hv hcs
  go_enter Try.func10, Try.ntmps10
  go_wp2
  refine bodyPost_ret (v := (.agg #[.string a, .int .i64 0, .int .i64 (-1), .int .i64 0, .int .i64 0, .int .i64 0, .int .i64 0])) (by simp [results, Try.results10, go_sem]) rfl ⟨rfl, by repeat' (first | (with_reducible exact Below.refl _ _) | (with_reducible refine Below.mored _ _ _ ?_ ?_) | (with_reducible refine Below.alloc ?_ ?_ _) | (with_reducible refine Below.drewN' _ ?_ _) | (with_reducible refine Below.drew ?_) | (with_reducible refine Below.setCell ?_ ?_ _) | (simp only [World.more_size, World.size_alloc, World.size_setCell, World.size_drew, World.heap_drewN]; omega) | go_size)⟩

theorem new_lit (a : ByteArray) (w : World) :
    Calls Try.prog 10 #[.string a] w fun e w' => e = .returned (.agg #[.string a, .int .i64 0, .int .i64 (-1), .int .i64 0, .int .i64 0, .int .i64 0, .int .i64 0]) ∧ ∃ L d, w' = w.more L d :=
  (new_any a w).mono fun _ _ ⟨he, hb⟩ => ⟨he, hb.more⟩

theorem resume_any (a : ByteArray) (h : Sc.Hl) (w : World) :
    Calls Try.prog 14 #[hv a h] w fun e w' => e = .returned (hv a Sc.new) ∧ Below w.heap.size w w' := by
  obtain ⟨sc, day, tod, st, nx, pr⟩ := h
  unfold hv hcs
  go_enter Try.func14, Try.ntmps14
  go_wp2_with (go_at_call 10; refine (new_lit a _).mono ?_; rintro e w1 ⟨rfl, L, k, rfl⟩)
  all_goals
    refine bodyPost_ret (v := .agg #[.string a, .int .i64 0, .int .i64 (-1), .int .i64 0, .int .i64 0, .int .i64 0, .int .i64 0]) (by simp [results, Try.results14, go_sem, *]) rfl ⟨by simp [Sc.new], by repeat' (first | (with_reducible exact Below.refl _ _) | (with_reducible refine Below.mored _ _ _ ?_ ?_) | (with_reducible refine Below.alloc ?_ ?_ _) | (with_reducible refine Below.drewN' _ ?_ _) | (with_reducible refine Below.drew ?_) | (with_reducible refine Below.setCell ?_ ?_ _) | (simp only [World.more_size, World.size_alloc, World.size_setCell, World.size_drew, World.heap_drewN]; omega) | go_size)⟩

theorem open_hv2 {P : Program} {f : FuncId} {args : Array Value} {w : World} {a : ByteArray} {r : Sc.Hl} {b : Bool} (h : Calls P f args w fun e w' => e = .returned (.tuple #[hv a r, .bool b]) ∧ Below w.heap.size w w') :
    Calls P f args w fun e w' => ∃ x1 x2 x3 x4 x5 x6 q, e = .returned (.tuple #[.agg #[.string a, .int .i64 x1, .int .i64 x2, .int .i64 x3, .int .i64 x4, .int .i64 x5, .int .i64 x6], .bool q]) ∧ Hid ((⟨x1, x2, x3, x4, x5, x6⟩ : Sc.Hl) = r ∧ q = b) ∧ ∃ L d, w' = w.more L d :=
  h.mono fun _ _ ⟨he, hb⟩ => ⟨r.sc, r.day, r.tod, r.st, r.nx, r.pr, b, he, ⟨rfl, rfl⟩, hb.more⟩

theorem do_any (a : ByteArray) (h : Sc.Hl) (k n : Int) (w : World) (h0 : 0 ≤ n) (h1 : n ≤ 1000000000000000000) (b1 : 0 ≤ h.sc) (b2 : h.sc ≤ 1000000000000000) 
    (b5 : -1000000 ≤ h.tod) (b6 : -1 ≤ h.day) (b7 : h.day ≤ 1000000000000000000) (p0 : 0 ≤ h.pr) (p1 : h.pr ≤ 1000) :
    Calls Try.prog 11 #[hv a h, .agg #[.int .i64 k, .int .i64 n]] w fun e w' => e = .returned (.tuple #[hv a (Sc.stp h k n).1, .bool (Sc.stp h k n).2]) ∧ Below w.heap.size w w' := by
  obtain ⟨sc, day, tod, st, nx, pr⟩ := h
  simp only at b1 b2 b5 b6 b7 p0 p1
  obtain ⟨v, hv1⟩ : ∃ v, Value.tuple #[hv a (Sc.stp ⟨sc, day, tod, st, nx, pr⟩ k n).1, .bool (Sc.stp ⟨sc, day, tod, st, nx, pr⟩ k n).2] = v := ⟨_, rfl⟩
  rw [hv1]
  have HV := Lib.hid hv1
  clear hv1
  unfold hv hcs
  by_cases k0 : k = 0
  · subst k0
    go_enter Try.func11, Try.ntmps11
    go_wp2_with (go_at_call 8; refine (open_hv (bounce_any a ⟨sc, day, tod, st, nx, pr⟩ n false _ h0 h1 b1 b2 (fun _ => b5) b6 b7)).mono ?_; rintro e w1 ⟨x1, x2, x3, x4, x5, x6, rfl, hr, L, d, rfl⟩)
    refine bodyPost_ret (v := (.tuple #[.agg #[.string a, .int .i64 x1, .int .i64 x2, .int .i64 x3, .int .i64 x4, .int .i64 x5, .int .i64 x6], .bool false])) (by simp [results, Try.results11, go_sem]) rfl ⟨by rw [← HV.out]; have h1 := hr.out; (try simp only [if_true, if_false, Bool.false_eq_true] at h1); simp [Sc.stp, ← h1, hv, hcs], by repeat' (first | (with_reducible exact Below.refl _ _) | (with_reducible refine Below.mored _ _ _ ?_ ?_) | (with_reducible refine Below.alloc ?_ ?_ _) | (with_reducible refine Below.drewN' _ ?_ _) | (with_reducible refine Below.drew ?_) | (with_reducible refine Below.setCell ?_ ?_ _) | (simp only [World.more_size, World.size_alloc, World.size_setCell, World.size_drew, World.heap_drewN]; omega) | go_size)⟩
  have k0' : (k == 0) = false := by simpa using k0
  by_cases k1 : k = 1
  · subst k1
    go_enter Try.func11, Try.ntmps11
    go_wp2_with (go_at_call 8; refine (open_hv (bounce_any a ⟨sc, day, tod, st, nx, pr⟩ n true _ h0 h1 b1 b2 (fun _ => b5) b6 b7)).mono ?_; rintro e w1 ⟨x1, x2, x3, x4, x5, x6, rfl, hr, L, d, rfl⟩)
    refine bodyPost_ret (v := (.tuple #[.agg #[.string a, .int .i64 x1, .int .i64 x2, .int .i64 x3, .int .i64 x4, .int .i64 x5, .int .i64 x6], .bool false])) (by simp [results, Try.results11, go_sem]) rfl ⟨by rw [← HV.out]; have h1 := hr.out; (try simp only [if_true, if_false, Bool.false_eq_true] at h1); simp [Sc.stp, ← h1, hv, hcs], by repeat' (first | (with_reducible exact Below.refl _ _) | (with_reducible refine Below.mored _ _ _ ?_ ?_) | (with_reducible refine Below.alloc ?_ ?_ _) | (with_reducible refine Below.drewN' _ ?_ _) | (with_reducible refine Below.drew ?_) | (with_reducible refine Below.setCell ?_ ?_ _) | (simp only [World.more_size, World.size_alloc, World.size_setCell, World.size_drew, World.heap_drewN]; omega) | go_size)⟩
  have k1' : (k == 1) = false := by simpa using k1
  by_cases k2 : k = 2
  · subst k2
    go_enter Try.func11, Try.ntmps11
    go_wp2_with (go_at_call 15; refine (open_hv (success_any a ⟨sc, day, tod, st, nx, pr⟩ n _ h0 h1 b6 b7)).mono ?_; rintro e w1 ⟨x1, x2, x3, x4, x5, x6, rfl, hr, L, d, rfl⟩)
    refine bodyPost_ret (v := (.tuple #[.agg #[.string a, .int .i64 x1, .int .i64 x2, .int .i64 x3, .int .i64 x4, .int .i64 x5, .int .i64 x6], .bool false])) (by simp [results, Try.results11, go_sem]) rfl ⟨by rw [← HV.out]; have h1 := hr.out; (try simp only [if_true, if_false, Bool.false_eq_true] at h1); simp [Sc.stp, ← h1, hv, hcs], by repeat' (first | (with_reducible exact Below.refl _ _) | (with_reducible refine Below.mored _ _ _ ?_ ?_) | (with_reducible refine Below.alloc ?_ ?_ _) | (with_reducible refine Below.drewN' _ ?_ _) | (with_reducible refine Below.drew ?_) | (with_reducible refine Below.setCell ?_ ?_ _) | (simp only [World.more_size, World.size_alloc, World.size_setCell, World.size_drew, World.heap_drewN]; omega) | go_size)⟩
  have k2' : (k == 2) = false := by simpa using k2
  by_cases k3 : k = 3
  · subst k3
    go_enter Try.func11, Try.ntmps11
    go_wp2_with (go_at_call 16; refine (open_hv2 (tick_any a ⟨sc, day, tod, st, nx, pr⟩ n _ h0 h1 b1 b2 (fun _ => b5) b6 b7 p0 p1)).mono ?_; rintro e w1 ⟨x1, x2, x3, x4, x5, x6, q, rfl, hr, L, d, rfl⟩)
    refine bodyPost_ret (v := (.tuple #[.agg #[.string a, .int .i64 x1, .int .i64 x2, .int .i64 x3, .int .i64 x4, .int .i64 x5, .int .i64 x6], .bool q])) (by simp [results, Try.results11, go_sem]) rfl ⟨by rw [← HV.out]; obtain ⟨h1, h2⟩ := hr.out; simp [Sc.stp, ← h1, ← h2, hv, hcs], by repeat' (first | (with_reducible exact Below.refl _ _) | (with_reducible refine Below.mored _ _ _ ?_ ?_) | (with_reducible refine Below.alloc ?_ ?_ _) | (with_reducible refine Below.drewN' _ ?_ _) | (with_reducible refine Below.drew ?_) | (with_reducible refine Below.setCell ?_ ?_ _) | (simp only [World.more_size, World.size_alloc, World.size_setCell, World.size_drew, World.heap_drewN]; omega) | go_size)⟩
  have k3' : (k == 3) = false := by simpa using k3
  by_cases k4 : k = 4
  · subst k4
    go_enter Try.func11, Try.ntmps11
    go_wp2_with (go_at_call 17; refine (open_hv (down_no a ⟨sc, day, tod, st, nx, pr⟩ n _ h0 h1 b1 b2 (fun _ => b5) b6 b7 p0 p1)).mono ?_; rintro e w1 ⟨x1, x2, x3, x4, x5, x6, rfl, hr, L, d, rfl⟩)
    refine bodyPost_ret (v := (.tuple #[.agg #[.string a, .int .i64 x1, .int .i64 x2, .int .i64 x3, .int .i64 x4, .int .i64 x5, .int .i64 x6], .bool false])) (by simp [results, Try.results11, go_sem]) rfl ⟨by rw [← HV.out]; have h1 := hr.out; (try simp only [if_true, if_false, Bool.false_eq_true] at h1); simp [Sc.stp, ← h1, hv, hcs], by repeat' (first | (with_reducible exact Below.refl _ _) | (with_reducible refine Below.mored _ _ _ ?_ ?_) | (with_reducible refine Below.alloc ?_ ?_ _) | (with_reducible refine Below.drewN' _ ?_ _) | (with_reducible refine Below.drew ?_) | (with_reducible refine Below.setCell ?_ ?_ _) | (simp only [World.more_size, World.size_alloc, World.size_setCell, World.size_drew, World.heap_drewN]; omega) | go_size)⟩
  have k4' : (k == 4) = false := by simpa using k4
  by_cases k5 : k = 5
  · subst k5
    go_enter Try.func11, Try.ntmps11
    go_wp2_with (go_at_call 17; refine (open_hv (down_ok a ⟨sc, day, tod, st, nx, pr⟩ n _)).mono ?_; rintro e w1 ⟨x1, x2, x3, x4, x5, x6, rfl, hr, L, d, rfl⟩)
    refine bodyPost_ret (v := (.tuple #[.agg #[.string a, .int .i64 x1, .int .i64 x2, .int .i64 x3, .int .i64 x4, .int .i64 x5, .int .i64 x6], .bool false])) (by simp [results, Try.results11, go_sem]) rfl ⟨by rw [← HV.out]; have h1 := hr.out; (try simp only [if_true, if_false, Bool.false_eq_true] at h1); simp [Sc.stp, ← h1, hv, hcs], by repeat' (first | (with_reducible exact Below.refl _ _) | (with_reducible refine Below.mored _ _ _ ?_ ?_) | (with_reducible refine Below.alloc ?_ ?_ _) | (with_reducible refine Below.drewN' _ ?_ _) | (with_reducible refine Below.drew ?_) | (with_reducible refine Below.setCell ?_ ?_ _) | (simp only [World.more_size, World.size_alloc, World.size_setCell, World.size_drew, World.heap_drewN]; omega) | go_size)⟩
  have k5' : (k == 5) = false := by simpa using k5
  by_cases k6 : k = 6
  · subst k6
    go_enter Try.func11, Try.ntmps11
    go_wp2_with (go_at_call 14; refine (open_hv (resume_any a ⟨sc, day, tod, st, nx, pr⟩ _)).mono ?_; rintro e w1 ⟨x1, x2, x3, x4, x5, x6, rfl, hr, L, d, rfl⟩)
    refine bodyPost_ret (v := (.tuple #[.agg #[.string a, .int .i64 x1, .int .i64 x2, .int .i64 x3, .int .i64 x4, .int .i64 x5, .int .i64 x6], .bool false])) (by simp [results, Try.results11, go_sem]) rfl ⟨by rw [← HV.out]; have h1 := hr.out; (try simp only [if_true, if_false, Bool.false_eq_true] at h1); simp [Sc.stp, ← h1, hv, hcs], by repeat' (first | (with_reducible exact Below.refl _ _) | (with_reducible refine Below.mored _ _ _ ?_ ?_) | (with_reducible refine Below.alloc ?_ ?_ _) | (with_reducible refine Below.drewN' _ ?_ _) | (with_reducible refine Below.drew ?_) | (with_reducible refine Below.setCell ?_ ?_ _) | (simp only [World.more_size, World.size_alloc, World.size_setCell, World.size_drew, World.heap_drewN]; omega) | go_size)⟩
  have k6' : (k == 6) = false := by simpa using k6
  go_enter Try.func11, Try.ntmps11
  go_wp2
  refine bodyPost_ret (v := (.tuple #[.agg #[.string a, .int .i64 sc, .int .i64 day, .int .i64 tod, .int .i64 st, .int .i64 nx, .int .i64 pr], .bool false])) (by simp [results, Try.results11, go_sem]) rfl ⟨by rw [← HV.out]; simp [Sc.stp, k0, k1, k2, k3, k4, k5, k6, hv, hcs], by repeat' (first | (with_reducible exact Below.refl _ _) | (with_reducible refine Below.mored _ _ _ ?_ ?_) | (with_reducible refine Below.alloc ?_ ?_ _) | (with_reducible refine Below.drewN' _ ?_ _) | (with_reducible refine Below.drew ?_) | (with_reducible refine Below.setCell ?_ ?_ _) | (simp only [World.more_size, World.size_alloc, World.size_setCell, World.size_drew, World.heap_drewN]; omega) | go_size)⟩
end Go.Proofs.Ytbjhbhinllnlcaa
