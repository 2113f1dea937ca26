import Derived.Test.YtbjhbhinllnlcaaRows
import Derived.Test.YtbjhbhinllnlcaaPlain
import Derived.WalkKit
import Derived.ProofKit
import Derived.Outline
import Derived.WalkLawsBesides
import Derived.WalkSpells
import Derived.Lib.Hide
import Derived.Deep.RegionHeld3
import Derived.Deep.DrawnRows
import Derived.Deep.QuietTactic
import Derived.BigQuiet
import Derived.Deep.DeepFit
import Derived.StillTailTactics
import Derived.Handy
import Derived.Test.YtbjhbhinllnlcaaKit
namespace Go.Proofs.Ytbjhbhinllnlcaa
open Go.ChangeShapes Go.WideShapes Go.ChangeAt Go.RowKit
set_option maxHeartbeats 400000

theorem day_any (n : Int) (w : World) (h0 : 0 ≤ n) (h1 : n ≤ 9000000000000000000) :
    Calls Try.prog 19 #[.int .i64 n] w fun e w' => e = .returned (.int .i64 (Sc.dy n)) ∧ w = w' := by
  go_enter Try.func19, Try.ntmps19
  go_wp2
  go_ret
  exact ⟨rfl, rfl⟩

/-- a health in memory or by value -/
def hcs (a : ByteArray) (h : Sc.Hl) : Array Value := #[.string a, .int .i64 h.sc, .int .i64 h.day, .int .i64 h.tod, .int .i64 h.st, .int .i64 h.nx, .int .i64 h.pr]
def hv (a : ByteArray) (h : Sc.Hl) : Value := .agg (hcs a h)

theorem count_any (a : ByteArray) (h : Sc.Hl) (d p : Int) (w : World) (b1 : 0 ≤ h.sc) (b2 : h.sc ≤ 1000000000000000) (b3 : 0 ≤ p) (b4 : p ≤ 1000) (b5 : d = h.day → -1000000 ≤ h.tod)
    (b6 : -1 ≤ h.day) (b7 : h.day ≤ d) (b8 : d ≤ 9000000000000000000) :
    Calls Try.prog 18 #[hv a h, .int .i64 d, .int .i64 p] w fun e w' => e = .returned (hv a (Sc.cnt h d p)) ∧ Below w.heap.size w w' := by
  obtain ⟨sc, day, tod, st, nx, pr⟩ := h
  simp only at b1 b2 b5 b6 b7
  have E : ∀ r, Sc.cnt ⟨sc, day, tod, st, nx, pr⟩ d p = r → hv a (Sc.cnt ⟨sc, day, tod, st, nx, pr⟩ d p) = hv a r := fun r h => by rw [h]
  unfold hv hcs at *
  by_cases hd : d = day
  · subst hd
    have b5' := b5 rfl
    clear b5
    by_cases hp : tod < p
    · rw [E ⟨sc + (p - tod), d, p, st, nx, pr⟩ (by simp [Sc.cnt, hp])]
      clear E
      go_enter Try.func18, Try.ntmps18
      go_wp2
      refine bodyPost_ret (v := .agg #[.string a, .int .i64 (sc + (p - tod)), .int .i64 d, .int .i64 p, .int .i64 st, .int .i64 nx, .int .i64 pr]) (by simp [results, Try.results18, go_sem]) rfl ⟨rfl, ?_⟩
      exact ((Below.refl _ _).alloc (Nat.le_refl _) _).alloc (by simp) _
    · rw [E ⟨sc, d, tod, st, nx, pr⟩ (by simp [Sc.cnt, hp])]
      clear E
      go_enter Try.func18, Try.ntmps18
      go_wp2
      refine bodyPost_ret (v := .agg #[.string a, .int .i64 sc, .int .i64 d, .int .i64 tod, .int .i64 st, .int .i64 nx, .int .i64 pr]) (by simp [results, Try.results18, go_sem]) rfl ⟨rfl, ?_⟩
      exact ((Below.refl _ _).alloc (Nat.le_refl _) _).alloc (by simp) _
  · clear b5
    have hd' : (d == day) = false := by simpa using hd
    by_cases h1 : day = -1
    · subst h1
      rw [E ⟨sc + p, d, p, st, nx, pr⟩ (by simp [Sc.cnt, hd])]
      clear E
      go_enter Try.func18, Try.ntmps18
      go_wp2
      refine bodyPost_ret (v := .agg #[.string a, .int .i64 (sc + p), .int .i64 d, .int .i64 p, .int .i64 st, .int .i64 nx, .int .i64 pr]) (by simp [results, Try.results18, go_sem]) rfl ⟨rfl, ?_⟩
      exact ((Below.refl _ _).alloc (Nat.le_refl _) _).alloc (by simp) _
    · have h1' : (day != -1) = true := by simpa using h1
      by_cases h7 : 7 < d - day
      · rw [E ⟨0 + p, d, p, st, nx, pr⟩ (by simp [Sc.cnt, hd, h1, h7])]
        clear E
        go_enter Try.func18, Try.ntmps18
        go_wp2
        refine bodyPost_ret (v := .agg #[.string a, .int .i64 (0 + p), .int .i64 d, .int .i64 p, .int .i64 st, .int .i64 nx, .int .i64 pr]) (by simp [results, Try.results18, go_sem]) rfl ⟨rfl, ?_⟩
        exact ((Below.refl _ _).alloc (Nat.le_refl _) _).alloc (by simp) _
      · rw [E ⟨sc + p, d, p, st, nx, pr⟩ (by simp [Sc.cnt, hd, h7])]
        clear E
        go_enter Try.func18, Try.ntmps18
        go_wp2
        refine bodyPost_ret (v := .agg #[.string a, .int .i64 (sc + p), .int .i64 d, .int .i64 p, .int .i64 st, .int .i64 nx, .int .i64 pr]) (by simp [results, Try.results18, go_sem]) rfl ⟨rfl, ?_⟩
        exact ((Below.refl _ _).alloc (Nat.le_refl _) _).alloc (by simp) _

/-- a health's numbers, laid open behind a call -/
theorem open_hv {P : Program} {f : FuncId} {args : Array Value} {w : World} {a : ByteArray} {r : Sc.Hl} (h : Calls P f args w fun e w' => e = .returned (hv a r) ∧ Below w.heap.size w w') :
    Calls P f args w fun e w' => ∃ x1 x2 x3 x4 x5 x6, e = .returned (.agg #[.string a, .int .i64 x1, .int .i64 x2, .int .i64 x3, .int .i64 x4, .int .i64 x5, .int .i64 x6]) ∧ Hid ((⟨x1, x2, x3, x4, x5, x6⟩ : Sc.Hl) = r) ∧ ∃ L d, w' = w.more L d :=
  h.mono fun _ _ ⟨he, hb⟩ => ⟨r.sc, r.day, r.tod, r.st, r.nx, r.pr, he, rfl, hb.more⟩

theorem still_tail {P : Program} {id : Nat} {Q : Exit → Act → World → Prop} {a : Act} {w : World} {l : List Oper} (n : Nat) (hm : P.follows .mixedOrders = true) (hB : Region.lexTailB .any l.toArray n = true)
    (h : wpStill P l.toArray w.drew (fun a' => wpList P l.toArray Q (l.drop n) a' w.drew) (l.take n) a) : (Code.region id l.toArray true).wp P Q a w :=
  wp_region_still_tail n hm hB h

theorem bnc_eq {h x : Sc.Hl} {n p d : Int} (h3 : ¬ h.st = 3) (hd : Sc.mx (Sc.dy n) h.day = d) (hr : x = Sc.cnt h d p) : Sc.bnc h n p = Sc.susp x n := by
  unfold Sc.bnc; rw [if_neg h3, hd, ← hr]

set_option maxHeartbeats 1600000 in
theorem bounce_any (a : ByteArray) (h : Sc.Hl) (n : Int) (hard : Bool) (w : World) (h0 : 0 ≤ n) (h1 : n ≤ 1000000000000000000) (b1 : 0 ≤ h.sc) (b2 : h.sc ≤ 1000000000000000) 
    (b5 : Sc.dy n ≤ h.day → -1000000 ≤ h.tod) (b6 : -1 ≤ h.day) (b7 : h.day ≤ 1000000000000000000) :
    Calls Try.prog 8 #[hv a h, .int .i64 n, .bool hard] w fun e w' => e = .returned (hv a (Sc.bnc h n (if hard then 1000 else 250))) ∧ Below w.heap.size w w' := by
  obtain ⟨sc, day, tod, st, nx, pr⟩ := h
  simp only at b1 b2 b5 b6 b7
  have dy0 : 0 ≤ Sc.dy n ∧ Sc.dy n ≤ n := by unfold Sc.dy; omega
  obtain ⟨d0, d1⟩ := dy0
  have B5 := Lib.hid b5
  clear b5
  by_cases h3 : st = 3
  · subst h3
    have e : Sc.bnc ⟨sc, day, tod, 3, nx, pr⟩ n (if hard then 1000 else 250) = ⟨sc, day, tod, 3, nx, pr⟩ := by simp [Sc.bnc]
    rw [e]
    clear e
    unfold hv hcs
    go_enter Try.func8, Try.ntmps8
    go_wp2
    refine bodyPost_ret (v := .agg #[.string a, .int .i64 sc, .int .i64 day, .int .i64 tod, .int .i64 3, .int .i64 nx, .int .i64 pr]) (by simp [results, Try.results8, go_sem]) rfl ⟨rfl, ?_⟩
    exact ((Below.refl _ _).alloc (Nat.le_refl _) _).alloc (by simp) _
  · have h3' : (st == 3) = false := by simpa using h3
    obtain ⟨v, hv1⟩ : ∃ v, hv a (Sc.bnc ⟨sc, day, tod, st, nx, pr⟩ n (if hard then 1000 else 250)) = v := ⟨_, rfl⟩
    rw [hv1]
    have HV := Lib.hid hv1
    clear hv1
    unfold hv hcs
    cases hard <;> by_cases hm : Sc.dy n < day
    all_goals
      go_enter Try.func8, Try.ntmps8
      go_wp2
      refine still_tail 7 (by kernel_rfl) (by kernel_rfl) ?_
      simp only [List.take_succ_cons, List.take_zero, List.drop_succ_cons, List.drop_zero]
      iterate 2 still_step
      still_call ((day_any n _ h0 (by omega)).mono fun _ _ ⟨he, hw⟩ => ⟨he, hw.symm⟩)
      iterate 4 still_step
      refine wpStill_nil ?_
      go_wp2_with fail
      refine (open_hv (count_any a ⟨sc, day, tod, st, nx, pr⟩ _ _ _ b1 b2 (by omega) (by omega) (fun _ => B5.out (by simp at *; omega)) b6 (by simp; try omega) (by omega))).mono ?_
      rintro e w1 ⟨x1, x2, x3, x4, x5, x6, rfl, hr, L, k, rfl⟩
      have Hv := HV.out
      simp only [Bool.false_eq_true, if_true, if_false] at Hv
      rw [bnc_eq h3 (by show Sc.mx (Sc.dy n) day = _; unfold Sc.mx; split <;> omega) hr.out] at Hv
      clear HV hr
      have HV := Lib.hid Hv
      clear Hv b1 b2 b6 b7 d0 d1 hm
      by_cases t4 : x4 = 0
      · subst t4
        by_cases t1 : 3000 ≤ x1
        · have Hv := Lib.hid (show (Value.agg #[.string a, .int .i64 x1, .int .i64 x2, .int .i64 x3, .int .i64 1, .int .i64 (n + 86400000), .int .i64 0]) = v by rw [← HV.out]; simp [Sc.susp, t1, hv, hcs])
          go_wp2
          refine bodyPost_ret (v := .agg #[.string a, .int .i64 x1, .int .i64 x2, .int .i64 x3, .int .i64 1, .int .i64 (n + 86400000), .int .i64 0]) (by simp [results, Try.results8, go_sem]) rfl ⟨by rw [Hv.out], by repeat' (first | (with_reducible exact Below.refl _ _) | (with_reducible refine Below.mored _ _ _ ?_ ?_) | (with_reducible refine Below.alloc ?_ ?_ _) | (with_reducible refine Below.drew ?_) | go_size)⟩
        · have t1' : x1 < 3000 := by omega
          have Hv := Lib.hid (show (Value.agg #[.string a, .int .i64 x1, .int .i64 x2, .int .i64 x3, .int .i64 0, .int .i64 x5, .int .i64 x6]) = v by rw [← HV.out]; simp [Sc.susp, t1, hv, hcs])
          go_wp2
          refine bodyPost_ret (v := .agg #[.string a, .int .i64 x1, .int .i64 x2, .int .i64 x3, .int .i64 0, .int .i64 x5, .int .i64 x6]) (by simp [results, Try.results8, go_sem]) rfl ⟨by rw [Hv.out], by repeat' (first | (with_reducible exact Below.refl _ _) | (with_reducible refine Below.mored _ _ _ ?_ ?_) | (with_reducible refine Below.alloc ?_ ?_ _) | (with_reducible refine Below.drew ?_) | go_size)⟩
      · have t4' : (x4 == 0) = false := by simpa using t4
        have Hv := Lib.hid (show (Value.agg #[.string a, .int .i64 x1, .int .i64 x2, .int .i64 x3, .int .i64 x4, .int .i64 x5, .int .i64 x6]) = v by rw [← HV.out]; simp [Sc.susp, t4, hv, hcs])
        go_wp2
        refine bodyPost_ret (v := .agg #[.string a, .int .i64 x1, .int .i64 x2, .int .i64 x3, .int .i64 x4, .int .i64 x5, .int .i64 x6]) (by simp [results, Try.results8, go_sem]) rfl ⟨by rw [Hv.out], by repeat' (first | (with_reducible exact Below.refl _ _) | (with_reducible refine Below.mored _ _ _ ?_ ?_) | (with_reducible refine Below.alloc ?_ ?_ _) | (with_reducible refine Below.drew ?_) | go_size)⟩
end Go.Proofs.Ytbjhbhinllnlcaa
