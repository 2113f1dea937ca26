import Derived.Test.YtbjhbhinllnlcaaRows
import Derived.Test.YtbjhbhinllnlcaaPlain
import Derived.WalkKit
import Derived.ProofKit
import Derived.Outline
import Derived.WalkLawsBesides
import Derived.WalkSpells
import Derived.Lib.Hide
import Derived.Deep.RegionHeld3
import Derived.Deep.DrawnRows
import Derived.Deep.QuietTactic
import Derived.BigQuiet
import Derived.Deep.DeepFit
import Derived.StillTailTactics
import Derived.Handy
import Derived.LoopTactic
import Derived.Test.YtbjhbhinllnlcaaHealsWalk
namespace Go.Proofs.Ytbjhbhinllnlcaa
open Go.ChangeShapes Go.WideShapes Go.ChangeAt Go.RowKit
set_option maxHeartbeats 1600000
set_option linter.unusedSimpArgs false
set_option linter.unusedVariables false

def base0 (sc day n : Int) : Int := if day ≠ -1 ∧ 7 < Sc.dy n - day then 0 else sc
theorem susp_ex (sc day tod st nx pr n : Int) (h3 : st ≠ 3) : ∃ st' nx' pr', Sc.susp ⟨sc, day, tod, st, nx, pr⟩ n = ⟨sc, day, tod, st', nx', pr'⟩ ∧ st' ≠ 3 := by
  unfold Sc.susp
  split
  · exact ⟨_, _, _, rfl, by simp⟩
  · exact ⟨_, _, _, rfl, h3⟩
theorem bnc_new (sc day tod st nx pr n p D : Int) (h3 : st ≠ 3) (hD : Sc.dy n = D) (hd : day < D) : ∃ st' nx' pr', Sc.bnc ⟨sc, day, tod, st, nx, pr⟩ n p = ⟨base0 sc day n + p, D, p, st', nx', pr'⟩ ∧ st' ≠ 3 := by
  subst hD
  have e : Sc.cnt ⟨sc, day, tod, st, nx, pr⟩ (Sc.dy n) p = ⟨base0 sc day n + p, Sc.dy n, p, st, nx, pr⟩ := by
    unfold Sc.cnt base0
    rw [if_neg (by show ¬ Sc.dy n = day; omega)]
  rw [bnc_eq (h := ⟨sc, day, tod, st, nx, pr⟩) h3 (d := Sc.dy n) (by show Sc.mx (Sc.dy n) day = _; unfold Sc.mx; split <;> omega) e.symm]
  exact susp_ex _ _ _ _ _ _ _ h3
theorem bnc_low (sc day tod st nx pr n p : Int) (h3 : st ≠ 3) (hd : Sc.dy n = day) (ht : ¬ tod < p) : ∃ st' nx' pr', Sc.bnc ⟨sc, day, tod, st, nx, pr⟩ n p = ⟨sc, day, tod, st', nx', pr'⟩ ∧ st' ≠ 3 := by
  subst hd
  have e : Sc.cnt ⟨sc, Sc.dy n, tod, st, nx, pr⟩ (Sc.dy n) p = ⟨sc, Sc.dy n, tod, st, nx, pr⟩ := by
    unfold Sc.cnt; simp [ht]
  rw [bnc_eq (h := ⟨sc, Sc.dy n, tod, st, nx, pr⟩) h3 (d := Sc.dy n) (by show Sc.mx (Sc.dy n) (Sc.dy n) = _; unfold Sc.mx; split <;> omega) e.symm]
  exact susp_ex _ _ _ _ _ _ _ h3
theorem bnc_high (sc day tod st nx pr n p : Int) (h3 : st ≠ 3) (hd : Sc.dy n = day) (ht : tod < p) : ∃ st' nx' pr', Sc.bnc ⟨sc, day, tod, st, nx, pr⟩ n p = ⟨sc + (p - tod), day, p, st', nx', pr'⟩ ∧ st' ≠ 3 := by
  subst hd
  have e : Sc.cnt ⟨sc, Sc.dy n, tod, st, nx, pr⟩ (Sc.dy n) p = ⟨sc + (p - tod), Sc.dy n, p, st, nx, pr⟩ := by
    unfold Sc.cnt; simp [ht]
  rw [bnc_eq (h := ⟨sc, Sc.dy n, tod, st, nx, pr⟩) h3 (d := Sc.dy n) (by show Sc.mx (Sc.dy n) (Sc.dy n) = _; unfold Sc.mx; split <;> omega) e.symm]
  exact susp_ex _ _ _ _ _ _ _ h3

/-- the numbers that count, and three that do not -/
theorem to_lit3 {P : Program} {f : FuncId} {args : Array Value} {w : World} {a : ByteArray} {r : Sc.Hl} (x1 x2 x3 : Int) (h : Calls P f args w fun e w' => e = .returned (hv a r) ∧ Below w.heap.size w w') (hr : ∃ st' nx' pr', r = ⟨x1, x2, x3, st', nx', pr'⟩ ∧ st' ≠ 3) :
    Calls P f args w fun e w' => ∃ x4 x5 x6, e = .returned (.agg #[.string a, .int .i64 x1, .int .i64 x2, .int .i64 x3, .int .i64 x4, .int .i64 x5, .int .i64 x6]) ∧ Hid (x4 ≠ 3) ∧ ∃ L d, w' = w.more L d := by
  obtain ⟨st', nx', pr', rfl, h3⟩ := hr
  exact h.mono fun _ _ ⟨he, hb⟩ => ⟨st', nx', pr', he, h3, hb.more⟩

theorem days_walk (a : ByteArray) (sc day tod st nx pr now more : Int) (w : World) (hB : -9223372036854775808 ≤ day ∧ day ≤ 9223372036854775807 ∧ -9223372036854775808 ≤ now ∧ now ≤ 9223372036854775807 ∧ -9223372036854775808 ≤ more ∧ more ≤ 9223372036854775807) :
    Calls Try.prog 3 #[.agg #[.string a, .int .i64 sc, .int .i64 day, .int .i64 tod, .int .i64 st, .int .i64 nx, .int .i64 pr], .int .i64 now, .int .i64 more] w fun e w' => e = .returned (.bool true) ∧ Below w.heap.size w w' := by
  by_cases hall : st ≠ 3 ∧ 0 ≤ sc ∧ sc ≤ 1099511627776 ∧ 0 ≤ now ∧ now ≤ 1099511627776 ∧ -1 ≤ day ∧ day < now / 86400000 ∧ 0 ≤ more ∧ more ≤ 86400000 ∧ now / 86400000 = (now + more) / 86400000
  · obtain ⟨c1, c2, c3, c4, c5, c6, c7, c8, c9, c10⟩ := hall
    have c1' : (st == 3) = false := by simpa using c1
    have c10' : (now / 86400000 != (now + more) / 86400000) = false := by simpa using c10
    have hD1 : Sc.dy now = now / 86400000 := rfl
    have hD2 : Sc.dy (now + more) = now / 86400000 := c10.symm
    have hD3 : Sc.dy (now + 777600000) = now / 86400000 + 9 := by unfold Sc.dy; omega
    have hs0 : 0 ≤ base0 sc day now ∧ base0 sc day now ≤ 1099511627776 := by unfold base0; split <;> omega
    have hDb : 0 ≤ now / 86400000 ∧ now / 86400000 ≤ 1099511627776 := by omega
    have e1 := bnc_new sc day tod st nx pr now 1000 _ c1 hD1 c7
    have e3 := bnc_new sc day tod st nx pr now 250 _ c1 hD1 c7
    generalize hs : base0 sc day now = s0 at *
    have E1 := Lib.hid e1
    have E3 := Lib.hid e3
    have E2 := fun st nx pr h3 => bnc_low (s0 + 1000) (now / 86400000) 1000 st nx pr (now + more) 250 h3 hD2 (by omega)
    have E4 := fun st nx pr h3 => bnc_high (s0 + 250) (now / 86400000) 250 st nx pr (now + more) 1000 h3 hD2 (by omega)
    have E5 : ∀ st nx pr, st ≠ 3 → ∃ st' nx' pr', Sc.bnc ⟨s0 + 1000, now / 86400000, 1000, st, nx, pr⟩ (now + 777600000) 250 = ⟨250, now / 86400000 + 9, 250, st', nx', pr'⟩ ∧ st' ≠ 3 := by
      intro st nx pr h3
      have := bnc_new (s0 + 1000) (now / 86400000) 1000 st nx pr (now + 777600000) 250 _ h3 hD3 (by omega)
      rw [show base0 (s0 + 1000) (now / 86400000) (now + 777600000) = 0 by unfold base0; rw [hD3]; rw [if_pos (by omega)]] at this
      simpa using this
    have E2' := Lib.hid E2
    have E4' := Lib.hid E4
    have E5' := Lib.hid E5
    have HC := Lib.hid c1
    have HD1 := Lib.hid hD1
    have HD2 := Lib.hid hD2
    have HD3 := Lib.hid hD3
    clear E2 E4 E5 e1 e3 hs c1 c10 hD1 hD2 hD3 hB
    obtain ⟨s1, s2⟩ := hs0
    obtain ⟨t1, t2⟩ := hDb
    go_enter Try.func3, Try.ntmps3
    go_wp2_with fail
    refine (with_more (small_any _)).mono ?_
    rintro e w1 ⟨rfl, L, d, rfl⟩
    go_wp2_with fail
    refine (to_lit3 _ _ _ (bounce_any a ⟨sc, day, tod, st, nx, pr⟩ now true _ c4 (by omega) c2 (by show sc ≤ _; omega) (fun h => absurd h (by rw [HD1.out]; show ¬ _ ≤ day; omega)) c6 (by show day ≤ _; omega)) E1.out).mono ?_
    rintro e w1 ⟨p4, p5, p6, rfl, hp, L1, d1, rfl⟩
    go_wp2_with fail
    refine (to_lit3 _ _ _ (bounce_any a ⟨sc, day, tod, st, nx, pr⟩ now true _ c4 (by omega) c2 (by show sc ≤ _; omega) (fun h => absurd h (by rw [HD1.out]; show ¬ _ ≤ day; omega)) c6 (by show day ≤ _; omega)) E1.out).mono ?_
    rintro e w1 ⟨q4, q5, q6, rfl, hq, L2, d2, rfl⟩
    go_wp2_with fail
    refine (to_lit3 _ _ _ (bounce_any a ⟨s0 + 1000, now / 86400000, 1000, q4, q5, q6⟩ (now + more) false _ (by omega) (by omega) (by show 0 ≤ s0 + 1000; omega) (by show s0 + 1000 ≤ _; omega) (fun _ => by show -1000000 ≤ (1000 : Int); omega) (by show -1 ≤ now / 86400000; omega) (by show now / 86400000 ≤ _; omega)) (E2'.out q4 q5 q6 hq.out)).mono ?_
    rintro e w1 ⟨r4, r5, r6, rfl, hr, L3, d3, rfl⟩
    go_wp2_with fail
    refine (to_lit3 _ _ _ (bounce_any a ⟨sc, day, tod, st, nx, pr⟩ now false _ c4 (by omega) c2 (by show sc ≤ _; omega) (fun h => absurd h (by rw [HD1.out]; show ¬ _ ≤ day; omega)) c6 (by show day ≤ _; omega)) E3.out).mono ?_
    rintro e w1 ⟨u4, u5, u6, rfl, hu, L4, d4, rfl⟩
    go_wp2_with fail
    refine (to_lit3 _ _ _ (bounce_any a ⟨s0 + 250, now / 86400000, 250, u4, u5, u6⟩ (now + more) true _ (by omega) (by omega) (by show 0 ≤ s0 + 250; omega) (by show s0 + 250 ≤ _; omega) (fun _ => by show -1000000 ≤ (250 : Int); omega) (by show -1 ≤ now / 86400000; omega) (by show now / 86400000 ≤ _; omega)) (E4'.out u4 u5 u6 hu.out)).mono ?_
    rintro e w1 ⟨v4, v5, v6, rfl, hv, L5, d5, rfl⟩
    rw [show s0 + 250 + (1000 - 250) = s0 + 1000 by omega]
    go_wp2_with fail
    refine (to_lit3 _ _ _ (bounce_any a ⟨s0 + 1000, now / 86400000, 1000, p4, p5, p6⟩ (now + 777600000) false _ (by omega) (by omega) (by show 0 ≤ s0 + 1000; omega) (by show s0 + 1000 ≤ _; omega) (fun _ => by show -1000000 ≤ (1000 : Int); omega) (by show -1 ≤ now / 86400000; omega) (by show now / 86400000 ≤ _; omega)) (E5'.out p4 p5 p6 hp.out)).mono ?_
    rintro e w1 ⟨z4, z5, z6, rfl, hz, L6, d6, rfl⟩
    go_wp2
    go_ret
    exact ⟨rfl, by repeat' (first | (with_reducible exact Below.refl _ _) | (with_reducible refine Below.mored _ _ _ ?_ ?_) | (with_reducible refine Below.alloc ?_ ?_ _) | (with_reducible refine Below.drewN' _ ?_ _) | (with_reducible refine Below.drew ?_) | (with_reducible refine Below.setCell ?_ ?_ _) | (simp only [World.more_size, World.size_alloc, World.size_setCell, World.size_drew, World.heap_drewN]; omega) | go_size)⟩
  · have HA := Lib.hid hall
    obtain ⟨b1, b2, b3, b4, b5, b6⟩ := hB
    clear hall
    go_enter Try.func3, Try.ntmps3
    go_wp2_with (go_at_call 7; refine (with_more (small_any _)).mono ?_; rintro e w1 ⟨rfl, L, d, rfl⟩)
    all_goals first
      | (go_ret; exact ⟨rfl, by repeat' (first | (with_reducible exact Below.refl _ _) | (with_reducible refine Below.mored _ _ _ ?_ ?_) | (with_reducible refine Below.alloc ?_ ?_ _) | (with_reducible refine Below.drewN' _ ?_ _) | (with_reducible refine Below.drew ?_) | (with_reducible refine Below.setCell ?_ ?_ _) | (simp only [World.more_size, World.size_alloc, World.size_setCell, World.size_drew, World.heap_drewN]; omega) | go_size)⟩)
      | (exfalso; refine HA.out ?_; simp only [bne_eq_false_iff_eq, beq_eq_false_iff_ne, ne_eq] at *; refine ⟨?_, ?_, ?_, ?_, ?_, ?_, ?_, ?_, ?_, ?_⟩ <;> first | assumption | omega)
end Go.Proofs.Ytbjhbhinllnlcaa
