import Derived.Test.YtbjhbhinllnlcaaRows
import Derived.Test.YtbjhbhinllnlcaaPlain
import Derived.WalkKit
import Derived.ProofKit
import Derived.Outline
import Derived.WalkLawsBesides
import Derived.WalkSpells
import Derived.Lib.Hide
import Derived.Deep.RegionHeld3
import Derived.Deep.DrawnRows
import Derived.Deep.QuietTactic
import Derived.BigQuiet
import Derived.Deep.DeepFit
import Derived.StillTailTactics
import Derived.Handy
import Derived.LoopTactic
import Derived.Test.YtbjhbhinllnlcaaSteps
namespace Go.Proofs.Ytbjhbhinllnlcaa
open Go.ChangeShapes Go.WideShapes Go.ChangeAt Go.RowKit
set_option maxHeartbeats 800000
set_option linter.unusedSimpArgs false
set_option linter.unusedVariables false

theorem to_lit {P : Program} {f : FuncId} {args : Array Value} {w : World} {a : ByteArray} {r : Sc.Hl} (x1 x2 x3 x4 x5 x6 : Int) (h : Calls P f args w fun e w' => e = .returned (hv a r) ∧ Below w.heap.size w w') (hr : r = ⟨x1, x2, x3, x4, x5, x6⟩) :
    Calls P f args w fun e w' => e = .returned (.agg #[.string a, .int .i64 x1, .int .i64 x2, .int .i64 x3, .int .i64 x4, .int .i64 x5, .int .i64 x6]) ∧ ∃ L d, w' = w.more L d :=
  h.mono fun _ _ ⟨he, hb⟩ => ⟨by rw [he, hr]; rfl, hb.more⟩
theorem to_lit2 {P : Program} {f : FuncId} {args : Array Value} {w : World} {a : ByteArray} {r : Sc.Hl × Bool} (x1 x2 x3 x4 x5 x6 : Int) (q : Bool) (h : Calls P f args w fun e w' => e = .returned (.tuple #[hv a r.1, .bool r.2]) ∧ Below w.heap.size w w') (hr : r = (⟨x1, x2, x3, x4, x5, x6⟩, q)) :
    Calls P f args w fun e w' => e = .returned (.tuple #[.agg #[.string a, .int .i64 x1, .int .i64 x2, .int .i64 x3, .int .i64 x4, .int .i64 x5, .int .i64 x6], .bool q]) ∧ ∃ L d, w' = w.more L d :=
  h.mono fun _ _ ⟨he, hb⟩ => ⟨by rw [he, hr]; rfl, hb.more⟩

theorem small_any (w : World) : Calls Try.prog 7 #[] w fun e w' => e = .returned (.bool true) ∧ Below w.heap.size w w' := by
  go_enter Try.func7, Try.ntmps7
  go_wp2_with fail
  refine (new_lit _ _).mono ?_
  rintro e w1 ⟨rfl, L0, d0, rfl⟩
  go_wp2_with fail
  refine (to_lit 1000 0 1000 0 0 0 (bounce_any _ ⟨0, -1, 0, 0, 0, 0⟩ 0 true _ (by decide) (by decide) (by decide) (by decide) (by decide) (by decide) (by decide)) (by decide)).mono ?_
  rintro e w1 ⟨rfl, L1, d1, rfl⟩
  go_wp2_with fail
  refine (to_lit 2000 1 1000 0 0 0 (bounce_any _ ⟨1000, 0, 1000, 0, 0, 0⟩ 86400000 true _ (by decide) (by decide) (by decide) (by decide) (by decide) (by decide) (by decide)) (by decide)).mono ?_
  rintro e w1 ⟨rfl, L2, d2, rfl⟩
  go_wp2_with fail
  refine (to_lit 3000 2 1000 1 259200005 0 (bounce_any _ ⟨2000, 1, 1000, 0, 0, 0⟩ 172800005 true _ (by decide) (by decide) (by decide) (by decide) (by decide) (by decide) (by decide)) (by decide)).mono ?_
  rintro e w1 ⟨rfl, L3, d3, rfl⟩
  go_wp2_with fail
  refine (to_lit2 3000 2 1000 2 864000005 0 true (tick_any _ ⟨3000, 2, 1000, 1, 259200005, 0⟩ 259200005 _ (by decide) (by decide) (by decide) (by decide) (by decide) (by decide) (by decide) (by decide) (by decide)) (by decide)).mono ?_
  rintro e w1 ⟨rfl, L4, d4, rfl⟩
  go_wp2_with fail
  refine (to_lit 0 2 1000 0 0 0 (down_ok _ ⟨3000, 2, 1000, 2, 864000005, 0⟩ 259200006 _) (by decide)).mono ?_
  rintro e w1 ⟨rfl, L5, d5, rfl⟩
  go_wp2
  go_ret
  exact ⟨rfl, by repeat' (first | (with_reducible exact Below.refl _ _) | (with_reducible refine Below.mored _ _ _ ?_ ?_) | (with_reducible refine Below.alloc ?_ ?_ _) | (with_reducible refine Below.drewN' _ ?_ _) | (with_reducible refine Below.drew ?_) | (with_reducible refine Below.setCell ?_ ?_ _) | (simp only [World.more_size, World.size_alloc, World.size_setCell, World.size_drew, World.heap_drewN]; omega) | go_size)⟩

/-- the events that came in -/
def Ev (w : World) (a : Option Addr) (len : Nat) (l : List (Int × Int)) : Prop :=
  l.length = len ∧ (∀ e ∈ l, -9223372036854775808 ≤ e.1 ∧ e.1 ≤ 9223372036854775807 ∧ -9223372036854775808 ≤ e.2 ∧ e.2 ≤ 9223372036854775807) ∧ len ≤ 9223372036854775807 ∧
  (0 < len → ∃ b off, a = some ⟨b, off, none⟩ ∧ b < w.heap.size ∧ ∀ i (h : i < l.length), w.cell? ⟨b, off + i * 2, none⟩ = some (.int .i64 (l[i]'h).1) ∧ w.cell? ⟨b, off + i * 2 + 1, none⟩ = some (.int .i64 (l[i]'h).2))

def asc : Int → List (Int × Int) → Bool
  | _, [] => true
  | t, e :: r => decide (t ≤ e.2) && decide (e.2 ≤ 70368744177664) && asc e.2 r
def rightB (l : List (Int × Int)) : Bool := asc 0 l && decide (l.length ≤ 100)

theorem asc_drop {l : List (Int × Int)} {k : Nat} (h : k < l.length) (t : Int) : asc t (l.drop k) = (decide (t ≤ (l[k]'h).2) && decide ((l[k]'h).2 ≤ 70368744177664) && asc (l[k]'h).2 (l.drop (k + 1))) := by
  rw [List.drop_eq_getElem_cons h]; rfl

theorem right_any (a : Option Addr) (len cap : Nat) (l : List (Int × Int)) (w : World) (hE : Ev w a len l) :
    Calls Try.prog 9 #[.slice a len cap] w fun e w' => e = .returned (.bool (rightB l)) ∧ w = w' := by
  obtain ⟨hl, hr, hm, hp⟩ := hE
  subst hl
  obtain ⟨v, hv⟩ : ∃ v, rightB l = v := ⟨_, rfl⟩
  rw [hv]
  have HV := Lib.hid hv
  have HR := Lib.hid hr
  have HP := Lib.hid hp
  clear hv hr hp
  go_enter Try.func9, Try.ntmps9
  go_wp2
  go_loop [3, 4] (fun t i => ∃ (k : Nat) (was : Int), k ≤ l.length ∧ i = .int .i64 k ∧ t = .int .i64 was ∧ Hid (asc 0 l = asc was (l.drop k))) (fun _ i => l.length - (intOf i).toNat)
  case atStart => exact ⟨0, 0, Nat.zero_le _, rfl, rfl, rfl⟩
  case round =>
    obtain ⟨k, was, hk, rfl, rfl, HA⟩ := hrel
    by_cases hlt : k < l.length
    · obtain ⟨b, off, rfl, hb, hc⟩ := HP.out (by omega)
      obtain ⟨hc0, hc1⟩ := hc k hlt
      have hk0 : (0 : Int) ≤ (k : Int) := by omega
      have hk1 : (k : Int) < (l.length : Int) := by omega
      clear hc
      have hA := HA.out
      rw [asc_drop hlt] at hA
      have HA' := Lib.hid hA
      clear HA hA
      generalize hx : (l[k]'hlt).2 = x at *
      have HX := Lib.hid hx
      clear hx hc0
      by_cases h1 : x < was
      · go_wp2
        go_ret
        exact ⟨by rw [← HV.out]; unfold rightB; rw [HA'.out]; have : ¬ was ≤ x := by omega
                  simp [this], rfl⟩
      · by_cases h2 : 70368744177664 < x
        · go_wp2
          go_ret
          exact ⟨by rw [← HV.out]; unfold rightB; rw [HA'.out]; have : ¬ x ≤ 70368744177664 := by omega
                    simp [this], rfl⟩
        · go_wp2
          go_round
          case rel => exact ⟨k + 1, x, by omega, by go_num, rfl, by have h1 : was ≤ x := by omega
                                                                    have h2 : x ≤ 70368744177664 := by omega
                                                                    have := HA'.out; simp only [h1, h2, decide_true, Bool.true_and] at this; exact this⟩
          case measure => simp [intOf]; omega
    · have hk1 : ¬ (k : Int) < (l.length : Int) := by omega
      obtain rfl : k = l.length := by omega
      by_cases h100 : (l.length : Int) ≤ 100
      · go_wp2
        go_ret
        exact ⟨by rw [← HV.out]; unfold rightB; rw [HA.out]; have : l.length ≤ 100 := by omega
                  simp [asc, this], rfl⟩
      · go_wp2
        go_ret
        exact ⟨by rw [← HV.out]; unfold rightB; have : ¬ l.length ≤ 100 := by omega
                  simp [this], rfl⟩
end Go.Proofs.Ytbjhbhinllnlcaa
