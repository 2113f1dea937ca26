import Derived.Test.YtbjhbhinllnlcaaRows
import Derived.Test.YtbjhbhinllnlcaaPlain
import Derived.WalkKit
import Derived.ProofKit
import Derived.Outline
import Derived.WalkLawsBesides
import Derived.WalkSpells
import Derived.Lib.Hide
import Derived.Deep.RegionHeld3
import Derived.Deep.DrawnRows
import Derived.Deep.QuietTactic
import Derived.BigQuiet
import Derived.Deep.DeepFit
import Derived.StillTailTactics
import Derived.Handy
import Derived.LoopTactic
import Derived.Deep.RegionWith
import Derived.Deep.RegionLaw
import Derived.Test.YtbjhbhinllnlcaaRight
namespace Go.Proofs.Ytbjhbhinllnlcaa
open Go.ChangeShapes Go.WideShapes Go.ChangeAt Go.RowKit
set_option maxHeartbeats 800000
set_option linter.unusedSimpArgs false
set_option linter.unusedVariables false

/-- the state behind the first k events -/
def runTo (l : List (Int × Int)) : Nat → Sc.Hl
  | 0 => Sc.new
  | k + 1 => match l[k]? with
    | some e => (Sc.stp (runTo l k) e.1 e.2).1
    | none => runTo l k
theorem runTo_succ {l : List (Int × Int)} {k : Nat} (h : k < l.length) : runTo l (k + 1) = (Sc.stp (runTo l k) (l[k]'h).1 (l[k]'h).2).1 := by
  simp [runTo, List.getElem?_eq_getElem h]

theorem asc_time : ∀ (l : List (Int × Int)) (t : Int), asc t l = true → ∀ e ∈ l, t ≤ e.2 ∧ e.2 ≤ 70368744177664
  | [], _, _, _, he => by cases he
  | x :: r, t, h, e, he => by
    simp only [asc, Bool.and_eq_true, decide_eq_true_eq] at h
    rcases List.mem_cons.1 he with rfl | he
    · exact h.1
    · have := asc_time r x.2 h.2 e he
      omega
theorem right_time {l : List (Int × Int)} (h : rightB l = true) : l.length ≤ 100 ∧ ∀ e ∈ l, 0 ≤ e.2 ∧ e.2 ≤ 70368744177664 := by
  simp only [rightB, Bool.and_eq_true, decide_eq_true_eq] at h
  exact ⟨h.2, asc_time l 0 h.1⟩
theorem run_szd {l : List (Int × Int)} (h : rightB l = true) : ∀ k, k ≤ l.length → Sc.Szd (runTo l k) k
  | 0, _ => Sc.szd_new
  | k + 1, hk => by
    have ih := run_szd h k (by omega)
    rw [runTo_succ (by omega)]
    obtain ⟨h0, h1⟩ := (right_time h).2 _ (List.getElem_mem (l := l) (n := k) (by omega))
    exact Sc.szd_stp ih h0 h1 (by omega)

theorem Ev.below {w w' : World} {a : Option Addr} {len : Nat} {l : List (Int × Int)} (h : Ev w a len l) (hb : Below w.heap.size w w') : Ev w' a len l := by
  obtain ⟨h1, h2, h3, h4⟩ := h
  refine ⟨h1, h2, h3, fun hp => ?_⟩
  obtain ⟨b, off, e, hbl, hc⟩ := h4 hp
  refine ⟨b, off, e, by have := hb.size; omega, fun i hi => ?_⟩
  obtain ⟨c0, c1⟩ := hc i hi
  exact ⟨(hb.cell (p := ⟨b, off + i * 2, none⟩) hbl).trans c0, (hb.cell (p := ⟨b, off + i * 2 + 1, none⟩) hbl).trans c1⟩

theorem with_more {P : Program} {f : FuncId} {args : Array Value} {w : World} {e0 : Ending} (h : Calls P f args w fun e w' => e = e0 ∧ Below w.heap.size w w') : Calls P f args w fun e w' => e = e0 ∧ ∃ L d, w' = w.more L d :=
  h.mono fun _ _ ⟨he, hb⟩ => ⟨he, hb.more⟩

theorem heals_walk (a : Option Addr) (len cap : Nat) (l : List (Int × Int)) (now : Int) (w : World) (hE : Ev w a len l) :
    Calls Try.prog 6 #[.slice a len cap, .int .i64 now] w fun e w' => e = .returned (.bool true) ∧ Below w.heap.size w w' := by
  by_cases hr : rightB l = true
  rotate_left
  · have hr' : rightB l = false := by simpa using hr
    have HE := Lib.hid hE
    clear hE
    go_enter Try.func6, Try.ntmps6
    go_wp2_with (first
      | (go_at_call 7; refine (with_more (small_any _)).mono ?_; rintro e w1 ⟨rfl, L, d, rfl⟩)
      | (go_at_call 9; refine (right_any _ _ _ l _ (HE.out.below (by repeat' (first | (with_reducible exact Below.refl _ _) | (with_reducible refine Below.mored _ _ _ ?_ ?_) | (with_reducible refine Below.alloc ?_ ?_ _) | (with_reducible refine Below.drewN' _ ?_ _) | (with_reducible refine Below.drew ?_) | (with_reducible refine Below.setCell ?_ ?_ _) | (simp only [World.more_size, World.size_alloc, World.size_setCell, World.size_drew, World.heap_drewN]; omega) | go_size)))).mono ?_; rintro e w1 ⟨rfl, rfl⟩))
    go_ret
    exact ⟨rfl, by repeat' (first | (with_reducible exact Below.refl _ _) | (with_reducible refine Below.mored _ _ _ ?_ ?_) | (with_reducible refine Below.alloc ?_ ?_ _) | (with_reducible refine Below.drewN' _ ?_ _) | (with_reducible refine Below.drew ?_) | (with_reducible refine Below.setCell ?_ ?_ _) | (simp only [World.more_size, World.size_alloc, World.size_setCell, World.size_drew, World.heap_drewN]; omega) | go_size)⟩
  by_cases hn : 0 ≤ now ∧ now ≤ 70368744177664
  rotate_left
  · have HE := Lib.hid hE
    clear hE
    by_cases h0 : now < 0
    all_goals
      try have h1 : 70368744177664 < now := by omega
      go_enter Try.func6, Try.ntmps6
      go_wp2_with (first
        | (go_at_call 7; refine (with_more (small_any _)).mono ?_; rintro e w1 ⟨rfl, L, d, rfl⟩)
        | (go_at_call 9; refine (right_any _ _ _ l _ (HE.out.below (by repeat' (first | (with_reducible exact Below.refl _ _) | (with_reducible refine Below.mored _ _ _ ?_ ?_) | (with_reducible refine Below.alloc ?_ ?_ _) | (with_reducible refine Below.drewN' _ ?_ _) | (with_reducible refine Below.drew ?_) | (with_reducible refine Below.setCell ?_ ?_ _) | (simp only [World.more_size, World.size_alloc, World.size_setCell, World.size_drew, World.heap_drewN]; omega) | go_size)))).mono ?_; rintro e w1 ⟨rfl, rfl⟩))
      go_ret
      exact ⟨rfl, by repeat' (first | (with_reducible exact Below.refl _ _) | (with_reducible refine Below.mored _ _ _ ?_ ?_) | (with_reducible refine Below.alloc ?_ ?_ _) | (with_reducible refine Below.drewN' _ ?_ _) | (with_reducible refine Below.drew ?_) | (with_reducible refine Below.setCell ?_ ?_ _) | (simp only [World.more_size, World.size_alloc, World.size_setCell, World.size_drew, World.heap_drewN]; omega) | go_size)⟩
  obtain ⟨h0, h1⟩ := hn
  have HE := Lib.hid hE
  clear hE
  go_enter Try.func6, Try.ntmps6
  go_wp2_with (first
    | (go_at_call 7; refine (with_more (small_any _)).mono ?_; rintro e w1 ⟨rfl, L, d, rfl⟩)
    | (go_at_call 9; refine (right_any _ _ _ l _ (HE.out.below (by repeat' (first | (with_reducible exact Below.refl _ _) | (with_reducible refine Below.mored _ _ _ ?_ ?_) | (with_reducible refine Below.alloc ?_ ?_ _) | (with_reducible refine Below.drewN' _ ?_ _) | (with_reducible refine Below.drew ?_) | (with_reducible refine Below.setCell ?_ ?_ _) | (simp only [World.more_size, World.size_alloc, World.size_setCell, World.size_drew, World.heap_drewN]; omega) | go_size)))).mono ?_; rintro e w1 ⟨rfl, rfl⟩)
    | (go_at_call 10; refine (new_lit _ _).mono ?_; rintro e w1 ⟨rfl, L1, d1, rfl⟩))
  have hb0 : Below w.heap.size w (w.more (L ++ L1) d1) := by repeat' (first | (with_reducible exact Below.refl _ _) | (with_reducible refine Below.mored _ _ _ ?_ ?_) | (with_reducible refine Below.alloc ?_ ?_ _) | (with_reducible refine Below.drewN' _ ?_ _) | (with_reducible refine Below.drew ?_) | (with_reducible refine Below.setCell ?_ ?_ _) | (simp only [World.more_size, World.size_alloc, World.size_setCell, World.size_drew, World.heap_drewN]; omega) | go_size)
  have hs0 : (w.more (L ++ L1) d1).heap.size = w.heap.size + (L.length + L1.length) := by simp [World.more_size]
  rw [← hs0]
  obtain ⟨w0, hw0⟩ : ∃ w0, w0 = w.more (L ++ L1) d1 := ⟨_, rfl⟩
  rw [← hw0] at hb0 ⊢
  clear hs0 hw0
  have HE0 := Lib.hid (HE.out.below hb0)
  have HB0 := Lib.hid hb0
  clear HE hb0
  go_loopw [8] (fun i wr => ∃ (k : Nat) (L : List Obj) (d : Nat), k ≤ l.length ∧ i = .int .i64 k ∧ wr = (w0.alloc (.cells (hcs ⟨#[97, 64, 120]⟩ (runTo l k)) 23)).more L d) (fun i _ => l.length - (intOf i).toNat)
  case atStart => exact ⟨0, [], _, Nat.zero_le _, rfl, World.self_more _⟩
  case round =>
    obtain ⟨k, L, d, hk, rfl, rfl⟩ := hrel
    by_cases hlt : k < l.length
    · obtain ⟨hl, hbd, hm, hp⟩ := HE0.out
      obtain ⟨b, off, rfl, hb, hc⟩ := hp (by omega)
      obtain ⟨hc0, hc1⟩ := hc k hlt
      have hk0 : (0 : Int) ≤ (k : Int) := by omega
      have hk1 : (k : Int) < (len : Int) := by omega
      have hm1 : (len : Int) ≤ 9223372036854775807 := by omega
      have hsz := run_szd hr k (by omega)
      have htm := (right_time hr).2 _ (List.getElem_mem (l := l) (n := k) hlt)
      have hsucc := runTo_succ hlt
      have hl100 := (right_time hr).1
      generalize hx0 : (l[k]'hlt).1 = x0 at *
      generalize hx1 : (l[k]'hlt).2 = x1 at *
      have HX0 := Lib.hid hx0
      have HX1 := Lib.hid hx1
      have HS := Lib.hid hsucc
      have HZ := Lib.hid hsz
      obtain ⟨t0, t1⟩ := htm
      have HL := Lib.hid hl
      have HBD := Lib.hid hbd
      have HP := Lib.hid hp
      have HR := Lib.hid hr
      clear hx0 hx1 hsucc hsz hc hl hbd hp hr
      generalize hy : runTo l k = y at *
      have HY := Lib.hid hy
      clear hy
      obtain ⟨y1, y2, y3, y4, y5, y6⟩ := y
      unfold hcs
      go_wp2
      go_region_with (first | (go_at_call 11; refine (open_hv2 (do_any _ ⟨y1, y2, y3, y4, y5, y6⟩ x0 x1 _ t0 (by omega) HZ.out.sc0 (by have := HZ.out.sc1; omega) (by have := HZ.out.t0; omega) HZ.out.d0 (by have := HZ.out.d1; omega) HZ.out.p0 (by have := HZ.out.p1; omega))).mono ?_; rintro e w1 ⟨z1, z2, z3, z4, z5, z6, q, rfl, hq, L2, d2, rfl⟩))
      all_goals
        go_wp2
        go_roundw
        case rel =>
          have e : runTo l (k + 1) = ⟨z1, z2, z3, z4, z5, z6⟩ := by rw [HS.out]; exact hq.out.1.symm
          exact ⟨k + 1, _, _, by omega, by go_num, by rw [e]⟩
        case measure => simp [intOf]; omega
    · obtain rfl : k = l.length := by omega
      obtain rfl := HE0.out.1
      have hk1 : ¬ (l.length : Int) < (l.length : Int) := by omega
      have hl100 := (right_time hr).1
      have hz := run_szd hr l.length (Nat.le_refl _)
      have HR := Lib.hid hr
      clear hr
      generalize hy : runTo l l.length = y at *
      obtain ⟨y1, y2, y3, y4, y5, y6⟩ := y
      have HY := Lib.hid hy
      have b6 : -1 ≤ y2 := hz.d0
      have b7 : y2 ≤ 1000000 := hz.d1
      clear hy hz
      unfold hcs
      by_cases c1 : y4 = 0
      · subst c1
        by_cases c2 : y2 + 1 < now / 86400000
        · have HSuc := Lib.hid (show Sc.suc ⟨y1, y2, y3, 0, y5, y6⟩ now = ⟨0, y2, y3, 0, y5, y6⟩ by simp [Sc.suc, Sc.dy, c2])
          go_wp2_with (first
            | (go_at_call 14; refine (to_lit 0 (-1) 0 0 0 0 (resume_any _ ⟨y1, y2, y3, 0, y5, y6⟩ _) rfl).mono ?_; rintro e w1 ⟨rfl, L2, d2, rfl⟩)
            | (go_at_call 10; refine (new_lit _ _).mono ?_; rintro e w1 ⟨rfl, L3, d3, rfl⟩)
            | (go_at_call 15; refine (to_lit 0 y2 y3 0 y5 y6 (success_any _ ⟨y1, y2, y3, 0, y5, y6⟩ now _ h0 (by omega) b6 (by show y2 ≤ _; omega)) HSuc.out).mono ?_; rintro e w1 ⟨rfl, L4, d4, rfl⟩))
          go_ret
          have hz0 := HB0.out.size; exact ⟨rfl, HB0.out.trans (by repeat' (first | (with_reducible exact Below.refl _ _) | (with_reducible refine Below.mored _ _ _ ?_ ?_) | (with_reducible refine Below.alloc ?_ ?_ _) | (with_reducible refine Below.drewN' _ ?_ _) | (with_reducible refine Below.drew ?_) | (with_reducible refine Below.setCell ?_ ?_ _) | (simp only [World.more_size, World.size_alloc, World.size_setCell, World.size_drew, World.heap_drewN]; omega) | go_size))⟩
        · have HSuc := Lib.hid (show Sc.suc ⟨y1, y2, y3, 0, y5, y6⟩ now = ⟨y1, y2, y3, 0, y5, y6⟩ by simp [Sc.suc, Sc.dy, c2])
          go_wp2_with (first
            | (go_at_call 14; refine (to_lit 0 (-1) 0 0 0 0 (resume_any _ ⟨y1, y2, y3, 0, y5, y6⟩ _) rfl).mono ?_; rintro e w1 ⟨rfl, L2, d2, rfl⟩)
            | (go_at_call 10; refine (new_lit _ _).mono ?_; rintro e w1 ⟨rfl, L3, d3, rfl⟩)
            | (go_at_call 15; refine (to_lit y1 y2 y3 0 y5 y6 (success_any _ ⟨y1, y2, y3, 0, y5, y6⟩ now _ h0 (by omega) b6 (by show y2 ≤ _; omega)) HSuc.out).mono ?_; rintro e w1 ⟨rfl, L4, d4, rfl⟩))
          go_ret
          have hz0 := HB0.out.size; exact ⟨rfl, HB0.out.trans (by repeat' (first | (with_reducible exact Below.refl _ _) | (with_reducible refine Below.mored _ _ _ ?_ ?_) | (with_reducible refine Below.alloc ?_ ?_ _) | (with_reducible refine Below.drewN' _ ?_ _) | (with_reducible refine Below.drew ?_) | (with_reducible refine Below.setCell ?_ ?_ _) | (simp only [World.more_size, World.size_alloc, World.size_setCell, World.size_drew, World.heap_drewN]; omega) | go_size))⟩
      · have c1' : (y4 == 0) = false := by simpa using c1
        have HSuc := Lib.hid (show Sc.suc ⟨y1, y2, y3, y4, y5, y6⟩ now = ⟨y1, y2, y3, y4, y5, y6⟩ by simp [Sc.suc, Sc.dy, c1])
        go_wp2_with (first
          | (go_at_call 14; refine (to_lit 0 (-1) 0 0 0 0 (resume_any _ ⟨y1, y2, y3, y4, y5, y6⟩ _) rfl).mono ?_; rintro e w1 ⟨rfl, L2, d2, rfl⟩)
          | (go_at_call 10; refine (new_lit _ _).mono ?_; rintro e w1 ⟨rfl, L3, d3, rfl⟩)
          | (go_at_call 15; refine (to_lit y1 y2 y3 y4 y5 y6 (success_any _ ⟨y1, y2, y3, y4, y5, y6⟩ now _ h0 (by omega) b6 (by show y2 ≤ _; omega)) HSuc.out).mono ?_; rintro e w1 ⟨rfl, L4, d4, rfl⟩))
        go_ret
        have hz0 := HB0.out.size; exact ⟨rfl, HB0.out.trans (by repeat' (first | (with_reducible exact Below.refl _ _) | (with_reducible refine Below.mored _ _ _ ?_ ?_) | (with_reducible refine Below.alloc ?_ ?_ _) | (with_reducible refine Below.drewN' _ ?_ _) | (with_reducible refine Below.drew ?_) | (with_reducible refine Below.setCell ?_ ?_ _) | (simp only [World.more_size, World.size_alloc, World.size_setCell, World.size_drew, World.heap_drewN]; omega) | go_size))⟩
#print axioms heals_walk
end Go.Proofs.Ytbjhbhinllnlcaa
