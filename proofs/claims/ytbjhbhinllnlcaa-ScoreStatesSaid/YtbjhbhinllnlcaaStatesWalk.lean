import Derived.Test.YtbjhbhinllnlcaaRows
import Derived.Test.YtbjhbhinllnlcaaPlain
import Derived.WalkKit
import Derived.ProofKit
import Derived.Outline
import Derived.WalkLawsBesides
import Derived.WalkSpells
import Derived.Lib.Hide
import Derived.Deep.RegionHeld3
import Derived.Deep.DrawnRows
import Derived.Deep.QuietTactic
import Derived.BigQuiet
import Derived.Deep.DeepFit
import Derived.StillTailTactics
import Derived.Handy
import Derived.LoopTactic
import Derived.Deep.RegionWith
import Derived.Deep.RegionLaw
import Derived.Test.YtbjhbhinllnlcaaHealsWalk
namespace Go.Proofs.Ytbjhbhinllnlcaa
open Go.ChangeShapes Go.WideShapes Go.ChangeAt Go.RowKit
set_option maxHeartbeats 12000000
set_option maxRecDepth 100000
set_option linter.unusedSimpArgs false
set_option linter.unusedVariables false

theorem states_walk (a : Option Addr) (len cap : Nat) (l : List (Int × Int)) (w : World) (hE : Ev w a len l) :
    Calls Try.prog 5 #[.slice a len cap] w fun e w' => e = .returned (.bool true) ∧ Below w.heap.size w w' := by
  by_cases hr : rightB l = true
  rotate_left
  · have hr' : rightB l = false := by simpa using hr
    have HE := Lib.hid hE
    clear hE
    go_enter Try.func5, Try.ntmps5
    go_wp2_with (first
      | (go_at_call 7; refine (with_more (small_any _)).mono ?_; rintro e w1 ⟨rfl, L, d, rfl⟩)
      | (go_at_call 9; refine (right_any _ _ _ l _ (HE.out.below (by repeat' (first | (with_reducible exact Below.refl _ _) | (with_reducible refine Below.mored _ _ _ ?_ ?_) | (with_reducible refine Below.alloc ?_ ?_ _) | (with_reducible refine Below.drewN' _ ?_ _) | (with_reducible refine Below.drew ?_) | (with_reducible refine Below.setCell ?_ ?_ _) | (simp only [World.more_size, World.size_alloc, World.size_setCell, World.size_drew, World.heap_drewN]; omega) | go_size)))).mono ?_; rintro e w1 ⟨rfl, rfl⟩))
    go_ret
    exact ⟨rfl, by repeat' (first | (with_reducible exact Below.refl _ _) | (with_reducible refine Below.mored _ _ _ ?_ ?_) | (with_reducible refine Below.alloc ?_ ?_ _) | (with_reducible refine Below.drewN' _ ?_ _) | (with_reducible refine Below.drew ?_) | (with_reducible refine Below.setCell ?_ ?_ _) | (simp only [World.more_size, World.size_alloc, World.size_setCell, World.size_drew, World.heap_drewN]; omega) | go_size)⟩
  have HE := Lib.hid hE
  clear hE
  go_enter Try.func5, Try.ntmps5
  go_wp2_with (first
    | (go_at_call 7; refine (with_more (small_any _)).mono ?_; rintro e w1 ⟨rfl, L, d, rfl⟩)
    | (go_at_call 9; refine (right_any _ _ _ l _ (HE.out.below (by repeat' (first | (with_reducible exact Below.refl _ _) | (with_reducible refine Below.mored _ _ _ ?_ ?_) | (with_reducible refine Below.alloc ?_ ?_ _) | (with_reducible refine Below.drewN' _ ?_ _) | (with_reducible refine Below.drew ?_) | (with_reducible refine Below.setCell ?_ ?_ _) | (simp only [World.more_size, World.size_alloc, World.size_setCell, World.size_drew, World.heap_drewN]; omega) | go_size)))).mono ?_; rintro e w1 ⟨rfl, rfl⟩)
    | (go_at_call 10; refine (new_lit _ _).mono ?_; rintro e w1 ⟨rfl, L1, d1, rfl⟩))
  have hb0 : Below w.heap.size w (w.more (L ++ L1) d1) := by repeat' (first | (with_reducible exact Below.refl _ _) | (with_reducible refine Below.mored _ _ _ ?_ ?_) | (with_reducible refine Below.alloc ?_ ?_ _) | (with_reducible refine Below.drewN' _ ?_ _) | (with_reducible refine Below.drew ?_) | (with_reducible refine Below.setCell ?_ ?_ _) | (simp only [World.more_size, World.size_alloc, World.size_setCell, World.size_drew, World.heap_drewN]; omega) | go_size)
  have hs0 : (w.more (L ++ L1) d1).heap.size = w.heap.size + (L.length + L1.length) := by simp [World.more_size]
  rw [← hs0]
  obtain ⟨w0, hw0⟩ : ∃ w0, w0 = w.more (L ++ L1) d1 := ⟨_, rfl⟩
  rw [← hw0] at hb0 ⊢
  clear hs0 hw0
  have HE0 := Lib.hid (HE.out.below hb0)
  have HB0 := Lib.hid hb0
  clear HE hb0
  go_loopw [6] (fun i wr => ∃ (k : Nat) (L : List Obj) (d : Nat), k ≤ l.length ∧ i = .int .i64 k ∧ wr = (w0.alloc (.cells (hcs ⟨#[97, 64, 120]⟩ (runTo l k)) 23)).more L d) (fun i _ => l.length - (intOf i).toNat)
  case atStart => exact ⟨0, [], _, Nat.zero_le _, rfl, World.self_more _⟩
  case round =>
    obtain ⟨k, L, d, hk, rfl, rfl⟩ := hrel
    by_cases hlt : k < l.length
    · obtain ⟨hl, hbd, hm, hp⟩ := HE0.out
      obtain ⟨b, off, rfl, hb, hc⟩ := hp (by omega)
      obtain ⟨hc0, hc1⟩ := hc k hlt
      have hk0 : (0 : Int) ≤ (k : Int) := by omega
      have hk1 : (k : Int) < (len : Int) := by omega
      have hm1 : (len : Int) ≤ 9223372036854775807 := by omega
      have hsz := run_szd hr k (by omega)
      have htm := (right_time hr).2 _ (List.getElem_mem (l := l) (n := k) hlt)
      have hsucc := runTo_succ hlt
      have hl100 := (right_time hr).1
      generalize hx0 : (l[k]'hlt).1 = x0 at *
      generalize hx1 : (l[k]'hlt).2 = x1 at *
      have HX0 := Lib.hid hx0
      have HX1 := Lib.hid hx1
      have HS := Lib.hid hsucc
      have HZ := Lib.hid hsz
      obtain ⟨t0, t1⟩ := htm
      have HL := Lib.hid hl
      have HBD := Lib.hid hbd
      have HP := Lib.hid hp
      have HR := Lib.hid hr
      have hpr := hsz.p1
      have hpr0 := hsz.p0
      clear hx0 hx1 hsucc hsz hc hl hbd hp hr
      generalize hy : runTo l k = y at *
      have HY := Lib.hid hy
      clear hy
      obtain ⟨y1, y2, y3, y4, y5, y6⟩ := y
      simp only at hpr hpr0
      unfold hcs
      by_cases k6 : x0 = 6
      · subst k6
        as_aux_lemma =>
          go_wp2
          go_region_with (first | (go_at_call 11; refine (to_lit2 0 (-1) 0 0 0 0 false (do_any _ ⟨y1, y2, y3, y4, y5, y6⟩ 6 x1 _ t0 (by omega) HZ.out.sc0 (by have := HZ.out.sc1; omega) (by have := HZ.out.t0; omega) HZ.out.d0 (by have := HZ.out.d1; omega) HZ.out.p0 (by have := HZ.out.p1; omega)) rfl).mono ?_; rintro e w1 ⟨rfl, L2, d2, rfl⟩))
          all_goals
            go_wp2
            go_region_with (first | (go_at_call 10; refine (new_lit _ _).mono ?_; rintro e w1 ⟨rfl, L3, d3, rfl⟩))
          all_goals
            go_wp2
            go_roundw
            case rel =>
              have e : runTo l (k + 1) = Sc.new := by rw [HS.out]; rfl
              exact ⟨k + 1, _, _, by omega, by go_num, by rw [e, World.more_alloc, World.more_more]; rfl⟩
            case measure => simp [intOf]; omega
      · have k6' : (x0 == 6) = false := by simpa using k6
        go_wp2
        go_region_with (first | (go_at_call 11; refine (open_hv2 (do_any _ ⟨y1, y2, y3, y4, y5, y6⟩ x0 x1 _ t0 (by omega) HZ.out.sc0 (by have := HZ.out.sc1; omega) (by have := HZ.out.t0; omega) HZ.out.d0 (by have := HZ.out.d1; omega) HZ.out.p0 (by have := HZ.out.p1; omega))).mono ?_; rintro e w1 ⟨z1, z2, z3, z4, z5, z6, q, rfl, hq, L2, d2, rfl⟩))
        all_goals
          have way := Sc.way_stp HZ.out x0 x1 t0 k6
          rw [← hq.out.1, ← hq.out.2] at way
          have e := hq.out.1
          rw [← HS.out] at e
          have HN := Lib.hid e
          clear e hq
          rcases way with ⟨h, hp, hd⟩ | ⟨ha, hb', hs, hr', hp⟩ | ⟨ha, hb', hp⟩ | ⟨ha, hb', hk', hs, hp⟩ | ⟨ha, hb', hr', hl', hn, hp⟩ | ⟨ha, hb', hr', hp⟩
          · as_aux_lemma =>
            simp only at h hd
            subst h hp
            by_cases q3 : y4 = 3
            · have hd' := hd q3
              simp only [Sc.Hl.mk.injEq] at hd'
              obtain ⟨rfl, rfl, rfl, -, rfl, rfl⟩ := hd'
              subst q3
              clear hd
              go_wp2
              go_quiet (fail)
              go_wp2
              go_roundw
              case rel => exact ⟨k + 1, _, _, by omega, by go_num, by rw [← HN.out, World.more_alloc, World.more_more]⟩
              case measure => simp [intOf]; omega
            · have q3' : (y4 == 3) = false := by simpa using q3
              clear hd
              by_cases q1 : y4 = 1
              · subst q1
                go_wp2
                go_quiet (fail)
                go_wp2
                go_roundw
                case rel => exact ⟨k + 1, _, _, by omega, by go_num, by rw [← HN.out, World.more_alloc, World.more_more]⟩
                case measure => simp [intOf]; omega
              · have q1' : (y4 == 1) = false := by simpa using q1
                go_wp2
                go_quiet (fail)
                go_wp2
                go_roundw
                case rel => exact ⟨k + 1, _, _, by omega, by go_num, by rw [← HN.out, World.more_alloc, World.more_more]⟩
                case measure => simp [intOf]; omega
          · as_aux_lemma =>
            simp only at ha hb' hs hr'
            subst ha hb' hr' hp
            go_wp2
            go_quiet (fail)
            go_wp2
            go_roundw
            case rel => exact ⟨k + 1, _, _, by omega, by go_num, by rw [← HN.out, World.more_alloc, World.more_more]⟩
            case measure => simp [intOf]; omega
          · as_aux_lemma =>
            simp only at ha hb'
            subst ha hb' hp
            go_wp2
            go_quiet (fail)
            go_wp2
            go_roundw
            case rel => exact ⟨k + 1, _, _, by omega, by go_num, by rw [← HN.out, World.more_alloc, World.more_more]⟩
            case measure => simp [intOf]; omega
          · as_aux_lemma =>
            simp only at ha hb' hs
            subst ha hb' hk' hs hp
            go_wp2
            go_quiet (fail)
            go_wp2
            go_roundw
            case rel => exact ⟨k + 1, _, _, by omega, by go_num, by rw [← HN.out, World.more_alloc, World.more_more]⟩
            case measure => simp [intOf]; omega
          · as_aux_lemma =>
            simp only at ha hb' hr' hl' hn
            subst ha hb' hr' hp
            go_wp2
            go_quiet (fail)
            go_wp2
            go_roundw
            case rel => exact ⟨k + 1, _, _, by omega, by go_num, by rw [← HN.out, World.more_alloc, World.more_more]⟩
            case measure => simp [intOf]; omega
          · as_aux_lemma =>
            simp only at ha hb' hr'
            subst ha hb' hr' hp
            go_wp2
            go_quiet (fail)
            go_wp2
            go_roundw
            case rel => exact ⟨k + 1, _, _, by omega, by go_num, by rw [← HN.out, World.more_alloc, World.more_more]⟩
            case measure => simp [intOf]; omega
    · obtain rfl : k = l.length := by omega
      obtain rfl := HE0.out.1
      have hk1 : ¬ (l.length : Int) < (l.length : Int) := by omega
      unfold hcs
      go_wp2
      go_ret
      have hz0 := HB0.out.size; exact ⟨rfl, HB0.out.trans (by repeat' (first | (with_reducible exact Below.refl _ _) | (with_reducible refine Below.mored _ _ _ ?_ ?_) | (with_reducible refine Below.alloc ?_ ?_ _) | (with_reducible refine Below.drewN' _ ?_ _) | (with_reducible refine Below.drew ?_) | (with_reducible refine Below.setCell ?_ ?_ _) | (simp only [World.more_size, World.size_alloc, World.size_setCell, World.size_drew, World.heap_drewN]; omega) | go_size))⟩
end Go.Proofs.Ytbjhbhinllnlcaa
