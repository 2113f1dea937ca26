import Derived.Test.YtbjhbhinllnlcaaRows
import Derived.Test.YtbjhbhinllnlcaaPlain
import Derived.WalkKit
import Derived.ProofKit
import Derived.Outline
import Derived.WalkLawsBesides
import Derived.WalkSpells
import Derived.Lib.Hide
import Derived.Deep.RegionHeld3
import Derived.Deep.DrawnRows
import Derived.Deep.QuietTactic
import Derived.BigQuiet
import Derived.Deep.DeepFit
import Derived.StillTailTactics
import Derived.Handy
import Derived.LoopTactic
import Derived.Deep.RegionWith
import Derived.Deep.RegionLaw
import Derived.Test.YtbjhbhinllnlcaaBoundsPlain
namespace Go.Proofs.Ytbjhbhinllnlcaa
open Go.ChangeShapes Go.WideShapes Go.ChangeAt Go.RowKit
set_option maxHeartbeats 12000000
set_option maxRecDepth 100000
set_option linter.unusedSimpArgs false
set_option linter.unusedVariables false

theorem Own.slice {w : World} {B : Nat} {v : Value} {xs : List Int} (h : Own w B v xs) : ∃ A c, v = .slice A xs.length c := by
  rcases h.form with ⟨rfl, rfl⟩ | ⟨g, cap, rfl, _⟩
  · exact ⟨none, 0, rfl⟩
  · exact ⟨_, cap, rfl⟩
theorem own_nil (w : World) (B : Nat) : Own w B (.slice none 0 0) [] := World.ownsRow_nil _ _ _ _

theorem bounds_walk (a : Option Addr) (len cap : Nat) (l : List (Int × Int)) (w : World) (hE : Ev w a len l) :
    Calls Try.prog 4 #[.slice a len cap] w fun e w' => e = .returned (.bool true) ∧ Below w.heap.size w w' := by
  by_cases hr : rightB l = true
  rotate_left
  · have hr' : rightB l = false := by simpa using hr
    have HE := Lib.hid hE
    clear hE
    go_enter Try.func4, Try.ntmps4
    go_wp2_with (first
      | (go_at_call 7; refine (with_more (small_any _)).mono ?_; rintro e w1 ⟨rfl, L, d, rfl⟩)
      | (go_at_call 9; refine (right_any _ _ _ l _ (HE.out.below (by repeat' (first | (with_reducible exact Below.refl _ _) | (with_reducible refine Below.mored _ _ _ ?_ ?_) | (with_reducible refine Below.alloc ?_ ?_ _) | (with_reducible refine Below.drewN' _ ?_ _) | (with_reducible refine Below.drew ?_) | (with_reducible refine Below.setCell ?_ ?_ _) | (simp only [World.more_size, World.size_alloc, World.size_setCell, World.size_drew, World.heap_drewN]; omega) | go_size)))).mono ?_; rintro e w1 ⟨rfl, rfl⟩))
    go_ret
    exact ⟨rfl, by repeat' (first | (with_reducible exact Below.refl _ _) | (with_reducible refine Below.mored _ _ _ ?_ ?_) | (with_reducible refine Below.alloc ?_ ?_ _) | (with_reducible refine Below.drewN' _ ?_ _) | (with_reducible refine Below.drew ?_) | (with_reducible refine Below.setCell ?_ ?_ _) | (simp only [World.more_size, World.size_alloc, World.size_setCell, World.size_drew, World.heap_drewN]; omega) | go_size)⟩
  have HE := Lib.hid hE
  clear hE
  go_enter Try.func4, Try.ntmps4
  go_wp2_with (first
    | (go_at_call 7; refine (with_more (small_any _)).mono ?_; rintro e w1 ⟨rfl, L, d, rfl⟩)
    | (go_at_call 9; refine (right_any _ _ _ l _ (HE.out.below (by repeat' (first | (with_reducible exact Below.refl _ _) | (with_reducible refine Below.mored _ _ _ ?_ ?_) | (with_reducible refine Below.alloc ?_ ?_ _) | (with_reducible refine Below.drewN' _ ?_ _) | (with_reducible refine Below.drew ?_) | (with_reducible refine Below.setCell ?_ ?_ _) | (simp only [World.more_size, World.size_alloc, World.size_setCell, World.size_drew, World.heap_drewN]; omega) | go_size)))).mono ?_; rintro e w1 ⟨rfl, rfl⟩)
    | (go_at_call 10; refine (new_lit _ _).mono ?_; rintro e w1 ⟨rfl, L1, d1, rfl⟩))
  have hb0 : Below w.heap.size w (w.more (L ++ L1) d1) := by repeat' (first | (with_reducible exact Below.refl _ _) | (with_reducible refine Below.mored _ _ _ ?_ ?_) | (with_reducible refine Below.alloc ?_ ?_ _) | (with_reducible refine Below.drewN' _ ?_ _) | (with_reducible refine Below.drew ?_) | (with_reducible refine Below.setCell ?_ ?_ _) | (simp only [World.more_size, World.size_alloc, World.size_setCell, World.size_drew, World.heap_drewN]; omega) | go_size)
  have hs0 : (w.more (L ++ L1) d1).heap.size = w.heap.size + (L.length + L1.length) := by simp [World.more_size]
  rw [← hs0]
  obtain ⟨w0, hw0⟩ : ∃ w0, w0 = w.more (L ++ L1) d1 := ⟨_, rfl⟩
  rw [← hw0] at hb0 ⊢
  clear hs0 hw0
  have HE0 := Lib.hid (HE.out.below hb0)
  have HB0 := Lib.hid hb0
  clear HE hb0
  go_loopw [6, 7, 8] (fun hvv svv i wr => ∃ (k : Nat) (L : List Obj) (d : Nat), k ≤ l.length ∧ i = .int .i64 k ∧ wr = (w0.alloc (.cells (hcs ⟨#[97, 64, 120]⟩ (runTo l k)) 23)).more L d ∧
      Own wr (w0.heap.size + 1) hvv (hardTo l k) ∧ Own wr (w0.heap.size + 1) svv (softTo l k) ∧ Disj hvv svv) (fun _ _ i _ => l.length - (intOf i).toNat)
  case atStart => exact ⟨0, [], _, Nat.zero_le _, rfl, World.self_more _, own_nil _ _, own_nil _ _, .inl rfl⟩
  case round =>
    obtain ⟨k, L, d, hk, rfl, rfl, oh, os, dj⟩ := hrel
    by_cases hlt : k < l.length
    · obtain ⟨hl, hbd, hm, hp⟩ := HE0.out
      obtain ⟨b, off, rfl, hb, hc⟩ := hp (by omega)
      obtain ⟨hc0, hc1⟩ := hc k hlt
      have hk0 : (0 : Int) ≤ (k : Int) := by omega
      have hk1 : (k : Int) < (len : Int) := by omega
      have hm1 : (len : Int) ≤ 9223372036854775807 := by omega
      have hsz := run_szd hr k (by omega)
      have HSZ2 := Lib.hid (run_szd hr (k + 1) (by omega))
      obtain ⟨hi2, hln2, sln2⟩ := run_inv hr (k + 1) (by omega)
      have HI2 := Lib.hid hi2
      obtain ⟨_, hln, sln⟩ := run_inv hr k (by omega)
      have htm := (right_time hr).2 _ (List.getElem_mem (l := l) (n := k) hlt)
      have hsucc := runTo_succ hlt
      have hsuc2 := hardTo_succ hlt
      have hsuc3 := softTo_succ hlt
      have hl100 := (right_time hr).1
      obtain ⟨A1, e1, rfl⟩ := oh.slice
      obtain ⟨A2, e2, rfl⟩ := os.slice
      have OH := Lib.hid oh
      have OS := Lib.hid os
      have DJ := Lib.hid dj
      clear oh os dj hi2
      generalize hx0 : (l[k]'hlt).1 = x0 at *
      generalize hx1 : (l[k]'hlt).2 = x1 at *
      have HX0 := Lib.hid hx0
      have HX1 := Lib.hid hx1
      have HS := Lib.hid hsucc
      have HZ := Lib.hid hsz
      obtain ⟨t0, t1⟩ := htm
      have HL := Lib.hid hl
      have HBD := Lib.hid hbd
      have HP := Lib.hid hp
      have HR := Lib.hid hr
      have HH := Lib.hid hsuc2
      have HF := Lib.hid hsuc3
      clear hx0 hx1 hsucc hsz hc hl hbd hp hr hsuc2 hsuc3
      generalize hhd : hardTo l k = hd at *
      generalize hsf : softTo l k = sf at *
      generalize hhd2 : hardTo l (k + 1) = hd2 at *
      generalize hsf2 : softTo l (k + 1) = sf2 at *
      have EQ1 := Lib.hid hhd
      have EQ2 := Lib.hid hsf
      have EQ3 := Lib.hid hhd2
      have EQ4 := Lib.hid hsf2
      clear hhd hsf hhd2 hsf2
      generalize hy : runTo l k = y at *
      have HY := Lib.hid hy
      clear hy
      obtain ⟨y1, y2, y3, y4, y5, y6⟩ := y
      unfold hcs
      go_wp2
      go_region_with (first | (go_at_call 11; refine (open_hv2 (do_any _ ⟨y1, y2, y3, y4, y5, y6⟩ x0 x1 _ t0 (by omega) HZ.out.sc0 (by have := HZ.out.sc1; omega) (by have := HZ.out.t0; omega) HZ.out.d0 (by have := HZ.out.d1; omega) HZ.out.p0 (by have := HZ.out.p1; omega))).mono ?_; rintro e w1 ⟨z1, z2, z3, z4, z5, z6, q, rfl, hq, L2, d2, rfl⟩))
      all_goals
        have HN := Lib.hid (HS.out.trans hq.out.1.symm)
        clear hq
        by_cases kk : x0 = 0
        · as_aux_lemma =>
          subst kk
          have eh : hd2 = hd := by rw [HH.out]; rfl
          have es : sf2 = Sc.wth sf (x1 / 86400000) := by rw [HF.out]; rfl
          have EH := Lib.hid eh
          have ES := Lib.hid es
          clear eh es
          go_wp2_with (go_at_call 12; refine (with_any _ _ _ (w0.heap.size + 1) (.slice A2 sf.length e2) (.slice A1 hd.length e1) sf hd _ (by simp) (by exact own_more OS.out (by simp) (by simp)) (by exact own_more OH.out (by simp) (by simp)) DJ.out.symm (by omega)).mono ?_; rintro e w1 ⟨sv2, L3, d3, rfl, rfl, os2, oh2, dj2⟩; rw [← ES.out] at os2; obtain ⟨A3, e3, rfl⟩ := os2.slice; have OS2 := Lib.hid os2; have OH2 := Lib.hid oh2; have DJ2 := Lib.hid dj2.symm; clear os2 oh2 dj2)
          obtain rfl : hd = hd2 := EH.out.symm
          have BD := Sc.inv_bound HSZ2.out HI2.out
          rw [HN.out] at BD
          obtain ⟨bd1, bd2, bd3⟩ := BD
          simp only at bd1 bd2 bd3
          have HBD3 := Lib.hid bd3
          clear bd3
          go_wp2
          go_loop [10, 11] (fun o j => ∃ q : Nat, q ≤ sf2.length ∧ j = .int .i64 q ∧ o = .int .i64 (Sc.oth hd (sf2.take q))) (fun _ j => sf2.length - (intOf j).toNat)
          case atStart => exact ⟨0, Nat.zero_le _, rfl, rfl⟩
          case round =>
            obtain ⟨q, hq, rfl, rfl⟩ := hrel
            have hol := oth_le hd (sf2.take q)
            have htl : (sf2.take q).length ≤ 100 := by rw [List.length_take]; omega
            by_cases hql : q < sf2.length
            · rcases Own.form OS2.out with ⟨h1, h2⟩ | ⟨g, cap2, hv2, hg1, hg2, hcs2⟩
              · rw [h2] at hql; simp at hql
              · simp only [Value.slice.injEq] at hv2
                obtain ⟨rfl, -, rfl⟩ := hv2
                have hcell := hcs2 q hql
                have hq0 : (0 : Int) ≤ (q : Int) := by omega
                have hq1 : (q : Int) < (sf2.length : Int) := by omega
                have hot := Lib.hid (oth_take (hard := hd) hql)
                clear hcs2
                generalize hxx : sf2[q]'hql = xx at *
                have HXX := Lib.hid hxx
                clear hxx
                by_cases hin : xx ∈ hd
                · have hin' : decide (xx ∈ hd) = true := by simpa using hin
                  have HIN := Lib.hid hin
                  clear hin
                  go_wp2_with (go_at_call 13; refine (has_any _ _ hd xx _ OH2.out (by omega)).mono ?_; rintro e w' ⟨rfl, rfl⟩)
                  go_round
                  case rel => exact ⟨q + 1, by omega, by go_num, by rw [hot.out, if_pos HIN.out, Nat.add_zero]⟩
                  case measure => simp [intOf]; omega
                · have hin' : decide (xx ∈ hd) = false := by simpa using hin
                  have HIN := Lib.hid hin
                  clear hin
                  go_wp2_with (go_at_call 13; refine (has_any _ _ hd xx _ OH2.out (by omega)).mono ?_; rintro e w' ⟨rfl, rfl⟩)
                  go_round
                  case rel => exact ⟨q + 1, by omega, by go_num, by rw [hot.out, if_neg HIN.out]; go_num⟩
                  case measure => simp [intOf]; omega
            · obtain rfl : q = sf2.length := by omega
              have hq1 : ¬ (sf2.length : Int) < (sf2.length : Int) := by omega
              rw [List.take_length] at hol ⊢
              by_cases hz4 : z4 = 0
              · subst hz4
                go_wp2
                go_roundw
                case rel => exact ⟨k + 1, _, _, by omega, by go_num, by rw [HN.out], by rw [EQ3.out]; exact OH2.out, by rw [EQ4.out]; exact OS2.out, DJ2.out⟩
                case measure => simp [intOf]; omega
              · have hz4' : (z4 != 0) = true := by simpa using hz4
                have h3 := HBD3.out hz4
                go_wp2
                go_roundw
                case rel => exact ⟨k + 1, _, _, by omega, by go_num, by rw [HN.out], by rw [EQ3.out]; exact OH2.out, by rw [EQ4.out]; exact OS2.out, DJ2.out⟩
                case measure => simp [intOf]; omega
        · by_cases kh : x0 = 1 ∨ x0 = 3 ∨ x0 = 4
          · as_aux_lemma =>
            have kk' : (x0 == 0) = false := by simpa using kk
            have eh : hd2 = Sc.wth hd (x1 / 86400000) := by rw [HH.out]; unfold Sc.nHard; rw [if_pos (show Sc.kHard x0 from kh)]; rfl
            have es : sf2 = sf := by rw [HF.out]; unfold Sc.nSoft; rw [if_neg kk]
            have EH := Lib.hid eh
            have ES := Lib.hid es
            clear eh es kk
            rcases kh with rfl | rfl | rfl
            all_goals
              go_wp2_with (go_at_call 12; refine (with_any _ _ _ (w0.heap.size + 1) (.slice A1 hd.length e1) (.slice A2 sf.length e2) hd sf _ (by simp) (by exact own_more OH.out (by simp) (by simp)) (by exact own_more OS.out (by simp) (by simp)) DJ.out (by omega)).mono ?_; rintro e w1 ⟨hv2, L3, d3, rfl, rfl, oh2, os2, dj2⟩; rw [← EH.out] at oh2; obtain ⟨A3, e3, rfl⟩ := oh2.slice; have OS2 := Lib.hid os2; have OH2 := Lib.hid oh2; have DJ2 := Lib.hid dj2; clear os2 oh2 dj2)
              obtain rfl : sf = sf2 := ES.out.symm
              have BD := Sc.inv_bound HSZ2.out HI2.out
              rw [HN.out] at BD
              obtain ⟨bd1, bd2, bd3⟩ := BD
              simp only at bd1 bd2 bd3
              have HBD3 := Lib.hid bd3
              clear bd3
              go_wp2
              go_loop [10, 11] (fun o j => ∃ q : Nat, q ≤ sf.length ∧ j = .int .i64 q ∧ o = .int .i64 (Sc.oth hd2 (sf.take q))) (fun _ j => sf.length - (intOf j).toNat)
              case atStart => exact ⟨0, Nat.zero_le _, rfl, rfl⟩
              case round =>
                obtain ⟨q, hq, rfl, rfl⟩ := hrel
                have hol := oth_le hd2 (sf.take q)
                have htl : (sf.take q).length ≤ 100 := by rw [List.length_take]; omega
                by_cases hql : q < sf.length
                · rcases Own.form OS2.out with ⟨h1, h2⟩ | ⟨g, cap2, hv2, hg1, hg2, hcs2⟩
                  · rw [h2] at hql; simp at hql
                  · simp only [Value.slice.injEq] at hv2
                    obtain ⟨rfl, -, rfl⟩ := hv2
                    have hcell := hcs2 q hql
                    have hq0 : (0 : Int) ≤ (q : Int) := by omega
                    have hq1 : (q : Int) < (sf.length : Int) := by omega
                    have hot := Lib.hid (oth_take (hard := hd2) hql)
                    clear hcs2
                    generalize hxx : sf[q]'hql = xx at *
                    have HXX := Lib.hid hxx
                    clear hxx
                    by_cases hin : xx ∈ hd2
                    · have hin' : decide (xx ∈ hd2) = true := by simpa using hin
                      have HIN := Lib.hid hin
                      clear hin
                      go_wp2_with (go_at_call 13; refine (has_any _ _ hd2 xx _ OH2.out (by omega)).mono ?_; rintro e w' ⟨rfl, rfl⟩)
                      go_round
                      case rel => exact ⟨q + 1, by omega, by go_num, by rw [hot.out, if_pos HIN.out, Nat.add_zero]⟩
                      case measure => simp [intOf]; omega
                    · have hin' : decide (xx ∈ hd2) = false := by simpa using hin
                      have HIN := Lib.hid hin
                      clear hin
                      go_wp2_with (go_at_call 13; refine (has_any _ _ hd2 xx _ OH2.out (by omega)).mono ?_; rintro e w' ⟨rfl, rfl⟩)
                      go_round
                      case rel => exact ⟨q + 1, by omega, by go_num, by rw [hot.out, if_neg HIN.out]; go_num⟩
                      case measure => simp [intOf]; omega
                · obtain rfl : q = sf.length := by omega
                  have hq1 : ¬ (sf.length : Int) < (sf.length : Int) := by omega
                  rw [List.take_length] at hol ⊢
                  by_cases hz4 : z4 = 0
                  · subst hz4
                    go_wp2
                    go_roundw
                    case rel => exact ⟨k + 1, _, _, by omega, by go_num, by rw [HN.out], by rw [EQ3.out]; exact OH2.out, by rw [EQ4.out]; exact OS2.out, DJ2.out⟩
                    case measure => simp [intOf]; omega
                  · have hz4' : (z4 != 0) = true := by simpa using hz4
                    have h3 := HBD3.out hz4
                    go_wp2
                    go_roundw
                    case rel => exact ⟨k + 1, _, _, by omega, by go_num, by rw [HN.out], by rw [EQ3.out]; exact OH2.out, by rw [EQ4.out]; exact OS2.out, DJ2.out⟩
                    case measure => simp [intOf]; omega
          · as_aux_lemma =>
            have kk' : (x0 == 0) = false := by simpa using kk
            have k1' : (x0 == 1) = false := by simp; omega
            have k3' : (x0 == 3) = false := by simp; omega
            have k4' : (x0 == 4) = false := by simp; omega
            have eh : hd2 = hd := by rw [HH.out]; unfold Sc.nHard; rw [if_neg (show ¬ Sc.kHard x0 from kh)]
            have es : sf2 = sf := by rw [HF.out]; unfold Sc.nSoft; rw [if_neg kk]
            have OH2 := Lib.hid (own_more (X' := w0.alloc (.cells #[.string ⟨#[97, 64, 120]⟩, .int .i64 z1, .int .i64 z2, .int .i64 z3, .int .i64 z4, .int .i64 z5, .int .i64 z6] 23)) (L2 := L2) (d' := d2) OH.out (by simp) (by simp))
            have OS2 := Lib.hid (own_more (X' := w0.alloc (.cells #[.string ⟨#[97, 64, 120]⟩, .int .i64 z1, .int .i64 z2, .int .i64 z3, .int .i64 z4, .int .i64 z5, .int .i64 z6] 23)) (L2 := L2) (d' := d2) OS.out (by simp) (by simp))
            have DJ2 := DJ
            obtain rfl := eh
            obtain rfl := es
            clear kk kh
            have BD := Sc.inv_bound HSZ2.out HI2.out
            rw [HN.out] at BD
            obtain ⟨bd1, bd2, bd3⟩ := BD
            simp only at bd1 bd2 bd3
            have HBD3 := Lib.hid bd3
            clear bd3
            go_wp2
            go_loop [10, 11] (fun o j => ∃ q : Nat, q ≤ sf2.length ∧ j = .int .i64 q ∧ o = .int .i64 (Sc.oth hd2 (sf2.take q))) (fun _ j => sf2.length - (intOf j).toNat)
            case atStart => exact ⟨0, Nat.zero_le _, rfl, rfl⟩
            case round =>
              obtain ⟨q, hq, rfl, rfl⟩ := hrel
              have hol := oth_le hd2 (sf2.take q)
              have htl : (sf2.take q).length ≤ 100 := by rw [List.length_take]; omega
              by_cases hql : q < sf2.length
              · rcases Own.form OS2.out with ⟨h1, h2⟩ | ⟨g, cap2, hv2, hg1, hg2, hcs2⟩
                · rw [h2] at hql; simp at hql
                · simp only [Value.slice.injEq] at hv2
                  obtain ⟨rfl, -, rfl⟩ := hv2
                  have hcell := hcs2 q hql
                  have hq0 : (0 : Int) ≤ (q : Int) := by omega
                  have hq1 : (q : Int) < (sf2.length : Int) := by omega
                  have hot := Lib.hid (oth_take (hard := hd2) hql)
                  clear hcs2
                  generalize hxx : sf2[q]'hql = xx at *
                  have HXX := Lib.hid hxx
                  clear hxx
                  by_cases hin : xx ∈ hd2
                  · have hin' : decide (xx ∈ hd2) = true := by simpa using hin
                    have HIN := Lib.hid hin
                    clear hin
                    go_wp2_with (go_at_call 13; refine (has_any _ _ hd2 xx _ OH2.out (by omega)).mono ?_; rintro e w' ⟨rfl, rfl⟩)
                    go_round
                    case rel => exact ⟨q + 1, by omega, by go_num, by rw [hot.out, if_pos HIN.out, Nat.add_zero]⟩
                    case measure => simp [intOf]; omega
                  · have hin' : decide (xx ∈ hd2) = false := by simpa using hin
                    have HIN := Lib.hid hin
                    clear hin
                    go_wp2_with (go_at_call 13; refine (has_any _ _ hd2 xx _ OH2.out (by omega)).mono ?_; rintro e w' ⟨rfl, rfl⟩)
                    go_round
                    case rel => exact ⟨q + 1, by omega, by go_num, by rw [hot.out, if_neg HIN.out]; go_num⟩
                    case measure => simp [intOf]; omega
              · obtain rfl : q = sf2.length := by omega
                have hq1 : ¬ (sf2.length : Int) < (sf2.length : Int) := by omega
                rw [List.take_length] at hol ⊢
                by_cases hz4 : z4 = 0
                · subst hz4
                  go_wp2
                  go_roundw
                  case rel => exact ⟨k + 1, _, _, by omega, by go_num, by rw [HN.out], by rw [EQ3.out]; exact OH2.out, by rw [EQ4.out]; exact OS2.out, DJ2.out⟩
                  case measure => simp [intOf]; omega
                · have hz4' : (z4 != 0) = true := by simpa using hz4
                  have h3 := HBD3.out hz4
                  go_wp2
                  go_roundw
                  case rel => exact ⟨k + 1, _, _, by omega, by go_num, by rw [HN.out], by rw [EQ3.out]; exact OH2.out, by rw [EQ4.out]; exact OS2.out, DJ2.out⟩
                  case measure => simp [intOf]; omega
    · obtain rfl : k = l.length := by omega
      obtain rfl := HE0.out.1
      have hk1 : ¬ (l.length : Int) < (l.length : Int) := by omega
      unfold hcs
      go_wp2
      go_ret
      have hz0 := HB0.out.size; exact ⟨rfl, HB0.out.trans (by repeat' (first | (with_reducible exact Below.refl _ _) | (with_reducible refine Below.mored _ _ _ ?_ ?_) | (with_reducible refine Below.alloc ?_ ?_ _) | (with_reducible refine Below.drewN' _ ?_ _) | (with_reducible refine Below.drew ?_) | (with_reducible refine Below.setCell ?_ ?_ _) | (simp only [World.more_size, World.size_alloc, World.size_setCell, World.size_drew, World.heap_drewN]; omega) | go_size))⟩
end Go.Proofs.Ytbjhbhinllnlcaa
