import Derived.Test.YtbjhbhinllnlcaaRows
import Derived.Test.YtbjhbhinllnlcaaPlain
import Derived.WalkKit
import Derived.ProofKit
import Derived.Outline
import Derived.WalkLawsBesides
import Derived.WalkSpells
import Derived.Lib.Hide
import Derived.Deep.RegionHeld3
import Derived.Deep.DrawnRows
import Derived.Deep.QuietTactic
import Derived.BigQuiet
import Derived.Deep.DeepFit
import Derived.StillTailTactics
import Derived.Handy
import Derived.LoopTactic
import Derived.Deep.RegionWith
import Derived.Deep.RegionLaw
import Derived.Maps.AppendAt
import Derived.OwnWalk
import Derived.Deep.AppendLies
import Derived.Test.YtbjhbhinllnlcaaHealsWalk
namespace Go.Proofs.Ytbjhbhinllnlcaa
open Go.ChangeShapes Go.WideShapes Go.ChangeAt Go.RowKit
set_option maxHeartbeats 1600000
set_option maxRecDepth 100000
set_option linter.unusedSimpArgs false
set_option linter.unusedVariables false

theorem int_info : (Try.prog.info? 3).map (fun i => (i.zero, i.size, i.bytes)) = some (some (.int .i64 0), 1, 8) := by kernel_rfl

/-- a slice that the call made: its numbers -/
def Own (w : World) (B : Nat) (v : Value) (xs : List Int) : Prop := w.ownsRow B 3 1 v xs.length (xs.map (Value.int .i64))

theorem Own.form {w : World} {B : Nat} {v : Value} {xs : List Int} (h : Own w B v xs) : (v = .slice none 0 0 ∧ xs = []) ∨ ∃ g cap, v = .slice (some ⟨g, 0, none⟩) xs.length cap ∧ B ≤ g ∧ g < w.heap.size ∧ ∀ i (hi : i < xs.length), w.cell? ⟨g, i, none⟩ = some (.int .i64 (xs[i]'hi)) := by
  have h' := h
  obtain ⟨h1, h2⟩ := h
  rcases h2 with ⟨rfl, h0⟩ | ⟨g, cap, cur, rfl, hg, hh, _, _, _, _⟩
  · exact .inl ⟨rfl, List.eq_nil_of_length_eq_zero h0⟩
  · refine .inr ⟨g, cap, rfl, hg, ?_, fun i hi => ?_⟩
    · rcases Nat.lt_or_ge g w.heap.size with h | h
      · exact h
      · rw [Array.getElem?_eq_none h] at hh; cases hh
    · rw [World.ownsRow.cellAt h' i (by omega)]
      simp [hi]

theorem has_any (B : Nat) (v : Value) (xs : List Int) (n : Int) (w : World) (ho : Own w B v xs) (hl : xs.length ≤ 1000) :
    Calls Try.prog 13 #[v, .int .i64 n] w fun e w' => e = .returned (.bool (decide (n ∈ xs))) ∧ w = w' := by
  obtain ⟨r, hr⟩ : ∃ r, decide (n ∈ xs) = r := ⟨_, rfl⟩
  rw [hr]
  have HR := Lib.hid hr
  clear hr
  rcases ho.form with ⟨rfl, rfl⟩ | ⟨g, cap, rfl, hg, hgs, hc⟩
  · clear ho
    go_enter Try.func13, Try.ntmps13
    go_wp2
    go_loop [5] (fun i => i = .int .i64 0) (fun _ => 0)
    case atStart => rfl
    case round =>
      obtain rfl := hrel
      go_wp2
      go_ret
      exact ⟨by rw [← HR.out]; rfl, rfl⟩
  · have HC := Lib.hid hc
    clear ho hc
    go_enter Try.func13, Try.ntmps13
    go_wp2
    go_loop [5] (fun i => ∃ k : Nat, k ≤ xs.length ∧ i = .int .i64 k ∧ Hid (∀ j (hj : j < xs.length), j < k → xs[j]'hj ≠ n)) (fun i => xs.length - (intOf i).toNat)
    case atStart => exact ⟨0, Nat.zero_le _, rfl, fun _ _ h => absurd h (by omega)⟩
    case round =>
      obtain ⟨k, hk, rfl, HA⟩ := hrel
      by_cases hlt : k < xs.length
      · have hcell := HC.out k hlt
        have hk0 : (0 : Int) ≤ (k : Int) := by omega
        have hk1 : (k : Int) < (xs.length : Int) := by omega
        generalize hx : xs[k]'hlt = x at *
        have HX := Lib.hid hx
        clear hx
        by_cases hxn : x = n
        · subst hxn
          go_wp2
          go_ret
          exact ⟨by rw [← HR.out]; simp [← HX.out], rfl⟩
        · have hxn' : (x == n) = false := by simpa using hxn
          have HN := Lib.hid hxn
          clear hxn
          go_wp2
          go_round
          case rel =>
            refine ⟨k + 1, by omega, by go_num, fun j hj hjk => ?_⟩
            by_cases e : j = k
            · subst e; rw [HX.out]; exact HN.out
            · exact HA.out j hj (by omega)
          case measure => simp [intOf]; omega
      · have hk1 : ¬ (k : Int) < (xs.length : Int) := by omega
        go_wp2
        go_ret
        refine ⟨?_, rfl⟩
        rw [← HR.out]
        have : ¬ n ∈ xs := by
          intro hm
          obtain ⟨j, hj, e⟩ := List.getElem_of_mem hm
          exact HA.out j hj (by omega) e
        simp [this]

def Disj (v u : Value) : Prop := u.ownBlock = none ∨ u.ownBlock ≠ v.ownBlock
theorem Disj.symm {v u : Value} (h : Disj v u) : Disj u v := by
  unfold Disj at *
  rcases h with h | h
  · by_cases e : v.ownBlock = none
    · exact .inl e
    · exact .inr (by rw [h]; exact e)
  · exact .inr (Ne.symm h)

theorem more_heap_ge (X : World) (L : List Obj) (d g : Nat) (h : X.heap.size ≤ g) : (X.more L d).heap[g]? = L[g - X.heap.size]? := by
  show (X.heap ++ L.toArray)[g]? = _
  rw [Array.getElem?_append_right h]
  simp

theorem own_of_same {w w' : World} {B : Nat} {v : Value} {xs : List Int} (h : Own w B v xs) (hs : ∀ g, B ≤ g → g < w.heap.size → w'.heap[g]? = w.heap[g]?) : Own w' B v xs := by
  obtain ⟨h1, h2⟩ := h
  refine ⟨h1, ?_⟩
  rcases h2 with h2 | ⟨g, cap, cur, hv, hg, hh, r⟩
  · exact .inl h2
  · refine .inr ⟨g, cap, cur, hv, hg, ?_, r⟩
    rw [hs g hg ?_]; exact hh
    rcases Nat.lt_or_ge g w.heap.size with h | h
    · exact h
    · rw [Array.getElem?_eq_none h] at hh; cases hh

/-- what lies in the further blocks stands when the named ones turn, and when more come -/
theorem own_more {X X' : World} {L L2 : List Obj} {d d' B : Nat} {v : Value} {xs : List Int} (h : Own (X.more L d) B v xs) (hB : X.heap.size = B) (hs : X'.heap.size = X.heap.size) : Own (X'.more (L ++ L2) d') B v xs := by
  refine own_of_same h fun g hg hlt => ?_
  rw [World.more_size] at hlt
  rw [more_heap_ge _ _ _ _ (by omega), more_heap_ge _ _ _ _ (by omega), hs, List.getElem?_append_left (by omega)]

theorem with_any (X : World) (L : List Obj) (d B : Nat) (v u : Value) (xs us : List Int) (n : Int) (hB : X.heap.size = B) (ho : Own (X.more L d) B v xs) (hu : Own (X.more L d) B u us) (hd : Disj v u) (hl : xs.length ≤ 500) :
    Calls Try.prog 12 #[v, .int .i64 n] (X.more L d) fun e w' => ∃ v' L' d', e = .returned v' ∧ w' = X.more L' d' ∧ Own (X.more L' d') B v' (Sc.wth xs n) ∧ Own (X.more L' d') B u us ∧ Disj v' u := by
  subst hB
  by_cases hm : n ∈ xs
  · have e : Sc.wth xs n = xs := by unfold Sc.wth; rw [if_pos hm]
    rw [e]
    have hm' : decide (n ∈ xs) = true := by simpa using hm
    have HO := Lib.hid ho
    have HU := Lib.hid hu
    have HD := Lib.hid hd
    clear ho hu hd e
    go_enter Try.func12, Try.ntmps12
    go_wp2_with (go_at_call 13; refine (has_any X.heap.size v xs n _ HO.out (by omega)).mono ?_; rintro e w' ⟨rfl, rfl⟩)
    go_ret
    exact ⟨_, L, d, rfl, rfl, HO.out, HU.out, HD.out⟩
  · have e : Sc.wth xs n = xs ++ [n] := by unfold Sc.wth; rw [if_neg hm]
    rw [e]
    have hm' : decide (n ∈ xs) = false := by simpa using hm
    obtain ⟨i0, hi0, hz0, hz1, hz2⟩ := info_parts int_info
    have HO := Lib.hid ho
    have HU := Lib.hid hu
    have HD := Lib.hid hd
    clear ho hu hd e hm
    go_enter Try.func12, Try.ntmps12
    go_wp2_with (first
      | (go_at_call 13; refine (has_any X.heap.size v xs n _ HO.out (by omega)).mono ?_; rintro e w' ⟨rfl, rfl⟩)
      | (at_builtin; refine wpList_append_own_at _ rfl _ _ 30 rfl X.heap.size 3 i0 (.int .i64 0) 1 8 Try.underlying30 hi0 hz0 hz1 hz2 rfl (by omega) v xs.length (xs.map (Value.int .i64)) rfl (World.ownsRow.alloc HO.out _) ⟨X.heap.size + L.length, 0, none⟩ 1 1 [.int .i64 n] rfl rfl ?c1 ?c2 ?c3 ?c4 ?c5 ?_))
    case c1 =>
      intro j u hj
      match j, hj with
      | 0, hj => simp at hj; subst hj; simp [Addr.add, go_sem]
    case c2 => intro u hu; simp at hu; subst hu; rfl
    case c3 => unfold maxLen; omega
    case c4 => omega
    case c5 => simp [World.more_size]; omega
    intro v' w1 hown hg _ hat
    go_wp2
    go_ret
    have hvb : ∀ k, v.ownBlock = some k → X.heap.size ≤ k ∧ k < (X.more L d).heap.size := World.ownsRow.lt HO.out
    have hub : ∀ k, u.ownBlock = some k → X.heap.size ≤ k ∧ k < (X.more L d).heap.size := World.ownsRow.lt HU.out
    have hbel : Below X.heap.size X w1 := by
      have h1 : Below X.heap.size X ((X.more L d).alloc (.cells #[.int .i64 n] 3)) := ((Below.refl _ _).mored _ _ _ (Nat.le_refl _)).alloc (by simp [World.more_size]) _
      exact h1.grown hg (by simp [World.more_size]; omega) (fun k hk => by have := (hvb k hk).1; omega)
    obtain ⟨L', d', rfl⟩ := hbel.more
    refine ⟨v', L', d', rfl, rfl, ?_, ?_, ?_⟩
    · unfold Own; simpa using hown
    · have h1 : ((X.more L d).alloc (.cells #[.int .i64 n] 3)).ownsRow X.heap.size 3 1 u us.length (us.map (Value.int .i64)) := World.ownsRow.alloc HU.out _
      exact h1.kept hg HD.out
    · unfold Disj
      rcases hat with h | h
      · rw [h]; exact HD.out
      · rw [h]
        by_cases hn : u.ownBlock = none
        · exact .inl hn
        · refine .inr fun hh => ?_
          have := (hub _ hh).2
          simp only [World.more_size, World.size_alloc] at this
          omega
end Go.Proofs.Ytbjhbhinllnlcaa
