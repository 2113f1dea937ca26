import Derived.Test.YtbjhbhinllnlcaaRows
import Derived.Test.YtbjhbhinllnlcaaPlain
import Derived.WalkKit
import Derived.ProofKit
import Derived.Outline
import Derived.WalkLawsBesides
import Derived.WalkSpells
import Derived.Lib.Hide
import Derived.Deep.RegionHeld3
import Derived.Deep.DrawnRows
import Derived.Deep.QuietTactic
import Derived.BigQuiet
import Derived.Deep.DeepFit
import Derived.StillTailTactics
import Derived.Handy
import Derived.LoopTactic
import Derived.Deep.RegionWith
import Derived.Deep.RegionLaw
import Derived.Test.YtbjhbhinllnlcaaWith
namespace Go.Proofs.Ytbjhbhinllnlcaa
open Go.ChangeShapes Go.WideShapes Go.ChangeAt Go.RowKit
set_option maxHeartbeats 1600000
set_option maxRecDepth 100000
set_option linter.unusedSimpArgs false
set_option linter.unusedVariables false

def hardTo (l : List (Int × Int)) : Nat → List Int
  | 0 => []
  | k + 1 => match l[k]? with
    | some e => Sc.nHard e.1 (Sc.dy e.2) (hardTo l k)
    | none => hardTo l k
def softTo (l : List (Int × Int)) : Nat → List Int
  | 0 => []
  | k + 1 => match l[k]? with
    | some e => Sc.nSoft e.1 (Sc.dy e.2) (softTo l k)
    | none => softTo l k
def tmTo (l : List (Int × Int)) : Nat → Int
  | 0 => 0
  | k + 1 => match l[k]? with
    | some e => e.2
    | none => tmTo l k
theorem hardTo_succ {l : List (Int × Int)} {k : Nat} (h : k < l.length) : hardTo l (k + 1) = Sc.nHard (l[k]'h).1 (Sc.dy (l[k]'h).2) (hardTo l k) := by simp [hardTo, List.getElem?_eq_getElem h]
theorem softTo_succ {l : List (Int × Int)} {k : Nat} (h : k < l.length) : softTo l (k + 1) = Sc.nSoft (l[k]'h).1 (Sc.dy (l[k]'h).2) (softTo l k) := by simp [softTo, List.getElem?_eq_getElem h]
theorem tmTo_succ {l : List (Int × Int)} {k : Nat} (h : k < l.length) : tmTo l (k + 1) = (l[k]'h).2 := by simp [tmTo, List.getElem?_eq_getElem h]

theorem asc_at {l : List (Int × Int)} (h : asc 0 l = true) : ∀ k, k ≤ l.length → asc (tmTo l k) (l.drop k) = true
  | 0, _ => by simpa [tmTo] using h
  | k + 1, hk => by
    have ih := asc_at h k (by omega)
    rw [asc_drop (by omega)] at ih
    rw [tmTo_succ (by omega)]
    simp only [Bool.and_eq_true] at ih
    exact ih.2
theorem tm_le {l : List (Int × Int)} (h : rightB l = true) {k : Nat} (hk : k < l.length) : tmTo l k ≤ (l[k]'hk).2 := by
  simp only [rightB, Bool.and_eq_true] at h
  have := asc_at h.1 k (by omega)
  rw [asc_drop hk] at this
  simp only [Bool.and_eq_true, decide_eq_true_eq] at this
  exact this.1.1

theorem wth_len (l : List Int) (d : Int) : (Sc.wth l d).length ≤ l.length + 1 := by unfold Sc.wth; split <;> simp
theorem run_inv {l : List (Int × Int)} (h : rightB l = true) : ∀ k, k ≤ l.length → Sc.Inv (runTo l k) (hardTo l k) (softTo l k) (Sc.dy (tmTo l k)) ∧ (hardTo l k).length ≤ k ∧ (softTo l k).length ≤ k
  | 0, _ => ⟨Sc.inv_new, Nat.le_refl _, Nat.le_refl _⟩
  | k + 1, hk => by
    obtain ⟨ih, i1, i2⟩ := run_inv h k (by omega)
    obtain ⟨h0, h1⟩ := (right_time h).2 _ (List.getElem_mem (l := l) (n := k) (by omega))
    have hle := tm_le h (k := k) (by omega)
    rw [runTo_succ (by omega), hardTo_succ (by omega), softTo_succ (by omega), tmTo_succ (by omega)]
    refine ⟨Sc.inv_stp (run_szd h k (by omega)) ih ?_ ?_, ?_, ?_⟩
    · unfold Sc.dy; omega
    · unfold Sc.dy; omega
    · unfold Sc.nHard; split
      · have := wth_len (hardTo l k) (Sc.dy (l[k]'(by omega)).2); omega
      · omega
    · unfold Sc.nSoft; split
      · have := wth_len (softTo l k) (Sc.dy (l[k]'(by omega)).2); omega
      · omega

theorem oth_take {hard soft : List Int} {k : Nat} (h : k < soft.length) : Sc.oth hard (soft.take (k + 1)) = Sc.oth hard (soft.take k) + (if (soft[k]'h) ∈ hard then 0 else 1) := by
  rw [List.take_succ_eq_append_getElem h, Sc.oth_app]
  by_cases h1 : (soft[k]'h) ∈ hard <;> simp [h1]
theorem oth_le (hard soft : List Int) : Sc.oth hard soft ≤ soft.length := by unfold Sc.oth; exact List.length_filter_le _ _
end Go.Proofs.Ytbjhbhinllnlcaa
