import Derived.Test.YteipljggjegpoaaDoorV1
import Derived.Test.YteipljggjegpoaaDoorEsc
import Derived.Laws.RangeAny
import Derived.Lib.SpaceUEq
import Derived.Lib.DecodeN
import Derived.Lib.TrimUEq
namespace Go.Proofs.YteipljggjegpoaaDoor
set_option linter.unusedVariables false
set_option linter.unusedSimpArgs false
open Go.RowKit Go.Lib
set_option maxHeartbeats 1000000
set_option maxRecDepth 100000

theorem getD_at (s : ByteArray) (j : Nat) (h : j < s.size) : s.data.toList.getD j 0 = s[j]'h := by
  rw [List.getD_eq_getElem?_getD]
  have : j < s.data.toList.length := by simpa using h
  simp [List.getElem?_eq_getElem this]
  rfl

theorem idx_lt (p : Nat → Bool) (hp : ∀ r, 128 ≤ r → p r = false) (s : ByteArray) : ∀ f pos, s.size ≤ pos + f →
    (idxFuncFrom p true s f pos < 0 ↔ ∀ j, pos ≤ j → j < s.size → p (s.data.toList.getD j 0).toNat = false)
  | 0, pos, h => by
    simp only [idxFuncFrom]
    constructor
    · intro _ j h1 h2; omega
    · intro _; decide
  | f + 1, pos, h => by
    by_cases hlt : pos < s.size
    · simp only [idxFuncFrom, hlt, if_true]
      by_cases ha : (s[pos]'hlt).toNat < 128
      · rw [decode_ascii s pos hlt ha]
        cases hpb : p (s[pos]'hlt).toNat with
        | true =>
          simp only [if_true]
          constructor
          · intro hc; omega
          · intro hc
            have := hc pos (Nat.le_refl _) hlt
            rw [getD_at s pos hlt, hpb] at this
            cases this
        | false =>
          simp only [Bool.false_eq_true, if_false]
          rw [idx_lt p hp s f (pos + 1) (by omega)]
          constructor
          · intro hc j h1 h2
            by_cases hj : j = pos
            · subst hj; rw [getD_at s j hlt]; exact hpb
            · exact hc j (by omega) h2
          · intro hc j h1 h2
            exact hc j (by omega) h2
      · have hd := decode_high s pos hlt (by omega)
        rw [hp _ hd.1]
        simp only [Bool.false_eq_true, if_false]
        rw [idx_lt p hp s f (pos + (Utf8.decode s pos).2) (by omega)]
        constructor
        · intro hc j h1 h2
          by_cases hj : pos + (Utf8.decode s pos).2 ≤ j
          · exact hc j hj h2
          · apply hp
            have hconts := decodeN_conts (s.data.toList.length - pos) (s.data.toList.getD pos 0).toNat (s.data.toList.getD (pos + 1) 0).toNat (s.data.toList.getD (pos + 2) 0).toNat (s.data.toList.getD (pos + 3) 0).toNat
            rw [← decode_N] at hconts
            obtain ⟨c2, c3, c4, c5⟩ := hconts
            have hj4 : j = pos ∨ j = pos + 1 ∨ j = pos + 2 ∨ j = pos + 3 := by omega
            rcases hj4 with e | e | e | e
            · subst e; rw [getD_at s j hlt]; omega
            · subst e; have := (c2 (by omega)).1; omega
            · subst e; have := (c3 (by omega)).1; omega
            · subst e; have := (c4 (by omega)).1; omega
        · intro hc j h1 h2
          exact hc j (by omega) h2
    · rw [idxFuncFrom_end _ _ _ _ _ hlt]
      constructor
      · intro _ j h1 h2; omega
      · intro _; decide

/-- the test on runes -/
def spR (r : Nat) : Bool := (decide ((r : Int) < 32) || (r : Int) == 127 || ((r : Int) == 38 || (r : Int) == 60 || (r : Int) == 62 || (r : Int) == 34))
theorem spR_high (r : Nat) (h : 128 ≤ r) : spR r = false := by
  unfold spR
  simp
  omega
theorem spR_byte (c : UInt8) : spR c.toNat = Vw.special c := by
  have := Vw.byte_all (p := fun c => spR c.toNat == Vw.special c) (by decide +kernel) c
  simpa using this

theorem idx_special (s : ByteArray) : decide (idxFunc spR true s < 0) = !(s.data.toList.any Vw.special) := by
  have h := idx_lt spR spR_high s s.size 0 (by omega)
  unfold idxFunc
  cases ha : s.data.toList.any Vw.special with
  | false =>
    simp only [Bool.not_false, decide_eq_true_eq]
    refine h.2 ?_
    intro j _ h2
    rw [spR_byte]
    have hm : s.data.toList.getD j 0 ∈ s.data.toList := by
      have hl : j < s.data.toList.length := by simpa using h2
      rw [List.getD_eq_getElem?_getD, List.getElem?_eq_getElem hl]
      exact List.getElem_mem _
    rw [List.any_eq_false] at ha
    simpa using ha _ hm
  | true =>
    simp only [Bool.not_true, decide_eq_false_iff_not]
    intro hlt
    have hc := h.1 hlt
    rw [List.any_eq_true] at ha
    obtain ⟨x, hx, hs⟩ := ha
    obtain ⟨j, hj, rfl⟩ := List.getElem_of_mem hx
    have := hc j (by omega) (by simpa using hj)
    rw [spR_byte, List.getD_eq_getElem?_getD, List.getElem?_eq_getElem hj] at this
    rw [Option.getD_some, hs] at this
    cases this

theorem pays (w : World) : PredGrows Tryd.prog 11 #[] spR w := by
  intro W x hx hb
  exact special_any (x : Int) (by omega) (by omega) W

theorem indexFunc_any (s : ByteArray) (w : World) :
    Calls Tryd.prog 10 #[.string s, .func (.func 11) #[] #[]] w fun e w' => e = .returned (.int .i64 (idxFunc spR true s)) ∧ Below w.heap.size w w' :=
  Tryd.strings_IndexFunc_grows 11 #[] (fun args w => by go_simp) spR s w (pays w)

/-- Escape at a plain string. -/
theorem escape_plain (s : ByteArray) (h : s.data.toList.any Vw.special = false) (w : World) :
    Calls Tryd.prog 5 #[.string s] w fun e w' => e = .returned (.string s) ∧ Below w.heap.size w w' := by
  have hx := idx_special s
  rw [h] at hx
  simp only [Bool.not_false] at hx
  go_enter Tryd.func5, Tryd.ntmps5
  go_wp2_with (go_at_call 10; refine (indexFunc_any s _).mono ?_; rintro e w' ⟨rfl, hb⟩)
  go_ret
  exact ⟨rfl, hb⟩
end Go.Proofs.YteipljggjegpoaaDoor
