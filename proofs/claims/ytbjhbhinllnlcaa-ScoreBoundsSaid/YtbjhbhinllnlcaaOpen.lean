import Derived.Test.YtbjhbhinllnlcaaRows
import Derived.WalkKit
import Derived.ProofKit
import Derived.OpenShut
import Derived.ChangeOld
import Derived.Below
import Derived.Deep.Slices
import Derived.Deep.Fields
import Derived.ChangeSame
import Derived.Lib.SmallJoins
import Derived.Test.YtbjhbhinllnlcaaRight
namespace Go.Proofs.Ytbjhbhinllnlcaa
open Go.Joins Go.ChangeShapes Go.WideShapes Go.RowKit Go.Deep Go.ChangeAt
set_option linter.unusedVariables false
theorem own : ownKnob Try.prog.godebug = none := by kernel_rfl
theorem laidOut : laidOutB Try.prog = true := by kernel_rfl

theorem lt_of_cell {w : World} {a : Addr} {v : Value} (h : w.cell? a = some v) : a.block < w.heap.size := by
  rcases Nat.lt_or_ge a.block w.heap.size with h1 | h1
  · exact h1
  · unfold World.cell? at h
    rw [Array.getElem?_eq_none h1] at h
    cases h

theorem wf_i64 {n : Int} (h : (Lit.int .i64 n).wf = true) : -9223372036854775808 ≤ n ∧ n ≤ 9223372036854775807 := by
  have := bounds_i64 h
  omega

/-- an argument that is a list of events, opened -/
theorem open_ev {H : Type} {enc : TypeId × Value → H} {w : World} {base : Nat} {spare : Nat → Bool} {held : Bool} {a : Option Addr} {len cap : Nat} {fuel : Nat} {x : DataW H × List MemPlace}
    (h : DataW.trod enc Try.prog w base spare held fuel 27 [.slice a len cap] = some x) : ∃ l, Ev w a len l := by
  rcases open_slice Try.underlying27 h with ⟨hcs, _⟩ | ⟨ad, len', cap', m, n, D, Pl, hcs, hb, hl, hm, hmm, hx, hi⟩
  · simp only [List.cons.injEq, Value.slice.injEq, and_true] at hcs
    obtain ⟨rfl, rfl, rfl⟩ := hcs
    exact ⟨[], rfl, by simp, by omega, fun h => absurd h (by omega)⟩
  · simp only [List.cons.injEq, Value.slice.injEq, and_true] at hcs
    obtain ⟨rfl, rfl, rfl⟩ := hcs
    have hlm : len ≤ m := by rw [hmm]; split <;> omega
    have key : ∀ i, i < len → ∃ p : Int × Int, w.cell? (ad.add (i * 2)) = some (.int .i64 p.1) ∧ w.cell? (ad.add (i * 2 + 1)) = some (.int .i64 p.2) ∧ -9223372036854775808 ≤ p.1 ∧ p.1 ≤ 9223372036854775807 ∧ -9223372036854775808 ≤ p.2 ∧ p.2 ≤ 9223372036854775807 := by
      intro i hi'
      obtain ⟨cs', hc, ht'⟩ := hi i (by omega)
      have hC : Try.prog.cellsOf 34 = 2 := by kernel_rfl
      rw [hC] at hc
      obtain ⟨ys, n', hn', hy, hlen, hyl, hf⟩ := DataW.trod_struct Try.underlying34 ht'
      obtain ⟨_, hcl, hat⟩ := World.cells?_some hc
      match cs', hcl with
      | [c0, c1], _ =>
        match ys, hyl with
        | [y0, y1], _ =>
          have e0 : Try.prog.cellsOf 3 = 1 := by kernel_rfl
          have f0 : DataW.trod enc Try.prog w base spare held n' 3 (List.take (Try.prog.cellsOf 3) (List.drop 0 [c0, c1])) = [y0, y1][0]? := hf 0 _ rfl
          have f1 : DataW.trod enc Try.prog w base spare held n' 3 (List.take (Try.prog.cellsOf 3) (List.drop 1 [c0, c1])) = [y0, y1][1]? := hf 1 _ rfl
          rw [e0] at f0 f1
          simp only [List.drop_zero, List.take_succ_cons, List.take_zero, List.drop_succ_cons, List.getElem?_cons_zero, List.getElem?_cons_succ] at f0 f1
          obtain ⟨n0, g0, _, w0⟩ := DataW.trod_int Try.underlying3 f0
          obtain ⟨n1, g1, _, w1⟩ := DataW.trod_int Try.underlying3 f1
          simp only [List.cons.injEq, and_true] at g0 g1
          subst g0 g1
          have k0 := hat 0 (by omega)
          have k1 := hat 1 (by omega)
          simp only [List.getElem?_cons_zero, List.getElem?_cons_succ] at k0 k1
          have b0 := wf_i64 w0
          have b1 := wf_i64 w1
          refine ⟨(n0, n1), ?_, ?_, b0.1, b0.2, b1.1, b1.2⟩
          · rw [Go.Deep.add_add] at k0; exact k0
          · rw [Go.Deep.add_add] at k1; exact k1
    let f : Nat → Int × Int := fun i => if h : i < len then Classical.choose (key i h) else (0, 0)
    have hf : ∀ i, i < len → w.cell? (ad.add (i * 2)) = some (.int .i64 (f i).1) ∧ w.cell? (ad.add (i * 2 + 1)) = some (.int .i64 (f i).2) ∧ -9223372036854775808 ≤ (f i).1 ∧ (f i).1 ≤ 9223372036854775807 ∧ -9223372036854775808 ≤ (f i).2 ∧ (f i).2 ≤ 9223372036854775807 := by
      intro i h
      simp only [f, dif_pos h]
      exact Classical.choose_spec (key i h)
    clear_value f
    refine ⟨(List.range len).map f, by simp, ?_, by unfold maxLen at hm; omega, fun hp => ?_⟩
    · intro e he
      obtain ⟨i, hi', rfl⟩ := List.mem_map.1 he
      exact (hf i (List.mem_range.1 hi')).2.2
    · obtain ⟨b, off, spot⟩ := ad
      have h0 := (hf 0 hp).1
      have hspot : spot = none := by
        have := World.cell?_spot h0
        simpa [Addr.add] using this
      subst hspot
      refine ⟨b, off, rfl, by simpa [Addr.add] using lt_of_cell h0, fun i hi' => ?_⟩
      have hi'' : i < len := by simpa using hi'
      obtain ⟨c0, c1, _⟩ := hf i hi''
      have e : ∀ n, (⟨b, off, none⟩ : Addr).add n = ⟨b, off + n, none⟩ := by
        intro n
        unfold Addr.add
        split
        · next h => subst h; rfl
        · rfl
      rw [e] at c0 c1
      simp only [List.getElem_map, List.getElem_range]
      exact ⟨c0, by rw [Nat.add_assoc]; exact c1⟩
end Go.Proofs.Ytbjhbhinllnlcaa
