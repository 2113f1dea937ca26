import Derived.WalkKit
import Derived.Below
import Derived.Laws.NewBlocks
import Derived.Deep.Draws
namespace Go
open Go.RowKit

/-- The world w with further blocks L, and d draws made: what a callee leaves that writes nothing of what was there. -/
def World.more (w : World) (L : List Obj) (d : Nat) : World := { w with heap := w.heap ++ L.toArray, drawn := d }

theorem RowKit.Below.more {w w1 : World} (hb : Below w.heap.size w w1) : ∃ L d, w1 = w.more L d := by
  refine ⟨(w1.heap.toList.drop w.heap.size), w1.drawn, ?_⟩
  have hsz := hb.size
  have e : w1.heap = w.heap ++ (w1.heap.toList.drop w.heap.size).toArray := by
    apply Array.ext_getElem?
    intro i
    rcases Nat.lt_or_ge i w.heap.size with h | h
    · rw [hb.block i h, Array.getElem?_append_left h]
    · rw [Array.getElem?_append_right h]
      simp [List.getElem?_drop, Nat.add_sub_cancel' h]
  have a := hb.os
  have b := hb.tape
  have c := hb.output
  obtain ⟨h1, t1, d1, o1, u1⟩ := w1
  obtain ⟨h0, t0, d0, o0, u0⟩ := w
  simp only at e a b c
  subst a b c
  simp only [World.more]
  rw [← e]

section
variable (w : World) (L : List Obj) (d : Nat)
theorem World.more_heap (k : Nat) (h : k < w.heap.size) : (w.more L d).heap[k]? = w.heap[k]? := by
  show (w.heap ++ L.toArray)[k]? = _
  rw [Array.getElem?_append_left h]
@[go_sem] theorem World.more_size : (w.more L d).heap.size = w.heap.size + L.length := by simp [World.more]
@[go_sem] theorem World.more_cell (b o : Nat) (h : b < w.heap.size) : (w.more L d).cell? ⟨b, o, none⟩ = w.cell? ⟨b, o, none⟩ :=
  World.cell?_of_block (World.more_heap w L d b h)
@[go_sem] theorem World.more_frozen (b o : Nat) (h : b < w.heap.size) : (w.more L d).frozen? ⟨b, o, none⟩ = w.frozen? ⟨b, o, none⟩ :=
  World.frozen?_of_block (World.more_heap w L d b h)
@[go_sem] theorem World.more_drew : (w.more L d).drew = w.more L (d + 1) := rfl
@[go_sem] theorem World.more_more (L' : List Obj) (d' : Nat) : (w.more L d).more L' d' = w.more (L ++ L') d' := by simp [World.more]
@[go_sem] theorem World.more_setCell (b o : Nat) (v : Value) (h : b < w.heap.size) : (w.more L d).setCell ⟨b, o, none⟩ v = (w.setCell ⟨b, o, none⟩ v).more L d := by
  have h' : b < (w.heap ++ L.toArray).size := by simp; omega
  simp only [World.more, World.setCell]
  congr 1
  apply Array.ext_getElem?
  intro i
  simp only [Array.getElem?_modify]
  rcases Nat.lt_or_ge i w.heap.size with hi | hi
  · rw [Array.getElem?_append_left hi, Array.getElem?_append_left (by simpa using hi), Array.getElem?_modify]
  · rw [Array.getElem?_append_right hi, Array.getElem?_append_right (by simpa using hi), if_neg (by omega)]
    simp
@[go_sem] theorem World.more_drewN (n : Nat) : (w.more L d).drewN n = w.more L (d + n) := rfl
@[go_sem] theorem World.drewN_more (n : Nat) : (w.drewN n).more L d = w.more L d := rfl
@[go_sem] theorem World.drew_more : w.drew.more L d = w.more L d := rfl
@[go_sem] theorem World.setCell_drewN (n : Nat) (a : Addr) (v : Value) : (w.drewN n).setCell a v = (w.setCell a v).drewN n := rfl
theorem World.self_more : w = w.more [] w.drawn := by simp [World.more]
theorem World.more_alloc (o : Obj) : (w.more L d).alloc o = w.more (L ++ [o]) d := by simp [World.more, World.alloc]
theorem World.drewN_eq_more (n : Nat) : w.drewN n = w.more [] (w.drawn + n) := by simp [World.more, World.drewN]
theorem RowKit.Below.drewN' {B : Nat} {a : World} (h : Below B a w) (n : Nat) : Below B a (w.drewN n) := ⟨h.os, h.tape, h.output, h.size, h.block⟩
theorem RowKit.Below.mored {B : Nat} {a : World} (h : Below B a w) (hB : B ≤ w.heap.size) : Below B a (w.more L d) :=
  h.trans ⟨rfl, rfl, rfl, by rw [World.more_size]; omega, fun k hk => World.more_heap w L d k (by omega)⟩
end

/-! which block lies below which -/
section
set_option linter.unusedVariables false
@[go_sem] theorem lt_chain_0 (a : Nat) (n m : Nat) : (a < a + (n + 1) + m) = True := eq_true (by omega)
@[go_sem] theorem lt_chain_i0 (a i : Nat) (n m : Nat) (h : i < n) : (a + i < a + n + m) = True := eq_true (by omega)
@[go_sem] theorem lt_chain_b0 (b a : Nat) (n m : Nat) (h : b < a) : (b < a + n + m) = True := eq_true (by omega)
@[go_sem] theorem lt_chain_1 (a : Nat) (n m k : Nat) : (a < a + (n + 1) + m + k) = True := eq_true (by omega)
@[go_sem] theorem lt_chain_i1 (a i : Nat) (n m k : Nat) (h : i < n) : (a + i < a + n + m + k) = True := eq_true (by omega)
@[go_sem] theorem lt_chain_b1 (b a : Nat) (n m k : Nat) (h : b < a) : (b < a + n + m + k) = True := eq_true (by omega)
@[go_sem] theorem lt_chain_2 (a : Nat) (n m k m2 : Nat) : (a < a + (n + 1) + m + k + m2) = True := eq_true (by omega)
@[go_sem] theorem lt_chain_i2 (a i : Nat) (n m k m2 : Nat) (h : i < n) : (a + i < a + n + m + k + m2) = True := eq_true (by omega)
@[go_sem] theorem lt_chain_b2 (b a : Nat) (n m k m2 : Nat) (h : b < a) : (b < a + n + m + k + m2) = True := eq_true (by omega)
@[go_sem] theorem lt_chain_3 (a : Nat) (n m k m2 k2 : Nat) : (a < a + (n + 1) + m + k + m2 + k2) = True := eq_true (by omega)
@[go_sem] theorem lt_chain_i3 (a i : Nat) (n m k m2 k2 : Nat) (h : i < n) : (a + i < a + n + m + k + m2 + k2) = True := eq_true (by omega)
@[go_sem] theorem lt_chain_b3 (b a : Nat) (n m k m2 k2 : Nat) (h : b < a) : (b < a + n + m + k + m2 + k2) = True := eq_true (by omega)
@[go_sem] theorem lt_chain_4 (a : Nat) (n m k m2 k2 m3 : Nat) : (a < a + (n + 1) + m + k + m2 + k2 + m3) = True := eq_true (by omega)
@[go_sem] theorem lt_chain_i4 (a i : Nat) (n m k m2 k2 m3 : Nat) (h : i < n) : (a + i < a + n + m + k + m2 + k2 + m3) = True := eq_true (by omega)
@[go_sem] theorem lt_chain_b4 (b a : Nat) (n m k m2 k2 m3 : Nat) (h : b < a) : (b < a + n + m + k + m2 + k2 + m3) = True := eq_true (by omega)
@[go_sem] theorem lt_chain_5 (a : Nat) (n m k m2 k2 m3 k3 : Nat) : (a < a + (n + 1) + m + k + m2 + k2 + m3 + k3) = True := eq_true (by omega)
@[go_sem] theorem lt_chain_i5 (a i : Nat) (n m k m2 k2 m3 k3 : Nat) (h : i < n) : (a + i < a + n + m + k + m2 + k2 + m3 + k3) = True := eq_true (by omega)
@[go_sem] theorem lt_chain_b5 (b a : Nat) (n m k m2 k2 m3 k3 : Nat) (h : b < a) : (b < a + n + m + k + m2 + k2 + m3 + k3) = True := eq_true (by omega)
@[go_sem] theorem lt_chain_b (b a n : Nat) (h : b < a) : (b < a + n) = True := eq_true (by omega)
end
end Go
