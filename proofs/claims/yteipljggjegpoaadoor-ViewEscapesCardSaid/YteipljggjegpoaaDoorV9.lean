import Derived.Test.YteipljggjegpoaaDoorV7
import Derived.ShapedOpen
namespace Go.Proofs.YteipljggjegpoaaDoor
set_option linter.unusedVariables false
set_option linter.unusedSimpArgs false
open Go.RowKit Go.Lib Go.Maps
set_option maxHeartbeats 4000000
set_option maxRecDepth 100000

theorem setCell_self (w : World) (b o : Nat) (v : Value) (h : w.cell? ⟨b, o, none⟩ = some v) : w.setCell ⟨b, o, none⟩ v = w := by
  have e : (w.setCell ⟨b, o, none⟩ v).heap = w.heap := by
    apply Array.ext_getElem?
    intro i
    simp only [World.setCell, Array.getElem?_modify]
    split
    · next hi =>
      subst hi
      unfold World.cell? at h
      cases hb : w.heap[b]? with
      | none => rfl
      | some ob =>
        rw [hb] at h
        cases ob <;> simp at h ⊢
        apply Array.ext_getElem?
        intro j
        rw [Array.getElem?_setIfInBounds]
        split
        · next hj =>
          subst hj
          split
          · exact h.symm
          · next hlt => rw [Array.getElem?_eq_none (by omega)] at h; cases h
        · rfl
    · rfl
  have e2 : w.setCell ⟨b, o, none⟩ v = { w with heap := (w.setCell ⟨b, o, none⟩ v).heap } := rfl
  rw [e2, e]

theorem next_any (rb g off n cap : Nat) (s p t : ByteArray) (w : World)
    (c0 : w.cell? ⟨rb, 0, none⟩ = some (.slice (some ⟨g, off, none⟩) (n + 1) (cap + 1))) (c1 : w.cell? ⟨rb, 1, none⟩ = some (.bool true)) (cs : w.cell? ⟨g, off, none⟩ = some (.string s))
    (f0 : w.frozen? ⟨rb, 0, none⟩ = false) (f1 : w.frozen? ⟨rb, 1, none⟩ = false) (hn : 1 ≤ n) (hnc : n ≤ cap)
    (ht : (⟨(trimPrefix s.data.toList p.data.toList).toArray⟩ : ByteArray) = t) (hp : hasPrefix s.data.toList p.data.toList = true) :
    Calls Tryd.prog 23 #[.pointer (some ⟨rb, 0, none⟩), .string p] w fun e w' => e = .returned (.string t) ∧ w' = (w.setCell ⟨rb, 0, none⟩ (.slice (some ⟨g, off + 1, none⟩) n cap)) := by
  have hcp := Tryd.strings_CutPrefix s p w
  rw [ht, hp] at hcp
  have HCP := Lib.hid hcp
  clear hcp ht hp
  go_enter Tryd.func23, Tryd.ntmps23
  go_wp2_with (go_at_call 39; refine HCP.out.mono ?_; rintro e w' ⟨rfl, rfl⟩)
  go_ret
  refine ⟨rfl, setCell_self _ _ _ _ ?_⟩
  simp [go_sem, c1]

theorem plain_any (rb : Nat) (s t : ByteArray) (w : World) (c1 : w.cell? ⟨rb, 1, none⟩ = some (.bool true)) (f1 : w.frozen? ⟨rb, 1, none⟩ = false) (hr : rb < w.heap.size)
    (hs : s.size ≤ 100000) (ht : (⟨(Vw.unesc s.data.toList).1.toArray⟩ : ByteArray) = t) (hok : (Vw.unesc s.data.toList).2 = true) :
    Calls Tryd.prog 22 #[.pointer (some ⟨rb, 0, none⟩), .string s] w fun e w' => e = .returned (.string t) ∧ ∃ L d, w' = w.more L d := by
  have hcp := unescape_any s hs w
  rw [ht, hok] at hcp
  have HCP := Lib.hid hcp
  clear hcp ht hok
  go_enter Tryd.func22, Tryd.ntmps22
  go_wp2_with (go_at_call 6; refine HCP.out.mono ?_; rintro e w' ⟨rfl, hb⟩; obtain ⟨L, d, rfl⟩ := hb.more; clear hb)
  go_ret
  refine ⟨rfl, L, d, ?_⟩
  rw [setCell_self _ _ _ _ c1]

theorem number_digit (c : UInt8) (h : c = 48 ∨ c = 49 ∨ c = 50) (w : World) :
    Calls Tryd.prog 40 #[.string ⟨#[c]⟩] w fun e w' => e = .returned (.tuple #[.int .i64 (c.toNat - 48), .bool true]) ∧ w' = w := by
  rcases h with rfl | rfl | rfl
  all_goals
    go_enter Tryd.func40, Tryd.ntmps40
    go_wp2
    refine wp_loop_rounds 2 ?_
    rw [rounds_succ]
    go_wp2
    rw [rounds_succ]
    go_wp2
    refine bodyPost_ret (v := .tuple #[_, .bool true]) (by simp [results, Tryd.results40, go_sem]; rfl) rfl ⟨by rfl, rfl⟩

theorem unhex_empty (w : World) : Calls Tryd.prog 42 #[.string ⟨#[]⟩] w fun e w' => e = .returned (.tuple #[.string ⟨#[]⟩, .bool true]) ∧ Below w.heap.size w w' := by
  have hm0 := mk0
  have hc0 := conv0
  go_enter Tryd.func42, Tryd.ntmps42
  go_wp2
  refine wp_loop_rounds 1 ?_
  rw [rounds_succ]
  go_wp2
  refine bodyPost_ret (v := .tuple #[.string ⟨#[]⟩, .bool true]) (by simp [results, Tryd.results42, go_sem]) rfl ⟨rfl, ?_⟩
  (repeat' (first | (with_reducible exact Below.refl _ _) | (with_reducible refine Below.mored _ _ _ ?_ ?_) | (with_reducible refine Below.alloc ?_ ?_ _) | (with_reducible refine Below.drewN' _ ?_ _) | (with_reducible refine Below.drew ?_) | (with_reducible refine Below.setCell ?_ ?_ _) | (simp only [World.more_size, World.size_alloc, World.size_setCell, World.size_drew, World.heap_drewN]; omega) | go_size))

theorem unhex_s (w : World) : Calls Tryd.prog 42 #[.string ⟨#[55, 51]⟩] w fun e w' => e = .returned (.tuple #[.string ⟨#[115]⟩, .bool true]) ∧ Below w.heap.size w w' := by
  have hm1 := mk1
  have hc1 := conv1
  have hx0 : (⟨#[55, 51]⟩ : ByteArray)[0].toNat = 55 := rfl
  have hx1 : (⟨#[55, 51]⟩ : ByteArray)[1].toNat = 51 := rfl
  go_enter Tryd.func42, Tryd.ntmps42
  go_wp2
  refine wp_loop_rounds 2 ?_
  rw [rounds_succ]
  go_wp2
  go_quiet (first | (go_at_call 16; exact (Tryd.strings_IndexByte _ _ _).mono (fun e w'' h => ⟨h.1, _, h.2⟩)))
  go_wp2
  rw [rounds_succ]
  go_wp2
  refine bodyPost_ret (v := .tuple #[.string ⟨#[115]⟩, .bool true]) (by simp [results, Tryd.results42, go_sem]; kernel_rfl) rfl ⟨rfl, ?_⟩
  (repeat' (first | (with_reducible exact Below.refl _ _) | (with_reducible refine Below.mored _ _ _ ?_ ?_) | (with_reducible refine Below.alloc ?_ ?_ _) | (with_reducible refine Below.drewN' _ ?_ _) | (with_reducible refine Below.drew ?_) | (with_reducible refine Below.setCell ?_ ?_ _) | (simp only [World.more_size, World.size_alloc, World.size_setCell, World.size_drew, World.heap_drewN]; omega) | go_size))

theorem unhex_h (w : World) : Calls Tryd.prog 42 #[.string ⟨#[54, 56]⟩] w fun e w' => e = .returned (.tuple #[.string ⟨#[104]⟩, .bool true]) ∧ Below w.heap.size w w' := by
  have hm1 := mk1
  have hc1 := conv1
  have hx0 : (⟨#[54, 56]⟩ : ByteArray)[0].toNat = 54 := rfl
  have hx1 : (⟨#[54, 56]⟩ : ByteArray)[1].toNat = 56 := rfl
  go_enter Tryd.func42, Tryd.ntmps42
  go_wp2
  refine wp_loop_rounds 2 ?_
  rw [rounds_succ]
  go_wp2
  go_quiet (first | (go_at_call 16; exact (Tryd.strings_IndexByte _ _ _).mono (fun e w'' h => ⟨h.1, _, h.2⟩)))
  go_wp2
  rw [rounds_succ]
  go_wp2
  refine bodyPost_ret (v := .tuple #[.string ⟨#[104]⟩, .bool true]) (by simp [results, Tryd.results42, go_sem]; kernel_rfl) rfl ⟨rfl, ?_⟩
  (repeat' (first | (with_reducible exact Below.refl _ _) | (with_reducible refine Below.mored _ _ _ ?_ ?_) | (with_reducible refine Below.alloc ?_ ?_ _) | (with_reducible refine Below.drewN' _ ?_ _) | (with_reducible refine Below.drew ?_) | (with_reducible refine Below.setCell ?_ ?_ _) | (simp only [World.more_size, World.size_alloc, World.size_setCell, World.size_drew, World.heap_drewN]; omega) | go_size))
end Go.Proofs.YteipljggjegpoaaDoor
