import Derived.Test.YteipljggjegpoaaDoorV8
import Derived.Test.YteipljggjegpoaaDoorV9
namespace Go.Proofs.YteipljggjegpoaaDoor
set_option linter.unusedVariables false
set_option linter.unusedSimpArgs false
open Go.RowKit Go.Lib Go.Maps
set_option maxHeartbeats 4000000
set_option maxRecDepth 100000

theorem number_rd (rb : Nat) (c : UInt8) (h : c = 48 ∨ c = 49 ∨ c = 50) (w : World) (c1 : w.cell? ⟨rb, 1, none⟩ = some (.bool true)) (f1 : w.frozen? ⟨rb, 1, none⟩ = false) :
    Calls Tryd.prog 24 #[.pointer (some ⟨rb, 0, none⟩), .string ⟨#[c]⟩] w fun e w' => e = .returned (.int .i64 (c.toNat - 48)) ∧ w' = w := by
  have hn := Lib.hid (number_digit c h w)
  go_enter Tryd.func24, Tryd.ntmps24
  go_wp2_with (go_at_call 40; refine hn.out.mono ?_; rintro e w' ⟨rfl, rfl⟩)
  go_ret
  exact ⟨rfl, setCell_self _ _ _ _ c1⟩

theorem bytes_rd (rb : Nat) (s t : ByteArray) (w : World) (c1 : w.cell? ⟨rb, 1, none⟩ = some (.bool true)) (f1 : w.frozen? ⟨rb, 1, none⟩ = false) (hr : rb < w.heap.size)
    (hu : Calls Tryd.prog 42 #[.string s] w fun e w' => e = .returned (.tuple #[.string t, .bool true]) ∧ Below w.heap.size w w') :
    Calls Tryd.prog 26 #[.pointer (some ⟨rb, 0, none⟩), .string s] w fun e w' => e = .returned (.string t) ∧ ∃ L d, w' = w.more L d := by
  have HU := Lib.hid hu
  clear hu
  go_enter Tryd.func26, Tryd.ntmps26
  go_wp2_with (go_at_call 42; refine HU.out.mono ?_; rintro e w' ⟨rfl, hb⟩; obtain ⟨L, d, rfl⟩ := hb.more; clear hb)
  go_ret
  refine ⟨rfl, L, d, ?_⟩
  rw [setCell_self _ _ _ _ c1]

/-- what the reader's methods may leave: more blocks -/
def CS (w w' : World) : Prop := ∃ L d, w' = w.more L d

theorem shown_minus (rb : Nat) (w : World) (c1 : w.cell? ⟨rb, 1, none⟩ = some (.bool true)) (f1 : w.frozen? ⟨rb, 1, none⟩ = false) (hr : rb < w.heap.size) :
    Calls Tryd.prog 27 #[.pointer (some ⟨rb, 0, none⟩), .string ⟨#[45, 54, 56]⟩] w fun e w' => e = .returned (.agg #[.bool true, .string ⟨#[]⟩, .string ⟨#[]⟩, .string ⟨#[104]⟩]) ∧ Below w.heap.size w w' := by
  have hcp := fun W => Tryd.strings_CutPrefix ⟨#[45, 54, 56]⟩ ⟨#[45]⟩ W
  have e1 : (⟨(trimPrefix (⟨#[45, 54, 56]⟩ : ByteArray).data.toList (⟨#[45]⟩ : ByteArray).data.toList).toArray⟩ : ByteArray) = ⟨#[54, 56]⟩ := by kernel_rfl
  have e2 : hasPrefix (⟨#[45, 54, 56]⟩ : ByteArray).data.toList (⟨#[45]⟩ : ByteArray).data.toList = true := by kernel_rfl
  rw [e1, e2] at hcp
  have HCP := Lib.hid hcp
  clear hcp e1 e2
  go_enter Tryd.func27, Tryd.ntmps27
  go_wp2_with (first
    | (go_at_call 39; refine (HCP.out _).mono ?_; rintro e w' ⟨rfl, rfl⟩)
    | (go_at_call 26; refine (bytes_rd rb ⟨#[54, 56]⟩ ⟨#[104]⟩ _ (by go_simp) (by go_simp) (by simp only [World.size_alloc]; omega) (unhex_h _)).mono ?_; rintro e w' ⟨rfl, L, d, rfl⟩))
  refine bodyPost_ret (v := .agg #[.bool true, .string ⟨#[]⟩, .string ⟨#[]⟩, .string ⟨#[104]⟩]) (by simp [results, Tryd.results27, go_sem]) rfl ⟨rfl, ?_⟩
  (repeat' (first | (with_reducible exact Below.refl _ _) | (with_reducible refine Below.mored _ _ _ ?_ ?_) | (with_reducible refine Below.alloc ?_ ?_ _) | (with_reducible refine Below.drewN' _ ?_ _) | (with_reducible refine Below.drew ?_) | (with_reducible refine Below.setCell ?_ ?_ _) | (simp only [World.more_size, World.size_alloc, World.size_setCell, World.size_drew, World.heap_drewN]; omega) | go_size))
end Go.Proofs.YteipljggjegpoaaDoor
