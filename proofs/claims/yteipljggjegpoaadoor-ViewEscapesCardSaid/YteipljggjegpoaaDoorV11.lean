import Derived.Test.YteipljggjegpoaaDoorV10
namespace Go.Proofs.YteipljggjegpoaaDoor
set_option linter.unusedVariables false
set_option linter.unusedSimpArgs false
open Go.RowKit Go.Lib Go.Maps
set_option maxHeartbeats 4000000
set_option maxRecDepth 100000

theorem shown_plus (rb : Nat) (m : Int) (w : World) (hm : w.cell? ⟨0, 0, none⟩ = some (.int .i64 m)) (h0 : 0 < w.heap.size) (c1 : w.cell? ⟨rb, 1, none⟩ = some (.bool true)) (f1 : w.frozen? ⟨rb, 1, none⟩ = false) (hr : rb < w.heap.size) :
    Calls Tryd.prog 27 #[.pointer (some ⟨rb, 0, none⟩), .string ⟨#[43, 55, 51, 32, 38, 108, 116, 59]⟩] w fun e w' => e = .returned (.agg #[.bool false, .string ⟨#[115]⟩, .string ⟨#[60]⟩, .string ⟨#[]⟩]) ∧ Below w.heap.size w w' := by
  have e1 : (⟨(trimPrefix (⟨#[43, 55, 51, 32, 38, 108, 116, 59]⟩ : ByteArray).data.toList (⟨#[45]⟩ : ByteArray).data.toList).toArray⟩ : ByteArray) = ⟨#[43, 55, 51, 32, 38, 108, 116, 59]⟩ := by kernel_rfl
  have e2 : hasPrefix (⟨#[43, 55, 51, 32, 38, 108, 116, 59]⟩ : ByteArray).data.toList (⟨#[45]⟩ : ByteArray).data.toList = false := by kernel_rfl
  have e3 : (⟨(trimPrefix (⟨#[43, 55, 51, 32, 38, 108, 116, 59]⟩ : ByteArray).data.toList (⟨#[43]⟩ : ByteArray).data.toList).toArray⟩ : ByteArray) = ⟨#[55, 51, 32, 38, 108, 116, 59]⟩ := by kernel_rfl
  have e4 : hasPrefix (⟨#[43, 55, 51, 32, 38, 108, 116, 59]⟩ : ByteArray).data.toList (⟨#[43]⟩ : ByteArray).data.toList = true := by kernel_rfl
  have hcut := fun W hW => Tryd.strings_Cut ⟨#[55, 51, 32, 38, 108, 116, 59]⟩ ⟨#[32]⟩ m W (by decide) hW
  have e5 : Lib.cut (⟨#[55, 51, 32, 38, 108, 116, 59]⟩ : ByteArray).data.toList (⟨#[32]⟩ : ByteArray).data.toList = ([55, 51], [38, 108, 116, 59], true) := by decide +kernel
  rw [e5] at hcut
  have HCUT := Lib.hid hcut
  have E1 := Lib.hid e1
  have E2 := Lib.hid e2
  have E3 := Lib.hid e3
  have E4 := Lib.hid e4
  have hself : ∀ W : World, W.cell? ⟨rb, 1, none⟩ = some (.bool true) → W.setCell ⟨rb, 1, none⟩ (.bool true) = W := fun W h => setCell_self W rb 1 _ h
  clear hcut e1 e2 e3 e4 e5
  go_enter Tryd.func27, Tryd.ntmps27
  go_wp2_with (first
    | (go_at_call 39; refine (Tryd.strings_CutPrefix _ _ _).mono ?_; rintro e w' ⟨rfl, rfl⟩; first | rw [E1.out, E2.out] | rw [E3.out, E4.out])
    | (go_at_call 43; refine (HCUT.out _ (by go_simp)).mono ?_; rintro e w' ⟨rfl, n, rfl⟩)
    | (go_at_call 26; refine (bytes_rd rb ⟨#[55, 51]⟩ ⟨#[115]⟩ _ (by go_simp) (by go_simp) (by simp only [World.heap_drewN, World.size_alloc]; omega) (unhex_s _)).mono ?_; rintro e w' ⟨rfl, L, d, rfl⟩)
    | (go_at_call 22; refine (plain_any rb ⟨#[38, 108, 116, 59]⟩ ⟨#[60]⟩ _ (by go_simp) (by go_simp) (by simp only [World.heap_drewN, World.more_size, World.size_alloc]; omega) (by decide) (by decide +kernel) (by decide +kernel)).mono ?_; rintro e w' ⟨rfl, L2, d2, rfl⟩))
  refine bodyPost_ret (v := .agg #[.bool false, .string ⟨#[115]⟩, .string ⟨#[60]⟩, .string ⟨#[]⟩]) (by simp [results, Tryd.results27, go_sem]) rfl ⟨rfl, ?_⟩
  (repeat' (first | (with_reducible exact Below.refl _ _) | (with_reducible refine Below.mored _ _ _ ?_ ?_) | (with_reducible refine Below.alloc ?_ ?_ _) | (with_reducible refine Below.drewN' _ ?_ _) | (with_reducible refine Below.drew ?_) | (with_reducible refine Below.setCell ?_ ?_ _) | (simp only [World.more_size, World.size_alloc, World.size_setCell, World.size_drew, World.heap_drewN]; omega) | go_size))
end Go.Proofs.YteipljggjegpoaaDoor
