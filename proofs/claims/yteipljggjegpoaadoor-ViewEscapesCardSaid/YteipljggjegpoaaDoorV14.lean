import Derived.Test.YteipljggjegpoaaDoorV11
namespace Go.Proofs.YteipljggjegpoaaDoor
set_option linter.unusedVariables false
set_option linter.unusedSimpArgs false
open Go.RowKit Go.Lib Go.Maps
set_option maxHeartbeats 4000000
set_option maxRecDepth 100000

def page : ByteArray := ⟨(unl [⟨#[109, 101, 115, 115, 97, 103, 101, 32, 105]⟩, ⟨#[102, 114, 111, 109, 32]⟩, ⟨#[115, 117, 98, 106, 101, 99, 116, 32]⟩, ⟨#[100, 97, 116, 101, 32, 48]⟩, ⟨#[115, 116, 97, 116, 101, 32, 48]⟩, ⟨#[108, 105, 115, 116, 115, 32, 49, 32, 50]⟩, ⟨#[99, 111, 109, 109, 105, 116, 32]⟩, ⟨#[43, 55, 51, 32, 38, 108, 116, 59]⟩, ⟨#[45, 54, 56]⟩, ⟨#[101, 110, 100]⟩]).toArray⟩
theorem unescC (s t : ByteArray) (b : Bool) (hs : s.size ≤ 100000) (h : (Vw.unesc s.data.toList) = (t.data.toList, b)) (w : World) :
    Calls Tryd.prog 6 #[.string s] w fun e w' => e = .returned (.tuple #[.string t, .bool b]) ∧ Below w.heap.size w w' := by
  have h1 := unescape_any s hs w
  rw [h, show (⟨(t.data.toList, b).1.toArray⟩ : ByteArray) = t by simp] at h1
  exact h1

theorem small_any (m : Int) (w : World) (hm : w.cell? ⟨0, 0, none⟩ = some (.int .i64 m)) (h0 : 0 < w.heap.size)
    (hread : ∀ W : World, W.cell? ⟨0, 0, none⟩ = some (.int .i64 m) → 0 < W.heap.size → Calls Tryd.prog 8 #[.string page] W fun e w' => (∃ bl ol cl bi oi ci, e = .returned (.tuple #[vMsg bl ol cl bi oi ci, .bool true])) ∧ Below W.heap.size W w') :
    Calls Tryd.prog 4 #[] w fun e w' => e = .returned (.bool true) ∧ Below w.heap.size w w' := by
  have HR := Lib.hid hread
  clear hread
  go_enter Tryd.func4, Tryd.ntmps4
  go_wp2_with (fail)
  refine (unescC ⟨#[38, 108, 116]⟩ ⟨#[]⟩ false (by decide) (by decide +kernel) _).mono ?_
  rintro e w' ⟨rfl, hb⟩
  obtain ⟨L1, d1, rfl⟩ := hb.more
  clear hb
  go_wp2_with (fail)
  refine (unescC ⟨#[38, 35, 48, 49, 48, 59]⟩ ⟨#[]⟩ false (by decide) (by decide +kernel) _).mono ?_
  rintro e w' ⟨rfl, hb⟩
  obtain ⟨L2, d2, rfl⟩ := hb.more
  clear hb
  go_wp2_with (fail)
  refine (thread_const _ 0 _ _ 0 _ _ ?_ ?_ ?_ ?_ ?_ ?_ ?_ ?_ ?_ ?_ ?_ ?_ ?_ ?_ ?_ ?_ ?_ ?_).mono ?_
  iterate 18 (focus (first | go_simp | go_size))
  rintro e w' ⟨rfl, hb⟩
  obtain ⟨L3, d3, rfl⟩ := hb.more
  clear hb
  go_wp2_with (fail)
  refine (message_const _ 0 _ _ 0 _ _ ?_ ?_ ?_ ?_ ?_ ?_ ?_ ?_ ?_ ?_ ?_ ?_).mono ?_
  iterate 12 (focus (first | go_simp | go_size))
  rintro e w' ⟨rfl, hb⟩
  obtain ⟨L4, d4, rfl⟩ := hb.more
  clear hb
  go_wp2_with (fail)
  refine (HR.out _ ?_ ?_).mono ?_
  iterate 2 (focus (first | go_simp | go_size))
  rintro e w' ⟨⟨bl, ol, cl, bi, oi, ci, rfl⟩, hb⟩
  unfold vMsg
  obtain ⟨L5, d5, rfl⟩ := hb.more
  clear hb
  go_wp2_with (fail)
  refine (escC ⟨#[97, 60, 98, 32, 38, 32, 99, 10]⟩ ⟨#[97, 38, 108, 116, 59, 98, 32, 38, 97, 109, 112, 59, 32, 99, 38, 35, 49, 48, 59]⟩ (by decide) (by decide +kernel) _).mono ?_
  rintro e w' ⟨rfl, hb⟩
  obtain ⟨L6, d6, rfl⟩ := hb.more
  clear hb
  go_wp2
  go_ret
  refine ⟨rfl, ?_⟩
  (repeat' (first | (with_reducible exact Below.refl _ _) | (with_reducible refine Below.mored _ _ _ ?_ ?_) | (with_reducible refine Below.alloc ?_ ?_ _) | (with_reducible refine Below.drewN' _ ?_ _) | (with_reducible refine Below.drew ?_) | (with_reducible refine Below.setCell ?_ ?_ _) | (simp only [World.more_size, World.size_alloc, World.size_setCell, World.size_drew, World.heap_drewN]; omega) | go_size))
end Go.Proofs.YteipljggjegpoaaDoor
