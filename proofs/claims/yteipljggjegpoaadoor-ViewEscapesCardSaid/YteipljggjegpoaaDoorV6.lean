import Derived.Test.YteipljggjegpoaaDoorV5
import Derived.Test.YteipljggjegpoaaDoorQT
import Derived.Laws.BytesArg
namespace Go.Proofs.YteipljggjegpoaaDoor
set_option linter.unusedVariables false
set_option linter.unusedSimpArgs false
open Go.RowKit Go.Lib Go.Maps
set_option maxHeartbeats 4000000
set_option maxRecDepth 100000


theorem mk0 (w : World) : (Instr.makeSlice 46 (.int .i64 0) (.int .i64 0)).run Tryd.prog w = .ok (.slice (some ⟨w.heap.size, 0, none⟩) 0 0) (w.alloc (.cells #[] 5)) := by kernel_rfl
theorem mk1 (w : World) : (Instr.makeSlice 46 (.int .i64 0) (.int .i64 1)).run Tryd.prog w = .ok (.slice (some ⟨w.heap.size, 0, none⟩) 0 1) (w.alloc (.cells #[.int .u8 0] 5)) := by kernel_rfl
theorem mk2 (w : World) : (Instr.makeSlice 46 (.int .i64 0) (.int .i64 2)).run Tryd.prog w = .ok (.slice (some ⟨w.heap.size, 0, none⟩) 0 2) (w.alloc (.cells #[.int .u8 0, .int .u8 0] 5)) := by kernel_rfl

theorem conv0 (b cap : Nat) (w : World) : (convert 46 9 (.slice (some ⟨b, 0, none⟩) 0 cap)).run Tryd.prog w = .ok (.string ⟨#[]⟩) w :=
  run_convert_bytes_arg w 46 5 Tryd.underlying46 Tryd.underlying5 b 0 0 cap [] rfl (fun i h => absurd h (by omega)) 9 Tryd.underlying9
theorem conv1 (x : Int) (b cap : Nat) (w : World) (h0 : w.cell? ⟨b, 0, none⟩ = some (.int .u8 x)) : (convert 46 9 (.slice (some ⟨b, 0, none⟩) 1 cap)).run Tryd.prog w = .ok (.string (strOfNums [x])) w :=
  run_convert_bytes_arg w 46 5 Tryd.underlying46 Tryd.underlying5 b 0 1 cap [x] rfl (fun i h => by have : i = 0 := by omega
                                                                                                   subst this; exact h0) 9 Tryd.underlying9
theorem conv2 (x y : Int) (b cap : Nat) (w : World) (h0 : w.cell? ⟨b, 0, none⟩ = some (.int .u8 x)) (h1 : w.cell? ⟨b, 1, none⟩ = some (.int .u8 y)) : (convert 46 9 (.slice (some ⟨b, 0, none⟩) 2 cap)).run Tryd.prog w = .ok (.string (strOfNums [x, y])) w :=
  run_convert_bytes_arg w 46 5 Tryd.underlying46 Tryd.underlying5 b 0 2 cap [x, y] rfl (fun i h => by
    have : i = 0 ∨ i = 1 := by omega
    rcases this with rfl | rfl
    · exact h0
    · exact h1) 9 Tryd.underlying9

theorem hex_empty (w : World) : Calls Tryd.prog 29 #[.string ⟨#[]⟩] w fun e w' => e = .returned (.string ⟨#[]⟩) ∧ Below w.heap.size w w' := by
  have hm0 := mk0
  have hc0 := conv0
  go_enter Tryd.func29, Tryd.ntmps29
  go_wp2
  refine wp_loop_rounds 1 ?_
  rw [rounds_succ]
  go_wp2
  go_ret
  exact ⟨rfl, (Below.refl _ _).alloc (Nat.le_refl _) _⟩

theorem hex_s (w : World) : Calls Tryd.prog 29 #[.string ⟨#[115]⟩] w fun e w' => e = .returned (.string ⟨#[55, 51]⟩) ∧ Below w.heap.size w w' := by
  have hm2 := mk2
  have hc2 := conv2 55 51
  have hst : strOfNums [55, 51] = ⟨#[55, 51]⟩ := rfl
  have hx0 : (⟨#[115]⟩ : ByteArray)[0].toNat = 115 := rfl
  have hd0 : (115 : Int) / 16 = 7 := rfl
  have hb0 : bits BinOp.and IntKind.u8 115 15 = 3 := by kernel_rfl
  have hi0 : (⟨#[48, 49, 50, 51, 52, 53, 54, 55, 56, 57, 97, 98, 99, 100, 101, 102]⟩ : ByteArray)[7].toNat = 55 := rfl
  have hi1 : (⟨#[48, 49, 50, 51, 52, 53, 54, 55, 56, 57, 97, 98, 99, 100, 101, 102]⟩ : ByteArray)[3].toNat = 51 := rfl
  go_enter Tryd.func29, Tryd.ntmps29
  go_wp2
  refine wp_loop_rounds 2 ?_
  rw [rounds_succ]
  go_wp2
  go_region
  all_goals
    go_wp2
    rw [rounds_succ]
    go_wp2
    go_ret
    refine ⟨rfl, ?_⟩
    (repeat' (first | (with_reducible exact Below.refl _ _) | (with_reducible refine Below.mored _ _ _ ?_ ?_) | (with_reducible refine Below.alloc ?_ ?_ _) | (with_reducible refine Below.drewN' _ ?_ _) | (with_reducible refine Below.drew ?_) | (with_reducible refine Below.setCell ?_ ?_ _) | (simp only [World.more_size, World.size_alloc, World.size_setCell, World.size_drew, World.heap_drewN]; omega) | go_size))

theorem hex_h (w : World) : Calls Tryd.prog 29 #[.string ⟨#[104]⟩] w fun e w' => e = .returned (.string ⟨#[54, 56]⟩) ∧ Below w.heap.size w w' := by
  have hm2 := mk2
  have hc2 := conv2 54 56
  have hst : strOfNums [54, 56] = ⟨#[54, 56]⟩ := rfl
  have hx0 : (⟨#[104]⟩ : ByteArray)[0].toNat = 104 := rfl
  have hd0 : (104 : Int) / 16 = 6 := rfl
  have hb0 : bits BinOp.and IntKind.u8 104 15 = 8 := by kernel_rfl
  have hi0 : (⟨#[48, 49, 50, 51, 52, 53, 54, 55, 56, 57, 97, 98, 99, 100, 101, 102]⟩ : ByteArray)[6].toNat = 54 := rfl
  have hi1 : (⟨#[48, 49, 50, 51, 52, 53, 54, 55, 56, 57, 97, 98, 99, 100, 101, 102]⟩ : ByteArray)[8].toNat = 56 := rfl
  go_enter Tryd.func29, Tryd.ntmps29
  go_wp2
  refine wp_loop_rounds 2 ?_
  rw [rounds_succ]
  go_wp2
  go_region
  all_goals
    go_wp2
    rw [rounds_succ]
    go_wp2
    go_ret
    refine ⟨rfl, ?_⟩
    (repeat' (first | (with_reducible exact Below.refl _ _) | (with_reducible refine Below.mored _ _ _ ?_ ?_) | (with_reducible refine Below.alloc ?_ ?_ _) | (with_reducible refine Below.drewN' _ ?_ _) | (with_reducible refine Below.drew ?_) | (with_reducible refine Below.setCell ?_ ?_ _) | (simp only [World.more_size, World.size_alloc, World.size_setCell, World.size_drew, World.heap_drewN]; omega) | go_size))

def Lines (w : World) (b off : Nat) (ls : List ByteArray) : Prop := b < w.heap.size ∧ ∀ j (h : j < ls.length), w.cell? ⟨b, off + j, none⟩ = some (.string (ls[j]'h))
def unl (ls : List ByteArray) : List UInt8 := ls.flatMap fun l => l.data.toList ++ [10]
theorem unl_take (l : List ByteArray) (k : Nat) (h : k < l.length) : unl (l.take (k + 1)) = unl (l.take k) ++ (l[k]'h).data.toList ++ [10] := by
  rw [List.take_add_one, List.getElem?_eq_getElem h, unl, unl, List.flatMap_append]
  simp
theorem unl_len (ls : List ByteArray) (h : ∀ l ∈ ls, l.size ≤ 10000) : (unl ls).length ≤ 10001 * ls.length := by
  induction ls with
  | nil => simp [unl]
  | cons a t ih =>
    have ha := h a List.mem_cons_self
    have := ih (fun x hx => h x (List.mem_cons_of_mem _ hx))
    simp only [unl, List.flatMap_cons, List.length_append, List.length_cons] at this ⊢
    simp at this ⊢
    omega

theorem unlines_any (b off cap : Nat) (ls : List ByteArray) (w : World) (hl : Lines w b off ls) (hn : ls.length ≤ 1000) (hs : ∀ l ∈ ls, l.size ≤ 10000) :
    Calls Tryd.prog 20 #[.slice (some ⟨b, off, none⟩) ls.length cap] w fun e w' => e = .returned (.string ⟨(unl ls).toArray⟩) ∧ Below w.heap.size w w' := by
  obtain ⟨hb, hc⟩ := hl
  have HS := Lib.hid hs
  have HC := Lib.hid hc
  clear hs hc
  go_enter Tryd.func20, Tryd.ntmps20
  go_wp2
  go_loopw [8] (fun i wr => ∃ (k : Nat) (L : List Obj) (d : Nat), k ≤ ls.length ∧ i = .int .i64 k ∧ wr = w.more L d ∧ IsB w L d (unl (ls.take k)))
    (fun i _ => ls.length - (intOf i).toNat)
  case atStart => exact ⟨0, _, _, Nat.zero_le _, rfl, alloc_more _ _, isB_new w⟩
  case round =>
    obtain ⟨k, L, d, hk, rfl, rfl, hB⟩ := hrel
    by_cases hlt : k < ls.length
    · have hk0 : (0 : Int) ≤ (k : Int) := by omega
      have hk1 : (k : Int) < (ls.length : Int) := by omega
      have hm1 : (ls.length : Int) ≤ 9223372036854775807 := by omega
      have hcell := HC.out k hlt
      have hlen := unl_len (ls.take k) (fun x hx => HS.out x (List.mem_of_mem_take hx))
      rw [List.length_take] at hlen
      have hlen' : (unl (ls.take k)).length ≤ 10001000 := by omega
      have hsz := HS.out _ (List.getElem_mem hlt)
      have HN := Lib.hid (unl_take ls k hlt)
      clear hlen
      generalize ls[k]'hlt = line at *
      go_wp2_with (first
        | (go_at_call 13; refine (b_writeString w L d _ line hB (by omega)).mono ?_; rintro e w' ⟨rfl, L2, d2, rfl, hB2⟩)
        | (go_at_call 14; refine (b_writeByte w L2 d2 _ 10 hB2 (by simp; omega)).mono ?_; rintro e w' ⟨rfl, L3, d3, rfl, hB3⟩)
        | go_in)
      go_roundw
      case rel => exact ⟨k + 1, L3, d3, by omega, by go_num, rfl, by rw [HN.out]; exact hB3⟩
      case measure => simp [intOf]; omega
    · have : k = ls.length := by omega
      subst this
      rw [List.take_length] at hB
      go_wp2_with (go_at_call 15; refine (b_string w L d _ hB).mono ?_; rintro e w' ⟨rfl, L2, d2, rfl⟩)
      go_ret
      exact ⟨rfl, (Below.refl _ _).mored _ _ _ (Nat.le_refl _)⟩
end Go.Proofs.YteipljggjegpoaaDoor
