import Derived.Test.YteipljggjegpoaaDoorBuilder
import Derived.Laws.Runes
import Derived.WalkMore
import Derived.Deep.QuietTactic
import Derived.BigQuiet
import Derived.Deep.RegionWith
namespace Go.Proofs.YteipljggjegpoaaDoor
set_option linter.unusedVariables false
set_option linter.unusedSimpArgs false
open Go.RowKit
set_option maxHeartbeats 1000000
set_option maxRecDepth 100000

theorem indexRune_bad (r : Int) (h0 : 55296 ≤ r) (h1 : r ≤ 57343) (w : World) :
    Calls Tryd.prog 45 #[.string ⟨#[38, 60, 62, 34]⟩, .int .i32 r] w fun e w' => e = .returned (.int .i64 (-1)) ∧ w = w' := by
  have hv : Lib.validRune r = false := by unfold Lib.validRune; simp; omega
  have hne : (r == 65533) = false := by simp; omega
  go_enter Tryd.func45, Tryd.ntmps45
  go_wp2
  (try rw [Exit.noGoto_ret])
  go_ret
  exact ⟨rfl, rfl⟩

theorem indexRune_err (w : World) :
    Calls Tryd.prog 45 #[.string ⟨#[38, 60, 62, 34]⟩, .int .i32 65533] w fun e w' => e = .returned (.int .i64 (-1)) ∧ Below w.heap.size w w' := by
  have n0 : ∀ ty, (Instr.next (.pointer (some ⟨w.heap.size, 0, none⟩)) true ty).run Tryd.prog (w.iter ⟨#[38, 60, 62, 34]⟩ 0) = .ok (.tuple #[.bool true, .int .i64 0, .int .i32 38]) (w.iter ⟨#[38, 60, 62, 34]⟩ 1) := fun ty => run_next_ascii w _ 0 ty (by decide) (by decide)
  have n1 : ∀ ty, (Instr.next (.pointer (some ⟨w.heap.size, 0, none⟩)) true ty).run Tryd.prog (w.iter ⟨#[38, 60, 62, 34]⟩ 1) = .ok (.tuple #[.bool true, .int .i64 1, .int .i32 60]) (w.iter ⟨#[38, 60, 62, 34]⟩ 2) := fun ty => run_next_ascii w _ 1 ty (by decide) (by decide)
  have n2 : ∀ ty, (Instr.next (.pointer (some ⟨w.heap.size, 0, none⟩)) true ty).run Tryd.prog (w.iter ⟨#[38, 60, 62, 34]⟩ 2) = .ok (.tuple #[.bool true, .int .i64 2, .int .i32 62]) (w.iter ⟨#[38, 60, 62, 34]⟩ 3) := fun ty => run_next_ascii w _ 2 ty (by decide) (by decide)
  have n3 : ∀ ty, (Instr.next (.pointer (some ⟨w.heap.size, 0, none⟩)) true ty).run Tryd.prog (w.iter ⟨#[38, 60, 62, 34]⟩ 3) = .ok (.tuple #[.bool true, .int .i64 3, .int .i32 34]) (w.iter ⟨#[38, 60, 62, 34]⟩ 4) := fun ty => run_next_ascii w _ 3 ty (by decide) (by decide)
  have n4 : ∀ ty, (Instr.next (.pointer (some ⟨w.heap.size, 0, none⟩)) true ty).run Tryd.prog (w.iter ⟨#[38, 60, 62, 34]⟩ 4) = .ok (.tuple #[.bool false]) (w.iter ⟨#[38, 60, 62, 34]⟩ 4) := fun ty => run_next_end w _ 4 ty (by decide)
  go_enter Tryd.func45, Tryd.ntmps45
  go_wp2
  refine wp_loop_rounds 5 ?_
  iterate 5 (rw [rounds_succ]; go_wp2)
  (try rw [Exit.noGoto_ret])
  go_ret
  exact ⟨rfl, (Below.refl _ _).alloc (Nat.le_refl _) _⟩

theorem last_high (rs : ByteArray) (n : Nat) (hn : rs.size = n + 1) (h : ∀ h : rs.size - 1 < rs.size, 128 ≤ (rs[rs.size - 1]'h).toNat) : ∃ c : UInt8, 128 ≤ c.toNat ∧ ∀ h : n < rs.size, rs[n]'h = c := by
  refine ⟨rs[n]'(by omega), ?_, fun _ => rfl⟩
  have := h (by omega)
  simpa [hn] using this

theorem indexByte_high (t : ByteArray) (c : UInt8) (ht : ∀ b ∈ t.data.toList, b.toNat < 128) (hc : 128 ≤ c.toNat) : Lib.indexByte t.data.toList c = -1 := by
  generalize t.data.toList = l at *
  induction l with
  | nil => rfl
  | cons b l ih =>
    have hb := ht b List.mem_cons_self
    have := ih (fun x hx => ht x (List.mem_cons_of_mem _ hx))
    have hne : (b == c) = false := by
      simp only [beq_eq_false_iff_ne]
      rintro rfl
      omega
    simp [Lib.indexByte, hne, this]

theorem indexRune_ok (r : Int) (hv : Lib.validRune r = true) (h1 : 128 ≤ r) (hne : (r == 65533) = false) (w : World) :
    Calls Tryd.prog 45 #[.string ⟨#[38, 60, 62, 34]⟩, .int .i32 r] w fun e w' => e = .returned (.int .i64 (-1)) ∧ ∃ n, w' = w.drewN n := by
  have hvv : Utf8.valid r = true := by rw [validRune_eq]; exact hv
  obtain ⟨f1, f2, f3⟩ := encode_facts r hvv h1
  have h128 : ¬ r < 128 := by omega
  generalize hrs : Utf8.encode r = rs at *
  have HRS := Lib.hid hrs
  have HF := Lib.hid f3
  clear hvv f3
  have hcase : rs.size = 2 ∨ rs.size = 3 ∨ rs.size = 4 := by omega
  clear f1 f2
  rcases hcase with hz | hz | hz
  all_goals
    obtain ⟨c, hc, hlast⟩ := last_high rs _ hz HF.out
    go_enter Tryd.func45, Tryd.ntmps45
    go_wp2_with (go_at_call 58; refine (Tryd.utf8_ValidRune r _).mono ?_; rintro e w' ⟨rfl, rfl⟩)
    go_step3
    go_wp2
    refine wp_loop_rounds 2 ?_
    rw [rounds_succ]
    go_wp2
    go_step3
    go_wp2
    go_quiet (fail)
    have e1 : ((((⟨#[38, 60, 62, 34]⟩ : ByteArray)[1].toNat : Nat) : Int) != (c.toNat : Int)) = true := by
      rw [show (⟨#[38, 60, 62, 34]⟩ : ByteArray)[1].toNat = 60 from rfl]; simp only [bne_iff_ne, ne_eq]; omega
    have e2 : ((((⟨#[38, 60, 62, 34]⟩ : ByteArray)[2].toNat : Nat) : Int) != (c.toNat : Int)) = true := by
      rw [show (⟨#[38, 60, 62, 34]⟩ : ByteArray)[2].toNat = 62 from rfl]; simp only [bne_iff_ne, ne_eq]; omega
    have e3 : ((((⟨#[38, 60, 62, 34]⟩ : ByteArray)[3].toNat : Nat) : Int) != (c.toNat : Int)) = true := by
      rw [show (⟨#[38, 60, 62, 34]⟩ : ByteArray)[3].toNat = 34 from rfl]; simp only [bne_iff_ne, ne_eq]; omega
    first | rw [e1] | rw [e2] | rw [e3]
    go_wp2
    have k2 : IntKind.i64.wrap 2 = 2 := rfl
    have k3 : IntKind.i64.wrap 3 = 3 := rfl
    have k4 : IntKind.i64.wrap 4 = 4 := rfl
    go_quiet (first | (go_at_call 16; exact (Tryd.strings_IndexByte _ _ _).mono (fun e w'' h => ⟨h.1, _, h.2⟩)))
    rw [show ((c.toNat : Int).toNat.toUInt8) = c by simp]
    have g2 : Lib.indexByte ((⟨#[38, 60, 62, 34]⟩ : ByteArray).extract 2 4).data.toList c = -1 := indexByte_high _ c (by decide) hc
    have g3 : Lib.indexByte ((⟨#[38, 60, 62, 34]⟩ : ByteArray).extract 3 4).data.toList c = -1 := indexByte_high _ c (by decide) hc
    have g5 : Lib.indexByte [] c = -1 := rfl
    (try simp only [g2, g3, g5])
    go_wp2
    all_goals (try (exfalso; rename_i hx; exact absurd hx (by decide)))
    (try rw [Exit.noGoto_ret])
    go_wp2
    (try rw [Exit.noGoto_ret])
    go_ret
    exact ⟨rfl, _, rfl⟩

/-- IndexRune at the constant: any rune from 128 on is not found. -/
theorem indexRune_high (r : Int) (h1 : 128 ≤ r) (h2 : r ≤ 1114111) (w : World) :
    Calls Tryd.prog 45 #[.string ⟨#[38, 60, 62, 34]⟩, .int .i32 r] w fun e w' => e = .returned (.int .i64 (-1)) ∧ Below w.heap.size w w' := by
  by_cases hb : 55296 ≤ r ∧ r ≤ 57343
  · refine (indexRune_bad r hb.1 hb.2 w).mono ?_
    rintro e w' ⟨rfl, rfl⟩
    exact ⟨rfl, Below.refl _ _⟩
  · by_cases he : r = 65533
    · subst he
      exact indexRune_err w
    · refine (indexRune_ok r (by unfold Lib.validRune; simp; omega) h1 (by simp; omega) w).mono ?_
      rintro e w' ⟨rfl, n, rfl⟩
      exact ⟨rfl, Below.drewN' _ (Below.refl _ _) _⟩

/-- ContainsRune at the constant. -/
theorem containsRune_any (r : Int) (h1 : 0 ≤ r) (h2 : r ≤ 1114111) (w : World) :
    Calls Tryd.prog 31 #[.string ⟨#[38, 60, 62, 34]⟩, .int .i32 r] w fun e w' => e = .returned (.bool (r == 38 || r == 60 || r == 62 || r == 34)) ∧ Below w.heap.size w w' := by
  by_cases h : r < 128
  · refine (Tryd.strings_ContainsRune_ascii _ r w h1 h).mono ?_
    rintro e w' ⟨rfl, rfl⟩
    refine ⟨?_, Below.refl _ _⟩
    congr 2
    obtain ⟨n, rfl⟩ : ∃ n : Nat, r = (n : Int) := ⟨r.toNat, by omega⟩
    have hn : n < 128 := by omega
    clear h h1 h2
    revert n
    decide
  · have hr : (r == 38 || r == 60 || r == 62 || r == 34) = false := by simp; omega
    rw [hr]
    go_enter Tryd.func31, Tryd.ntmps31
    go_wp2_with (go_at_call 45; refine (indexRune_high r (by omega) h2 _).mono ?_; rintro e w' ⟨rfl, hb⟩)
    go_ret
    exact ⟨rfl, hb⟩

/-- special. -/
theorem special_any (r : Int) (h1 : 0 ≤ r) (h2 : r ≤ 1114111) (w : World) :
    Calls Tryd.prog 11 #[.int .i32 r] w fun e w' => e = .returned (.bool (decide (r < 32) || r == 127 || (r == 38 || r == 60 || r == 62 || r == 34))) ∧ Below w.heap.size w w' := by
  by_cases c1 : r < 32
  · have d1 : decide (r < 32) = true := by simp [c1]
    rw [d1]
    go_enter Tryd.func11, Tryd.ntmps11
    go_wp2
    go_ret
    exact ⟨rfl, Below.refl _ _⟩
  · have d1 : decide (r < 32) = false := by simp [c1]
    rw [d1]
    by_cases c2 : r = 127
    · subst c2
      go_enter Tryd.func11, Tryd.ntmps11
      go_wp2
      go_ret
      exact ⟨rfl, Below.refl _ _⟩
    · have d2 : (r == 127) = false := by simp [c2]
      rw [d2]
      go_enter Tryd.func11, Tryd.ntmps11
      go_wp2_with (go_at_call 31; refine (containsRune_any r h1 h2 _).mono ?_; rintro e w' ⟨rfl, hb⟩)
      go_ret
      exact ⟨rfl, hb⟩
end Go.Proofs.YteipljggjegpoaaDoor
