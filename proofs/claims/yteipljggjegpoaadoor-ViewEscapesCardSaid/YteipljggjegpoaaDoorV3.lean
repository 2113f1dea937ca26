import Derived.Test.YteipljggjegpoaaDoorV2
import Derived.Maps.OwnSet
import Derived.Maps.StringElems
import Derived.Sort.MapsRangeIn
namespace Go.Proofs.YteipljggjegpoaaDoor
set_option linter.unusedVariables false
set_option linter.unusedSimpArgs false
open Go.RowKit Go.Lib Go.Maps
set_option maxHeartbeats 1000000
set_option maxRecDepth 100000

/-- a map literal's entry: the map's own store, told as 'insert' -/
theorem wpList_insert_own {H : Type} {P : Program} (w : World) {ops : Array Oper} {rest : List Oper} {o : Oper} {a : Act} {Q : Exit → Act → World → Prop}
    (hg : o.guard = none) (m x v : Operand) (t : TypeId) (hop : o.op = Op.insert t m x v)
    (k e : TypeId) (K : Keyed P k) (ht : P.underlying t = some (.map k e)) (R : Value → Option (DataW H × List MemPlace)) (b n : Nat) (D : DataW H)
    (hm : a.eval m = .map (some b)) (hown : w.ownsMap P k R b n D) (hn : n < maxLen) (key val : Value) (kl : Lit) (hx : a.eval x = key) (hv : a.eval v = val) (hkey : keyOf P k key = some kl)
    (d : DataW H) (ps : List MemPlace) (hval : R val = some (d, ps))
    (hK : ∀ w', w'.ownsMap P k R b (n + 1) (D.put kl d) → w.grownBy w' (some b) → wpList P ops Q rest (a.put o.dst undef) w') :
    wpList P ops Q (o :: rest) a w := by
  refine wpList_plain hg fun K' hK' => ?_
  obtain ⟨w', hrun, r1, r2⟩ := hown.update K ht hn hkey hval
  unfold Oper.wp
  simp [execOp, hop, hm, hx, hv, hrun, Result.andThen]
  exact hK' _ _ (hK w' r1 r2)

/-! the map of the escapes, read by its keys -/
abbrev kB (c : UInt8) : Lit := .int .u8 c.toNat
def Reads (D : DataW Unit) (Q : UInt8 → Bool) : Prop := IsMap D ∧ (∀ c, has D (kB c) = Q c) ∧ (∀ c, Q c = true → ∀ z, D.atKey (kB c) z = .lit (.string (Vw.escB c)))
theorem kB_inj {c d : UInt8} (h : kB c = kB d) : c = d := by
  simp only [kB, Lit.int.injEq, true_and] at h
  exact UInt8.toNat.inj (by omega)
theorem kB_key (c : UInt8) : WideAt.IsKeyLit (kB c) := by trivial
theorem kB_wf (c : UInt8) : (kB c).wf = true := by
  have := Vw.byte_all (p := fun c => (kB c).wf) (by decide +kernel) c
  exact this
theorem reads_put {D : DataW Unit} {Q : UInt8 → Bool} (h : Reads D Q) (c0 : UInt8) : Reads (D.put (kB c0) (.lit (.string (Vw.escB c0)))) (fun c => Q c || c == c0) := by
  obtain ⟨hm, h1, h2⟩ := h
  refine ⟨hm.put _ _, fun c => ?_, fun c hc z => ?_⟩
  · by_cases e : c = c0
    · subst e; rw [has_put_same hm (kB_key _)]; simp
    · rw [has_put_other (fun h => e (kB_inj h)), h1]
      have : (c == c0) = false := by simpa using e
      simp only [this, Bool.or_false]
  · by_cases e : c = c0
    · subst e; rw [atKey_put_same hm (kB_key _)]
    · rw [atKey_put_other (fun h => e (kB_inj h))]
      refine h2 c ?_ z
      have : (c == c0) = false := by simpa using e
      simpa only [this, Bool.or_false] using hc
theorem reads_congr {D : DataW Unit} {Q Q' : UInt8 → Bool} (h : Reads D Q) (e : ∀ c, Q c = Q' c) : Reads D Q' := by
  have : Q = Q' := funext e
  rw [← this]; exact h

def base (k : Nat) (c : UInt8) : Bool := (c == 38 || c == 60 || c == 62 || c == 34 || c == 127) || decide (c.toNat < k)
theorem base_succ (k : Nat) (h : k < 32) (c : UInt8) : (base k c || c == UInt8.ofNat k) = base (k + 1) c := by
  have : ∀ k, k < 32 → (Vw.allBytes.all fun c => (base k c || c == UInt8.ofNat k) == base (k + 1) c) = true := by decide +kernel
  have := Vw.byte_all (this k h) c
  simpa using this
theorem base_full (c : UInt8) : base 32 c = Vw.special c := by
  have := Vw.byte_all (p := fun c => base 32 c == Vw.special c) (by decide +kernel) c
  simpa using this
theorem ctl_text : ∀ k, k < 32 → ((⟨#[38, 35]⟩ : ByteArray) ++ ⟨(decDigits (k : Nat)).toArray⟩ ++ ⟨#[59]⟩).data.toList = Vw.escB (UInt8.ofNat k) := by decide +kernel

def EscMap (w : World) (b : Nat) : Prop := ∃ D, w.ownsMap Tryd.prog 5 (plainElem Tryd.prog 9) b 37 D ∧ Reads D Vw.special

theorem law5 : Keyed Tryd.prog 5 := int_keyed Tryd.underlying5

theorem decimal_small (n : Nat) (h : n < 100) (w : World) :
    Calls Tryd.prog 28 #[.int .i64 n] w fun e w' => e = .returned (.string ⟨(decDigits n).toArray⟩) ∧ w' = w := by
  go_enter Tryd.func28, Tryd.ntmps28
  go_wp2_with (go_at_call 44; refine (Tryd.strconv_Itoa_small n h _).mono ?_; rintro e w' ⟨rfl, rfl⟩)
  go_ret
  exact ⟨rfl, rfl⟩

theorem escapes_any (w : World) :
    Calls Tryd.prog 12 #[] w fun e w' => e = .returned (.map (some w.heap.size)) ∧ EscMap w' w.heap.size ∧ Below w.heap.size w w' := by
  have hmm := @run_makeMap Tryd.prog
  have hr0 : Reads (.map []) (fun _ => false) := ⟨⟨_, rfl⟩, fun c => rfl, fun c h => by cases h⟩
  have k38 : keyOf Tryd.prog 5 (.int .u8 38) = some (kB 38) := keyOf_int_mk Tryd.underlying5 (by decide)
  have k60 : keyOf Tryd.prog 5 (.int .u8 60) = some (kB 60) := keyOf_int_mk Tryd.underlying5 (by decide)
  have k62 : keyOf Tryd.prog 5 (.int .u8 62) = some (kB 62) := keyOf_int_mk Tryd.underlying5 (by decide)
  have k34 : keyOf Tryd.prog 5 (.int .u8 34) = some (kB 34) := keyOf_int_mk Tryd.underlying5 (by decide)
  have k127 : keyOf Tryd.prog 5 (.int .u8 127) = some (kB 127) := keyOf_int_mk Tryd.underlying5 (by decide)
  have hown0 := World.ownsMap_made (H := Unit) w Tryd.prog 5 (plainElem Tryd.prog 9)
  go_enter Tryd.func12, Tryd.ntmps12
  go_wp2_with (first
    | (refine wpList_insert_own _ rfl _ _ _ 43 rfl 5 9 law5 Tryd.underlying43 _ w.heap.size 0 _ rfl hown0 (by unfold maxLen; omega) _ _ _ rfl rfl k38 (.lit (.string (Vw.escB 38))) [] (plainElem_string Tryd.underlying9 (by decide)) ?_; intro w1 hown1 hg1; clear hown0)
    | (refine wpList_insert_own _ rfl _ _ _ 43 rfl 5 9 law5 Tryd.underlying43 _ w.heap.size 1 _ rfl hown1 (by unfold maxLen; omega) _ _ _ rfl rfl k60 (.lit (.string (Vw.escB 60))) [] (plainElem_string Tryd.underlying9 (by decide)) ?_; intro w2 hown2 hg2; clear hown1)
    | (refine wpList_insert_own _ rfl _ _ _ 43 rfl 5 9 law5 Tryd.underlying43 _ w.heap.size 2 _ rfl hown2 (by unfold maxLen; omega) _ _ _ rfl rfl k62 (.lit (.string (Vw.escB 62))) [] (plainElem_string Tryd.underlying9 (by decide)) ?_; intro w3 hown3 hg3; clear hown2)
    | (refine wpList_insert_own _ rfl _ _ _ 43 rfl 5 9 law5 Tryd.underlying43 _ w.heap.size 3 _ rfl hown3 (by unfold maxLen; omega) _ _ _ rfl rfl k34 (.lit (.string (Vw.escB 34))) [] (plainElem_string Tryd.underlying9 (by decide)) ?_; intro w4 hown4 hg4; clear hown3)
    | (refine wpList_insert_own _ rfl _ _ _ 43 rfl 5 9 law5 Tryd.underlying43 _ w.heap.size 4 _ rfl hown4 (by unfold maxLen; omega) _ _ _ rfl rfl k127 (.lit (.string (Vw.escB 127))) [] (plainElem_string Tryd.underlying9 (by decide)) ?_; intro w5 hown5 hg5; clear hown4)
    | go_in)
  have hr5 := reads_congr (Q' := base 0) (reads_put (reads_put (reads_put (reads_put (reads_put hr0 38) 60) 62) 34) 127) (fun c => by
    have := Vw.byte_all (p := fun c => (((((false || c == 38) || c == 60) || c == 62) || c == 34) || c == 127) == base 0 c) (by decide +kernel) c
    exact eq_of_beq this)
  have hb5 : Below w.heap.size w w5 := by
    have b0 : Below w.heap.size w (w.alloc (.map #[] 0)) := (Below.refl _ _).alloc (Nat.le_refl _) _
    have b1 := b0.grown hg1 b0.size (fun j hj => by cases hj; exact Nat.le_refl _)
    have b2 := b1.grown hg2 b1.size (fun j hj => by cases hj; exact Nat.le_refl _)
    have b3 := b2.grown hg3 b2.size (fun j hj => by cases hj; exact Nat.le_refl _)
    have b4 := b3.grown hg4 b3.size (fun j hj => by cases hj; exact Nat.le_refl _)
    exact b4.grown hg5 b4.size (fun j hj => by cases hj; exact Nat.le_refl _)
  clear hg1 hg2 hg3 hg4 hg5 hr0 k38 k60 k62 k34 k127
  go_loopw [5] (fun i wr => ∃ (k : Nat) (D : DataW Unit), k ≤ 32 ∧ i = .int .u8 k ∧ wr.ownsMap Tryd.prog 5 (plainElem Tryd.prog 9) w.heap.size (5 + k) D ∧ Reads D (base k) ∧ Below w.heap.size w wr)
    (fun i _ => 32 - (intOf i).toNat)
  case atStart => exact ⟨0, _, Nat.zero_le _, rfl, hown5, hr5, hb5⟩
  case round =>
    obtain ⟨k, D, hk, rfl, hown, hrd, hnx⟩ := hrel
    by_cases hlt : k < 32
    · have hkb : keyOf Tryd.prog 5 (.int .u8 k) = some (kB (UInt8.ofNat k)) := by
        rw [show (Value.int IntKind.u8 (k : Int)) = .int .u8 ((UInt8.ofNat k).toNat : Int) by rw [UInt8.toNat_ofNat']; congr 2; omega]
        exact keyOf_int_mk Tryd.underlying5 (kB_wf _)
      have hsz : ((⟨#[38, 35]⟩ : ByteArray) ++ ⟨(decDigits (k : Nat)).toArray⟩ ++ ⟨#[59]⟩).size ≤ maxLen := by
        have : ∀ k, k < 32 → ((⟨#[38, 35]⟩ : ByteArray) ++ ⟨(decDigits (k : Nat)).toArray⟩ ++ ⟨#[59]⟩).size ≤ 10 := by decide +kernel
        have := this k hlt
        unfold maxLen
        omega
      have hps := plainElem_string (H := Unit) Tryd.underlying9 hsz
      rw [ctl_text k hlt] at hps
      have HRD := Lib.hid hrd
      have HNX := Lib.hid hnx
      have hlt' : (k : Int) < 32 := by omega
      have hdl : (decDigits k).length ≤ 2 := by
        have : ∀ k, k < 32 → (decDigits k).length ≤ 2 := by decide +kernel
        exact this k hlt
      have hd1 : ¬ 9223372036854775807 < 2 + (decDigits k).length := by omega
      have hd2 : ¬ 9223372036854775807 < 2 + (decDigits k).length + 1 := by omega
      clear hrd hnx hsz
      go_wp2_with (first
        | (go_at_call 28; refine (decimal_small k (by omega) _).mono ?_; rintro e w' ⟨rfl, rfl⟩)
        | (at_mapUpdate; refine wpList_mapUpdate_own _ rfl _ _ _ 43 rfl 5 9 law5 Tryd.underlying43 _ w.heap.size (5 + k) _ rfl hown (by unfold maxLen; omega) _ _ _ rfl rfl hkb _ [] hps ?_; intro w1 hown1 hg1)
        | go_in)
      go_roundw
      case rel =>
        have hnx := HNX.out
        exact ⟨k + 1, _, by omega, by go_num, hown1, reads_congr (reads_put HRD.out _) (base_succ k hlt), hnx.grown hg1 hnx.size (fun j hj => by cases hj; exact Nat.le_refl _)⟩
      case measure => simp [intOf]; omega
    · have : k = 32 := by omega
      subst this
      go_wp2
      go_ret
      exact ⟨rfl, ⟨D, hown, reads_congr hrd base_full⟩, hnx⟩
end Go.Proofs.YteipljggjegpoaaDoor
