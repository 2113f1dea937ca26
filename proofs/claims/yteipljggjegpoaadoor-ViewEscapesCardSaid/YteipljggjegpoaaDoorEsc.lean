namespace Vw
set_option linter.unusedVariables false
set_option linter.unusedSimpArgs false
/-- the digits of a small number -/
def dec (n : Nat) : List UInt8 := if n < 10 then [UInt8.ofNat (48 + n)] else [UInt8.ofNat (48 + n / 10), UInt8.ofNat (48 + n % 10)]
def special (c : UInt8) : Bool := c < 32 || c == 127 || c == 38 || c == 60 || c == 62 || c == 34
/-- what a byte is written as -/
def escB (c : UInt8) : List UInt8 :=
  if c = 38 then [38, 97, 109, 112, 59]
  else if c = 60 then [38, 108, 116, 59]
  else if c = 62 then [38, 103, 116, 59]
  else if c = 34 then [38, 113, 117, 111, 116, 59]
  else if c = 127 then [38, 35, 49, 50, 55, 59]
  else if c < 32 then [38, 35] ++ dec c.toNat ++ [59]
  else [c]
def esc (s : List UInt8) : List UInt8 := s.flatMap escB
def allBytes : List UInt8 := (List.range 256).map UInt8.ofNat
theorem mem_all (c : UInt8) : c ∈ allBytes := by
  unfold allBytes
  exact List.mem_map.2 ⟨c.toNat, List.mem_range.2 c.toNat_lt, by simp⟩
theorem byte_all {p : UInt8 → Bool} (h : allBytes.all p = true) (c : UInt8) : p c = true := List.all_eq_true.1 h c (mem_all c)

/-- the byte that is written so -/
def val (k : List UInt8) : Option UInt8 := allBytes.find? fun c => special c && escB c == k
/-- the position of the first ';', and one more; 0 if there is none -/
def upTo : List UInt8 → Nat
  | [] => 0
  | c :: r => if c = 59 then 1 else (if upTo r = 0 then 0 else upTo r + 1)

def uloop : Nat → List UInt8 → List UInt8 → Option (List UInt8)
  | _, acc, [] => some acc
  | 0, _, _ :: _ => none
  | f + 1, acc, c :: r =>
    if c ≠ 38 then uloop f (acc ++ [c]) r
    else match val ((c :: r).take (upTo (c :: r))) with
      | none => none
      | some d => uloop f (acc ++ [d]) ((c :: r).drop (upTo (c :: r)))
def unesc (s : List UInt8) : List UInt8 × Bool :=
  if s.any special = false then (s, true)
  else match uloop s.length [] s with
    | none => ([], false)
    | some b => if esc b = s then (b, true) else ([], false)

set_option maxRecDepth 100000 in
theorem escB_plain (c : UInt8) (h : special c = false) : escB c = [c] := by
  have := byte_all (p := fun c => special c || escB c == [c]) (by decide +kernel) c
  simp [h] at this
  exact this
/-- a special byte is written from '&' to the first ';' -/
theorem escB_form (c : UInt8) (h : special c = true) : ∃ m, escB c = 38 :: (m ++ [59]) ∧ (∀ x ∈ m, x ≠ 59) ∧ val (escB c) = some c ∧ (escB c).length ≤ 6 := by
  have := byte_all (p := fun c => !special c || ((escB c).head? == some 38 && (escB c).getLast? == some 59 && ((escB c).tail.dropLast.all fun x => x != 59) && val (escB c) == some c && decide ((escB c).length ≤ 6) && decide (2 ≤ (escB c).length))) (by decide +kernel) c
  simp only [h, Bool.not_true, Bool.false_or, Bool.and_eq_true, beq_iff_eq, decide_eq_true_eq, List.all_eq_true, bne_iff_ne] at this
  obtain ⟨⟨⟨⟨⟨h1, h2⟩, h3⟩, h4⟩, h5⟩, h6⟩ := this
  refine ⟨(escB c).tail.dropLast, ?_, fun x hx => h3 x hx, h4, h5⟩
  generalize escB c = l at *
  match l, h1, h6 with
  | a :: t, h1, h6 =>
    simp at h1
    subst h1
    have ht : t ≠ [] := by intro e; subst e; simp at h6
    have hl : t.getLast? = some 59 := by
      rw [List.getLast?_cons] at h2
      cases hg : t.getLast? with
      | none => rw [List.getLast?_eq_none_iff] at hg; exact absurd hg ht
      | some v => rw [hg] at h2; simpa using h2
    have := List.dropLast_concat_getLast ht
    rw [List.getLast?_eq_some_getLast ht] at hl
    simp at hl
    rw [hl] at this
    simpa using this.symm
theorem upTo_form (m r : List UInt8) (h : ∀ x ∈ m, x ≠ 59) : upTo (m ++ 59 :: r) = m.length + 1 := by
  induction m with
  | nil => simp [upTo]
  | cons a t ih =>
    have ha := h a List.mem_cons_self
    have := ih (fun x hx => h x (List.mem_cons_of_mem _ hx))
    simp [upTo, ha, this]
theorem esc_len (c : UInt8) : 1 ≤ (escB c).length := by
  cases h : special c with
  | false => rw [escB_plain c h]; simp
  | true => obtain ⟨m, e, _⟩ := escB_form c h; rw [e]; simp
theorem esc_cons (c : UInt8) (s : List UInt8) : esc (c :: s) = escB c ++ esc s := by simp [esc]
theorem esc_length (s : List UInt8) : s.length ≤ (esc s).length := by
  induction s with
  | nil => simp [esc]
  | cons c s ih => rw [esc_cons, List.length_append, List.length_cons]; have := esc_len c; omega
theorem esc_length6 (s : List UInt8) : (esc s).length ≤ 6 * s.length := by
  induction s with
  | nil => simp [esc]
  | cons c s ih =>
    rw [esc_cons, List.length_append, List.length_cons]
    have : (escB c).length ≤ 6 := by
      cases h : special c with
      | false => rw [escB_plain c h]; simp
      | true => obtain ⟨m, e, _, _, h6⟩ := escB_form c h; exact h6
    omega
/-- the loop undoes the writing -/
theorem uloop_esc (s : List UInt8) : ∀ f acc, (esc s).length ≤ f → uloop f acc (esc s) = some (acc ++ s) := by
  induction s with
  | nil => intro f acc _; unfold esc; simp [uloop]
  | cons c s ih =>
    intro f acc hf
    rw [esc_cons] at hf ⊢
    cases h : special c with
    | false =>
      rw [escB_plain c h] at hf ⊢
      have hc : c ≠ 38 := by rintro rfl; simp [special] at h
      match f, hf with
      | f + 1, hf =>
        simp only [List.cons_append, List.nil_append, uloop, hc, ne_eq, not_false_eq_true, if_true]
        rw [ih f _ (by simp at hf; omega)]
        simp
    | true =>
      obtain ⟨m, e, hm, hv, _⟩ := escB_form c h
      have hup : upTo (escB c ++ esc s) = (escB c).length := by
        rw [e]
        show upTo (38 :: (m ++ [59]) ++ esc s) = _
        have e1 : (38 :: (m ++ [59]) ++ esc s) = (38 :: m) ++ 59 :: esc s := by simp
        rw [e1, upTo_form _ _ (by intro x hx; rcases List.mem_cons.1 hx with rfl | hx; decide; exact hm x hx)]
        simp
      obtain ⟨t, et⟩ : ∃ t, escB c ++ esc s = 38 :: t := ⟨_, by rw [e]; rfl⟩
      have hl := congrArg List.length et
      match f, hf with
      | 0, hf => rw [et] at hf; simp at hf
      | f + 1, hf =>
        rw [et]
        simp only [uloop, ne_eq, not_true_eq_false, if_false]
        rw [← et, hup, List.take_left, List.drop_left, hv]
        simp only
        have := esc_len c
        rw [ih f _ (by rw [List.length_append] at hf; omega)]
        simp
theorem any_esc (s : List UInt8) (h : (esc s).any special = false) : esc s = s := by
  induction s with
  | nil => simp [esc]
  | cons c s ih =>
    rw [esc_cons] at h ⊢
    rw [List.any_append, Bool.or_eq_false_iff] at h
    cases hc : special c with
    | true =>
      obtain ⟨m, e, _⟩ := escB_form c hc
      rw [e] at h
      simp [special] at h
    | false => rw [escB_plain c hc, ih h.2]; rfl
theorem esc_plain (s : List UInt8) (h : s.any special = false) : esc s = s := by
  induction s with
  | nil => simp [esc]
  | cons c s ih =>
    simp only [List.any_cons, Bool.or_eq_false_iff] at h
    rw [esc_cons, escB_plain c h.1, ih h.2]; rfl
/-- ViewEscapes, without the program -/
theorem unesc_esc (s : List UInt8) : unesc (esc s) = (s, true) := by
  unfold unesc
  split
  · next h => rw [any_esc s h]
  · rw [uloop_esc s _ _ (Nat.le_refl _)]
    simp
theorem unesc_cases (s : List UInt8) : (s.any special = false ∧ unesc s = (s, true)) ∨ (s.any special = true ∧ ∃ b, esc b = s ∧ unesc s = (b, true)) ∨ unesc s = ([], false) := by
  unfold unesc
  by_cases h0 : s.any special = false
  · rw [if_pos h0]; exact .inl ⟨h0, rfl⟩
  · rw [if_neg h0]
    rcases uloop s.length [] s with _ | b
    · exact .inr (.inr rfl)
    · by_cases hb : esc b = s
      · refine .inr (.inl ⟨by simpa using h0, b, hb, ?_⟩)
        show (if esc b = s then (b, true) else ([], false)) = _
        rw [if_pos hb]
      · refine .inr (.inr ?_)
        show (if esc b = s then (b, true) else ([], false)) = _
        rw [if_neg hb]
theorem esc_unesc (s : List UInt8) (h : (unesc s).2 = true) : esc (unesc s).1 = s := by
  rcases unesc_cases s with ⟨h0, e⟩ | ⟨_, b, hb, e⟩ | e
  · rw [e]; exact esc_plain s h0
  · rw [e]; exact hb
  · rw [e] at h; cases h
theorem unesc_no (s : List UInt8) (h : (unesc s).2 = false) : (unesc s).1 = [] := by
  rcases unesc_cases s with ⟨h0, e⟩ | ⟨_, b, hb, e⟩ | e
  · rw [e] at h; cases h
  · rw [e] at h; cases h
  · rw [e]
set_option maxRecDepth 100000 in
theorem escB_safe (c x : UInt8) (h : x ∈ escB c) : 32 ≤ x ∧ x ≠ 127 ∧ x ≠ 60 ∧ x ≠ 62 ∧ x ≠ 34 := by
  have := byte_all (p := fun c => (escB c).all fun x => decide (32 ≤ x) && x != 127 && x != 60 && x != 62 && x != 34) (by decide +kernel) c
  simp only [List.all_eq_true, Bool.and_eq_true, decide_eq_true_eq, bne_iff_ne] at this
  obtain ⟨⟨⟨⟨h1, h2⟩, h3⟩, h4⟩, h5⟩ := this x h
  exact ⟨h1, h2, h3, h4, h5⟩
theorem esc_safe (s : List UInt8) (x : UInt8) (h : x ∈ esc s) : 32 ≤ x ∧ x ≠ 127 ∧ x ≠ 60 ∧ x ≠ 62 ∧ x ≠ 34 := by
  obtain ⟨c, _, hc⟩ := List.mem_flatMap.1 h
  exact escB_safe c x hc
end Vw
