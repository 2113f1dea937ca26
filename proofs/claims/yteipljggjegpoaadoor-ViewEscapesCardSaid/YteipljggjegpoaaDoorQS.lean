import Derived.Deep.RegionHeld
/-! A region that draws its order: pure operations anywhere (taken first), loads that hold their value as long as they may come up late, then a forced sequence: my own law. -/
namespace Go
set_option linter.unusedVariables false
set_option linter.unusedSimpArgs false
section
variable {P : Program} {ops : Array Oper} {md : Region.Mode} {Q : Exit → Act → World → Prop} {S : World → Prop}

theorem getD_bothQ {listed : Array Bool} {i : Nat} (h : listed.getD i true = false) : listed.getD i false = false := by
  rcases Nat.lt_or_ge i listed.size with h' | h'
  · simp [h'] at h ⊢; exact h
  · simp [Array.getElem?_eq_none h'] at h
/-- j waits for i, over at most f steps -/
def Region.reachB (md : Region.Mode) (ops : Array Oper) : Nat → Nat → Nat → Bool
  | 0, _, _ => false
  | f + 1, j, i => match ops[j]? with
    | some oj => oj.after.any fun e => Region.binds md e && (e.on == i || Region.reachB md ops f e.on i)
    | none => false

/-- what has come up is closed: all that it waits for has come up -/
def Region.Closed (md : Region.Mode) (ops : Array Oper) (listed : Array Bool) : Prop :=
  ∀ j oj, ops[j]? = some oj → listed.getD j false = true → ∀ e ∈ oj.after, Region.binds md e = true → listed.getD e.on false = true
def Region.closedB (md : Region.Mode) (ops : Array Oper) (listed : Array Bool) : Bool :=
  (List.range ops.size).all fun j => match ops[j]? with
    | some oj => !listed.getD j false || oj.after.all fun e => !Region.binds md e || listed.getD e.on false
    | none => true
theorem Region.closedB_spec {listed : Array Bool} (h : Region.closedB md ops listed = true) : Region.Closed md ops listed := by
  intro j oj hj hl e he hb
  have h1 := List.all_eq_true.1 h j (List.mem_range.2 (Array.getElem?_eq_some_iff.1 hj).1)
  simp only [hj, hl, Bool.not_true, Bool.false_or, Array.all_eq_true_iff_forall_mem] at h1
  have h2 := h1 e he
  simpa [hb] using h2
theorem Region.Closed.set {listed : Array Bool} {i : Nat} (h : Region.Closed md ops listed) (hi : i ∈ Region.ready md ops listed) : Region.Closed md ops (listed.setIfInBounds i true) := by
  obtain ⟨_, oi, hoi, hall⟩ := mem_ready.1 hi
  intro j oj hj hl e he hb
  by_cases hij : i = j
  · subst hij
    have : oj = oi := Option.some.inj (hj.symm.trans hoi)
    subst this
    exact getD_set_true (hall e he hb)
  · rw [getD_set_ne false hij] at hl
    exact getD_set_true (h j oj hj hl e he hb)
theorem Region.reach_listed {listed : Array Bool} (hc : Region.Closed md ops listed) {i : Nat} : ∀ (f j : Nat) (oj : Oper), ops[j]? = some oj → (∀ e ∈ oj.after, Region.binds md e = true → listed.getD e.on false = true) →
    Region.reachB md ops f j i = true → listed.getD i false = true := by
  intro f
  induction f with
  | zero => intro j oj _ _ h; exact Bool.noConfusion h
  | succ f ih =>
    intro j oj hj hall h
    unfold Region.reachB at h
    simp only [hj] at h
    obtain ⟨e, he, h1⟩ := Array.any_eq_true'.1 h
    simp only [Bool.and_eq_true, Bool.or_eq_true, beq_iff_eq] at h1
    obtain ⟨hb, h2 | h2⟩ := h1
    · rw [← h2]; exact hall e he hb
    · have h3 := hall e he hb
      cases f with
      | zero => exact Bool.noConfusion h2
      | succ f =>
        have h4 := h2
        unfold Region.reachB at h4
        split at h4
        · rename_i oe hoe
          exact ih e.on oe hoe (hc e.on oe hoe h3) h2
        · exact Bool.noConfusion h4

/-- Whatever order is picked from here on; S is shown behind those operations that k names. -/
def wpAnyE (P : Program) (md : Region.Mode) (ops : Array Oper) (Q : Exit → Act → World → Prop) (S : World → Prop) (k : Nat → Bool) : Nat → Array Bool → Act → World → Prop
  | 0, listed, a, w => Region.ready md ops listed = [] ∧ Q .normal a w
  | fuel + 1, listed, a, w =>
    (Region.ready md ops listed = [] → Q .normal a w) ∧
    ∀ i ∈ Region.ready md ops listed, wpOp P ops Q i (fun a' w' => (k i = true → S w') ∧ wpAnyE P md ops Q S k fuel (listed.setIfInBounds i true) a' w') a w

theorem wpAny_of_E {k : Nat → Bool} : ∀ (fuel : Nat) (listed : Array Bool) (a : Act) (w : World), wpAnyE P md ops Q S k fuel listed a w → wpAny P md ops Q fuel listed a w
  | 0, _, _, _, h => h
  | fuel + 1, _, _, _, h => ⟨h.1, fun i hi => wpOp_mono (fun a' w' h' => wpAny_of_E fuel _ a' w' h'.2) (h.2 i hi)⟩

theorem wpAnyE_first {k : Nat → Bool} {i g : Nat} {oi : Oper} {v : Value} (hi : ops[i]? = some oi) (hsel : ∀ (j : Nat) (o : Oper) cs b, ops[j]? = some o → o.op ≠ .select cs b)
    (hQ : ∀ c a w, Q (.panic c) (a.put oi.dst v) w → Q (.panic c) a w) (hk : ∀ j, j < ops.size → k j = true ∨ Region.reachB md ops g j i = true) :
    ∀ (fuel : Nat) (listed : Array Bool) (a : Act) (w : World), Region.Closed md ops listed →
      (∀ j oj, ops[j]? = some oj → j ≠ i → listed.getD j true = false → (∀ e ∈ oj.after, Region.binds md e = true → e.on ≠ i) → oi.apart ops oj = true) →
      i ∈ Region.ready md ops listed → YieldsIf P ops S oi v a → S w →
      wpAnyE P md ops Q S k fuel (listed.setIfInBounds i true) (a.put oi.dst v) w → wpAnyE P md ops Q S k (fuel + 1) listed a w := by
  intro fuel
  induction fuel with
  | zero =>
    intro listed a w _ _ hr hy hS H
    refine ⟨fun h => absurd (h ▸ hr) (by simp), fun j hj => ?_⟩
    by_cases hji : j = i
    · subst hji; exact hy.wpOp hi hS ⟨fun _ => hS, H⟩
    · have := ready_mono hj hji
      rw [H.1] at this
      cases this
  | succ fuel ih =>
    intro listed a w hc hfree hr hy hS H
    refine ⟨fun h => absurd (h ▸ hr) (by simp), fun j hj => ?_⟩
    by_cases hji : j = i
    · subst hji; exact hy.wpOp hi hS ⟨fun _ => hS, H⟩
    · have h1 := H.2 j (ready_mono hj hji)
      obtain ⟨hjun, oj, hoj, hall⟩ := mem_ready.1 hj
      have hiun := (mem_ready.1 hr).1
      have hkj : k j = true := by
        rcases hk j (Array.getElem?_eq_some_iff.1 hoj).1 with h | h
        · exact h
        · have h2 := Region.reach_listed hc g j oj hoj hall h
          rw [getD_bothQ hiun] at h2
          exact Bool.noConfusion h2
      have hnot : ∀ e ∈ oj.after, Region.binds md e = true → e.on ≠ i := fun e he hb heq => by
        have h1 := hall e he hb
        rw [heq, getD_bothQ hiun] at h1
        exact Bool.noConfusion h1
      have h2 := wpOp_putIf hoj (hfree j oj hoj hji hjun hnot) (fun cs b => hsel i oi cs b hi) (fun cs b => hsel j oj cs b hoj) hQ hy h1
      have hfree' : ∀ k ok, ops[k]? = some ok → k ≠ i → (listed.setIfInBounds j true).getD k true = false →
          (∀ e ∈ ok.after, Region.binds md e = true → e.on ≠ i) → oi.apart ops ok = true := fun k ok hk hki hun hno => by
        refine hfree k ok hk hki ?_ hno
        by_cases hjk : j = k
        · subst hjk; exact hjun
        · rw [getD_set_ne true hjk] at hun; exact hun
      refine wpOp_mono (fun a' w' h3 => ⟨h3.2.1, ih (listed.setIfInBounds j true) a' w' (hc.set hj) hfree' (ready_mono hr (Ne.symm hji)) h3.1 (h3.2.1 hkj) ?_⟩) h2
      rw [Array.setIfInBounds_comm _ _ hji]
      exact h3.2.2

theorem hQ_dst (hQ : ∀ c a (d : Tmp) v w, Q (.panic c) (Act.put a (some d) v) w → Q (.panic c) a w) : ∀ c a (d : Option Tmp) v w, Q (.panic c) (Act.put a d v) w → Q (.panic c) a w := by
  intro c a d v w h
  cases d with
  | none => exact h
  | some d => exact hQ c a d v w h

/-! ### the walk's three parts -/
/-- pure operations, one after the other -/
def wpPure (P : Program) (ops : Array Oper) (K : Act → Prop) : List Nat → Act → Prop
  | [], a => K a
  | i :: is, a => ∃ oi v, ops[i]? = some oi ∧ Yields P ops oi v a ∧ wpPure P ops K is (a.put oi.dst v)
/-- loads -/
def wpHold (P : Program) (ops : Array Oper) (S : World → Prop) (K : Act → Prop) : List Nat → Act → Prop
  | [], a => K a
  | i :: is, a => ∃ oi v, ops[i]? = some oi ∧ YieldsIf P ops S oi v a ∧ wpHold P ops S K is (a.put oi.dst v)
/-- the sequence's first part, behind whose operations S is shown -/
def wpKeep (P : Program) (ops : Array Oper) (Q : Exit → Act → World → Prop) (S : World → Prop) (K : Act → World → Prop) : List Nat → Act → World → Prop
  | [], a, w => K a w
  | i :: is, a, w => wpOp P ops Q i (fun a' w' => S w' ∧ wpKeep P ops Q S K is a' w') a w

theorem wpPure_step {K : Act → Prop} {i : Nat} {is : List Nat} {a : Act} (oi : Oper) (hi : ops[i]? = some oi) (hw : Region.wanted oi (yielded ops a.tmps) = true)
    (h : ∃ v, (∀ w, (execOp a.eval oi).run P w = .ok (.value v) w) ∧ wpPure P ops K is (a.put oi.dst v)) : wpPure P ops K (i :: is) a := let ⟨v, hy, h⟩ := h; ⟨oi, v, hi, .inl ⟨hw, hy⟩, h⟩
theorem wpHold_step {K : Act → Prop} {i : Nat} {is : List Nat} {a : Act} (oi : Oper) (hi : ops[i]? = some oi) (hw : Region.wanted oi (yielded ops a.tmps) = true)
    (h : ∃ v, (∀ w, S w → (execOp a.eval oi).run P w = .ok (.value v) w) ∧ wpHold P ops S K is (a.put oi.dst v)) : wpHold P ops S K (i :: is) a := let ⟨v, hy, h⟩ := h; ⟨oi, v, hi, .inl ⟨hw, hy⟩, h⟩
theorem wpKeep_nil {K : Act → World → Prop} {a : Act} {w : World} (h : K a w) : wpKeep P ops Q S K [] a w := h
theorem wpPure_nil {K : Act → Prop} {a : Act} (h : K a) : wpPure P ops K [] a := h
theorem wpHold_nil {K : Act → Prop} {a : Act} (h : K a) : wpHold P ops S K [] a := h
theorem wpKeep_step {K : Act → World → Prop} {i : Nat} {is : List Nat} {a : Act} {w : World} (oi : Oper) (hi : ops[i]? = some oi)
    (h : ∀ K' : Act → World → Prop, Shut (∀ a w, S w → wpKeep P ops Q S K is a w → K' a w) → if Region.wanted oi (yielded ops a.tmps) = true then Oper.wp P oi a w K' Q else K' (a.put oi.dst undef) w) : wpKeep P ops Q S K (i :: is) a w :=
  wpOp_step hi (fun K' hK => h K' (fun a w hS hW => hK a w ⟨hS, hW⟩))

/-- the sequence of what may come up is forced -/
def Region.forcedB (md : Region.Mode) (ops : Array Oper) : List Nat → Array Bool → Bool
  | [], listed => (Region.ready md ops listed).isEmpty
  | i :: is, listed => decide (Region.ready md ops listed = [i]) && Region.forcedB md ops is (listed.setIfInBounds i true)

/-- loads in the order named: each may come up, is free, and all that k does not name waits for it -/
def Region.heldB (md : Region.Mode) (ops : Array Oper) (k : List Nat) (ts : List Nat) : List Nat → Array Bool → Bool
  | [], listed => Region.forcedB md ops ts listed
  | i :: is, listed => (Region.ready md ops listed).contains i && Region.free md ops listed i && ((List.range ops.size).all fun j => k.contains j || Region.reachB md ops ops.size j i) &&
      Region.heldB md ops k ts is (listed.setIfInBounds i true)
def Region.pureB (md : Region.Mode) (ops : Array Oper) (k hs ts : List Nat) : List Nat → Array Bool → Bool
  | [], listed => Region.closedB md ops listed && Region.heldB md ops k ts hs listed
  | i :: is, listed => (Region.ready md ops listed).contains i && Region.free md ops listed i && Region.pureB md ops k hs ts is (listed.setIfInBounds i true)

theorem wpAny_of_forced {n : Nat} : ∀ (us : List Nat) (l : List Oper) (listed : Array Bool) (a : Act) (w : World), us.map (ops[·]?) = l.map some → us.length = n →
    Region.forcedB md ops us listed = true → wpList P ops Q l a w → wpAny P md ops Q n listed a w := by
  intro us
  induction us generalizing n with
  | nil =>
    intro l listed a w hl hn hB h
    cases l with
    | nil => subst hn; exact ⟨by simpa [Region.forcedB] using hB, h⟩
    | cons o l => simp at hl
  | cons u us ih =>
    intro l listed a w hl hn hB h
    cases l with
    | nil => simp at hl
    | cons o l =>
      simp only [List.map_cons, List.cons.injEq] at hl
      subst hn
      simp only [Region.forcedB, Bool.and_eq_true, decide_eq_true_eq] at hB
      refine ⟨fun h1 => absurd (hB.1 ▸ h1) (by simp), fun i hi => ?_⟩
      rw [hB.1] at hi
      obtain rfl : i = u := by simpa using hi
      have hw : wpOp P ops Q i (wpList P ops Q l) a w := by unfold wpOp; simp only [hl.1]; exact h
      exact wpOp_mono (fun a' w' h' => ih l _ a' w' hl.2 rfl hB.2 h') hw

/-- from here on only the forced rest -/
theorem wpAnyE_of_keep {k : Nat → Bool} :
    ∀ (us' : List Nat) (l' : List Oper) (listed : Array Bool) (a : Act) (w : World), us'.map (ops[·]?) = l'.map some → (∀ i ∈ us', k i = false) → Region.forcedB md ops us' listed = true → wpList P ops Q l' a w → wpAnyE P md ops Q S k us'.length listed a w := by
  intro us'
  induction us' with
  | nil =>
    intro l' listed a w hl' _ hB h
    cases l' with
    | nil => exact ⟨by simpa [Region.forcedB] using hB, h⟩
    | cons o l => simp at hl'
  | cons u us' ih =>
    intro l' listed a w hl' hk hB h
    cases l' with
    | nil => simp at hl'
    | cons o l' =>
      simp only [List.map_cons, List.cons.injEq] at hl'
      simp only [Region.forcedB, Bool.and_eq_true, decide_eq_true_eq] at hB
      refine ⟨fun h1 => absurd (hB.1 ▸ h1) (by simp), fun i hi => ?_⟩
      rw [hB.1] at hi
      obtain rfl : i = u := by simpa using hi
      have hw : wpOp P ops Q i (wpList P ops Q l') a w := by unfold wpOp; simp only [hl'.1]; exact h
      refine wpOp_mono (fun a' w' h' => ⟨fun h2 => ?_, ih l' _ a' w' hl'.2 (fun j hj => hk j (List.mem_cons_of_mem _ hj)) hB.2 h'⟩) hw
      rw [hk i (List.mem_cons_self ..)] at h2
      exact Bool.noConfusion h2

theorem wpAnyE_of_keeps {k : Nat → Bool} {us : List Nat} {l : List Oper} (hl : us.map (ops[·]?) = l.map some) (hus : ∀ i ∈ us, k i = false) :
    ∀ (ts : List Nat) (listed : Array Bool) (a : Act) (w : World), Region.forcedB md ops (ts ++ us) listed = true → wpKeep P ops Q S (wpList P ops Q l) ts a w → wpAnyE P md ops Q S k (ts ++ us).length listed a w := by
  intro ts
  induction ts with
  | nil => intro listed a w hB h; exact wpAnyE_of_keep us l listed a w hl hus hB h
  | cons u ts ih =>
    intro listed a w hB h
    simp only [List.cons_append, Region.forcedB, Bool.and_eq_true, decide_eq_true_eq] at hB
    refine ⟨fun h1 => absurd (hB.1 ▸ h1) (by simp), fun i hi => ?_⟩
    rw [hB.1] at hi
    obtain rfl : i = u := by simpa using hi
    exact wpOp_mono (fun a' w' h' => ⟨fun _ => h'.1, ih _ a' w' hB.2 h'.2⟩) h

theorem wpAnyE_of_hold {k : List Nat} {us : List Nat} {l : List Oper} (hsel : Region.noSelect ops = true) (hl : us.map (ops[·]?) = l.map some) (hus : ∀ i ∈ us, k.contains i = false) (ts : List Nat)
    (hQ : ∀ c a (d : Tmp) v w, Q (.panic c) (Act.put a (some d) v) w → Q (.panic c) a w) :
    ∀ (hs : List Nat) (listed : Array Bool) (a : Act) (w : World), Region.Closed md ops listed → S w → Region.heldB md ops k (ts ++ us) hs listed = true → wpHold P ops S (fun a' => wpKeep P ops Q S (wpList P ops Q l) ts a' w) hs a →
      wpAnyE P md ops Q S k.contains (hs.length + (ts ++ us).length) listed a w := by
  intro hs
  induction hs with
  | nil => intro listed a w _ _ hB h; rw [List.length_nil, Nat.zero_add]; exact wpAnyE_of_keeps hl hus ts listed a w hB h
  | cons i hs ih =>
    intro listed a w hc hS hB h
    simp only [Region.heldB, Bool.and_eq_true] at hB
    obtain ⟨⟨⟨hr, hf⟩, hk⟩, hB'⟩ := hB
    obtain ⟨oi, v, hi, hy, h'⟩ := h
    have hr' : i ∈ Region.ready md ops listed := by simpa using hr
    rw [List.length_cons, show hs.length + 1 + (ts ++ us).length = (hs.length + (ts ++ us).length) + 1 by omega]
    refine wpAnyE_first (g := ops.size) hi (Region.noSelect_spec hsel) (fun c a w h => hQ_dst hQ c a _ _ w h) (fun j hj => ?_) _ listed a w hc (Region.free_spec hi hf) hr' hy hS (ih _ _ w (hc.set hr') hS hB' h')
    have h1 := List.all_eq_true.1 hk j (List.mem_range.2 hj)
    simpa using h1

theorem wpAny_of_pure {k : List Nat} {us : List Nat} {l : List Oper} (hsel : Region.noSelect ops = true) (hl : us.map (ops[·]?) = l.map some) (hus : ∀ i ∈ us, k.contains i = false) (hs ts : List Nat)
    (hQ : ∀ c a (d : Tmp) v w, Q (.panic c) (Act.put a (some d) v) w → Q (.panic c) a w) (w : World) (hS : S w) :
    ∀ (fs : List Nat) (listed : Array Bool) (a : Act), Region.pureB md ops k hs (ts ++ us) fs listed = true → wpPure P ops (wpHold P ops S (fun a' => wpKeep P ops Q S (wpList P ops Q l) ts a' w) hs) fs a →
      wpAny P md ops Q (fs.length + (hs.length + (ts ++ us).length)) listed a w := by
  intro fs
  induction fs with
  | nil =>
    intro listed a hB h
    simp only [Region.pureB, Bool.and_eq_true] at hB
    rw [List.length_nil, Nat.zero_add]
    exact wpAny_of_E _ _ _ _ (wpAnyE_of_hold hsel hl hus ts hQ hs listed a w (Region.closedB_spec hB.1) hS hB.2 h)
  | cons i fs ih =>
    intro listed a hB h
    simp only [Region.pureB, Bool.and_eq_true] at hB
    obtain ⟨oi, v, hi, hy, h'⟩ := h
    rw [List.length_cons, show fs.length + 1 + (hs.length + (ts ++ us).length) = (fs.length + (hs.length + (ts ++ us).length)) + 1 by omega]
    exact wpAny_take hi hsel hB.1.2 hB.1.1 (fun c a w h => hQ_dst hQ c a _ _ w h) hy (ih _ _ hB.2 h')

/-- the operations of these numbers -/
def Region.pick (l : List Oper) : List Nat → List Oper
  | [] => []
  | i :: is => match l[i]? with
    | some o => o :: Region.pick l is
    | none => Region.pick l is
theorem Region.pick_nil (l : List Oper) : Region.pick l [] = [] := rfl
theorem Region.pick_cons (l : List Oper) (i : Nat) (is : List Nat) : Region.pick l (i :: is) = match l[i]? with
    | some o => o :: Region.pick l is
    | none => Region.pick l is := rfl
theorem Region.pick_spec (l : List Oper) : ∀ is : List Nat, (is.all fun i => decide (i < l.length)) = true → is.map (l.toArray[·]?) = (Region.pick l is).map some := by
  intro is
  induction is with
  | nil => intro _; rfl
  | cons i is ih =>
    intro h
    simp only [List.all_cons, Bool.and_eq_true, decide_eq_true_eq] at h
    rw [Region.pick_cons, List.getElem?_eq_getElem h.1, List.map_cons, ih h.2]
    show _ :: _ = List.map some (_ :: _)
    rw [List.map_cons]
    congr 1
    simp [h.1]

/-- what is asked of a region -/
def Region.seqsB (md : Region.Mode) (l : List Oper) (fs hs ts us : List Nat) : Bool :=
  Region.noSelect l.toArray && decide (fs.length + (hs.length + (ts ++ us).length) = l.toArray.size) && Region.pureB md l.toArray (fs ++ (hs ++ ts)) hs (ts ++ us) fs (Array.replicate l.toArray.size false) && (us.all fun i => !(fs ++ (hs ++ ts)).contains i) && us.all fun i => decide (i < l.length)

/-- fs: pure, taken first. hs: loads, one value in every world of S. ts: the sequence's first part, S shown behind each. us: the rest. -/
theorem wp_region_seqs {id : Nat} {a : Act} {w : World} {l : List Oper} (fs hs ts us : List Nat) (S : World → Prop) (hm : P.follows .mixedOrders = true)
    (hB : Region.seqsB .any l fs hs ts us = true) (hS : S w.drew) (hQ : ∀ c a (d : Tmp) v w, Q (.panic c) (Act.put a (some d) v) w → Q (.panic c) a w)
    (h : wpPure P l.toArray (wpHold P l.toArray S (fun a' => wpKeep P l.toArray Q S (wpList P l.toArray Q (Region.pick l us)) ts a' w.drew) hs) fs a) : (Code.region id l.toArray true).wp P Q a w := by
  simp only [Region.seqsB, Bool.and_eq_true, decide_eq_true_eq] at hB
  obtain ⟨⟨⟨⟨hsel, hn⟩, hB'⟩, hu⟩, hlt⟩ := hB
  refine wp_region_any hm ?_
  have H := wpAny_of_pure (k := fs ++ (hs ++ ts)) (Q := Q) hsel (Region.pick_spec l us hlt) (fun i hi => by
    have := List.all_eq_true.1 hu i hi
    simpa using this) hs ts hQ w.drew hS fs _ a hB' h
  rw [hn] at H
  exact H
end
end Go
