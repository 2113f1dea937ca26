import Derived.Test.YtbjhbhinllnlcaaPure
namespace Sc
set_option linter.unusedVariables false
/-- what ScoreStates asks of one step that is no confirmation -/
inductive Way (a b : Hl) (k n : Int) (p : Bool) : Prop where
  | same (h : a.st = b.st) (hp : p = false) (hd : a.st = 3 → b = a)
  | up (ha : a.st = 0) (hb : b.st = 1) (hs : 3000 ≤ b.sc) (hr : b.pr = 0) (hp : p = false)
  | ask (ha : a.st = 1) (hb : b.st = 2) (hp : p = true)
  | heal (ha : a.st = 2) (hb : b.st = 0) (hk : k = 5) (hs : b.sc = 0) (hp : p = false)
  | back (ha : a.st = 2) (hb : b.st = 1) (hr : b.pr = a.pr + 1) (hl : b.pr < 3) (hn : n < b.nx) (hp : p = false)
  | dead (ha : a.st = 2) (hb : b.st = 3) (hr : b.pr = 3) (hp : p = false)

theorem cnt_st (h : Hl) (d p : Int) : (cnt h d p).st = h.st ∧ (cnt h d p).pr = h.pr ∧ (cnt h d p).nx = h.nx := by
  unfold cnt; repeat' split
  all_goals simp

theorem way_bnc {h : Hl} {i : Int} (z : Szd h i) (k n p : Int) : Way h (bnc h n p) k n false := by
  unfold bnc
  split
  · exact .same rfl rfl (fun _ => rfl)
  · have e := cnt_st h (mx (dy n) h.day) p
    unfold susp
    split
    · next hc => exact .up (e.1 ▸ hc.1) rfl hc.2 rfl rfl
    · exact .same e.1.symm rfl (fun h3 => absurd h3 (by assumption))

theorem way_dnNo {h : Hl} {i : Int} (z : Szd h i) (k n : Int) (h0 : 0 ≤ n) : Way h (dnNo h n) k n false := by
  unfold dnNo
  split
  · next h2 =>
    have := z.p2 (.inr h2)
    split
    · exact .dead h2 rfl (by show h.pr + 1 = 3; omega) rfl
    · split
      · exact .back h2 rfl rfl (by show h.pr + 1 < 3; omega) (by show n < n + _; omega) rfl
      · exact .back h2 rfl rfl (by show h.pr + 1 < 3; omega) (by show n < n + _; omega) rfl
  · exact way_bnc z k n _

theorem way_stp {h : Hl} {i : Int} (z : Szd h i) (k n : Int) (h0 : 0 ≤ n) (hk : k ≠ 6) : Way h (stp h k n).1 k n (stp h k n).2 := by
  unfold stp
  by_cases k0 : k = 0
  · rw [if_pos k0]; exact way_bnc z _ _ _
  rw [if_neg k0]
  by_cases k1 : k = 1
  · rw [if_pos k1]; exact way_bnc z _ _ _
  rw [if_neg k1]
  by_cases k2 : k = 2
  · rw [if_pos k2]; simp only [suc]; split
    · next hc => exact .same rfl rfl (fun h3 => by have := hc.1; omega)
    · exact .same rfl rfl (fun _ => rfl)
  rw [if_neg k2]
  by_cases k3 : k = 3
  · rw [if_pos k3]; unfold tck
    split
    · exact .same rfl rfl (fun _ => rfl)
    split
    · exact .ask (by assumption) rfl rfl
    split
    · exact way_dnNo z _ _ h0
    · exact .same rfl rfl (fun _ => rfl)
  rw [if_neg k3]
  by_cases k4 : k = 4
  · rw [if_pos k4]; exact way_dnNo z _ _ h0
  rw [if_neg k4]
  by_cases k5 : k = 5
  · rw [if_pos k5]; simp only [dnOk]; split
    · exact .heal (by assumption) rfl k5 rfl rfl
    · exact .same rfl rfl (fun _ => rfl)
  rw [if_neg k5, if_neg hk]
  exact .same rfl rfl (fun _ => rfl)

/-! ### the bound -/
def wth (l : List Int) (d : Int) : List Int := if d ∈ l then l else l ++ [d]
def hcnt (hard : List Int) (D : Int) : Int := ((hard.filter (fun x => decide (x ≤ D))).length : Int)
def scnt (hard soft : List Int) (D : Int) : Int := ((soft.filter (fun x => decide (x ≤ D) && !decide (x ∈ hard))).length : Int)
def oth (hard soft : List Int) : Nat := (soft.filter (fun x => !decide (x ∈ hard))).length
def wt (hard soft : List Int) (d : Int) : Int := if d ∈ hard then 1000 else if d ∈ soft then 250 else 0
def W (hard soft : List Int) (D : Int) : Int := 1000 * hcnt hard D + 250 * scnt hard soft D

theorem scnt_all (hard soft : List Int) (D : Int) : scnt hard soft D ≤ oth hard soft := by
  unfold scnt oth
  have : (soft.filter (fun x => decide (x ≤ D) && !decide (x ∈ hard))).length ≤ (soft.filter (fun x => !decide (x ∈ hard))).length := by
    apply List.Sublist.length_le
    have : (soft.filter (fun x => decide (x ≤ D) && !decide (x ∈ hard))) = ((soft.filter (fun x => !decide (x ∈ hard))).filter (fun x => decide (x ≤ D))) := by
      rw [List.filter_filter]
    rw [this]; exact List.filter_sublist
  omega
theorem hcnt_all (hard : List Int) (D : Int) : hcnt hard D ≤ hard.length := by
  unfold hcnt
  have := List.length_filter_le (fun x => decide (x ≤ D)) hard
  omega
theorem W_all (hard soft : List Int) (D : Int) : W hard soft D ≤ 1000 * hard.length + 250 * oth hard soft := by
  have := scnt_all hard soft D; have := hcnt_all hard D; unfold W; omega

theorem hcnt_app (hard : List Int) (d D : Int) : hcnt (hard ++ [d]) D = hcnt hard D + (if d ≤ D then 1 else 0) := by
  unfold hcnt; rw [List.filter_append]; by_cases h : d ≤ D <;> simp [h]
theorem scnt_app (hard soft : List Int) (d D : Int) : scnt hard (soft ++ [d]) D = scnt hard soft D + (if d ≤ D ∧ d ∉ hard then 1 else 0) := by
  unfold scnt; rw [List.filter_append]; by_cases h : d ≤ D <;> by_cases h' : d ∈ hard <;> simp [h, h']
theorem oth_app (hard soft : List Int) (d : Int) : oth hard (soft ++ [d]) = oth hard soft + (if d ∉ hard then 1 else 0) := by
  unfold oth; rw [List.filter_append]; by_cases h' : d ∈ hard <;> simp [h']

/-- a new hard day takes at most its own soft day away -/
theorem scnt_hard (hard soft : List Int) (d D : Int) (hn : soft.Nodup) : scnt (hard ++ [d]) soft D = scnt hard soft D - (if d ≤ D ∧ d ∉ hard ∧ d ∈ soft then 1 else 0) := by
  unfold scnt
  induction soft with
  | nil => simp
  | cons x xs ih =>
    have ih := ih (List.nodup_cons.1 hn).2
    have hx := (List.nodup_cons.1 hn).1
    by_cases e : x = d
    · subst e
      have hrest : ∀ y ∈ xs, (decide (y ≤ D) && !decide (y ∈ hard ++ [x])) = (decide (y ≤ D) && !decide (y ∈ hard)) := by
        intro y hy
        have : y ≠ x := fun e => hx (e ▸ hy)
        simp [this]
      have e1 := List.filter_congr hrest
      rw [List.filter_cons, List.filter_cons, e1]
      by_cases h1 : x ≤ D <;> by_cases h2 : x ∈ hard <;> simp [h1, h2]
      (try omega)
    · rw [List.filter_cons, List.filter_cons]
      have e' : d ≠ x := fun h => e h.symm
      by_cases h1 : x ≤ D <;> by_cases h2 : x ∈ hard <;> simp [h1, h2, e, e'] at ih ⊢ <;> (try omega)
theorem oth_hard (hard soft : List Int) (d : Int) (hn : soft.Nodup) : (oth (hard ++ [d]) soft : Int) = oth hard soft - (if d ∉ hard ∧ d ∈ soft then 1 else 0) := by
  unfold oth
  induction soft with
  | nil => simp
  | cons x xs ih =>
    have ih := ih (List.nodup_cons.1 hn).2
    have hx := (List.nodup_cons.1 hn).1
    by_cases e : x = d
    · subst e
      have hrest : ∀ y ∈ xs, (!decide (y ∈ hard ++ [x])) = (!decide (y ∈ hard)) := by
        intro y hy
        have : y ≠ x := fun e => hx (e ▸ hy)
        simp [this]
      have e1 := List.filter_congr hrest
      rw [List.filter_cons, List.filter_cons, e1]
      by_cases h2 : x ∈ hard <;> simp [h2]
      (try omega)
    · rw [List.filter_cons, List.filter_cons]
      have e' : d ≠ x := fun h => e h.symm
      by_cases h2 : x ∈ hard <;> simp [h2, e, e'] at ih ⊢ <;> (try omega)

structure Inv (h : Hl) (hard soft : List Int) (last : Int) : Prop where
  nd : soft.Nodup
  ha : ∀ x ∈ hard, 0 ≤ x ∧ x ≤ last
  so : ∀ x ∈ soft, 0 ≤ x ∧ x ≤ last
  dl : h.day ≤ last
  t : h.tod ≤ wt hard soft h.day
  c : h.sc - h.tod + wt hard soft h.day ≤ W hard soft h.day
  s : h.st ≠ 0 → 3 ≤ hard.length + oth hard soft

theorem wt_le (hard soft : List Int) (d : Int) : 0 ≤ wt hard soft d := by
  unfold wt
  repeat' split
  all_goals omega
theorem hcnt_pos {hard : List Int} {d : Int} (h : d ∈ hard) : 1 ≤ hcnt hard d := by
  unfold hcnt
  have : d ∈ hard.filter (fun x => decide (x ≤ d)) := by simp [h]
  have := List.length_pos_of_mem this
  omega
theorem scnt_pos {hard soft : List Int} {d : Int} (h : d ∈ soft) (h' : d ∉ hard) : 1 ≤ scnt hard soft d := by
  unfold scnt
  have : d ∈ soft.filter (fun x => decide (x ≤ d) && !decide (x ∈ hard)) := by simp [h, h']
  have := List.length_pos_of_mem this
  omega
theorem cnt0 (hard soft : List Int) (D : Int) : 0 ≤ hcnt hard D ∧ 0 ≤ scnt hard soft D := by unfold hcnt scnt; omega
theorem wt_W (hard soft : List Int) (d : Int) : wt hard soft d ≤ W hard soft d := by
  have := cnt0 hard soft d
  unfold wt W
  split
  · next h => have := hcnt_pos h; omega
  · next h' =>
    split
    · next h => have := scnt_pos h h'; omega
    · omega

theorem wth_mem {l : List Int} {d x : Int} : x ∈ wth l d ↔ x ∈ l ∨ x = d := by
  unfold wth; split
  · next h => constructor
              · exact .inl
              · rintro (h' | rfl)
                · exact h'
                · exact h
  · simp
theorem wth_nodup {l : List Int} {d : Int} (h : l.Nodup) : (wth l d).Nodup := by
  unfold wth; split
  · exact h
  · next hd => rw [List.nodup_append]; exact ⟨h, by simp, by simp; rintro a ha rfl; exact hd ha⟩

/-- the days seen are counted, at most once -/
structure Ext (hard soft hard' soft' : List Int) (d : Int) : Prop where
  nd : soft'.Nodup
  oth : hard.length + oth hard soft ≤ hard'.length + oth hard' soft'
  mono : ∀ D, W hard soft D ≤ W hard' soft' D
  same : ∀ x, x ≠ d → wt hard' soft' x = wt hard soft x
  up : wt hard soft d ≤ wt hard' soft' d
  one : ∀ D, d ≤ D → W hard soft D + (wt hard' soft' d - wt hard soft d) ≤ W hard' soft' D
  jump : ∀ D, D < d → W hard soft D + wt hard' soft' d ≤ W hard' soft' d
theorem fil_mono {α : Type} (l : List α) (p q : α → Bool) (h : ∀ x ∈ l, p x = true → q x = true) : (l.filter p).length ≤ (l.filter q).length := by
  induction l with
  | nil => simp
  | cons x xs ih =>
    have ih := ih (fun y hy => h y (List.mem_cons_of_mem _ hy))
    have hx := h x List.mem_cons_self
    rw [List.filter_cons, List.filter_cons]
    by_cases h1 : p x = true
    · simp [h1, hx h1]; omega
    · by_cases h2 : q x = true <;> simp [h1, h2] <;> omega
theorem fil_lt {α : Type} (l : List α) (p q : α → Bool) (h : ∀ x ∈ l, p x = true → q x = true) (y : α) (hy : y ∈ l) (h1 : q y = true) (h2 : p y = false) : (l.filter p).length + 1 ≤ (l.filter q).length := by
  induction l with
  | nil => cases hy
  | cons x xs ih =>
    have hx := h x List.mem_cons_self
    have hm := fil_mono xs p q (fun y hy => h y (List.mem_cons_of_mem _ hy))
    rw [List.filter_cons, List.filter_cons]
    rcases List.mem_cons.1 hy with rfl | hy
    · simp [h1, h2]; omega
    · have ih := ih (fun y hy => h y (List.mem_cons_of_mem _ hy)) hy
      by_cases h1 : p x = true
      · simp [h1, hx h1]; omega
      · by_cases h2 : q x = true <;> simp [h1, h2] <;> omega
theorem W_jump (hard soft : List Int) (d D : Int) (h : D < d) : W hard soft D + wt hard soft d ≤ W hard soft d := by
  have a1 : hcnt hard D ≤ hcnt hard d := by
    unfold hcnt
    have := fil_mono hard (fun x => decide (x ≤ D)) (fun x => decide (x ≤ d)) (fun x _ hx => by simp at hx ⊢; omega)
    omega
  have a2 : scnt hard soft D ≤ scnt hard soft d := by
    unfold scnt
    have := fil_mono soft (fun x => decide (x ≤ D) && !decide (x ∈ hard)) (fun x => decide (x ≤ d) && !decide (x ∈ hard)) (fun x _ hx => by simp at hx ⊢; exact ⟨by omega, hx.2⟩)
    omega
  unfold W wt
  split
  · next hh =>
    have a1 : hcnt hard D + 1 ≤ hcnt hard d := by
      unfold hcnt
      have := fil_lt hard (fun x => decide (x ≤ D)) (fun x => decide (x ≤ d)) (fun x _ hx => by simp at hx ⊢; omega) d hh (by simp) (by simp; omega)
      omega
    omega
  · next hh =>
    split
    · next hs =>
      have a2 : scnt hard soft D + 1 ≤ scnt hard soft d := by
        unfold scnt
        have := fil_lt soft (fun x => decide (x ≤ D) && !decide (x ∈ hard)) (fun x => decide (x ≤ d) && !decide (x ∈ hard)) (fun x _ hx => by simp at hx ⊢; exact ⟨by omega, hx.2⟩) d hs (by simp [hh]) (by simp; omega)
        omega
      omega
    · omega
theorem Ext.rfl' {hard soft : List Int} (d : Int) (hn : soft.Nodup) : Ext hard soft hard soft d :=
  ⟨hn, Nat.le_refl _, fun _ => Int.le_refl _, fun _ _ => rfl, Int.le_refl _, fun _ _ => by omega, fun D h => W_jump _ _ _ _ h⟩
theorem ext_soft {hard soft : List Int} (d : Int) (hn : soft.Nodup) : Ext hard soft hard (wth soft d) d := by
  by_cases hd : d ∈ soft
  · have e : wth soft d = soft := by unfold wth; rw [if_pos hd]
    rw [e]; exact Ext.rfl' d hn
  · have e : wth soft d = soft ++ [d] := by unfold wth; rw [if_neg hd]
    have hn' := wth_nodup (d := d) hn
    have w1 : wt hard soft d = if d ∈ hard then 1000 else 0 := by unfold wt; simp [hd]
    have w2 : wt hard (wth soft d) d = if d ∈ hard then 1000 else 250 := by unfold wt; simp [wth_mem]
    have one : ∀ D, d ≤ D → W hard soft D + (wt hard (wth soft d) d - wt hard soft d) ≤ W hard (wth soft d) D := by
      intro D hD
      rw [w1, w2, e]; unfold W; rw [scnt_app]
      by_cases h1 : d ∈ hard <;> simp [h1, hD]
      omega
    have mono : ∀ D, W hard soft D ≤ W hard (wth soft d) D := by
      intro D; rw [e]; unfold W; rw [scnt_app]; split <;> omega
    refine ⟨hn', ?_, mono, ?_, ?_, one, ?_⟩
    · rw [e, oth_app]; omega
    · intro x hx; unfold wt; simp [wth_mem, hx]
    · rw [w1, w2]; split <;> omega
    · intro D hD
      have := W_jump hard soft d D hD
      have := one d (Int.le_refl _)
      omega
theorem ext_hard {hard soft : List Int} (d : Int) (hn : soft.Nodup) : Ext hard soft (wth hard d) soft d := by
  by_cases hd : d ∈ hard
  · have e : wth hard d = hard := by unfold wth; rw [if_pos hd]
    rw [e]; exact Ext.rfl' d hn
  · have e : wth hard d = hard ++ [d] := by unfold wth; rw [if_neg hd]
    have w1 : wt hard soft d = if d ∈ soft then 250 else 0 := by unfold wt; simp [hd]
    have w2 : wt (wth hard d) soft d = 1000 := by unfold wt; simp [wth_mem]
    have one : ∀ D, d ≤ D → W hard soft D + (wt (wth hard d) soft d - wt hard soft d) ≤ W (wth hard d) soft D := by
      intro D hD
      rw [w1, w2, e]; unfold W; rw [scnt_hard _ _ _ _ hn, hcnt_app]
      by_cases h1 : d ∈ soft <;> simp [h1, hD, hd] <;> omega
    have mono : ∀ D, W hard soft D ≤ W (wth hard d) soft D := by
      intro D; rw [e]; unfold W; rw [scnt_hard _ _ _ _ hn, hcnt_app]
      by_cases hD : d ≤ D <;> by_cases h1 : d ∈ soft <;> simp [h1, hD, hd] <;> omega
    refine ⟨hn, ?_, mono, ?_, ?_, one, ?_⟩
    · have := oth_hard hard soft d hn
      rw [e, List.length_append]; simp only [List.length_singleton]
      split at this <;> omega
    · intro x hx; unfold wt; simp [wth_mem, hx]
    · rw [w1, w2]; split <;> omega
    · intro D hD
      have := W_jump hard soft d D hD
      have := one d (Int.le_refl _)
      omega

/-- the score stands, the day stands -/
theorem inv_keep {h h' : Hl} {hard soft hard' soft' : List Int} {last d : Int} (z : Inv h hard soft last) (x : Ext hard soft hard' soft' d) (hl : last ≤ d) (h0 : 0 ≤ d)
    (ha : ∀ x ∈ hard', x ∈ hard ∨ x = d) (so : ∀ x ∈ soft', x ∈ soft ∨ x = d)
    (e1 : h'.day = h.day) (e2 : h'.tod = h.tod) (e3 : h'.sc ≤ h.sc ∨ h'.sc = 0 ∧ 0 ≤ h.tod) (e4 : h'.st ≠ 0 → h.st ≠ 0) : Inv h' hard' soft' d := by
  have ge : wt hard soft h.day ≤ wt hard' soft' h.day := by
    by_cases e : h.day = d
    · rw [e]; exact x.up
    · rw [x.same _ e]; exact Int.le_refl _
  have hdl := z.dl
  refine ⟨x.nd, ?_, ?_, by omega, ?_, ?_, ?_⟩
  · intro y hy; rcases ha y hy with h | rfl
    · have := z.ha y h; omega
    · omega
  · intro y hy; rcases so y hy with h | rfl
    · have := z.so y h; omega
    · omega
  · rw [e1, e2]; have := z.t; omega
  · rw [e1, e2]
    rcases e3 with e3 | ⟨e3, e5⟩
    · by_cases e : h.day = d
      · have := x.one d (Int.le_refl _); rw [e]; have := z.c; rw [e] at this; omega
      · rw [x.same _ e]; have := x.mono h.day; have := z.c; omega
    · have := wt_W hard' soft' h.day; omega
  · intro h3; have := z.s (e4 h3); have := x.oth; omega

theorem inv_bnc {h : Hl} {hard soft hard' soft' : List Int} {last n p i : Int} (sz : Szd h i) (z : Inv h hard soft last) (x : Ext hard soft hard' soft' (dy n)) (hl : last ≤ dy n) (h0 : 0 ≤ dy n)
    (ha : ∀ x ∈ hard', x ∈ hard ∨ x = dy n) (so : ∀ x ∈ soft', x ∈ soft ∨ x = dy n) (hp0 : 0 ≤ p) (hp : p ≤ wt hard' soft' (dy n)) : Inv (bnc h n p) hard' soft' (dy n) := by
  have hdl := z.dl
  have em : mx (dy n) h.day = dy n := by unfold mx; split <;> omega
  unfold bnc
  split
  · exact inv_keep z x hl h0 ha so rfl rfl (.inl (Int.le_refl _)) id
  · rw [em]
    have A : Inv (cnt h (dy n) p) hard' soft' (dy n) := by
      refine ⟨x.nd, ?_, ?_, ?_, ?_, ?_, ?_⟩
      · intro y hy; rcases ha y hy with h | rfl
        · have := z.ha y h; omega
        · omega
      · intro y hy; rcases so y hy with h | rfl
        · have := z.so y h; omega
        · omega
      · unfold cnt; repeat' split
        all_goals simp_all
      · unfold cnt; split
        · next e =>
          have := x.up; rw [e] at this; rw [e] at hp
          split
          · simpa using hp
          · have := z.t; show h.tod ≤ wt hard' soft' h.day; omega
        · simpa using hp
      · unfold cnt; split
        · next e =>
          have := x.one (dy n) (Int.le_refl _); have hc := z.c; rw [e] at this
          split
          · show h.sc + (p - h.tod) - p + wt hard' soft' h.day ≤ W hard' soft' h.day; omega
          · show h.sc - h.tod + wt hard' soft' h.day ≤ W hard' soft' h.day; omega
        · next e =>
          have j := x.jump h.day (by omega)
          have hc := z.c
          have ht := z.t
          have hw := wt_le hard soft h.day
          have := wt_W hard' soft' (dy n)
          show (if h.day ≠ -1 ∧ 7 < dy n - h.day then 0 else h.sc) + p - p + wt hard' soft' (dy n) ≤ W hard' soft' (dy n)
          split <;> omega
      · rw [(cnt_st h (dy n) p).1]; intro h3; have := z.s h3; have := x.oth; omega
    unfold susp
    split
    · next hc =>
      refine ⟨A.nd, A.ha, A.so, A.dl, A.t, A.c, fun _ => ?_⟩
      have c := A.c; have t := A.t
      have := W_all hard' soft' (cnt h (dy n) p).day
      have := hc.2
      omega
    · exact A

def kHard (k : Int) : Prop := k = 1 ∨ k = 3 ∨ k = 4
instance (k : Int) : Decidable (kHard k) := by unfold kHard; infer_instance
def nSoft (k d : Int) (soft : List Int) : List Int := if k = 0 then wth soft d else soft
def nHard (k d : Int) (hard : List Int) : List Int := if kHard k then wth hard d else hard

theorem inv_dnNo {h : Hl} {hard soft hard' : List Int} {last n i : Int} (sz : Szd h i) (z : Inv h hard soft last) (x : Ext hard soft hard' soft (dy n)) (hl : last ≤ dy n) (h0 : 0 ≤ dy n)
    (ha : ∀ x ∈ hard', x ∈ hard ∨ x = dy n) (hp : 1000 ≤ wt hard' soft (dy n)) : Inv (dnNo h n) hard' soft (dy n) := by
  unfold dnNo
  split
  · next h2 =>
    repeat' split
    all_goals exact inv_keep z x hl h0 ha (fun _ h => .inl h) rfl rfl (.inl (Int.le_refl _)) (fun _ => by omega)
  · exact inv_bnc sz z x hl h0 ha (fun _ h => .inl h) (by omega) hp

theorem inv_stp {h : Hl} {hard soft : List Int} {last n i k : Int} (sz : Szd h i) (z : Inv h hard soft last) (hl : last ≤ dy n) (h0 : 0 ≤ dy n) :
    Inv (stp h k n).1 (nHard k (dy n) hard) (nSoft k (dy n) soft) (dy n) := by
  have ha : ∀ x ∈ wth hard (dy n), x ∈ hard ∨ x = dy n := fun x hx => wth_mem.1 hx
  have so : ∀ x ∈ wth soft (dy n), x ∈ soft ∨ x = dy n := fun x hx => wth_mem.1 hx
  have whard : 1000 ≤ wt (wth hard (dy n)) soft (dy n) := by unfold wt; simp [wth_mem]
  have wsoft : 250 ≤ wt hard (wth soft (dy n)) (dy n) := by unfold wt; simp [wth_mem]; split <;> omega
  have keep : ∀ {h' : Hl}, h'.day = h.day → h'.tod = h.tod → (h'.sc ≤ h.sc ∨ h'.sc = 0 ∧ 0 ≤ h.tod) → (h'.st ≠ 0 → h.st ≠ 0) → Inv h' hard soft (dy n) :=
    fun a b c d => inv_keep z (Ext.rfl' (dy n) z.nd) hl h0 (fun _ h => .inl h) (fun _ h => .inl h) a b c d
  unfold stp
  by_cases k0 : k = 0
  · rw [if_pos k0]; subst k0
    simp only [nHard, nSoft, kHard]; simp
    exact inv_bnc sz z (ext_soft (dy n) z.nd) hl h0 (fun _ h => .inl h) so (by omega) wsoft
  rw [if_neg k0]
  by_cases k1 : k = 1
  · rw [if_pos k1]; subst k1
    simp only [nHard, nSoft, kHard]; simp
    exact inv_bnc sz z (ext_hard (dy n) z.nd) hl h0 ha (fun _ h => .inl h) (by omega) whard
  rw [if_neg k1]
  by_cases k2 : k = 2
  · rw [if_pos k2]; subst k2
    simp only [nHard, nSoft, kHard]; simp [suc]; split
    · exact keep rfl rfl (.inr ⟨rfl, sz.t0⟩) id
    · exact keep rfl rfl (.inl (Int.le_refl _)) id
  rw [if_neg k2]
  by_cases k3 : k = 3
  · rw [if_pos k3]; subst k3
    simp only [nHard, nSoft, kHard]; simp [tck]
    have keep' : ∀ {h' : Hl}, h'.day = h.day → h'.tod = h.tod → (h'.sc ≤ h.sc ∨ h'.sc = 0 ∧ 0 ≤ h.tod) → (h'.st ≠ 0 → h.st ≠ 0) → Inv h' (wth hard (dy n)) soft (dy n) :=
      fun a b c d => inv_keep z (ext_hard (dy n) z.nd) hl h0 ha (fun _ h => .inl h) a b c d
    split
    · exact keep' rfl rfl (.inl (Int.le_refl _)) id
    split
    · exact keep' rfl rfl (.inl (Int.le_refl _)) (fun _ => by omega)
    split
    · exact inv_dnNo sz z (ext_hard (dy n) z.nd) hl h0 ha whard
    · exact keep' rfl rfl (.inl (Int.le_refl _)) id
  rw [if_neg k3]
  by_cases k4 : k = 4
  · rw [if_pos k4]; subst k4
    simp only [nHard, nSoft, kHard]; simp
    exact inv_dnNo sz z (ext_hard (dy n) z.nd) hl h0 ha whard
  rw [if_neg k4]
  have kh : ¬ kHard k := by unfold kHard; omega
  have e1 : nHard k (dy n) hard = hard := by unfold nHard; rw [if_neg kh]
  have e2 : nSoft k (dy n) soft = soft := by unfold nSoft; rw [if_neg k0]
  rw [e1, e2]
  by_cases k5 : k = 5
  · rw [if_pos k5]; simp only [dnOk]; split
    · exact keep rfl rfl (.inr ⟨rfl, sz.t0⟩) (fun h => absurd rfl h)
    · exact keep rfl rfl (.inl (Int.le_refl _)) id
  rw [if_neg k5]
  split
  · have k := keep (h' := h) rfl rfl (.inl (Int.le_refl _)) id
    have n1 : ∀ x ∈ hard, ¬ x ≤ -1 := fun x hx => by have := z.ha x hx; omega
    have n2 : ∀ x ∈ soft, ¬ x ≤ -1 := fun x hx => by have := z.so x hx; omega
    have w0 : wt hard soft (-1) = 0 := by
      unfold wt
      rw [if_neg (fun h => by have := z.ha _ h; omega), if_neg (fun h => by have := z.so _ h; omega)]
    refine ⟨z.nd, k.ha, k.so, by show (-1 : Int) ≤ _; omega, by show (0 : Int) ≤ _; exact wt_le _ _ _, ?_, fun h => absurd rfl h⟩
    have := cnt0 hard soft (-1)
    show (0 : Int) - 0 + wt hard soft (-1) ≤ W hard soft (-1)
    rw [w0]; unfold W; omega
  · exact keep rfl rfl (.inl (Int.le_refl _)) id

theorem inv_new : Inv new [] [] 0 := by
  refine ⟨by simp, by simp, by simp, by simp [new], by simp [new, wt], by simp [new, wt, W, hcnt, scnt], by simp [new]⟩

/-- what ScoreBounds asks behind each event -/
theorem inv_bound {h : Hl} {hard soft : List Int} {last i : Int} (sz : Szd h i) (z : Inv h hard soft last) :
    h.sc ≤ 1000 * hard.length + 250 * oth hard soft ∧ 0 ≤ h.sc ∧ (h.st ≠ 0 → 3 ≤ hard.length + oth hard soft) := by
  have := W_all hard soft h.day; have := z.c; have := z.t
  exact ⟨by omega, sz.sc0, z.s⟩
end Sc
