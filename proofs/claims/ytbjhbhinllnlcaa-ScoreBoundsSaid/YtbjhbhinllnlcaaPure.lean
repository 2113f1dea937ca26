namespace Sc
structure Hl where
  sc : Int
  day : Int
  tod : Int
  st : Int
  nx : Int
  pr : Int
deriving DecidableEq

/-- the day of a time that is not negative -/
def dy (n : Int) : Int := n / 86400000

def cnt (h : Hl) (d p : Int) : Hl :=
  if d = h.day then
    (if h.tod < p then { h with sc := h.sc + (p - h.tod), tod := p } else h)
  else { h with sc := (if h.day ≠ -1 ∧ 7 < d - h.day then 0 else h.sc) + p, day := d, tod := p }

def mx (a b : Int) : Int := if a < b then b else a

def susp (h : Hl) (n : Int) : Hl :=
  if h.st = 0 ∧ 3000 ≤ h.sc then { h with st := 1, nx := n + 86400000, pr := 0 } else h

def bnc (h : Hl) (n p : Int) : Hl := if h.st = 3 then h else susp (cnt h (mx (dy n) h.day) p) n
def suc (h : Hl) (n : Int) : Hl := if h.st = 0 ∧ h.day + 1 < dy n then { h with sc := 0 } else h
def dnOk (h : Hl) : Hl := if h.st = 2 then { h with st := 0, sc := 0, nx := 0, pr := 0 } else h
def dnNo (h : Hl) (n : Int) : Hl :=
  if h.st = 2 then
    (if 3 ≤ h.pr + 1 then { h with pr := h.pr + 1, st := 3, nx := 0 }
     else if h.pr + 1 ≤ 1 then { h with pr := h.pr + 1, st := 1, nx := n + 259200000 }
     else { h with pr := h.pr + 1, st := 1, nx := n + 604800000 })
  else bnc h n 1000
def tck (h : Hl) (n : Int) : Hl × Bool :=
  if n < h.nx then (h, false) else
  if h.st = 1 then ({ h with st := 2, nx := n + 604800000 }, true) else
  if h.st = 2 then (dnNo h n, false) else (h, false)
def new : Hl := ⟨0, -1, 0, 0, 0, 0⟩

def stp (h : Hl) (k n : Int) : Hl × Bool :=
  if k = 0 then (bnc h n 250, false) else if k = 1 then (bnc h n 1000, false) else if k = 2 then (suc h n, false)
  else if k = 3 then tck h n else if k = 4 then (dnNo h n, false) else if k = 5 then (dnOk h, false)
  else if k = 6 then (new, false) else (h, false)

/-- sizes: after i events -/
structure Szd (h : Hl) (i : Int) : Prop where
  sc0 : 0 ≤ h.sc
  sc1 : h.sc ≤ 1000 * i
  d0 : -1 ≤ h.day
  d1 : h.day ≤ 1000000
  t0 : 0 ≤ h.tod
  t1 : h.tod ≤ 1000
  s0 : 0 ≤ h.st
  s1 : h.st ≤ 3
  n0 : 0 ≤ h.nx
  n1 : h.nx ≤ 80000000000000
  p0 : 0 ≤ h.pr
  p1 : h.pr ≤ 3
  p2 : h.st = 1 ∨ h.st = 2 → h.pr ≤ 2

theorem szd_new : Szd new 0 := by constructor <;> simp [new]

theorem dy_bd (n : Int) (h0 : 0 ≤ n) (h1 : n ≤ 70368744177664) : 0 ≤ dy n ∧ dy n ≤ 1000000 := by unfold dy; omega

theorem Szd.mono {h : Hl} {i j : Int} (z : Szd h i) (hij : i ≤ j) : Szd h j :=
  { z with sc1 := by have := z.sc1; omega }

theorem szd_bnc {h : Hl} {i n p : Int} (z : Szd h i) (h0 : 0 ≤ n) (h1 : n ≤ 70368744177664) (hp0 : 0 ≤ p) (hp1 : p ≤ 1000) : Szd (bnc h n p) (i + 1) := by
  obtain ⟨b0, b1⟩ := dy_bd n h0 h1
  obtain ⟨a1, a2, a3, a4, a5, a6, a7, a8, a9, a10, a11, a12, a13⟩ := z
  unfold bnc susp cnt mx
  repeat' split
  all_goals (constructor <;> simp_all <;> omega)

theorem szd_dnNo {h : Hl} {i n : Int} (z : Szd h i) (h0 : 0 ≤ n) (h1 : n ≤ 70368744177664) : Szd (dnNo h n) (i + 1) := by
  unfold dnNo
  split
  · obtain ⟨a1, a2, a3, a4, a5, a6, a7, a8, a9, a10, a11, a12, a13⟩ := z
    repeat' split
    all_goals (constructor <;> simp_all <;> omega)
  · exact szd_bnc z h0 h1 (by omega) (by omega)

theorem szd_stp {h : Hl} {i k n : Int} (z : Szd h i) (h0 : 0 ≤ n) (h1 : n ≤ 70368744177664) (hi : 0 ≤ i) : Szd (stp h k n).1 (i + 1) := by
  have zz := z
  unfold stp
  by_cases k0 : k = 0
  · rw [if_pos k0]; exact szd_bnc z h0 h1 (by omega) (by omega)
  rw [if_neg k0]
  by_cases k1 : k = 1
  · rw [if_pos k1]; exact szd_bnc z h0 h1 (by omega) (by omega)
  rw [if_neg k1]
  by_cases k2 : k = 2
  · rw [if_pos k2]; obtain ⟨a1, a2, a3, a4, a5, a6, a7, a8, a9, a10, a11, a12, a13⟩ := z
    simp only [suc]; split <;> (constructor <;> simp_all <;> omega)
  rw [if_neg k2]
  by_cases k3 : k = 3
  · rw [if_pos k3]; unfold tck
    split
    · exact z.mono (by omega)
    split
    · obtain ⟨a1, a2, a3, a4, a5, a6, a7, a8, a9, a10, a11, a12, a13⟩ := z
      constructor <;> simp_all <;> omega
    split
    · exact szd_dnNo z h0 h1
    · exact z.mono (by omega)
  rw [if_neg k3]
  by_cases k4 : k = 4
  · rw [if_pos k4]; exact szd_dnNo z h0 h1
  rw [if_neg k4]
  by_cases k5 : k = 5
  · rw [if_pos k5]; obtain ⟨a1, a2, a3, a4, a5, a6, a7, a8, a9, a10, a11, a12, a13⟩ := z
    simp only [dnOk]; split <;> (constructor <;> simp_all <;> omega)
  rw [if_neg k5]
  split
  · exact szd_new.mono (by omega)
  · exact z.mono (by omega)
end Sc
