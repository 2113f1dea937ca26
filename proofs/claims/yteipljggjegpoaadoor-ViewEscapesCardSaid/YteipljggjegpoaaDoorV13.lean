import Derived.Test.YteipljggjegpoaaDoorV5
namespace Go.Proofs.YteipljggjegpoaaDoor
set_option linter.unusedVariables false
set_option linter.unusedSimpArgs false
open Go.RowKit Go.Lib Go.Maps
set_option maxHeartbeats 4000000
set_option maxRecDepth 100000

def pl (s : ByteArray) (k : Nat) : Bool := (s.data.toList.take k).all fun c => !Vw.special c
theorem pl_succ (s : ByteArray) (k : Nat) (h : k < s.size) : pl s (k + 1) = (pl s k && !Vw.special (s[k]'h)) := by
  unfold pl
  have hl : k < s.data.toList.length := by simpa using h
  rw [List.take_add_one, List.getElem?_eq_getElem hl, List.all_append]
  rw [Array.getElem_toList]
  simp
  rfl
theorem special_cases (c : UInt8) : (c.toNat < 32 ∨ c = 127 ∨ c = 38 ∨ c = 60 ∨ c = 62 ∨ c = 34) ∧ Vw.special c = true ∨ (32 ≤ c.toNat ∧ c.toNat ≠ 127 ∧ c.toNat ≠ 38 ∧ c.toNat ≠ 60 ∧ c.toNat ≠ 62 ∧ c.toNat ≠ 34) ∧ Vw.special c = false := by
  have := Vw.byte_all (p := fun c => decide ((c.toNat < 32 ∨ c = 127 ∨ c = 38 ∨ c = 60 ∨ c = 62 ∨ c = 34) ∧ Vw.special c = true ∨ (32 ≤ c.toNat ∧ c.toNat ≠ 127 ∧ c.toNat ≠ 38 ∧ c.toNat ≠ 60 ∧ c.toNat ≠ 62 ∧ c.toNat ≠ 34) ∧ Vw.special c = false)) (by decide +kernel) c
  simpa using this
theorem neb (c : UInt8) (n : Nat) (h : c.toNat ≠ n) : ¬ (((c.toNat : Nat) : Int) = (n : Int)) := by
  omega
theorem eqb (c : UInt8) (n : Nat) (h : c.toNat ≠ n) : ¬ (((c.toNat : Nat) : Int) = (n : Int)) := by
  omega

theorem nebB (c : UInt8) (n : Nat) (h : c.toNat ≠ n) : (((c.toNat : Nat) : Int) != (n : Int)) = true := by
  simp only [bne_iff_ne, ne_eq]; omega
theorem eqbB (c : UInt8) (n : Nat) (h : c.toNat ≠ n) : (((c.toNat : Nat) : Int) == (n : Int)) = false := by
  simp only [beq_eq_false_iff_ne, ne_eq]; omega
theorem bt {w w1 w2 : World} (h : Below w.heap.size w w1) (h2 : Below w1.heap.size w1 w2) : Below w.heap.size w w2 := h.trans (h2.mono h.size)
theorem law_short (s : ByteArray) (hs : ¬ s.size > 1500) (w : World) (hsm : Calls Tryd.prog 4 #[] w fun e w' => e = .returned (.bool true) ∧ Below w.heap.size w w') :
    Calls Tryd.prog 3 #[.string s] w fun e w' => e = .returned (.bool true) ∧ Below w.heap.size w w' := by
  have HSM := Lib.hid hsm
  clear hsm
  have hlen : s.data.toList.length = s.size := by simp
  have hl6 := Vw.esc_length6 s.data.toList
  obtain ⟨ee, hee⟩ : ∃ ee : ByteArray, (⟨(Vw.esc s.data.toList).toArray⟩ : ByteArray) = ee := ⟨_, rfl⟩
  have heel : ee.data.toList = Vw.esc s.data.toList := by rw [← hee]
  have hesz : ee.size ≤ 9000 := by
    have h1 : ee.data.toList.length = ee.size := by simp
    rw [heel] at h1
    omega
  have hE := escape_any s (by omega)
  rw [hee] at hE
  have hU := unescape_any ee (by omega)
  rw [heel, Vw.unesc_esc] at hU
  rw [show (⟨(s.data.toList, true).1.toArray⟩ : ByteArray) = s by simp] at hU
  have hsafe : ∀ k (h : k < ee.size), 32 ≤ (ee[k]'h).toNat ∧ (ee[k]'h).toNat ≠ 127 ∧ (ee[k]'h).toNat ≠ 60 ∧ (ee[k]'h).toNat ≠ 62 ∧ (ee[k]'h).toNat ≠ 34 := by
    intro k h
    have hm : ee[k]'h ∈ Vw.esc s.data.toList := by
      rw [← heel]
      have hl : k < ee.data.toList.length := by simpa using h
      have := List.getElem_mem hl
      rwa [Array.getElem_toList] at this
    obtain ⟨a, b, c, d, f⟩ := Vw.esc_safe _ _ hm
    refine ⟨by simpa [UInt8.le_iff_toNat_le] using a, ?_, ?_, ?_, ?_⟩
    · intro e; exact b (UInt8.toNat.inj e)
    · intro e; exact c (UInt8.toNat.inj e)
    · intro e; exact d (UInt8.toNat.inj e)
    · intro e; exact f (UInt8.toNat.inj e)
  have HE := Lib.hid hE
  have HU := Lib.hid hU
  have HS := Lib.hid hsafe
  have HL := Lib.hid heel
  clear hE hU hsafe heel hee hl6 hlen
  have hs' : (s.size : Int) ≤ 1500 := by omega
  go_enter Tryd.func3, Tryd.ntmps3
  go_wp2_with (first
    | (go_at_call 4; refine HSM.out.mono ?_; rintro e w1 ⟨rfl, hb1⟩)
    | (go_at_call 5; refine (HE.out _).mono ?_; rintro e w2 ⟨rfl, hb2⟩)
    | (go_at_call 6; refine (HU.out _).mono ?_; rintro e w3 ⟨rfl, hb3⟩))
  go_loop [8, 7] (fun i p => ∃ k : Nat, k ≤ s.size ∧ i = .int .i64 k ∧ p = .bool (pl s k)) (fun i _ => s.size - (intOf i).toNat)
  case atStart => exact ⟨0, Nat.zero_le _, rfl, by simp [pl]⟩
  case round =>
    obtain ⟨k, hk, rfl, rfl⟩ := hrel
    by_cases hlt : k < s.size
    · have hk0 : (0 : Int) ≤ (k : Int) := by omega
      have hk1 : (k : Int) < (s.size : Int) := by omega
      have hm1 : (s.size : Int) ≤ 9223372036854775807 := by omega
      have hsucc := Lib.hid (pl_succ s k hlt)
      generalize hc : s[k]'hlt = c at *
      cases hp : pl s k with
      | false =>
        rw [hp] at hsucc
        go_wp2
        go_round
        case rel => exact ⟨k + 1, by omega, by go_num, by rw [hsucc.out]; rfl⟩
        case measure => simp [intOf]; omega
      | true =>
        rw [hp] at hsucc
        rcases special_cases c with ⟨h, hsp⟩ | ⟨⟨h0, h1, h2, h3, h4, h5⟩, hsp⟩
        · rw [hsp] at hsucc
          rcases h with h | h
          · have h' : ((c.toNat : Nat) : Int) < 32 := by omega
            go_wp2
            go_round
            case rel => exact ⟨k + 1, by omega, by go_num, by rw [hsucc.out]; rfl⟩
            case measure => simp [intOf]; omega
          · rcases h with rfl | rfl | rfl | rfl | rfl
            all_goals
              go_wp2
              go_round
              case rel => exact ⟨k + 1, by omega, by go_num, by rw [hsucc.out]; rfl⟩
              case measure => simp [intOf]; omega
        · rw [hsp] at hsucc
          have g0 : (32 : Int) ≤ ((c.toNat : Nat) : Int) := by omega
          have g1 : ¬ (((c.toNat : Nat) : Int) = 127) := neb c 127 h1
          have b1 : (((c.toNat : Nat) : Int) != 127) = true := nebB c 127 h1
          have g2 : ¬ (((c.toNat : Nat) : Int) = 38) := neb c 38 h2
          have b2 : (((c.toNat : Nat) : Int) != 38) = true := nebB c 38 h2
          have g3 : ¬ (((c.toNat : Nat) : Int) = 60) := neb c 60 h3
          have b3 : (((c.toNat : Nat) : Int) != 60) = true := nebB c 60 h3
          have g4 : ¬ (((c.toNat : Nat) : Int) = 62) := neb c 62 h4
          have b4 : (((c.toNat : Nat) : Int) != 62) = true := nebB c 62 h4
          have g5 : ¬ (((c.toNat : Nat) : Int) = 34) := neb c 34 h5
          have b5 : (((c.toNat : Nat) : Int) != 34) = true := nebB c 34 h5
          clear h1 h2 h3 h4 h5
          go_wp2
          go_round
          case rel => exact ⟨k + 1, by omega, by go_num, by rw [hsucc.out]; first | rfl | (simp only [b1, b2, b3, b4, b5]; rfl)⟩
          case measure => simp [intOf]; omega
    · have : k = s.size := by omega
      subst this
      go_wp2
      go_loop [9] (fun i => ∃ k : Nat, k ≤ ee.size ∧ i = .int .i64 k) (fun i => ee.size - (intOf i).toNat)
      case atStart => exact ⟨0, Nat.zero_le _, rfl⟩
      case round =>
        obtain ⟨k, hk, rfl⟩ := hrel
        by_cases hlt : k < ee.size
        · have hk0 : (0 : Int) ≤ (k : Int) := by omega
          have hk1 : (k : Int) < (ee.size : Int) := by omega
          have hm1 : (ee.size : Int) ≤ 9223372036854775807 := by omega
          obtain ⟨h0, h1, h2, h3, h4⟩ := HS.out k hlt
          generalize hc : ee[k]'hlt = c at *
          have g0 : (32 : Int) ≤ ((c.toNat : Nat) : Int) := by omega
          have g1 : ¬ (((c.toNat : Nat) : Int) = 127) := eqb c 127 h1
          have b1 : (((c.toNat : Nat) : Int) == 127) = false := eqbB c 127 h1
          have g3 : ¬ (((c.toNat : Nat) : Int) = 60) := eqb c 60 h2
          have b3 : (((c.toNat : Nat) : Int) == 60) = false := eqbB c 60 h2
          have g4 : ¬ (((c.toNat : Nat) : Int) = 62) := eqb c 62 h3
          have b4 : (((c.toNat : Nat) : Int) == 62) = false := eqbB c 62 h3
          have g5 : ¬ (((c.toNat : Nat) : Int) = 34) := eqb c 34 h4
          have b5 : (((c.toNat : Nat) : Int) == 34) = false := eqbB c 34 h4
          clear h1 h2 h3 h4
          go_wp2
          go_round
          case rel => exact ⟨k + 1, by omega, by go_num⟩
          case measure => simp [intOf]; omega
        · have : k = ee.size := by omega
          subst this
          by_cases hany : s.data.toList.any Vw.special = false
          · have hun : Vw.unesc s.data.toList = (s.data.toList, true) := by rw [Vw.unesc, if_pos hany]
            have hes := Vw.esc_plain _ hany
            rw [← HL.out] at hes
            have hse : ee = s := by cases ee; cases s; simp only at hes; congr 1; exact Array.toList_inj.1 hes
            have hU2 := unescape_any s (by omega)
            rw [hun, show (⟨(s.data.toList, true).1.toArray⟩ : ByteArray) = s by simp] at hU2
            have HU2 := Lib.hid hU2
            clear hU2 hun hes hany
            subst hse
            go_wp2_with (first
              | (go_at_call 6; refine (HU2.out _).mono ?_; rintro e w4 ⟨rfl, hb4⟩)
              | (go_at_call 5; refine (HE.out _).mono ?_; rintro e w5 ⟨rfl, hb5⟩))
            all_goals
              go_ret
              exact ⟨rfl, bt (bt (bt (bt hb1 hb2) hb3) hb4) hb5⟩
          · have hpl : pl s s.size = false := by
              unfold pl
              rw [List.take_of_length_le (by simp)]
              simp only [Bool.not_eq_false] at hany
              rw [List.all_eq_false]
              obtain ⟨x, hx, hs⟩ := List.any_eq_true.1 hany
              exact ⟨x, hx, by simp [hs]⟩
            have hU2 := unescape_any s (by omega)
            cases hok : (Vw.unesc s.data.toList).2 with
            | true =>
              have hes := Vw.esc_unesc _ hok
              have hul : (Vw.unesc s.data.toList).1.length ≤ s.data.toList.length := by
                have := Vw.esc_length (Vw.unesc s.data.toList).1
                rw [hes] at this
                exact this
              rw [hok] at hU2
              generalize (Vw.unesc s.data.toList).1 = u at *
              have hul2 : u.length ≤ s.size := by simpa using hul
              have hE2 := escape_any ⟨u.toArray⟩ (by show u.toArray.size ≤ _; rw [List.size_toArray]; omega)
              rw [show (⟨(Vw.esc (⟨u.toArray⟩ : ByteArray).data.toList).toArray⟩ : ByteArray) = s by simp [hes]] at hE2
              have HU2 := Lib.hid hU2
              have HE2 := Lib.hid hE2
              clear hU2 hE2 hes hul hok hany
              go_wp2_with (first
                | (go_at_call 6; refine (HU2.out _).mono ?_; rintro e w4 ⟨rfl, hb4⟩)
                | (go_at_call 5; refine (HE2.out _).mono ?_; rintro e w5 ⟨rfl, hb5⟩))
              go_ret
              exact ⟨rfl, bt (bt (bt (bt hb1 hb2) hb3) hb4) hb5⟩
            | false =>
              rw [hok, Vw.unesc_no _ hok] at hU2
              have HU2 := Lib.hid hU2
              clear hU2 hok hany
              go_wp2_with (first
                | (go_at_call 6; refine (HU2.out _).mono ?_; rintro e w4 ⟨rfl, hb4⟩))
              go_ret
              exact ⟨rfl, bt (bt (bt hb1 hb2) hb3) hb4⟩

theorem law_long (s : ByteArray) (hs : s.size > 1500) (w : World) (hsm : Calls Tryd.prog 4 #[] w fun e w' => e = .returned (.bool true) ∧ Below w.heap.size w w') :
    Calls Tryd.prog 3 #[.string s] w fun e w' => e = .returned (.bool true) ∧ Below w.heap.size w w' := by
  have HSM := Lib.hid hsm
  clear hsm
  have hs' : (1500 : Int) < (s.size : Int) := by omega
  go_enter Tryd.func3, Tryd.ntmps3
  go_wp2_with (go_at_call 4; refine HSM.out.mono ?_; rintro e w1 ⟨rfl, hb1⟩)
  go_ret
  exact ⟨rfl, hb1⟩

/-- THE LAW's WALK, small's truth given. -/
theorem law_any (s : ByteArray) (w : World) (hsm : Calls Tryd.prog 4 #[] w fun e w' => e = .returned (.bool true) ∧ Below w.heap.size w w') :
    Calls Tryd.prog 3 #[.string s] w fun e w' => e = .returned (.bool true) ∧ Below w.heap.size w w' := by
  by_cases hs : s.size > 1500
  · exact law_long s hs w hsm
  · exact law_short s hs w hsm
end Go.Proofs.YteipljggjegpoaaDoor
