import Derived.Test.YgctadW19
namespace Go.Proofs.Ygctad
open Go.RowKit Go.Acc Rn
set_option linter.unusedSimpArgs false
set_option linter.unusedVariables false

def cmp (v u : Int) : Int := if v < u then -1 else if v = u then 0 else 1

theorem xor_top {x : Int} (hx : Word x) : bits .xor .u64 x 9223372036854775808 = (x + 9223372036854775808) % 18446744073709551616 := by
  obtain ⟨a, rfl⟩ := Int.eq_ofNat_of_zero_le hx.1
  have h2 := hx.2
  have e := u64_xor_nat a 9223372036854775808 (by omega) (by decide)
  have e2 : a ^^^ 9223372036854775808 = (a + 9223372036854775808) % 18446744073709551616 := by
    have h3 : a < 2 ^ 64 := by omega
    apply Nat.eq_of_testBit_eq
    intro i
    rw [Nat.testBit_xor]
    by_cases hlt : a < 9223372036854775808
    · have e3 : (a + 9223372036854775808) % 18446744073709551616 = 2 ^ 63 + a := by omega
      have e4 : (9223372036854775808 : Nat) = 2 ^ 63 := by decide
      rw [e3, e4, Nat.testBit_two_pow]
      by_cases hi : 63 = i
      · subst hi
        rw [Nat.testBit_two_pow_add_eq, Nat.testBit_lt_two_pow (by omega)]; rfl
      · rw [decide_eq_false hi, Bool.xor_false]
        by_cases hi2 : i < 63
        · rw [Nat.testBit_two_pow_add_gt hi2]
        · have : a < 2 ^ i := Nat.lt_of_lt_of_le hlt (by rw [e4]; exact Nat.pow_le_pow_right (by decide) (by omega))
          rw [Nat.testBit_lt_two_pow this, Nat.testBit_lt_two_pow]
          have h5 : 2 ^ 64 ≤ 2 ^ i := Nat.pow_le_pow_right (by decide) (by omega)
          omega
    · obtain ⟨b, rfl⟩ : ∃ b, a = 2 ^ 63 + b := ⟨a - 9223372036854775808, by omega⟩
      have e3 : (2 ^ 63 + b + 9223372036854775808) % 18446744073709551616 = b := by omega
      have e4 : (9223372036854775808 : Nat) = 2 ^ 63 := by decide
      rw [e3, e4, Nat.testBit_two_pow]
      by_cases hi : 63 = i
      · subst hi
        rw [Nat.testBit_two_pow_add_eq, Nat.testBit_lt_two_pow (by omega)]; rfl
      · rw [decide_eq_false hi, Bool.xor_false]
        by_cases hi2 : i < 63
        · rw [Nat.testBit_two_pow_add_gt hi2]
        · have hb : b < 2 ^ 63 := by omega
          have h6 : 2 ^ 63 ≤ 2 ^ i := Nat.pow_le_pow_right (by decide) (by omega)
          have h5 : 2 ^ 64 ≤ 2 ^ i := Nat.pow_le_pow_right (by decide) (by omega)
          rw [Nat.testBit_lt_two_pow (by omega), Nat.testBit_lt_two_pow (by omega)]
  rw [e2] at e
  simpa using e

set_option maxHeartbeats 2000000 in
theorem cmp_any (B C : Nat) (v u : Int) (hv : Sgd v) (hu : Sgd u) (w : World) (hA : AccAt w B (dig v)) (hC : AccAt w C (dig u)) :
    Calls Tadg.prog 25 #[.pointer (some ⟨B, 0, none⟩), .pointer (some ⟨C, 0, none⟩)] w fun e w' => e = .returned (.int .i8 (cmp v u)) ∧ ∃ n, w' = w.drewN n := by
  have hc1 := hA.cell 67 (by omega)
  have hc2 := hC.cell 67 (by omega)
  have x1 : bits .xor .u64 (dig v 67) 9223372036854775808 = cw v 67 := by rw [cw_top]; exact xor_top (dig_word _ _)
  have x2 : bits .xor .u64 (dig u 67) 9223372036854775808 = cw u 67 := by rw [cw_top]; exact xor_top (dig_word _ _)
  go_enter Tadg.func25, Tadg.ntmps25
  go_wp2
  go_quiet (fail)
  go_wp2
  go_loopw [5, 6, 7] (fun x y i w1 => ∃ k n : Nat, k ≤ 68 ∧ i = .int .i64 ((k : Int) - 1) ∧ w1 = w.drewN n ∧ (k = 68 → x = .int .u64 (cw v 67) ∧ y = .int .u64 (cw u 67)) ∧ ∀ j, k ≤ j → j < 68 → cw v j = cw u j) (fun _ _ i _ => (intOf i + 1).toNat)
  case atStart => exact ⟨68, _, by omega, rfl, rfl, fun _ => ⟨rfl, rfl⟩, fun j h1 h2 => by omega⟩
  case round =>
    obtain ⟨k, n, hk, rfl, rfl, hxy, he⟩ := hrel
    have He : Hid (∀ j, k ≤ j → j < 68 → cw v j = cw u j) := he
    clear he
    by_cases hk0 : k = 0
    · subst hk0
      have hfin : cmp v u = 0 := by
        have := cw_eq hv hu (fun j hj => He.out j (Nat.zero_le _) hj)
        unfold cmp; rw [if_neg (by omega), if_pos this]
      have hneg : ¬ (0 : Int) ≤ ((0 : Nat) : Int) - 1 := by omega
      go_wp2
      go_ret
      exact ⟨rfl, _, rfl⟩
    · obtain ⟨d, hd⟩ : ∃ d, k = d + 1 := ⟨k - 1, by omega⟩
      subst hd
      have ei : ((d + 1 : Nat) : Int) - 1 = d := by omega
      rw [ei]
      have d0 : (0 : Int) ≤ (d : Int) := by omega
      have Hlt : Hid (cw v d < cw u d → cmp v u = -1) := fun h => by unfold cmp; rw [if_pos (cw_lt hv hu (by omega) (fun j h1 h2 => He.out j (by omega) h2) h)]
      have Hgt : Hid (cw u d < cw v d → cmp v u = 1) := fun h => by
        have := cw_lt hu hv (by omega) (fun j h1 h2 => (He.out j (by omega) h2).symm) h
        unfold cmp; rw [if_neg (by omega), if_neg (by omega)]
      by_cases h67 : d = 67
      · subst h67
        obtain ⟨rfl, rfl⟩ := hxy rfl
        have hb : ¬ ((67 : Nat) : Int) < 67 := by omega
        clear hxy x1 x2
        generalize hX' : cw v 67 = X at *
        generalize hY' : cw u 67 = Y at *
        have hX : Hid (cw v 67 = X) := hX'
        have hY : Hid (cw u 67 = Y) := hY'
        clear hX' hY'
        by_cases hl : X < Y
        · go_wp2
          go_ret
          exact ⟨by rw [Hlt.out hl]; rfl, _, rfl⟩
        · by_cases hg : Y < X
          · go_wp2
            go_ret
            exact ⟨by rw [Hgt.out hg]; rfl, _, rfl⟩
          · have heq : Hid (X = Y) := by unfold Hid; omega
            go_wp2
            go_roundw
            case rel => exact ⟨67, n, by omega, by go_num, rfl, fun h => by omega, fun j h1 h2 => by
              have ej : j = 67 := by omega
              subst ej; rw [hX.out, hY.out]; exact heq.out⟩
            case measure => simp [intOf]
      · have d67 : d < 67 := by omega
        have d67' : (d : Int) < 67 := by omega
        have d68' : (d : Int) < 68 := by omega
        have e1 := hA.cell d (by omega)
        have e2 := hC.cell d (by omega)
        rw [← cw_low v d d67] at e1
        rw [← cw_low u d d67] at e2
        have hX : Hid (cw v d = cw v d) := rfl
        clear hxy x1 x2 hc1 hc2
        generalize hX' : cw v d = X at *
        generalize hY' : cw u d = Y at *
        have HX : Hid (cw v d = X) := hX'
        have HY : Hid (cw u d = Y) := hY'
        clear hX' hY' hX
        by_cases hl : X < Y
        · go_wp2
          go_quiet (fail)
          go_wp2
          go_ret
          exact ⟨by rw [Hlt.out hl]; rfl, _, rfl⟩
        · by_cases hg : Y < X
          · go_wp2
            go_quiet (fail)
            go_wp2
            go_ret
            exact ⟨by rw [Hgt.out hg]; rfl, _, rfl⟩
          · have heq : Hid (X = Y) := by unfold Hid; omega
            go_wp2
            go_quiet (fail)
            go_wp2
            go_roundw
            case rel => exact ⟨d, _, by omega, by go_num, rfl, fun h => by omega, fun j h1 h2 => by
              by_cases ej : j = d
              · subst ej; rw [HX.out, HY.out]; exact heq.out
              · exact He.out j (by omega) h2⟩
            case measure => simp [intOf]

end Go.Proofs.Ygctad
