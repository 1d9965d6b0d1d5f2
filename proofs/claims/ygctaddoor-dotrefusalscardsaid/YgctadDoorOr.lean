/-
  PLAIN: the order of floats, and the range of package dot.
-/
import Derived.Test.YgctadDoorTq
namespace Rn
open Go Go.Fl Ieee

theorem compare_mul {a b p : Int} (hp : 0 < p) : compare (a * p) (b * p) = compare a b := by
  by_cases h1 : a < b
  · have := Int.mul_lt_mul_of_pos_right h1 hp
    rw [show compare a b = .lt by simp [compare, compareOfLessAndEq, h1], show compare (a * p) (b * p) = .lt by simp [compare, compareOfLessAndEq, this]]
  · by_cases h2 : a = b
    · subst h2
      rw [show compare a a = .eq by simp [compare, compareOfLessAndEq], show compare (a * p) (a * p) = .eq by simp [compare, compareOfLessAndEq]]
    · have h3 : b < a := by omega
      have h4 := Int.mul_lt_mul_of_pos_right h3 hp
      have h5 : ¬ a * p < b * p := by omega
      have h6 : a * p ≠ b * p := by omega
      rw [show compare a b = .gt by simp [compare, compareOfLessAndEq, h1, h2], show compare (a * p) (b * p) = .gt by simp [compare, compareOfLessAndEq, h5, h6]]

theorem order_fin {x y : Nat} (fx : fin x = true) (fy : fin y = true) : FloatKind.f64.format.order x y = some (compare (vz x) (vz y)) := by
  show double.order x y = _
  obtain ⟨m, p, hr, hm⟩ := read_fin x fx
  obtain ⟨n, q, hr', hn⟩ := read_fin y fy
  unfold Format.order
  rw [hr, hr']
  simp only [Datum.order]
  congr 1
  rw [← compare_mul (P_pos (min p q)), show (((p : Int) - 1074) - min ((p : Int) - 1074) ((q : Int) - 1074)).toNat = p - min p q by omega,
    show (((q : Int) - 1074) - min ((p : Int) - 1074) ((q : Int) - 1074)).toNat = q - min p q by omega, signed_eq, signed_eq]
  have h1 : ((m * 2 ^ (p - min p q) : Nat) : Int) * P (min p q) = ((m * 2 ^ p : Nat) : Int) := by
    unfold P; rw [← Int.natCast_mul, Nat.mul_assoc, ← Nat.pow_add, Nat.sub_add_cancel (Nat.min_le_left ..)]
  have h2 : ((n * 2 ^ (q - min p q) : Nat) : Int) * P (min p q) = ((n * 2 ^ q : Nat) : Int) := by
    unfold P; rw [← Int.natCast_mul, Nat.mul_assoc, ← Nat.pow_add, Nat.sub_add_cancel (Nat.min_le_right ..)]
  have e1 : (if sg x = true then -((m * 2 ^ (p - min p q) : Nat) : Int) else ((m * 2 ^ (p - min p q) : Nat) : Int)) * P (min p q) = vz x := by
    unfold vz; rw [← hm]
    split
    · rw [Int.neg_mul, h1]
    · exact h1
  have e2 : (if sg y = true then -((n * 2 ^ (q - min p q) : Nat) : Int) else ((n * 2 ^ (q - min p q) : Nat) : Int)) * P (min p q) = vz y := by
    unfold vz; rw [← hn]
    split
    · rw [Int.neg_mul, h2]
    · exact h2
  rw [e1, e2]

theorem vz_zero : vz 0 = 0 := by decide
theorem fin_zero : fin 0 = true := by decide
theorem fin_lo : fin 2445454597662179328 = true := by decide
theorem fin_hi : fin 6768910239937855488 = true := by decide
theorem mg_pow (r k w : Nat) (hr : r / 4503599627370496 - 1 = k) (hm : r % 4503599627370496 = 0) (hb : ¬ r < 4503599627370496) (hw : 2 ^ k = w) : mg r = 4503599627370496 * w := by
  unfold mg; rw [if_neg hb, hr, hm, hw]
theorem vz_lo : vz 2445454597662179328 = P 594 := by
  have h1 : P 594 = 4503599627370496 * P 542 := by rw [show (594 : Nat) = 52 + 542 by decide, P_add, show P 52 = 4503599627370496 by decide]
  obtain ⟨w, hw⟩ : ∃ w, 2 ^ 542 = w := ⟨_, rfl⟩
  have h2 := mg_pow 2445454597662179328 542 w (by decide) (by decide) (by decide) hw
  have h3 := P_eq 542 w hw
  unfold vz
  rw [if_neg (by decide), show (2445454597662179328 % 9223372036854775808 : Nat) = 2445454597662179328 by decide, h2, h1, h3]
  omega
theorem vz_hi : vz 6768910239937855488 = P 1554 := by
  have h1 : P 1554 = 4503599627370496 * P 1502 := by rw [show (1554 : Nat) = 52 + 1502 by decide, P_add, show P 52 = 4503599627370496 by decide]
  obtain ⟨w, hw⟩ : ∃ w, 2 ^ 1502 = w := ⟨_, rfl⟩
  have h2 := mg_pow 6768910239937855488 1502 w (by decide) (by decide) (by decide) hw
  have h3 := P_eq 1502 w hw
  unfold vz
  rw [if_neg (by decide), show (6768910239937855488 % 9223372036854775808 : Nat) = 6768910239937855488 by decide, h2, h1, h3]
  omega

theorem cmp_lt {a b : Int} : (some (compare a b) == some Ordering.lt) = decide (a < b) := by
  by_cases h : a < b
  · simp [compare, compareOfLessAndEq, h]
  · by_cases h2 : a = b <;> simp [compare, compareOfLessAndEq, h, h2]
theorem cmp_eq {a b : Int} : (some (compare a b) == some Ordering.eq) = decide (a = b) := by
  by_cases h : a < b
  · have : a ≠ b := by omega
    simp [compare, compareOfLessAndEq, h, this]
  · by_cases h2 : a = b <;> simp [compare, compareOfLessAndEq, h, h2]
theorem cmp_gt {a b : Int} : (some (compare a b) == some Ordering.gt) = decide (b < a) := by
  by_cases h : a < b
  · have : ¬ b < a := by omega
    simp [compare, compareOfLessAndEq, h, this]
  · by_cases h2 : a = b
    · subst h2; simp [compare, compareOfLessAndEq]
    · have : b < a := by omega
      simp [compare, compareOfLessAndEq, h, h2, this]

/-- '-x' on words. -/
theorem negFloat_eq (x : Nat) (hx : x < 18446744073709551616) : Go.Op.negFloat .f64 x = (x + 9223372036854775808) % 18446744073709551616 := by
  show x ^^^ 2 ^ 63 = _
  by_cases hlt : x < 9223372036854775808
  · rw [show (x + 9223372036854775808) % 18446744073709551616 = 2 ^ 63 + x by omega]
    apply Nat.eq_of_testBit_eq
    intro i
    rw [Nat.testBit_xor, Nat.testBit_two_pow]
    by_cases hi : 63 = i
    · subst hi
      rw [Nat.testBit_two_pow_add_eq, Nat.testBit_lt_two_pow (by omega)]; rfl
    · rw [decide_eq_false hi, Bool.xor_false]
      by_cases hi2 : i < 63
      · rw [Nat.testBit_two_pow_add_gt hi2]
      · have h5 : 2 ^ 64 ≤ 2 ^ i := Nat.pow_le_pow_right (by decide) (by omega)
        rw [Nat.testBit_lt_two_pow (by omega), Nat.testBit_lt_two_pow (by omega)]
  · obtain ⟨b, rfl⟩ : ∃ b, x = 2 ^ 63 + b := ⟨x - 9223372036854775808, by omega⟩
    rw [show (2 ^ 63 + b + 9223372036854775808) % 18446744073709551616 = b by omega]
    apply Nat.eq_of_testBit_eq
    intro i
    rw [Nat.testBit_xor, Nat.testBit_two_pow]
    by_cases hi : 63 = i
    · subst hi
      rw [Nat.testBit_two_pow_add_eq, Nat.testBit_lt_two_pow (by omega)]; rfl
    · rw [decide_eq_false hi, Bool.xor_false]
      by_cases hi2 : i < 63
      · rw [Nat.testBit_two_pow_add_gt hi2]
      · have h5 : 2 ^ 64 ≤ 2 ^ i := Nat.pow_le_pow_right (by decide) (by omega)
        rw [Nat.testBit_lt_two_pow (by omega), Nat.testBit_lt_two_pow (by omega)]

end Rn
