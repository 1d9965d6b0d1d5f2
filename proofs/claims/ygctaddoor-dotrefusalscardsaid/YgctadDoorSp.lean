/-
  PLAIN: the fields of a float64 word and the number that it stands for.
-/
import Derived.Test.YgctadDoorFl
import Derived.Test.YgctadDoorBr
namespace Rn
open Go.Fl

theorem fin_iff (x : Nat) : fin x = decide (fld x ≠ 2047) := by
  unfold fin fld; rw [Bool.eq_iff_iff]; simp; omega
theorem fin_cls (x : Nat) : decide ((spCls x : Int) ≤ 1) = fin x := by
  rw [fin_iff]; unfold spCls; rw [Bool.eq_iff_iff]
  by_cases a : fld x = 2047 <;> by_cases b : fld x = 0 <;> by_cases c : frc x = 0 <;> simp [a, b, c]
theorem fin_not_nan {x : Nat} (h : fin x = true) : isNaN x = false := by
  rw [fin_iff] at h; rw [isNaN_iff]; simp at h ⊢; intro a; exact absurd a h
theorem cls_zero (x : Nat) : spCls x = 0 ↔ (fin x = true ∧ vz x = 0) := by
  have hv : vz x = 0 ↔ mg (x % 9223372036854775808) = 0 := by have := vz_abs x; omega
  rw [hv, fin_iff]
  have hp : ∀ k, 0 < 2 ^ k := fun k => Nat.two_pow_pos k
  unfold spCls
  have hmz : mg (x % 9223372036854775808) = 0 ↔ (fld x = 0 ∧ frc x = 0) := by
    unfold mg fld frc
    by_cases c : x % 9223372036854775808 < 4503599627370496
    · rw [if_pos c]; omega
    · rw [if_neg c, Nat.mul_eq_zero]
      have := hp (x % 9223372036854775808 / 4503599627370496 - 1)
      omega
  rw [hmz]
  by_cases a : fld x = 2047 <;> by_cases b : fld x = 0 <;> by_cases c : frc x = 0 <;> simp [a, b, c]
theorem spMan_mg (x : Nat) (h : fin x = true) : mg (x % 9223372036854775808) = spMan x * 2 ^ (spExp x + 1074).toNat := by
  rw [fin_iff] at h; simp only [decide_eq_true_eq] at h
  unfold spMan spExp
  rw [if_neg h, if_neg h]
  unfold mg
  by_cases c : x % 9223372036854775808 < 4503599627370496
  · rw [if_pos c]
    have h0 : fld x = 0 := by unfold fld; omega
    have h1 : frc x = x % 9223372036854775808 := by unfold frc; omega
    rw [if_pos h0, if_pos h0]
    by_cases z : frc x = 0
    · rw [if_pos z, z, Nat.zero_mul, ← h1, z]
    · rw [if_neg z, show ((-1074 : Int) + 1074).toNat = 0 by decide, Nat.pow_zero, Nat.mul_one, h1]
  · rw [if_neg c]
    have h0 : fld x ≠ 0 := by unfold fld; omega
    have h1 : frc x = x % 9223372036854775808 % 4503599627370496 := by unfold frc; omega
    have h2 : ((fld x : Int) - 1075 + 1074).toNat = x % 9223372036854775808 / 4503599627370496 - 1 := by unfold fld at *; omega
    rw [if_neg h0, if_neg h0, h2, h1, Nat.add_comm]
theorem spMan_lt (x : Nat) : spMan x < 9007199254740992 := by
  have := frc_lt x
  unfold spMan; split
  · decide
  · split <;> omega
theorem spExp_bd (x : Nat) : -1074 ≤ spExp x ∧ spExp x ≤ 971 := by
  have := fld_lt x
  unfold spExp; split
  · omega
  · split
    · split <;> omega
    · omega
theorem spNeg_sg (x : Nat) (hx : x < 18446744073709551616) (h : fin x = true) : spNeg x = sg x := by
  unfold spNeg sg; rw [fin_not_nan h, Bool.eq_iff_iff]; simp; omega
theorem vz_sp (x : Nat) (hx : x < 18446744073709551616) (h : fin x = true) : vz x = if spNeg x then -((spMan x * 2 ^ (spExp x + 1074).toNat : Nat) : Int) else ((spMan x * 2 ^ (spExp x + 1074).toNat : Nat) : Int) := by
  unfold vz; rw [spNeg_sg x hx h, spMan_mg x h]
theorem spMan_zero (x : Nat) (h : fin x = true) (hc : spCls x ≠ 0) : spMan x ≠ 0 := by
  rw [fin_iff] at h; simp only [decide_eq_true_eq] at h
  unfold spMan spCls at *
  rw [if_neg h] at hc ⊢
  by_cases a : fld x = 0
  · rw [if_pos a] at hc ⊢
    by_cases b : frc x = 0
    · rw [if_pos b] at hc; exact absurd rfl hc
    · exact b
  · rw [if_neg a]; omega

/-- The lowest and the highest 1 among the first 'k' digits of 'm'. -/
def Ends (m k : Nat) (l h : Int) : Prop :=
  (m % 2 ^ k = 0 ∧ l = -1 ∧ h = -1) ∨ ∃ L H : Nat, l = L ∧ h = H ∧ H < k ∧ 2 ^ H ≤ m % 2 ^ k ∧ m % 2 ^ k < 2 ^ (H + 1) ∧ L ≤ H ∧ 2 ^ L ∣ m % 2 ^ k ∧ m / 2 ^ L % 2 = 1
theorem mod_succ (m k : Nat) : m % 2 ^ (k + 1) = m % 2 ^ k + m / 2 ^ k % 2 * 2 ^ k := by
  rw [Nat.pow_succ, Nat.mod_mul, Nat.mul_comm (2 ^ k)]
theorem Ends.start (m : Nat) : Ends m 0 (-1) (-1) := .inl ⟨by rw [Nat.pow_zero, Nat.mod_one], rfl, rfl⟩
theorem Ends.zero {m k : Nat} {l h : Int} (e : Ends m k l h) (hb : m / 2 ^ k % 2 = 0) : Ends m (k + 1) l h := by
  unfold Ends at *
  rw [mod_succ, hb, Nat.zero_mul, Nat.add_zero]
  rcases e with e | ⟨L, H, a, b, c, d⟩
  · exact .inl e
  · exact .inr ⟨L, H, a, b, by omega, d⟩
theorem Ends.one {m k : Nat} {l h : Int} (e : Ends m k l h) (hb : m / 2 ^ k % 2 = 1) : Ends m (k + 1) (if l < 0 then k else l) k := by
  have hp := Nat.two_pow_pos k
  have hm := Nat.mod_lt m hp
  have hpk : 2 ^ (k + 1) = 2 * 2 ^ k := by rw [Nat.pow_succ, Nat.mul_comm]
  unfold Ends at *
  rw [mod_succ, hb, Nat.one_mul]
  rcases e with ⟨e1, e2, e3⟩ | ⟨L, H, a, b, c, d, d2, d3, d4, d5⟩
  · rw [if_pos (by omega)]
    exact .inr ⟨k, k, rfl, rfl, by omega, by omega, by omega, Nat.le_refl _, by rw [e1, Nat.zero_add]; exact Nat.dvd_refl _, hb⟩
  · rw [if_neg (by omega)]
    exact .inr ⟨L, k, a, rfl, by omega, by omega, by omega, by omega, Nat.dvd_add d4 (Nat.pow_dvd_pow 2 (by omega)), d5⟩
/-- What the whole word says. -/
theorem Ends.full {m : Nat} {l h : Int} (e : Ends m 64 l h) (hm : m < 2 ^ 64) (h0 : m ≠ 0) : ∃ H : Nat, h = H ∧ H < 64 ∧ 2 ^ H ≤ m ∧ m < 2 ^ (H + 1) ∧ 0 ≤ l ∧ (l = h ↔ m = 2 ^ H) := by
  unfold Ends at e
  rw [Nat.mod_eq_of_lt hm] at e
  rcases e with ⟨e1, _⟩ | ⟨L, H, a, b, c, d, d2, d3, d4, d5⟩
  · exact absurd e1 h0
  · refine ⟨H, b, c, d, d2, by omega, ?_⟩
    rw [a, b]
    constructor
    · intro e
      have e' : L = H := by omega
      subst e'
      obtain ⟨t, ht⟩ := d4
      have hp := Nat.two_pow_pos L
      rw [Nat.pow_succ] at d2
      rw [ht] at d d2 ⊢
      have t1 : t < 2 := Nat.lt_of_mul_lt_mul_left d2
      have t0 : t ≠ 0 := by intro h; subst h; omega
      rw [show t = 1 by omega, Nat.mul_one]
    · intro e
      rw [e] at d5
      by_cases c : L = H
      · omega
      · exfalso
        rw [Nat.pow_div d3 (by decide)] at d5
        have : 2 ∣ 2 ^ (H - L) := ⟨2 ^ (H - L - 1), by rw [← Nat.pow_succ']; congr 1; omega⟩
        omega

end Rn
