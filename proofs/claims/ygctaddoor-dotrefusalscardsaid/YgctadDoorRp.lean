/-
  PLAIN: an accumulator's words, its bits, and the rounding of 'Round'. No Go here.
-/
import Derived.Test.YgctadDoorBr
import Derived.Test.YgctadDoorWd
import Derived.Test.YgctadDoorTw
namespace Rn
set_option linter.unusedVariables false

theorem dig_nat (N i : Nat) : dig (N : Int) i = ((N / 2 ^ (64 * i) % 18446744073709551616 : Nat) : Int) := by
  unfold dig P
  rw [← Int.natCast_ediv]
  exact (Int.natCast_emod _ 18446744073709551616).symm

/-- The words below number k are zero. -/
theorem words_zero (N k : Nat) : (∀ j, j < k → dig (N : Int) j = 0) ↔ N % 2 ^ (64 * k) = 0 := by
  induction k with
  | zero => simp [Nat.mod_one]
  | succ k ih =>
    have e : 2 ^ (64 * (k + 1)) = 2 ^ (64 * k) * 18446744073709551616 := by rw [Nat.mul_add, Nat.pow_add]
    have hp := Nat.two_pow_pos (64 * k)
    rw [e, Nat.mod_mul]
    constructor
    · intro h
      have h1 := ih.1 (fun j hj => h j (by omega))
      have h2 := h k (by omega)
      rw [dig_nat] at h2
      rw [h1, Int.natCast_eq_zero.1 h2]; rfl
    · intro h j hj
      have h1 : N % 2 ^ (64 * k) = 0 := by omega
      by_cases e : j = k
      · subst e
        have h2 : 2 ^ (64 * j) * (N / 2 ^ (64 * j) % 18446744073709551616) = 0 := by omega
        rw [dig_nat]
        rcases Nat.mul_eq_zero.1 h2 with h3 | h3
        · omega
        · rw [h3]; rfl
      · exact ih.2 h1 j (by omega)

/-- The words from number k on are zero. -/
theorem words_high {N k m : Nat} (hN : N < 2 ^ (64 * m)) (hk : k ≤ m) (h : ∀ j, k ≤ j → j < m → dig (N : Int) j = 0) : N < 2 ^ (64 * k) := by
  obtain ⟨d, hd⟩ : ∃ d, k + d = m := ⟨m - k, by omega⟩
  induction d generalizing k with
  | zero => obtain rfl : k = m := by omega
            exact hN
  | succ d ih =>
    have h1 := ih (k := k + 1) (by omega) (fun j h1 h2 => h j (by omega) h2) (by omega)
    have h2 := h k (Nat.le_refl _) (by omega)
    rw [dig_nat] at h2
    have h3 := Int.natCast_eq_zero.1 h2
    have e : 2 ^ (64 * (k + 1)) = 2 ^ (64 * k) * 18446744073709551616 := by rw [Nat.mul_add, Nat.pow_add]
    rw [e] at h1
    have h4 : N / 2 ^ (64 * k) < 18446744073709551616 := Nat.div_lt_of_lt_mul h1
    have hp := Nat.two_pow_pos (64 * k)
    rw [Nat.mod_eq_of_lt h4] at h3
    rcases Nat.div_eq_zero_iff.1 h3 with h5 | h5
    · omega
    · exact h5

/-- The word where the top lies. -/
theorem top_word {N k : Nat} (h : N < 2 ^ (64 * (k + 1))) : dig (N : Int) k = ((N / 2 ^ (64 * k) : Nat) : Int) := by
  have e : 2 ^ (64 * (k + 1)) = 2 ^ (64 * k) * 18446744073709551616 := by rw [Nat.mul_add, Nat.pow_add]
  rw [e] at h
  rw [dig_nat, Nat.mod_eq_of_lt (Nat.div_lt_of_lt_mul h)]

theorem split_word (M s : Nat) (hs : s < 64) : M / 2 ^ s = M % 18446744073709551616 / 2 ^ s + M / 18446744073709551616 * 2 ^ (64 - s) := by
  have e : 18446744073709551616 = 2 ^ (64 - s) * 2 ^ s := by rw [← Nat.pow_add, show 64 - s + s = 64 by omega]
  have h : M = M % 18446744073709551616 + M / 18446744073709551616 * 2 ^ (64 - s) * 2 ^ s := by
    rw [Nat.mul_assoc, ← e]; omega
  conv => lhs; rw [h]
  rw [Nat.add_mul_div_right _ _ (Nat.two_pow_pos s)]

theorem field_nat (N W s : Nat) (hs : s < 64) :
    (N / 2 ^ (64 * W) % 18446744073709551616 / 2 ^ s + (N / 2 ^ (64 * (W + 1)) % 18446744073709551616) * 2 ^ (64 - s) % 18446744073709551616) % 9007199254740992 = N / 2 ^ (64 * W + s) % 9007199254740992 := by
  have e1 : N / 2 ^ (64 * (W + 1)) = N / 2 ^ (64 * W) / 18446744073709551616 := by rw [Nat.mul_add, Nat.pow_add, Nat.div_div_eq_div_mul]
  have e2 : N / 2 ^ (64 * W + s) = N / 2 ^ (64 * W) / 2 ^ s := by rw [Nat.pow_add, Nat.div_div_eq_div_mul]
  rw [e1, e2]
  generalize N / 2 ^ (64 * W) = M
  rw [split_word M s hs]
  have e3 : (M / 18446744073709551616 % 18446744073709551616) * 2 ^ (64 - s) % 18446744073709551616 = M / 18446744073709551616 * 2 ^ (64 - s) % 18446744073709551616 := by
    rw [Nat.mul_mod, Nat.mod_mod, ← Nat.mul_mod]
  rw [e3]
  generalize M / 18446744073709551616 * 2 ^ (64 - s) = B
  omega

theorem bit_nat (N W s : Nat) (hs : s < 64) : N / 2 ^ (64 * W) % 18446744073709551616 / 2 ^ s % 2 = N / 2 ^ (64 * W + s) % 2 := by
  have e2 : N / 2 ^ (64 * W + s) = N / 2 ^ (64 * W) / 2 ^ s := by rw [Nat.pow_add, Nat.div_div_eq_div_mul]
  rw [e2]
  generalize N / 2 ^ (64 * W) = M
  rw [split_word M s hs, show 64 - s = (63 - s) + 1 by omega, Nat.pow_succ, ← Nat.mul_assoc]
  omega

theorem below_nat (N W s : Nat) (hs : s < 64) (h0 : N % 2 ^ (64 * W) = 0) : N / 2 ^ (64 * W) % 18446744073709551616 * 2 ^ (64 - s) % 18446744073709551616 = 0 ↔ N % 2 ^ (64 * W + s) = 0 := by
  have e : 18446744073709551616 = 2 ^ s * 2 ^ (64 - s) := by rw [← Nat.pow_add, show s + (64 - s) = 64 by omega]
  have hp := Nat.two_pow_pos (64 - s)
  have hq := Nat.two_pow_pos (64 * W)
  rw [Nat.pow_add, Nat.mod_mul, h0, Nat.zero_add]
  generalize N / 2 ^ (64 * W) = M
  have e4 : M % 18446744073709551616 * 2 ^ (64 - s) % 18446744073709551616 = M % 2 ^ s * 2 ^ (64 - s) := by
    conv => lhs; rw [e, Nat.mul_mod_mul_right]
    rw [Nat.mod_mod_of_dvd _ ⟨2 ^ (64 - s), rfl⟩]
  rw [e4, Nat.mul_eq_zero, Nat.mul_eq_zero]
  omega

theorem cutE_bits (N L : Nat) : cutE N (L + 1) = N / 2 ^ (L + 1) + if N / 2 ^ L % 2 = 1 ∧ (N / 2 ^ (L + 1) % 2 = 1 ∨ N % 2 ^ L ≠ 0) then 1 else 0 := by
  unfold cutE
  congr 1
  have e : 2 ^ (L + 1) = 2 ^ L * 2 := Nat.pow_succ ..
  have hm : N % 2 ^ (L + 1) = N % 2 ^ L + 2 ^ L * (N / 2 ^ L % 2) := by rw [e, Nat.mod_mul]
  have hl := Nat.mod_lt N (Nat.two_pow_pos L)
  generalize N / 2 ^ (L + 1) % 2 = o at *
  generalize N % 2 ^ L = r at *
  generalize N % 2 ^ (L + 1) = m at *
  rcases Nat.mod_two_eq_zero_or_one (N / 2 ^ L) with h | h
  · rw [h] at hm ⊢
    rw [if_neg (by omega), if_neg (by omega)]
  · rw [h] at hm ⊢
    rw [e]
    generalize 2 ^ L = g at *
    by_cases h1 : o = 1 ∨ r ≠ 0
    · rw [if_pos (by omega), if_pos ⟨rfl, h1⟩]
    · rw [if_neg (by omega), if_neg (fun h => h1 h.2)]

/-- Where 'Round' cuts, and what it keeps. -/
theorem round_plain {n h low a : Nat} (h0 : n ≠ 0) (h1 : 2 ^ h ≤ n * 2 ^ a) (h2 : n * 2 ^ a < 2 ^ (h + 1)) (ha : 1 ≤ a) (hl : low = max (h - 52) a) :
    low = expo 0 n + a ∧ n * 2 ^ a / 2 ^ low < 9007199254740992 ∧
    cutE n (expo 0 n) = n * 2 ^ a / 2 ^ low + if n * 2 ^ a / 2 ^ (low - 1) % 2 = 1 ∧ (n * 2 ^ a / 2 ^ low % 2 = 1 ∨ n * 2 ^ a % 2 ^ (low - 1) ≠ 0) then 1 else 0 := by
  have hlog : (n * 2 ^ a).log2 = h := by
    have hne : n * 2 ^ a ≠ 0 := Nat.ne_of_gt (Nat.lt_of_lt_of_le (Nat.two_pow_pos h) h1)
    exact (Nat.log2_eq_iff hne).2 ⟨h1, h2⟩
  rw [log2_mul_pow _ _ h0] at hlog
  have e1 : low = expo 0 n + a := by unfold expo; omega
  refine ⟨e1, ?_, ?_⟩
  · have : h + 1 ≤ low + 53 := by omega
    have h3 : n * 2 ^ a < 2 ^ low * 2 ^ 53 := by
      rw [← Nat.pow_add]; exact Nat.lt_of_lt_of_le h2 (Nat.pow_le_pow_right (by decide) this)
    exact Nat.div_lt_of_lt_mul h3
  · rw [← cutE_scale n (expo 0 n) a, ← e1]
    obtain ⟨L, hL⟩ : ∃ L, low = L + 1 := ⟨low - 1, by omega⟩
    rw [hL]
    exact cutE_bits _ L
end Rn
