/-
  PLAIN: rounding of whole numbers to 53 binary digits, to nearest, ties to even. No Go here.
-/
namespace Rn

theorem pow_pos (k : Nat) : 0 < 2 ^ k := Nat.two_pow_pos k

/-- 'n / 2^k' to the nearest whole number, ties to even. -/
def cutE (n k : Nat) : Nat := n / 2 ^ k + (if 2 ^ k < 2 * (n % 2 ^ k) ∨ (2 ^ k = 2 * (n % 2 ^ k) ∧ n / 2 ^ k % 2 = 1) then 1 else 0)
/-- The place of the last digit that is kept; none below 'u'. -/
def expo (u n : Nat) : Nat := max (n.log2 - 52) u
/-- 'n' rounded. -/
def rnU (u n : Nat) : Nat := cutE n (expo u n) * 2 ^ expo u n

theorem cutE_cases (n k : Nat) : ∃ a r, n = a * 2 ^ k + r ∧ r < 2 ^ k ∧ ((cutE n k = a ∧ 2 * r ≤ 2 ^ k) ∨ (cutE n k = a + 1 ∧ 2 ^ k ≤ 2 * r)) ∧ (2 * r = 2 ^ k → cutE n k % 2 = 0) := by
  have h1 : 2 ^ k * (n / 2 ^ k) + n % 2 ^ k = n := Nat.div_add_mod ..
  have h2 := Nat.mod_lt n (pow_pos k)
  refine ⟨n / 2 ^ k, n % 2 ^ k, by rw [Nat.mul_comm]; omega, h2, ?_, ?_⟩
  · unfold cutE
    split
    · right; omega
    · left; omega
  · intro h
    unfold cutE
    split <;> omega

/-- The nearest multiple. -/
theorem cutE_near (n k c : Nat) : ((n : Int) - (cutE n k * 2 ^ k : Nat)).natAbs ≤ ((n : Int) - (c * 2 ^ k : Nat)).natAbs := by
  obtain ⟨a, r, h1, h2, h3, _⟩ := cutE_cases n k
  generalize hq : cutE n k = q at *
  generalize hg : 2 ^ k = g at *
  by_cases hc : c ≤ a
  · have hcg : c * g ≤ a * g := Nat.mul_le_mul_right g hc
    rcases h3 with ⟨h3, h4⟩ | ⟨h3, h4⟩
    · subst h3; generalize q * g = x at *; generalize c * g = y at *; omega
    · subst h3; rw [Nat.add_mul, Nat.one_mul]; generalize a * g = x at *; generalize c * g = y at *; omega
  · have hcg : (a + 1) * g ≤ c * g := Nat.mul_le_mul_right g (by omega)
    rw [Nat.add_mul, Nat.one_mul] at hcg
    rcases h3 with ⟨h3, h4⟩ | ⟨h3, h4⟩
    · subst h3; generalize q * g = x at *; generalize c * g = y at *; omega
    · subst h3; rw [Nat.add_mul, Nat.one_mul]; generalize a * g = x at *; generalize c * g = y at *; omega

theorem cutE_half (n k : Nat) : 2 * ((n : Int) - (cutE n k * 2 ^ k : Nat)).natAbs ≤ 2 ^ k := by
  obtain ⟨a, r, h1, h2, h3, _⟩ := cutE_cases n k
  generalize hq : cutE n k = q at *
  generalize hg : 2 ^ k = g at *
  rcases h3 with ⟨h3, h4⟩ | ⟨h3, h4⟩
  · subst h3; generalize q * g = x at *; omega
  · subst h3; rw [Nat.add_mul, Nat.one_mul]; generalize a * g = x at *; omega

theorem cutE_exact (n k : Nat) (h : 2 ^ k ∣ n) : cutE n k * 2 ^ k = n := by
  obtain ⟨c, hc⟩ := h
  have h1 : n % 2 ^ k = 0 := by rw [hc]; exact Nat.mul_mod_right ..
  have h2 : n / 2 ^ k = c := by rw [hc]; exact Nat.mul_div_cancel_left c (pow_pos k)
  have h3 := pow_pos k
  unfold cutE
  rw [h1, h2, if_neg (by omega), Nat.add_zero, Nat.mul_comm, hc]

theorem lt_pow_expo (u n : Nat) : n < 2 ^ (53 + expo u n) := by
  by_cases h : n = 0
  · subst h; exact pow_pos _
  · refine (Nat.log2_lt h).1 ?_
    unfold expo; omega
theorem pow_expo_le (u n : Nat) (h : u < expo u n) : 2 ^ (52 + expo u n) ≤ n := by
  have h0 : n ≠ 0 := by intro h0; subst h0; simp [expo] at h
  refine Nat.le_trans (Nat.pow_le_pow_right (by decide) ?_) (Nat.log2_self_le h0)
  unfold expo at *; omega
theorem pow53 (k : Nat) : 2 ^ (53 + k) = 9007199254740992 * 2 ^ k := by rw [Nat.pow_add]
theorem pow52 (k : Nat) : 2 ^ (52 + k) = 4503599627370496 * 2 ^ k := by rw [Nat.pow_add]

theorem cutE_le (u n : Nat) : cutE n (expo u n) ≤ 9007199254740992 := by
  have h := lt_pow_expo u n
  rw [pow53] at h
  obtain ⟨a, r, h1, h2, h3, _⟩ := cutE_cases n (expo u n)
  have hg := pow_pos (expo u n)
  generalize cutE n (expo u n) = q at *
  generalize 2 ^ expo u n = g at *
  have : a < 9007199254740992 := by
    rw [h1] at h
    by_cases h' : a < 9007199254740992
    · exact h'
    · have := Nat.mul_le_mul_right g (Nat.le_of_not_lt h')
      omega
  omega

/-- The numbers that have a form of 53 digits, on the grid of '2^u'. -/
def FU (u : Nat) (f : Int) : Prop := ∃ k, u ≤ k ∧ ((2 ^ k : Nat) : Int) ∣ f ∧ f.natAbs ≤ 2 ^ (53 + k)

theorem rnU_FU (u n : Nat) : FU u (rnU u n) := by
  refine ⟨expo u n, Nat.le_max_right .., ?_, ?_⟩
  · unfold rnU; rw [Int.natCast_mul]; exact Int.dvd_mul_left ..
  · unfold rnU; rw [Int.natAbs_natCast, pow53]; exact Nat.mul_le_mul_right _ (cutE_le u n)

theorem rnU_near (u n : Nat) (f : Int) (hf : FU u f) : ((n : Int) - rnU u n).natAbs ≤ ((n : Int) - f).natAbs := by
  obtain ⟨j, hj, hd, hl⟩ := hf
  unfold rnU
  by_cases hneg : f < 0
  · have := cutE_near n (expo u n) 0
    simp only [Nat.zero_mul] at this
    omega
  by_cases hjk : expo u n ≤ j
  · obtain ⟨c, hc⟩ := hd
    have hc0 : 0 ≤ c := by
      by_cases h : 0 ≤ c
      · exact h
      · have := Int.mul_nonneg (a := ((2 ^ j : Nat) : Int)) (b := -c) (Int.natCast_nonneg _) (by omega)
        rw [Int.mul_neg] at this
        have hp : ((2 ^ j : Nat) : Int) ≠ 0 := by have := pow_pos j; exact Int.natCast_ne_zero.2 (by omega)
        by_cases h0 : ((2 ^ j : Nat) : Int) * c = 0
        · rcases Int.mul_eq_zero.1 h0 with h | h
          · exact absurd h hp
          · omega
        · generalize ((2 ^ j : Nat) : Int) * c = z at *; omega
    obtain ⟨d, rfl⟩ := Int.eq_ofNat_of_zero_le hc0
    have e : f = ((d * 2 ^ (j - expo u n) * 2 ^ expo u n : Nat) : Int) := by
      rw [hc, Nat.mul_assoc, ← Nat.pow_add, Nat.sub_add_cancel hjk, Nat.mul_comm, Int.natCast_mul]
    rw [e]
    exact cutE_near ..
  · have hk : u < expo u n := by omega
    have h1 := pow_expo_le u n hk
    have h2 : 2 ^ (53 + j) ≤ 2 ^ (52 + expo u n) := Nat.pow_le_pow_right (by decide) (by omega)
    have h3 := cutE_near n (expo u n) 4503599627370496
    rw [← pow52] at h3
    omega

theorem rnU_id (u n : Nat) (h : FU u n) : rnU u n = n := by
  have := rnU_near u n n h; omega

theorem rnU_dvd (u n k : Nat) (h : 2 ^ k ∣ n) : 2 ^ k ∣ rnU u n := by
  unfold rnU
  by_cases hk : k ≤ expo u n
  · exact Nat.dvd_trans (Nat.pow_dvd_pow 2 hk) (Nat.dvd_mul_left ..)
  · rw [cutE_exact _ _ (Nat.dvd_trans (Nat.pow_dvd_pow 2 (by omega)) h)]; exact h

theorem rnU_grid (u n : Nat) : 2 ^ u ∣ rnU u n := by
  unfold rnU
  exact Nat.dvd_trans (Nat.pow_dvd_pow 2 (Nat.le_max_right ..)) (Nat.dvd_mul_left ..)

theorem rnU_half (u n k : Nat) (hu : u ≤ k) (h : n ≤ 2 ^ (53 + k)) : 2 * ((n : Int) - rnU u n).natAbs ≤ 2 ^ k := by
  by_cases he : n = 2 ^ (53 + k)
  · have : rnU u n = n := rnU_id u n ⟨k, hu, by rw [he]; exact Int.natCast_dvd_natCast.2 (Nat.pow_dvd_pow 2 (by omega)), by omega⟩
    rw [this]; have := pow_pos k; omega
  · have h1 : expo u n ≤ k := by
      unfold expo
      by_cases h0 : n = 0
      · subst h0; simp; omega
      · have := (Nat.log2_lt h0).2 (show n < 2 ^ (53 + k) by omega)
        omega
    have h2 := cutE_half n (expo u n)
    have h3 : 2 ^ expo u n ≤ 2 ^ k := Nat.pow_le_pow_right (by decide) h1
    unfold rnU; omega

end Rn
