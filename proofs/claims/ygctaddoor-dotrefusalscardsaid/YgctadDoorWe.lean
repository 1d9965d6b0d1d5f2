/-
  PLAIN: signs, order, shifts and small multiples of numbers written in 68 words. No Go here.
-/
import Derived.Test.YgctadDoorWd
namespace Rn

/-- The numbers that an accumulator holds with their sign. -/
def Sgd (v : Int) : Prop := -P 4351 ≤ v ∧ v < P 4351
theorem P4351 : P 4351 = 9223372036854775808 * P (64 * 67) := by
  rw [show (4351 : Nat) = 63 + 64 * 67 by decide, P_add, show P 63 = 9223372036854775808 by decide]
theorem P4352 : P (64 * 68) = 2 * P 4351 := by rw [P4351, P64]; omega

theorem top_quot {v : Int} (h : Sgd v) : -9223372036854775808 ≤ v / P (64 * 67) ∧ v / P (64 * 67) < 9223372036854775808 ∧ (v / P (64 * 67) < 0 ↔ v < 0) := by
  obtain ⟨h1, h2⟩ := h
  rw [P4351] at h1 h2
  have hp := P_pos (64 * 67)
  generalize P (64 * 67) = p at *
  refine ⟨?_, ?_, ?_⟩
  · exact Int.le_ediv_of_mul_le hp (by omega)
  · exact Int.ediv_lt_of_lt_mul hp h2
  · constructor
    · intro h
      by_cases c : v < 0
      · exact c
      · have := Int.ediv_nonneg (show 0 ≤ v by omega) (Int.le_of_lt hp); omega
    · intro h; exact Int.ediv_neg_of_neg_of_pos h hp
theorem top_neg {v : Int} (h : Sgd v) : (dig v 67 / 9223372036854775808 != 0) = decide (v < 0) := by
  obtain ⟨h1, h2, h3⟩ := top_quot h
  rw [Bool.eq_iff_iff, bne_iff_ne, decide_eq_true_eq, ← h3]
  unfold dig
  omega

theorem zero_words {v : Int} (h : Sgd v) (h0 : 0 ≤ v) (hz : ∀ j, j < 68 → dig v j = 0) : v = 0 := by
  have e := val_dig v 68
  have e2 : val (dig v) 68 = val (fun _ => 0) 68 := val_congr fun i hi => hz i hi
  have e3 : ∀ n, val (fun _ => 0) n = 0 := by
    intro n; induction n with
    | zero => rfl
    | succ n ih => rw [val_succ, ih, Int.zero_mul]; rfl
  have h4 := P4352
  have hp := P_pos 4351
  rw [e2, e3, Int.emod_eq_of_lt h0 (by have := h.2; omega)] at e
  exact e.symm

/-- The words above 'i' agree, word 'i' is less: the number is less. -/
theorem val_lt {f g : Nat → Int} {i n : Nat} (hi : i < n) (hf : ∀ j, Word (f j)) (hg : ∀ j, Word (g j)) (h : ∀ j, i < j → j < n → f j = g j) (hl : f i < g i) : val f n < val g n := by
  induction n with
  | zero => omega
  | succ n ih =>
    rw [val_succ, val_succ]
    by_cases e : i = n
    · subst e
      have ⟨_, a2⟩ := val_bd (n := i) (fun j _ => hf j)
      have ⟨b1, _⟩ := val_bd (n := i) (fun j _ => hg j)
      have := Int.mul_le_mul_of_nonneg_right (show f i + 1 ≤ g i by omega) (Int.le_of_lt (P_pos (64 * i)))
      rw [Int.add_mul, Int.one_mul] at this
      omega
    · have := ih (by omega) (fun j a b => h j a (by omega))
      rw [h n (by omega) (by omega)]
      omega

/-- The words that 'Cmp' looks at: the sign turned. -/
def cw (v : Int) (i : Nat) : Int := dig (v + P 4351) i
theorem cw_low (v : Int) (i : Nat) (h : i < 67) : cw v i = dig v i := by
  unfold cw; rw [P4351]; exact dig_add_mul v _ 67 i h
theorem cw_top (v : Int) : cw v 67 = (dig v 67 + 9223372036854775808) % 18446744073709551616 := by
  unfold cw dig
  rw [P4351, Int.add_mul_ediv_right _ _ (Int.ne_of_gt (P_pos (64 * 67)))]
  omega
theorem cw_val {v : Int} (h : Sgd v) : val (cw v) 68 = v + P 4351 := by
  have e := val_dig (v + P 4351) 68
  have h4 := P4352
  have hp := P_pos 4351
  obtain ⟨h1, h2⟩ := h
  rw [Int.emod_eq_of_lt (by omega) (by omega)] at e
  exact e
theorem cw_lt {v u : Int} (hv : Sgd v) (hu : Sgd u) {i : Nat} (hi : i < 68) (h : ∀ j, i < j → j < 68 → cw v j = cw u j) (hl : cw v i < cw u i) : v < u := by
  have := val_lt (f := cw v) (g := cw u) hi (fun j => dig_word _ j) (fun j => dig_word _ j) h hl
  rw [cw_val hv, cw_val hu] at this
  omega
theorem cw_eq {v u : Int} (hv : Sgd v) (hu : Sgd u) (h : ∀ j, j < 68 → cw v j = cw u j) : v = u := by
  have := val_congr (n := 68) (f := cw v) (g := cw u) h
  rw [cw_val hv, cw_val hu] at this
  omega

/-- Word 'i' of a number shifted by '64 W + s' digits. -/
def shw (f : Nat → Int) (W s i : Nat) : Int := (if W ≤ i then f (i - W) * 2 ^ s % 18446744073709551616 else 0) + (if W < i then f (i - W - 1) / 2 ^ (64 - s) else 0)

theorem shl_split {x : Int} (hx : Word x) (s : Nat) (hs : s < 64) : x * 2 ^ s % 18446744073709551616 + x / 2 ^ (64 - s) * 18446744073709551616 = x * P s ∧
    (2 : Int) ^ s ∣ x * 2 ^ s % 18446744073709551616 ∧ 0 ≤ x / 2 ^ (64 - s) ∧ x / 2 ^ (64 - s) < 2 ^ s := by
  obtain ⟨h0, h1⟩ := hx
  have e : (18446744073709551616 : Int) = 2 ^ s * 2 ^ (64 - s) := by rw [← Int.pow_add, show s + (64 - s) = 64 by omega]; rfl
  have hp : (0 : Int) < 2 ^ s := Int.pow_pos (by decide)
  have hq : (0 : Int) < 2 ^ (64 - s) := Int.pow_pos (by decide)
  have e1 : x * 2 ^ s % 18446744073709551616 = x % 2 ^ (64 - s) * 2 ^ s := by
    rw [e, Int.mul_comm x, Int.mul_emod_mul_of_pos _ _ hp, Int.mul_comm]
  have e2 := Int.emod_add_mul_ediv x (2 ^ (64 - s))
  have eP : P s = 2 ^ s := by unfold P; simp
  refine ⟨?_, by rw [e1]; exact Int.dvd_mul_left .., Int.ediv_nonneg h0 (Int.le_of_lt hq), ?_⟩
  · rw [e1, eP]
    have : x * 2 ^ s = (x % 2 ^ (64 - s) + 2 ^ (64 - s) * (x / 2 ^ (64 - s))) * 2 ^ s := by rw [e2]
    rw [this, Int.add_mul, e, Int.mul_comm (2 ^ (64 - s)) (x / 2 ^ (64 - s)), Int.mul_assoc, Int.mul_comm (2 ^ (64 - s)) (2 ^ s)]
  · refine Int.ediv_lt_of_lt_mul hq ?_
    rw [← e]; exact h1

theorem shw_val {f : Nat → Int} (hf : ∀ j, Word (f j)) (W s : Nat) (hs : s < 64) (n : Nat) :
    val (shw f W s) n + (if W < n then f (n - W - 1) / 2 ^ (64 - s) else 0) * P (64 * n) = P s * P (64 * W) * val f (n - W) := by
  induction n with
  | zero => rw [if_neg (by omega), Nat.zero_sub]; simp [val]
  | succ n ih =>
    rw [val_succ, P64]
    by_cases h : W ≤ n
    · rw [if_pos (by omega), show n + 1 - W - 1 = n - W by omega, show n + 1 - W = (n - W) + 1 by omega, val_succ, Int.mul_add, ← ih]
      have hsp := (shl_split (hf (n - W)) s hs).1
      have e1 : shw f W s n = f (n - W) * 2 ^ s % 18446744073709551616 + (if W < n then f (n - W - 1) / 2 ^ (64 - s) else 0) := by unfold shw; rw [if_pos h]
      rw [e1]
      generalize (if W < n then f (n - W - 1) / 2 ^ (64 - s) else 0) = c
      have e2 : P s * P (64 * W) * (f (n - W) * P (64 * (n - W))) = f (n - W) * P s * P (64 * n) := by
        have : P (64 * n) = P (64 * W) * P (64 * (n - W)) := by rw [← P_add]; congr 1; omega
        rw [this]
        rw [Int.mul_comm (P s) (P (64 * W)), Int.mul_assoc, Int.mul_left_comm (P s), ← Int.mul_assoc (P (64 * W)), Int.mul_comm (P (64 * W)), Int.mul_assoc (f (n - W)), Int.mul_assoc (f (n - W)), Int.mul_left_comm (P s)]
      rw [e2, ← hsp, Int.add_mul, Int.add_mul]
      generalize f (n - W) * 2 ^ s % 18446744073709551616 = a
      generalize f (n - W) / 2 ^ (64 - s) = b
      generalize P (64 * n) = p
      rw [Int.mul_assoc b]
      omega
    · rw [if_neg (by omega), show n + 1 - W = n - W by omega, ← ih, if_neg (by omega)]
      have e1 : shw f W s n = 0 := by unfold shw; rw [if_neg h, if_neg (by omega)]; rfl
      rw [e1]; simp

theorem shw_word {f : Nat → Int} (hf : ∀ j, Word (f j)) (W s : Nat) (hs : s < 64) (i : Nat) : Word (shw f W s i) := by
  unfold shw
  by_cases h : W ≤ i
  · rw [if_pos h]
    obtain ⟨_, a2, _, _⟩ := shl_split (hf (i - W)) s hs
    have hs2 : (2 : Int) ^ s ∣ 18446744073709551616 := by
      rw [show (18446744073709551616 : Int) = 2 ^ s * 2 ^ (64 - s) by rw [← Int.pow_add, show s + (64 - s) = 64 by omega]; rfl]
      exact Int.dvd_mul_right ..
    have hp : (0 : Int) < 2 ^ s := Int.pow_pos (by decide)
    have := dvd_le (u := 2 ^ s) (n := f (i - W) * 2 ^ s % 18446744073709551616 + 2 ^ s) (m := 18446744073709551616) hp (Int.dvd_add a2 (Int.dvd_refl _)) hs2 (by omega)
    by_cases h2 : W < i
    · rw [if_pos h2]
      obtain ⟨_, _, a3, a4⟩ := shl_split (hf (i - W - 1)) s hs
      exact ⟨by omega, by omega⟩
    · rw [if_neg h2]; exact ⟨by omega, by omega⟩
  · rw [if_neg h, if_neg (by omega)]; exact ⟨by decide, by decide⟩

/-- The shifted words hold the product. -/
theorem shw_total {f : Nat → Int} (hf : ∀ j, Word (f j)) {v c0 : Int} (hv : val f 68 = v + c0 * P (64 * 68)) (W s : Nat) (hW : W ≤ 68) (hs : s < 64) : ∃ c, val (shw f W s) 68 = v * P (64 * W + s) + c * P (64 * 68) := by
  have h1 := shw_val hf W s hs 68
  have h2 : ∀ m, ∃ r, val f (68 - W + m) = val f (68 - W) + r * P (64 * (68 - W)) := by
    intro m
    induction m with
    | zero => exact ⟨0, by simp⟩
    | succ m ih =>
      obtain ⟨r, hr⟩ := ih
      refine ⟨r + f (68 - W + m) * P (64 * m), ?_⟩
      rw [show 68 - W + (m + 1) = (68 - W + m) + 1 by omega, val_succ, hr, Int.add_mul, Int.mul_assoc, ← P_add, show 64 * m + 64 * (68 - W) = 64 * (68 - W + m) by omega]
      omega
  obtain ⟨r, hr⟩ := h2 W
  rw [show 68 - W + W = 68 by omega, hv] at hr
  have e3 : P (64 * 68) = P (64 * W) * P (64 * (68 - W)) := by rw [← P_add]; congr 1; omega
  have e4 : val f (68 - W) = v + c0 * P (64 * 68) - r * P (64 * (68 - W)) := by omega
  rw [e4] at h1
  refine ⟨P s * P (64 * W) * c0 - P s * r - (if W < 68 then f (68 - W - 1) / 2 ^ (64 - s) else 0), ?_⟩
  rw [P_add]
  generalize (if W < 68 then f (68 - W - 1) / 2 ^ (64 - s) else 0) = t at *
  have e5 : P s * P (64 * W) * (v + c0 * P (64 * 68) - r * P (64 * (68 - W))) = v * (P (64 * W) * P s) + P s * P (64 * W) * c0 * P (64 * 68) - P s * r * P (64 * 68) := by
    rw [Int.mul_sub, Int.mul_add, Int.mul_comm (P s * P (64 * W)) v, Int.mul_comm (P s) (P (64 * W)), ← Int.mul_assoc (P (64 * W) * P s) c0]
    have e6 : P (64 * W) * P s * (r * P (64 * (68 - W))) = P s * r * P (64 * 68) := by
      rw [e3, Int.mul_comm (P (64 * W)) (P s), Int.mul_assoc, Int.mul_assoc (P s) r, Int.mul_left_comm (P (64 * W)) r]
    rw [e6]
  rw [e5] at h1
  rw [Int.sub_mul, Int.sub_mul]
  omega

end Rn
