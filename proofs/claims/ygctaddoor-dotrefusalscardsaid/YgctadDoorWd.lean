/-
  PLAIN: whole numbers written in 64-bit words. No Go here.
-/
import Derived.Test.YgctadDoorEft
namespace Rn

def Word (x : Int) : Prop := 0 ≤ x ∧ x < 18446744073709551616
/-- The first 'n' words as one number. -/
def val (f : Nat → Int) : Nat → Int
  | 0 => 0
  | n + 1 => val f n + f n * P (64 * n)
theorem val_succ (f : Nat → Int) (n : Nat) : val f (n + 1) = val f n + f n * P (64 * n) := rfl
theorem P64 (n : Nat) : P (64 * (n + 1)) = 18446744073709551616 * P (64 * n) := by
  rw [show 64 * (n + 1) = 64 + 64 * n by omega, P_add]; rfl
/-- Word 'i' of a whole number (two's complement). -/
def dig (v : Int) (i : Nat) : Int := v / P (64 * i) % 18446744073709551616
theorem dig_word (v : Int) (i : Nat) : Word (dig v i) := by unfold dig Word; omega

theorem val_congr {f g : Nat → Int} {n : Nat} (h : ∀ i, i < n → f i = g i) : val f n = val g n := by
  induction n with
  | zero => rfl
  | succ n ih => rw [val_succ, val_succ, ih (fun i hi => h i (by omega)), h n (by omega)]
theorem val_bd {f : Nat → Int} {n : Nat} (h : ∀ i, i < n → Word (f i)) : 0 ≤ val f n ∧ val f n < P (64 * n) := by
  induction n with
  | zero => exact ⟨Int.le_refl _, by rw [show 64 * 0 = 0 by omega, P_zero]; exact Int.zero_lt_one⟩
  | succ n ih =>
    have ⟨h1, h2⟩ := ih (fun i hi => h i (by omega))
    have ⟨h3, h4⟩ := h n (by omega)
    have hp := P_pos (64 * n)
    rw [val_succ, P64]
    have a1 := Int.mul_nonneg h3 (Int.le_of_lt hp)
    have a2 : f n * P (64 * n) ≤ 18446744073709551615 * P (64 * n) := Int.mul_le_mul_of_nonneg_right (by omega) (Int.le_of_lt hp)
    generalize f n * P (64 * n) = x at *
    omega
theorem emod_of_eq {v r q c : Int} (h : v = r + q * c) (h1 : 0 ≤ r) (h2 : r < q) : v % q = r := by
  rw [h, Int.add_mul_emod_self_left, Int.emod_eq_of_lt h1 h2]
/-- The words of a number make the number again, modulo what they hold. -/
theorem val_dig (v : Int) (n : Nat) : val (dig v) n = v % P (64 * n) := by
  induction n with
  | zero => rw [show 64 * 0 = 0 by omega, P_zero, Int.emod_one]; rfl
  | succ n ih =>
    rw [val_succ, ih, P64]
    unfold dig
    have hp := P_pos (64 * n)
    have e1 := Int.emod_add_mul_ediv v (P (64 * n))
    have e2 := Int.emod_add_mul_ediv (v / P (64 * n)) 18446744073709551616
    have e3 : v = (v % P (64 * n) + v / P (64 * n) % 18446744073709551616 * P (64 * n)) + 18446744073709551616 * P (64 * n) * (v / P (64 * n) / 18446744073709551616) := by
      have h3 : P (64 * n) * (v / P (64 * n)) = P (64 * n) * (v / P (64 * n) % 18446744073709551616 + 18446744073709551616 * (v / P (64 * n) / 18446744073709551616)) := by rw [e2]
      rw [Int.mul_add] at h3
      have h4 : P (64 * n) * (18446744073709551616 * (v / P (64 * n) / 18446744073709551616)) = 18446744073709551616 * P (64 * n) * (v / P (64 * n) / 18446744073709551616) := by
        rw [← Int.mul_assoc, Int.mul_comm (P (64 * n)) 18446744073709551616]
      have h5 : P (64 * n) * (v / P (64 * n) % 18446744073709551616) = v / P (64 * n) % 18446744073709551616 * P (64 * n) := Int.mul_comm ..
      omega
    have b1 := Int.emod_nonneg v (Int.ne_of_gt hp)
    have b2 := Int.emod_lt_of_pos v hp
    have b3 := Int.emod_nonneg (v / P (64 * n)) (show (18446744073709551616 : Int) ≠ 0 by decide)
    have b4 := Int.emod_lt_of_pos (v / P (64 * n)) (show (0 : Int) < 18446744073709551616 by decide)
    have c1 := Int.mul_nonneg b3 (Int.le_of_lt hp)
    have c2 : v / P (64 * n) % 18446744073709551616 * P (64 * n) ≤ 18446744073709551615 * P (64 * n) := Int.mul_le_mul_of_nonneg_right (by omega) (Int.le_of_lt hp)
    exact (emod_of_eq e3 (by omega) (by omega)).symm
theorem val_inj {f g : Nat → Int} {n : Nat} (hf : ∀ i, i < n → Word (f i)) (hg : ∀ i, i < n → Word (g i)) (h : val f n = val g n) : ∀ i, i < n → f i = g i := by
  induction n with
  | zero => intro i hi; omega
  | succ n ih =>
    have ⟨a1, a2⟩ := val_bd (fun i hi => hf i (Nat.lt_succ_of_lt hi))
    have ⟨b1, b2⟩ := val_bd (fun i hi => hg i (Nat.lt_succ_of_lt hi))
    rw [val_succ, val_succ] at h
    have hp := P_pos (64 * n)
    have e : f n = g n := by
      by_cases c1 : f n < g n
      · have := Int.mul_le_mul_of_nonneg_right (show f n + 1 ≤ g n by omega) (Int.le_of_lt hp)
        rw [Int.add_mul, Int.one_mul] at this; omega
      · by_cases c2 : g n < f n
        · have := Int.mul_le_mul_of_nonneg_right (show g n + 1 ≤ f n by omega) (Int.le_of_lt hp)
          rw [Int.add_mul, Int.one_mul] at this; omega
        · omega
    rw [e] at h
    intro i hi
    by_cases hin : i = n
    · rw [hin]; exact e
    · exact ih (fun i hi => hf i (by omega)) (fun i hi => hg i (by omega)) (by omega) i (by omega)
/-- The words that hold 'v' are its own. -/
theorem dig_of_val {g : Nat → Int} {v : Int} {n : Nat} (hg : ∀ i, i < n → Word (g i)) (h : ∃ c, val g n = v + c * P (64 * n)) : ∀ i, i < n → g i = dig v i := by
  refine val_inj hg (fun i _ => dig_word v i) ?_
  obtain ⟨c, hc⟩ := h
  have ⟨a1, a2⟩ := val_bd hg
  rw [val_dig, ← Int.emod_eq_of_lt a1 a2, hc, Int.add_mul_emod_self_right]
theorem dig_zero (i : Nat) : dig 0 i = 0 := by simp [dig]
theorem dig_add_mul (v c : Int) (n i : Nat) (h : i < n) : dig (v + c * P (64 * n)) i = dig v i :=
  (dig_of_val (n := n) (fun i _ => dig_word (v + c * P (64 * n)) i) (by
    rw [val_dig, Int.add_mul_emod_self_right]
    have e := Int.emod_add_mul_ediv v (P (64 * n))
    exact ⟨-(v / P (64 * n)), by rw [Int.neg_mul, Int.mul_comm (v / P (64 * n))]; omega⟩)) i h

def upd (f : Nat → Int) (k : Nat) (v : Int) : Nat → Int := fun i => if i = k then v else f i
theorem val_upd_lt (f : Nat → Int) (k n : Nat) (v : Int) (h : n ≤ k) : val (upd f k v) n = val f n :=
  val_congr fun i hi => by unfold upd; rw [if_neg (by omega)]
theorem upd_self (f : Nat → Int) (k : Nat) (v : Int) : upd f k v k = v := by simp [upd]
theorem val_upd_succ (f : Nat → Int) (k : Nat) (v : Int) : val (upd f k v) (k + 1) = val f k + v * P (64 * k) := by
  rw [val_succ, val_upd_lt f k k v (Nat.le_refl _), upd_self]
theorem val_upd (f : Nat → Int) (k n : Nat) (v : Int) (h : k < n) : val (upd f k v) n = val f n + (v - f k) * P (64 * k) := by
  induction n with
  | zero => omega
  | succ n ih =>
    by_cases e : k = n
    · subst e; rw [val_upd_succ, val_succ, Int.sub_mul]; omega
    · rw [val_succ, val_succ, ih (by omega)]
      unfold upd; rw [if_neg (by omega)]; omega

end Rn
