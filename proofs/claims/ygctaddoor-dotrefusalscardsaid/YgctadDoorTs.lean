/-
  PLAIN: what the float operations come to, over the numbers that the words stand for; TwoSum and FastTwoSum on words.
-/
import Derived.Test.YgctadDoorSp
namespace Rn
open Go Go.Fl

theorem rn_le {n : Int} (k : Nat) (h : (n.natAbs : Int) ≤ P k) : ((rn n).natAbs : Int) ≤ P k := by
  have h1 := rn_mono (show n ≤ P k by omega)
  have h2 := rn_mono (show -P k ≤ n by omega)
  rw [rn_id (F_P k)] at h1
  rw [rn_neg, rn_id (F_P k)] at h2
  omega
theorem lt_pow {m : Int} {k t : Nat} (hk : k < t) (h : (m.natAbs : Int) ≤ P k) : m.natAbs < 2 ^ t :=
  Nat.lt_of_le_of_lt (Int.ofNat_le.1 h) (Nat.pow_lt_pow_right (by decide) hk)
theorem lt_top {m : Int} (h : (m.natAbs : Int) ≤ P 2097) : m.natAbs < 2 ^ TOP := lt_pow (by decide) h

theorem res_add {x y r : Nat} (fx : fin x = true) (fy : fin y = true) (hb : ((rn (vz x + vz y)).natAbs : Int) ≤ P 2097) (h : Res .add x y r) :
    fin r = true ∧ vz r = rn (vz x + vz y) ∧ r < 18446744073709551616 := by
  obtain ⟨z, h1, h2, h3, h4, _⟩ := add_fin fx fy (lt_top hb)
  have h1' : floatBits .add .f64 x y = some z := h1
  rcases h with h | ⟨h, _⟩
  · rw [h1'] at h; cases h; exact ⟨h2, h3, h4⟩
  · rw [h1'] at h; cases h
theorem res_sub {x y r : Nat} (fx : fin x = true) (fy : fin y = true) (hb : ((rn (vz x - vz y)).natAbs : Int) ≤ P 2097) (h : Res .sub x y r) :
    fin r = true ∧ vz r = rn (vz x - vz y) ∧ r < 18446744073709551616 := by
  obtain ⟨z, h1, h2, h3, h4, _⟩ := sub_fin fx fy (lt_top hb)
  have h1' : floatBits .sub .f64 x y = some z := h1
  rcases h with h | ⟨h, _⟩
  · rw [h1'] at h; cases h; exact ⟨h2, h3, h4⟩
  · rw [h1'] at h; cases h

/-- A finite word is a number of 53 digits. -/
theorem vz_F (x : Nat) : F (vz x) := by
  have h : F (mg (x % 9223372036854775808) : Int) := by
    unfold mg
    split
    · exact F_small (by omega)
    · refine F_of (x % 9223372036854775808 / 4503599627370496 - 1) ?_ ?_
      · rw [Int.natCast_mul]; exact Int.dvd_mul_left ..
      · rw [Int.natAbs_natCast, Int.natCast_mul]
        exact Int.mul_le_mul_of_nonneg_right (by omega) (Int.natCast_nonneg _)
  unfold vz; split
  · exact F_neg h
  · exact h

/-- TwoSum on words: exact for operands up to 2^1022. -/
theorem twoSum_words {x y s bb aa db da e : Nat} (fx : fin x = true) (fy : fin y = true) (bx : ((vz x).natAbs : Int) ≤ P 2096) (by' : ((vz y).natAbs : Int) ≤ P 2096)
    (h1 : Res .add x y s) (h2 : Res .sub s x bb) (h3 : Res .sub s bb aa) (h4 : Res .sub y bb db) (h5 : Res .sub x aa da) (h6 : Res .add da db e) :
    fin s = true ∧ s < 18446744073709551616 ∧ fin e = true ∧ e < 18446744073709551616 ∧ vz s = rn (vz x + vz y) ∧ vz x + vz y = vz s + vz e := by
  have hP : P 2097 = 2 * P 2096 := P_succ 2096
  have Fx := vz_F x
  have Fy := vz_F y
  obtain ⟨s1, s2, s3⟩ := res_add fx fy (rn_le 2097 (by omega)) h1
  have n1 := rn_near (vz x + vz y) (vz x) Fx
  have n2 := rn_near (vz x + vz y) (vz y) Fy
  rw [← s2] at n1 n2
  obtain ⟨b1, b2, b3⟩ := res_sub s1 fx (rn_le 2097 (by omega)) h2
  have n3 := rn_near (vz s - vz x) (vz y) Fy
  rw [← b2] at n3
  obtain ⟨a1, a2, a3⟩ := res_sub s1 b1 (rn_le 2097 (by omega)) h3
  have n4 := rn_near (vz s - vz bb) (vz x) Fx
  rw [← a2] at n4
  obtain ⟨d1, d2, d3⟩ := res_sub fy b1 (rn_le 2097 (by omega)) h4
  obtain ⟨c1, c2, c3⟩ := res_sub fx a1 (rn_le 2097 (by omega)) h5
  have key := twoSum Fx Fy s2 b2 a2 d2 c2
  obtain ⟨e1, e2, e3⟩ := res_add c1 d1 (by rw [key]; omega) h6
  refine ⟨s1, s3, e1, e3, s2, ?_⟩
  rw [e2, key]; omega

/-- FastTwoSum on words. -/
theorem fastTwoSum_words {x y s z e : Nat} (fx : fin x = true) (fy : fin y = true) (bx : ((vz x).natAbs : Int) ≤ P 2096) (hle : (vz y).natAbs ≤ (vz x).natAbs)
    (h1 : Res .add x y s) (h2 : Res .sub s x z) (h3 : Res .sub y z e) :
    fin s = true ∧ s < 18446744073709551616 ∧ fin e = true ∧ e < 18446744073709551616 ∧ vz s = rn (vz x + vz y) ∧ vz x + vz y = vz s + vz e := by
  have hP : P 2097 = 2 * P 2096 := P_succ 2096
  have Fx := vz_F x
  have Fy := vz_F y
  obtain ⟨s1, s2, s3⟩ := res_add fx fy (rn_le 2097 (by omega)) h1
  have n1 := rn_near (vz x + vz y) (vz x) Fx
  rw [← s2] at n1
  obtain ⟨b1, b2, b3⟩ := res_sub s1 fx (rn_le 2097 (by omega)) h2
  have key := fastTwoSum Fx Fy hle
  rw [← s2, ← b2] at key
  obtain ⟨e1, e2, e3⟩ := res_sub fy b1 (by rw [key]; omega) h3
  refine ⟨s1, s3, e1, e3, s2, ?_⟩
  rw [e2, key]; omega

end Rn
