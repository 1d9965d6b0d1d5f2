/-
  PLAIN: one operator rounds once.
-/
import Derived.Test.YgctadDoorTq
import Derived.Test.YgctadDoorWe
namespace Rn
open Go Go.Fl

theorem rn_rel (n : Int) : 9007199254740992 * ((n - rn n).natAbs : Int) ≤ (n.natAbs : Int) := by
  have hl : (n.natAbs : Int) ≤ 9007199254740992 * P (expo 0 n.natAbs) := by
    have := Int.ofNat_le.2 (Nat.le_of_lt (lt_pow_expo 0 n.natAbs))
    rwa [P53] at this
  have h1 := rn_half _ hl
  by_cases h0 : expo 0 n.natAbs = 0
  · rw [h0, P_zero] at h1; omega
  · have h2 := Int.ofNat_le.2 (pow_expo_le 0 n.natAbs (by omega))
    rw [P52] at h2
    omega

/-- 'R' is finite and near to the exact 'E' (in units of 2^-2148). -/
def Near (R : Nat) (E : Int) : Prop := fin R = true ∧ R < 18446744073709551616 ∧ ((vz R * P 1074 - E).natAbs : Int) * P 53 ≤ (E.natAbs : Int) + 4503599627370496 * P 1074 ∧ (E.natAbs : Int) ≤ P 3148

theorem p53 : P 53 = 9007199254740992 := by decide
theorem natAbs_mul_P (n : Int) (k : Nat) : ((n * P k).natAbs : Int) = (n.natAbs : Int) * P k := by
  rw [Int.natAbs_mul, natAbs_P, Int.natCast_mul]; unfold P; rfl

theorem near_sum {R : Nat} {n E : Int} (hE : E = n * P 1074) (hf : fin R = true) (hl : R < 18446744073709551616) (hv : vz R = rn n) (hb : (n.natAbs : Int) ≤ P 2074) : Near R E := by
  refine ⟨hf, hl, ?_, ?_⟩
  · have h1 := rn_rel n
    have hp := P_pos 1074
    rw [hE, hv, ← Int.sub_mul, natAbs_mul_P, natAbs_mul_P, p53, show (rn n - n).natAbs = (n - rn n).natAbs by omega]
    have h2 : 9007199254740992 * ((n - rn n).natAbs : Int) * P 1074 ≤ (n.natAbs : Int) * P 1074 := Int.mul_le_mul_of_nonneg_right h1 (Int.le_of_lt hp)
    rw [Int.mul_right_comm, Int.mul_comm _ (9007199254740992 : Int)]
    omega
  · rw [hE, natAbs_mul_P]
    have := Int.mul_le_mul_of_nonneg_right hb (Int.le_of_lt (P_pos 1074))
    rwa [← P_add] at this

theorem near_add {x y R : Nat} (fx : fin x = true) (fy : fin y = true) (bx : ((vz x).natAbs : Int) ≤ P 1574) (bY : ((vz y).natAbs : Int) ≤ P 1574) (h : Res .add x y R) : Near R (vz x * P 1074 + vz y * P 1074) := by
  have h1 : P 1575 = 2 * P 1574 := P_succ 1574
  have h2 : P 1575 ≤ P 2074 := P_le (by decide)
  have h3 : P 1575 ≤ P 2097 := P_le (by decide)
  obtain ⟨a, b, c⟩ := res_add fx fy (rn_le 2097 (by omega)) h
  exact near_sum (by rw [Int.add_mul]) a c b (by omega)
theorem near_sub {x y R : Nat} (fx : fin x = true) (fy : fin y = true) (bx : ((vz x).natAbs : Int) ≤ P 1574) (bY : ((vz y).natAbs : Int) ≤ P 1574) (h : Res .sub x y R) : Near R (vz x * P 1074 + -vz y * P 1074) := by
  have h1 : P 1575 = 2 * P 1574 := P_succ 1574
  have h2 : P 1575 ≤ P 2074 := P_le (by decide)
  have h3 : P 1575 ≤ P 2097 := P_le (by decide)
  obtain ⟨a, b, c⟩ := res_sub fx fy (rn_le 2097 (by omega)) h
  exact near_sum (n := vz x - vz y) (by rw [Int.sub_mul, Int.neg_mul]; omega) a c b (by omega)

theorem rnU_lt (u N t : Nat) (h : N ≤ 2 ^ (t + u)) : rnU u N ≤ 2 ^ (t + u) := by
  have hF : FU u ((2 ^ (t + u) : Nat) : Int) := ⟨t + u, by omega, Int.dvd_refl _, by rw [Int.natAbs_natCast]; exact Nat.pow_le_pow_right (by decide) (by omega)⟩
  have := rnU_near u N _ hF
  omega

theorem rnU_rel (u N : Nat) : 9007199254740992 * ((N : Int) - rnU u N).natAbs ≤ N + 4503599627370496 * 2 ^ u := by
  have h2 := cutE_half N (expo u N)
  have h3 : (N : Int) - rnU u N = (N : Int) - (cutE N (expo u N) * 2 ^ expo u N : Nat) := rfl
  rw [← h3] at h2
  by_cases h : u < expo u N
  · have := pow_expo_le u N h
    rw [pow52] at this
    omega
  · have e : expo u N = u := by have : u ≤ expo u N := Nat.le_max_right ..; omega
    rw [e] at h2
    omega

theorem lt_top2 {N u : Nat} (h : N ≤ 2 ^ (2074 + u)) : rnU u N < 2 ^ (TOP + u) :=
  Nat.lt_of_le_of_lt (rnU_lt u N 2074 h) (Nat.pow_lt_pow_right (by decide) (Nat.add_lt_add_right (by decide) u))

theorem near_mul_plain {R : Nat} {E : Int} (N u : Nat) (hu : P u = P 1074) (hE : E.natAbs = N) (hv : (vz R).natAbs * 2 ^ u = rnU u N) (hs : vz R * P u = E ∨ (0 ≤ vz R ∧ 0 ≤ E) ∨ (vz R ≤ 0 ∧ E ≤ 0)) :
    ((vz R * P 1074 - E).natAbs : Int) * P 53 ≤ (E.natAbs : Int) + 4503599627370496 * P 1074 := by
  have h1 := rnU_rel u N
  rw [← hv] at h1
  have hq : P u = ((2 ^ u : Nat) : Int) := rfl
  rw [← hu, p53]
  rcases hs with hs | hs
  · rw [hs, Int.sub_self]
    have := P_pos u
    omega
  · have e1 : ((vz R * P u).natAbs : Int) = (((vz R).natAbs * 2 ^ u : Nat) : Int) := by rw [natAbs_mul_P, Int.natCast_mul]; rfl
    have e2 : (vz R * P u - E).natAbs = ((N : Int) - ((vz R).natAbs * 2 ^ u : Nat)).natAbs := by
      have hp := P_pos u
      rcases hs with ⟨a, b⟩ | ⟨a, b⟩
      · have := Int.mul_nonneg a (Int.le_of_lt hp)
        generalize vz R * P u = z at *
        generalize (vz R).natAbs * 2 ^ u = y at *
        omega
      · have := Int.mul_nonneg (show 0 ≤ -vz R by omega) (Int.le_of_lt hp)
        rw [Int.neg_mul] at this
        generalize vz R * P u = z at *
        generalize (vz R).natAbs * 2 ^ u = y at *
        omega
    rw [e2, hq, hE]
    have h2 := Int.ofNat_le.2 h1
    rw [Int.natCast_add, Int.natCast_mul, Int.natCast_mul] at h2
    rw [Int.mul_comm]
    exact h2

theorem mul_pow_le {m n : Int} {j k t : Nat} (h : j + k = t) (hm : (m.natAbs : Int) ≤ P j) (hn : (n.natAbs : Int) ≤ P k) : m.natAbs * n.natAbs ≤ 2 ^ t := by
  have a := Int.ofNat_le.1 hm
  have b := Int.ofNat_le.1 hn
  have := Nat.mul_le_mul a b
  rwa [← Nat.pow_add, h] at this

theorem le_P {m t : Nat} (h : m ≤ 2 ^ t) : (m : Int) ≤ P t := Int.ofNat_le.2 h

theorem near_mul {x y R : Nat} (fx : fin x = true) (fy : fin y = true) (bx : ((vz x).natAbs : Int) ≤ P 1574) (bY : ((vz y).natAbs : Int) ≤ P 1574) (h : Res .mul x y R) : Near R (vz x * vz y) := by
  have hN := mul_pow_le (t := 2074 + 1074) (by decide) bx bY
  obtain ⟨z, h1, h2, h3, h4, h5⟩ := mul_fin fx fy (lt_top2 hN)
  have h1' : floatBits .mul .f64 x y = some z := h1
  have hz : R = z := by
    rcases h with h | ⟨h, _⟩
    · rw [h1'] at h; cases h; rfl
    · rw [h1'] at h; cases h
  subst hz
  refine ⟨h2, h5, near_mul_plain _ 1074 rfl (Int.natAbs_mul _ _) h3 ?_, ?_⟩
  · right
    have hR := vz_sign R
    have hx := vz_sign x
    have hy := vz_sign y
    rw [h4] at hR
    have hxy : 0 ≤ ((vz x).natAbs : Int) * ((vz y).natAbs : Int) := Int.mul_nonneg (by omega) (by omega)
    have hprod : vz x * vz y = if (sg x ^^ sg y) = true then -(((vz x).natAbs : Int) * ((vz y).natAbs : Int)) else ((vz x).natAbs : Int) * ((vz y).natAbs : Int) := by
      generalize ((vz x).natAbs : Int) = m at *
      generalize ((vz y).natAbs : Int) = n at *
      rw [hx, hy]
      cases sg x <;> cases sg y <;> simp [Int.neg_mul, Int.mul_neg]
    cases hs : (sg x ^^ sg y)
    · rw [hs] at hR hprod
      simp only [Bool.false_eq_true, if_false] at hR hprod
      left; omega
    · rw [hs] at hR hprod
      simp only [if_true] at hR hprod
      right; omega
  · rw [Int.natAbs_mul]
    exact le_P (mul_pow_le (t := 3148) (by decide) bx bY)

/-- The sign turned. -/
theorem turn_sign {y : Nat} (hy : y < 18446744073709551616) : vz ((y + 9223372036854775808) % 18446744073709551616) = -vz y ∧ fin ((y + 9223372036854775808) % 18446744073709551616) = fin y := by
  have e1 : (y + 9223372036854775808) % 18446744073709551616 % 9223372036854775808 = y % 9223372036854775808 := by omega
  have e2 : sg ((y + 9223372036854775808) % 18446744073709551616) = !sg y := by
    unfold sg
    by_cases h : y < 9223372036854775808
    · rw [show (y + 9223372036854775808) % 18446744073709551616 / 9223372036854775808 % 2 = 1 by omega, show y / 9223372036854775808 % 2 = 0 by omega]; rfl
    · rw [show (y + 9223372036854775808) % 18446744073709551616 / 9223372036854775808 % 2 = 0 by omega, show y / 9223372036854775808 % 2 = 1 by omega]; rfl
  refine ⟨?_, by unfold fin; rw [e1]⟩
  unfold vz
  rw [e1, e2]
  cases sg y <;> simp

theorem vz_tiny : vz 4503599627370496 = 4503599627370496 := by decide
theorem fin_tiny : fin 4503599627370496 = true := by decide

/-- What the law's last comparison wants. -/
theorem near_cmp {R : Nat} {E : Int} (h : Near R E) : Sgd (vz R * P 1074 - E) ∧ Sgd ((vz R * P 1074 - E).natAbs * P 53) ∧ Sgd E ∧ Sgd (E.natAbs + 4503599627370496 * P 1074) ∧ ((vz R * P 1074 - E).natAbs : Int) * P 53 ≤ (E.natAbs : Int) + 4503599627370496 * P 1074 := by
  obtain ⟨_, _, h3, h4⟩ := h
  have q1 : 4503599627370496 * P 1074 = P 1126 := by rw [show (1126 : Nat) = 52 + 1074 by decide, P_add, show P 52 = 4503599627370496 by decide]
  have q2 : P 1126 ≤ P 3148 := P_le (by decide)
  have q3 : P 3149 = 2 * P 3148 := P_succ 3148
  have q4 : P 3150 = 2 * P 3149 := P_succ 3149
  have q5 : P 3150 ≤ P 4351 := P_le (by decide)
  have hp := P_pos 3148
  have hd : (0 : Int) ≤ ((vz R * P 1074 - E).natAbs : Int) := by omega
  rw [p53] at h3 ⊢
  generalize vz R * P 1074 - E = d at *
  unfold Sgd
  exact ⟨⟨by omega, by omega⟩, ⟨by omega, by omega⟩, ⟨by omega, by omega⟩, ⟨by omega, by omega⟩, h3⟩

end Rn
