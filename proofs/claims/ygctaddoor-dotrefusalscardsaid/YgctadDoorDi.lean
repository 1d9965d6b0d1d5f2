import Derived.Test.YgctadDoorW30
namespace Rn
open Go.Fl Go.Proofs.YgctadDoor
set_option linter.unusedVariables false

theorem p105 : P 105 = 40564819207303340847894502572032 := by decide
theorem p52 : P 52 = 4503599627370496 := by decide
theorem P3108 : P 3108 = P 2034 * P 1074 := by rw [← P_add]

/-- The sum of the products' sizes in the accumulator's scale. -/
def asum (fs gs : List Nat) : Nat → Int
  | 0 => 0
  | k + 1 => asum fs gs k + ((vz (fs.getD k 0) * vz (gs.getD k 0)).natAbs : Int)

theorem InR.le {n : Int} (h : InR n) : (n.natAbs : Int) ≤ P 1554 := by
  rcases h with rfl | h
  · have := P_pos 1554; simp; omega
  · exact h.2

theorem prod_c {x y : Nat} (rx : InR (vz x)) (ry : InR (vz y)) : ∃ c : Int, vz x * vz y = c * P 1074 ∧ (c.natAbs : Int) ≤ P 2034 := by
  have key : ∃ c : Int, vz x * vz y = c * P 1074 := by
    by_cases hz : vz x = 0 ∨ vz y = 0
    · refine ⟨0, ?_⟩
      rcases hz with hz | hz
      · rw [hz, Int.zero_mul, Int.zero_mul]
      · rw [hz, Int.mul_zero, Int.zero_mul]
    · have rx' := rx.resolve_left (fun h => hz (.inl h))
      have ry' := ry.resolve_left (fun h => hz (.inr h))
      obtain ⟨j, A, eA, a1, a2, j1, j2⟩ := normal_range (vz_F x) rx'.1 rx'.2
      obtain ⟨l, B, eB, b1, b2, l1, l2⟩ := normal_range (vz_F y) ry'.1 ry'.2
      obtain ⟨s, hs⟩ : ∃ s, j + l = s + 1074 := ⟨j + l - 1074, by omega⟩
      exact ⟨A * B * P s, by rw [eA, eB, Int.mul_assoc (A * B), ← P_add, ← hs, P_add, Int.mul_assoc, Int.mul_assoc, Int.mul_left_comm (P j)]⟩
  obtain ⟨c, hc⟩ := key
  refine ⟨c, hc, div_bound (u := 1074) (v := 2034) (mul_pow_le (j := 1554) (k := 1554) rfl rx.le ry.le) (by rw [← Int.natAbs_mul, hc, Int.natAbs_mul, natAbs_P]) rfl⟩

theorem prod_le {x y : Nat} (rx : InR (vz x)) (ry : InR (vz y)) : ((vz x * vz y).natAbs : Int) ≤ P 3108 := by
  rw [Int.natAbs_mul]
  exact le_P (mul_pow_le (t := 3108) (by decide) rx.le ry.le)

theorem Q4351 : 6277101735386680763835789423207666416102355444464034512896 * P 3108 ≤ P 4351 := by
  have : P 3300 = 6277101735386680763835789423207666416102355444464034512896 * P 3108 := by
    rw [show (3300 : Nat) = 192 + 3108 by decide, P_add]; rfl
  rw [← this]
  exact P_le (by decide)

theorem prod_sgd {x y : Nat} (rx : InR (vz x)) (ry : InR (vz y)) : Sgd (vz x * vz y) := by
  have h1 := prod_le rx ry
  have h2 := Q4351
  have h3 := P_pos 3108
  unfold Sgd
  generalize vz x * vz y = z at *
  exact ⟨by omega, by omega⟩

theorem sums {fs gs : List Nat} {n : Nat} (h : ∀ k, k < n → InR (vz (fs.getD k 0)) ∧ InR (vz (gs.getD k 0))) : ∀ k, k ≤ n →
    xsum fs gs k = ps fs gs k * P 1074 ∧ asum fs gs k = pa fs gs k * P 1074 ∧ ((xsum fs gs k).natAbs : Int) ≤ asum fs gs k ∧ asum fs gs k ≤ (k : Int) * P 3108 := by
  intro k
  induction k with
  | zero => intro _; exact ⟨by simp [xsum, ps], by simp [asum, pa], by simp [xsum, asum], by simp [asum]⟩
  | succ k ih =>
    intro hk
    obtain ⟨i1, i2, i3, i4⟩ := ih (by omega)
    obtain ⟨rx, ry⟩ := h k (by omega)
    obtain ⟨c, hc, bc⟩ := prod_c rx ry
    have ec := pc_eq hc
    have hl := prod_le rx ry
    unfold xsum asum ps pa
    rw [ec, Int.add_mul, Int.add_mul, ← natAbs_mul_P, ← hc, Int.natCast_add, Int.add_mul]
    generalize vz (fs.getD k 0) * vz (gs.getD k 0) = z at *
    exact ⟨by omega, by omega, by omega, by omega⟩

theorem dot2_cmp {fs gs : List Nat} {n s C r : Nat} (hn : n ≤ 1024) (h : ∀ k, k < n → InR (vz (fs.getD k 0)) ∧ InR (vz (gs.getD k 0))) (hD : Dst n s C (ps fs gs n) (pa fs gs n)) (hr : Res .add s C r) :
    fin r = true ∧ r < 18446744073709551616 ∧ Sgd (vz r * P 1074 - xsum fs gs n) ∧ Sgd (((vz r * P 1074 - xsum fs gs n).natAbs : Int) * P 105) ∧ Sgd (xsum fs gs n) ∧
    Sgd (((xsum fs gs n).natAbs : Int) * P 52 + asum fs gs n * ((n : Int) * (n : Int))) ∧
    ((vz r * P 1074 - xsum fs gs n).natAbs : Int) * P 105 ≤ ((xsum fs gs n).natAbs : Int) * P 52 + asum fs gs n * ((n : Int) * (n : Int)) := by
  obtain ⟨b1, b2⟩ := hD.bd hn
  have hP := P_pos 2034
  have r1 := rn_le2 (vz s + vz C)
  obtain ⟨fr, vr, lr⟩ := res_add hD.1 hD.2.2.1 (by rw [P2097']; omega) hr
  obtain ⟨e1, e2, e3, e4⟩ := sums h n (Nat.le_refl _)
  have hN := hD.2.2.2.2.1.near
  have hQ := Q4351
  have hQ0 := P_pos 3108
  have hp := P_pos 1074
  have vb : ((vz r * P 1074).natAbs : Int) ≤ 8192 * P 3108 := by
    rw [natAbs_mul_P, P3108, ← Int.mul_assoc]
    exact Int.mul_le_mul_of_nonneg_right (by rw [vr]; omega) (Int.le_of_lt hp)
  have ab : asum fs gs n ≤ 1024 * P 3108 := Int.le_trans e4 (Int.mul_le_mul_of_nonneg_right (by omega) (Int.le_of_lt hQ0))
  have nn : (n : Int) * (n : Int) ≤ 1024 * 1024 := Int.mul_le_mul (by omega) (by omega) (by omega) (by decide)
  have an : asum fs gs n * ((n : Int) * (n : Int)) ≤ 1024 * P 3108 * (1024 * 1024) := Int.mul_le_mul ab nn (Int.mul_nonneg (by omega) (by omega)) (by omega)
  have a0 : 0 ≤ asum fs gs n * ((n : Int) * (n : Int)) := Int.mul_nonneg (by omega) (Int.mul_nonneg (by omega) (by omega))
  have main : ((vz r * P 1074 - xsum fs gs n).natAbs : Int) * P 105 ≤ ((xsum fs gs n).natAbs : Int) * P 52 + asum fs gs n * ((n : Int) * (n : Int)) := by
    have h1 := Int.mul_le_mul_of_nonneg_right hN (Int.le_of_lt hp)
    rw [e1, e2, vr, ← Int.sub_mul, natAbs_mul_P, natAbs_mul_P, p105, p52]
    rw [Int.add_mul, Int.mul_assoc, Int.mul_assoc, Int.mul_assoc ((n : Int) * n)] at h1
    rw [Int.mul_comm (pa fs gs n * P 1074)]
    omega
  refine ⟨fr, lr, ?_, ?_, ?_, ?_, main⟩
  all_goals
    clear main hN hr hD
    first | rw [p105] | rw [p52] | skip
    unfold Sgd
    generalize vz r * P 1074 = A at *
    generalize xsum fs gs n = X at *
    generalize asum fs gs n * ((n : Int) * (n : Int)) = Z at *
    exact ⟨by omega, by omega⟩
end Rn
