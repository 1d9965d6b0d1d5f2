import Derived.Test.YgctadDoorDm
namespace Rn
set_option linter.unusedVariables false

theorem Run.small {j : Nat} {z A E T S : Int} (h : Run j z A E T S) (hj : j ≤ 1024) : (z.natAbs : Int) ≤ 2 * A ∧ E ≤ A ∧ 0 ≤ A := by
  obtain ⟨h1, h2, h3, h4, h5, h6⟩ := h
  have x1 : (j : Int) * A ≤ 1024 * A := Int.mul_le_mul_of_nonneg_right (by omega) h3
  generalize (j : Int) * A = x at *
  exact ⟨by omega, by omega, h3⟩
theorem Dot2R.small {j : Nat} {s C S M : Int} (h : Dot2R j s C S M) (hj : j ≤ 1024) : (s.natAbs : Int) ≤ 2 * M ∧ (C.natAbs : Int) ≤ 2 * M ∧ 0 ≤ M := by
  obtain ⟨E, T, Q, E2, T2, h1, h2, h3⟩ := h
  obtain ⟨a1, a2, a3⟩ := h1.small hj
  obtain ⟨b1, b2, b3⟩ := h2.small hj
  exact ⟨by omega, by omega, a3⟩
theorem rn_le2 (n : Int) : ((rn n).natAbs : Int) ≤ 2 * (n.natAbs : Int) := by
  have := rn_rel n
  omega
end Rn
