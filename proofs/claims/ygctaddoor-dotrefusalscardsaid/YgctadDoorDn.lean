import Derived.Test.YgctadDoorNr
namespace Rn
set_option linter.unusedVariables false

/-- One state of the running sum z' = rn (z + rn d): the sum z, the sum A of the sizes, the sum E of the errors' sizes, the sum T of the errors, after j terms. -/
def Run (j : Nat) (z A E T S : Int) : Prop :=
  z + T = S ∧ (T.natAbs : Int) ≤ E ∧ 0 ≤ A ∧ 9007199254740992 * (z.natAbs : Int) ≤ 9007199254740992 * A + 3 * ((j : Int) * A) ∧
    4 * (9007199254740992 * E) ≤ 5 * ((j : Int) * A) ∧ (j = 0 → z = 0)

theorem Run.start : Run 0 0 0 0 0 0 := by
  refine ⟨rfl, by decide, by decide, by decide, by decide, fun _ => rfl⟩

theorem rn_idem (n : Int) : rn (rn n) = rn n := rn_id (rn_F n)

theorem Run.step {j : Nat} {z A E T S d : Int} (h : Run j z A E T S) (hj : j < 1024) :
    Run (j + 1) (rn (z + rn d)) (A + (d.natAbs : Int)) (E + ((d - rn d).natAbs : Int) + ((z + rn d - rn (z + rn d)).natAbs : Int)) (T + (d - rn d) + (z + rn d - rn (z + rn d))) (S + d) := by
  obtain ⟨h1, h2, h3, h4, h5, h6⟩ := h
  have r1 := rn_rel d
  have r2 := rn_rel (z + rn d)
  have r3 : j = 0 → rn (z + rn d) = z + rn d := fun h => by rw [h6 h, Int.zero_add, rn_idem]
  have e1 : ((j + 1 : Nat) : Int) * (A + (d.natAbs : Int)) = (j : Int) * A + (j : Int) * (d.natAbs : Int) + A + (d.natAbs : Int) := by
    rw [Int.natCast_add, Int.add_mul, Int.mul_add]; simp; omega
  have y1 : 0 ≤ (j : Int) * (d.natAbs : Int) := Int.mul_nonneg (by omega) (by omega)
  have y2 : 1 ≤ j → (d.natAbs : Int) ≤ (j : Int) * (d.natAbs : Int) := fun h => by
    have := Int.mul_le_mul_of_nonneg_right (show (1 : Int) ≤ j by omega) (show 0 ≤ (d.natAbs : Int) by omega)
    omega
  have x1 : (j : Int) * A ≤ 1024 * A := Int.mul_le_mul_of_nonneg_right (by omega) h3
  have y3 : (j : Int) * (d.natAbs : Int) ≤ 1024 * (d.natAbs : Int) := Int.mul_le_mul_of_nonneg_right (by omega) (by omega)
  have x0 : 0 ≤ (j : Int) * A := Int.mul_nonneg (by omega) h3
  unfold Run
  rw [e1]
  generalize (j : Int) * A = x at *
  generalize (j : Int) * (d.natAbs : Int) = y at *
  generalize hz : rn (z + rn d) = z' at *
  generalize rn d = p at *
  refine ⟨by omega, by omega, by omega, by omega, ?_, by omega⟩
  by_cases hj0 : j = 0
  · have := r3 hj0
    omega
  · have := y2 (by omega)
    omega
end Rn
