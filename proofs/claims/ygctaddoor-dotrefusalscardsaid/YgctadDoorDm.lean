import Derived.Test.YgctadDoorDn
namespace Rn
set_option linter.unusedVariables false

/-- The state of Dot2's loop: s the sum, C the sum of the errors, S the exact sum, M the sum of the sizes. -/
def Dot2R (j : Nat) (s C S M : Int) : Prop := ∃ E T Q E2 T2, Run j s M E T S ∧ Run j C Q E2 T2 T ∧ Q ≤ E

theorem Dot2R.start : Dot2R 0 0 0 0 0 := ⟨0, 0, 0, 0, 0, Run.start, Run.start, Int.le_refl _⟩

theorem Dot2R.step {j : Nat} {s C S M c s' f t : Int} (h : Dot2R j s C S M) (hj : j < 1024) (hs : s' = rn (s + rn c)) (hf : f = s + rn c - s') (ht : t = rn (f + (c - rn c))) :
    Dot2R (j + 1) s' (rn (C + t)) (S + c) (M + (c.natAbs : Int)) := by
  obtain ⟨E, T, Q, E2, T2, h1, h2, h3⟩ := h
  have k1 := h1.step (d := c) hj
  have k2 := h2.step (d := f + (c - rn c)) hj
  rw [← hs] at k1
  rw [← hf] at k1
  rw [← ht] at k2
  have e : T + (f + (c - rn c)) = T + (c - rn c) + f := by omega
  rw [e] at k2
  exact ⟨_, _, _, _, _, k1, k2, by omega⟩

theorem Dot2R.near {n : Nat} {s C S M : Int} (h : Dot2R n s C S M) :
    40564819207303340847894502572032 * ((rn (s + C) - S).natAbs : Int) ≤ 4503599627370496 * (S.natAbs : Int) + (n : Int) * (n : Int) * M := by
  obtain ⟨E, T, Q, E2, T2, ⟨a1, a2, a3, a4, a5, a6⟩, ⟨b1, b2, b3, b4, b5, b6⟩, h3⟩ := h
  have r := rn_rel (s + C)
  have x1 : (n : Int) * Q ≤ (n : Int) * E := Int.mul_le_mul_of_nonneg_left h3 (by omega)
  have x2 : (n : Int) * (4 * (9007199254740992 * E)) ≤ (n : Int) * (5 * ((n : Int) * M)) := Int.mul_le_mul_of_nonneg_left a5 (by omega)
  have eL : (n : Int) * (4 * (9007199254740992 * E)) = 4 * (9007199254740992 * ((n : Int) * E)) := by rw [Int.mul_left_comm, Int.mul_left_comm (n : Int) 9007199254740992]
  have eR : (n : Int) * (5 * ((n : Int) * M)) = 5 * ((n : Int) * (n : Int) * M) := by rw [Int.mul_left_comm, Int.mul_assoc]
  rw [eL, eR] at x2
  generalize (n : Int) * Q = X at *
  generalize (n : Int) * E = Y at *
  generalize (n : Int) * (n : Int) * M = Z at *
  generalize rn (s + C) = r' at *
  clear a2 a3 a4 a5 a6 b3 b4 b6 h3
  omega
end Rn
