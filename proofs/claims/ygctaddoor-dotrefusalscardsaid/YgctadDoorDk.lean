import Derived.Test.YgctadDoorDl
namespace Rn
open Go.Fl
set_option linter.unusedVariables false

/-- The state of Dot2's loop in words. -/
def Dst (k : Nat) (s C : Nat) (S M : Int) : Prop :=
  fin s = true ∧ s < 18446744073709551616 ∧ fin C = true ∧ C < 18446744073709551616 ∧ Dot2R k (vz s) (vz C) S M ∧ M ≤ (k : Int) * P 2034

theorem P2096 : P 2096 = 4611686018427387904 * P 2034 := by
  rw [show (2096 : Nat) = 62 + 2034 by decide, P_add]; rfl
theorem P2097' : P 2097 = 9223372036854775808 * P 2034 := by
  rw [show (2097 : Nat) = 63 + 2034 by decide, P_add]; rfl

theorem Dst.bd {k s C : Nat} {S M : Int} (h : Dst k s C S M) (hk : k ≤ 1024) : ((vz s).natAbs : Int) ≤ 2048 * P 2034 ∧ ((vz C).natAbs : Int) ≤ 2048 * P 2034 := by
  obtain ⟨_, _, _, _, h1, h2⟩ := h
  obtain ⟨a1, a2, a3⟩ := h1.small hk
  have hp := P_pos 2034
  have x1 : (k : Int) * P 2034 ≤ 1024 * P 2034 := Int.mul_le_mul_of_nonneg_right (by omega) (by omega)
  generalize (k : Int) * P 2034 = x at *
  exact ⟨by omega, by omega⟩

theorem Dst.step {k s C p e t f g C' : Nat} {S M c : Int} (h : Dst k s C S M) (hk : k < 1024) (hc : (c.natAbs : Int) ≤ P 2034)
    (fe : fin e = true) (hp : vz p = rn c) (he : vz e = c - rn c)
    (ft : fin t = true) (lt : t < 18446744073709551616) (ff : fin f = true) (ht : vz t = rn (vz s + vz p)) (hs : vz s + vz p = vz t + vz f)
    (h1 : Res .add f e g) (h2 : Res .add C g C') : Dst (k + 1) t C' (S + c) (M + (c.natAbs : Int)) := by
  obtain ⟨b1, b2⟩ := h.bd (by omega)
  obtain ⟨fs, ls, fC, lC, hD, hM⟩ := h
  have hP := P_pos 2034
  have r1 := rn_le2 c
  have r2 := rn_le2 (vz s + rn c)
  rw [hp] at ht hs
  have hf : vz f = vz s + rn c - vz t := by omega
  have bf : ((vz f + vz e).natAbs : Int) ≤ 8192 * P 2034 := by rw [he]; omega
  have r3 := rn_le2 (vz f + vz e)
  obtain ⟨g1, g2, g3⟩ := res_add ff fe (by rw [P2097']; omega) h1
  have r4 := rn_le2 (vz C + vz g)
  obtain ⟨k1, k2, k3⟩ := res_add fC g1 (by rw [P2097']; rw [g2] at r4 ⊢; omega) h2
  refine ⟨ft, lt, k1, k3, ?_, ?_⟩
  · rw [k2]
    exact hD.step hk ht hf (by rw [g2, he])
  · rw [Int.natCast_add, Int.add_mul]; omega
end Rn
