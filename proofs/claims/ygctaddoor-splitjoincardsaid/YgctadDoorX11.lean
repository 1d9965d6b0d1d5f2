import Derived.Test.YgctadDoorX10
namespace Go.Proofs.YgctadDoor
open Go.RowKit
set_option linter.unusedSimpArgs false
set_option linter.unusedVariables false
theorem b1 {M : Nat} (hM : M < 16777216) : (M ||| 16777216) ||| 1 < 4294967296 := by
  have h : M ||| 16777216 < 2 ^ 25 := Nat.or_lt_two_pow (by omega) (by omega)
  have h2 : (M ||| 16777216) ||| 1 < 2 ^ 25 := Nat.or_lt_two_pow h (by decide)
  omega
theorem b2 {M : Nat} (hM : M < 16777216) : M ||| 1 < 4294967296 := by
  have h : M ||| 1 < 2 ^ 24 := Nat.or_lt_two_pow hM (by decide)
  omega
theorem or_two32 {M K : Nat} (hM : M < 4294967296) (hK : K < 4294967296) : bits .or .u32 (bits .or .u32 (M : Int) (K : Int)) ((1 : Nat) : Int) = (((M ||| K) ||| 1 : Nat) : Int) := by
  have h : M ||| K < 2 ^ 32 := Nat.or_lt_two_pow hM hK
  rw [u32_or_nat M K hM hK, u32_or_nat _ 1 h (by decide)]

theorem ref32 {M : Nat} (hM : M < 16777216) : Hid (∀ E : Int, E = -150 ∨ E = 128 → JoinTo (M ||| 1) E 24 (-149) 128 0 false) := by
  intro E hE
  rcases hE with rfl | rfl
  · have := refB (m := M) (q := 24) (p := 24) (l := -149) (t := 128) (by decide) hM (by decide) (by decide) (by decide)
    rw [show (-149 : Int) - 1 = -150 by decide] at this
    exact this
  · exact refC (m := M) (q := 24) (p := 24) (l := -149) (t := 128) (by decide) hM (by decide) (by decide) (by decide)
theorem ref32A {M : Nat} {e : Int} (hM : M < 16777216) (h1 : -40000 ≤ e) (h2 : e ≤ 40000) : Hid (JoinTo ((M ||| 16777216) ||| 1) e 24 (-149) 128 0 false) :=
  refA (m := M) (q := 24) (l := -149) (t := 128) (by decide) hM h1 h2

set_option maxHeartbeats 1000000 in
theorem splitJoin32_any (p : Nat) (hp : p < 4294967296) (w : World) (hT : Tab w) :
    Calls Tadg.prog 27 #[.int .u32 p] w fun x w' => ∃ n, x = .returned (.bool true) ∧ w' = w.drewN n := by
  have e1 := bits32_fld p hp
  have e2 := bits32_frc p hp
  have l1 := fld32_lt p
  have l2 := frc32_lt p
  have e6 : ((p : Int) / 2147483648 != 0) = decide (2147483648 ≤ p) := by rw [Bool.eq_iff_iff]; simp; omega
  have hQ : fld32 p ≠ 255 → Hid ((fld32 p * 8388608 + frc32 p + if decide (2147483648 ≤ p) then 2147483648 else 0) = p) := fun _ => by
    unfold fld32 frc32
    by_cases h : 2147483648 ≤ p
    · rw [decide_eq_true h]
      show _ + 2147483648 = p
      omega
    · rw [decide_eq_false h]
      show _ + 0 = p
      omega
  have n1 : isNaN32 p = (decide (fld32 p = 255) && decide (frc32 p ≠ 0)) := isNaN32_iff p
  by_cases c1 : fld32 p = 255
  · by_cases c2 : frc32 p = 0
    · rw [c1] at e1
      rw [c2] at e2
      exact sj32_inf p 0 _ hp w (by unfold spNeg32; rw [n1, c1, c2]; rfl) (by unfold spMan32; rw [if_pos c1]) (by unfold spExp32; rw [if_pos c1]) (by unfold spCls32; rw [if_pos c1, if_pos c2]) e1 e2 e6
    · rw [c1] at e1
      exact sj32_nan p (frc32 p) _ hp w (by unfold spNeg32; rw [n1, c1, decide_eq_true c2]; rfl) (by unfold spMan32; rw [if_pos c1]) (by unfold spExp32; rw [if_pos c1]) (by unfold spCls32; rw [if_pos c1, if_neg c2]) e1 e2 e6 (by omega)
  · have s1 : spNeg32 p = decide (2147483648 ≤ p) := by unfold spNeg32; rw [n1, decide_eq_false c1]; rfl
    have hQ' := hQ c1
    by_cases c3 : fld32 p = 0
    · rw [c3] at e1 hQ'
      rw [Nat.zero_mul, Nat.zero_add] at hQ'
      by_cases c2 : frc32 p = 0
      · rw [c2] at e2 hQ'
        exact sj32_zero p 0 _ _ _ (b1 (M := 0) (by omega)) (b2 (M := 0) (by omega)) hp w hT s1 (by unfold spMan32; rw [if_neg c1, if_pos c3, c2]) (by unfold spExp32; rw [if_neg c1, if_pos c3, if_pos c2]) (by unfold spCls32; rw [if_neg c1, if_pos c3, if_pos c2]) e1 e2 e6
          (joinTo_zero _ _ _ _) (by decide) hQ' (or_two32 (M := 0) (K := 16777216) (by decide) (by decide)) (u32_or_nat 0 1 (by decide) (by decide)) (ref32A (M := 0) (by decide) (by decide) (by decide)) (ref32 (M := 0) (by decide))
      · exact sj32_sub p (frc32 p) (frc32 p) _ _ _ (b1 (M := frc32 p) (by omega)) (b2 (M := frc32 p) (by omega)) hp w hT s1 (by unfold spMan32; rw [if_neg c1, if_pos c3]) (by unfold spExp32; rw [if_neg c1, if_pos c3, if_neg c2]) (by unfold spCls32; rw [if_neg c1, if_pos c3, if_neg c2]) e1 e2 e6 (by omega) l2
          (joinTo_sub (q := 23) c2 (by decide) l2 (by decide) (by decide) (by decide) (by decide) (by decide)) (by omega) hQ'
          (or_two32 (M := frc32 p) (K := 16777216) (by omega) (by decide)) (u32_or_nat _ 1 (by omega) (by decide)) (ref32A (by omega) (by decide) (by decide)) (ref32 (by omega))
    · have hJ : JoinTo (frc32 p + 8388608) ((fld32 p : Int) - 150) 24 (-149) 128 (fld32 p * 8388608 + frc32 p) true := by
        have := joinTo_norm (q := 23) (f := frc32 p) (F := fld32 p) (e := (fld32 p : Int) - 150) (p := 24) (l := -149) (t := 128) (by decide) l2 (by decide) (by omega) (by omega) (by omega) (by decide) (by decide) (by decide) (by omega) (by omega)
        rw [Nat.add_comm (2 ^ 23)] at this
        exact this
      exact sj32_norm p (fld32 p) (frc32 p) _ _ _ _ (b1 (M := frc32 p + 8388608) (by omega)) (b2 (M := frc32 p + 8388608) (by omega)) hp w hT s1 (by unfold spMan32; rw [if_neg c1, if_neg c3]) (by unfold spExp32; rw [if_neg c1, if_neg c3]) (by unfold spCls32; rw [if_neg c1, if_neg c3]) e1 e2 e6 (by omega) (by omega) l1 l2
          hJ (by omega) hQ' (or_two32 (M := frc32 p + 8388608) (K := 16777216) (by omega) (by decide)) (u32_or_nat (frc32 p + 8388608) 1 (by omega) (by decide)) (ref32A (by omega) (by omega) (by omega)) (ref32 (by omega))
end Go.Proofs.YgctadDoor
