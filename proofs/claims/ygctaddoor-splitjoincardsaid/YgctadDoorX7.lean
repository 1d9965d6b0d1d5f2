import Derived.Test.YgctadDoorX6
namespace Go.Proofs.YgctadDoor
open Go.RowKit
set_option linter.unusedSimpArgs false
set_option linter.unusedVariables false

theorem or_two {M K : Nat} (hM : M < 18446744073709551616) (hK : K < 18446744073709551616) : bits .or .u64 (bits .or .u64 (M : Int) (K : Int)) ((1 : Nat) : Int) = (((M ||| K) ||| 1 : Nat) : Int) := by
  have h : M ||| K < 2 ^ 64 := Nat.or_lt_two_pow hM hK
  rw [u64_or_nat M K hM hK, u64_or_nat _ 1 h (by decide)]

theorem ref64 {M : Nat} (hM : M < 9007199254740992) : Hid (∀ E : Int, E = -1075 ∨ E = 1024 → JoinTo (M ||| 1) E 53 (-1074) 1024 0 false) := by
  intro E hE
  rcases hE with rfl | rfl
  · have := refB (m := M) (q := 53) (p := 53) (l := -1074) (t := 1024) (by decide) hM (by decide) (by decide) (by decide)
    rw [show (-1074 : Int) - 1 = -1075 by decide] at this
    exact this
  · exact refC (m := M) (q := 53) (p := 53) (l := -1074) (t := 1024) (by decide) hM (by decide) (by decide) (by decide)
theorem ref64A {M : Nat} {e : Int} (hM : M < 9007199254740992) (h1 : -40000 ≤ e) (h2 : e ≤ 40000) : Hid (JoinTo ((M ||| 9007199254740992) ||| 1) e 53 (-1074) 1024 0 false) :=
  refA (m := M) (q := 53) (l := -1074) (t := 1024) (by decide) hM h1 h2

set_option maxHeartbeats 1000000 in
theorem splitJoin64_any (p : Nat) (hp : p < 18446744073709551616) (w : World) (hT : Tab w) :
    Calls Tadg.prog 26 #[.int .u64 p] w fun x w' => ∃ n, x = .returned (.bool true) ∧ w' = w.drewN n := by
  have e1 := Fl.bits_fld p hp
  have e2 := Fl.bits_frc p hp
  have l1 := Fl.fld_lt p
  have l2 := Fl.frc_lt p
  have e6 : ((p : Int) / 9223372036854775808 != 0) = decide (9223372036854775808 ≤ p) := by rw [Bool.eq_iff_iff]; simp; omega
  have hQ : Fl.fld p ≠ 2047 → Hid ((Fl.fld p * 4503599627370496 + Fl.frc p + if decide (9223372036854775808 ≤ p) then 9223372036854775808 else 0) = p) := fun _ => by
    unfold Fl.fld Fl.frc
    by_cases h : 9223372036854775808 ≤ p
    · rw [decide_eq_true h]
      show _ + 9223372036854775808 = p
      omega
    · rw [decide_eq_false h]
      show _ + 0 = p
      omega
  have n1 : Fl.isNaN p = (decide (Fl.fld p = 2047) && decide (Fl.frc p ≠ 0)) := Fl.isNaN_iff p
  by_cases c1 : Fl.fld p = 2047
  · by_cases c2 : Fl.frc p = 0
    · rw [c1] at e1
      rw [c2] at e2
      exact sj64_inf p 0 _ hp w (by unfold Fl.spNeg; rw [n1, c1, c2]; rfl) (by unfold Fl.spMan; rw [if_pos c1]) (by unfold Fl.spExp; rw [if_pos c1]) (by unfold Fl.spCls; rw [if_pos c1, if_pos c2]) e1 e2 e6
    · rw [c1] at e1
      exact sj64_nan p (Fl.frc p) _ hp w (by unfold Fl.spNeg; rw [n1, c1, decide_eq_true c2]; rfl) (by unfold Fl.spMan; rw [if_pos c1]) (by unfold Fl.spExp; rw [if_pos c1]) (by unfold Fl.spCls; rw [if_pos c1, if_neg c2]) e1 e2 e6 (by omega)
  · have s1 : Fl.spNeg p = decide (9223372036854775808 ≤ p) := by unfold Fl.spNeg; rw [n1, decide_eq_false c1]; rfl
    have hQ' := hQ c1
    by_cases c3 : Fl.fld p = 0
    · rw [c3] at e1 hQ'
      rw [Nat.zero_mul, Nat.zero_add] at hQ'
      by_cases c2 : Fl.frc p = 0
      · rw [c2] at e2 hQ'
        exact sj64_zero p 0 _ _ _ hp w hT s1 (by unfold Fl.spMan; rw [if_neg c1, if_pos c3, c2]) (by unfold Fl.spExp; rw [if_neg c1, if_pos c3, if_pos c2]) (by unfold Fl.spCls; rw [if_neg c1, if_pos c3, if_pos c2]) e1 e2 e6
          (joinTo_zero _ _ _ _) (by decide) hQ' (or_two (M := 0) (K := 9007199254740992) (by decide) (by decide)) (u64_or_nat 0 1 (by decide) (by decide)) (ref64A (M := 0) (by decide) (by decide) (by decide)) (ref64 (M := 0) (by decide))
      · exact sj64_sub p (Fl.frc p) (Fl.frc p) _ _ _ hp w hT s1 (by unfold Fl.spMan; rw [if_neg c1, if_pos c3]) (by unfold Fl.spExp; rw [if_neg c1, if_pos c3, if_neg c2]) (by unfold Fl.spCls; rw [if_neg c1, if_pos c3, if_neg c2]) e1 e2 e6 (by omega) l2
          (joinTo_sub (q := 52) c2 (by decide) l2 (by decide) (by decide) (by decide) (by decide) (by decide)) (by omega) hQ'
          (or_two (M := Fl.frc p) (K := 9007199254740992) (by omega) (by decide)) (u64_or_nat _ 1 (by omega) (by decide)) (ref64A (by omega) (by decide) (by decide)) (ref64 (by omega))
    · have hJ : JoinTo (Fl.frc p + 4503599627370496) ((Fl.fld p : Int) - 1075) 53 (-1074) 1024 (Fl.fld p * 4503599627370496 + Fl.frc p) true := by
        have := joinTo_norm (q := 52) (f := Fl.frc p) (F := Fl.fld p) (e := (Fl.fld p : Int) - 1075) (p := 53) (l := -1074) (t := 1024) (by decide) l2 (by decide) (by omega) (by omega) (by omega) (by decide) (by decide) (by decide) (by omega) (by omega)
        rw [Nat.add_comm (2 ^ 52)] at this
        exact this
      exact sj64_norm p (Fl.fld p) (Fl.frc p) _ _ _ _ hp w hT s1 (by unfold Fl.spMan; rw [if_neg c1, if_neg c3]) (by unfold Fl.spExp; rw [if_neg c1, if_neg c3]) (by unfold Fl.spCls; rw [if_neg c1, if_neg c3]) e1 e2 e6 (by omega) (by omega) l1 l2
          hJ (by omega) hQ' (or_two (M := Fl.frc p + 4503599627370496) (K := 9007199254740992) (by omega) (by decide)) (u64_or_nat (Fl.frc p + 4503599627370496) 1 (by omega) (by decide)) (ref64A (by omega) (by omega) (by omega)) (ref64 (by omega))
end Go.Proofs.YgctadDoor
