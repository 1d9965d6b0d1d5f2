import Derived.Test.YgctadDoorW18
import Derived.Test.YgctadDoorW5
import Derived.Test.YgctadDoorOr
import Derived.Test.YgctadDoorNr
import Derived.Laws.Unary
namespace Go.Proofs.YgctadDoor
open Go.RowKit Go.Acc Rn
set_option linter.unusedSimpArgs false
set_option linter.unusedVariables false
attribute [local go_sem] Go.Fl.run_add Go.Fl.run_sub Go.Fl.run_mul

/-- The order of two data, one of which is no number. -/
theorem zeroOr_fin {x : Nat} (fx : Rn.fin x = true) : zeroOrB x (-480) 480 = (decide (vz x = 0) || (decide (P 594 ≤ ((vz x).natAbs : Int)) && decide (((vz x).natAbs : Int) ≤ P 1554))) := by
  unfold zeroOrB atLeastB atMostB
  rw [fx, show ((-480 : Int) + 1074).toNat = 594 by decide, show ((480 : Int) + 1074).toNat = 1554 by decide]
  have h0 : decide (Fl.spCls x = 0) = decide (vz x = 0) := by
    rw [Bool.eq_iff_iff, decide_eq_true_eq, decide_eq_true_eq, cls_zero]; exact ⟨fun h => h.2, fun h => ⟨fx, h⟩⟩
  have h1 : decide (2 ^ 594 ≤ (vz x).natAbs) = decide (P 594 ≤ ((vz x).natAbs : Int)) := by
    rw [Bool.eq_iff_iff, decide_eq_true_eq, decide_eq_true_eq]; exact Int.ofNat_le.symm
  have h2 : decide ((vz x).natAbs ≤ 2 ^ 1554) = decide (((vz x).natAbs : Int) ≤ P 1554) := by
    rw [Bool.eq_iff_iff, decide_eq_true_eq, decide_eq_true_eq]; exact Int.ofNat_le.symm
  rw [h0, h1, h2]
  by_cases c : vz x = 0 <;> simp [c]

theorem zeroOr_nonfin {x : Nat} (fx : Rn.fin x = false) : zeroOrB x (-480) 480 = false := by
  have h1 : atMostB x 480 = false := by unfold atMostB; rw [fx, Bool.false_and]
  have h2 : decide (Fl.spCls x = 0) = false := by
    rw [decide_eq_false_iff_not]
    exact fun h => by have := ((cls_zero x).1 h).1; rw [fx] at this; cases this
  unfold zeroOrB
  rw [h1, h2, Bool.and_false, Bool.or_false]

theorem order_nan {x : Nat} (h : Fl.isNaN x = true) (y : Nat) : FloatKind.f64.format.order x y = none := by
  show (Ieee.double.read x).order (Ieee.double.read y) = none
  rcases Fl.read_cases x with ⟨_, s, f, e⟩ | ⟨h', _⟩
  · rw [e]; rfl
  · rw [h] at h'; cases h'
theorem read_inf {x : Nat} (hx : x < 18446744073709551616) (fx : Rn.fin x = false) (hn : Fl.isNaN x = false) : Ieee.double.read x = .infinity (sg x) := by
  unfold Rn.fin at fx
  unfold Fl.isNaN at hn
  simp only [decide_eq_false_iff_not] at fx hn
  unfold Ieee.Format.read sg
  have e1 : Ieee.double.signWeight = 9223372036854775808 := by decide +kernel
  have e2 : Ieee.double.binade = 4503599627370496 := by decide +kernel
  simp only [e1, e2, infRung_eq]
  rw [if_neg (by omega), if_neg (by omega), if_pos (by omega)]
theorem order_inf {x y : Nat} (hx : x < 18446744073709551616) (fx : Rn.fin x = false) (hn : Fl.isNaN x = false) (fy : Rn.fin y = true) : FloatKind.f64.format.order x y = some (if sg x then .lt else .gt) := by
  show (Ieee.double.read x).order (Ieee.double.read y) = _
  obtain ⟨m, p, hr, _⟩ := read_fin y fy
  rw [read_inf hx fx hn, hr]; rfl

/-- 'x == 0 || x >= lo && x <= hi' of a word that is not negative. -/
theorem range_ge {y : Nat} (fy : Rn.fin y = true) (h0 : 0 ≤ vz y) :
    (FloatKind.f64.format.order y 0 == some Ordering.eq) = decide (vz y = 0) ∧
    (FloatKind.f64.format.order y 2445454597662179328 == some Ordering.gt || FloatKind.f64.format.order y 2445454597662179328 == some Ordering.eq) = decide (P 594 ≤ ((vz y).natAbs : Int)) ∧
    (FloatKind.f64.format.order y 6768910239937855488 == some Ordering.lt || FloatKind.f64.format.order y 6768910239937855488 == some Ordering.eq) = decide (((vz y).natAbs : Int) ≤ P 1554) := by
  rw [order_fin fy fin_zero, order_fin fy fin_lo, order_fin fy fin_hi, vz_zero, vz_lo, vz_hi, cmp_eq, cmp_gt, cmp_eq, cmp_lt, cmp_eq]
  have hp := P_pos 594
  have hq := P_pos 1554
  refine ⟨rfl, ?_, ?_⟩
  · rw [Bool.eq_iff_iff]; simp only [Bool.or_eq_true, decide_eq_true_eq]; omega
  · rw [Bool.eq_iff_iff]; simp only [Bool.or_eq_true, decide_eq_true_eq]; omega

set_option maxHeartbeats 1000000 in
theorem inRange_pos (y : Nat) (Z : Bool) (hl : (FloatKind.f64.format.order y 0 == some Ordering.lt) = false)
    (hZ : ((FloatKind.f64.format.order y 0 == some Ordering.eq) || ((FloatKind.f64.format.order y 2445454597662179328 == some Ordering.gt || FloatKind.f64.format.order y 2445454597662179328 == some Ordering.eq) &&
      (FloatKind.f64.format.order y 6768910239937855488 == some Ordering.lt || FloatKind.f64.format.order y 6768910239937855488 == some Ordering.eq))) = Z) (w : World) :
    Calls Tadg.prog 65 #[.float .f64 y] w fun e w' => e = .returned (.bool Z) ∧ w' = w := by
  have HZ : Hid (((FloatKind.f64.format.order y 0 == some Ordering.eq) || ((FloatKind.f64.format.order y 2445454597662179328 == some Ordering.gt || FloatKind.f64.format.order y 2445454597662179328 == some Ordering.eq) &&
      (FloatKind.f64.format.order y 6768910239937855488 == some Ordering.lt || FloatKind.f64.format.order y 6768910239937855488 == some Ordering.eq))) = Z) := hZ
  clear hZ
  go_enter Tadg.func65, Tadg.ntmps65
  go_wp2
  all_goals
    go_ret
    refine ⟨?_, rfl⟩
    rw [← HZ.out]
    simp_all

set_option maxHeartbeats 1000000 in
theorem inRange_neg (x y : Nat) (Z : Bool) (hy : Go.Op.negFloat .f64 x = y) (hl : (FloatKind.f64.format.order x 0 == some Ordering.lt) = true)
    (hZ : ((FloatKind.f64.format.order y 0 == some Ordering.eq) || ((FloatKind.f64.format.order y 2445454597662179328 == some Ordering.gt || FloatKind.f64.format.order y 2445454597662179328 == some Ordering.eq) &&
      (FloatKind.f64.format.order y 6768910239937855488 == some Ordering.lt || FloatKind.f64.format.order y 6768910239937855488 == some Ordering.eq))) = Z) (w : World) :
    Calls Tadg.prog 65 #[.float .f64 x] w fun e w' => e = .returned (.bool Z) ∧ w' = w := by
  have HZ : Hid (((FloatKind.f64.format.order y 0 == some Ordering.eq) || ((FloatKind.f64.format.order y 2445454597662179328 == some Ordering.gt || FloatKind.f64.format.order y 2445454597662179328 == some Ordering.eq) &&
      (FloatKind.f64.format.order y 6768910239937855488 == some Ordering.lt || FloatKind.f64.format.order y 6768910239937855488 == some Ordering.eq))) = Z) := hZ
  clear hZ
  have hu : Op.unary .neg (.float .f64 x) = pure (.float .f64 y) := by rw [← hy]; rfl
  clear hy
  go_enter Tadg.func65, Tadg.ntmps65
  go_wp2
  all_goals
    go_ret
    refine ⟨?_, rfl⟩
    rw [← HZ.out]
    simp_all

theorem inRange_any (x : Nat) (hx : x < 18446744073709551616) (w : World) :
    Calls Tadg.prog 65 #[.float .f64 x] w fun e w' => e = .returned (.bool (zeroOrB x (-480) 480)) ∧ w' = w := by
  obtain ⟨tv, tf⟩ := turn_sign hx
  have hn := negFloat_eq x hx
  cases fx : Rn.fin x
  · rw [zeroOr_nonfin fx]
    cases hN : Fl.isNaN x
    · cases hs : sg x
      · refine inRange_pos x false ?_ ?_ w
        · rw [order_inf hx fx hN fin_zero, hs]; rfl
        · rw [order_inf hx fx hN fin_zero, order_inf hx fx hN fin_lo, order_inf hx fx hN fin_hi, hs]; rfl
      · have hy : (x + 9223372036854775808) % 18446744073709551616 < 18446744073709551616 := Nat.mod_lt _ (by decide)
        have fy : Rn.fin ((x + 9223372036854775808) % 18446744073709551616) = false := by rw [tf]; exact fx
        have e1 : (x + 9223372036854775808) % 18446744073709551616 % 9223372036854775808 = x % 9223372036854775808 := by omega
        have hN' : Fl.isNaN ((x + 9223372036854775808) % 18446744073709551616) = false := by unfold Fl.isNaN at *; rw [e1]; exact hN
        have hs' : sg ((x + 9223372036854775808) % 18446744073709551616) = false := by
          unfold sg at *
          rw [beq_iff_eq] at hs
          rw [beq_eq_false_iff_ne]; omega
        refine inRange_neg x _ false hn ?_ ?_ w
        · rw [order_inf hx fx hN fin_zero, hs]; rfl
        · rw [order_inf hy fy hN' fin_zero, order_inf hy fy hN' fin_lo, order_inf hy fy hN' fin_hi, hs']; rfl
    · refine inRange_pos x false ?_ ?_ w
      · rw [order_nan hN]; rfl
      · rw [order_nan hN, order_nan hN, order_nan hN]; rfl
  · rw [zeroOr_fin fx]
    have hlt : (FloatKind.f64.format.order x 0 == some Ordering.lt) = decide (vz x < 0) := by rw [order_fin fx fin_zero, vz_zero, cmp_lt]
    by_cases h0 : vz x < 0
    · have fy : Rn.fin ((x + 9223372036854775808) % 18446744073709551616) = true := by rw [tf]; exact fx
      obtain ⟨r1, r2, r3⟩ := range_ge fy (by rw [tv]; omega)
      refine inRange_neg x _ _ hn (by rw [hlt]; simpa using h0) ?_ w
      have ez : decide (-vz x = 0) = decide (vz x = 0) := by rw [Bool.eq_iff_iff, decide_eq_true_eq, decide_eq_true_eq]; omega
      rw [r1, r2, r3, tv, Int.natAbs_neg, ez]
    · obtain ⟨r1, r2, r3⟩ := range_ge fx (by omega)
      refine inRange_pos x _ (by rw [hlt]; simpa using h0) ?_ w
      rw [r1, r2, r3]

end Go.Proofs.YgctadDoor
