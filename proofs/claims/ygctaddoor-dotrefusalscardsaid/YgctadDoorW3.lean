import Derived.Test.YgctadDoorW2
namespace Go.Proofs.YgctadDoor
open Go.RowKit
set_option linter.unusedSimpArgs false
set_option linter.unusedVariables false
attribute [local go_sem] Go.Fl.run_add Go.Fl.run_sub Go.Fl.run_mul run50 run52 Go.Fl.run_store_float

set_option maxHeartbeats 400000 in
theorem isNaN_any (p : Nat) (hp : p < 18446744073709551616) (w : World) :
    Calls Tadg.prog 15 #[.float .f64 p] w fun e w' => e = .returned (.bool (Fl.isNaN p)) ∧ w' = w := by
  go_enter Tadg.func15, Tadg.ntmps15
  go_wp2_with (go_at_call 24; refine (split64_any _ hp _).mono ?_; rintro e w' ⟨rfl, rfl⟩)
  go_ret
  exact ⟨by simp [Fl.cls_nan], rfl⟩

set_option maxHeartbeats 400000 in
theorem twoProd_any (a b : Nat) (w : World) :
    Calls Tadg.prog 41 #[.float .f64 a, .float .f64 b] w fun e w' => ∃ p ch dh ah al ci di bh bl t1 e1 t2 e2 t3 e3 t4 e4 n, e = .returned (.tuple #[.float .f64 p, .float .f64 e4]) ∧ w' = w.drewN n ∧
      Fl.Res .mul a b p ∧ (Fl.Res .mul 4728779608772575232 a ch ∧ Fl.Res .sub ch a dh ∧ Fl.Res .sub ch dh ah ∧ Fl.Res .sub a ah al) ∧
      (Fl.Res .mul 4728779608772575232 b ci ∧ Fl.Res .sub ci b di ∧ Fl.Res .sub ci di bh ∧ Fl.Res .sub b bh bl) ∧
      Fl.Res .mul ah bh t1 ∧ Fl.Res .sub t1 p e1 ∧ Fl.Res .mul ah bl t2 ∧ Fl.Res .add e1 t2 e2 ∧ Fl.Res .mul al bh t3 ∧ Fl.Res .add e2 t3 e3 ∧ Fl.Res .mul al bl t4 ∧ Fl.Res .add e3 t4 e4 := by
  go_enter Tadg.func41, Tadg.ntmps41
  go_wp2_with (go_at_call 20; refine (split_any _ _).mono ?_; rintro e w' ⟨c1, d1, hi1, lo1, n1, rfl, rfl, x1, x2, x3, x4⟩)
  go_ret2
  exact ⟨_, _, _, _, _, _, _, _, _, _, _, _, _, _, _, _, _, _, rfl, rfl, Fl.val_res .., ⟨by assumption, by assumption, by assumption, by assumption⟩, ⟨by assumption, by assumption, by assumption, by assumption⟩,
    Fl.val_res .., Fl.val_res .., Fl.val_res .., Fl.val_res .., Fl.val_res .., Fl.val_res .., Fl.val_res .., Fl.val_res ..⟩

end Go.Proofs.YgctadDoor
