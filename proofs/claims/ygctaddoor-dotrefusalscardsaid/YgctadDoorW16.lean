import Derived.Test.YgctadDoorW13
import Derived.Test.YgctadDoorTs
namespace Go.Proofs.YgctadDoor
open Go.RowKit Go.Acc Rn
set_option linter.unusedSimpArgs false
set_option linter.unusedVariables false
attribute [local go_sem] Go.Fl.run_add Go.Fl.run_sub Go.Fl.run_mul

set_option maxHeartbeats 400000 in
theorem fastTwoSum_any (a b : Nat) (w : World) :
    Calls Tadg.prog 66 #[.float .f64 a, .float .f64 b] w fun e w' => ∃ s z r n, e = .returned (.tuple #[.float .f64 s, .float .f64 r]) ∧ w' = w.drewN n ∧
      Fl.Res .add a b s ∧ Fl.Res .sub s a z ∧ Fl.Res .sub b z r := by
  go_enter Tadg.func66, Tadg.ntmps66
  go_wp2
  go_ret2
  exact ⟨_, _, _, _, rfl, rfl, Fl.val_res .., Fl.val_res .., Fl.val_res ..⟩

end Go.Proofs.YgctadDoor
