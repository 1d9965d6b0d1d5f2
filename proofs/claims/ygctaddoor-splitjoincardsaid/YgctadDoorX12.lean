import Derived.Test.YgctadDoorX7
import Derived.Test.YgctadDoorX11
namespace Go.Proofs.YgctadDoor
open Go.RowKit
set_option linter.unusedSimpArgs false
set_option linter.unusedVariables false

set_option maxHeartbeats 1000000 in
theorem splitJoin_walk (x y : Nat) (hx : x < 18446744073709551616) (hy : y < 4294967296) (w : World) (hT : Tab w) :
    Calls Tadg.prog 6 #[.int .u64 x, .int .u32 y] w fun e w' => e = .returned (.bool true) ∧ Below w.heap.size w w' := by
  have HT : Hid (Tab w) := hT
  go_enter Tadg.func6, Tadg.ntmps6
  go_wp2_with (first
    | (go_at_call 26; refine (splitJoin64_any x hx _ HT.out).mono ?_; rintro e w' ⟨n1, rfl, rfl⟩)
    | (go_at_call 27; refine (splitJoin32_any y hy _ (HT.out.drewN _)).mono ?_; rintro e w' ⟨n2, rfl, rfl⟩))
  go_ret
  exact ⟨rfl, below_drewN (Below.refl _ _) _⟩
end Go.Proofs.YgctadDoor
