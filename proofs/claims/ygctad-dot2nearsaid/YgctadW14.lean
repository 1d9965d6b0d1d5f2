import Derived.Test.YgctadW13
import Derived.Test.YgctadEq
namespace Go.Proofs.Ygctad
open Go.RowKit Go.Acc Rn
set_option linter.unusedSimpArgs false
set_option linter.unusedVariables false
attribute [local go_sem] Go.Fl.run_add Go.Fl.run_sub Go.Fl.run_mul

theorem run_acc_eq (f g : Nat → Int) (h : accC f = accC g) (w : World) : (binOp .eql 34 (.agg (accC f)) (.agg (accC g))).run Tadg.prog w = .ok (.bool true) w := by
  rw [run_eql_struct, h, run_eq_acc 9998 34 32 g Tadg.underlying34 Tadg.underlying32 (by kernel_rfl)]
  rfl

set_option maxHeartbeats 1000000 in
theorem sumExact_any (x y s e : Nat) (hx : x < 18446744073709551616) (hy : y < 18446744073709551616) (hs : s < 18446744073709551616) (he : e < 18446744073709551616)
    (fx : Rn.fin x = true) (fy : Rn.fin y = true) (fs : Rn.fin s = true) (fe : Rn.fin e = true) (hr : Fl.Res .add x y s) (heq : Hid (vz x + vz y = vz s + vz e)) (w : World) :
    Calls Tadg.prog 38 #[.float .f64 x, .float .f64 y, .float .f64 s, .float .f64 e] w fun r w' => r = .returned (.bool true) ∧ Below w.heap.size w w' := by
  have hsame : ∀ W : World, Fl.same s (Fl.val .add W x y) = true := fun W => hr.same (Fl.val_res ..) (.inl rfl) (Fl.same_refl _) (Fl.same_refl _)
  have hE : ∀ W : World, (binOp .eql 34 (.agg (accC (dig (vz x * P 1074 + vz y * P 1074)))) (.agg (accC (dig (vz s * P 1074 + vz e * P 1074))))).run Tadg.prog W = .ok (.bool true) W :=
    run_acc_eq _ _ (by rw [← Int.add_mul, ← Int.add_mul, heq.out])
  go_enter Tadg.func38, Tadg.ntmps38
  go_wp2_with (first
    | (go_at_call 13; refine (same_any _ _ _).mono ?_; rintro e w' ⟨rfl, rfl⟩)
    | (go_at_call_of 16 (Value.float FloatKind.f64 s); refine (finite_any _ hs _).mono ?_; rintro e w' ⟨rfl, rfl⟩)
    | (go_at_call_of 16 (Value.float FloatKind.f64 e); refine (finite_any _ he _).mono ?_; rintro e w' ⟨rfl, rfl⟩)
    | (go_at_call_of 35 (Value.float FloatKind.f64 y); refine (accSum_any x y hx fx hy fy _).mono ?_; rintro e w1 ⟨rfl, b1⟩)
    | (go_at_call_of 35 (Value.float FloatKind.f64 e); refine (accSum_any s e hs fs he fe _).mono ?_; rintro e w2 ⟨rfl, b2⟩))
  go_ret
  refine ⟨rfl, ?_⟩
  have b1' : Below w.heap.size w w1 := (below_drewN (Below.refl _ _) _).trans b1
  exact b1'.trans (b2.mono b1'.size)

end Go.Proofs.Ygctad
