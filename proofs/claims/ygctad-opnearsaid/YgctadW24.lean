import Derived.Test.YgctadW23
namespace Go.Proofs.Ygctad
open Go.RowKit Go.Acc Rn
set_option linter.unusedSimpArgs false
set_option linter.unusedVariables false

set_option maxRecDepth 100000 in
set_option maxHeartbeats 1000000 in
theorem opNear_walk (op a b : Int) (hop0 : 0 ≤ op) (hop : op < 256) (hb0 : Word b) (ha : a.toNat < 18446744073709551616) (w : World) :
    Calls Tadg.prog 7 #[.int .u8 op, .int .u64 a, .int .u64 b] w fun e w' => e = .returned (.bool true) ∧ Below w.heap.size w w' := by
  have hb : b.toNat < 18446744073709551616 := by have := hb0.1; have := hb0.2; omega
  by_cases c1 : atMostB a.toNat 500 = true
  · by_cases c2 : atMostB b.toNat 500 = true
    · exact opNear_main op a b hop0 hop hb0 ha hb c1 c2 w
    · rw [Bool.not_eq_true] at c2
      go_enter Tadg.func7, Tadg.ntmps7
      go_wp2_with (first
        | (go_at_call 27; refine (f64_any _ _).mono ?_; rintro e w' ⟨rfl, rfl⟩)
        | (go_at_call_of 33 (Value.float FloatKind.f64 a.toNat); refine (atMost_any _ ha 500 (by omega) (by omega) _).mono ?_; rintro e w' ⟨rfl, rfl⟩)
        | (go_at_call_of 33 (Value.float FloatKind.f64 b.toNat); refine (atMost_any _ hb 500 (by omega) (by omega) _).mono ?_; rintro e w' ⟨rfl, rfl⟩))
      go_ret
      exact ⟨rfl, Below.refl _ _⟩
  · rw [Bool.not_eq_true] at c1
    go_enter Tadg.func7, Tadg.ntmps7
    go_wp2_with (first
      | (go_at_call 27; refine (f64_any _ _).mono ?_; rintro e w' ⟨rfl, rfl⟩)
      | (go_at_call_of 33 (Value.float FloatKind.f64 a.toNat); refine (atMost_any _ ha 500 (by omega) (by omega) _).mono ?_; rintro e w' ⟨rfl, rfl⟩))
    go_ret
    exact ⟨rfl, Below.refl _ _⟩

end Go.Proofs.Ygctad
