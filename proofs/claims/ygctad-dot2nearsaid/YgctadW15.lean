import Derived.Test.YgctadW14
import Derived.Test.YgctadTs
namespace Go.Proofs.Ygctad
open Go.RowKit Go.Acc Rn
set_option linter.unusedSimpArgs false
set_option linter.unusedVariables false

theorem atMost_bd {x : Nat} {e : Int} {k : Nat} (hk : (e + 1074).toNat = k) (h : atMostB x e = true) : Rn.fin x = true ∧ ((vz x).natAbs : Int) ≤ P k := by
  unfold atMostB at h
  simp only [Bool.and_eq_true, decide_eq_true_eq] at h
  rw [hk] at h
  exact ⟨h.1, Int.ofNat_le.2 h.2⟩

set_option maxHeartbeats 1000000 in
theorem twoSumExact_walk (a b : Int) (ha : a.toNat < 18446744073709551616) (hb : b.toNat < 18446744073709551616) (w : World) :
    Calls Tadg.prog 8 #[.int .u64 a, .int .u64 b] w fun e w' => e = .returned (.bool true) ∧ Below w.heap.size w w' := by
  by_cases c1 : atMostB a.toNat 1022 = true
  · by_cases c2 : atMostB b.toNat 1022 = true
    · obtain ⟨fx, bx⟩ := atMost_bd (k := 2096) (by decide) c1
      obtain ⟨fy, bY⟩ := atMost_bd (k := 2096) (by decide) c2
      go_enter Tadg.func8, Tadg.ntmps8
      go_wp2_with (first
        | (go_at_call 27; refine (f64_any _ _).mono ?_; rintro e w' ⟨rfl, rfl⟩)
        | (go_at_call_of 33 (Value.float FloatKind.f64 a.toNat); refine (atMost_any _ ha 1022 (by omega) (by omega) _).mono ?_; rintro e w' ⟨rfl, rfl⟩)
        | (go_at_call_of 33 (Value.float FloatKind.f64 b.toNat); refine (atMost_any _ hb 1022 (by omega) (by omega) _).mono ?_; rintro e w' ⟨rfl, rfl⟩)
        | (go_at_call 37; refine (twoSum_any _ _ _).mono ?_; rintro e w' ⟨s, bb, aa, db, da, r, n, rfl, rfl, h1, h2, h3, h4, h5, h6⟩; have hT := twoSum_words fx fy bx bY h1 h2 h3 h4 h5 h6)
        | (go_at_call 38; refine (sumExact_any _ _ _ _ ha hb hT.2.1 hT.2.2.2.1 fx fy hT.1 hT.2.2.1 h1 hT.2.2.2.2.2 _).mono ?_; rintro e w' ⟨rfl, hB⟩))
      go_ret
      exact ⟨rfl, (below_drewN (Below.refl _ _) _).trans hB⟩
    · rw [Bool.not_eq_true] at c2
      go_enter Tadg.func8, Tadg.ntmps8
      go_wp2_with (first
        | (go_at_call 27; refine (f64_any _ _).mono ?_; rintro e w' ⟨rfl, rfl⟩)
        | (go_at_call_of 33 (Value.float FloatKind.f64 a.toNat); refine (atMost_any _ ha 1022 (by omega) (by omega) _).mono ?_; rintro e w' ⟨rfl, rfl⟩)
        | (go_at_call_of 33 (Value.float FloatKind.f64 b.toNat); refine (atMost_any _ hb 1022 (by omega) (by omega) _).mono ?_; rintro e w' ⟨rfl, rfl⟩))
      go_ret
      exact ⟨rfl, Below.refl _ _⟩
  · rw [Bool.not_eq_true] at c1
    go_enter Tadg.func8, Tadg.ntmps8
    go_wp2_with (first
      | (go_at_call 27; refine (f64_any _ _).mono ?_; rintro e w' ⟨rfl, rfl⟩)
      | (go_at_call_of 33 (Value.float FloatKind.f64 a.toNat); refine (atMost_any _ ha 1022 (by omega) (by omega) _).mono ?_; rintro e w' ⟨rfl, rfl⟩))
    go_ret
    exact ⟨rfl, Below.refl _ _⟩

end Go.Proofs.Ygctad
