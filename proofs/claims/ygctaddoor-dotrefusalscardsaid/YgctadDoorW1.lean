import Derived.Test.YgctadDoorRows
import Derived.Test.YgctadDoorFl
import Derived.WalkKit
import Derived.WalkSpells
import Derived.WalkLawsBesides
namespace Go.Proofs.YgctadDoor
open Go.RowKit
set_option linter.unusedSimpArgs false
set_option linter.unusedVariables false
attribute [local go_sem] Go.Fl.run_add Go.Fl.run_sub Go.Fl.run_mul

theorem run50 (a : Int) (w : World) : (callFunc 45 #[.int .u64 a]).run Tadg.prog w = .ok (.value (.float .f64 a.toNat)) w := by
  rw [run_callFunc_extern (e := Extern.MathFloatBits.float64frombits) Tadg.func45 (by kernel_rfl) (by kernel_rfl) (by kernel_rfl) (by kernel_rfl)]
  rfl
theorem run52 (a : Nat) (w : World) : (callFunc 64 #[.float .f64 a]).run Tadg.prog w = .ok (.value (.int .u64 a)) w := by
  rw [run_callFunc_extern (e := Extern.MathFloatBits.float64bits) Tadg.func64 (by kernel_rfl) (by kernel_rfl) (by kernel_rfl) (by kernel_rfl)]
  rfl
attribute [local go_sem] run50 run52

set_option maxHeartbeats 400000 in
theorem f64_any (a : Int) (w : World) :
    Calls Tadg.prog 18 #[.int .u64 a] w fun e w' => e = .returned (.float .f64 a.toNat) ∧ w' = w := by
  go_enter Tadg.func18, Tadg.ntmps18
  go_wp2
  go_ret
  exact ⟨rfl, rfl⟩

set_option maxHeartbeats 400000 in
theorem b64_any (a : Nat) (w : World) :
    Calls Tadg.prog 38 #[.float .f64 a] w fun e w' => e = .returned (.int .u64 a) ∧ w' = w := by
  go_enter Tadg.func38, Tadg.ntmps38
  go_wp2
  go_ret
  exact ⟨rfl, rfl⟩

set_option maxHeartbeats 400000 in
theorem twoSum_any (a b : Nat) (w : World) :
    Calls Tadg.prog 44 #[.float .f64 a, .float .f64 b] w fun e w' => ∃ s bb aa db da r n, e = .returned (.tuple #[.float .f64 s, .float .f64 r]) ∧ w' = w.drewN n ∧
      Fl.Res .add a b s ∧ Fl.Res .sub s a bb ∧ Fl.Res .sub s bb aa ∧ Fl.Res .sub b bb db ∧ Fl.Res .sub a aa da ∧ Fl.Res .add da db r := by
  go_enter Tadg.func44, Tadg.ntmps44
  go_wp2
  go_ret2
  exact ⟨_, _, _, _, _, _, _, rfl, rfl, Fl.val_res .., Fl.val_res .., Fl.val_res .., Fl.val_res .., Fl.val_res .., Fl.val_res ..⟩

set_option maxHeartbeats 400000 in
theorem same_any (a b : Nat) (w : World) :
    Calls Tadg.prog 11 #[.float .f64 a, .float .f64 b] w fun e w' => e = .returned (.bool (Fl.same a b)) ∧ w' = w := by
  go_enter Tadg.func11, Tadg.ntmps11
  go_wp2
  all_goals (go_ret; refine ⟨?_, rfl⟩; have hab : ((a : Int) = b) = (a = b) := by simp only [eq_iff_iff]; omega)
  all_goals simp_all [Fl.same, ← Fl.order_self]
  all_goals first | (rw [Bool.eq_iff_iff]; simp_all; done) | omega

set_option maxHeartbeats 400000 in
theorem split_any (a : Nat) (w : World) :
    Calls Tadg.prog 20 #[.float .f64 a] w fun e w' => ∃ c d hi lo n, e = .returned (.tuple #[.float .f64 hi, .float .f64 lo]) ∧ w' = w.drewN n ∧
      Fl.Res .mul 4728779608772575232 a c ∧ Fl.Res .sub c a d ∧ Fl.Res .sub c d hi ∧ Fl.Res .sub a hi lo := by
  go_enter Tadg.func20, Tadg.ntmps20
  go_wp2
  go_ret2
  exact ⟨_, _, _, _, _, rfl, rfl, Fl.val_res .., Fl.val_res .., Fl.val_res .., Fl.val_res ..⟩

set_option maxHeartbeats 400000 in
theorem split64_any (p : Nat) (hp : p < 18446744073709551616) (w : World) :
    Calls Tadg.prog 24 #[.float .f64 p] w fun e w' => e = .returned (.tuple #[.bool (Fl.spNeg p), .int .u64 (Fl.spMan p), .int .i16 (Fl.spExp p), .int .u8 (Fl.spCls p)]) ∧ w' = w := by
  have e1 := Fl.bits_fld p hp
  have e2 := Fl.bits_frc p hp
  have e3 := Fl.bits_man (Fl.frc p) (Fl.frc_lt p)
  have l1 := Fl.fld_lt p
  have e4 := Fl.wrap_i16 (Fl.fld p) (by omega) (by omega)
  have e5 := Fl.wrap_i16 ((Fl.fld p : Int) - 1075) (by omega) (by omega)
  have e6 : ((p : Int) / 9223372036854775808 != 0) = decide (9223372036854775808 ≤ p) := by rw [Bool.eq_iff_iff]; simp; omega
  have e7 : Fl.fld p = 2047 → Fl.frc p ≠ 0 → Fl.isNaN p = true := fun h h' => by rw [Fl.isNaN_iff]; simp [h, h']
  have e8 : ¬ (Fl.fld p = 2047 ∧ Fl.frc p ≠ 0) → Fl.isNaN p = false := fun h => by rw [Fl.isNaN_iff]; simp only [Bool.and_eq_false_iff, decide_eq_false_iff_not]; omega
  unfold Fl.spNeg Fl.spMan Fl.spExp Fl.spCls
  generalize Fl.fld p = F at *
  generalize Fl.frc p = M at *
  generalize Fl.isNaN p = N at *
  have b1 : ((M : Int) != 0) = decide (M ≠ 0) := by rw [Bool.eq_iff_iff]; simp
  have b2 : ((M : Int) == 0) = decide (M = 0) := by rw [Bool.eq_iff_iff]; simp
  have b3 : ((F : Int) != 0) = decide (F ≠ 0) := by rw [Bool.eq_iff_iff]; simp
  have b4 : ((F : Int) == 2047) = decide (F = 2047) := by rw [Bool.eq_iff_iff]; simp; omega
  by_cases c1 : F = 2047
  · subst c1
    by_cases c2 : M = 0
    · have e9 := e8 (by simp [c2])
      subst c2
      clear e7 e8
      go_enter Tadg.func24, Tadg.ntmps24
      go_wp2
      exact bodyPost_ret (v := .tuple #[.bool (decide (9223372036854775808 ≤ p)), .int .u64 0, .int .i16 0, .int .u8 2]) (by simp [results, Tadg.results24, go_sem, e6]) rfl ⟨by simp [e9], rfl⟩
    · have e9 := e7 rfl c2
      clear e7 e8
      go_enter Tadg.func24, Tadg.ntmps24
      go_wp2
      exact bodyPost_ret (v := .tuple #[.bool false, .int .u64 0, .int .i16 0, .int .u8 3]) (by simp [results, Tadg.results24, go_sem]) rfl ⟨by simp [e9, c2], rfl⟩
  · have e9 := e8 (by simp [c1])
    clear e7 e8
    by_cases c3 : F = 0
    · subst c3
      by_cases c2 : M = 0
      · subst c2
        go_enter Tadg.func24, Tadg.ntmps24
        go_wp2
        exact bodyPost_ret (v := .tuple #[.bool (decide (9223372036854775808 ≤ p)), .int .u64 0, .int .i16 0, .int .u8 0]) (by simp [results, Tadg.results24, go_sem, e6]) rfl ⟨by simp [e9], rfl⟩
      · go_enter Tadg.func24, Tadg.ntmps24
        go_wp2
        exact bodyPost_ret (v := .tuple #[.bool (decide (9223372036854775808 ≤ p)), .int .u64 M, .int .i16 (-1074), .int .u8 1]) (by simp [results, Tadg.results24, go_sem, e6]) rfl ⟨by simp [e9, c2], rfl⟩
    · go_enter Tadg.func24, Tadg.ntmps24
      go_wp2
      exact bodyPost_ret (v := .tuple #[.bool (decide (9223372036854775808 ≤ p)), .int .u64 (M + 4503599627370496), .int .i16 (F - 1075), .int .u8 1]) (by simp [results, Tadg.results24, go_sem, e6]) rfl ⟨by simp [e9, c1, c3], rfl⟩

end Go.Proofs.YgctadDoor
