import Derived.Test.YgctadDoorX5
namespace Go.Proofs.YgctadDoor
open Go.RowKit
set_option linter.unusedSimpArgs false
set_option linter.unusedVariables false

def fld32 (p : Nat) : Nat := p / 8388608 % 256
def frc32 (p : Nat) : Nat := p % 8388608
def isNaN32 (p : Nat) : Bool := decide (fld32 p = 255) && decide (frc32 p ≠ 0)
def spNeg32 (p : Nat) : Bool := !isNaN32 p && decide (2147483648 ≤ p)
def spMan32 (p : Nat) : Nat := if fld32 p = 255 then 0 else if fld32 p = 0 then frc32 p else frc32 p + 8388608
def spExp32 (p : Nat) : Int := if fld32 p = 255 then 0 else if fld32 p = 0 then (if frc32 p = 0 then 0 else -149) else fld32 p - 150
def spCls32 (p : Nat) : Nat := if fld32 p = 255 then (if frc32 p = 0 then 2 else 3) else if fld32 p = 0 then (if frc32 p = 0 then 0 else 1) else 1
theorem isNaN32_iff (p : Nat) : isNaN32 p = (decide (fld32 p = 255) && decide (frc32 p ≠ 0)) := rfl
theorem fld32_lt (p : Nat) : fld32 p < 256 := Nat.mod_lt _ (by decide)
theorem frc32_lt (p : Nat) : frc32 p < 8388608 := Nat.mod_lt _ (by decide)
theorem bits32_fld (p : Nat) (hp : p < 4294967296) : bits .and .u32 ((p : Int) / 8388608) 255 = (fld32 p : Int) := by
  have := u32_and_nat (p / 8388608) 255 (by omega) (by decide)
  rw [show p / 8388608 &&& 255 = p / 8388608 % 256 from Nat.and_two_pow_sub_one_eq_mod _ 8] at this
  simpa [fld32] using this
theorem bits32_frc (p : Nat) (hp : p < 4294967296) : bits .and .u32 (p : Int) 8388607 = (frc32 p : Int) := by
  have := u32_and_nat p 8388607 (by omega) (by decide)
  rw [show p &&& 8388607 = p % 8388608 from Nat.and_two_pow_sub_one_eq_mod p 23] at this
  simpa [frc32] using this
theorem bits32_man (m : Nat) (hm : m < 8388608) : bits .or .u32 (m : Int) 8388608 = ((m + 8388608 : Nat) : Int) := by
  have := u32_or_nat m 8388608 (by omega) (by decide)
  rw [Nat.or_comm, nat_join 23 8388608 m (by decide) hm, Nat.add_comm] at this
  exact this
theorem or31 {R : Nat} (h : R < 2147483648) : bits .or .u32 (R : Int) 2147483648 = ((R + 2147483648 : Nat) : Int) := by
  have := u32_or_nat R 2147483648 (by omega) (by decide)
  rw [Nat.or_comm, nat_join 31 2147483648 R (by decide) h, Nat.add_comm] at this
  exact this
theorem run70 (a : Int) (w : World) : (callFunc 70 #[.int .u32 a]).run Tadg.prog w = .ok (.value (.float .f32 a.toNat)) w := by
  rw [run_callFunc_extern (e := Extern.MathFloatBits.float32frombits) Tadg.func70 (by kernel_rfl) (by kernel_rfl) (by kernel_rfl) (by kernel_rfl)]
  rfl
theorem run72 (a : Nat) (w : World) : (callFunc 72 #[.float .f32 a]).run Tadg.prog w = .ok (.value (.int .u32 a)) w := by
  rw [run_callFunc_extern (e := Extern.MathFloatBits.float32bits) Tadg.func72 (by kernel_rfl) (by kernel_rfl) (by kernel_rfl) (by kernel_rfl)]
  rfl
attribute [local go_sem] run70 run72
theorem f32_any (a : Int) (w : World) : Calls Tadg.prog 53 #[.int .u32 a] w fun e w' => e = .returned (.float .f32 a.toNat) ∧ w' = w := by
  go_enter Tadg.func53, Tadg.ntmps53
  go_wp2
  go_ret
  exact ⟨rfl, rfl⟩
theorem from32_any (a : Int) (w : World) : Calls Tadg.prog 71 #[.int .u32 a] w fun e w' => e = .returned (.float .f32 a.toNat) ∧ w' = w := by
  go_enter Tadg.func71, Tadg.ntmps71
  go_wp2
  go_ret
  exact ⟨rfl, rfl⟩
theorem b32_any (a : Nat) (w : World) : Calls Tadg.prog 55 #[.float .f32 a] w fun e w' => e = .returned (.int .u32 a) ∧ w' = w := by
  go_enter Tadg.func55, Tadg.ntmps55
  go_wp2
  go_ret
  exact ⟨rfl, rfl⟩
theorem bits32_any (a : Nat) (w : World) : Calls Tadg.prog 69 #[.float .f32 a] w fun e w' => e = .returned (.int .u32 a) ∧ w' = w := by
  go_enter Tadg.func69, Tadg.ntmps69
  go_wp2
  go_ret
  exact ⟨rfl, rfl⟩
set_option maxHeartbeats 400000 in
theorem split32_any (p : Nat) (hp : p < 4294967296) (w : World) :
    Calls Tadg.prog 52 #[.float .f32 p] w fun e w' => e = .returned (.tuple #[.bool (spNeg32 p), .int .u32 (spMan32 p), .int .i16 (spExp32 p), .int .u8 (spCls32 p)]) ∧ w' = w := by
  have e1 := bits32_fld p hp
  have e2 := bits32_frc p hp
  have e3 := bits32_man (frc32 p) (frc32_lt p)
  have l1 := fld32_lt p
  have e4 := Fl.wrap_i16 (fld32 p) (by omega) (by omega)
  have e5 := Fl.wrap_i16 ((fld32 p : Int) - 150) (by omega) (by omega)
  have e6 : ((p : Int) / 2147483648 != 0) = decide (2147483648 ≤ p) := by rw [Bool.eq_iff_iff]; simp; omega
  have e7 : fld32 p = 255 → frc32 p ≠ 0 → isNaN32 p = true := fun h h' => by rw [isNaN32_iff]; simp [h, h']
  have e8 : ¬ (fld32 p = 255 ∧ frc32 p ≠ 0) → isNaN32 p = false := fun h => by rw [isNaN32_iff]; simp only [Bool.and_eq_false_iff, decide_eq_false_iff_not]; omega
  unfold spNeg32 spMan32 spExp32 spCls32
  generalize fld32 p = F at *
  generalize frc32 p = M at *
  generalize isNaN32 p = N at *
  have b1 : ((M : Int) != 0) = decide (M ≠ 0) := by rw [Bool.eq_iff_iff]; simp
  have b2 : ((M : Int) == 0) = decide (M = 0) := by rw [Bool.eq_iff_iff]; simp
  have b3 : ((F : Int) != 0) = decide (F ≠ 0) := by rw [Bool.eq_iff_iff]; simp
  have b4 : ((F : Int) == 255) = decide (F = 255) := by rw [Bool.eq_iff_iff]; simp; omega
  by_cases c1 : F = 255
  · subst c1
    by_cases c2 : M = 0
    · have e9 := e8 (by simp [c2])
      subst c2
      clear e7 e8
      go_enter Tadg.func52, Tadg.ntmps52
      go_wp2
      exact bodyPost_ret (v := .tuple #[.bool (decide (2147483648 ≤ p)), .int .u32 0, .int .i16 0, .int .u8 2]) (by simp [results, Tadg.results52, go_sem, e6]) rfl ⟨by simp [e9], rfl⟩
    · have e9 := e7 rfl c2
      clear e7 e8
      go_enter Tadg.func52, Tadg.ntmps52
      go_wp2
      exact bodyPost_ret (v := .tuple #[.bool false, .int .u32 0, .int .i16 0, .int .u8 3]) (by simp [results, Tadg.results52, go_sem]) rfl ⟨by simp [e9, c2], rfl⟩
  · have e9 := e8 (by simp [c1])
    clear e7 e8
    by_cases c3 : F = 0
    · subst c3
      by_cases c2 : M = 0
      · subst c2
        go_enter Tadg.func52, Tadg.ntmps52
        go_wp2
        exact bodyPost_ret (v := .tuple #[.bool (decide (2147483648 ≤ p)), .int .u32 0, .int .i16 0, .int .u8 0]) (by simp [results, Tadg.results52, go_sem, e6]) rfl ⟨by simp [e9], rfl⟩
      · go_enter Tadg.func52, Tadg.ntmps52
        go_wp2
        exact bodyPost_ret (v := .tuple #[.bool (decide (2147483648 ≤ p)), .int .u32 M, .int .i16 (-149), .int .u8 1]) (by simp [results, Tadg.results52, go_sem, e6]) rfl ⟨by simp [e9, c2], rfl⟩
    · go_enter Tadg.func52, Tadg.ntmps52
      go_wp2
      exact bodyPost_ret (v := .tuple #[.bool (decide (2147483648 ≤ p)), .int .u32 (M + 8388608), .int .i16 (F - 150), .int .u8 1]) (by simp [results, Tadg.results52, go_sem, e6]) rfl ⟨by simp [e9, c1, c3], rfl⟩

end Go.Proofs.YgctadDoor
