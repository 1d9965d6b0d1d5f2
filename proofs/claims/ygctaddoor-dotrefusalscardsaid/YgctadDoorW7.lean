import Derived.Test.YgctadDoorW1
import Derived.Test.YgctadDoorWd
namespace Go.Proofs.YgctadDoor
open Go.RowKit Rn
set_option linter.unusedSimpArgs false
set_option linter.unusedVariables false

/-! Sums and differences of words. -/
def ads (x y c : Int) : Int := (x + y + c) % 18446744073709551616
def adc (x y c : Int) : Int := (x + y + c) / 18446744073709551616
def sbs (x y b : Int) : Int := (x - y - b) % 18446744073709551616
def sbb (x y b : Int) : Int := if x < y + b then 1 else 0
/-- A carry. -/
def Cy (x : Int) : Prop := 0 ≤ x ∧ x ≤ 1
theorem ads_wd (x y c : Int) : Word (ads x y c) := by unfold ads Word; omega
theorem sbs_wd (x y c : Int) : Word (sbs x y c) := by unfold sbs Word; omega
theorem adc_cy {x y c : Int} (hx : Word x) (hy : Word y) (hc : Cy c) : Cy (adc x y c) := by unfold adc Cy Word at *; omega
theorem sbb_cy (x y c : Int) : Cy (sbb x y c) := by unfold sbb Cy; split <;> omega

theorem ads_eq (x y c : Int) : ads x y c = x + y + c - adc x y c * 18446744073709551616 := by unfold ads adc; omega
theorem sbs_eq {x y c : Int} (hx : Word x) (hy : Word y) (hc : Cy c) : sbs x y c = x - y - c + sbb x y c * 18446744073709551616 := by
  unfold sbs sbb Cy Word at *; split <;> omega

theorem run61 (x y c : Int) (hx : Word x) (hy : Word y) (hc : Cy c) (w : World) : (callFunc 77 #[.int .u64 x, .int .u64 y, .int .u64 c]).run Tadg.prog w =
    .ok (.value (.tuple #[.int .u64 (ads x y c), .int .u64 (adc x y c)])) w := by
  rw [run_callFunc_extern (e := add64Entry) Tadg.func77 (by kernel_rfl) (by kernel_rfl) (by kernel_rfl) (by kernel_rfl), run_add64 x y c hx.1 hy.1 hc.1 hc.2]
  rfl

def sub64Entry : Array Value → Sem Value := fun args => do
  let (x, y, b) ← Extern.MathBitsCarry.three "Sub64" args
  pure (Extern.MathBitsCarry.pair ((x + Extern.MathBitsCarry.m64 - y - b) % Extern.MathBitsCarry.m64) (if x < y + b then 1 else 0))

theorem run_sub64 {P : Program} (x y c : Int) (hx : Word x) (hy : Word y) (hc : Cy c) (w : World) :
    (sub64Entry #[.int .u64 x, .int .u64 y, .int .u64 c]).run P w = .ok (.tuple #[.int .u64 (sbs x y c), .int .u64 (sbb x y c)]) w := by
  obtain ⟨hx0, hx1⟩ := hx; obtain ⟨hy0, hy1⟩ := hy; obtain ⟨hc0, hc1⟩ := hc
  have key : ∀ k : Nat, k ≤ 1 → (sub64Entry #[.int .u64 x, .int .u64 y, .int .u64 (k : Int)]).run P w =
      .ok (Extern.MathBitsCarry.pair ((x.toNat + Extern.MathBitsCarry.m64 - y.toNat - k) % Extern.MathBitsCarry.m64) (if x.toNat < y.toNat + k then 1 else 0)) w := by
    intro k hk
    have : k = 0 ∨ k = 1 := by omega
    rcases this with rfl | rfl <;> rfl
  obtain ⟨k, rfl⟩ := Int.eq_ofNat_of_zero_le hc0
  rw [key k (by omega)]
  obtain ⟨X, rfl⟩ := Int.eq_ofNat_of_zero_le hx0
  obtain ⟨Y, rfl⟩ := Int.eq_ofNat_of_zero_le hy0
  simp only [Extern.MathBitsCarry.pair, Extern.MathBitsCarry.m64, Int.toNat_natCast, sbs, sbb]
  have e1 : (((X + 2 ^ 64 - Y - k) % 2 ^ 64 : Nat) : Int) = ((X : Int) - Y - k) % 18446744073709551616 := by omega
  have e2 : ((if X < Y + k then 1 else 0 : Nat) : Int) = if (X : Int) < Y + k then 1 else 0 := by split <;> split <;> omega
  simp only [Int.ofNat_eq_natCast, e1, e2]

theorem run63 (x y c : Int) (hx : Word x) (hy : Word y) (hc : Cy c) (w : World) : (callFunc 76 #[.int .u64 x, .int .u64 y, .int .u64 c]).run Tadg.prog w =
    .ok (.value (.tuple #[.int .u64 (sbs x y c), .int .u64 (sbb x y c)])) w := by
  rw [run_callFunc_extern (e := sub64Entry) Tadg.func76 (by kernel_rfl) (by kernel_rfl) (by kernel_rfl) (by kernel_rfl), run_sub64 x y c hx hy hc]
  rfl

set_option maxHeartbeats 400000 in
theorem add_any (x y c : Int) (hx : Word x) (hy : Word y) (hc : Cy c) (w : World) :
    Calls Tadg.prog 75 #[.int .u64 x, .int .u64 y, .int .u64 c] w fun e w' => e = .returned (.tuple #[.int .u64 (ads x y c), .int .u64 (adc x y c)]) ∧ w' = w := by
  have h := run61 x y c hx hy hc
  go_enter Tadg.func75, Tadg.ntmps75
  go_wp2
  go_ret2
  exact ⟨rfl, rfl⟩

set_option maxHeartbeats 400000 in
theorem sub_any (x y c : Int) (hx : Word x) (hy : Word y) (hc : Cy c) (w : World) :
    Calls Tadg.prog 74 #[.int .u64 x, .int .u64 y, .int .u64 c] w fun e w' => e = .returned (.tuple #[.int .u64 (sbs x y c), .int .u64 (sbb x y c)]) ∧ w' = w := by
  have h := run63 x y c hx hy hc
  go_enter Tadg.func74, Tadg.ntmps74
  go_wp2
  go_ret2
  exact ⟨rfl, rfl⟩

end Go.Proofs.YgctadDoor
