import Derived.Test.YgctadDoorW1
import Derived.Shelf.Lay
import Derived.Shelf.Small.Bits
import Derived.Shelf.Spec.TrailingZeros
namespace Go.Proofs
open Go.Shelf
shelf_lay Lays.n129 Nm 129 at Tadg as Tadg.lays129
shelf_lay Lays7.n29 Nm7 29 at Tadg as Tadg.lays29
end Go.Proofs

namespace Go.Proofs.YgctadDoor
open Go.RowKit
set_option linter.unusedSimpArgs false
set_option linter.unusedVariables false

/-- The table of de Bruijn's numbers stands in its variable (block 1). -/
def Tab (w : World) : Prop := TabAt 1 Lib.deBruijn64tab w

theorem Tab.below {w w' : World} {n : Nat} (h : Tab w) (hb : Below n w w') (hn : 1 < n) : Tab w' := fun j hj => by
  rw [hb.cell (p := ⟨1, j, none⟩) hn]; exact h j hj
theorem Tab.lt {w : World} (h : Tab w) : 1 < w.heap.size := World.block_lt_of_cell? _ _ (h 0 (by decide))

theorem len64_any (m : Nat) (hm : m < 18446744073709551616) (w : World) :
    Calls Tadg.prog 67 #[.int .u64 m] w fun e w' => e = .returned (.int .i64 (Lib.bitLen m)) ∧ w' = w := by
  have := Any.bits_Len64 Tadg.lays129 (m : Int) w (by omega) (by omega)
  rw [Int.toNat_natCast] at this
  exact this
theorem tz64_any (m : Nat) (hm : m < 18446744073709551616) (w : World) (hT : m ≠ 0 → Tab w) :
    Calls Tadg.prog 68 #[.int .u64 m] w fun e w' => e = .returned (.int .i64 (Lib.ctz 64 m)) ∧ w' = w :=
  Any7.bits_TrailingZeros64 Tadg.lays29 m hm w hT

theorem length_any (m : Nat) (hm : m < 18446744073709551616) (w : World) :
    Calls Tadg.prog 49 #[.int .u64 m] w fun e w' => e = .returned (.int .i64 (Lib.bitLen m)) ∧ w' = w := by
  go_enter Tadg.func49, Tadg.ntmps49
  go_wp2_with (go_at_call 67; refine (len64_any m hm _).mono ?_; rintro e w' ⟨rfl, rfl⟩)
  go_ret
  exact ⟨rfl, rfl⟩
theorem zeros_any (m : Nat) (hm : m < 18446744073709551616) (w : World) (hT : m ≠ 0 → Tab w) :
    Calls Tadg.prog 50 #[.int .u64 m] w fun e w' => e = .returned (.int .i64 (Lib.ctz 64 m)) ∧ w' = w := by
  go_enter Tadg.func50, Tadg.ntmps50
  go_wp2_with (go_at_call 68; refine (tz64_any m hm _ hT).mono ?_; rintro e w' ⟨rfl, rfl⟩)
  go_ret
  exact ⟨rfl, rfl⟩

/-! the plain side of 'Width' -/
theorem bitLenAux_le : ∀ (f x : Nat), Lib.bitLenAux f x ≤ f
  | 0, _ => Nat.le_refl _
  | f + 1, x => by
    unfold Lib.bitLenAux
    split
    · exact Nat.zero_le _
    · have := bitLenAux_le f (x / 2); omega
theorem bitLen_of_lt {x k : Nat} (h : x < 2 ^ k) (hk : k ≤ 64) : Lib.bitLen x ≤ k := by
  unfold Lib.bitLen
  rw [Lib.bitLenAux_fuel k x h 64 hk]
  exact bitLenAux_le k x
theorem odd_le : ∀ (b s o H : Nat), o % 2 = 1 → o * 2 ^ s = H * 2 ^ b → o ≤ H
  | 0, s, o, H, ho, e => by
    rw [Nat.pow_zero, Nat.mul_one] at e
    rw [← e]
    exact Nat.le_mul_of_pos_right _ (Nat.two_pow_pos s)
  | b + 1, 0, o, H, ho, e => by
    rw [Nat.pow_zero, Nat.mul_one, Nat.pow_succ, ← Nat.mul_assoc] at e
    omega
  | b + 1, s + 1, o, H, ho, e => by
    rw [Nat.pow_succ, Nat.pow_succ, ← Nat.mul_assoc, ← Nat.mul_assoc] at e
    exact odd_le b s o H ho (by omega)
/-- m = 2^c (2 j + 1), c = ctz; bitLen m = c + bitLen (2 j + 1). -/
theorem parts {m : Nat} (h0 : m ≠ 0) (hm : m < 18446744073709551616) :
    ∃ o, o % 2 = 1 ∧ m = 2 ^ Lib.ctz 64 m * o ∧ Lib.ctz 64 m < 64 ∧ Lib.bitLen m = Lib.ctz 64 m + Lib.bitLen o := by
  obtain ⟨j, e, hc⟩ := Lib.ctzFrom_spec 64 m (by omega) (by omega)
  have hz : Lib.ctz 64 m = Lib.ctzFrom 64 m := by unfold Lib.ctz; rw [if_neg h0]
  rw [← hz] at e hc
  have hp := Nat.two_pow_pos (Lib.ctz 64 m)
  have hle : 2 ^ Lib.ctz 64 m ≤ m := by
    have := Nat.le_mul_of_pos_right (2 ^ Lib.ctz 64 m) (show 0 < 2 * j + 1 by omega)
    omega
  refine ⟨2 * j + 1, by omega, e, hc, ?_⟩
  have h1 := Lib.bitLen_shift (Lib.ctz 64 m) m hle (by omega)
  have h2 : m / 2 ^ Lib.ctz 64 m = 2 * j + 1 := Nat.div_eq_of_eq_mul_right hp e
  rw [h2] at h1
  exact h1
theorem width_le {m s b H : Nat} (h0 : m ≠ 0) (hm : m < 18446744073709551616) (e : m * 2 ^ s = H * 2 ^ b) (hH : H ≤ 67108864) : Lib.bitLen m - Lib.ctz 64 m ≤ 26 := by
  obtain ⟨o, ho, e1, _, e2⟩ := parts h0 hm
  have h1 : o ≤ H := odd_le b (Lib.ctz 64 m + s) o H ho (by
    rw [Nat.pow_add, ← e]
    conv => rhs; rw [e1]
    rw [Nat.mul_comm (2 ^ Lib.ctz 64 m) o, Nat.mul_assoc])
  have h2 : Lib.bitLen o ≤ 26 := bitLen_of_lt (by omega) (by omega)
  omega

/-- Width's answer. -/
def wd (m : Nat) : Nat := if m = 0 then 0 else Lib.bitLen m - Lib.ctz 64 m

set_option maxHeartbeats 400000 in
theorem width_any (m : Nat) (hm : m < 18446744073709551616) (w : World) (hT : m ≠ 0 → Tab w) :
    Calls Tadg.prog 25 #[.int .u64 m] w fun e w' => e = .returned (.int .u8 (wd m)) ∧ w' = w := by
  by_cases h0 : m = 0
  · subst h0
    go_enter Tadg.func25, Tadg.ntmps25
    go_wp2
    go_ret
    exact ⟨rfl, rfl⟩
  · have h0' : ¬ (m : Int) = 0 := by omega
    obtain ⟨o, ho, e1, h1, h2⟩ := parts h0 hm
    have h3 : Lib.bitLen m ≤ 64 := bitLen_of_lt (by omega) (by omega)
    have hw : wrap64 ((Lib.bitLen m : Int) - (Lib.ctz 64 m : Int)) % 256 = (wd m : Int) := by
      unfold wd
      rw [if_neg h0]
      unfold wrap64
      omega
    clear e1 ho h1 h2 h3
    go_enter Tadg.func25, Tadg.ntmps25
    go_wp2_with (first
      | (go_at_call 49; refine (length_any m hm _).mono ?_; rintro e w' ⟨rfl, rfl⟩)
      | (go_at_call 50; refine (zeros_any m hm _ hT).mono ?_; rintro e w' ⟨rfl, rfl⟩))
    go_ret
    refine ⟨?_, rfl⟩
    show Ending.returned (.int .u8 (wrap64 ((Lib.bitLen m : Int) - (Lib.ctz 64 m : Int)) % 256)) = _
    rw [hw]
end Go.Proofs.YgctadDoor
