import Derived.Test.YgctadDoorX4
namespace Go.Proofs.YgctadDoor
open Go.RowKit
set_option linter.unusedSimpArgs false
set_option linter.unusedVariables false

theorem or1 {m k : Nat} (hm : m < 2 ^ k) (hk : 1 ≤ k) : (m ||| 1) % 2 = 1 ∧ m ≤ m ||| 1 ∧ m ||| 1 < 2 ^ k := by
  refine ⟨?_, Nat.left_le_or, Nat.or_lt_two_pow hm (Nat.one_lt_two_pow (by omega))⟩
  have h : Nat.testBit (m ||| 1) 0 = true := by rw [Nat.testBit_or, Nat.testBit_zero 1]; simp
  rw [Nat.testBit_zero] at h
  exact of_decide_eq_true h
theorem ctz_odd {m : Nat} (h : m % 2 = 1) : Lib.ctz 64 m = 0 := by
  unfold Lib.ctz Lib.ctzFrom
  rw [if_neg (by omega), if_pos h]
theorem bitLen_pos {m : Nat} (h : m ≠ 0) (hm : m < 18446744073709551616) : 1 ≤ Lib.bitLen m := by
  rw [Lib.bitLen_half m h (by omega)]; omega

theorem refA {m q : Nat} {e l t : Int} (hq : q < 60) (hm : m < 2 ^ q) (he : -40000 ≤ e) (he2 : e ≤ 40000) : JoinTo ((m ||| 2 ^ q) ||| 1) e q l t 0 false := by
  have h60 : 2 ^ (q + 1) ≤ 2 ^ 60 := Nat.pow_le_pow_right (by omega) (by omega)
  have h61 : (2:Nat) ^ 60 < 18446744073709551616 := by decide
  have hp := Nat.two_pow_pos q
  have e1 : m ||| 2 ^ q = 2 ^ q + m := by rw [Nat.or_comm]; exact nat_join q _ m (Nat.mod_self _) hm
  have h2 : 2 ^ (q + 1) = 2 ^ q + 2 ^ q := by rw [Nat.pow_succ]; omega
  obtain ⟨o1, o2, o3⟩ := or1 (m := m ||| 2 ^ q) (k := q + 1) (by omega) (by omega)
  have hL : Lib.bitLen ((m ||| 2 ^ q) ||| 1) = q + 1 := by
    have := Lib.bitLen_shift q ((m ||| 2 ^ q) ||| 1) (by omega) (by omega)
    rw [show ((m ||| 2 ^ q) ||| 1) / 2 ^ q = 1 from Nat.div_eq_of_lt_le (by omega) (by omega)] at this
    rw [this]; rfl
  refine joinTo_no (by omega) (by omega) he he2 (.inl ?_)
  rw [hL, ctz_odd o1]; omega
theorem refB {m q : Nat} {p l t : Int} (hq : q < 60) (hm : m < 2 ^ q) (hq1 : 1 ≤ q) (hl1 : -2000 ≤ l) (hl2 : l ≤ 0) : JoinTo (m ||| 1) (l - 1) p l t 0 false := by
  have h60 : 2 ^ q ≤ 2 ^ 60 := Nat.pow_le_pow_right (by omega) (by omega)
  have h61 : (2:Nat) ^ 60 < 18446744073709551616 := by decide
  obtain ⟨o1, o2, o3⟩ := or1 hm hq1
  refine joinTo_no (by omega) (by omega) (by omega) (by omega) (.inr (.inl ?_))
  rw [ctz_odd o1]; omega
theorem refC {m q : Nat} {p l t : Int} (hq : q < 60) (hm : m < 2 ^ q) (hq1 : 1 ≤ q) (ht1 : 0 ≤ t) (ht2 : t ≤ 2000) : JoinTo (m ||| 1) t p l t 0 false := by
  have h60 : 2 ^ q ≤ 2 ^ 60 := Nat.pow_le_pow_right (by omega) (by omega)
  have h61 : (2:Nat) ^ 60 < 18446744073709551616 := by decide
  obtain ⟨o1, o2, o3⟩ := or1 hm hq1
  have := bitLen_pos (m := m ||| 1) (by omega) (by omega)
  exact joinTo_no (by omega) (by omega) (by omega) (by omega) (.inr (.inr (by omega)))

theorem Tab.drewN {w : World} (h : Tab w) (n : Nat) : Tab (w.drewN n) := h.below (below_drewN (Below.refl _ _) n) h.lt

attribute [local go_sem] run50 run52
theorem from64_any (a : Int) (w : World) : Calls Tadg.prog 63 #[.int .u64 a] w fun e w' => e = .returned (.float .f64 a.toNat) ∧ w' = w := by
  go_enter Tadg.func63, Tadg.ntmps63
  go_wp2
  go_ret
  exact ⟨rfl, rfl⟩

theorem or63 {R : Nat} (h : R < 9223372036854775808) : bits .or .u64 (R : Int) 9223372036854775808 = ((R + 9223372036854775808 : Nat) : Int) := by
  have := u64_or_nat R 9223372036854775808 (by omega) (by decide)
  rw [Nat.or_comm, nat_join 63 9223372036854775808 R (by decide) h, Nat.add_comm] at this
  exact this

set_option maxHeartbeats 1000000 in
theorem join64_ok (neg : Bool) (m R : Nat) (e : Int) (he : -32768 ≤ e) (he2 : e < 32768) (hJ : JoinTo m e 53 (-1074) 1024 R true) (hR : R < 9223372036854775808) (w : World) (hT : Tab w) :
    Calls Tadg.prog 36 #[.bool neg, .int .u64 m, .int .i16 e] w fun x w' => ∃ n, x = .returned (.tuple #[.float .f64 (R + if neg then 9223372036854775808 else 0), .bool true]) ∧ w' = w.drewN n := by
  have w1 : wrap64 e = e := wrap64_id (by omega) (by omega)
  have o1 := or63 hR
  have HT : Hid (Tab w) := hT
  have HJ : Hid (JoinTo m e 53 (-1074) 1024 R true) := hJ
  cases neg
  · go_enter Tadg.func36, Tadg.ntmps36
    go_wp2_with (first
      | (go_at_call 62; refine (HJ.out _ HT.out).mono ?_; rintro x w' ⟨n, rfl, rfl⟩)
      | (go_at_call 63; refine (from64_any _ _).mono ?_; rintro x w' ⟨rfl, rfl⟩))
    go_ret2
    first
      | exact ⟨_, rfl, rfl⟩
      | exact ⟨rfl, _, rfl⟩
  · go_enter Tadg.func36, Tadg.ntmps36
    go_wp2_with (first
      | (go_at_call 62; refine (HJ.out _ HT.out).mono ?_; rintro x w' ⟨n, rfl, rfl⟩)
      | (go_at_call 63; refine (from64_any _ _).mono ?_; rintro x w' ⟨rfl, rfl⟩))
    go_ret2
    first
      | exact ⟨_, rfl, rfl⟩
      | exact ⟨rfl, _, rfl⟩
set_option maxHeartbeats 1000000 in
theorem join64_no (neg : Bool) (m : Nat) (e : Int) (he : -32768 ≤ e) (he2 : e < 32768) (hJ : JoinTo m e 53 (-1074) 1024 0 false) (w : World) (hT : Tab w) :
    Calls Tadg.prog 36 #[.bool neg, .int .u64 m, .int .i16 e] w fun x w' => ∃ n, x = .returned (.tuple #[.float .f64 0, .bool false]) ∧ w' = w.drewN n := by
  have w1 : wrap64 e = e := wrap64_id (by omega) (by omega)
  have HT : Hid (Tab w) := hT
  have HJ : Hid (JoinTo m e 53 (-1074) 1024 0 false) := hJ
  go_enter Tadg.func36, Tadg.ntmps36
  go_wp2_with (go_at_call 62; refine (HJ.out _ HT.out).mono ?_; rintro x w' ⟨n, rfl, rfl⟩)
  go_ret2
  exact ⟨_, rfl, rfl⟩
set_option maxHeartbeats 1000000 in
theorem refused64_any (neg : Bool) (m : Nat) (e : Int) (he : -32768 ≤ e) (he2 : e < 32768) (hJ : JoinTo m e 53 (-1074) 1024 0 false) (w : World) (hT : Tab w) :
    Calls Tadg.prog 51 #[.bool neg, .int .u64 m, .int .i16 e] w fun x w' => ∃ n, x = .returned (.bool true) ∧ w' = w.drewN n := by
  have HT : Hid (Tab w) := hT
  have HJ : Hid (JoinTo m e 53 (-1074) 1024 0 false) := hJ
  go_enter Tadg.func51, Tadg.ntmps51
  go_wp2_with (first
    | (go_at_call 36; refine (join64_no neg m e he he2 HJ.out _ HT.out).mono ?_; rintro x w' ⟨n, rfl, rfl⟩)
    | (go_at_call 38; refine (b64_any _ _).mono ?_; rintro x w' ⟨rfl, rfl⟩))
  go_ret
  exact ⟨_, rfl, rfl⟩
end Go.Proofs.YgctadDoor
