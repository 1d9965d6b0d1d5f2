import Derived.Test.YgctadDoorX8
namespace Go.Proofs.YgctadDoor
open Go.RowKit
set_option linter.unusedSimpArgs false
set_option linter.unusedVariables false
set_option maxHeartbeats 1000000 in
theorem join32_ok (neg : Bool) (m R : Nat) (hm : m < 4294967296) (e : Int) (he : -32768 ≤ e) (he2 : e < 32768) (hJ : JoinTo m e 24 (-149) 128 R true) (hR : R < 2147483648) (w : World) (hT : Tab w) :
    Calls Tadg.prog 54 #[.bool neg, .int .u32 m, .int .i16 e] w fun x w' => ∃ n, x = .returned (.tuple #[.float .f32 (R + if neg then 2147483648 else 0), .bool true]) ∧ w' = w.drewN n := by
  have w1 : wrap64 e = e := wrap64_id (by omega) (by omega)
  have o1 := or31 hR
  have HT : Hid (Tab w) := hT
  have HJ : Hid (JoinTo m e 24 (-149) 128 R true) := hJ
  cases neg
  · go_enter Tadg.func54, Tadg.ntmps54
    go_wp2_with (first
      | (go_at_call 62; refine (HJ.out _ HT.out).mono ?_; rintro x w' ⟨n, rfl, rfl⟩)
      | (go_at_call 71; refine (from32_any _ _).mono ?_; rintro x w' ⟨rfl, rfl⟩))
    go_ret2
    first
      | exact ⟨_, rfl, rfl⟩
      | exact ⟨rfl, _, rfl⟩
  · go_enter Tadg.func54, Tadg.ntmps54
    go_wp2_with (first
      | (go_at_call 62; refine (HJ.out _ HT.out).mono ?_; rintro x w' ⟨n, rfl, rfl⟩)
      | (go_at_call 71; refine (from32_any _ _).mono ?_; rintro x w' ⟨rfl, rfl⟩))
    go_ret2
    first
      | exact ⟨_, rfl, rfl⟩
      | exact ⟨rfl, _, rfl⟩
set_option maxHeartbeats 1000000 in
theorem join32_no (neg : Bool) (m : Nat) (hm : m < 4294967296) (e : Int) (he : -32768 ≤ e) (he2 : e < 32768) (hJ : JoinTo m e 24 (-149) 128 0 false) (w : World) (hT : Tab w) :
    Calls Tadg.prog 54 #[.bool neg, .int .u32 m, .int .i16 e] w fun x w' => ∃ n, x = .returned (.tuple #[.float .f32 0, .bool false]) ∧ w' = w.drewN n := by
  have w1 : wrap64 e = e := wrap64_id (by omega) (by omega)
  have HT : Hid (Tab w) := hT
  have HJ : Hid (JoinTo m e 24 (-149) 128 0 false) := hJ
  go_enter Tadg.func54, Tadg.ntmps54
  go_wp2_with (go_at_call 62; refine (HJ.out _ HT.out).mono ?_; rintro x w' ⟨n, rfl, rfl⟩)
  go_ret2
  exact ⟨_, rfl, rfl⟩
set_option maxHeartbeats 1000000 in
theorem refused32_any (neg : Bool) (m : Nat) (hm : m < 4294967296) (e : Int) (he : -32768 ≤ e) (he2 : e < 32768) (hJ : JoinTo m e 24 (-149) 128 0 false) (w : World) (hT : Tab w) :
    Calls Tadg.prog 56 #[.bool neg, .int .u32 m, .int .i16 e] w fun x w' => ∃ n, x = .returned (.bool true) ∧ w' = w.drewN n := by
  have HT : Hid (Tab w) := hT
  have HJ : Hid (JoinTo m e 24 (-149) 128 0 false) := hJ
  go_enter Tadg.func56, Tadg.ntmps56
  go_wp2_with (first
    | (go_at_call 54; refine (join32_no neg m hm e he he2 HJ.out _ HT.out).mono ?_; rintro x w' ⟨n, rfl, rfl⟩)
    | (go_at_call 55; refine (b32_any _ _).mono ?_; rintro x w' ⟨rfl, rfl⟩))
  go_ret
  exact ⟨_, rfl, rfl⟩
end Go.Proofs.YgctadDoor
