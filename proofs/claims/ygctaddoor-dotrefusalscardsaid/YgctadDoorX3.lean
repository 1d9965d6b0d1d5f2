import Derived.Test.YgctadDoorX1
import Derived.Deep.RegionWith
import Derived.Deep.QuietTactic
import Derived.BigQuiet
namespace Go.Proofs.YgctadDoor
open Go.RowKit
set_option linter.unusedSimpArgs false
set_option linter.unusedVariables false

theorem wrap64_id {n : Int} (h1 : -9223372036854775808 ≤ n) (h2 : n < 9223372036854775808) : wrap64 n = n := by unfold wrap64; omega

theorem join_zero (e p l t : Int) (w : World) :
    Calls Tadg.prog 62 #[.int .u64 0, .int .i64 e, .int .i64 p, .int .i64 l, .int .i64 t] w fun r w' => r = .returned (.tuple #[.int .u64 0, .bool true]) ∧ w' = w := by
  go_enter Tadg.func62, Tadg.ntmps62
  go_wp2
  go_ret2
  exact ⟨rfl, rfl⟩

set_option maxHeartbeats 1000000 in
theorem join_no (m z L : Nat) (e p l t : Int) (hm : m < 18446744073709551616) (h0 : (m : Int) ≠ 0) (hz : Hid (Lib.ctz 64 m = z)) (hL : Hid (Lib.bitLen m = L)) (hzl : z ≤ L) (hl : L ≤ 64) (he : -40000 ≤ e) (he2 : e ≤ 40000)
    (hno : p < (L : Int) - z ∨ e + z < l ∨ t < e + L) (w : World) (hT : Tab w) :
    Calls Tadg.prog 62 #[.int .u64 m, .int .i64 e, .int .i64 p, .int .i64 l, .int .i64 t] w fun r w' => r = .returned (.tuple #[.int .u64 0, .bool false]) ∧ w' = w := by
  have w1 : wrap64 ((L : Int) - z) = (L : Int) - z := wrap64_id (by omega) (by omega)
  have w2 : wrap64 (e + (z : Int)) = e + z := wrap64_id (by omega) (by omega)
  have w3 : wrap64 (e + (z : Int) + ((L : Int) - z)) = e + L := by rw [wrap64_id (by omega) (by omega)]; omega
  have HT : Hid (Tab w) := hT
  by_cases c1 : p < (L : Int) - z
  · go_enter Tadg.func62, Tadg.ntmps62
    go_wp2_with (first
      | (go_at_call 49; refine (length_any m hm _).mono ?_; rintro e w' ⟨rfl, hq⟩; obtain rfl := hq.symm; rw [hL.out])
      | (go_at_call 50; refine (zeros_any m hm _ (fun _ => HT.out)).mono ?_; rintro e w' ⟨rfl, hq⟩; obtain rfl := hq.symm; rw [hz.out]))
    go_ret2
    exact ⟨rfl, rfl⟩
  · by_cases c2 : e + z < l
    · go_enter Tadg.func62, Tadg.ntmps62
      go_wp2_with (first
        | (go_at_call 49; refine (length_any m hm _).mono ?_; rintro e w' ⟨rfl, hq⟩; obtain rfl := hq.symm; rw [hL.out])
        | (go_at_call 50; refine (zeros_any m hm _ (fun _ => HT.out)).mono ?_; rintro e w' ⟨rfl, hq⟩; obtain rfl := hq.symm; rw [hz.out]))
      go_ret2
      exact ⟨rfl, rfl⟩
    · have c3 : t < e + L := by omega
      go_enter Tadg.func62, Tadg.ntmps62
      go_wp2_with (first
        | (go_at_call 49; refine (length_any m hm _).mono ?_; rintro e w' ⟨rfl, hq⟩; obtain rfl := hq.symm; rw [hL.out])
        | (go_at_call 50; refine (zeros_any m hm _ (fun _ => HT.out)).mono ?_; rintro e w' ⟨rfl, hq⟩; obtain rfl := hq.symm; rw [hz.out]))
      go_ret2
      exact ⟨rfl, rfl⟩

set_option maxHeartbeats 1000000 in
theorem join_sub (m z L : Nat) (e p l t : Int) (hm : m < 18446744073709551616) (h0 : (m : Int) ≠ 0) (hz : Hid (Lib.ctz 64 m = z)) (hL : Hid (Lib.bitLen m = L)) (hzl : z ≤ L) (hz64 : z < 64) (hl : L ≤ 64) (he : -40000 ≤ e) (he2 : e ≤ 40000)
    (hp : 2 ≤ p) (hp2 : p ≤ 60) (hl1 : -2000 ≤ l) (hl2 : l ≤ 0)
    (c1 : ¬ p < (L : Int) - z) (c2 : ¬ e + z < l) (c3 : ¬ t < e + L) (c4 : e + L - p - l + 1 ≤ 0) (w : World) (hT : Tab w) :
    Calls Tadg.prog 62 #[.int .u64 m, .int .i64 e, .int .i64 p, .int .i64 l, .int .i64 t] w fun r w' => r = .returned (.tuple #[.int .u64 (IntKind.u64.wrap ((m : Int) / 2 ^ z * 2 ^ (e + z - l).toNat)), .bool true]) ∧ w' = w := by
  have w1 : wrap64 ((L : Int) - z) = (L : Int) - z := wrap64_id (by omega) (by omega)
  have w2 : wrap64 (e + (z : Int)) = e + z := wrap64_id (by omega) (by omega)
  have w3 : wrap64 (e + (z : Int) + ((L : Int) - z)) = e + L := by rw [wrap64_id (by omega) (by omega)]; omega
  have w4 : wrap64 (e + L - p) = e + L - p := wrap64_id (by omega) (by omega)
  have w5 : wrap64 (e + L - p - l) = e + L - p - l := wrap64_id (by omega) (by omega)
  have w6 : wrap64 (e + L - p - l + 1) = e + L - p - l + 1 := wrap64_id (by omega) (by omega)
  have w7 : wrap64 (e + z - l) = e + z - l := wrap64_id (by omega) (by omega)
  have HT : Hid (Tab w) := hT
  go_enter Tadg.func62, Tadg.ntmps62
  go_wp2_with (first
    | (go_at_call 49; refine (length_any m hm _).mono ?_; rintro e w' ⟨rfl, hq⟩; obtain rfl := hq.symm; rw [hL.out])
    | (go_at_call 50; refine (zeros_any m hm _ (fun _ => HT.out)).mono ?_; rintro e w' ⟨rfl, hq⟩; obtain rfl := hq.symm; rw [hz.out]))
  go_ret2
  exact ⟨rfl, rfl⟩
/-- join's answer for a normal value, as the text computes it. -/
def jnorm (m z L : Nat) (e p l : Int) : Int :=
  bits BinOp.or IntKind.u64 (IntKind.u64.wrap ((e + (z : Int) + ((L : Int) - (z : Int)) - p - l + 1) * 2 ^ (p.toNat - 1)))
    (bits BinOp.andNot IntKind.u64 (IntKind.u64.wrap ((m : Int) / 2 ^ z * 2 ^ (p - ((L : Int) - (z : Int))).toNat)) (IntKind.u64.wrap (2 ^ (p.toNat - 1))))

set_option maxHeartbeats 1000000 in
theorem join_norm (m z L : Nat) (e p l t : Int) (hm : m < 18446744073709551616) (h0 : (m : Int) ≠ 0) (hz : Hid (Lib.ctz 64 m = z)) (hL : Hid (Lib.bitLen m = L)) (hzl : z ≤ L) (hz64 : z < 64) (hl : L ≤ 64) (he : -40000 ≤ e) (he2 : e ≤ 40000)
    (hp : 2 ≤ p) (hp2 : p ≤ 60) (hl1 : -2000 ≤ l) (hl2 : l ≤ 0)
    (c1 : ¬ p < (L : Int) - z) (c2 : ¬ e + z < l) (c3 : ¬ t < e + L) (c4 : ¬ e + L - p - l + 1 ≤ 0) (w : World) (hT : Tab w) :
    Calls Tadg.prog 62 #[.int .u64 m, .int .i64 e, .int .i64 p, .int .i64 l, .int .i64 t] w fun r w' => ∃ n, r = .returned (.tuple #[.int .u64 (jnorm m z L e p l), .bool true]) ∧ w' = w.drewN n := by
  have w1 : wrap64 ((L : Int) - z) = (L : Int) - z := wrap64_id (by omega) (by omega)
  have w2 : wrap64 (e + (z : Int)) = e + z := wrap64_id (by omega) (by omega)
  have w3 : wrap64 (e + (z : Int) + ((L : Int) - z)) = e + L := by rw [wrap64_id (by omega) (by omega)]; omega
  have w4 : wrap64 (e + L - p) = e + L - p := wrap64_id (by omega) (by omega)
  have w5 : wrap64 (e + L - p - l) = e + L - p - l := wrap64_id (by omega) (by omega)
  have w6 : wrap64 (e + L - p - l + 1) = e + L - p - l + 1 := wrap64_id (by omega) (by omega)
  have w7 : wrap64 (e + z - l) = e + z - l := wrap64_id (by omega) (by omega)
  have w8 : wrap64 (p - ((L : Int) - z)) = p - (L - z) := wrap64_id (by omega) (by omega)
  have w9 : wrap64 (p - 1) = p - 1 := wrap64_id (by omega) (by omega)
  have HT : Hid (Tab w) := hT
  go_enter Tadg.func62, Tadg.ntmps62
  go_wp2_with (first
    | (go_at_call 49; refine (length_any m hm _).mono ?_; rintro e w' ⟨rfl, hq⟩; obtain rfl := hq.symm; rw [hL.out])
    | (go_at_call 50; refine (zeros_any m hm _ (fun _ => HT.out)).mono ?_; rintro e w' ⟨rfl, hq⟩; obtain rfl := hq.symm; rw [hz.out]))
  go_quiet (fail)
  go_wp2
  go_ret2
  exact ⟨_, rfl, rfl⟩
end Go.Proofs.YgctadDoor
