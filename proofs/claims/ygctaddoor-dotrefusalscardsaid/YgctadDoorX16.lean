import Derived.Test.YgctadDoorRp
import Derived.Test.YgctadDoorX1
import Derived.Test.YgctadDoorW19
import Derived.Laws.BitsAllLaws
namespace Go.Proofs.YgctadDoor
open Go.RowKit Go.Acc Rn
set_option linter.unusedSimpArgs false
set_option linter.unusedVariables false

theorem wrap_u64_mod (n : Int) : IntKind.u64.wrap n = n % 18446744073709551616 := by simp [IntKind.wrap, IntKind.bits, IntKind.signed]

theorem accLength_any (m : Nat) (hm : m < 18446744073709551616) (w : World) :
    Calls Tadg.prog 61 #[.int .u64 m] w fun e w' => e = .returned (.int .i64 (Lib.bitLen m)) ∧ w' = w := by
  go_enter Tadg.func61, Tadg.ntmps61
  go_wp2_with (go_at_call 67; refine (len64_any m hm _).mono ?_; rintro e w' ⟨rfl, rfl⟩)
  go_ret
  exact ⟨rfl, rfl⟩

theorem bitLen_bds {m : Nat} (h0 : m ≠ 0) (hm : m < 18446744073709551616) : 1 ≤ Lib.bitLen m ∧ Lib.bitLen m ≤ 64 ∧ 2 ^ (Lib.bitLen m - 1) ≤ m ∧ m < 2 ^ Lib.bitLen m := by
  have hl := Nat.log2_self_le h0
  have hu := Nat.lt_log2_self (n := m)
  have h64 : m.log2 < 64 := (Nat.log2_lt h0).2 hm
  have e : Lib.bitLen m = m.log2 + 1 := by
    have := Lib.bitLen_shift m.log2 m hl (by omega)
    rw [show m / 2 ^ m.log2 = 1 from Nat.div_eq_of_lt_le (by omega) (by rw [Nat.pow_succ] at hu; omega)] at this
    rw [this]; rfl
  rw [e]
  exact ⟨by omega, by omega, hl, hu⟩

theorem high_plain {N k m : Nat} (h : N < 2 ^ (64 * (k + 1))) (hm : N / 2 ^ (64 * k) = m) (h0 : m ≠ 0) : 2 ^ (64 * k + Lib.bitLen m - 1) ≤ N ∧ N < 2 ^ (64 * k + Lib.bitLen m - 1 + 1) ∧ m < 18446744073709551616 ∧ 1 ≤ Lib.bitLen m ∧ Lib.bitLen m ≤ 64 := by
  have e : 2 ^ (64 * (k + 1)) = 2 ^ (64 * k) * 18446744073709551616 := by rw [Nat.mul_add, Nat.pow_add]
  rw [e] at h
  have hl : m < 18446744073709551616 := by rw [← hm]; exact Nat.div_lt_of_lt_mul h
  obtain ⟨b1, b2, b3, b4⟩ := bitLen_bds h0 hl
  have hp := Nat.two_pow_pos (64 * k)
  refine ⟨?_, ?_, hl, b1, b2⟩
  · rw [show 64 * k + Lib.bitLen m - 1 = 64 * k + (Lib.bitLen m - 1) by omega, Nat.pow_add]
    refine Nat.le_trans (Nat.mul_le_mul_left _ b3) ?_
    rw [← hm]; exact Nat.mul_div_le ..
  · rw [show 64 * k + Lib.bitLen m - 1 + 1 = Lib.bitLen m + 64 * k by omega, Nat.pow_add]
    have h1 : N < (m + 1) * 2 ^ (64 * k) := by
      have e1 := Nat.div_add_mod N (2 ^ (64 * k))
      have e2 := Nat.mod_lt N hp
      rw [hm, Nat.mul_comm] at e1
      rw [Nat.add_mul]
      omega
    exact Nat.lt_of_lt_of_le h1 (Nat.mul_le_mul_right _ b4)

set_option maxHeartbeats 1000000 in
theorem highest_any (B N M : Nat) (hM : Hid (M = 68)) (hN : N < 2 ^ (64 * M)) (w : World) (hA : AccAt w B (dig (N : Int))) :
    Calls Tadg.prog 32 #[.pointer (some ⟨B, 0, none⟩)] w fun e w' => ∃ h : Int, e = .returned (.int .i64 h) ∧ w' = w ∧ (N = 0 → h = -1) ∧ (N ≠ 0 → ∃ k : Nat, h = k ∧ 2 ^ k ≤ N ∧ N < 2 ^ (k + 1)) := by
  have HN : Hid (N < 2 ^ (64 * M)) := hN
  clear hN
  go_enter Tadg.func32, Tadg.ntmps32
  go_wp2
  go_loop [3] (fun i => ∃ k : Nat, k ≤ 68 ∧ i = .int .i64 ((k : Int) - 1) ∧ ∀ j, k ≤ j → j < 68 → dig (N : Int) j = 0) (fun i => (intOf i + 1).toNat)
  case atStart => exact ⟨68, by omega, rfl, fun j h1 h2 => by omega⟩
  case round =>
    obtain ⟨k, hk, rfl, hz⟩ := hrel
    have hlt : Hid (N < 2 ^ (64 * k)) := words_high HN.out (by rw [hM.out]; exact hk) (fun j h1 h2 => hz j h1 (by rw [← hM.out]; exact h2))
    have HZ : Hid (∀ j, k ≤ j → j < 68 → dig (N : Int) j = 0) := hz
    clear hz
    cases k with
    | zero =>
      have h0 : Hid (N = 0) := by have := hlt.out; simp at this; exact this
      clear hlt HZ hA
      go_wp2
      go_ret
      first
        | exact ⟨-1, rfl, rfl, fun _ => rfl, fun h => absurd h0.out h⟩
        | exact ⟨rfl, fun _ => rfl, fun h => absurd h0.out h⟩
    | succ k =>
      have hc := hA.cell k (by omega)
      rw [top_word hlt.out] at hc
      obtain ⟨m, hm⟩ : ∃ m, N / 2 ^ (64 * k) = m := ⟨_, rfl⟩
      have HM : Hid (N / 2 ^ (64 * k) = m) := hm
      have ht := top_word hlt.out
      rw [hm] at hc ht
      have HT : Hid (dig (N : Int) k = (m : Int)) := ht
      have k0 : (0 : Int) ≤ (k : Int) := by omega
      have k68 : (k : Int) < 68 := by omega
      clear hm ht
      by_cases h0 : m = 0
      · subst h0
        clear hlt
        go_wp2
        go_round
        case rel =>
          refine ⟨k, by omega, by go_num, fun j h1 h2 => ?_⟩
          by_cases e : j = k
          · subst e; exact HT.out
          · exact HZ.out j (by omega) h2
        case measure => simp [intOf]
      · obtain ⟨p1, p2, p3, p4, p5⟩ := high_plain hlt.out HM.out h0
        have P1 : Hid (2 ^ (64 * k + Lib.bitLen m - 1) ≤ N) := p1
        have P2 : Hid (N < 2 ^ (64 * k + Lib.bitLen m - 1 + 1)) := p2
        have hb : ((m : Int) != 0) = true := by simp; exact h0
        clear p1 p2 hlt HZ
        obtain ⟨L, hL⟩ : ∃ L, Lib.bitLen m = L := ⟨_, rfl⟩
        rw [hL] at P1 P2 p4 p5
        go_wp2_with (go_at_call 61; refine (accLength_any m p3 _).mono ?_; rintro e w' ⟨rfl, rfl⟩; rw [hL])
        go_ret
        have hne : N ≠ 0 := Nat.ne_of_gt (Nat.lt_of_lt_of_le (Nat.two_pow_pos _) P1.out)
        first
          | exact ⟨_, rfl, rfl, fun h => absurd h hne, fun _ => ⟨64 * k + L - 1, by omega, P1.out, P2.out⟩⟩
          | exact ⟨rfl, fun h => absurd h hne, fun _ => ⟨64 * k + L - 1, by omega, P1.out, P2.out⟩⟩

theorem field_plain (N W s : Nat) (hs : s < 64) :
    bits .and .u64 (bits .or .u64 (dig (N : Int) W / 2 ^ s) (IntKind.u64.wrap (dig (N : Int) (W + 1) * 2 ^ (64 - s)))) 9007199254740991 = ((N / 2 ^ (64 * W + s) % 9007199254740992 : Nat) : Int) := by
  have hf := field_nat N W s hs
  rw [dig_nat, dig_nat]
  generalize hx : N / 2 ^ (64 * W) % 18446744073709551616 = x at *
  generalize hy : N / 2 ^ (64 * (W + 1)) % 18446744073709551616 = y at *
  have hxl : x < 18446744073709551616 := by omega
  have c1 : (x : Int) / 2 ^ s = ((x / 2 ^ s : Nat) : Int) := by rw [Int.natCast_ediv, Int.natCast_pow]; rfl
  have c2 : IntKind.u64.wrap ((y : Int) * 2 ^ (64 - s)) = ((y * 2 ^ (64 - s) % 18446744073709551616 : Nat) : Int) := by
    rw [wrap_u64_mod, Int.natCast_emod, Int.natCast_mul, Int.natCast_pow]; rfl
  rw [c1, c2]
  have e : 18446744073709551616 = 2 ^ s * 2 ^ (64 - s) := by rw [← Nat.pow_add, show s + (64 - s) = 64 by omega]
  have hb : x / 2 ^ s < 2 ^ (64 - s) := Nat.div_lt_of_lt_mul (by rw [← e]; exact hxl)
  have hd : y * 2 ^ (64 - s) % 18446744073709551616 % 2 ^ (64 - s) = 0 := by
    rw [Nat.mod_mod_of_dvd _ ⟨2 ^ s, by rw [Nat.mul_comm, ← e]⟩, Nat.mul_mod_left]
  have hle : x / 2 ^ s ≤ x := Nat.div_le_self ..
  rw [u64_or_nat _ _ (by omega) (Nat.mod_lt _ (by decide)), Nat.or_comm, nat_join (64 - s) _ _ hd hb, Nat.add_comm]
  have hor : x / 2 ^ s + y * 2 ^ (64 - s) % 18446744073709551616 < 18446744073709551616 := by
    rw [Nat.add_comm, ← nat_join (64 - s) _ _ hd hb]
    exact Nat.or_lt_two_pow (n := 64) (Nat.mod_lt _ (by decide)) (by omega)
  have := u64_and_nat (x / 2 ^ s + y * 2 ^ (64 - s) % 18446744073709551616) 9007199254740991 hor (by decide)
  rw [show ((9007199254740991 : Nat) : Int) = 9007199254740991 from rfl] at this
  rw [this, show 9007199254740991 = 2 ^ 53 - 1 by decide, Nat.and_two_pow_sub_one_eq_mod, show 2 ^ 53 = 9007199254740992 by decide, hf]

set_option maxHeartbeats 1000000 in
theorem field_any (B N low W s : Nat) (hl : low < 4280) (hW : Hid (low = 64 * W + s)) (hs : s < 64) (w : World) (hA : AccAt w B (dig (N : Int))) :
    Calls Tadg.prog 33 #[.pointer (some ⟨B, 0, none⟩), .int .i64 low] w fun e w' => e = .returned (.int .u64 ((N / 2 ^ low % 9007199254740992 : Nat) : Int)) ∧ w' = w := by
  have ek : (low : Int) / 64 = (W : Int) := by have := hW.out; omega
  have es : (low : Int) % 64 = (s : Int) := by have := hW.out; omega
  have ek' : low / 64 = W := by have := hW.out; omega
  have es' : low % 64 = s := by have := hW.out; omega
  have hW67 : W + 1 < 68 := by have := hW.out; omega
  have hF : Hid (bits .and .u64 (bits .or .u64 (dig (N : Int) W / 2 ^ s) (IntKind.u64.wrap (dig (N : Int) (W + 1) * 2 ^ (64 - s)))) 9007199254740991 = ((N / 2 ^ low % 9007199254740992 : Nat) : Int)) := by
    rw [hW.out]; exact field_plain N W s hs
  have hc0 := hA.cell W (by omega)
  have hc1 := hA.cell (W + 1) hW67
  have w0 := dig_word (N : Int) W
  have w1 := dig_word (N : Int) (W + 1)
  have l0 : (W : Int) < 68 := by omega
  have l1 : (W : Int) + 1 < 68 := by omega
  generalize dig (N : Int) W = x at *
  generalize dig (N : Int) (W + 1) = y at *
  go_enter Tadg.func33, Tadg.ntmps33
  go_wp2
  go_ret
  exact ⟨congrArg (fun v => Ending.returned (Value.int .u64 v)) hF.out, rfl⟩

theorem bit_plain (N W s : Nat) (hs : s < 64) : bits .and .u64 (dig (N : Int) W / 2 ^ s) 1 = ((N / 2 ^ (64 * W + s) % 2 : Nat) : Int) := by
  have hf := bit_nat N W s hs
  rw [dig_nat]
  generalize hx : N / 2 ^ (64 * W) % 18446744073709551616 = x at *
  have hxl : x < 18446744073709551616 := by omega
  have c1 : (x : Int) / 2 ^ s = ((x / 2 ^ s : Nat) : Int) := by rw [Int.natCast_ediv, Int.natCast_pow]; rfl
  have hle : x / 2 ^ s ≤ x := Nat.div_le_self ..
  have := u64_and_nat (x / 2 ^ s) 1 (by omega) (by decide)
  rw [show ((1 : Nat) : Int) = 1 from rfl] at this
  rw [c1, this, Nat.and_one_is_mod, hf]

set_option maxHeartbeats 1000000 in
theorem bit_any (B N i W s : Nat) (hl : i < 4352) (hW : Hid (i = 64 * W + s)) (hs : s < 64) (w : World) (hA : AccAt w B (dig (N : Int))) :
    Calls Tadg.prog 34 #[.pointer (some ⟨B, 0, none⟩), .int .i64 i] w fun e w' => e = .returned (.bool (decide (N / 2 ^ i % 2 = 1))) ∧ w' = w := by
  have ek : (i : Int) / 64 = (W : Int) := by have := hW.out; omega
  have es : (i : Int) % 64 = (s : Int) := by have := hW.out; omega
  have ek' : i / 64 = W := by have := hW.out; omega
  have es' : i % 64 = s := by have := hW.out; omega
  have hW68 : W < 68 := by have := hW.out; omega
  have hF : Hid ((bits .and .u64 (dig (N : Int) W / 2 ^ s) 1 != 0) = decide (N / 2 ^ i % 2 = 1)) := by
    unfold Hid
    rw [hW.out, bit_plain N W s hs]
    generalize N / 2 ^ (64 * W + s) = z
    rcases Nat.mod_two_eq_zero_or_one z with h | h <;> rw [h] <;> rfl
  have hc0 := hA.cell W (by omega)
  have w0 := dig_word (N : Int) W
  have l0 : (W : Int) < 68 := by omega
  have i0 : ¬ (i : Int) < 0 := by omega
  have i1 : ¬ (4352 : Int) ≤ (i : Int) := by omega
  generalize dig (N : Int) W = x at *
  go_enter Tadg.func34, Tadg.ntmps34
  go_wp2
  go_ret
  exact ⟨congrArg (fun v => Ending.returned (Value.bool v)) hF.out, rfl⟩

theorem below_plain (N W s : Nat) (hs : s < 64) (h0 : N % 2 ^ (64 * W) = 0) : (IntKind.u64.wrap (dig (N : Int) W * 2 ^ (64 - s)) != 0) = !decide (N % 2 ^ (64 * W + s) = 0) := by
  have hf := below_nat N W s hs h0
  rw [dig_nat]
  generalize N / 2 ^ (64 * W) % 18446744073709551616 = x at *
  have c2 : IntKind.u64.wrap ((x : Int) * 2 ^ (64 - s)) = ((x * 2 ^ (64 - s) % 18446744073709551616 : Nat) : Int) := by
    rw [wrap_u64_mod, Int.natCast_emod, Int.natCast_mul, Int.natCast_pow]; rfl
  rw [c2]
  by_cases h : N % 2 ^ (64 * W + s) = 0
  · rw [hf.2 h, h]; rfl
  · have h' : x * 2 ^ (64 - s) % 18446744073709551616 ≠ 0 := fun e => h (hf.1 e)
    rw [decide_eq_false h, Bool.not_false]
    simp only [bne_iff_ne, ne_eq, Int.natCast_eq_zero]
    exact h'

set_option maxHeartbeats 1000000 in
theorem anyBelow_any (B N i W s : Nat) (hl : i < 4352) (hW : Hid (i = 64 * W + s)) (hs : s < 64) (w : World) (hA : AccAt w B (dig (N : Int))) :
    Calls Tadg.prog 35 #[.pointer (some ⟨B, 0, none⟩), .int .i64 i] w fun e w' => e = .returned (.bool (!decide (N % 2 ^ i = 0))) ∧ w' = w := by
  have ek : (i : Int) / 64 = (W : Int) := by have := hW.out; omega
  have es : (i : Int) % 64 = (s : Int) := by have := hW.out; omega
  have ek' : i / 64 = W := by have := hW.out; omega
  have es' : i % 64 = s := by have := hW.out; omega
  have hW68 : W < 68 := by have := hW.out; omega
  have l0 : (W : Int) < 68 := by omega
  go_enter Tadg.func35, Tadg.ntmps35
  go_wp2
  go_loop [5] (fun jv => ∃ k : Nat, k ≤ W ∧ jv = .int .i64 k ∧ ∀ j, j < k → dig (N : Int) j = 0) (fun jv => W - (intOf jv).toNat)
  case atStart => exact ⟨0, by omega, rfl, fun j h => absurd h (Nat.not_lt_zero _)⟩
  case round =>
    obtain ⟨k, hk, rfl, hz⟩ := hrel
    have HZ : Hid (∀ j, j < k → dig (N : Int) j = 0) := hz
    clear hz
    by_cases hlt : k < W
    · have hck := hA.cell k (by omega)
      have kW : (k : Int) < (W : Int) := by omega
      have k68 : (k : Int) < 68 := by omega
      by_cases h0 : dig (N : Int) k = 0
      · have hb : (dig (N : Int) k != 0) = false := by rw [h0]; rfl
        have H0 : Hid (∀ j, j = k → dig (N : Int) j = 0) := fun j hj => by rw [hj]; exact h0
        clear h0
        generalize dig (N : Int) k = x at *
        go_wp2
        go_round
        case rel =>
          refine ⟨k + 1, by omega, by go_num, fun j hj => ?_⟩
          by_cases e : j = k
          · exact H0.out j e
          · exact HZ.out j (by omega)
        case measure => simp [intOf]; omega
      · have hb : (dig (N : Int) k != 0) = true := by simpa using h0
        have hr : Hid ((!decide (N % 2 ^ i = 0)) = true) := by
          unfold Hid
          rw [decide_eq_false]; rfl
          intro e
          refine h0 ?_
          have : N % 2 ^ (64 * W) = 0 := by
            have h1 := Nat.mod_mod_of_dvd N (show 2 ^ (64 * W) ∣ 2 ^ i from Nat.pow_dvd_pow 2 (by have := hW.out; omega))
            rw [← h1, e, Nat.zero_mod]
          exact (words_zero N W).2 this k hlt
        clear h0
        generalize dig (N : Int) k = x at *
        go_wp2
        go_ret
        exact ⟨by rw [hr.out]; rfl, rfl⟩
    · have hkW : k = W := by omega
      subst hkW
      have kW : ¬ (k : Int) < (k : Int) := by omega
      have hF : Hid ((IntKind.u64.wrap (dig (N : Int) k * 2 ^ (64 - s)) != 0) = !decide (N % 2 ^ i = 0)) := by
        unfold Hid
        rw [hW.out]; exact below_plain N k s hs ((words_zero N k).1 HZ.out)
      have hc := hA.cell k hW68
      have w0 := dig_word (N : Int) k
      clear HZ
      generalize dig (N : Int) k = x at *
      go_wp2
      go_ret
      exact ⟨congrArg (fun v => Ending.returned (Value.bool v)) hF.out, rfl⟩
end Go.Proofs.YgctadDoor
