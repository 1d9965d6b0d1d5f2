import Derived.Test.YgctadDoorX3
import Derived.Laws.BitsAllLaws
namespace Go.Proofs.YgctadDoor
open Go.RowKit
set_option linter.unusedSimpArgs false
set_option linter.unusedVariables false

theorem strip {q f N : Nat} (hq : q < N) (hf : f < 2 ^ q) : (2 ^ q + f) &&& (2 ^ N - (2 ^ q + 1)) = f := by
  have hlt : 2 ^ q < 2 ^ N := Nat.pow_lt_pow_right (by omega) hq
  apply Nat.eq_of_testBit_eq
  intro i
  rw [Nat.testBit_and, Nat.testBit_two_pow_sub_succ hlt]
  rcases Nat.lt_trichotomy i q with h | h | h
  · rw [Nat.testBit_two_pow_add_gt h, Nat.testBit_two_pow]
    have h1 : decide (i < N) = true := decide_eq_true (by omega)
    have h2 : decide (q = i) = false := decide_eq_false (by omega)
    rw [h1, h2]
    simp
  · subst h
    have h2 : Nat.testBit f i = false := Nat.testBit_lt_two_pow hf
    rw [Nat.testBit_two_pow, h2]
    simp
  · have hp : 2 ^ (q + 1) ≤ 2 ^ i := Nat.pow_le_pow_right (by omega) h
    have hp2 : 2 ^ (q + 1) = 2 * 2 ^ q := by rw [Nat.pow_succ]; omega
    have h1 : Nat.testBit f i = false := Nat.testBit_lt_two_pow (by omega)
    have h2 : Nat.testBit (2 ^ q + f) i = false := Nat.testBit_lt_two_pow (by omega)
    rw [h1, h2]
    rfl

theorem wrap_u64n {n : Nat} (h : n < 18446744073709551616) : IntKind.u64.wrap (n : Int) = (n : Int) := by
  simp [IntKind.wrap, IntKind.signed, IntKind.bits]; omega

theorem jnorm_eq {m z L F q f k : Nat} {e p l : Int} (hp : p = (q : Int) + 1) (hq : q < 60) (hF : e + L - p - l + 1 = (F : Int)) (hk : p - ((L : Int) - z) = (k : Int)) (hM : m / 2 ^ z * 2 ^ k = 2 ^ q + f) (hf : f < 2 ^ q)
    (hlt : F * 2 ^ q + f < 18446744073709551616) : jnorm m z L e p l = ((F * 2 ^ q + f : Nat) : Int) := by
  have hq2 : 2 ^ q + 2 ^ q ≤ 2 ^ 64 := by
    have : 2 ^ (q + 1) ≤ 2 ^ 64 := Nat.pow_le_pow_right (by omega) (by omega)
    rw [Nat.pow_succ] at this
    omega
  have e64 : 2 ^ 64 = 18446744073709551616 := rfl
  rw [e64] at hq2
  unfold jnorm
  rw [show p.toNat - 1 = q by omega, show (e + (z : Int) + ((L : Int) - (z : Int)) - p - l + 1) = (F : Int) by omega, hk, Int.toNat_natCast]
  have c1 : (F : Int) * 2 ^ q = ((F * 2 ^ q : Nat) : Int) := by rw [Int.natCast_mul, Int.natCast_pow]; rfl
  have c2 : (m : Int) / 2 ^ z * 2 ^ k = ((2 ^ q + f : Nat) : Int) := by rw [← hM, Int.natCast_mul, Int.natCast_ediv, Int.natCast_pow, Int.natCast_pow]; rfl
  have c3 : (2 : Int) ^ q = ((2 ^ q : Nat) : Int) := by rw [Int.natCast_pow]; rfl
  rw [c1, c2, c3, wrap_u64n (by omega), wrap_u64n (by omega), wrap_u64n (by omega), u64_andNot_nat _ _ (by omega) (by omega)]
  have st := strip (q := q) (N := 64) (f := f) (by omega) hf
  rw [show 18446744073709551615 - 2 ^ q = 2 ^ 64 - (2 ^ q + 1) by omega, st, u64_or_nat _ _ (by omega) (by omega)]
  congr 1
  rw [nat_join q (F * 2 ^ q) f (Nat.mul_mod_left _ _) hf]

/-- What join answers, wherever the table stands. -/
def JoinTo (m : Nat) (e p l t : Int) (r : Nat) (ok : Bool) : Prop :=
  ∀ w : World, Tab w → Calls Tadg.prog 62 #[.int .u64 m, .int .i64 e, .int .i64 p, .int .i64 l, .int .i64 t] w fun x w' => ∃ n, x = .returned (.tuple #[.int .u64 r, .bool ok]) ∧ w' = w.drewN n

theorem joinTo_zero (e p l t : Int) : JoinTo 0 e p l t 0 true := fun w _ =>
  (join_zero e p l t w).mono fun x w' ⟨h1, h2⟩ => ⟨0, h1, h2⟩
theorem joinTo_no {m : Nat} {e p l t : Int} (hm : m < 18446744073709551616) (h0 : m ≠ 0) (he : -40000 ≤ e) (he2 : e ≤ 40000)
    (hno : p < (Lib.bitLen m : Int) - Lib.ctz 64 m ∨ e + Lib.ctz 64 m < l ∨ t < e + Lib.bitLen m) : JoinTo m e p l t 0 false := fun w hT => by
  obtain ⟨o, ho, e1, h1, h2⟩ := parts h0 hm
  have h3 : Lib.bitLen m ≤ 64 := bitLen_of_lt (by omega) (by omega)
  exact (join_no m (Lib.ctz 64 m) (Lib.bitLen m) e p l t hm (by omega) rfl rfl (by omega) h3 he he2 hno w hT).mono fun x w' ⟨h1, h2⟩ => ⟨0, h1, h2⟩
/-- A value with the top bit at its place: the normal case. -/
theorem joinTo_norm {q f F : Nat} {e p l t : Int} (hq : q < 60) (hf : f < 2 ^ q) (hp : p = (q : Int) + 1) (hF : e - l + 1 = (F : Int)) (hF0 : 1 ≤ F) (ht : e + p ≤ t) (hl1 : -2000 ≤ l) (hl2 : l ≤ 0) (hq1 : 1 ≤ q) (hlt : F * 2 ^ q + f < 18446744073709551616) (he2 : e ≤ 40000) :
    JoinTo (2 ^ q + f) e p l t (F * 2 ^ q + f) true := fun w hT => by
  have hp0 := Nat.two_pow_pos q
  have hq2 : 2 ^ q + 2 ^ q ≤ 2 ^ 60 := by
    have : 2 ^ (q + 1) ≤ 2 ^ 60 := Nat.pow_le_pow_right (by omega) (by omega)
    rw [Nat.pow_succ] at this
    omega
  have hm : 2 ^ q + f < 18446744073709551616 := by have : (2:Nat) ^ 60 < 18446744073709551616 := by decide
                                                   omega
  obtain ⟨o, ho, e1, h1, h2⟩ := parts (m := 2 ^ q + f) (by omega) hm
  have hL : Lib.bitLen (2 ^ q + f) = q + 1 := by
    have := Lib.bitLen_shift q (2 ^ q + f) (by omega) (by omega)
    rw [show (2 ^ q + f) / 2 ^ q = 1 from Nat.div_eq_of_lt_le (by omega) (by omega)] at this
    rw [this]; rfl
  have ho1 : 1 ≤ Lib.bitLen o := by
    rw [Lib.bitLen_half o (by omega) ?_]
    · omega
    · have := Nat.le_mul_of_pos_left o (Nat.two_pow_pos (Lib.ctz 64 (2 ^ q + f)))
      rw [← e1] at this
      omega
  have hj : jnorm (2 ^ q + f) (Lib.ctz 64 (2 ^ q + f)) (q + 1) e p l = ((F * 2 ^ q + f : Nat) : Int) :=
    jnorm_eq (F := F) (q := q) (f := f) (k := Lib.ctz 64 (2 ^ q + f)) hp hq (by omega) (by omega) (by
      have hd : (2 ^ q + f) / 2 ^ Lib.ctz 64 (2 ^ q + f) = o := Nat.div_eq_of_eq_mul_right (Nat.two_pow_pos _) e1
      rw [hd, Nat.mul_comm]
      exact e1.symm) hf hlt
  have := join_norm (2 ^ q + f) (Lib.ctz 64 (2 ^ q + f)) (q + 1) e p l t hm (by omega) rfl hL (by omega) h1 (by omega) (by omega) he2 (by omega) (by omega) hl1 hl2 (by omega) (by omega) (by omega) (by omega) w hT
  rw [hj] at this
  exact this
/-- A value at the least exponent, below the top bit: the subnormal case. -/
theorem joinTo_sub {m q : Nat} {p l t : Int} (h0 : m ≠ 0) (hq : q < 60) (hm : m < 2 ^ q) (hp : p = (q : Int) + 1) (hl1 : -2000 ≤ l) (hl2 : l ≤ 0) (ht : l + p ≤ t) (hq1 : 1 ≤ q) : JoinTo m l p l t m true := fun w hT => by
  have hq2 : 2 ^ q ≤ 2 ^ 60 := Nat.pow_le_pow_right (by omega) (by omega)
  have h60 : (2:Nat) ^ 60 < 18446744073709551616 := by decide
  have hm' : m < 18446744073709551616 := by omega
  obtain ⟨o, ho, e1, h1, h2⟩ := parts h0 hm'
  have hL : Lib.bitLen m ≤ q := bitLen_of_lt hm (by omega)
  have hr : IntKind.u64.wrap ((m : Int) / 2 ^ Lib.ctz 64 m * 2 ^ (l + (Lib.ctz 64 m : Int) - l).toNat) = (m : Int) := by
    rw [show (l + (Lib.ctz 64 m : Int) - l).toNat = Lib.ctz 64 m by omega]
    have hd : m / 2 ^ Lib.ctz 64 m = o := Nat.div_eq_of_eq_mul_right (Nat.two_pow_pos _) e1
    have c2 : (m : Int) / 2 ^ Lib.ctz 64 m * 2 ^ Lib.ctz 64 m = (m : Int) := by
      have : ((m / 2 ^ Lib.ctz 64 m * 2 ^ Lib.ctz 64 m : Nat) : Int) = (m : Int) := by rw [hd, Nat.mul_comm, ← e1]
      rw [Int.natCast_mul, Int.natCast_ediv, Int.natCast_pow] at this
      exact this
    rw [c2, wrap_u64n hm']
  have := join_sub m (Lib.ctz 64 m) (Lib.bitLen m) l p l t hm' (by omega) rfl rfl (by omega) h1 (by omega) (by omega) (by omega) (by omega) (by omega) hl1 hl2 (by omega) (by omega) (by omega) (by omega) w hT
  rw [hr] at this
  exact this.mono fun x w' ⟨h1, h2⟩ => ⟨0, h1, h2⟩
end Go.Proofs.YgctadDoor
