import Derived.Test.YgctadDoorW16
import Derived.Test.YgctadDoorTq
namespace Go.Proofs.YgctadDoor
open Go.RowKit Go.Acc Rn
set_option linter.unusedSimpArgs false
set_option linter.unusedVariables false
attribute [local go_sem] Go.Fl.run_add Go.Fl.run_sub Go.Fl.run_mul

def mhi (x y : Int) : Int := x * y / 18446744073709551616
def mlo (x y : Int) : Int := x * y % 18446744073709551616

theorem and32 {x : Int} (hx : Word x) : bits .and .u64 x 4294967295 = x % 4294967296 := by
  obtain ⟨a, rfl⟩ := Int.eq_ofNat_of_zero_le hx.1
  have := u64_and_nat a 4294967295 (by have := hx.2; omega) (by decide)
  rw [show a &&& 4294967295 = a % 4294967296 from Nat.and_two_pow_sub_one_eq_mod a 32] at this
  simpa using this
theorem half_mul {a b : Int} (a0 : 0 ≤ a) (a1 : a < 4294967296) (b0 : 0 ≤ b) (b1 : b < 4294967296) : 0 ≤ a * b ∧ a * b ≤ 18446744065119617025 := by
  refine ⟨Int.mul_nonneg a0 b0, ?_⟩
  have := Int.mul_le_mul (show a ≤ 4294967295 by omega) (show b ≤ 4294967295 by omega) b0 (by decide)
  exact this

theorem mul_plain {x y : Int} (hx : Word x) (hy : Word y) :
    IntKind.u64.wrap (IntKind.u64.wrap (IntKind.u64.wrap (x / 4294967296 * (y / 4294967296)) +
      IntKind.u64.wrap (IntKind.u64.wrap (x / 4294967296 * bits BinOp.and IntKind.u64 y 4294967295) + IntKind.u64.wrap (bits BinOp.and IntKind.u64 x 4294967295 * bits BinOp.and IntKind.u64 y 4294967295) / 4294967296) / 4294967296) +
      IntKind.u64.wrap (bits BinOp.and IntKind.u64 (IntKind.u64.wrap (IntKind.u64.wrap (x / 4294967296 * bits BinOp.and IntKind.u64 y 4294967295) + IntKind.u64.wrap (bits BinOp.and IntKind.u64 x 4294967295 * bits BinOp.and IntKind.u64 y 4294967295) / 4294967296)) 4294967295 +
        IntKind.u64.wrap (bits BinOp.and IntKind.u64 x 4294967295 * (y / 4294967296))) / 4294967296) = mhi x y := by
  have hw : ∀ n : Int, Word (IntKind.u64.wrap n) := fun n => by rw [wrap_u64]; exact ⟨by omega, by omega⟩
  rw [and32 hx, and32 hy, and32 (hw _)]
  simp only [wrap_u64]
  unfold mhi
  have ex : x = x / 4294967296 * 4294967296 + x % 4294967296 := by omega
  have ey : y = y / 4294967296 * 4294967296 + y % 4294967296 := by omega
  obtain ⟨hx0, hx1⟩ := hx
  obtain ⟨hy0, hy1⟩ := hy
  have exy : x * y = (x / 4294967296 * (y / 4294967296)) * 18446744073709551616 + (x / 4294967296 * (y % 4294967296)) * 4294967296 + (x % 4294967296 * (y / 4294967296)) * 4294967296 + x % 4294967296 * (y % 4294967296) := by
    generalize x / 4294967296 = a at *
    generalize x % 4294967296 = b at *
    generalize y / 4294967296 = c at *
    generalize y % 4294967296 = d at *
    subst ex; subst ey
    rw [Int.add_mul, Int.mul_add, Int.mul_add]
    have e1 : a * 4294967296 * (c * 4294967296) = a * c * 18446744073709551616 := by rw [Int.mul_right_comm, ← Int.mul_assoc, Int.mul_assoc (a * c)]; rfl
    have e2 : a * 4294967296 * d = a * d * 4294967296 := Int.mul_right_comm ..
    have e3 : b * (c * 4294967296) = b * c * 4294967296 := (Int.mul_assoc ..).symm
    rw [e1, e2, e3]; omega
  rw [exy]
  have p1 := half_mul (a := x / 4294967296) (b := y / 4294967296) (by omega) (by omega) (by omega) (by omega)
  have p2 := half_mul (a := x / 4294967296) (b := y % 4294967296) (by omega) (by omega) (by omega) (by omega)
  have p3 := half_mul (a := x % 4294967296) (b := y / 4294967296) (by omega) (by omega) (by omega) (by omega)
  have p4 := half_mul (a := x % 4294967296) (b := y % 4294967296) (by omega) (by omega) (by omega) (by omega)
  generalize x / 4294967296 * (y / 4294967296) = A at *
  generalize x / 4294967296 * (y % 4294967296) = B at *
  generalize x % 4294967296 * (y / 4294967296) = C at *
  generalize x % 4294967296 * (y % 4294967296) = D at *
  clear ex ey exy hw
  omega

set_option maxHeartbeats 1000000 in
theorem mul64_any (x y : Int) (hx : Word x) (hy : Word y) (w : World) :
    Calls Tadg.prog 73 #[.int .u64 x, .int .u64 y] w fun e w' => e = .returned (.tuple #[.int .u64 (mhi x y), .int .u64 (mlo x y)]) ∧ w' = w := by
  have e2 : mlo x y = IntKind.u64.wrap (x * y) := by rw [wrap_u64]; rfl
  rw [← mul_plain hx hy, e2]
  clear e2
  go_enter Tadg.func73, Tadg.ntmps73
  go_wp2
  go_ret2
  exact ⟨rfl, rfl⟩

set_option maxHeartbeats 1000000 in
theorem mul_any (x y : Int) (hx : Word x) (hy : Word y) (w : World) :
    Calls Tadg.prog 58 #[.int .u64 x, .int .u64 y] w fun e w' => e = .returned (.tuple #[.int .u64 (mhi x y), .int .u64 (mlo x y)]) ∧ w' = w := by
  go_enter Tadg.func58, Tadg.ntmps58
  go_wp2_with (go_at_call 73; refine (mul64_any _ _ hx hy _).mono ?_; rintro e w' ⟨rfl, rfl⟩)
  go_ret2
  exact ⟨rfl, rfl⟩

theorem mhi_word {x y : Int} (hx : Word x) (hy : Word y) : Word (mhi x y) := by
  unfold mhi
  have h0 := Int.mul_nonneg hx.1 hy.1
  have h1 : x * y ≤ 18446744073709551615 * 18446744073709551615 := Int.mul_le_mul (by have := hx.2; omega) (by have := hy.2; omega) hy.1 (by decide)
  generalize x * y = z at *
  exact ⟨by omega, by omega⟩
theorem mlo_word (x y : Int) : Word (mlo x y) := by unfold mlo; exact ⟨by omega, by omega⟩
theorem m_eq (x y : Int) : mhi x y * 18446744073709551616 + mlo x y = x * y := by unfold mhi mlo; omega

/-- What a product of two finite floats adds to an accumulator. -/
theorem prod_place (p q : Nat) (hp : p < 18446744073709551616) (hf : Rn.fin p = true) (hq : q < 18446744073709551616) (hg : Rn.fin q = true) :
    (if (Fl.spNeg p != Fl.spNeg q) then -((mhi (Fl.spMan p) (Fl.spMan q) * 18446744073709551616 + mlo (Fl.spMan p) (Fl.spMan q)) * P (Fl.spExp p + Fl.spExp q + 2148).toNat)
      else (mhi (Fl.spMan p) (Fl.spMan q) * 18446744073709551616 + mlo (Fl.spMan p) (Fl.spMan q)) * P (Fl.spExp p + Fl.spExp q + 2148).toNat) = vz p * vz q := by
  have hX := spExp_bd p
  have hY := spExp_bd q
  have e : P (Fl.spExp p + Fl.spExp q + 2148).toNat = P (Fl.spExp p + 1074).toNat * P (Fl.spExp q + 1074).toNat := by rw [← P_add]; congr 1; omega
  have ep : ((Fl.spMan p * 2 ^ (Fl.spExp p + 1074).toNat : Nat) : Int) = (Fl.spMan p : Int) * P (Fl.spExp p + 1074).toNat := by rw [Int.natCast_mul]; rfl
  have eq : ((Fl.spMan q * 2 ^ (Fl.spExp q + 1074).toNat : Nat) : Int) = (Fl.spMan q : Int) * P (Fl.spExp q + 1074).toNat := by rw [Int.natCast_mul]; rfl
  have em : ∀ a b c d : Int, a * b * (c * d) = a * c * (b * d) := fun a b c d => by rw [Int.mul_assoc, Int.mul_left_comm b, ← Int.mul_assoc]
  rw [m_eq, e, vz_sp p hp hf, vz_sp q hq hg, ep, eq, em]
  cases Fl.spNeg p <;> cases Fl.spNeg q <;> simp [Int.neg_mul, Int.mul_neg]

set_option maxHeartbeats 1000000 in
theorem addProd_any (B : Nat) (v : Int) (p q : Nat) (hp : p < 18446744073709551616) (hf : Rn.fin p = true) (hq : q < 18446744073709551616) (hg : Rn.fin q = true) (w : World) (hA : AccAt w B (dig v)) :
    Calls Tadg.prog 29 #[.pointer (some ⟨B, 0, none⟩), .float .f64 p, .float .f64 q] w fun e w' => e = .returned (.bool true) ∧ AccAt w' B (dig (v + vz p * vz q)) ∧ Only B w w' := by
  have hX := (spExp_bd p).1
  have hX2 := (spExp_bd p).2
  have hY := (spExp_bd q).1
  have hY2 := (spExp_bd q).2
  have HV := prod_place p q hp hf hq hg
  obtain ⟨i, hi⟩ : ∃ i : Nat, Fl.spExp p + Fl.spExp q + 2148 = (i : Int) := ⟨(Fl.spExp p + Fl.spExp q + 2148).toNat, by omega⟩
  have hi4 : i < 4160 := by omega
  rw [hi, Int.toNat_natCast] at HV
  have HV' : Hid ((if (Fl.spNeg p != Fl.spNeg q) then -((mhi (Fl.spMan p) (Fl.spMan q) * 18446744073709551616 + mlo (Fl.spMan p) (Fl.spMan q)) * P i) else (mhi (Fl.spMan p) (Fl.spMan q) * 18446744073709551616 + mlo (Fl.spMan p) (Fl.spMan q)) * P i) = vz p * vz q) := HV
  have hm : Word (Fl.spMan p) := ⟨by omega, by have := spMan_lt p; omega⟩
  have hn : Word (Fl.spMan q) := ⟨by omega, by have := spMan_lt q; omega⟩
  have hc : (Fl.spCls p : Int) ≤ 1 := by have := fin_cls p; rw [hf] at this; simpa using this
  have hd : (Fl.spCls q : Int) ≤ 1 := by have := fin_cls q; rw [hg] at this; simpa using this
  clear HV
  go_enter Tadg.func29, Tadg.ntmps29
  go_wp2_with (first
    | (go_at_call_of 24 (Value.float FloatKind.f64 p); refine (split64_any p hp _).mono ?_; rintro e w' ⟨rfl, rfl⟩)
    | (go_at_call_of 24 (Value.float FloatKind.f64 q); refine (split64_any q hq _).mono ?_; rintro e w' ⟨rfl, rfl⟩)
    | (go_at_call 58; refine (mul_any _ _ hm hn _).mono ?_; rintro e w' ⟨rfl, rfl⟩)
    | (go_at_call 59; refine (place_any B v _ _ _ i _ hA (mhi_word hm hn) (mlo_word ..) hi4).mono ?_; rintro e w' ⟨rfl, h1, h2⟩))
  go_ret
  refine ⟨rfl, ?_, h2⟩
  rw [← HV'.out]
  exact h1

end Go.Proofs.YgctadDoor
