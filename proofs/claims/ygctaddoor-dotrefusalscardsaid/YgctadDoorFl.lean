import Derived.WalkKit
import Derived.WalkLawsBesides
import Derived.Deep.Draws
namespace Go.Fl

/-- The bits stand for a NaN. -/
def isNaN (x : Nat) : Bool := 9218868437227405312 < x % 9223372036854775808

/-- The NaN that the tape gives. -/
def tapeNaN (w : World) (x y : Nat) : Nat := (Question.nanBits .f64 x y).cut (w.tape w.drawn (Question.nanBits .f64 x y))

theorem tapeNaN_nan (w : World) (x y : Nat) : isNaN (tapeNaN w x y) = true ∧ tapeNaN w x y < 18446744073709551616 := by
  unfold tapeNaN isNaN Question.cut
  simp only [decide_eq_true_eq]
  generalize w.tape w.drawn (Question.nanBits .f64 x y) = t
  have h1 : t % 2 < 2 := Nat.mod_lt _ (by decide)
  have h2 : (t / 2) % (2 ^ 52 - 1) < 2 ^ 52 - 1 := Nat.mod_lt _ (by decide)
  generalize t % 2 = a at *
  generalize t / 2 % (2 ^ 52 - 1) = b at *
  omega

/-- The bits of 'x op y' where the tape stands at 'w'. -/
def val (op : BinOp) (w : World) (x y : Nat) : Nat := (floatBits op .f64 x y).getD (tapeNaN w x y)
/-- How many answers that takes. -/
def drs (op : BinOp) (x y : Nat) : Nat := if (floatBits op .f64 x y).isSome then 0 else 1

section
variable {P : Program} (w : World)
theorem run_op (op : BinOp) (t : TypeId) (x y : Nat) (h : op = .add ∨ op = .sub ∨ op = .mul) :
    (binOp op t (.float .f64 x) (.float .f64 y)).run P w = .ok (.float .f64 (val op w x y)) (w.drewN (drs op x y)) := by
  cases hf : floatBits op .f64 x y with
  | some r => rw [run_float_arith w op t .f64 x y r hf]; simp [val, drs, hf, World.drewN_zero]
  | none =>
    rcases h with rfl | rfl | rfl
    all_goals
      simp only [floatBits] at hf
      simp [binOp, Op.floatArith, hf, val, drs, floatBits, tapeNaN, Question.forced, World.drew_is_drewN]

theorem run_add (t : TypeId) (x y : Nat) : (binOp .add t (.float .f64 x) (.float .f64 y)).run P w = .ok (.float .f64 (val .add w x y)) (w.drewN (drs .add x y)) := run_op w .add t x y (.inl rfl)
theorem run_sub (t : TypeId) (x y : Nat) : (binOp .sub t (.float .f64 x) (.float .f64 y)).run P w = .ok (.float .f64 (val .sub w x y)) (w.drewN (drs .sub x y)) := run_op w .sub t x y (.inr (.inl rfl))
theorem run_mul (t : TypeId) (x y : Nat) : (binOp .mul t (.float .f64 x) (.float .f64 y)).run P w = .ok (.float .f64 (val .mul w x y)) (w.drewN (drs .mul x y)) := run_op w .mul t x y (.inr (.inr rfl))
theorem run_store_float (a : Addr) (m : Mode) (k : FloatKind) (n : Nat) : (store a (.float k n) m).run P w = stored P w a (.float k n) m := run_store P w a _ m rfl
end

/-- 'x op y' may come to the bits 'r'. -/
def Res (op : BinOp) (x y r : Nat) : Prop := floatBits op .f64 x y = some r ∨ (floatBits op .f64 x y = none ∧ isNaN r = true ∧ r < 18446744073709551616)
theorem val_res (op : BinOp) (w : World) (x y : Nat) : Res op x y (val op w x y) := by
  unfold Res val
  cases floatBits op .f64 x y with
  | some r => exact .inl rfl
  | none => exact .inr ⟨rfl, tapeNaN_nan w x y⟩
theorem Res.lt {op : BinOp} {x y r : Nat} (h : Res op x y r) : r < 18446744073709551616 := by
  rcases h with h | h
  · have := floatBits_wf h
    simpa [Lit.wf] using this
  · exact h.2.2

theorem read_cases (x : Nat) : (isNaN x = true ∧ ∃ s f, Ieee.double.read x = .nan s f) ∨ (isNaN x = false ∧ ((∃ s m e, Ieee.double.read x = .number s m e) ∨ ∃ s, Ieee.double.read x = .infinity s)) := by
  unfold Ieee.Format.read isNaN
  have e1 : Ieee.double.signWeight = 9223372036854775808 := by decide +kernel
  have e2 : Ieee.double.binade = 4503599627370496 := by decide +kernel
  have e3 : Ieee.double.infRung = 9218868437227405312 := by decide +kernel
  simp only [e1, e2, e3]
  split
  · exact .inr ⟨by simp; omega, .inl ⟨_, _, _, rfl⟩⟩
  · split
    · exact .inr ⟨by simp; omega, .inl ⟨_, _, _, rfl⟩⟩
    · split
      · exact .inr ⟨by simp; omega, .inr ⟨_, rfl⟩⟩
      · exact .inl ⟨by simp; omega, _, _, rfl⟩
theorem order_self (x : Nat) : (FloatKind.f64.format.order x x != some .eq) = isNaN x := by
  show (((Ieee.double.read x).order (Ieee.double.read x)) != some .eq) = isNaN x
  rcases read_cases x with ⟨h, s, f, e⟩ | ⟨h, ⟨s, m, e, e'⟩ | ⟨s, e'⟩⟩
  · rw [h, e]; rfl
  · rw [h, e']; simp [Ieee.Datum.order]
  · rw [h, e']; simp [Ieee.Datum.order]

/-- The Go function 'same'. -/
def same (x y : Nat) : Bool := x == y || (isNaN x && isNaN y)
theorem same_refl (x : Nat) : same x x = true := by simp [same]
/-- An operation on like operands comes to like results. -/
theorem Res.same {op : BinOp} {x y x' y' r r' : Nat} (h : Res op x y r) (h' : Res op x' y' r') (hop : op = .add ∨ op = .sub ∨ op = .mul) (hx : same x x' = true) (hy : same y y' = true) : same r r' = true := by
  have nl : ∀ (x y : Nat), isNaN x = true → floatBits op .f64 x y = none := by
    intro x y hn
    rcases read_cases x with ⟨h, s, f, e⟩ | ⟨h, _⟩
    · rcases hop with rfl | rfl | rfl
      · show Ieee.double.add x y = none
        unfold Ieee.Format.add; rw [e]; rfl
      · show Ieee.double.sub x y = none
        unfold Ieee.Format.sub; rw [e]; rfl
      · show Ieee.double.mul x y = none
        unfold Ieee.Format.mul; rw [e]; rfl
    · rw [h] at hn; cases hn
  have nr : ∀ (x y : Nat), isNaN y = true → floatBits op .f64 x y = none := by
    intro x y hn
    rcases read_cases y with ⟨h, s, f, e⟩ | ⟨h, _⟩
    · rcases hop with rfl | rfl | rfl
      · show Ieee.double.add x y = none
        unfold Ieee.Format.add; rw [e]; cases Ieee.double.read x <;> rfl
      · show Ieee.double.sub x y = none
        unfold Ieee.Format.sub; rw [e]; cases Ieee.double.read x <;> rfl
      · show Ieee.double.mul x y = none
        unfold Ieee.Format.mul; rw [e]; cases Ieee.double.read x <;> rfl
    · rw [h] at hn; cases hn
  have key : floatBits op .f64 x y = floatBits op .f64 x' y' := by
    simp only [Fl.same, Bool.or_eq_true, beq_iff_eq, Bool.and_eq_true] at hx hy
    rcases hx with rfl | ⟨a, b⟩
    · rcases hy with rfl | ⟨a, b⟩
      · rfl
      · rw [nr _ _ a, nr _ _ b]
    · rw [nl _ _ a, nl _ _ b]
  unfold Res at h h'
  rw [← key] at h'
  rcases h with h | h
  · rw [h] at h'
    rcases h' with h' | h'
    · cases h'; exact same_refl _
    · cases h'.1
  · rw [h.1] at h'
    rcases h' with h' | h'
    · cases h'
    · simp [Fl.same, h.2.1, h'.2.1]

/-- One answer of 'x op y': the bits, or one NaN. -/
def can (op : BinOp) (x y : Nat) : Nat := (floatBits op .f64 x y).getD 9221120237041090561
theorem can_res (op : BinOp) (x y : Nat) : Res op x y (can op x y) := by
  unfold Res can
  cases floatBits op .f64 x y with
  | some r => exact .inl rfl
  | none => exact .inr ⟨rfl, by decide, by decide⟩
/-- Horner's rule from the top, 'k' steps. -/
def hor (xs : List Nat) (x : Nat) : Nat → Nat
  | 0 => xs.getD (xs.length - 1) 0
  | k + 1 => can .add (can .mul (hor xs x k) x) (xs.getD (xs.length - 2 - k) 0)
theorem hor_step {xs : List Nat} {x k s a r : Nat} (hs : same s (hor xs x k) = true) (ha : Res .mul s x a) (hr : Res .add a (xs.getD (xs.length - 2 - k) 0) r) : same r (hor xs x (k + 1)) = true :=
  hr.same (can_res ..) (.inl rfl) (ha.same (can_res ..) (.inr (.inr rfl)) hs (same_refl _)) (same_refl _)
theorem same_comm {x y : Nat} (h : same x y = true) : same y x = true := by
  unfold same at *; simp only [Bool.or_eq_true, beq_iff_eq, Bool.and_eq_true] at *
  rcases h with h | h
  · exact .inl h.symm
  · exact .inr ⟨h.2, h.1⟩
theorem same_trans {x y z : Nat} (h : same x y = true) (h' : same y z = true) : same x z = true := by
  unfold same at *; simp only [Bool.or_eq_true, beq_iff_eq, Bool.and_eq_true] at *
  rcases h with rfl | h
  · exact h'
  · rcases h' with rfl | h'
    · exact .inr h
    · exact .inr ⟨h.1, h'.2⟩

/-! The Go function Split64. -/
def fld (p : Nat) : Nat := p / 4503599627370496 % 2048
def frc (p : Nat) : Nat := p % 4503599627370496
def spNeg (p : Nat) : Bool := !isNaN p && decide (9223372036854775808 ≤ p)
def spMan (p : Nat) : Nat := if fld p = 2047 then 0 else if fld p = 0 then frc p else frc p + 4503599627370496
def spExp (p : Nat) : Int := if fld p = 2047 then 0 else if fld p = 0 then (if frc p = 0 then 0 else -1074) else fld p - 1075
def spCls (p : Nat) : Nat := if fld p = 2047 then (if frc p = 0 then 2 else 3) else if fld p = 0 then (if frc p = 0 then 0 else 1) else 1

theorem fld_lt (p : Nat) : fld p < 2048 := Nat.mod_lt _ (by decide)
theorem frc_lt (p : Nat) : frc p < 4503599627370496 := Nat.mod_lt _ (by decide)
theorem bits_fld (p : Nat) (hp : p < 18446744073709551616) : bits .and .u64 ((p : Int) / 4503599627370496) 2047 = (fld p : Int) := by
  have := u64_and_nat (p / 4503599627370496) 2047 (by omega) (by decide)
  rw [nat_mask11] at this
  simpa [fld] using this
theorem bits_frc (p : Nat) (hp : p < 18446744073709551616) : bits .and .u64 (p : Int) 4503599627370495 = (frc p : Int) := by
  have := u64_and_nat p 4503599627370495 (by omega) (by decide)
  rw [show p &&& 4503599627370495 = p % 4503599627370496 from Nat.and_two_pow_sub_one_eq_mod p 52] at this
  simpa [frc] using this
theorem bits_man (m : Nat) (hm : m < 4503599627370496) : bits .or .u64 (m : Int) 4503599627370496 = ((m + 4503599627370496 : Nat) : Int) := by
  have := u64_or_nat m 4503599627370496 (by omega) (by decide)
  rw [Nat.or_comm, nat_join 52 4503599627370496 m (by decide) hm, Nat.add_comm] at this
  exact this
theorem wrap_i16 (n : Int) (h1 : -32768 ≤ n) (h2 : n < 32768) : IntKind.i16.wrap n = n := by
  simp [IntKind.wrap, IntKind.bits, IntKind.signed]; omega
theorem isNaN_iff (p : Nat) : isNaN p = (decide (fld p = 2047) && decide (frc p ≠ 0)) := by
  unfold isNaN fld frc
  rw [Bool.eq_iff_iff]; simp; omega

theorem cls_nan (p : Nat) : ((spCls p : Int) == 3) = isNaN p := by
  rw [isNaN_iff]; unfold spCls
  by_cases a : fld p = 2047 <;> by_cases b : frc p = 0 <;> by_cases c : fld p = 0 <;> simp [a, b, c]
theorem inf_add : floatBits .add .f64 9214364837600034816 9214364837600034816 = some 9218868437227405312 := by decide +kernel
theorem inf_sub : floatBits .sub .f64 9218868437227405312 9218868437227405312 = none := by decide +kernel

end Go.Fl
