/-
  PLAIN: float64 words and the whole numbers that they stand for (in units of 2^-1074). No Go here.
-/
import Derived.Test.YgctadDoorEft
import Ieee.Arith
namespace Rn
open Ieee
set_option linter.unusedVariables false
set_option linter.unusedSimpArgs false

theorem log2_mul_pow (n p : Nat) (h : n ≠ 0) : (n * 2 ^ p).log2 = n.log2 + p := by
  have h1 := Nat.log2_self_le h
  have h2 := @Nat.lt_log2_self n
  have h0 : n * 2 ^ p ≠ 0 := by
    have := pow_pos p
    intro hh
    rcases Nat.mul_eq_zero.1 hh with h' | h' <;> omega
  have a1 : (n * 2 ^ p).log2 < n.log2 + p + 1 := by
    rw [Nat.log2_lt h0, show n.log2 + p + 1 = (n.log2 + 1) + p by omega, Nat.pow_add]
    exact Nat.mul_lt_mul_of_pos_right h2 (pow_pos p)
  have a2 : ¬ (n * 2 ^ p).log2 < n.log2 + p := by
    rw [Nat.log2_lt h0, Nat.pow_add]
    exact Nat.not_lt.2 (Nat.mul_le_mul_right _ h1)
  omega

theorem cutE_scale (n k p : Nat) : cutE (n * 2 ^ p) (k + p) = cutE n k := by
  have hp := pow_pos p
  have e1 : n * 2 ^ p / 2 ^ (k + p) = n / 2 ^ k := by rw [Nat.pow_add, Nat.mul_div_mul_right _ _ hp]
  have e2 : n * 2 ^ p % 2 ^ (k + p) = n % 2 ^ k * 2 ^ p := by rw [Nat.pow_add, Nat.mul_mod_mul_right]
  unfold cutE
  rw [e1, e2, Nat.pow_add]
  have c1 : (2 ^ k * 2 ^ p < 2 * (n % 2 ^ k * 2 ^ p)) ↔ (2 ^ k < 2 * (n % 2 ^ k)) := by
    rw [← Nat.mul_assoc]; exact Nat.mul_lt_mul_right hp
  have c2 : (2 ^ k * 2 ^ p = 2 * (n % 2 ^ k * 2 ^ p)) ↔ (2 ^ k = 2 * (n % 2 ^ k)) := by
    rw [← Nat.mul_assoc]; exact Nat.mul_right_cancel_iff hp
  simp only [c1, c2]

theorem rnU_scale (u n : Nat) : rnU u (n * 2 ^ u) = rnU 0 n * 2 ^ u := by
  by_cases h : n = 0
  · subst h; simp [rnU, cutE]
  · have e : expo u (n * 2 ^ u) = expo 0 n + u := by unfold expo; rw [log2_mul_pow n u h]; omega
    unfold rnU
    rw [e, cutE_scale, Nat.pow_add, Nat.mul_assoc]

theorem cut_eq (neg : Bool) (n d : Nat) (h : n ≠ 0) : Toward.even.cut neg n d = cutE n d := by
  unfold Toward.cut cutE
  simp only [Nat.one_shiftLeft]
  by_cases hd : d ≤ n.log2 + 2
  · rw [Nat.min_eq_left hd]
    congr 1
    by_cases c1 : 2 ^ d < 2 * (n % 2 ^ d)
    · simp [c1]
    · by_cases c2 : 2 ^ d = 2 * (n % 2 ^ d) ∧ n / 2 ^ d % 2 = 1
      · rw [if_pos (.inr c2)]
        simp only [Bool.toNat_eq_one, Bool.or_eq_true, decide_eq_true_eq, Bool.and_eq_true, beq_iff_eq]
        exact .inr c2
      · rw [if_neg (by omega)]
        simp only [Bool.toNat_eq_zero, Bool.or_eq_false_iff, decide_eq_false_iff_not, Bool.and_eq_false_iff, beq_eq_false_iff_ne]
        exact ⟨c1, by omega⟩
  · have h1 : n < 2 ^ (n.log2 + 1) := Nat.lt_log2_self
    have h2 : 2 ^ (n.log2 + 2) = 2 * 2 ^ (n.log2 + 1) := by rw [show n.log2 + 2 = (n.log2 + 1) + 1 by omega, Nat.pow_succ, Nat.mul_comm]
    have h3 : 2 ^ (n.log2 + 2) ≤ 2 ^ d := Nat.pow_le_pow_right (by decide) (by omega)
    rw [Nat.min_eq_right (by omega)]
    have e1 : n / 2 ^ (n.log2 + 2) = 0 := Nat.div_eq_of_lt (by omega)
    have e2 : n % 2 ^ (n.log2 + 2) = n := Nat.mod_eq_of_lt (by omega)
    have e3 : n / 2 ^ d = 0 := Nat.div_eq_of_lt (by omega)
    have e4 : n % 2 ^ d = n := Nat.mod_eq_of_lt (by omega)
    rw [e1, e2, e3, e4, if_neg (by omega)]
    simp only [Nat.zero_add, Bool.toNat_eq_zero, Bool.or_eq_false_iff, decide_eq_false_iff_not, Bool.and_eq_false_iff, beq_eq_false_iff_ne]
    exact ⟨by omega, by omega⟩

/-- The rung of a rounded number. -/
def rung (u N : Nat) : Nat := (expo u N - u) * 4503599627370496 + cutE N (expo u N)

theorem nearest_eq (neg : Bool) (mag p u : Nat) (h : mag ≠ 0) :
    double.nearest neg mag ((p : Int) - 1074 - u) = double.word neg (min (rung u (mag * 2 ^ p)) double.infRung) := by
  have hl := log2_mul_pow mag p h
  have e0 : double.leastPlace = -1074 := by decide +kernel
  have e1 : double.binade = 4503599627370496 := by decide +kernel
  have e2 : (double.fractionBits : Int) = 52 := by decide +kernel
  unfold Format.nearest
  rw [if_neg h]
  simp only [e0, e1, e2]
  have ek : max ((p : Int) - 1074 - u + mag.log2 - 52) (-1074) = (expo u (mag * 2 ^ p) : Int) - 1074 - u := by unfold expo; rw [hl]; omega
  rw [ek]
  have a1 : ((expo u (mag * 2 ^ p) : Int) - 1074 - u - -1074).toNat = expo u (mag * 2 ^ p) - u := by omega
  have hu : u ≤ expo u (mag * 2 ^ p) := Nat.le_max_right ..
  have a2 : (((p : Int) - 1074 - u) - ((expo u (mag * 2 ^ p) : Int) - 1074 - u)).toNat = p - expo u (mag * 2 ^ p) := by omega
  have a3 : (((expo u (mag * 2 ^ p) : Int) - 1074 - u) - ((p : Int) - 1074 - u)).toNat = expo u (mag * 2 ^ p) - p := by omega
  rw [a1, a2, a3]
  have a4 : Toward.even.cut neg (mag <<< (p - expo u (mag * 2 ^ p))) (expo u (mag * 2 ^ p) - p) = cutE (mag * 2 ^ p) (expo u (mag * 2 ^ p)) := by
    generalize expo u (mag * 2 ^ p) = k
    by_cases hk : p ≤ k
    · rw [show p - k = 0 by omega, Nat.shiftLeft_zero, cut_eq neg mag _ h]
      conv => rhs; rw [show k = (k - p) + p by omega]
      exact (cutE_scale mag (k - p) p).symm
    · rw [show k - p = 0 by omega, Nat.shiftLeft_eq]
      have hne : mag * 2 ^ (p - k) ≠ 0 := by
        have := pow_pos (p - k)
        intro hh
        rcases Nat.mul_eq_zero.1 hh with h' | h' <;> omega
      rw [cut_eq neg _ _ hne]
      have := cutE_scale (mag * 2 ^ (p - k)) 0 k
      rw [Nat.zero_add, Nat.mul_assoc, ← Nat.pow_add, Nat.sub_add_cancel (by omega)] at this
      exact this.symm
  rw [a4]
  rfl

/-- The magnitude of a rung. -/
def mg (r : Nat) : Nat := if r < 4503599627370496 then r else (4503599627370496 + r % 4503599627370496) * 2 ^ (r / 4503599627370496 - 1)
def sg (x : Nat) : Bool := x / 9223372036854775808 % 2 == 1
/-- The number that a finite word stands for, times 2^1074. -/
def vz (x : Nat) : Int := if sg x then -(mg (x % 9223372036854775808) : Int) else mg (x % 9223372036854775808)
/-- Neither an infinity nor a NaN. -/
def fin (x : Nat) : Bool := x % 9223372036854775808 < 9218868437227405312

theorem mg_rung (L q : Nat) (h1 : q ≤ 9007199254740992) (h2 : L = 0 ∨ 4503599627370496 ≤ q) : mg (L * 4503599627370496 + q) = q * 2 ^ L := by
  unfold mg
  by_cases hL : L = 0
  · subst hL
    by_cases c1 : q < 4503599627370496
    · rw [if_pos (by omega)]; simp
    · rw [if_neg (by omega)]
      by_cases c2 : q = 9007199254740992
      · subst c2; rfl
      · rw [show (0 * 4503599627370496 + q) % 4503599627370496 = q - 4503599627370496 by omega, show (0 * 4503599627370496 + q) / 4503599627370496 - 1 = 0 by omega]
        simp only [Nat.pow_zero, Nat.mul_one]; omega
  · have hq : 4503599627370496 ≤ q := by omega
    rw [if_neg (by omega)]
    by_cases c2 : q = 9007199254740992
    · subst c2
      rw [show (L * 4503599627370496 + 9007199254740992) % 4503599627370496 = 0 by omega, show (L * 4503599627370496 + 9007199254740992) / 4503599627370496 - 1 = L + 1 by omega, Nat.pow_succ]
      omega
    · rw [show (L * 4503599627370496 + q) % 4503599627370496 = q - 4503599627370496 by omega, show (L * 4503599627370496 + q) / 4503599627370496 - 1 = L by omega,
        show 4503599627370496 + (q - 4503599627370496) = q by omega]

theorem cutE_ge (u N : Nat) (h : u < expo u N) : 4503599627370496 ≤ cutE N (expo u N) := by
  have h1 := pow_expo_le u N h
  rw [pow52] at h1
  obtain ⟨a, r, k1, k2, k3, _⟩ := cutE_cases N (expo u N)
  generalize cutE N (expo u N) = q at *
  generalize 2 ^ expo u N = g at *
  have : 4503599627370496 ≤ a := by
    by_cases h' : 4503599627370496 ≤ a
    · exact h'
    · have := Nat.mul_le_mul_right g (show a + 1 ≤ 4503599627370496 by omega)
      rw [Nat.add_mul, Nat.one_mul] at this
      omega
  omega

theorem mg_rung_rn (u N : Nat) : mg (rung u N) * 2 ^ u = rnU u N := by
  have hu : u ≤ expo u N := Nat.le_max_right ..
  unfold rung rnU
  rw [mg_rung _ _ (cutE_le u N) (by
    by_cases h : u < expo u N
    · exact .inr (cutE_ge u N h)
    · exact .inl (by omega))]
  rw [Nat.mul_assoc, ← Nat.pow_add, Nat.sub_add_cancel hu]

/-- The numbers below 2^TOP (in units of 2^-1074) are finite. -/
def TOP : Nat := 2098

theorem rung_lt_gen (u N t : Nat) (ht : 1 ≤ t) (h : rnU u N < 2 ^ (t + 53 + u)) : rung u N < (t + 2) * 4503599627370496 := by
  have hu : u ≤ expo u N := Nat.le_max_right ..
  have hle := cutE_le u N
  by_cases h0 : u < expo u N
  · have hge := cutE_ge u N h0
    unfold rnU at h
    unfold rung
    generalize cutE N (expo u N) = q at *
    obtain ⟨L, hL⟩ : ∃ L, expo u N = L + u := ⟨expo u N - u, by omega⟩
    rw [hL] at h ⊢
    rw [Nat.pow_add 2 (t + 53) u, Nat.pow_add 2 L u, ← Nat.mul_assoc] at h
    have h' := Nat.lt_of_mul_lt_mul_right h
    rw [show L + u - u = L by omega]
    rw [Nat.add_comm t 53, pow53] at h'
    have h3 : L ≤ t := by
      by_cases c : L ≤ t
      · exact c
      · have e1 : 2 ^ (t + 1) ≤ 2 ^ L := Nat.pow_le_pow_right (by decide) (by omega)
        rw [Nat.pow_succ] at e1
        have e2 : 4503599627370496 * (2 ^ t * 2) ≤ q * 2 ^ L := Nat.mul_le_mul hge e1
        generalize 2 ^ t = a at *
        generalize q * 2 ^ L = b at *
        omega
    by_cases h4 : L = t
    · subst h4
      have h5 : q < 9007199254740992 := Nat.lt_of_mul_lt_mul_right h'
      clear h h' hL
      omega
    · clear h h' hL
      omega
  · unfold rung
    rw [show expo u N - u = 0 by omega]
    omega

theorem rung_lt (u N : Nat) (h : rnU u N < 2 ^ (TOP + u)) : rung u N < 9218868437227405312 := by
  have := rung_lt_gen u N 2045 (by decide) h
  exact this

theorem word_sg (neg : Bool) (r : Nat) (h : r < 9223372036854775808) : sg (double.word neg r) = neg ∧ double.word neg r % 9223372036854775808 = r ∧ double.word neg r < 18446744073709551616 := by
  have e : double.signWeight = 9223372036854775808 := by decide +kernel
  unfold Format.word sg
  rw [e]
  cases neg
  · simp only [Bool.false_eq_true, if_false]
    refine ⟨by rw [beq_eq_false_iff_ne]; omega, by omega, by omega⟩
  · simp only [if_true]
    refine ⟨by rw [beq_iff_eq]; omega, by omega, by omega⟩

theorem infRung_eq : double.infRung = 9218868437227405312 := by decide +kernel

/-- What 'nearest' writes, if it is not too great. -/
theorem nearest_fin (neg : Bool) (mag p u : Nat) (h : rnU u (mag * 2 ^ p) < 2 ^ (TOP + u)) :
    fin (double.nearest neg mag ((p : Int) - 1074 - u)) = true ∧ sg (double.nearest neg mag ((p : Int) - 1074 - u)) = neg ∧
    mg (double.nearest neg mag ((p : Int) - 1074 - u) % 9223372036854775808) * 2 ^ u = rnU u (mag * 2 ^ p) ∧ double.nearest neg mag ((p : Int) - 1074 - u) < 18446744073709551616 := by
  by_cases h0 : mag = 0
  · subst h0
    have e : double.nearest neg 0 ((p : Int) - 1074 - u) = double.word neg 0 := by unfold Format.nearest; simp
    rw [e]
    obtain ⟨a, b, c⟩ := word_sg neg 0 (by decide)
    refine ⟨by unfold fin; rw [b]; decide, a, ?_, c⟩
    rw [b]; simp [mg, rnU, cutE]
  · rw [nearest_eq neg mag p u h0, infRung_eq]
    have hr := rung_lt u _ h
    rw [Nat.min_eq_left (Nat.le_of_lt hr)]
    obtain ⟨a, b, c⟩ := word_sg neg (rung u (mag * 2 ^ p)) (by omega)
    refine ⟨by unfold fin; rw [b]; simpa using hr, a, ?_, c⟩
    rw [b]; exact mg_rung_rn ..

/-- What a finite word reads as. -/
theorem read_fin (x : Nat) (h : fin x = true) : ∃ m p : Nat, double.read x = .number (sg x) m ((p : Int) - 1074) ∧ m * 2 ^ p = mg (x % 9223372036854775808) := by
  have e1 : double.signWeight = 9223372036854775808 := by decide +kernel
  have e2 : double.binade = 4503599627370496 := by decide +kernel
  have e3 : double.leastPlace = -1074 := by decide +kernel
  unfold fin at h
  simp only [decide_eq_true_eq] at h
  unfold Format.read
  simp only [e1, e2, e3, infRung_eq]
  by_cases c : x % 9223372036854775808 < 4503599627370496
  · rw [if_pos c]
    refine ⟨_, 0, rfl, ?_⟩
    simp [mg, c]
  · rw [if_neg c, if_pos h]
    refine ⟨4503599627370496 + x % 9223372036854775808 % 4503599627370496, x % 9223372036854775808 / 4503599627370496 - 1, ?_, ?_⟩
    · unfold sg
      congr 1
    · unfold mg; rw [if_neg c]

theorem vz_abs (x : Nat) : (vz x).natAbs = mg (x % 9223372036854775808) := by
  unfold vz; split <;> omega

theorem signed_eq (neg : Bool) (m d : Nat) : signed neg m d = if neg then -((m * 2 ^ d : Nat) : Int) else ((m * 2 ^ d : Nat) : Int) := by
  unfold signed; rw [Nat.shiftLeft_eq]

theorem sum_total (s t : Bool) (m n p q : Nat) : ∃ total : Int, ∃ b : Nat, (b : Int) - 1074 = min ((p : Int) - 1074) ((q : Int) - 1074) ∧
    total = signed s m (((p : Int) - 1074) - min ((p : Int) - 1074) ((q : Int) - 1074)).toNat + signed t n (((q : Int) - 1074) - min ((p : Int) - 1074) ((q : Int) - 1074)).toNat ∧
    total * P b = (if s then -((m * 2 ^ p : Nat) : Int) else ((m * 2 ^ p : Nat) : Int)) + (if t then -((n * 2 ^ q : Nat) : Int) else ((n * 2 ^ q : Nat) : Int)) := by
  refine ⟨_, min p q, by omega, rfl, ?_⟩
  rw [show (((p : Int) - 1074) - min ((p : Int) - 1074) ((q : Int) - 1074)).toNat = p - min p q by omega,
    show (((q : Int) - 1074) - min ((p : Int) - 1074) ((q : Int) - 1074)).toNat = q - min p q by omega, signed_eq, signed_eq, Int.add_mul]
  have h1 : ((m * 2 ^ (p - min p q) : Nat) : Int) * P (min p q) = ((m * 2 ^ p : Nat) : Int) := by
    unfold P; rw [← Int.natCast_mul, Nat.mul_assoc, ← Nat.pow_add, Nat.sub_add_cancel (Nat.min_le_left ..)]
  have h2 : ((n * 2 ^ (q - min p q) : Nat) : Int) * P (min p q) = ((n * 2 ^ q : Nat) : Int) := by
    unfold P; rw [← Int.natCast_mul, Nat.mul_assoc, ← Nat.pow_add, Nat.sub_add_cancel (Nat.min_le_right ..)]
  congr 1
  · split
    · rw [Int.neg_mul, h1]
    · exact h1
  · split
    · rw [Int.neg_mul, h2]
    · exact h2

theorem rn_abs (n : Int) : (rn n).natAbs = rnU 0 n.natAbs := by unfold rn; split <;> omega
theorem rn_sign (n : Int) : rn n = if n < 0 then -(rnU 0 n.natAbs : Int) else rnU 0 n.natAbs := rfl

/-- The written sum. -/
theorem sum_write (s t : Bool) (m n p q : Nat) (N : Int) (hN : N = (if s then -((m * 2 ^ p : Nat) : Int) else ((m * 2 ^ p : Nat) : Int)) + (if t then -((n * 2 ^ q : Nat) : Int) else ((n * 2 ^ q : Nat) : Int)))
    (h : (rn N).natAbs < 2 ^ TOP) : ∃ z, (((Datum.number s m ((p : Int) - 1074)).sum (Datum.number t n ((q : Int) - 1074))).map double.write) = some z ∧ fin z = true ∧ vz z = rn N ∧ z < 18446744073709551616 ∧ (N ≠ 0 → sg z = decide (N < 0)) ∧ (N = 0 → sg z = (s && t)) := by
  obtain ⟨total, b, hb, ht, hN'⟩ := sum_total s t m n p q
  simp only [Datum.sum, Option.map_some, Format.write]
  rw [← ht, ← hb]
  rw [← hN'] at hN
  have hP := P_pos b
  have hsz : (N < 0 ↔ total < 0) ∧ (N = 0 ↔ total = 0) := by
    rw [hN]
    refine ⟨⟨fun h1 => ?_, fun h1 => Int.mul_neg_of_neg_of_pos h1 hP⟩, ⟨fun h1 => ?_, fun h1 => by rw [h1, Int.zero_mul]⟩⟩
    · by_cases c : total < 0
      · exact c
      · have := Int.mul_nonneg (show 0 ≤ total by omega) (Int.le_of_lt hP); omega
    · rcases Int.mul_eq_zero.1 h1 with h | h
      · exact h
      · omega
  have habs : total.natAbs * 2 ^ b = N.natAbs := by rw [hN, Int.natAbs_mul]; rfl
  rw [rn_abs, ← habs] at h
  obtain ⟨c1, c2, c3, c4⟩ := nearest_fin (if total = 0 then (s && t) else decide (total < 0)) total.natAbs b 0 (by simpa using h)
  simp only [Int.natCast_zero, Int.sub_zero, Nat.pow_zero, Nat.mul_one] at c1 c2 c3 c4
  refine ⟨_, rfl, c1, ?_, c4, ?_, ?_⟩
  · unfold vz
    rw [c2, c3, rn_sign, ← habs]
    by_cases h0 : total = 0
    · simp [h0, rnU, cutE]
    · simp only [h0, if_false, hsz.1, decide_eq_true_eq]
  · intro h0
    rw [c2, if_neg (fun h => h0 (hsz.2.2 h))]
    by_cases c : N < 0 <;> simp [c, ← hsz.1]
  · intro h0
    rw [c2, if_pos (hsz.2.1 h0)]

theorem add_fin {x y : Nat} (hx : fin x = true) (hy : fin y = true) (h : (rn (vz x + vz y)).natAbs < 2 ^ TOP) :
    ∃ z, double.add x y = some z ∧ fin z = true ∧ vz z = rn (vz x + vz y) ∧ z < 18446744073709551616 ∧ (vz x + vz y ≠ 0 → sg z = decide (vz x + vz y < 0)) ∧ (vz x + vz y = 0 → sg z = (sg x && sg y)) := by
  obtain ⟨m, p, hr, hm⟩ := read_fin x hx
  obtain ⟨n, q, hr', hn⟩ := read_fin y hy
  unfold Format.add
  rw [hr, hr']
  refine sum_write _ _ m n p q _ ?_ h
  unfold vz; rw [hm, hn]

theorem sub_fin {x y : Nat} (hx : fin x = true) (hy : fin y = true) (h : (rn (vz x - vz y)).natAbs < 2 ^ TOP) :
    ∃ z, double.sub x y = some z ∧ fin z = true ∧ vz z = rn (vz x - vz y) ∧ z < 18446744073709551616 ∧ (vz x - vz y ≠ 0 → sg z = decide (vz x - vz y < 0)) ∧ (vz x - vz y = 0 → sg z = (sg x && !sg y)) := by
  obtain ⟨m, p, hr, hm⟩ := read_fin x hx
  obtain ⟨n, q, hr', hn⟩ := read_fin y hy
  unfold Format.sub
  rw [hr, hr']
  refine sum_write _ _ m n p q _ ?_ h
  unfold vz; rw [hm, hn]
  cases sg y <;> simp <;> omega

theorem mul_fin {x y : Nat} (hx : fin x = true) (hy : fin y = true) (h : rnU 1074 ((vz x).natAbs * (vz y).natAbs) < 2 ^ (TOP + 1074)) :
    ∃ z, double.mul x y = some z ∧ fin z = true ∧ ((vz z).natAbs * 2 ^ 1074 = rnU 1074 ((vz x).natAbs * (vz y).natAbs)) ∧ sg z = (sg x ^^ sg y) ∧ z < 18446744073709551616 := by
  obtain ⟨m, p, hr, hm⟩ := read_fin x hx
  obtain ⟨n, q, hr', hn⟩ := read_fin y hy
  unfold Format.mul
  rw [hr, hr']
  simp only [Datum.product, Option.map_some, Format.write]
  have e : (p : Int) - 1074 + ((q : Int) - 1074) = ((p + q : Nat) : Int) - 1074 - (1074 : Nat) := by omega
  rw [e]
  have ee : (vz x).natAbs * (vz y).natAbs = m * n * 2 ^ (p + q) := by
    rw [vz_abs, vz_abs, ← hm, ← hn, Nat.pow_add, Nat.mul_assoc, Nat.mul_left_comm (2 ^ p), ← Nat.mul_assoc, ← Nat.mul_assoc]
  rw [ee] at h ⊢
  obtain ⟨c1, c2, c3, c4⟩ := nearest_fin (sg x ^^ sg y) (m * n) (p + q) 1074 h
  refine ⟨_, rfl, c1, ?_, c2, c4⟩
  rw [vz_abs]; exact c3

end Rn
