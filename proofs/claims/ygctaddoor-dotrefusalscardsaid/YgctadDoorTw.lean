/-
  PLAIN: Split and TwoProd on words.
-/
import Derived.Test.YgctadDoorTp
namespace Rn
open Go Go.Fl

theorem vz_sign (x : Nat) : vz x = if sg x then -((vz x).natAbs : Int) else ((vz x).natAbs : Int) := by
  rw [vz_abs]; rfl

theorem mul_pos_iff {c p : Int} (hp : 0 < p) : (c * p < 0 ↔ c < 0) ∧ (0 < c * p ↔ 0 < c) := by
  refine ⟨⟨fun h => ?_, fun h => Int.mul_neg_of_neg_of_pos h hp⟩, ⟨fun h => ?_, fun h => Int.mul_pos h hp⟩⟩
  · by_cases k : c < 0
    · exact k
    · have := Int.mul_nonneg (show 0 ≤ c by omega) (Int.le_of_lt hp); omega
  · by_cases k : 0 < c
    · exact k
    · have := Int.mul_nonneg (show 0 ≤ -c by omega) (Int.le_of_lt hp)
      rw [Int.neg_mul] at this; omega

theorem natAbs_P (k : Nat) : (P k).natAbs = 2 ^ k := Int.natAbs_natCast _
theorem pw {a b c : Nat} (h : a + b = c) : 2 ^ a * 2 ^ b = 2 ^ c := by rw [← Nat.pow_add, h]
theorem res_mul {x y r : Nat} (fx : fin x = true) (fy : fin y = true) {c : Int} (hc : vz x * vz y = c * P 1074) (hb : ((rn c).natAbs : Int) ≤ P 2097) (h : Res .mul x y r) :
    fin r = true ∧ vz r = rn c ∧ r < 18446744073709551616 := by
  have e0 : (vz x).natAbs * (vz y).natAbs = c.natAbs * 2 ^ 1074 := by
    rw [← Int.natAbs_mul, hc, Int.natAbs_mul, natAbs_P]
  have e1 : rnU 1074 ((vz x).natAbs * (vz y).natAbs) = rnU 0 c.natAbs * 2 ^ 1074 := by rw [e0, rnU_scale]
  have hlt : rnU 1074 ((vz x).natAbs * (vz y).natAbs) < 2 ^ (TOP + 1074) := by
    rw [e1, Nat.pow_add]
    have hq : 0 < 2 ^ 1074 := Nat.two_pow_pos 1074
    generalize 2 ^ 1074 = q at *
    refine Nat.mul_lt_mul_of_pos_right ?_ hq
    rw [← rn_abs]; exact lt_top hb
  obtain ⟨z, h1, h2, h3, h4, h5⟩ := mul_fin fx fy hlt
  have h1' : floatBits .mul .f64 x y = some z := h1
  have hz : r = z := by
    rcases h with h | ⟨h, _⟩
    · rw [h1'] at h; cases h; rfl
    · rw [h1'] at h; cases h
  subst hz
  rw [e1] at h3
  have h6 : (vz r).natAbs = rnU 0 c.natAbs := Nat.mul_right_cancel (Nat.two_pow_pos _) h3
  refine ⟨h2, ?_, h5⟩
  have hP := P_pos 1074
  have ⟨s1, s2⟩ := mul_pos_iff (c := c) hP
  rw [← hc] at s1 s2
  rw [vz_sign r, h6, h4]
  unfold rn
  by_cases c0 : c = 0
  · subst c0; simp [rnU, cutE]
  · have hne : vz x * vz y ≠ 0 := by
      rw [hc]; intro hh
      rcases Int.mul_eq_zero.1 hh with hh | hh <;> omega
    have hx := vz_sign x
    have hy := vz_sign y
    have nx : 0 < ((vz x).natAbs : Int) := by
      by_cases k : vz x = 0
      · rw [k, Int.zero_mul] at hne; exact absurd rfl hne
      · omega
    have ny : 0 < ((vz y).natAbs : Int) := by
      by_cases k : vz y = 0
      · rw [k, Int.mul_zero] at hne; exact absurd rfl hne
      · omega
    have hpos := Int.mul_pos nx ny
    have hprod : vz x * vz y = if (sg x ^^ sg y) = true then -(((vz x).natAbs : Int) * ((vz y).natAbs : Int)) else ((vz x).natAbs : Int) * ((vz y).natAbs : Int) := by
      generalize ((vz x).natAbs : Int) = m at *
      generalize ((vz y).natAbs : Int) = n at *
      rw [hx, hy]
      cases sg x <;> cases sg y <;> simp [Int.neg_mul, Int.mul_neg]
    cases hxy : (sg x ^^ sg y)
    · rw [hxy] at hprod
      simp only [Bool.false_eq_true, if_false] at hprod ⊢
      rw [if_neg (by have := s2.1 (by omega); omega)]
    · rw [hxy] at hprod
      simp only [if_true] at hprod ⊢
      rw [if_pos (s1.1 (by omega))]

theorem mg_K (w : Nat) (hw : 2 ^ 1049 = w) : mg 4728779608772575232 = 134217729 * (33554432 * w) := by
  unfold mg
  rw [if_neg (by decide), show (4503599627370496 + 4728779608772575232 % 4503599627370496 : Nat) = 134217729 * 33554432 by decide, show (4728779608772575232 / 4503599627370496 - 1 : Nat) = 1049 by decide, hw]
  omega
theorem P_eq (k w : Nat) (h : 2 ^ k = w) : P k = (w : Int) := by unfold P; rw [h]
theorem vz_K : vz 4728779608772575232 = 134217729 * P 1074 := by
  have h1 : P 1074 = 33554432 * P 1049 := by rw [show (1074 : Nat) = 25 + 1049 by decide, P_add]; rfl
  obtain ⟨w, hw⟩ : ∃ w, 2 ^ 1049 = w := ⟨_, rfl⟩
  have h2 := mg_K w hw
  have h3 := P_eq 1049 w hw
  clear hw
  unfold vz
  rw [if_neg (by decide), show (4728779608772575232 % 9223372036854775808 : Nat) = 4728779608772575232 by decide, h2, h1, h3]
  omega
theorem fin_K : fin 4728779608772575232 = true := by decide

/-- The chain of Split over numbers. -/
structure Spl (a c d hi lo : Int) : Prop where
  hc : c = rn (134217729 * a)
  hd : d = rn (c - a)
  hh : hi = rn (c - d)
  hl : lo = rn (a - hi)

theorem split_words {x c d hi lo : Nat} (fx : fin x = true) (bx : ((vz x).natAbs : Int) ≤ P 2069) (h1 : Res .mul 4728779608772575232 x c) (h2 : Res .sub c x d) (h3 : Res .sub c d hi) (h4 : Res .sub x hi lo) :
    Spl (vz x) (vz c) (vz d) (vz hi) (vz lo) ∧ fin hi = true ∧ hi < 18446744073709551616 ∧ fin lo = true ∧ lo < 18446744073709551616 := by
  have Fx := vz_F x
  have hP : P 2097 = 268435456 * P 2069 := by rw [show (2097 : Nat) = 28 + 2069 by decide, P_add, P28]
  have hp := P_pos 2069
  have FK : F (134217729 * P 2069) := F_of 2069 (Int.dvd_mul_left ..) (by omega)
  have b1 : ((rn (134217729 * vz x)).natAbs : Int) ≤ 134217729 * P 2069 := by
    have m1 := rn_mono (show 134217729 * vz x ≤ 134217729 * P 2069 by omega)
    have m2 := rn_mono (show -(134217729 * P 2069) ≤ 134217729 * vz x by omega)
    rw [rn_id FK] at m1
    rw [rn_neg, rn_id FK] at m2
    omega
  obtain ⟨c1, c2, c3⟩ := res_mul fin_K fx (c := 134217729 * vz x) (by rw [vz_K, Int.mul_assoc, Int.mul_comm (P 1074), ← Int.mul_assoc]) (by omega) h1
  rw [← c2] at b1
  obtain ⟨d1, d2, d3⟩ := res_sub c1 fx (rn_le 2097 (by omega)) h2
  have n1 := rn_near (vz c - vz x) (vz c) (vz_F c)
  rw [← d2] at n1
  obtain ⟨k1, k2, k3⟩ := res_sub c1 d1 (rn_le 2097 (by omega)) h3
  have n2 := rn_near (vz c - vz d) (vz x) Fx
  rw [← k2] at n2
  obtain ⟨l1, l2, l3⟩ := res_sub fx k1 (rn_le 2097 (by omega)) h4
  exact ⟨⟨c2, d2, k2, l2⟩, k1, k3, l1, l3⟩

/-- Every number of 53 digits, on the scale where all 53 are whole. -/
theorem normal {n : Int} (hF : F n) (h0 : n ≠ 0) : ∃ (m j : Nat) (A : Int), n * P m = A * P j ∧ 4503599627370496 ≤ A.natAbs ∧ A.natAbs < 9007199254740992 ∧ (m = 0 ∨ j = 0) := by
  obtain ⟨k, h1, h2, h3⟩ := ulp hF
  have hp := P_pos k
  by_cases hb : 4503599627370496 * P k ≤ (n.natAbs : Int)
  · obtain ⟨A, rfl⟩ := h1
    refine ⟨0, k, A, by rw [P_zero, Int.mul_one, Int.mul_comm], ?_, ?_, .inl rfl⟩
    · rw [Int.natAbs_mul, Int.natCast_mul] at hb
      have e : ((P k).natAbs : Int) = P k := by omega
      rw [e, Int.mul_comm (P k)] at hb
      have := Int.le_of_mul_le_mul_right hb hp
      omega
    · rw [Int.natAbs_mul, Int.natCast_mul] at h2
      have e : ((P k).natAbs : Int) = P k := by omega
      rw [e, Int.mul_comm (P k)] at h2
      have h4 : (A.natAbs : Int) * P k < 9007199254740992 * P k := by omega
      have := Int.lt_of_mul_lt_mul_right h4 (Int.le_of_lt hp)
      omega
  · have hk : k = 0 := by
      rcases h3 with h3 | h3
      · exact h3
      · exact absurd h3 hb
    subst hk
    rw [P_zero] at hb
    have hn : n.natAbs ≠ 0 := by omega
    have hlt : n.natAbs < 2 ^ 52 := by omega
    have hL := (Nat.log2_lt hn).2 hlt
    have l1 := Nat.log2_self_le hn
    have l2 := @Nat.lt_log2_self n.natAbs
    refine ⟨52 - n.natAbs.log2, 0, n * P (52 - n.natAbs.log2), by rw [P_zero, Int.mul_one], ?_, ?_, .inr rfl⟩
    · rw [Int.natAbs_mul]
      have : 2 ^ n.natAbs.log2 * 2 ^ (52 - n.natAbs.log2) ≤ n.natAbs * 2 ^ (52 - n.natAbs.log2) := Nat.mul_le_mul_right _ l1
      rw [← Nat.pow_add, show n.natAbs.log2 + (52 - n.natAbs.log2) = 52 by omega] at this
      exact this
    · rw [Int.natAbs_mul]
      have : n.natAbs * 2 ^ (52 - n.natAbs.log2) < 2 ^ (n.natAbs.log2 + 1) * 2 ^ (52 - n.natAbs.log2) := Nat.mul_lt_mul_of_pos_right l2 (Nat.two_pow_pos _)
      rw [← Nat.pow_add, show n.natAbs.log2 + 1 + (52 - n.natAbs.log2) = 53 by omega] at this
      exact this

theorem cancel_P {a b : Int} {m : Nat} (h : a * P m = b * P m) : a = b := Int.eq_of_mul_eq_mul_right (Int.ne_of_gt (P_pos m)) h

/-- Split, seen on that scale. -/
theorem spl_parts {a c d hi lo A : Int} {m j : Nat} (hs : Spl a c d hi lo) (hA : a * P m = A * P j) (h1 : 4503599627370496 ≤ A.natAbs) (h2 : A.natAbs < 9007199254740992) :
    ∃ ah al : Int, hi * P m = ah * P j ∧ lo * P m = al * P j ∧ ah + al = A ∧ P 27 ∣ ah ∧ al.natAbs ≤ 67108864 ∧ ah.natAbs ≤ 9007199254740992 := by
  obtain ⟨hc, hd, hh, hl⟩ := hs
  have ec : c * P m = rn (134217729 * A) * P j := by rw [hc, ← rn_up, ← rn_up, Int.mul_assoc, hA, Int.mul_assoc]
  have ed : d * P m = rn (rn (134217729 * A) - A) * P j := by rw [hd, ← rn_up, ← rn_up, Int.sub_mul, Int.sub_mul, ec, hA]
  have eh : hi * P m = rn (rn (134217729 * A) - rn (rn (134217729 * A) - A)) * P j := by rw [hh, ← rn_up, ← rn_up, Int.sub_mul, Int.sub_mul, ec, ed]
  obtain ⟨v1, v2, v3⟩ := veltkamp h1 h2
  have el : lo * P m = (A - rn (rn (134217729 * A) - rn (rn (134217729 * A) - A))) * P j := by
    rw [hl, ← rn_up, Int.sub_mul, eh, hA, ← Int.sub_mul, rn_up, rn_id (F_small (by omega))]
  exact ⟨_, _, eh, el, by omega, v1, v2, v3⟩

theorem spl_sum {a c d hi lo : Int} (hF : F a) (hs : Spl a c d hi lo) : hi + lo = a := by
  by_cases h0 : a = 0
  · subst h0
    obtain ⟨hc, hd, hh, hl⟩ := hs
    rw [Int.mul_zero, rn_zero] at hc
    subst hc
    rw [Int.sub_zero, rn_zero] at hd
    subst hd
    rw [Int.sub_zero, rn_zero] at hh
    subst hh
    rw [Int.sub_zero, rn_zero] at hl
    subst hl
    rfl
  · obtain ⟨m, j, A, e, h1, h2, _⟩ := normal hF h0
    obtain ⟨ah, al, e1, e2, e3, _⟩ := spl_parts hs e h1 h2
    refine cancel_P (m := m) ?_
    rw [Int.add_mul, e1, e2, ← Int.add_mul, e3, e]

theorem spl_zero {c d hi lo : Int} (hs : Spl 0 c d hi lo) : hi = 0 ∧ lo = 0 := by
  obtain ⟨hc, hd, hh, hl⟩ := hs
  rw [Int.mul_zero, rn_zero] at hc
  subst hc
  rw [Int.sub_zero, rn_zero] at hd
  subst hd
  rw [Int.sub_zero, rn_zero] at hh
  subst hh
  rw [Int.sub_zero, rn_zero] at hl
  exact ⟨rfl, hl⟩

end Rn
