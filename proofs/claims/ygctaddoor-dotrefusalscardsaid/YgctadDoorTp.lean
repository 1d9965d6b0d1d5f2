/-
  PLAIN: Veltkamp's split and Dekker's product over whole numbers. No Go here.
-/
import Derived.Test.YgctadDoorTs
namespace Rn
open Go Go.Fl

theorem rnU_up (n q : Nat) : rnU 0 (n * 2 ^ q) = rnU 0 n * 2 ^ q := by
  by_cases h : n = 0
  · subst h; simp [rnU, cutE]
  · by_cases h2 : 52 ≤ n.log2
    · have e : expo 0 (n * 2 ^ q) = expo 0 n + q := by unfold expo; rw [log2_mul_pow n q h]; omega
      unfold rnU
      rw [e, cutE_scale, Nat.pow_add, Nat.mul_assoc]
    · have h3 : n < 2 ^ 53 := (Nat.log2_lt h).1 (by omega)
      have h4 : n ≤ 9007199254740992 := by omega
      rw [rnU_id 0 n ⟨0, Nat.le_refl _, by simp, by simpa using h4⟩]
      refine rnU_id 0 _ ⟨q, Nat.zero_le _, Int.natCast_dvd_natCast.2 (Nat.dvd_mul_left ..), ?_⟩
      rw [Int.natAbs_natCast, pow53]
      exact Nat.mul_le_mul_right _ h4
/-- Rounding does not hang on the scale. -/
theorem rn_up (n : Int) (q : Nat) : rn (n * P q) = rn n * P q := by
  have hp := P_pos q
  have e1 : (n * P q).natAbs = n.natAbs * 2 ^ q := by rw [Int.natAbs_mul]; rfl
  have e2 : (n * P q < 0) ↔ n < 0 := by
    constructor
    · intro h
      by_cases c : n < 0
      · exact c
      · have := Int.mul_nonneg (show 0 ≤ n by omega) (Int.le_of_lt hp); omega
    · intro h; exact Int.mul_neg_of_neg_of_pos h hp
  unfold rn
  rw [e1, rnU_up, Int.natCast_mul]
  have e3 : ((2 ^ q : Nat) : Int) = P q := rfl
  rw [e3]
  by_cases c : n < 0
  · rw [if_pos (e2.2 c), if_pos c, Int.neg_mul]
  · rw [if_neg (fun h => c (e2.1 h)), if_neg c]

theorem P26 : P 26 = 67108864 := by decide
theorem P27 : P 27 = 134217728 := by decide
theorem P28 : P 28 = 268435456 := by decide

/-- Veltkamp, for 53 digits: 27 of them go. -/
theorem veltkamp_pos {A : Int} (h1 : 4503599627370496 ≤ A) (h2 : A < 9007199254740992) :
    P 27 ∣ rn (rn (134217729 * A) - rn (rn (134217729 * A) - A)) ∧ (A - rn (rn (134217729 * A) - rn (rn (134217729 * A) - A))).natAbs ≤ 67108864 ∧
    (rn (rn (134217729 * A) - rn (rn (134217729 * A) - A))).natAbs ≤ 9007199254740992 := by
  have p27 := P27
  have p28 := P28
  have c1 : 604462909807314587353088 ≤ rn (134217729 * A) := by
    have := rn_mono (show 4503599627370496 * P 27 ≤ 134217729 * A by rw [p27]; omega)
    rwa [rn_id (F_52 27), p27] at this
  have d27 : P 27 ∣ rn (134217729 * A) := F_big 27 (rn_F _) (by rw [p27]; omega)
  have hc : 604462909807314587353088 ≤ rn (134217729 * A) - A ∧ rn (134217729 * A) - A ≤ 1208925819614629174706176 := by
    by_cases hA : A = 4503599627370496
    · subst hA
      have : F (134217729 * 4503599627370496) := F_of 52 (by rw [show P 52 = 4503599627370496 by decide]; exact Int.dvd_mul_left ..) (by rw [show P 52 = 4503599627370496 by decide]; decide)
      rw [rn_id this]; omega
    · by_cases hg : 134217729 * A ≤ 1208925819614629174706176
      · have e1 := rn_half (n := 134217729 * A) 27 (by rw [p27]; omega)
        rw [p27] at e1
        have e2 := rn_mono (show 134217729 * A ≤ 9007199254740992 * P 27 by rw [p27]; omega)
        rw [rn_id (F_53 27), p27] at e2
        omega
      · have e1 := rn_half (n := 134217729 * A) 28 (by rw [p28]; omega)
        rw [p28] at e1
        omega
  generalize rn (134217729 * A) = c at *
  have dlow : 604462909807314587353088 ≤ rn (c - A) := by
    have := rn_mono (show 4503599627370496 * P 27 ≤ c - A by rw [p27]; omega)
    rwa [rn_id (F_52 27), p27] at this
  have dd : P 27 ∣ rn (c - A) := F_big 27 (rn_F _) (by rw [p27]; omega)
  have e2 := rn_half (n := c - A) 27 (by rw [p27]; omega)
  rw [p27] at e2
  generalize rn (c - A) = d at *
  have hd : P 27 ∣ c - d := Int.dvd_sub d27 dd
  have hle := dvd_le (u := P 27) (n := c - d) (m := 9007199254740992) (P_pos 27) hd (by rw [p27]; exact ⟨67108864, by decide⟩) (by rw [p27]; omega)
  have hF : F (c - d) := F_of 27 hd (by rw [p27]; omega)
  rw [rn_id hF]
  exact ⟨hd, by omega, by omega⟩

/-- The two parts of a number of 53 digits. -/
theorem veltkamp {A : Int} (h1 : 4503599627370496 ≤ A.natAbs) (h2 : A.natAbs < 9007199254740992) :
    P 27 ∣ rn (rn (134217729 * A) - rn (rn (134217729 * A) - A)) ∧ (A - rn (rn (134217729 * A) - rn (rn (134217729 * A) - A))).natAbs ≤ 67108864 ∧
    (rn (rn (134217729 * A) - rn (rn (134217729 * A) - A))).natAbs ≤ 9007199254740992 := by
  by_cases h0 : 0 < A
  · exact veltkamp_pos (by omega) (by omega)
  · have := veltkamp_pos (A := -A) (by omega) (by omega)
    rw [show 134217729 * -A = -(134217729 * A) by omega, rn_neg, show -rn (134217729 * A) - -A = -(rn (134217729 * A) - A) by omega, rn_neg,
      show -rn (134217729 * A) - -rn (rn (134217729 * A) - A) = -(rn (134217729 * A) - rn (rn (134217729 * A) - A)) by omega, rn_neg] at this
    generalize rn (rn (134217729 * A) - rn (rn (134217729 * A) - A)) = h at *
    exact ⟨Int.dvd_neg.1 this.1, by omega, by omega⟩

theorem mul_bd {x y : Int} {a b : Nat} (h1 : x.natAbs ≤ a) (h2 : y.natAbs ≤ b) : (x * y).natAbs ≤ a * b := by
  rw [Int.natAbs_mul]; exact Nat.mul_le_mul h1 h2
theorem mul_ge {x y : Int} {a b : Nat} (h1 : a ≤ x.natAbs) (h2 : b ≤ y.natAbs) : a * b ≤ (x * y).natAbs := by
  rw [Int.natAbs_mul]; exact Nat.mul_le_mul h1 h2

/-- Dekker's product, for numbers of 53 digits and their two parts. -/
theorem dekkerProd {A B ah al bh bl : Int} (a1 : 4503599627370496 ≤ A.natAbs) (a2 : A.natAbs < 9007199254740992) (b1 : 4503599627370496 ≤ B.natAbs) (b2 : B.natAbs < 9007199254740992)
    (ha : ah + al = A) (hb : bh + bl = B) (da : P 27 ∣ ah) (db : P 27 ∣ bh) (la : al.natAbs ≤ 67108864) (lb : bl.natAbs ≤ 67108864) (ua : ah.natAbs ≤ 9007199254740992) (ub : bh.natAbs ≤ 9007199254740992) :
    F (ah * bh) ∧ F (ah * bl) ∧ F (al * bh) ∧ F (al * bl) ∧ F (ah * bh - rn (A * B)) ∧ F (ah * bh - rn (A * B) + ah * bl) ∧ F (ah * bh - rn (A * B) + ah * bl + al * bh) ∧
    F (A * B - rn (A * B)) ∧ ah * bh - rn (A * B) + ah * bl + al * bh + al * bl = A * B - rn (A * B) := by
  have p27 := P27
  have p52 : P 52 = 4503599627370496 := by decide
  have p53 : P 53 = 9007199254740992 := by decide
  have p54 : P 54 = 18014398509481984 := by decide
  have eAB : A * B = ah * bh + ah * bl + al * bh + al * bl := by rw [← ha, ← hb, Int.add_mul, Int.mul_add, Int.mul_add]; omega
  have m1 := mul_bd ua ub
  have m2 := mul_bd ua lb
  have m3 := mul_bd la ub
  have m4 := mul_bd la lb
  have mAB := mul_ge a1 b1
  have MAB := mul_bd (Nat.le_of_lt_succ (Nat.lt_succ_of_lt a2)) (Nat.le_of_lt_succ (Nat.lt_succ_of_lt b2))
  simp only [Nat.reduceMul] at m1 m2 m3 m4 mAB MAB
  have d1 : P 54 ∣ ah * bh := by
    have := Int.mul_dvd_mul da db
    rwa [← P_add] at this
  have d2 : P 27 ∣ ah * bl := Int.dvd_trans da (Int.dvd_mul_right ..)
  have d3 : P 27 ∣ al * bh := Int.dvd_trans db (Int.dvd_mul_left ..)
  have half := rn_half (n := A * B) 53 (by rw [p53]; omega)
  rw [p53] at half
  have near := rn_le (n := A * B) 106 (by rw [show P 106 = 81129638414606681695789005144064 by decide]; omega)
  have lowp : 20282409603651670423947251286016 ≤ (rn (A * B)).natAbs := by
    have hP : F (20282409603651670423947251286016 : Int) := F_of 104 (by rw [show P 104 = 20282409603651670423947251286016 by decide]; exact Int.dvd_refl _) (by rw [show P 104 = 20282409603651670423947251286016 by decide]; decide)
    by_cases hs : 0 ≤ A * B
    · have := rn_mono (show (20282409603651670423947251286016 : Int) ≤ A * B by omega)
      rw [rn_id hP] at this; omega
    · have := rn_mono (show A * B ≤ -(20282409603651670423947251286016 : Int) by omega)
      rw [rn_neg, rn_id hP] at this; omega
  have dp : P 52 ∣ rn (A * B) := F_big 52 (rn_F _) (by rw [p52]; omega)
  generalize rn (A * B) = p at *
  generalize A * B = ab at *
  generalize ah * bh = t1 at *
  generalize ah * bl = t2 at *
  generalize al * bh = t3 at *
  generalize al * bl = t4 at *
  have dp27 : P 27 ∣ p := Int.dvd_trans (P_dvd (by decide)) dp
  have d1' : P 52 ∣ t1 := Int.dvd_trans (P_dvd (by decide)) d1
  have d1'' : P 27 ∣ t1 := Int.dvd_trans (P_dvd (by decide)) d1
  refine ⟨F_of 54 d1 (by rw [p54]; omega), F_of 27 d2 (by rw [p27]; omega), F_of 27 d3 (by rw [p27]; omega), F_small (by omega), F_of 52 (Int.dvd_sub d1' dp) (by rw [p52]; omega),
    F_of 27 (Int.dvd_add (Int.dvd_sub d1'' dp27) d2) (by rw [p27]; omega), F_small (by omega), F_small (by omega), by omega⟩

end Rn
