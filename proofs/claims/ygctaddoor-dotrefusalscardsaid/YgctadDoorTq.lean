/-
  PLAIN: TwoProd on words.
-/
import Derived.Test.YgctadDoorTw
namespace Rn
open Go Go.Fl

theorem sc_le {a : Int} {s : Nat} (h : (a.natAbs : Int) ≤ P 108) (hs : s ≤ 1980) : ((a * P s).natAbs : Int) ≤ P 2097 := by
  rw [Int.natAbs_mul, natAbs_P, Int.natCast_mul]
  have h1 : (a.natAbs : Int) * P s ≤ P 108 * P s := Int.mul_le_mul_of_nonneg_right h (Int.le_of_lt (P_pos s))
  rw [← P_add] at h1
  exact Int.le_trans h1 (P_le (by omega))

theorem add_sc {x y r : Nat} {a b : Int} {s : Nat} (fx : fin x = true) (fy : fin y = true) (hx : vz x = a * P s) (hy : vz y = b * P s) (hF : F (a + b)) (hb : ((a + b).natAbs : Int) ≤ P 108) (hs : s ≤ 1980) (h : Res .add x y r) :
    fin r = true ∧ vz r = (a + b) * P s ∧ r < 18446744073709551616 := by
  have e : vz x + vz y = (a + b) * P s := by rw [hx, hy, Int.add_mul]
  have e2 : rn (vz x + vz y) = (a + b) * P s := by rw [e, rn_up, rn_id hF]
  obtain ⟨h1, h2, h3⟩ := res_add fx fy (by rw [e2]; exact sc_le hb hs) h
  exact ⟨h1, by rw [h2, e2], h3⟩
theorem sub_sc {x y r : Nat} {a b : Int} {s : Nat} (fx : fin x = true) (fy : fin y = true) (hx : vz x = a * P s) (hy : vz y = b * P s) (hF : F (a - b)) (hb : ((a - b).natAbs : Int) ≤ P 108) (hs : s ≤ 1980) (h : Res .sub x y r) :
    fin r = true ∧ vz r = (a - b) * P s ∧ r < 18446744073709551616 := by
  have e : vz x - vz y = (a - b) * P s := by rw [hx, hy, Int.sub_mul]
  have e2 : rn (vz x - vz y) = (a - b) * P s := by rw [e, rn_up, rn_id hF]
  obtain ⟨h1, h2, h3⟩ := res_sub fx fy (by rw [e2]; exact sc_le hb hs) h
  exact ⟨h1, by rw [h2, e2], h3⟩
theorem mul_sc {x y r : Nat} {a b : Int} {s j l : Nat} (fx : fin x = true) (fy : fin y = true) (hx : vz x = a * P j) (hy : vz y = b * P l) (hjl : j + l = s + 1074) (hb : ((rn (a * b)).natAbs : Int) ≤ P 108) (hs : s ≤ 1980) (h : Res .mul x y r) :
    fin r = true ∧ vz r = rn (a * b) * P s ∧ r < 18446744073709551616 := by
  have e : vz x * vz y = a * b * P s * P 1074 := by
    rw [hx, hy, Int.mul_assoc (a * b), ← P_add, ← hjl, P_add, Int.mul_assoc, Int.mul_assoc, Int.mul_left_comm (P j)]
  obtain ⟨h1, h2, h3⟩ := res_mul fx fy e (by rw [rn_up]; exact sc_le hb hs) h
  exact ⟨h1, by rw [h2, rn_up], h3⟩

theorem zmul {x y r : Nat} (fx : fin x = true) (fy : fin y = true) (hz : vz x = 0 ∨ vz y = 0) (h : Res .mul x y r) : fin r = true ∧ vz r = 0 ∧ r < 18446744073709551616 := by
  have e : vz x * vz y = 0 * P 1074 := by
    rcases hz with hz | hz
    · rw [hz, Int.zero_mul, Int.zero_mul]
    · rw [hz, Int.mul_zero, Int.zero_mul]
  obtain ⟨h1, h2, h3⟩ := res_mul fx fy e (by rw [rn_zero]; exact Int.le_of_lt (P_pos _)) h
  exact ⟨h1, by rw [h2, rn_zero], h3⟩
theorem zadd {x y r : Nat} (fx : fin x = true) (fy : fin y = true) (hx : vz x = 0) (hy : vz y = 0) (h : Res .add x y r) : fin r = true ∧ vz r = 0 ∧ r < 18446744073709551616 := by
  have e : rn (vz x + vz y) = 0 := by rw [hx, hy]; exact rn_zero
  obtain ⟨h1, h2, h3⟩ := res_add fx fy (by rw [e]; exact Int.le_of_lt (P_pos _)) h
  exact ⟨h1, by rw [h2, e], h3⟩
theorem zsub {x y r : Nat} (fx : fin x = true) (fy : fin y = true) (hx : vz x = 0) (hy : vz y = 0) (h : Res .sub x y r) : fin r = true ∧ vz r = 0 ∧ r < 18446744073709551616 := by
  have e : rn (vz x - vz y) = 0 := by rw [hx, hy]; exact rn_zero
  obtain ⟨h1, h2, h3⟩ := res_sub fx fy (by rw [e]; exact Int.le_of_lt (P_pos _)) h
  exact ⟨h1, by rw [h2, e], h3⟩

theorem or_map {a b c d : Prop} (h : a ∨ b) (f : a → c) (g : b → d) : c ∨ d := h.elim (fun x => .inl (f x)) (fun x => .inr (g x))

theorem normal_range_gen {n : Int} {lo hi : Nat} (hlo : 60 ≤ lo) (hF : F n) (h1 : P lo ≤ (n.natAbs : Int)) (h2 : (n.natAbs : Int) ≤ P hi) :
    ∃ (j : Nat) (A : Int), n = A * P j ∧ 4503599627370496 ≤ A.natAbs ∧ A.natAbs < 9007199254740992 ∧ lo ≤ j + 52 ∧ j + 52 ≤ hi := by
  have hp := P_pos lo
  obtain ⟨m, j, A, e, a1, a2, a3⟩ := normal hF (by omega)
  have e' : n.natAbs * 2 ^ m = A.natAbs * 2 ^ j := by rw [← natAbs_P, ← natAbs_P, ← Int.natAbs_mul, ← Int.natAbs_mul, e]
  have n1 : 2 ^ lo ≤ n.natAbs := Int.ofNat_le.1 h1
  have n2 : n.natAbs ≤ 2 ^ hi := Int.ofNat_le.1 h2
  have hj : lo < 53 + j := by
    have b1 : 2 ^ lo * 1 ≤ n.natAbs * 2 ^ m := Nat.mul_le_mul n1 (Nat.two_pow_pos m)
    have b2 : A.natAbs * 2 ^ j < 2 ^ 53 * 2 ^ j := Nat.mul_lt_mul_of_pos_right a2 (Nat.two_pow_pos j)
    rw [e', Nat.mul_one] at b1
    have b3 := Nat.lt_of_le_of_lt b1 b2
    rw [← Nat.pow_add] at b3
    exact (Nat.pow_lt_pow_iff_right (a := 2) (by decide)).1 b3
  have hm : m = 0 := by omega
  subst hm
  rw [P_zero, Int.mul_one] at e
  rw [Nat.pow_zero, Nat.mul_one] at e'
  refine ⟨j, A, e, a1, a2, by omega, ?_⟩
  have b1 : 2 ^ 52 * 2 ^ j ≤ A.natAbs * 2 ^ j := Nat.mul_le_mul_right _ a1
  rw [← e', ← Nat.pow_add] at b1
  have b2 := Nat.le_trans b1 n2
  have := (Nat.pow_le_pow_iff_right (a := 2) (by decide)).1 b2
  omega
/-- A number between 2^-480 and 2^480: its 53 digits stand high enough. -/
theorem normal_range {n : Int} (hF : F n) (h1 : P 594 ≤ (n.natAbs : Int)) (h2 : (n.natAbs : Int) ≤ P 1554) :
    ∃ (j : Nat) (A : Int), n = A * P j ∧ 4503599627370496 ≤ A.natAbs ∧ A.natAbs < 9007199254740992 ∧ 542 ≤ j ∧ j ≤ 1502 := by
  obtain ⟨j, A, a, b, c, d, e⟩ := normal_range_gen (by decide) hF h1 h2
  exact ⟨j, A, a, b, c, by omega, by omega⟩

/-- 'zero, or between 2^-480 and 2^480'. -/
def InR (n : Int) : Prop := n = 0 ∨ (P 594 ≤ (n.natAbs : Int) ∧ (n.natAbs : Int) ≤ P 1554)

theorem twoProd_words {x y p ch dh ah al ci di bh bl t1 e1 t2 e2 t3 e3 t4 e4 : Nat} (fx : fin x = true) (fy : fin y = true) (rx : InR (vz x)) (ry : InR (vz y))
    (hp : Res .mul x y p) (hx : Res .mul 4728779608772575232 x ch ∧ Res .sub ch x dh ∧ Res .sub ch dh ah ∧ Res .sub x ah al)
    (hy : Res .mul 4728779608772575232 y ci ∧ Res .sub ci y di ∧ Res .sub ci di bh ∧ Res .sub y bh bl)
    (h1 : Res .mul ah bh t1) (h2 : Res .sub t1 p e1) (h3 : Res .mul ah bl t2) (h4 : Res .add e1 t2 e2) (h5 : Res .mul al bh t3) (h6 : Res .add e2 t3 e3) (h7 : Res .mul al bl t4) (h8 : Res .add e3 t4 e4) :
    fin p = true ∧ p < 18446744073709551616 ∧ fin e4 = true ∧ e4 < 18446744073709551616 ∧ vz x * vz y = (vz p + vz e4) * P 1074 ∧
    ∃ c : Int, vz x * vz y = c * P 1074 ∧ vz p = rn c ∧ vz e4 = c - rn c := by
  have bnd : ∀ n, InR n → (n.natAbs : Int) ≤ P 2069 := by
    intro n h
    rcases h with h | h
    · subst h; exact Int.le_of_lt (P_pos _)
    · exact Int.le_trans h.2 (P_le (by decide))
  obtain ⟨sx, fah, _, fal, _⟩ := split_words fx (bnd _ rx) hx.1 hx.2.1 hx.2.2.1 hx.2.2.2
  obtain ⟨sy, fbh, _, fbl, _⟩ := split_words fy (bnd _ ry) hy.1 hy.2.1 hy.2.2.1 hy.2.2.2
  by_cases hz : vz x = 0 ∨ vz y = 0
  · have zz : (vz ah = 0 ∧ vz al = 0) ∨ (vz bh = 0 ∧ vz bl = 0) := by
      rcases hz with hz | hz
      · rw [hz] at sx; exact .inl (spl_zero sx)
      · rw [hz] at sy; exact .inr (spl_zero sy)
    obtain ⟨p1, p2, p3⟩ := zmul fx fy hz hp
    obtain ⟨q1, q2, _⟩ := zmul fah fbh (or_map zz And.left And.left) h1
    obtain ⟨r1, r2, _⟩ := zsub q1 p1 q2 p2 h2
    obtain ⟨q3, q4, _⟩ := zmul fah fbl (or_map zz And.left And.right) h3
    obtain ⟨r3, r4, _⟩ := zadd r1 q3 r2 q4 h4
    obtain ⟨q5, q6, _⟩ := zmul fal fbh (or_map zz And.right And.left) h5
    obtain ⟨r5, r6, _⟩ := zadd r3 q5 r4 q6 h6
    obtain ⟨q7, q8, _⟩ := zmul fal fbl (or_map zz And.right And.right) h7
    obtain ⟨r7, r8, r9⟩ := zadd r5 q7 r6 q8 h8
    have ez : vz x * vz y = 0 := by
      rcases hz with hz | hz
      · rw [hz, Int.zero_mul]
      · rw [hz, Int.mul_zero]
    exact ⟨p1, p3, r7, r9, by rw [ez, p2, r8]; simp, 0, by rw [ez, Int.zero_mul], by rw [p2, rn_zero], by rw [r8, rn_zero]; rfl⟩
  · have rx' := rx.resolve_left (fun h => hz (.inl h))
    have ry' := ry.resolve_left (fun h => hz (.inr h))
    obtain ⟨j, A, eA, a1, a2, j1, j2⟩ := normal_range (vz_F x) rx'.1 rx'.2
    obtain ⟨l, B, eB, b1, b2, l1, l2⟩ := normal_range (vz_F y) ry'.1 ry'.2
    obtain ⟨AH, AL, u1, u2, u3, u4, u5, u6⟩ := spl_parts (m := 0) (j := j) sx (by rw [P_zero, Int.mul_one]; exact eA) a1 a2
    obtain ⟨BH, BL, v1, v2, v3, v4, v5, v6⟩ := spl_parts (m := 0) (j := l) sy (by rw [P_zero, Int.mul_one]; exact eB) b1 b2
    rw [P_zero, Int.mul_one] at u1 u2 v1 v2
    obtain ⟨s, hs⟩ : ∃ s, j + l = s + 1074 := ⟨j + l - 1074, by omega⟩
    have hs2 : s ≤ 1980 := by omega
    obtain ⟨F1, F2, F3, F4, F5, F6, F7, F8, key⟩ := dekkerProd a1 a2 b1 b2 u3 v3 u4 v4 u5 v5 u6 v6
    have p108 : P 108 = 324518553658426726783156020576256 := by decide
    have m1 := mul_bd u6 v6
    have m2 := mul_bd u6 v5
    have m3 := mul_bd u5 v6
    have m4 := mul_bd u5 v5
    have MAB := mul_bd (Nat.le_of_lt a2) (Nat.le_of_lt b2)
    simp only [Nat.reduceMul] at m1 m2 m3 m4 MAB
    have near := rn_le (n := A * B) 106 (by rw [show P 106 = 81129638414606681695789005144064 by decide]; omega)
    rw [show P 106 = 81129638414606681695789005144064 by decide] at near
    obtain ⟨p1, p2, p3⟩ := mul_sc fx fy eA eB hs (by rw [p108]; omega) hs2 hp
    obtain ⟨q1, q2, _⟩ := mul_sc fah fbh u1 v1 hs (by rw [rn_id F1, p108]; omega) hs2 h1
    rw [rn_id F1] at q2
    obtain ⟨r1, r2, _⟩ := sub_sc q1 p1 q2 p2 F5 (by rw [p108]; omega) hs2 h2
    obtain ⟨q3, q4, _⟩ := mul_sc fah fbl u1 v2 hs (by rw [rn_id F2, p108]; omega) hs2 h3
    rw [rn_id F2] at q4
    obtain ⟨r3, r4, _⟩ := add_sc r1 q3 r2 q4 F6 (by rw [p108]; omega) hs2 h4
    obtain ⟨q5, q6, _⟩ := mul_sc fal fbh u2 v1 hs (by rw [rn_id F3, p108]; omega) hs2 h5
    rw [rn_id F3] at q6
    obtain ⟨r5, r6, _⟩ := add_sc r3 q5 r4 q6 F7 (by rw [p108]; omega) hs2 h6
    obtain ⟨q7, q8, _⟩ := mul_sc fal fbl u2 v2 hs (by rw [rn_id F4, p108]; omega) hs2 h7
    rw [rn_id F4] at q8
    obtain ⟨r7, r8, r9⟩ := add_sc r5 q7 r6 q8 (by rw [key]; exact F8) (by rw [p108]; omega) hs2 h8
    rw [key] at r8
    have exy : vz x * vz y = A * B * P s * P 1074 := by
      rw [eA, eB, Int.mul_assoc (A * B), ← P_add, ← hs, P_add, Int.mul_assoc, Int.mul_assoc, Int.mul_left_comm (P j)]
    refine ⟨p1, p3, r7, r9, ?_, A * B * P s, exy, ?_, ?_⟩
    · rw [exy, p2, r8, ← Int.add_mul]
      congr 2
      omega
    · rw [p2, rn_up]
    · rw [r8, rn_up, Int.sub_mul]

end Rn
