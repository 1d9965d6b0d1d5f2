import Derived.Test.YgctadDoorDk
namespace Rn
open Go.Fl
set_option linter.unusedVariables false

/-- The i-th exact product, and the running sums of the products and of their sizes. -/
def pc (fs gs : List Nat) (i : Nat) : Int := vz (fs.getD i 0) * vz (gs.getD i 0) / P 1074
def ps (fs gs : List Nat) : Nat → Int
  | 0 => 0
  | k + 1 => ps fs gs k + pc fs gs k
def pa (fs gs : List Nat) : Nat → Int
  | 0 => 0
  | k + 1 => pa fs gs k + ((pc fs gs k).natAbs : Int)

theorem Dst.start (fs gs : List Nat) : Dst 0 0 0 (ps fs gs 0) (pa fs gs 0) :=
  ⟨by decide, by decide, by decide, by decide, Dot2R.start, by show (0 : Int) ≤ ((0 : Nat) : Int) * _; omega⟩

theorem pc_eq {fs gs : List Nat} {i : Nat} {c : Int} (h : vz (fs.getD i 0) * vz (gs.getD i 0) = c * P 1074) : pc fs gs i = c := by
  unfold pc
  rw [h]
  exact Int.mul_ediv_cancel _ (Int.ne_of_gt (P_pos 1074))

theorem div_bound {c : Int} {a t u v : Nat} (h : a ≤ 2 ^ t) (e : a = c.natAbs * 2 ^ u) (ht : v + u = t) : (c.natAbs : Int) ≤ P v := by
  rw [e, ← pw ht] at h
  exact le_P (Nat.le_of_mul_le_mul_right h (Nat.two_pow_pos _))
/-- One round of Dot2's loop. -/
theorem dot2_round {fs gs : List Nat} {k s C p e t f g C' ch dh ah al ci di bh bl t1 e1 t2 e2 t3 e3 t4 sb sa db da : Nat} (hD : Dst k s C (ps fs gs k) (pa fs gs k)) (hk : k < 1024)
    (fx : fin (fs.getD k 0) = true) (fy : fin (gs.getD k 0) = true) (rx : InR (vz (fs.getD k 0))) (ry : InR (vz (gs.getD k 0)))
    (hp : Res .mul (fs.getD k 0) (gs.getD k 0) p) (hx : Res .mul 4728779608772575232 (fs.getD k 0) ch ∧ Res .sub ch (fs.getD k 0) dh ∧ Res .sub ch dh ah ∧ Res .sub (fs.getD k 0) ah al)
    (hy : Res .mul 4728779608772575232 (gs.getD k 0) ci ∧ Res .sub ci (gs.getD k 0) di ∧ Res .sub ci di bh ∧ Res .sub (gs.getD k 0) bh bl)
    (h1 : Res .mul ah bh t1) (h2 : Res .sub t1 p e1) (h3 : Res .mul ah bl t2) (h4 : Res .add e1 t2 e2) (h5 : Res .mul al bh t3) (h6 : Res .add e2 t3 e3) (h7 : Res .mul al bl t4) (h8 : Res .add e3 t4 e)
    (s1 : Res .add s p t) (s2 : Res .sub t s sb) (s3 : Res .sub t sb sa) (s4 : Res .sub p sb db) (s5 : Res .sub s sa da) (s6 : Res .add da db f)
    (g1 : Res .add f e g) (g2 : Res .add C g C') : Dst (k + 1) t C' (ps fs gs (k + 1)) (pa fs gs (k + 1)) := by
  obtain ⟨fp, lp, fe, le, _, c, hc, vp, ve⟩ := twoProd_words fx fy rx ry hp hx hy h1 h2 h3 h4 h5 h6 h7 h8
  have hP := P_pos 2034
  have bc : (c.natAbs : Int) ≤ P 2034 := by
    have hb : ∀ n, InR n → (n.natAbs : Int) ≤ P 1554 := fun n h => by
      rcases h with rfl | h
      · have := P_pos 1554; simp; omega
      · exact h.2
    exact div_bound (u := 1074) (v := 2034) (mul_pow_le (j := 1554) (k := 1554) rfl (hb _ rx) (hb _ ry)) (by rw [← Int.natAbs_mul, hc, Int.natAbs_mul, natAbs_P]) rfl
  obtain ⟨b1, b2⟩ := hD.bd (by omega)
  have r1 := rn_le2 c
  obtain ⟨ft, lt, ff, lf, vt, vs⟩ := twoSum_words hD.1 fp (by rw [P2096]; omega) (by rw [P2096, vp]; omega) s1 s2 s3 s4 s5 s6
  have := hD.step hk bc fe vp ve ft lt ff vt vs g1 g2
  have ec := pc_eq hc
  unfold ps pa
  rw [ec]
  exact this
end Rn
