import Derived.Test.YgctadDoorX14
import Derived.Test.YgctadDoorDi
namespace Rn
open Go.Fl
set_option linter.unusedVariables false
/-- What one term may add to the sizes. -/
def Kc : Int := P 2035 + P 2006
theorem P2006 : P 2006 = 2048 * P 1995 := by rw [show (2006 : Nat) = 11 + 1995 by decide, P_add]; rfl
theorem Kc_le : 2048 * Kc ≤ P 2047 := by
  have h1 : P 2046 = 2048 * P 2035 := by rw [show (2046 : Nat) = 11 + 2035 by decide, P_add]; rfl
  have h2 : P 2017 = 2048 * P 2006 := by rw [show (2017 : Nat) = 11 + 2006 by decide, P_add]; rfl
  have h3 : P 2017 ≤ P 2046 := P_le (by decide)
  have h4 : P 2047 = 2 * P 2046 := P_succ 2046
  unfold Kc
  omega
theorem Pw.mono {b b' T : Int} {ns : List Nat} (h : Pw b T ns) (hb : b ≤ b') : Pw b' T ns := ⟨h.par, h.w, h.sum, Int.le_trans h.sz hb⟩
theorem Kc_pos : 0 < Kc := by have := P_pos 2035; have := P_pos 2006; unfold Kc; omega
/-- Room for one more term. -/
theorem room {j : Nat} (hj : j < 2048) : (j : Int) * Kc + P 2035 + 2048 * P 1995 ≤ P 2047 := by
  have h1 := Kc_le
  have h2 : ((j + 1 : Nat) : Int) * Kc ≤ 2048 * Kc := Int.mul_le_mul_of_nonneg_right (by omega) (Int.le_of_lt Kc_pos)
  rw [Int.natCast_add, Int.add_mul] at h2
  have h3 := P2006
  have h4 : Kc = P 2035 + P 2006 := rfl
  omega
theorem room_next {j n : Nat} (hn : n ≤ 2048) : (j : Int) * Kc + P 2035 + (n : Int) * P 1995 ≤ ((j + 1 : Nat) : Int) * Kc := by
  have h1 : (n : Int) * P 1995 ≤ 2048 * P 1995 := Int.mul_le_mul_of_nonneg_right (by omega) (Int.le_of_lt (P_pos 1995))
  have h3 := P2006
  have h4 : Kc = P 2035 + P 2006 := rfl
  rw [Int.natCast_add, Int.add_mul]
  omega
theorem room_all {j : Nat} (hj : j ≤ 2048) : (j : Int) * Kc ≤ P 2047 := by
  have h1 := Kc_le
  have h2 : (j : Int) * Kc ≤ 2048 * Kc := Int.mul_le_mul_of_nonneg_right (by omega) (Int.le_of_lt Kc_pos)
  omega
/-- TwoProd's two parts of an admitted product. -/
theorem prod_parts {fs gs : List Nat} {k p e ch dh ah al ci di bh bl t1 e1 t2 e2 t3 e3 t4 : Nat}
    (fx : fin (fs.getD k 0) = true) (fy : fin (gs.getD k 0) = true) (rx : InR (vz (fs.getD k 0))) (ry : InR (vz (gs.getD k 0)))
    (hp : Res .mul (fs.getD k 0) (gs.getD k 0) p) (hx : Res .mul 4728779608772575232 (fs.getD k 0) ch ∧ Res .sub ch (fs.getD k 0) dh ∧ Res .sub ch dh ah ∧ Res .sub (fs.getD k 0) ah al)
    (hy : Res .mul 4728779608772575232 (gs.getD k 0) ci ∧ Res .sub ci (gs.getD k 0) di ∧ Res .sub ci di bh ∧ Res .sub (gs.getD k 0) bh bl)
    (h1 : Res .mul ah bh t1) (h2 : Res .sub t1 p e1) (h3 : Res .mul ah bl t2) (h4 : Res .add e1 t2 e2) (h5 : Res .mul al bh t3) (h6 : Res .add e2 t3 e3) (h7 : Res .mul al bl t4) (h8 : Res .add e3 t4 e) :
    Fw p ∧ Fw e ∧ ((vz p).natAbs : Int) ≤ P 2035 ∧ ((vz e).natAbs : Int) ≤ P 2035 ∧ vz e + vz p = pc fs gs k := by
  obtain ⟨fp, lp, fe, le, _, c, hc, vp, ve⟩ := twoProd_words fx fy rx ry hp hx hy h1 h2 h3 h4 h5 h6 h7 h8
  obtain ⟨c', hc', bc⟩ := prod_c rx ry
  have e1 := pc_eq hc
  have e2 := pc_eq hc'
  have r1 := rn_le2 c
  have r2 := rn_rel c
  have h1 : P 2035 = 2 * P 2034 := P_succ 2034
  have h2 := P_pos 2034
  have ecc : c = c' := by omega
  subst ecc
  refine ⟨⟨fp, lp⟩, ⟨fe, le⟩, by rw [vp]; omega, by rw [ve]; omega, by rw [e1]; omega⟩
end Rn
namespace Go.Proofs.YgctadDoor
open Go.RowKit Go.Acc Rn
set_option linter.unusedSimpArgs false
set_option linter.unusedVariables false
attribute [local go_sem] Go.Fl.run_add Go.Fl.run_sub Go.Fl.run_mul

set_option maxHeartbeats 1000000 in
theorem dotRounded_any (b1 o1 b2 o2 c1 c2 n : Nat) (fs gs : List Nat) (hn1 : Hid (fs.length = n)) (hn2 : Hid (gs.length = n)) (l1 : n ≤ 1024) (w : World) (hl1 : b1 < w.heap.size) (hl2 : b2 < w.heap.size) (hf : Fls w b1 o1 fs) (hg : Fls w b2 o2 gs)
    (wf : Hid (∀ i, fs.getD i 0 < 18446744073709551616)) (wg : Hid (∀ i, gs.getD i 0 < 18446744073709551616)) (ha : admB fs gs = true) :
    Calls Tadg.prog 13 #[.slice (some ⟨b1, o1, none⟩) n c1, .slice (some ⟨b2, o2, none⟩) n c2] w fun e w' => ∃ r, e = .returned (.float .f64 r) ∧ Fw r ∧ vz r = rn (ps fs gs n) ∧ (ps fs gs n = 0 → r = 0) ∧ Below w.heap.size w w' := by
  have href : Hid ((!admB fs gs) = false) := by rw [Hid, ha]; rfl
  have hin : Hid (∀ k, k < n → (Rn.fin (fs.getD k 0) = true ∧ InR (vz (fs.getD k 0))) ∧ (Rn.fin (gs.getD k 0) = true ∧ InR (vz (gs.getD k 0)))) := fun k hk => by
    have := ((admB_iff fs gs).1 ha).2.2 k (by have := hn1.out; omega)
    unfold okB at this
    simp only [Bool.and_eq_true] at this
    exact ⟨zeroOr_inR this.1, zeroOr_inR this.2⟩
  obtain ⟨i0, hi0, hz0, hz1, hz2⟩ := info_parts Tadg.info31
  have hm : ∀ W : World, (Instr.makeSlice 23 (.int .i64 0) (.int .i64 64)).run Tadg.prog W = .ok (.slice (some ⟨W.heap.size, 0, none⟩) 0 64) (W.alloc (.cells (madeCells #[.float .f64 0] 64) 31)) := by
    intro W
    have := run_make (P := Tadg.prog) W 23 31 i0 _ Tadg.underlying23 hi0 hz0 .i64 .i64 (0 : Int) (64 : Int) (by omega) (by omega) (by rw [hz2]; omega) (by omega)
    rw [hz1] at this
    simpa [Value.cells] using this
  have HF : Hid (Fls w b1 o1 fs) := hf
  have HG : Hid (Fls w b2 o2 gs) := hg
  have hR0 : FRow (w.alloc (.cells (madeCells #[.float .f64 0] 64) 31)) w.heap.size w.heap.size 64 0 [] := by
    refine World.ownsRow_made w (madeCells #[.float .f64 0] 64) 64 (Nat.le_refl _) (by decide) (by simp [madeCells])
  go_enter Tadg.func13, Tadg.ntmps13
  go_wp2_with (go_at_call 39; refine (refused_any _ _ _ _ _ _ n n fs gs hn1 hn2 (by omega) (by omega) _ hf hg wf wg).mono ?_; rintro e w' ⟨rfl, hq⟩; obtain rfl := hq.symm; rw [href.out])
  clear hf hg
  have hB0 : Below w.heap.size w (w.alloc (.cells (madeCells #[.float .f64 0] 64) 31)) := (Below.refl _ _).alloc (Nat.le_refl _) _
  generalize w.alloc (.cells (madeCells #[.float .f64 0] 64) 31) = W0 at *
  go_loopw [5, 6] (fun sv iv w1 => ∃ i g cap m : Nat, ∃ ns, i ≤ n ∧ m ≤ 2 * i ∧ sv = .slice (some ⟨g, 0, none⟩) m cap ∧ iv = .int .i64 i ∧ FRow w1 w.heap.size g cap m ns ∧ Pw (((2 * i : Nat) : Int) * Kc) (ps fs gs i) ns ∧ Below w.heap.size w w1) (fun _ iv _ => n - (intOf iv).toNat)
  case atStart => exact ⟨0, w.heap.size, 64, 0, [], Nat.zero_le _, by omega, rfl, rfl, hR0, Pw.nil (by simp), hB0⟩
  case round =>
    obtain ⟨i, g, cap, m, ns, hi, hm2, rfl, rfl, hR, hP, hB⟩ := hrel
    by_cases hlt : i < n
    · have e1 := (HF.out.below hl1 hB) i (by have := hn1.out; omega)
      have e2 := (HG.out.below hl2 hB) i (by have := hn2.out; omega)
      have i1 : (i : Int) < (n : Int) := by omega
      obtain ⟨⟨fx, rx⟩, ⟨fy, ry⟩⟩ := hin.out i hlt
      have HP : Hid (Pw (((2 * i : Nat) : Int) * Kc) (ps fs gs i) ns) := hP
      have hsz := hB.size
      clear hP hR0 hB0
      go_wp2
      go_region_with (go_at_call 41; refine (twoProd_any _ _ _).mono ?_; rintro e w' ⟨p, ch, dh, ah, al, ci, di, bh, bl, t1, e1, t2, e2, t3, e3, t4, e4, n1, rfl, rfl, y0, y1, y2, y3, y4, y5, y6, y7, y8, y9, y10⟩)
      all_goals
        obtain ⟨fp, fe, bp, be, hpe⟩ := prod_parts fx fy rx ry y0 y1 y2 y3 y4 y5 y6 y7 y8 y9 y10
        go_wp2_with (first
          | (go_at_call_of 42 (Value.float FloatKind.f64 e4); refine (grow_any w.heap.size g cap m e4 ns _ _ _ (by omega) (by exact hR) (HP.out.grow fe be) (room (by omega)) (by simp; omega)).mono ?_; rintro e w2 ⟨g2, cap2, m2, ns2, rfl, hm3, hR2, hP2, hB2⟩)
          | (go_at_call_of 42 (Value.float FloatKind.f64 p); refine (grow_any w.heap.size g2 cap2 m2 p ns2 _ _ _ (by omega) hR2 ((hP2.mono (room_next (by omega))).grow fp bp) (room (by omega)) (by have := hB2.size; simp at this; omega)).mono ?_; rintro e w3 ⟨g3, cap3, m3, ns3, rfl, hm4, hR3, hP3, hB3⟩))
        go_roundw
        case rel =>
          refine ⟨i + 1, g3, cap3, m3, ns3, by omega, by omega, rfl, by go_num, hR3, ?_, ?_⟩
          · have := hP3.mono (room_next (n := m2) (by omega))
            rw [Int.add_assoc, hpe] at this
            exact this
          · exact ((below_drewN hB _).trans hB2).trans hB3
        case measure => simp [intOf]; omega
    · have hx : ¬ (i : Int) < (n : Int) := by omega
      have hin : i = n := by omega
      subst hin
      have HP : Hid (Pw (((2 * i : Nat) : Int) * Kc) (ps fs gs i) ns) := hP
      clear hP hR0 hB0
      go_wp2_with (go_at_call 43; refine (finish_walk _ g cap m ns _ _ _ (by omega) hR HP.out (room_all (by omega))).mono ?_; rintro e w2 ⟨r, m', rfl, rfl, fr, vr, zr⟩)
      go_ret
      exact ⟨r, rfl, fr, vr, zr, below_drewN hB _⟩
end Go.Proofs.YgctadDoor
