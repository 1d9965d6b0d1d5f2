import Derived.Test.YgctadDoorX19
namespace Rn
open Go.Fl Go.Proofs.YgctadDoor
set_option linter.unusedVariables false

theorem same_fin {a b : Nat} (h : same a b = true) (hb : Fw b) : isNaN a = false ∧ a < 18446744073709551616 := by
  unfold same at h
  simp only [Bool.or_eq_true, Bool.and_eq_true, beq_iff_eq] at h
  rcases h with h | ⟨_, h⟩
  · subst h; exact ⟨fin_not_nan hb.1, hb.2⟩
  · rw [fin_not_nan hb.1] at h; cases h

theorem dfold_run {fs gs : List Nat} {n : Nat} (h : ∀ k, k < n → (fin (fs.getD k 0) = true ∧ InR (vz (fs.getD k 0))) ∧ (fin (gs.getD k 0) = true ∧ InR (vz (gs.getD k 0)))) (hn : n ≤ 1024) : ∀ k, k ≤ n →
    Fw (dfold fs gs k) ∧ pa fs gs k ≤ (k : Int) * P 2034 ∧ ∃ E T, Run k (vz (dfold fs gs k)) (pa fs gs k) E T (ps fs gs k) := by
  intro k
  induction k with
  | zero => 
    intro _
    have e : dfold fs gs 0 = 0 := rfl
    rw [e]
    exact ⟨⟨by decide, by decide⟩, by simp [pa], 0, 0, by rw [vz_zero]; exact Run.start⟩
  | succ k ih =>
    intro hk
    obtain ⟨i1, i2, E, T, i3⟩ := ih (by omega)
    obtain ⟨⟨fx, rx⟩, ⟨fy, ry⟩⟩ := h k (by omega)
    obtain ⟨c, hc, bc⟩ := prod_c rx ry
    have ec := pc_eq hc
    have hP := P_pos 2034
    have hb := P2097'
    have r1 := rn_le2 c
    obtain ⟨fp, vp, lp⟩ := res_mul fx fy hc (by omega) (can_res .mul _ _)
    obtain ⟨s1, s2, s3⟩ := i3.small (by omega)
    have x1 : (k : Int) * P 2034 ≤ 1024 * P 2034 := Int.mul_le_mul_of_nonneg_right (by omega) (by omega)
    have r2 := rn_le2 (vz (dfold fs gs k) + vz (can .mul (fs.getD k 0) (gs.getD k 0)))
    obtain ⟨fa, va, la⟩ := res_add i1.1 fp (by rw [vp] at r2 ⊢; omega) (can_res .add (dfold fs gs k) (can .mul (fs.getD k 0) (gs.getD k 0)))
    have st := i3.step (d := c) (by omega)
    refine ⟨⟨fa, la⟩, ?_, ?_⟩
    · rw [pa, ec, Int.natCast_add, Int.add_mul]; omega
    · have e1 : vz (dfold fs gs (k + 1)) = rn (vz (dfold fs gs k) + rn c) := by rw [← vp]; exact va
      rw [e1, pa, ps, ec]
      exact ⟨_, _, st⟩
theorem dfold_fin {fs gs : List Nat} {n : Nat} (h : ∀ k, k < n → (fin (fs.getD k 0) = true ∧ InR (vz (fs.getD k 0))) ∧ (fin (gs.getD k 0) = true ∧ InR (vz (gs.getD k 0)))) (hn : n ≤ 1024) : Fw (dfold fs gs n) :=
  (dfold_run h hn n (Nat.le_refl _)).1
end Rn
namespace Go.Proofs.YgctadDoor
open Go.RowKit Go.Acc Rn
set_option linter.unusedSimpArgs false
set_option linter.unusedVariables false
attribute [local go_sem] Go.Fl.run_add Go.Fl.run_sub Go.Fl.run_mul

set_option maxHeartbeats 400000 in
theorem nan40_any (w : World) :
    Calls Tadg.prog 40 #[] w fun e w' => ∃ r n, e = .returned (.float .f64 r) ∧ w' = w.drewN n ∧ Fl.isNaN r = true ∧ r < 18446744073709551616 := by
  go_enter Tadg.func40, Tadg.ntmps40
  go_wp2
  go_ret
  refine ⟨_, _, rfl, rfl, ?_⟩
  have h1 : ∀ W : World, Fl.val .add W 9214364837600034816 9214364837600034816 = 9218868437227405312 := fun W => by simp [Fl.val, Fl.inf_add]
  rw [h1]
  simp only [Fl.val, Fl.inf_sub, Option.getD_none]
  exact Fl.tapeNaN_nan ..

set_option maxHeartbeats 1000000 in
theorem dot_refused (b1 o1 b2 o2 c1 c2 n1 n2 : Nat) (fs gs : List Nat) (hn1 : Hid (fs.length = n1)) (hn2 : Hid (gs.length = n2)) (l1 : n1 ≤ 2000) (l2 : n2 ≤ 2000) (w : World) (hf : Fls w b1 o1 fs) (hg : Fls w b2 o2 gs)
    (wf : Hid (∀ i, fs.getD i 0 < 18446744073709551616)) (wg : Hid (∀ i, gs.getD i 0 < 18446744073709551616)) (ha : admB fs gs = false) :
    Calls Tadg.prog 16 #[.slice (some ⟨b1, o1, none⟩) n1 c1, .slice (some ⟨b2, o2, none⟩) n2 c2] w fun e w' => ∃ r m, e = .returned (.float .f64 r) ∧ w' = w.drewN m ∧ Fl.isNaN r = true ∧ r < 18446744073709551616 := by
  have href : Hid ((!admB fs gs) = true) := by rw [Hid, ha]; rfl
  go_enter Tadg.func16, Tadg.ntmps16
  go_wp2_with (first
    | (go_at_call 39; refine (refused_any _ _ _ _ _ _ n1 n2 fs gs hn1 hn2 l1 l2 _ hf hg wf wg).mono ?_; rintro e w' ⟨rfl, hq⟩; obtain rfl := hq.symm; rw [href.out])
    | (go_at_call 40; refine (nan40_any _).mono ?_; rintro e w' ⟨r, m, rfl, rfl, hr, lr⟩))
  go_ret
  first
    | exact ⟨r, rfl, ⟨m, rfl⟩, hr, lr⟩
    | exact ⟨r, m, rfl, rfl, hr, lr⟩

set_option maxHeartbeats 1000000 in
theorem dot2_refused (b1 o1 b2 o2 c1 c2 n1 n2 : Nat) (fs gs : List Nat) (hn1 : Hid (fs.length = n1)) (hn2 : Hid (gs.length = n2)) (l1 : n1 ≤ 2000) (l2 : n2 ≤ 2000) (w : World) (hf : Fls w b1 o1 fs) (hg : Fls w b2 o2 gs)
    (wf : Hid (∀ i, fs.getD i 0 < 18446744073709551616)) (wg : Hid (∀ i, gs.getD i 0 < 18446744073709551616)) (ha : admB fs gs = false) :
    Calls Tadg.prog 17 #[.slice (some ⟨b1, o1, none⟩) n1 c1, .slice (some ⟨b2, o2, none⟩) n2 c2] w fun e w' => ∃ r m, e = .returned (.float .f64 r) ∧ w' = w.drewN m ∧ Fl.isNaN r = true ∧ r < 18446744073709551616 := by
  have href : Hid ((!admB fs gs) = true) := by rw [Hid, ha]; rfl
  go_enter Tadg.func17, Tadg.ntmps17
  go_wp2_with (first
    | (go_at_call 39; refine (refused_any _ _ _ _ _ _ n1 n2 fs gs hn1 hn2 l1 l2 _ hf hg wf wg).mono ?_; rintro e w' ⟨rfl, hq⟩; obtain rfl := hq.symm; rw [href.out])
    | (go_at_call 40; refine (nan40_any _).mono ?_; rintro e w' ⟨r, m, rfl, rfl, hr, lr⟩))
  go_ret
  first
    | exact ⟨r, rfl, ⟨m, rfl⟩, hr, lr⟩
    | exact ⟨r, m, rfl, rfl, hr, lr⟩

set_option maxHeartbeats 1000000 in
theorem dotExact_refused (b1 o1 b2 o2 c1 c2 n1 n2 : Nat) (fs gs : List Nat) (hn1 : Hid (fs.length = n1)) (hn2 : Hid (gs.length = n2)) (l1 : n1 ≤ 2000) (l2 : n2 ≤ 2000) (w : World) (hf : Fls w b1 o1 fs) (hg : Fls w b2 o2 gs)
    (wf : Hid (∀ i, fs.getD i 0 < 18446744073709551616)) (wg : Hid (∀ i, gs.getD i 0 < 18446744073709551616)) (ha : admB fs gs = false) :
    Calls Tadg.prog 12 #[.slice (some ⟨b1, o1, none⟩) n1 c1, .slice (some ⟨b2, o2, none⟩) n2 c2] w fun e w' => ∃ r m, e = .returned (.float .f64 r) ∧ w' = w.drewN m ∧ Fl.isNaN r = true ∧ r < 18446744073709551616 := by
  have href : Hid ((!admB fs gs) = true) := by rw [Hid, ha]; rfl
  go_enter Tadg.func12, Tadg.ntmps12
  go_wp2_with (first
    | (go_at_call 39; refine (refused_any _ _ _ _ _ _ n1 n2 fs gs hn1 hn2 l1 l2 _ hf hg wf wg).mono ?_; rintro e w' ⟨rfl, hq⟩; obtain rfl := hq.symm; rw [href.out])
    | (go_at_call 40; refine (nan40_any _).mono ?_; rintro e w' ⟨r, m, rfl, rfl, hr, lr⟩))
  go_ret
  first
    | exact ⟨r, rfl, ⟨m, rfl⟩, hr, lr⟩
    | exact ⟨r, m, rfl, rfl, hr, lr⟩

set_option maxHeartbeats 1000000 in
theorem dotRounded_refused (b1 o1 b2 o2 c1 c2 n1 n2 : Nat) (fs gs : List Nat) (hn1 : Hid (fs.length = n1)) (hn2 : Hid (gs.length = n2)) (l1 : n1 ≤ 2000) (l2 : n2 ≤ 2000) (w : World) (hf : Fls w b1 o1 fs) (hg : Fls w b2 o2 gs)
    (wf : Hid (∀ i, fs.getD i 0 < 18446744073709551616)) (wg : Hid (∀ i, gs.getD i 0 < 18446744073709551616)) (ha : admB fs gs = false) :
    Calls Tadg.prog 13 #[.slice (some ⟨b1, o1, none⟩) n1 c1, .slice (some ⟨b2, o2, none⟩) n2 c2] w fun e w' => ∃ r m, e = .returned (.float .f64 r) ∧ w' = w.drewN m ∧ Fl.isNaN r = true ∧ r < 18446744073709551616 := by
  have href : Hid ((!admB fs gs) = true) := by rw [Hid, ha]; rfl
  go_enter Tadg.func13, Tadg.ntmps13
  go_wp2_with (first
    | (go_at_call 39; refine (refused_any _ _ _ _ _ _ n1 n2 fs gs hn1 hn2 l1 l2 _ hf hg wf wg).mono ?_; rintro e w' ⟨rfl, hq⟩; obtain rfl := hq.symm; rw [href.out])
    | (go_at_call 40; refine (nan40_any _).mono ?_; rintro e w' ⟨r, m, rfl, rfl, hr, lr⟩))
  go_ret
  first
    | exact ⟨r, rfl, ⟨m, rfl⟩, hr, lr⟩
    | exact ⟨r, m, rfl, rfl, hr, lr⟩
end Go.Proofs.YgctadDoor
