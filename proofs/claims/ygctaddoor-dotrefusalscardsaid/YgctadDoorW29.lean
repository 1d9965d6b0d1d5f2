import Derived.Test.YgctadDoorW27
import Derived.Test.YgctadDoorDj
namespace Go.Proofs.YgctadDoor
open Go.RowKit Go.Acc Rn
set_option linter.unusedSimpArgs false
set_option linter.unusedVariables false
attribute [local go_sem] Go.Fl.run_add Go.Fl.run_sub Go.Fl.run_mul

set_option maxHeartbeats 1000000 in
theorem dot2_any (b1 o1 b2 o2 c1 c2 n : Nat) (fs gs : List Nat) (hn1 : Hid (fs.length = n)) (hn2 : Hid (gs.length = n)) (l1 : n ≤ 1024) (w : World) (hf : Fls w b1 o1 fs) (hg : Fls w b2 o2 gs)
    (wf : Hid (∀ i, fs.getD i 0 < 18446744073709551616)) (wg : Hid (∀ i, gs.getD i 0 < 18446744073709551616)) (ha : admB fs gs = true) :
    Calls Tadg.prog 17 #[.slice (some ⟨b1, o1, none⟩) n c1, .slice (some ⟨b2, o2, none⟩) n c2] w fun e w' => ∃ r m s C, e = .returned (.float .f64 r) ∧ w' = w.drewN m ∧ Fl.Res .add s C r ∧ Dst n s C (ps fs gs n) (pa fs gs n) := by
  have hcf : ∀ i, i < n → w.cell? ⟨b1, o1 + i, none⟩ = some (.float .f64 (fs.getD i 0)) := fun i hi => hf i (by have := hn1.out; omega)
  have hcg : ∀ i, i < n → w.cell? ⟨b2, o2 + i, none⟩ = some (.float .f64 (gs.getD i 0)) := fun i hi => hg i (by have := hn2.out; omega)
  have href : Hid ((!admB fs gs) = false) := by rw [Hid, ha]; rfl
  have hin : Hid (∀ k, k < n → (Rn.fin (fs.getD k 0) = true ∧ InR (vz (fs.getD k 0))) ∧ (Rn.fin (gs.getD k 0) = true ∧ InR (vz (gs.getD k 0)))) := fun k hk => by
    have := ((admB_iff fs gs).1 ha).2.2 k (by have := hn1.out; omega)
    unfold okB at this
    simp only [Bool.and_eq_true] at this
    exact ⟨zeroOr_inR this.1, zeroOr_inR this.2⟩
  go_enter Tadg.func17, Tadg.ntmps17
  go_wp2_with (go_at_call 39; refine (refused_any _ _ _ _ _ _ n n fs gs hn1 hn2 (by omega) (by omega) _ hf hg wf wg).mono ?_; rintro e w' ⟨rfl, hq⟩; obtain rfl := hq.symm; rw [href.out])
  clear hf hg
  go_loopw [5, 6, 7] (fun s C i w1 => ∃ k r c m : Nat, k ≤ n ∧ i = .int .i64 k ∧ s = .float .f64 r ∧ C = .float .f64 c ∧ w1 = w.drewN m ∧ Dst k r c (ps fs gs k) (pa fs gs k)) (fun _ _ i _ => n - (intOf i).toNat)
  case atStart => exact ⟨0, 0, 0, 0, Nat.zero_le _, rfl, rfl, rfl, rfl, Dst.start fs gs⟩
  case round =>
    obtain ⟨k, r, c, m, hk, rfl, rfl, rfl, rfl, hs⟩ := hrel
    by_cases hlt : k < n
    · have e1 := hcf k hlt
      have e2 := hcg k hlt
      have i1 : (k : Int) < (n : Int) := by omega
      have HS : Hid (Dst k r c (ps fs gs k) (pa fs gs k)) := hs
      obtain ⟨⟨fx, rx⟩, ⟨fy, ry⟩⟩ := hin.out k hlt
      clear hs hcf hcg
      go_wp2
      go_region_with (go_at_call 41; refine (twoProd_any _ _ _).mono ?_; rintro e w' ⟨p, ch, dh, ah, al, ci, di, bh, bl, t1, e1, t2, e2, t3, e3, t4, e4, n1, rfl, rfl, y0, y1, y2, y3, y4, y5, y6, y7, y8, y9, y10⟩)
      all_goals
        go_wp2_with (go_at_call 44; refine (twoSum_any _ _ _).mono ?_; rintro e w' ⟨t, sb, sa, db, da, f, n2, rfl, rfl, z1, z2, z3, z4, z5, z6⟩)
        go_roundw
        case rel => exact ⟨k + 1, _, _, _, by omega, by go_num, rfl, rfl, rfl, dot2_round HS.out (by omega) fx fy rx ry y0 y1 y2 y3 y4 y5 y6 y7 y8 y9 y10 z1 z2 z3 z4 z5 z6 (Fl.val_res ..) (Fl.val_res ..)⟩
        case measure => simp [intOf]; omega
    · have hx : ¬ (k : Int) < (n : Int) := by omega
      have hkn : k = n := by omega
      subst hkn
      have HS : Hid (Dst k r c (ps fs gs k) (pa fs gs k)) := hs
      clear hs
      go_wp2
      go_ret
      exact ⟨_, rfl, ⟨_, rfl⟩, r, c, Fl.val_res .., HS.out⟩
end Go.Proofs.YgctadDoor
