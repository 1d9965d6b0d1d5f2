import Derived.Test.YgctadW27
namespace Go.Proofs.Ygctad
open Go.RowKit Go.Acc Rn
set_option linter.unusedSimpArgs false
set_option linter.unusedVariables false
attribute [local go_sem] Go.Fl.run_add Go.Fl.run_sub Go.Fl.run_mul

theorem toNat_words {zs : List Int} (hw : ∀ n ∈ zs, (Lit.int .u64 n).wf = true) : ∀ i, (zs.map Int.toNat).getD i 0 < 18446744073709551616 := by
  intro i
  rw [List.getD, List.getElem?_map]
  cases h : zs[i]? with
  | none => simp
  | some z =>
    have := hw z (List.mem_of_getElem? h)
    simp [Lit.wf, IntKind.min, IntKind.max, IntKind.signed, IntKind.bits] at this
    simp only [Option.map_some, Option.getD_some]
    omega

/-- A slice of words that came in, as the law's shell opens it. -/
def Rows64 (w : World) (a : Option Addr) (len cap : Nat) (zs : List Int) : Prop :=
  ((cap = 0 ∧ len = 0) ∨ (0 < cap ∧ ∃ b off, a = some ⟨b, off, none⟩ ∧ b < w.heap.size ∧ len ≤ cap ∧ cap ≤ maxLen ∧ len ≤ zs.length ∧ ∀ i, i < zs.length → w.cell? ⟨b, off + i, none⟩ = some (.int .u64 (zs.getD i 0)))) ∧ ∀ n ∈ zs, (Lit.int .u64 n).wf = true

set_option maxHeartbeats 2000000 in
theorem dotIsFold_walk (a : Option Addr) (len cap : Nat) (zs : List Int) (w : World) (h : Rows64 w a len cap zs) :
    Calls Tadg.prog 3 #[.slice a len cap] w fun e w' => e = .returned (.bool true) ∧ Below w.heap.size w w' := by
  obtain ⟨h, hw⟩ := h
  go_enter Tadg.func3, Tadg.ntmps3
  go_wp2_with (go_at_call 11; refine (twoLists_any a len cap zs w h).mono ?_; rintro e w1 ⟨fs, gs, B1, B2, rfl, hfs, hgs, lf, lg, hB, g1, g2, F1, F2, s1, s2⟩)
  have wf : Hid (∀ i, fs.getD i 0 < 18446744073709551616) := by
    rw [hfs.out]; exact toNat_words (fun n hn => hw n (List.mem_of_mem_take (List.mem_of_mem_take hn)))
  have wg : Hid (∀ i, gs.getD i 0 < 18446744073709551616) := by
    obtain ⟨m, hm⟩ := hgs.out
    rw [hm]; exact toNat_words (fun n hn => hw n (List.mem_of_mem_drop (List.mem_of_mem_take hn)))
  obtain ⟨n1, hn1⟩ : ∃ n1, fs.length = n1 := ⟨_, rfl⟩
  obtain ⟨n2, hn2⟩ : ∃ n2, gs.length = n2 := ⟨_, rfl⟩
  have H1 : Hid (fs.length = n1) := hn1
  have H2 : Hid (gs.length = n2) := hn2
  rw [hn1] at lf ⊢
  rw [hn2] at lg ⊢
  clear hn1 hn2 hfs hgs h hw
  cases ha : admB fs gs
  · go_wp2_with (go_at_call 12; refine (dotAdmitted_any _ _ _ _ _ _ n1 n2 fs gs H1 H2 (by omega) (by omega) _ F1 F2 wf wg).mono ?_; rintro e w' ⟨rfl, hq⟩; obtain rfl := hq.symm)
    go_ret
    exact ⟨rfl, hB⟩
  · have hAdm : Hid (n1 = n2) := by have := ((admB_iff fs gs).1 ha).1; rw [H1.out, H2.out] at this; exact this
    go_wp2_with (go_at_call 12; refine (dotAdmitted_any _ _ _ _ _ _ n1 n2 fs gs H1 H2 (by omega) (by omega) _ F1 F2 wf wg).mono ?_; rintro e w' ⟨rfl, hq⟩; obtain rfl := hq.symm)
    have hcf : ∀ i, i < n1 → w1.cell? ⟨B1, i, none⟩ = some (.float .f64 (fs.getD i 0)) := fun i hi => by have := F1 i (by have := H1.out; omega); rwa [Nat.zero_add] at this
    have hcg : ∀ i, i < n1 → w1.cell? ⟨B2, i, none⟩ = some (.float .f64 (gs.getD i 0)) := fun i hi => by have := F2 i (by have := H2.out; have := hAdm.out; omega); rwa [Nat.zero_add] at this
    have HF1 : Hid (Fls w1 B1 0 fs) := F1
    have HF2 : Hid (Fls w1 B2 0 gs) := F2
    have hst : Hid (∀ k s p r, Fl.same s (dfold fs gs k) = true → Fl.Res .mul (fs.getD k 0) (gs.getD k 0) p → Fl.Res .add s p r → Fl.same r (dfold fs gs (k + 1)) = true) := fun k s p r h1 h2 h3 => dfold_step h1 h2 h3
    have h00 : Hid (dfold fs gs 0 = 0) := rfl
    have i2 : n1 ≤ n2 := by have := hAdm.out; omega
    clear F1 F2
    go_loopw [5, 6] (fun s i w2 => ∃ k r m : Nat, k ≤ n1 ∧ i = .int .i64 k ∧ s = .float .f64 r ∧ w2 = w1.drewN m ∧ Fl.same r (dfold fs gs k) = true) (fun _ i _ => n1 - (intOf i).toNat)
    case atStart => exact ⟨0, 0, 0, Nat.zero_le _, rfl, rfl, rfl, by rw [h00.out]; exact Fl.same_refl _⟩
    case round =>
      obtain ⟨k, r, m, hk, rfl, rfl, rfl, hs⟩ := hrel
      by_cases hlt : k < n1
      · have e1 := hcf k hlt
        have e2 := hcg k hlt
        have i1 : (k : Int) < (n1 : Int) := by omega
        have i2' : (k : Int) < (n2 : Int) := by omega
        have st : Hid (∀ p q, Fl.Res .mul (fs.getD k 0) (gs.getD k 0) p → Fl.Res .add r p q → Fl.same q (dfold fs gs (k + 1)) = true) := fun p q h1 h2 => hst.out k r p q hs h1 h2
        clear hcf hcg hst
        generalize fs.getD k 0 = X at *
        generalize gs.getD k 0 = Y at *
        go_wp2
        go_region_with (fail)
        all_goals
          go_wp2
          go_roundw
          case rel => exact ⟨k + 1, _, _, by omega, by go_num, rfl, rfl, st.out _ _ (Fl.val_res ..) (Fl.val_res ..)⟩
          case measure => simp [intOf]; omega
      · have hx : ¬ (k : Int) < (n1 : Int) := by omega
        have hkn : k = n1 := by omega
        have hnn := hAdm.out
        subst hkn
        subst hnn
        clear hcf hcg hst
        go_wp2_with (first
          | (go_at_call 14; refine (dot_any _ _ _ _ _ _ k fs gs H1 H2 lf _ (by exact HF1.out) (by exact HF2.out) wf wg ha).mono ?_; rintro e w3 ⟨r', m', rfl, rfl, hs'⟩; have hsame : Fl.same r' r = true := Fl.same_trans hs' (Fl.same_comm hs))
          | (go_at_call 13; refine (same_any _ _ _).mono ?_; rintro e w' ⟨rfl, rfl⟩))
        go_ret
        exact ⟨rfl, below_drewN hB _⟩

end Go.Proofs.Ygctad
