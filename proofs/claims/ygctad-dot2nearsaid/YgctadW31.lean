import Derived.Test.YgctadDi
import Derived.Test.YgctadW23
import Derived.Test.YgctadW28
namespace Go.Proofs.Ygctad
open Go.RowKit Go.Acc Rn
set_option linter.unusedSimpArgs false
set_option linter.unusedVariables false
attribute [local go_sem] Go.Fl.run_add Go.Fl.run_sub Go.Fl.run_mul

set_option maxRecDepth 100000 in
set_option maxHeartbeats 4000000 in
theorem dot2Near_walk (a : Option Addr) (len cap : Nat) (zs : List Int) (w : World) (h : Rows64 w a len cap zs) :
    Calls Tadg.prog 4 #[.slice a len cap] w fun e w' => e = .returned (.bool true) ∧ Below w.heap.size w w' := by
  obtain ⟨h, hw⟩ := h
  go_enter Tadg.func4, Tadg.ntmps4
  go_wp2_with (go_at_call 11; refine (twoLists_any a len cap zs w h).mono ?_; rintro e w1 ⟨fs, gs, B1, B2, rfl, hfs, hgs, lf, lg, hB0, g1, g2, F1, F2, hb1, hb2⟩)
  have wf : Hid (∀ i, fs.getD i 0 < 18446744073709551616) := by
    rw [hfs.out]; exact toNat_words (fun n hn => hw n (List.mem_of_mem_take (List.mem_of_mem_take hn)))
  have wg : Hid (∀ i, gs.getD i 0 < 18446744073709551616) := by
    obtain ⟨m, hm⟩ := hgs.out
    rw [hm]; exact toNat_words (fun n hn => hw n (List.mem_of_mem_drop (List.mem_of_mem_take hn)))
  obtain ⟨n1, hn1⟩ : ∃ n1, fs.length = n1 := ⟨_, rfl⟩
  obtain ⟨n2, hn2⟩ : ∃ n2, gs.length = n2 := ⟨_, rfl⟩
  have H1 : Hid (fs.length = n1) := hn1
  have H2 : Hid (gs.length = n2) := hn2
  rw [hn1] at lf ⊢
  rw [hn2] at lg ⊢
  clear hn1 hn2 hfs hgs h hw
  by_cases ha : admB fs gs = true
  case neg =>
    rw [Bool.not_eq_true] at ha
    go_wp2_with (go_at_call 12; refine (dotAdmitted_any _ _ _ _ _ _ n1 n2 fs gs H1 H2 (by omega) (by omega) _ F1 F2 wf wg).mono ?_; rintro e w' ⟨rfl, hq⟩; obtain rfl := hq.symm)
    go_ret
    exact ⟨rfl, hB0⟩
  obtain rfl : n1 = n2 := by have := ((admB_iff fs gs).1 ha).1; rw [H1.out, H2.out] at this; exact this
  obtain ⟨n, rfl⟩ : ∃ n, n = n1 := ⟨_, rfl⟩
  have hn : n ≤ 1024 := lf
  have hin : Hid (∀ k, k < n → (Rn.fin (fs.getD k 0) = true ∧ InR (vz (fs.getD k 0))) ∧ (Rn.fin (gs.getD k 0) = true ∧ InR (vz (gs.getD k 0)))) := fun k hk => by
    have := ((admB_iff fs gs).1 ha).2.2 k (by have := H1.out; omega)
    unfold okB at this
    simp only [Bool.and_eq_true] at this
    exact ⟨zeroOr_inR this.1, zeroOr_inR this.2⟩
  have hff : Hid (∀ i, i < n → Rn.fin (fs.getD i 0) = true ∧ Rn.fin (gs.getD i 0) = true) := fun i hi => ⟨(hin.out i hi).1.1, (hin.out i hi).2.1⟩
  have hcm : Hid (∀ s C r, Dst n s C (ps fs gs n) (pa fs gs n) → Fl.Res .add s C r → Rn.fin r = true ∧ r < 18446744073709551616 ∧ Sgd (vz r * P 1074 - xsum fs gs n) ∧ Sgd (((vz r * P 1074 - xsum fs gs n).natAbs : Int) * P 105) ∧ Sgd (xsum fs gs n) ∧
    Sgd (((xsum fs gs n).natAbs : Int) * P 52 + asum fs gs n * ((n : Int) * (n : Int))) ∧
    ((vz r * P 1074 - xsum fs gs n).natAbs : Int) * P 105 ≤ ((xsum fs gs n).natAbs : Int) * P 52 + asum fs gs n * ((n : Int) * (n : Int))) :=
    fun s C r hD hr => dot2_cmp hn (fun k hk => ⟨(hin.out k hk).1.2, (hin.out k hk).2.2⟩) hD hr
  have HF1 : Hid (Fls w1 B1 0 fs) := F1
  have HF2 : Hid (Fls w1 B2 0 gs) := F2
  have hz := Tadg.zero34
  clear F1 F2
  go_upto_region 8 with (first
    | (go_at_call 12; refine (dotAdmitted_any _ _ _ _ _ _ n n fs gs H1 H2 (by omega) (by omega) _ HF1.out HF2.out wf wg).mono ?_; rintro e w' ⟨rfl, hq⟩; obtain rfl := hq.symm)
    | (go_at_call 15; refine (dot2_any _ _ _ _ _ _ n fs gs H1 H2 hn _ HF1.out HF2.out wf wg ha).mono ?_; rintro e w2 ⟨R, m2, s2, C2, rfl, hw2, hr2, hD2⟩; obtain ⟨hR1, hR2, hS1, hS2, hS3, hS4, hle⟩ := hcm.out s2 C2 R hD2 hr2; have HLe : Hid (((vz R * P 1074 - xsum fs gs n).natAbs : Int) * P 105 ≤ ((xsum fs gs n).natAbs : Int) * P 52 + asum fs gs n * ((n : Int) * (n : Int))) := hle; clear hle hD2 hr2; subst hw2)
    | (go_at_call 16; refine (finite_any _ hR2 _).mono ?_; rintro e w' ⟨rfl, hq⟩; obtain rfl := hq.symm)
    | (go_at_call 17; refine (exactDot_any _ _ _ _ _ _ n fs gs H1 H2 hn (w1.drewN m2) hb1 hb2 (by exact HF1.out) (by exact HF2.out) wf wg hff).mono ?_; rintro e w3 ⟨rfl, hb3⟩; have n3 := AccAt.new w3 (dig 0))
    | (refine wpList_store_row rfl 34 _ _ rfl w3.heap.size _ rfl rfl 34 _ n3 (Tadg.size34 _) (by rw [accC_size, accC_size]) (accC_one _) ?_))
  have h6 : w1.heap.size ≤ w3.heap.size := hb3.size
  have hB : Below w1.heap.size w1 ((w3.alloc (.cells (accC (dig 0)) 34)).setRow w3.heap.size (accC (dig (xsum fs gs n)))) := below_row (((below_drewN (Below.refl _ _) _).trans hb3).alloc h6 _) h6 _
  have hE := n3.setRow (g := dig (xsum fs gs n))
  obtain ⟨E, hEE⟩ : ∃ E, xsum fs gs n = E := ⟨_, rfl⟩
  rw [hEE] at hS1 hS2 hS3 hS4 HLe hB hE ⊢
  clear hEE
  generalize (w3.alloc (.cells (accC (dig 0)) 34)).setRow w3.heap.size (accC (dig E)) = wc at *
  generalize w3.heap.size = B6 at *
  simp only [Act.put]
  go_cut [7] (fun t wx => ∃ B11, t = .pointer (some ⟨B11, 0, none⟩) ∧ B6 < B11 ∧ AccAt wx B11 (dig (vz R * P 1074 - E).natAbs) ∧ AccAt wx B6 (dig E) ∧ Below w1.heap.size w1 wx)
  case first =>
      refine wp_region_any (by kernel_rfl) ?_
      change wpAny _ _ _ _ _ _ _ (World.drew _)
      replace hE : AccAt wc.drew B6 (dig E) := hE
      replace hB : Below w1.heap.size w1 wc.drew := hB.drew
      generalize wc.drew = V0 at *
      refine wpAny_take (i := 0) (v := ?_) rfl (by kernel_rfl) (by kernel_rfl) (by kernel_rfl) (fun _ _ _ h => h) (Or.inl ⟨by rfl, by intro w; go_simp; try (with_reducible rfl)⟩) ?_
      refine wpAny_ready (rs := [1, 2, 4]) (by kernel_rfl) (by simp) ?_
      refine AllReady.cons rfl (fun K hK => ?_) ?_
      · go_simp
        refine (accOf_any R hR2 hR1 _).mono ?_
        rintro e w3 ⟨rfl, b3⟩
        replace hB := hB.trans (b3.mono (Nat.le_trans h6 (Nat.le_of_lt hE.lt)))
        replace hE := hE.below b3
        refine hK _ _ ?_
        clear hK K b3
        refine wpAny_ready (rs := [2, 4]) (by kernel_rfl) (by simp) ?_
        refine AllReady.cons rfl (fun K hK => ?_) ?_
        · refine step_load_acc rfl _ rfl B6 rfl _ hE ?_
          refine hK _ _ ?_
          clear hK K
          refine wpAny_ready (rs := [3, 4]) (by kernel_rfl) (by simp) ?_
          refine AllReady.cons rfl (fun K hK => ?_) ?_
          · go_simp
            refine (gap_any _ _ hS1 _).mono ?_
            rintro e w4 ⟨rfl, b4⟩
            replace hB := hB.trans (b4.mono (Nat.le_trans h6 (Nat.le_of_lt hE.lt)))
            replace hE := hE.below b4
            refine hK _ _ ?_
            clear hK K b4
            refine wpAny_ready (rs := [4]) (by kernel_rfl) (by simp) ?_
            refine AllReady.cons rfl (fun K hK => ?_) ?_
            · go_simp
              refine hK _ _ ?_
              clear hK K
              have hge := hE.lt
              have hN := AccAt.new w4 (dig 0)
              replace hB := hB.alloc (Nat.le_trans h6 (Nat.le_of_lt hge)) (.cells (accC (dig 0)) 34)
              replace hE := hE.old (.cells (accC (dig 0)) 34)
              generalize w4.alloc (.cells (accC (dig 0)) 34) = W4 at *
              generalize w4.heap.size = B11 at *
              refine wpAny_ready (rs := [5]) (by kernel_rfl) (by simp) ?_
              refine AllReady.cons rfl (fun K hK => ?_) ?_
              · have hst := run_storeCells_acc hN (dig ((vz R * P 1074 - E).natAbs))
                have hsz := accC_size (dig ((vz R * P 1074 - E).natAbs))
                go_simp
                refine hK _ _ ?_
                clear hK K hst hsz
                replace hB := below_row hB (Nat.le_trans h6 (Nat.le_of_lt hge)) (accC (dig (vz R * P 1074 - E).natAbs))
                replace hE := hE.setRow_ne (Nat.ne_of_lt hge) (accC (dig (vz R * P 1074 - E).natAbs))
                replace hN := hN.setRow (g := dig (vz R * P 1074 - E).natAbs)
                refine wpAny_done (by kernel_rfl) ?_ _
                go_wp2_with fail
                go_meet
                exact ⟨B11, rfl, hge, hN, hE, hB⟩
              exact AllReady.nil
            exact AllReady.nil
          refine AllReady.cons rfl (fun K hK => ?_) ?_
          · go_simp
            refine hK _ _ ?_
            clear hK K
            have hge := hE.lt
            have hN := AccAt.new w3 (dig 0)
            replace hB := hB.alloc (Nat.le_trans h6 (Nat.le_of_lt hge)) (.cells (accC (dig 0)) 34)
            replace hE := hE.old (.cells (accC (dig 0)) 34)
            generalize w3.alloc (.cells (accC (dig 0)) 34) = W3 at *
            generalize w3.heap.size = B11 at *
            refine wpAny_ready (rs := [3]) (by kernel_rfl) (by simp) ?_
            refine AllReady.cons rfl (fun K hK => ?_) ?_
            · go_simp
              refine (gap_any _ _ hS1 _).mono ?_
              rintro e w4 ⟨rfl, b4⟩
              replace hB := hB.trans (b4.mono (Nat.le_trans h6 (Nat.le_of_lt hE.lt)))
              replace hE := hE.below b4
              replace hN := hN.below b4
              refine hK _ _ ?_
              clear hK K b4
              refine wpAny_ready (rs := [5]) (by kernel_rfl) (by simp) ?_
              refine AllReady.cons rfl (fun K hK => ?_) ?_
              · have hst := run_storeCells_acc hN (dig ((vz R * P 1074 - E).natAbs))
                have hsz := accC_size (dig ((vz R * P 1074 - E).natAbs))
                go_simp
                refine hK _ _ ?_
                clear hK K hst hsz
                replace hB := below_row hB (Nat.le_trans h6 (Nat.le_of_lt hge)) (accC (dig (vz R * P 1074 - E).natAbs))
                replace hE := hE.setRow_ne (Nat.ne_of_lt hge) (accC (dig (vz R * P 1074 - E).natAbs))
                replace hN := hN.setRow (g := dig (vz R * P 1074 - E).natAbs)
                refine wpAny_done (by kernel_rfl) ?_ _
                go_wp2_with fail
                go_meet
                exact ⟨B11, rfl, hge, hN, hE, hB⟩
              exact AllReady.nil
            exact AllReady.nil
          exact AllReady.nil
        refine AllReady.cons rfl (fun K hK => ?_) ?_
        · go_simp
          refine hK _ _ ?_
          clear hK K
          have hge := hE.lt
          have hN := AccAt.new w3 (dig 0)
          replace hB := hB.alloc (Nat.le_trans h6 (Nat.le_of_lt hge)) (.cells (accC (dig 0)) 34)
          replace hE := hE.old (.cells (accC (dig 0)) 34)
          generalize w3.alloc (.cells (accC (dig 0)) 34) = W2 at *
          generalize w3.heap.size = B11 at *
          refine wpAny_ready (rs := [2]) (by kernel_rfl) (by simp) ?_
          refine AllReady.cons rfl (fun K hK => ?_) ?_
          · refine step_load_acc rfl _ rfl B6 rfl _ hE ?_
            refine hK _ _ ?_
            clear hK K
            refine wpAny_ready (rs := [3]) (by kernel_rfl) (by simp) ?_
            refine AllReady.cons rfl (fun K hK => ?_) ?_
            · go_simp
              refine (gap_any _ _ hS1 _).mono ?_
              rintro e w4 ⟨rfl, b4⟩
              replace hB := hB.trans (b4.mono (Nat.le_trans h6 (Nat.le_of_lt hE.lt)))
              replace hE := hE.below b4
              replace hN := hN.below b4
              refine hK _ _ ?_
              clear hK K b4
              refine wpAny_ready (rs := [5]) (by kernel_rfl) (by simp) ?_
              refine AllReady.cons rfl (fun K hK => ?_) ?_
              · have hst := run_storeCells_acc hN (dig ((vz R * P 1074 - E).natAbs))
                have hsz := accC_size (dig ((vz R * P 1074 - E).natAbs))
                go_simp
                refine hK _ _ ?_
                clear hK K hst hsz
                replace hB := below_row hB (Nat.le_trans h6 (Nat.le_of_lt hge)) (accC (dig (vz R * P 1074 - E).natAbs))
                replace hE := hE.setRow_ne (Nat.ne_of_lt hge) (accC (dig (vz R * P 1074 - E).natAbs))
                replace hN := hN.setRow (g := dig (vz R * P 1074 - E).natAbs)
                refine wpAny_done (by kernel_rfl) ?_ _
                go_wp2_with fail
                go_meet
                exact ⟨B11, rfl, hge, hN, hE, hB⟩
              exact AllReady.nil
            exact AllReady.nil
          exact AllReady.nil
        exact AllReady.nil
      refine AllReady.cons rfl (fun K hK => ?_) ?_
      · refine step_load_acc rfl _ rfl B6 rfl _ hE ?_
        refine hK _ _ ?_
        clear hK K
        refine wpAny_ready (rs := [1, 4]) (by kernel_rfl) (by simp) ?_
        refine AllReady.cons rfl (fun K hK => ?_) ?_
        · go_simp
          refine (accOf_any R hR2 hR1 _).mono ?_
          rintro e w3 ⟨rfl, b3⟩
          replace hB := hB.trans (b3.mono (Nat.le_trans h6 (Nat.le_of_lt hE.lt)))
          replace hE := hE.below b3
          refine hK _ _ ?_
          clear hK K b3
          refine wpAny_ready (rs := [3, 4]) (by kernel_rfl) (by simp) ?_
          refine AllReady.cons rfl (fun K hK => ?_) ?_
          · go_simp
            refine (gap_any _ _ hS1 _).mono ?_
            rintro e w4 ⟨rfl, b4⟩
            replace hB := hB.trans (b4.mono (Nat.le_trans h6 (Nat.le_of_lt hE.lt)))
            replace hE := hE.below b4
            refine hK _ _ ?_
            clear hK K b4
            refine wpAny_ready (rs := [4]) (by kernel_rfl) (by simp) ?_
            refine AllReady.cons rfl (fun K hK => ?_) ?_
            · go_simp
              refine hK _ _ ?_
              clear hK K
              have hge := hE.lt
              have hN := AccAt.new w4 (dig 0)
              replace hB := hB.alloc (Nat.le_trans h6 (Nat.le_of_lt hge)) (.cells (accC (dig 0)) 34)
              replace hE := hE.old (.cells (accC (dig 0)) 34)
              generalize w4.alloc (.cells (accC (dig 0)) 34) = W4 at *
              generalize w4.heap.size = B11 at *
              refine wpAny_ready (rs := [5]) (by kernel_rfl) (by simp) ?_
              refine AllReady.cons rfl (fun K hK => ?_) ?_
              · have hst := run_storeCells_acc hN (dig ((vz R * P 1074 - E).natAbs))
                have hsz := accC_size (dig ((vz R * P 1074 - E).natAbs))
                go_simp
                refine hK _ _ ?_
                clear hK K hst hsz
                replace hB := below_row hB (Nat.le_trans h6 (Nat.le_of_lt hge)) (accC (dig (vz R * P 1074 - E).natAbs))
                replace hE := hE.setRow_ne (Nat.ne_of_lt hge) (accC (dig (vz R * P 1074 - E).natAbs))
                replace hN := hN.setRow (g := dig (vz R * P 1074 - E).natAbs)
                refine wpAny_done (by kernel_rfl) ?_ _
                go_wp2_with fail
                go_meet
                exact ⟨B11, rfl, hge, hN, hE, hB⟩
              exact AllReady.nil
            exact AllReady.nil
          refine AllReady.cons rfl (fun K hK => ?_) ?_
          · go_simp
            refine hK _ _ ?_
            clear hK K
            have hge := hE.lt
            have hN := AccAt.new w3 (dig 0)
            replace hB := hB.alloc (Nat.le_trans h6 (Nat.le_of_lt hge)) (.cells (accC (dig 0)) 34)
            replace hE := hE.old (.cells (accC (dig 0)) 34)
            generalize w3.alloc (.cells (accC (dig 0)) 34) = W3 at *
            generalize w3.heap.size = B11 at *
            refine wpAny_ready (rs := [3]) (by kernel_rfl) (by simp) ?_
            refine AllReady.cons rfl (fun K hK => ?_) ?_
            · go_simp
              refine (gap_any _ _ hS1 _).mono ?_
              rintro e w4 ⟨rfl, b4⟩
              replace hB := hB.trans (b4.mono (Nat.le_trans h6 (Nat.le_of_lt hE.lt)))
              replace hE := hE.below b4
              replace hN := hN.below b4
              refine hK _ _ ?_
              clear hK K b4
              refine wpAny_ready (rs := [5]) (by kernel_rfl) (by simp) ?_
              refine AllReady.cons rfl (fun K hK => ?_) ?_
              · have hst := run_storeCells_acc hN (dig ((vz R * P 1074 - E).natAbs))
                have hsz := accC_size (dig ((vz R * P 1074 - E).natAbs))
                go_simp
                refine hK _ _ ?_
                clear hK K hst hsz
                replace hB := below_row hB (Nat.le_trans h6 (Nat.le_of_lt hge)) (accC (dig (vz R * P 1074 - E).natAbs))
                replace hE := hE.setRow_ne (Nat.ne_of_lt hge) (accC (dig (vz R * P 1074 - E).natAbs))
                replace hN := hN.setRow (g := dig (vz R * P 1074 - E).natAbs)
                refine wpAny_done (by kernel_rfl) ?_ _
                go_wp2_with fail
                go_meet
                exact ⟨B11, rfl, hge, hN, hE, hB⟩
              exact AllReady.nil
            exact AllReady.nil
          exact AllReady.nil
        refine AllReady.cons rfl (fun K hK => ?_) ?_
        · go_simp
          refine hK _ _ ?_
          clear hK K
          have hge := hE.lt
          have hN := AccAt.new V0 (dig 0)
          replace hB := hB.alloc (Nat.le_trans h6 (Nat.le_of_lt hge)) (.cells (accC (dig 0)) 34)
          replace hE := hE.old (.cells (accC (dig 0)) 34)
          generalize V0.alloc (.cells (accC (dig 0)) 34) = W2 at *
          generalize V0.heap.size = B11 at *
          refine wpAny_ready (rs := [1]) (by kernel_rfl) (by simp) ?_
          refine AllReady.cons rfl (fun K hK => ?_) ?_
          · go_simp
            refine (accOf_any R hR2 hR1 _).mono ?_
            rintro e w3 ⟨rfl, b3⟩
            replace hB := hB.trans (b3.mono (Nat.le_trans h6 (Nat.le_of_lt hE.lt)))
            replace hE := hE.below b3
            replace hN := hN.below b3
            refine hK _ _ ?_
            clear hK K b3
            refine wpAny_ready (rs := [3]) (by kernel_rfl) (by simp) ?_
            refine AllReady.cons rfl (fun K hK => ?_) ?_
            · go_simp
              refine (gap_any _ _ hS1 _).mono ?_
              rintro e w4 ⟨rfl, b4⟩
              replace hB := hB.trans (b4.mono (Nat.le_trans h6 (Nat.le_of_lt hE.lt)))
              replace hE := hE.below b4
              replace hN := hN.below b4
              refine hK _ _ ?_
              clear hK K b4
              refine wpAny_ready (rs := [5]) (by kernel_rfl) (by simp) ?_
              refine AllReady.cons rfl (fun K hK => ?_) ?_
              · have hst := run_storeCells_acc hN (dig ((vz R * P 1074 - E).natAbs))
                have hsz := accC_size (dig ((vz R * P 1074 - E).natAbs))
                go_simp
                refine hK _ _ ?_
                clear hK K hst hsz
                replace hB := below_row hB (Nat.le_trans h6 (Nat.le_of_lt hge)) (accC (dig (vz R * P 1074 - E).natAbs))
                replace hE := hE.setRow_ne (Nat.ne_of_lt hge) (accC (dig (vz R * P 1074 - E).natAbs))
                replace hN := hN.setRow (g := dig (vz R * P 1074 - E).natAbs)
                refine wpAny_done (by kernel_rfl) ?_ _
                go_wp2_with fail
                go_meet
                exact ⟨B11, rfl, hge, hN, hE, hB⟩
              exact AllReady.nil
            exact AllReady.nil
          exact AllReady.nil
        exact AllReady.nil
      refine AllReady.cons rfl (fun K hK => ?_) ?_
      · go_simp
        refine hK _ _ ?_
        clear hK K
        have hge := hE.lt
        have hN := AccAt.new V0 (dig 0)
        replace hB := hB.alloc (Nat.le_trans h6 (Nat.le_of_lt hge)) (.cells (accC (dig 0)) 34)
        replace hE := hE.old (.cells (accC (dig 0)) 34)
        generalize V0.alloc (.cells (accC (dig 0)) 34) = W1 at *
        generalize V0.heap.size = B11 at *
        refine wpAny_ready (rs := [1, 2]) (by kernel_rfl) (by simp) ?_
        refine AllReady.cons rfl (fun K hK => ?_) ?_
        · go_simp
          refine (accOf_any R hR2 hR1 _).mono ?_
          rintro e w3 ⟨rfl, b3⟩
          replace hB := hB.trans (b3.mono (Nat.le_trans h6 (Nat.le_of_lt hE.lt)))
          replace hE := hE.below b3
          replace hN := hN.below b3
          refine hK _ _ ?_
          clear hK K b3
          refine wpAny_ready (rs := [2]) (by kernel_rfl) (by simp) ?_
          refine AllReady.cons rfl (fun K hK => ?_) ?_
          · refine step_load_acc rfl _ rfl B6 rfl _ hE ?_
            refine hK _ _ ?_
            clear hK K
            refine wpAny_ready (rs := [3]) (by kernel_rfl) (by simp) ?_
            refine AllReady.cons rfl (fun K hK => ?_) ?_
            · go_simp
              refine (gap_any _ _ hS1 _).mono ?_
              rintro e w4 ⟨rfl, b4⟩
              replace hB := hB.trans (b4.mono (Nat.le_trans h6 (Nat.le_of_lt hE.lt)))
              replace hE := hE.below b4
              replace hN := hN.below b4
              refine hK _ _ ?_
              clear hK K b4
              refine wpAny_ready (rs := [5]) (by kernel_rfl) (by simp) ?_
              refine AllReady.cons rfl (fun K hK => ?_) ?_
              · have hst := run_storeCells_acc hN (dig ((vz R * P 1074 - E).natAbs))
                have hsz := accC_size (dig ((vz R * P 1074 - E).natAbs))
                go_simp
                refine hK _ _ ?_
                clear hK K hst hsz
                replace hB := below_row hB (Nat.le_trans h6 (Nat.le_of_lt hge)) (accC (dig (vz R * P 1074 - E).natAbs))
                replace hE := hE.setRow_ne (Nat.ne_of_lt hge) (accC (dig (vz R * P 1074 - E).natAbs))
                replace hN := hN.setRow (g := dig (vz R * P 1074 - E).natAbs)
                refine wpAny_done (by kernel_rfl) ?_ _
                go_wp2_with fail
                go_meet
                exact ⟨B11, rfl, hge, hN, hE, hB⟩
              exact AllReady.nil
            exact AllReady.nil
          exact AllReady.nil
        refine AllReady.cons rfl (fun K hK => ?_) ?_
        · refine step_load_acc rfl _ rfl B6 rfl _ hE ?_
          refine hK _ _ ?_
          clear hK K
          refine wpAny_ready (rs := [1]) (by kernel_rfl) (by simp) ?_
          refine AllReady.cons rfl (fun K hK => ?_) ?_
          · go_simp
            refine (accOf_any R hR2 hR1 _).mono ?_
            rintro e w3 ⟨rfl, b3⟩
            replace hB := hB.trans (b3.mono (Nat.le_trans h6 (Nat.le_of_lt hE.lt)))
            replace hE := hE.below b3
            replace hN := hN.below b3
            refine hK _ _ ?_
            clear hK K b3
            refine wpAny_ready (rs := [3]) (by kernel_rfl) (by simp) ?_
            refine AllReady.cons rfl (fun K hK => ?_) ?_
            · go_simp
              refine (gap_any _ _ hS1 _).mono ?_
              rintro e w4 ⟨rfl, b4⟩
              replace hB := hB.trans (b4.mono (Nat.le_trans h6 (Nat.le_of_lt hE.lt)))
              replace hE := hE.below b4
              replace hN := hN.below b4
              refine hK _ _ ?_
              clear hK K b4
              refine wpAny_ready (rs := [5]) (by kernel_rfl) (by simp) ?_
              refine AllReady.cons rfl (fun K hK => ?_) ?_
              · have hst := run_storeCells_acc hN (dig ((vz R * P 1074 - E).natAbs))
                have hsz := accC_size (dig ((vz R * P 1074 - E).natAbs))
                go_simp
                refine hK _ _ ?_
                clear hK K hst hsz
                replace hB := below_row hB (Nat.le_trans h6 (Nat.le_of_lt hge)) (accC (dig (vz R * P 1074 - E).natAbs))
                replace hE := hE.setRow_ne (Nat.ne_of_lt hge) (accC (dig (vz R * P 1074 - E).natAbs))
                replace hN := hN.setRow (g := dig (vz R * P 1074 - E).natAbs)
                refine wpAny_done (by kernel_rfl) ?_ _
                go_wp2_with fail
                go_meet
                exact ⟨B11, rfl, hge, hN, hE, hB⟩
              exact AllReady.nil
            exact AllReady.nil
          exact AllReady.nil
        exact AllReady.nil
      exact AllReady.nil
  case rest =>
    obtain ⟨B11, rfl, hge, hN, hE, hB⟩ := hcut
    have hcm : Hid (cmp (↑(vz R * P 1074 - E).natAbs * P 105) (↑E.natAbs * P 52 + asum fs gs n * ((n : Int) * (n : Int))) ≤ 0) := by
      unfold Hid cmp; have := HLe.out
      split
      · decide
      · rw [if_pos (by omega)]; decide
    have ne1 := Nat.ne_of_lt hge
    go_upto_region 13 with (first
      | (go_at_call_of 20 (Value.pointer (some { block := B11, off := 0 })); refine (shl_any B11 _ 105 1 41 (by decide) rfl (by decide) _ hN).mono ?_; rintro e w5 ⟨rfl, hN5, o5⟩; have hE5 := o5.acc ne1 hE)
      | (go_at_call 21; refine (abs_any B6 E hS3 _ hE5).mono ?_; rintro e w6 ⟨rfl, hE6, o6⟩; have hN6 := o6.acc ne1.symm hN5)
      | (go_at_call_of 20 (Value.pointer (some { block := B6, off := 0 })); refine (shl_any B6 _ 52 0 52 (by decide) rfl (by decide) _ hE6).mono ?_; rintro e w7 ⟨rfl, hE7, o7⟩; have hN7 := o7.acc ne1.symm hN6))
    have hB7 : Below w1.heap.size w1 w7 := ((hB.trans (o5.below (Nat.le_trans h6 (Nat.le_of_lt hge)))).trans (o6.below h6)).trans (o7.below h6)
    have n8 := AccAt.new w7 (dig 0)
    have g8 : B11 < w7.heap.size := hN7.lt
    replace hE7 := hE7.old (.cells (accC (dig 0)) 34)
    replace hN7 := hN7.old (.cells (accC (dig 0)) 34)
    replace hB7 := hB7.alloc hB7.size (.cells (accC (dig 0)) 34)
    generalize w7.alloc (.cells (accC (dig 0)) 34) = W8 at *
    generalize w7.heap.size = B8 at *
    clear hB hE hN hN5 hE5 hE6 hN6 o5 o6 o7
    go_wp2
    go_loopw [9] (fun i w2 => ∃ k : Nat, k ≤ n ∧ i = .int .i64 k ∧ AccAt w2 B8 (dig (asum fs gs k)) ∧ AccAt w2 B11 (dig (↑(vz R * P 1074 - E).natAbs * P 105)) ∧ AccAt w2 B6 (dig (↑E.natAbs * P 52)) ∧ Below w1.heap.size w1 w2) (fun i _ => n - (intOf i).toNat)
    case atStart => exact ⟨0, Nat.zero_le _, rfl, n8, hN7, hE7, hB7⟩
    case round =>
      obtain ⟨k, hk, rfl, A8, A11, A6, hB⟩ := hrel
      by_cases hlt : k < n
      · have e1 := (HF1.out.below hb1 hB) k (by have := H1.out; omega)
        have e2 := (HF2.out.below hb2 hB) k (by have := H2.out; omega)
        have i1 : (k : Int) < (n : Int) := by omega
        obtain ⟨⟨fx, rx⟩, ⟨fy, ry⟩⟩ := hin.out k hlt
        have wx := wf.out k
        have wy := wg.out k
        have hx1 : Hid (asum fs gs (k + 1) = asum fs gs k + ((vz (fs.getD k 0) * vz (gs.getD k 0)).natAbs : Int)) := rfl
        have hSz := prod_sgd rx ry
        clear n8 hN7 hE7 hB7
        have kl1 : k < fs.length := by have := H1.out; omega
        have kl2 : k < gs.length := by have := H2.out; omega
        obtain ⟨X, hX⟩ : ∃ X, fs.getD k 0 = X := ⟨_, rfl⟩
        obtain ⟨Y, hY⟩ : ∃ Y, gs.getD k 0 = Y := ⟨_, rfl⟩
        rw [hX] at wx fx rx hSz hx1
        rw [hY] at wy fy ry hSz hx1
        clear e1 e2
        go_upto_region 16 with fail
        go_cut [10] from 36 to 52 (fun p wx => ∃ B10, p = .pointer (some ⟨B10, 0, none⟩) ∧ B8 < B10 ∧ B11 < B10 ∧ B6 < B10 ∧ AccAt wx B10 (dig (vz X * vz Y)) ∧ AccAt wx B8 (dig (asum fs gs k)) ∧ AccAt wx B11 (dig (↑(vz R * P 1074 - E).natAbs * P 105)) ∧ AccAt wx B6 (dig (↑E.natAbs * P 52)) ∧ Below w1.heap.size w1 wx)
        case first =>
          refine wp_region_any (by kernel_rfl) ?_
          change wpAny _ _ _ _ _ _ _ (World.drew _)
          replace A8 : AccAt wr.drew B8 (dig (asum fs gs k)) := A8
          replace A11 : AccAt wr.drew B11 (dig (↑(vz R * P 1074 - E).natAbs * P 105)) := A11
          replace A6 : AccAt wr.drew B6 (dig (↑E.natAbs * P 52)) := A6
          replace hB : Below w1.heap.size w1 wr.drew := hB.drew
          generalize wr.drew = V0 at *
          refine wpAny_take (i := 0) (v := ?_) rfl (by kernel_rfl) (by kernel_rfl) (by kernel_rfl) (fun _ _ _ h => h) (Or.inl ⟨by rfl, by intro w; go_simp; try (with_reducible rfl)⟩) ?_
          refine wpAny_take (i := 1) (v := ?_) rfl (by kernel_rfl) (by kernel_rfl) (by kernel_rfl) (fun _ _ _ h => h) (Or.inl ⟨by rfl, by intro w; go_simp; try (with_reducible rfl)⟩) ?_
          refine wpAny_take (i := 4) (v := ?_) rfl (by kernel_rfl) (by kernel_rfl) (by kernel_rfl) (fun _ _ _ h => h) (Or.inl ⟨by rfl, by intro w; go_simp; try (with_reducible rfl)⟩) ?_
          refine wpAny_take (i := 5) (v := ?_) rfl (by kernel_rfl) (by kernel_rfl) (by kernel_rfl) (fun _ _ _ h => h) (Or.inl ⟨by rfl, by intro w; go_simp; try (with_reducible rfl)⟩) ?_
          refine wpAny_take (i := 2) (v := ?_) rfl (by kernel_rfl) (by kernel_rfl) (by kernel_rfl) (fun _ _ _ h => h) (Or.inl ⟨by rfl, by intro w; go_simp; try (with_reducible rfl)⟩) ?_
          refine wpAny_take (i := 6) (v := ?_) rfl (by kernel_rfl) (by kernel_rfl) (by kernel_rfl) (fun _ _ _ h => h) (Or.inl ⟨by rfl, by intro w; go_simp; try (with_reducible rfl)⟩) ?_
          refine wpAny_ready (rs := [3, 7, 9]) (by kernel_rfl) (by simp) ?_
          refine AllReady.cons rfl (fun K hK => ?_) ?_
          · have e1 := (HF1.out.below hb1 hB) k kl1
            rw [hX, Nat.zero_add] at e1
            go_simp
            refine hK _ _ ?_
            clear hK K e1
            refine wpAny_ready (rs := [7, 9]) (by kernel_rfl) (by simp) ?_
            refine AllReady.cons rfl (fun K hK => ?_) ?_
            · have e2 := (HF2.out.below hb2 hB) k kl2
              rw [hY, Nat.zero_add] at e2
              go_simp
              refine hK _ _ ?_
              clear hK K e2
              refine wpAny_ready (rs := [8, 9]) (by kernel_rfl) (by simp) ?_
              refine AllReady.cons rfl (fun K hK => ?_) ?_
              · go_simp
                refine (accProd_any X Y wx fx wy fy _).mono ?_
                rintro e U1 ⟨rfl, b9⟩
                replace hB := hB.trans (b9.mono hB.size)
                replace A8 := A8.below b9
                replace A11 := A11.below b9
                replace A6 := A6.below b9
                refine hK _ _ ?_
                clear hK K b9
                refine wpAny_ready (rs := [9]) (by kernel_rfl) (by simp) ?_
                refine AllReady.cons rfl (fun K hK => ?_) ?_
                · go_simp
                  refine hK _ _ ?_
                  clear hK K
                  have g8' := A8.lt
                  have g11' := A11.lt
                  have g6' := A6.lt
                  have hN := AccAt.new U1 (dig 0)
                  replace hB := hB.alloc hB.size (.cells (accC (dig 0)) 34)
                  replace A8 := A8.old (.cells (accC (dig 0)) 34)
                  replace A11 := A11.old (.cells (accC (dig 0)) 34)
                  replace A6 := A6.old (.cells (accC (dig 0)) 34)
                  generalize U1.alloc (.cells (accC (dig 0)) 34) = U2 at *
                  generalize U1.heap.size = B10 at *
                  refine wpAny_ready (rs := [10]) (by kernel_rfl) (by simp) ?_
                  refine AllReady.cons rfl (fun K hK => ?_) ?_
                  · have hst := run_storeCells_acc hN (dig (vz X * vz Y))
                    have hsz := accC_size (dig (vz X * vz Y))
                    go_simp
                    refine hK _ _ ?_
                    clear hK K hst hsz
                    replace hB := below_row hB (Nat.le_trans h6 (Nat.le_of_lt g6')) (accC (dig (vz X * vz Y)))
                    replace A8 := A8.setRow_ne (Nat.ne_of_lt g8') (accC (dig (vz X * vz Y)))
                    replace A11 := A11.setRow_ne (Nat.ne_of_lt g11') (accC (dig (vz X * vz Y)))
                    replace A6 := A6.setRow_ne (Nat.ne_of_lt g6') (accC (dig (vz X * vz Y)))
                    replace hN := hN.setRow (g := dig (vz X * vz Y))
                    refine wpAny_done (by kernel_rfl) ?_ _
                    go_wp2_with fail
                    go_meet
                    exact ⟨B10, rfl, g8', g11', g6', hN, A8, A11, A6, hB⟩
                  exact AllReady.nil
                exact AllReady.nil
              refine AllReady.cons rfl (fun K hK => ?_) ?_
              · go_simp
                refine hK _ _ ?_
                clear hK K
                have g8' := A8.lt
                have g11' := A11.lt
                have g6' := A6.lt
                have hN := AccAt.new V0 (dig 0)
                replace hB := hB.alloc hB.size (.cells (accC (dig 0)) 34)
                replace A8 := A8.old (.cells (accC (dig 0)) 34)
                replace A11 := A11.old (.cells (accC (dig 0)) 34)
                replace A6 := A6.old (.cells (accC (dig 0)) 34)
                generalize V0.alloc (.cells (accC (dig 0)) 34) = U3 at *
                generalize V0.heap.size = B10 at *
                refine wpAny_ready (rs := [8]) (by kernel_rfl) (by simp) ?_
                refine AllReady.cons rfl (fun K hK => ?_) ?_
                · go_simp
                  refine (accProd_any X Y wx fx wy fy _).mono ?_
                  rintro e U4 ⟨rfl, b9⟩
                  replace hB := hB.trans (b9.mono hB.size)
                  replace A8 := A8.below b9
                  replace A11 := A11.below b9
                  replace A6 := A6.below b9
                  replace hN := hN.below b9
                  refine hK _ _ ?_
                  clear hK K b9
                  refine wpAny_ready (rs := [10]) (by kernel_rfl) (by simp) ?_
                  refine AllReady.cons rfl (fun K hK => ?_) ?_
                  · have hst := run_storeCells_acc hN (dig (vz X * vz Y))
                    have hsz := accC_size (dig (vz X * vz Y))
                    go_simp
                    refine hK _ _ ?_
                    clear hK K hst hsz
                    replace hB := below_row hB (Nat.le_trans h6 (Nat.le_of_lt g6')) (accC (dig (vz X * vz Y)))
                    replace A8 := A8.setRow_ne (Nat.ne_of_lt g8') (accC (dig (vz X * vz Y)))
                    replace A11 := A11.setRow_ne (Nat.ne_of_lt g11') (accC (dig (vz X * vz Y)))
                    replace A6 := A6.setRow_ne (Nat.ne_of_lt g6') (accC (dig (vz X * vz Y)))
                    replace hN := hN.setRow (g := dig (vz X * vz Y))
                    refine wpAny_done (by kernel_rfl) ?_ _
                    go_wp2_with fail
                    go_meet
                    exact ⟨B10, rfl, g8', g11', g6', hN, A8, A11, A6, hB⟩
                  exact AllReady.nil
                exact AllReady.nil
              exact AllReady.nil
            refine AllReady.cons rfl (fun K hK => ?_) ?_
            · go_simp
              refine hK _ _ ?_
              clear hK K
              have g8' := A8.lt
              have g11' := A11.lt
              have g6' := A6.lt
              have hN := AccAt.new V0 (dig 0)
              replace hB := hB.alloc hB.size (.cells (accC (dig 0)) 34)
              replace A8 := A8.old (.cells (accC (dig 0)) 34)
              replace A11 := A11.old (.cells (accC (dig 0)) 34)
              replace A6 := A6.old (.cells (accC (dig 0)) 34)
              generalize V0.alloc (.cells (accC (dig 0)) 34) = U5 at *
              generalize V0.heap.size = B10 at *
              refine wpAny_ready (rs := [7]) (by kernel_rfl) (by simp) ?_
              refine AllReady.cons rfl (fun K hK => ?_) ?_
              · have e2 := (HF2.out.below hb2 hB) k kl2
                rw [hY, Nat.zero_add] at e2
                go_simp
                refine hK _ _ ?_
                clear hK K e2
                refine wpAny_ready (rs := [8]) (by kernel_rfl) (by simp) ?_
                refine AllReady.cons rfl (fun K hK => ?_) ?_
                · go_simp
                  refine (accProd_any X Y wx fx wy fy _).mono ?_
                  rintro e U6 ⟨rfl, b9⟩
                  replace hB := hB.trans (b9.mono hB.size)
                  replace A8 := A8.below b9
                  replace A11 := A11.below b9
                  replace A6 := A6.below b9
                  replace hN := hN.below b9
                  refine hK _ _ ?_
                  clear hK K b9
                  refine wpAny_ready (rs := [10]) (by kernel_rfl) (by simp) ?_
                  refine AllReady.cons rfl (fun K hK => ?_) ?_
                  · have hst := run_storeCells_acc hN (dig (vz X * vz Y))
                    have hsz := accC_size (dig (vz X * vz Y))
                    go_simp
                    refine hK _ _ ?_
                    clear hK K hst hsz
                    replace hB := below_row hB (Nat.le_trans h6 (Nat.le_of_lt g6')) (accC (dig (vz X * vz Y)))
                    replace A8 := A8.setRow_ne (Nat.ne_of_lt g8') (accC (dig (vz X * vz Y)))
                    replace A11 := A11.setRow_ne (Nat.ne_of_lt g11') (accC (dig (vz X * vz Y)))
                    replace A6 := A6.setRow_ne (Nat.ne_of_lt g6') (accC (dig (vz X * vz Y)))
                    replace hN := hN.setRow (g := dig (vz X * vz Y))
                    refine wpAny_done (by kernel_rfl) ?_ _
                    go_wp2_with fail
                    go_meet
                    exact ⟨B10, rfl, g8', g11', g6', hN, A8, A11, A6, hB⟩
                  exact AllReady.nil
                exact AllReady.nil
              exact AllReady.nil
            exact AllReady.nil
          refine AllReady.cons rfl (fun K hK => ?_) ?_
          · have e2 := (HF2.out.below hb2 hB) k kl2
            rw [hY, Nat.zero_add] at e2
            go_simp
            refine hK _ _ ?_
            clear hK K e2
            refine wpAny_ready (rs := [3, 9]) (by kernel_rfl) (by simp) ?_
            refine AllReady.cons rfl (fun K hK => ?_) ?_
            · have e1 := (HF1.out.below hb1 hB) k kl1
              rw [hX, Nat.zero_add] at e1
              go_simp
              refine hK _ _ ?_
              clear hK K e1
              refine wpAny_ready (rs := [8, 9]) (by kernel_rfl) (by simp) ?_
              refine AllReady.cons rfl (fun K hK => ?_) ?_
              · go_simp
                refine (accProd_any X Y wx fx wy fy _).mono ?_
                rintro e U7 ⟨rfl, b9⟩
                replace hB := hB.trans (b9.mono hB.size)
                replace A8 := A8.below b9
                replace A11 := A11.below b9
                replace A6 := A6.below b9
                refine hK _ _ ?_
                clear hK K b9
                refine wpAny_ready (rs := [9]) (by kernel_rfl) (by simp) ?_
                refine AllReady.cons rfl (fun K hK => ?_) ?_
                · go_simp
                  refine hK _ _ ?_
                  clear hK K
                  have g8' := A8.lt
                  have g11' := A11.lt
                  have g6' := A6.lt
                  have hN := AccAt.new U7 (dig 0)
                  replace hB := hB.alloc hB.size (.cells (accC (dig 0)) 34)
                  replace A8 := A8.old (.cells (accC (dig 0)) 34)
                  replace A11 := A11.old (.cells (accC (dig 0)) 34)
                  replace A6 := A6.old (.cells (accC (dig 0)) 34)
                  generalize U7.alloc (.cells (accC (dig 0)) 34) = U8 at *
                  generalize U7.heap.size = B10 at *
                  refine wpAny_ready (rs := [10]) (by kernel_rfl) (by simp) ?_
                  refine AllReady.cons rfl (fun K hK => ?_) ?_
                  · have hst := run_storeCells_acc hN (dig (vz X * vz Y))
                    have hsz := accC_size (dig (vz X * vz Y))
                    go_simp
                    refine hK _ _ ?_
                    clear hK K hst hsz
                    replace hB := below_row hB (Nat.le_trans h6 (Nat.le_of_lt g6')) (accC (dig (vz X * vz Y)))
                    replace A8 := A8.setRow_ne (Nat.ne_of_lt g8') (accC (dig (vz X * vz Y)))
                    replace A11 := A11.setRow_ne (Nat.ne_of_lt g11') (accC (dig (vz X * vz Y)))
                    replace A6 := A6.setRow_ne (Nat.ne_of_lt g6') (accC (dig (vz X * vz Y)))
                    replace hN := hN.setRow (g := dig (vz X * vz Y))
                    refine wpAny_done (by kernel_rfl) ?_ _
                    go_wp2_with fail
                    go_meet
                    exact ⟨B10, rfl, g8', g11', g6', hN, A8, A11, A6, hB⟩
                  exact AllReady.nil
                exact AllReady.nil
              refine AllReady.cons rfl (fun K hK => ?_) ?_
              · go_simp
                refine hK _ _ ?_
                clear hK K
                have g8' := A8.lt
                have g11' := A11.lt
                have g6' := A6.lt
                have hN := AccAt.new V0 (dig 0)
                replace hB := hB.alloc hB.size (.cells (accC (dig 0)) 34)
                replace A8 := A8.old (.cells (accC (dig 0)) 34)
                replace A11 := A11.old (.cells (accC (dig 0)) 34)
                replace A6 := A6.old (.cells (accC (dig 0)) 34)
                generalize V0.alloc (.cells (accC (dig 0)) 34) = U9 at *
                generalize V0.heap.size = B10 at *
                refine wpAny_ready (rs := [8]) (by kernel_rfl) (by simp) ?_
                refine AllReady.cons rfl (fun K hK => ?_) ?_
                · go_simp
                  refine (accProd_any X Y wx fx wy fy _).mono ?_
                  rintro e U10 ⟨rfl, b9⟩
                  replace hB := hB.trans (b9.mono hB.size)
                  replace A8 := A8.below b9
                  replace A11 := A11.below b9
                  replace A6 := A6.below b9
                  replace hN := hN.below b9
                  refine hK _ _ ?_
                  clear hK K b9
                  refine wpAny_ready (rs := [10]) (by kernel_rfl) (by simp) ?_
                  refine AllReady.cons rfl (fun K hK => ?_) ?_
                  · have hst := run_storeCells_acc hN (dig (vz X * vz Y))
                    have hsz := accC_size (dig (vz X * vz Y))
                    go_simp
                    refine hK _ _ ?_
                    clear hK K hst hsz
                    replace hB := below_row hB (Nat.le_trans h6 (Nat.le_of_lt g6')) (accC (dig (vz X * vz Y)))
                    replace A8 := A8.setRow_ne (Nat.ne_of_lt g8') (accC (dig (vz X * vz Y)))
                    replace A11 := A11.setRow_ne (Nat.ne_of_lt g11') (accC (dig (vz X * vz Y)))
                    replace A6 := A6.setRow_ne (Nat.ne_of_lt g6') (accC (dig (vz X * vz Y)))
                    replace hN := hN.setRow (g := dig (vz X * vz Y))
                    refine wpAny_done (by kernel_rfl) ?_ _
                    go_wp2_with fail
                    go_meet
                    exact ⟨B10, rfl, g8', g11', g6', hN, A8, A11, A6, hB⟩
                  exact AllReady.nil
                exact AllReady.nil
              exact AllReady.nil
            refine AllReady.cons rfl (fun K hK => ?_) ?_
            · go_simp
              refine hK _ _ ?_
              clear hK K
              have g8' := A8.lt
              have g11' := A11.lt
              have g6' := A6.lt
              have hN := AccAt.new V0 (dig 0)
              replace hB := hB.alloc hB.size (.cells (accC (dig 0)) 34)
              replace A8 := A8.old (.cells (accC (dig 0)) 34)
              replace A11 := A11.old (.cells (accC (dig 0)) 34)
              replace A6 := A6.old (.cells (accC (dig 0)) 34)
              generalize V0.alloc (.cells (accC (dig 0)) 34) = U11 at *
              generalize V0.heap.size = B10 at *
              refine wpAny_ready (rs := [3]) (by kernel_rfl) (by simp) ?_
              refine AllReady.cons rfl (fun K hK => ?_) ?_
              · have e1 := (HF1.out.below hb1 hB) k kl1
                rw [hX, Nat.zero_add] at e1
                go_simp
                refine hK _ _ ?_
                clear hK K e1
                refine wpAny_ready (rs := [8]) (by kernel_rfl) (by simp) ?_
                refine AllReady.cons rfl (fun K hK => ?_) ?_
                · go_simp
                  refine (accProd_any X Y wx fx wy fy _).mono ?_
                  rintro e U12 ⟨rfl, b9⟩
                  replace hB := hB.trans (b9.mono hB.size)
                  replace A8 := A8.below b9
                  replace A11 := A11.below b9
                  replace A6 := A6.below b9
                  replace hN := hN.below b9
                  refine hK _ _ ?_
                  clear hK K b9
                  refine wpAny_ready (rs := [10]) (by kernel_rfl) (by simp) ?_
                  refine AllReady.cons rfl (fun K hK => ?_) ?_
                  · have hst := run_storeCells_acc hN (dig (vz X * vz Y))
                    have hsz := accC_size (dig (vz X * vz Y))
                    go_simp
                    refine hK _ _ ?_
                    clear hK K hst hsz
                    replace hB := below_row hB (Nat.le_trans h6 (Nat.le_of_lt g6')) (accC (dig (vz X * vz Y)))
                    replace A8 := A8.setRow_ne (Nat.ne_of_lt g8') (accC (dig (vz X * vz Y)))
                    replace A11 := A11.setRow_ne (Nat.ne_of_lt g11') (accC (dig (vz X * vz Y)))
                    replace A6 := A6.setRow_ne (Nat.ne_of_lt g6') (accC (dig (vz X * vz Y)))
                    replace hN := hN.setRow (g := dig (vz X * vz Y))
                    refine wpAny_done (by kernel_rfl) ?_ _
                    go_wp2_with fail
                    go_meet
                    exact ⟨B10, rfl, g8', g11', g6', hN, A8, A11, A6, hB⟩
                  exact AllReady.nil
                exact AllReady.nil
              exact AllReady.nil
            exact AllReady.nil
          refine AllReady.cons rfl (fun K hK => ?_) ?_
          · go_simp
            refine hK _ _ ?_
            clear hK K
            have g8' := A8.lt
            have g11' := A11.lt
            have g6' := A6.lt
            have hN := AccAt.new V0 (dig 0)
            replace hB := hB.alloc hB.size (.cells (accC (dig 0)) 34)
            replace A8 := A8.old (.cells (accC (dig 0)) 34)
            replace A11 := A11.old (.cells (accC (dig 0)) 34)
            replace A6 := A6.old (.cells (accC (dig 0)) 34)
            generalize V0.alloc (.cells (accC (dig 0)) 34) = U13 at *
            generalize V0.heap.size = B10 at *
            refine wpAny_ready (rs := [3, 7]) (by kernel_rfl) (by simp) ?_
            refine AllReady.cons rfl (fun K hK => ?_) ?_
            · have e1 := (HF1.out.below hb1 hB) k kl1
              rw [hX, Nat.zero_add] at e1
              go_simp
              refine hK _ _ ?_
              clear hK K e1
              refine wpAny_ready (rs := [7]) (by kernel_rfl) (by simp) ?_
              refine AllReady.cons rfl (fun K hK => ?_) ?_
              · have e2 := (HF2.out.below hb2 hB) k kl2
                rw [hY, Nat.zero_add] at e2
                go_simp
                refine hK _ _ ?_
                clear hK K e2
                refine wpAny_ready (rs := [8]) (by kernel_rfl) (by simp) ?_
                refine AllReady.cons rfl (fun K hK => ?_) ?_
                · go_simp
                  refine (accProd_any X Y wx fx wy fy _).mono ?_
                  rintro e U14 ⟨rfl, b9⟩
                  replace hB := hB.trans (b9.mono hB.size)
                  replace A8 := A8.below b9
                  replace A11 := A11.below b9
                  replace A6 := A6.below b9
                  replace hN := hN.below b9
                  refine hK _ _ ?_
                  clear hK K b9
                  refine wpAny_ready (rs := [10]) (by kernel_rfl) (by simp) ?_
                  refine AllReady.cons rfl (fun K hK => ?_) ?_
                  · have hst := run_storeCells_acc hN (dig (vz X * vz Y))
                    have hsz := accC_size (dig (vz X * vz Y))
                    go_simp
                    refine hK _ _ ?_
                    clear hK K hst hsz
                    replace hB := below_row hB (Nat.le_trans h6 (Nat.le_of_lt g6')) (accC (dig (vz X * vz Y)))
                    replace A8 := A8.setRow_ne (Nat.ne_of_lt g8') (accC (dig (vz X * vz Y)))
                    replace A11 := A11.setRow_ne (Nat.ne_of_lt g11') (accC (dig (vz X * vz Y)))
                    replace A6 := A6.setRow_ne (Nat.ne_of_lt g6') (accC (dig (vz X * vz Y)))
                    replace hN := hN.setRow (g := dig (vz X * vz Y))
                    refine wpAny_done (by kernel_rfl) ?_ _
                    go_wp2_with fail
                    go_meet
                    exact ⟨B10, rfl, g8', g11', g6', hN, A8, A11, A6, hB⟩
                  exact AllReady.nil
                exact AllReady.nil
              exact AllReady.nil
            refine AllReady.cons rfl (fun K hK => ?_) ?_
            · have e2 := (HF2.out.below hb2 hB) k kl2
              rw [hY, Nat.zero_add] at e2
              go_simp
              refine hK _ _ ?_
              clear hK K e2
              refine wpAny_ready (rs := [3]) (by kernel_rfl) (by simp) ?_
              refine AllReady.cons rfl (fun K hK => ?_) ?_
              · have e1 := (HF1.out.below hb1 hB) k kl1
                rw [hX, Nat.zero_add] at e1
                go_simp
                refine hK _ _ ?_
                clear hK K e1
                refine wpAny_ready (rs := [8]) (by kernel_rfl) (by simp) ?_
                refine AllReady.cons rfl (fun K hK => ?_) ?_
                · go_simp
                  refine (accProd_any X Y wx fx wy fy _).mono ?_
                  rintro e U15 ⟨rfl, b9⟩
                  replace hB := hB.trans (b9.mono hB.size)
                  replace A8 := A8.below b9
                  replace A11 := A11.below b9
                  replace A6 := A6.below b9
                  replace hN := hN.below b9
                  refine hK _ _ ?_
                  clear hK K b9
                  refine wpAny_ready (rs := [10]) (by kernel_rfl) (by simp) ?_
                  refine AllReady.cons rfl (fun K hK => ?_) ?_
                  · have hst := run_storeCells_acc hN (dig (vz X * vz Y))
                    have hsz := accC_size (dig (vz X * vz Y))
                    go_simp
                    refine hK _ _ ?_
                    clear hK K hst hsz
                    replace hB := below_row hB (Nat.le_trans h6 (Nat.le_of_lt g6')) (accC (dig (vz X * vz Y)))
                    replace A8 := A8.setRow_ne (Nat.ne_of_lt g8') (accC (dig (vz X * vz Y)))
                    replace A11 := A11.setRow_ne (Nat.ne_of_lt g11') (accC (dig (vz X * vz Y)))
                    replace A6 := A6.setRow_ne (Nat.ne_of_lt g6') (accC (dig (vz X * vz Y)))
                    replace hN := hN.setRow (g := dig (vz X * vz Y))
                    refine wpAny_done (by kernel_rfl) ?_ _
                    go_wp2_with fail
                    go_meet
                    exact ⟨B10, rfl, g8', g11', g6', hN, A8, A11, A6, hB⟩
                  exact AllReady.nil
                exact AllReady.nil
              exact AllReady.nil
            exact AllReady.nil
          exact AllReady.nil
        case rest =>
          obtain ⟨B10, rfl, g8', g11', g6', A10, A8, A11, A6, hB⟩ := hcut
          go_wp2_with (first
            | (go_at_call 21; refine (abs_any B10 _ hSz _ A10).mono ?_; rintro e w10 ⟨rfl, A10', o10⟩; have A8' := o10.acc (Nat.ne_of_lt g8') A8; have A11' := o10.acc (Nat.ne_of_lt g11') A11; have A6' := o10.acc (Nat.ne_of_lt g6') A6)
            | (go_at_call 23; refine (accAdd_any B8 B10 _ _ _ (Nat.ne_of_gt g8') A8' A10').mono ?_; rintro e w11 ⟨rfl, A8'', o11⟩))
          go_roundw
          case rel => exact ⟨k + 1, by omega, by go_num, by rw [hx1.out]; exact A8'', o11.acc (Nat.ne_of_lt g8) A11', o11.acc (by omega) A6', (hB.trans (o10.below (Nat.le_trans h6 (Nat.le_of_lt g6')))).trans (o11.below (by omega))⟩
          case measure => simp [intOf]; omega
      · have hx : ¬ (k : Int) < (n : Int) := by omega
        have hkn : k = n := by omega
        subst hkn
        have kk0 : 0 ≤ (k : Int) * (k : Int) := Int.mul_nonneg (by omega) (by omega)
        have kk1 : (k : Int) * (k : Int) ≤ 1048576 := by have h2 := Int.ofNat_le.2 (Nat.mul_le_mul hn hn); rw [Int.natCast_mul] at h2; exact h2
        clear n8 hN7 hE7 hB7
        have hs8 : w1.heap.size ≤ B8 := by omega
        have n68 : B6 ≠ B8 := by omega
        have n11 : B11 ≠ B8 := by omega
        clear hx
        have hx : ((k : Int) < (k : Int)) = False := by simp
        go_wp2_with (first
          | (go_at_call 24; refine (mulSmall_any B8 _ ((k : Int) * (k : Int)) kk0 (by omega) _ A8).mono ?_; rintro e w11 ⟨rfl, A8', o8⟩; have A11' := o8.acc n11 A11; have A6' := o8.acc n68 A6)
          | (go_at_call 23; refine (accAdd_any B6 B8 _ _ _ (Ne.symm n68) A6' A8').mono ?_; rintro e w12 ⟨rfl, A6'', o6⟩; have A11'' := o6.acc (Ne.symm ne1) A11')
          | (go_at_call 25; refine (cmp_any B11 B6 _ _ hS2 hS4 _ A11'' A6'').mono ?_; rintro e w13 ⟨rfl, n13, rfl⟩))
        go_ret
        refine ⟨by simp [hcm.out], below_drewN ?_ _⟩
        exact hB0.trans (((hB.trans (o8.below hs8)).trans (o6.below h6)).mono hB0.size)
end Go.Proofs.Ygctad
