import Derived.Test.YgctadW22
import Derived.Test.YgctadNr
import Derived.Deep.CutBlock
namespace Go.Proofs.Ygctad
open Go.RowKit Go.Acc Rn
set_option linter.unusedSimpArgs false
set_option linter.unusedVariables false
attribute [local go_sem] Go.Fl.run_add Go.Fl.run_sub Go.Fl.run_mul

theorem step_load_acc {ops : Array Oper} {o : Oper} {a : Act} {w : World} {K : Act → World → Prop} {Q : Exit → Act → World → Prop} {E : Prop} (hg : o.guard = none) (x : Operand) (ho : o.op = .load 34 x)
    (g : Nat) (hx : a.eval x = .pointer (some ⟨g, 0, none⟩)) (f : Nat → Int) (hA : AccAt w g f) (h : K (a.put o.dst (.agg (accC f))) w) : if Region.wanted o (yielded ops a.tmps) = true then Oper.wp Tadg.prog o a w K Q else E := by
  have hw : Region.wanted o (yielded ops a.tmps) = true := by simp [Region.wanted, hg]
  rw [if_pos hw]
  exact wp_load_row 34 x ho g hx 34 (accC f) (0, 0) _ hA Tadg.underlying34 rfl (Tadg.size34 _) h
theorem step_store_acc {ops : Array Oper} {o : Oper} {a : Act} {w : World} {K : Act → World → Prop} {Q : Exit → Act → World → Prop} {E : Prop} (hg : o.guard = none) (x y : Operand) (ho : o.op = .store 34 x y)
    (g : Nat) (f : Nat → Int) (hx : a.eval x = .pointer (some ⟨g, 0, none⟩)) (hy : a.eval y = .agg (accC f)) (f0 : Nat → Int) (hA : AccAt w g f0) (h : K (a.put o.dst undef) (w.setRow g (accC f))) :
    if Region.wanted o (yielded ops a.tmps) = true then Oper.wp Tadg.prog o a w K Q else E := by
  have hw : Region.wanted o (yielded ops a.tmps) = true := by simp [Region.wanted, hg]
  rw [if_pos hw]
  exact wp_store_row 34 x y ho g (accC f) hx hy 34 (accC f0) hA (Tadg.size34 _) (by rw [accC_size, accC_size]) (accC_one _) h
theorem step_alloc_acc {ops : Array Oper} {o : Oper} {a : Act} {w : World} {K : Act → World → Prop} {Q : Exit → Act → World → Prop} {E : Prop} (hg : o.guard = none) (ho : o.op = .alloc 34)
    (h : K (a.put o.dst (.pointer (some ⟨w.heap.size, 0, none⟩))) (w.alloc (.cells (accC (dig 0)) 34))) :
    if Region.wanted o (yielded ops a.tmps) = true then Oper.wp Tadg.prog o a w K Q else E := by
  have hw : Region.wanted o (yielded ops a.tmps) = true := by simp [Region.wanted, hg]
  rw [if_pos hw]
  have hz := Tadg.zero34
  unfold Oper.wp
  simp [execOp, ho, hz, go_sem]
  exact h

theorem run_storeCells_acc {W : World} {B : Nat} {f0 : Nat → Int} (h : AccAt W B f0) (f : Nat → Int) :
    (storeCells ⟨B, 0, none⟩ (accC f).toList).run Tadg.prog W = .ok () (W.setRow B (accC f)) := by
  have := run_storeCells_from (P := Tadg.prog) B 34 (accC f).toList 0 (accC f0) W h (by simp [accC_size]) (fun v hv => (Array.all_eq_true_iff_forall_mem.1 (accC_one f)) v (by simpa using hv))
  simpa using this

set_option maxRecDepth 100000 in
set_option maxHeartbeats 4000000 in
theorem opNear_main (op a b : Int) (hop0 : 0 ≤ op) (hop : op < 256) (hb0 : Word b) (ha : a.toNat < 18446744073709551616) (hb : b.toNat < 18446744073709551616) (c1 : atMostB a.toNat 500 = true) (c2 : atMostB b.toNat 500 = true) (w : World) :
    Calls Tadg.prog 7 #[.int .u8 op, .int .u64 a, .int .u64 b] w fun e w' => e = .returned (.bool true) ∧ Below w.heap.size w w' := by
  obtain ⟨fx, bx⟩ := atMost_bd (k := 1574) (by decide) c1
  obtain ⟨fy, bY⟩ := atMost_bd (k := 1574) (by decide) c2
  have hz := Tadg.zero34
  have n0 := AccAt.new w (dig 0)
  go_enter Tadg.func7, Tadg.ntmps7
  go_upto_block 0 with (first
    | (go_at_call 27; refine (f64_any _ _).mono ?_; rintro e w' ⟨rfl, hq⟩; obtain rfl := hq.symm)
    | (go_at_call_of 33 (Value.float FloatKind.f64 a.toNat); refine (atMost_any _ ha 500 (by omega) (by omega) _).mono ?_; rintro e w' ⟨rfl, hq⟩; obtain rfl := hq.symm)
    | (go_at_call_of 33 (Value.float FloatKind.f64 b.toNat); refine (atMost_any _ hb 500 (by omega) (by omega) _).mono ?_; rintro e w' ⟨rfl, hq⟩; obtain rfl := hq.symm))
  go_cut [9] (fun r wx => ∃ R E, r = .float .f64 R ∧ Near R E ∧ AccAt wx w.heap.size (dig E) ∧ Below w.heap.size w wx)
  case first =>
    have h3 : op % 3 = 0 ∨ op % 3 = 1 ∨ op % 3 = 2 := by omega
    rcases h3 with h3 | h3 | h3
    · have hb1 : (op % 3 == 0) = true := by rw [h3]; rfl
      clear h3
      go_wp2_with (first
        | (go_at_call 35; refine (accSum_any _ _ ha fx hb fy _).mono ?_; rintro e w1 ⟨rfl, hb1⟩; have m0 := (n0.drewN (Fl.drs .add a.toNat b.toNat)).below hb1)
        | (refine wpList_store_row rfl 34 _ _ rfl w.heap.size _ rfl rfl 34 _ m0 (Tadg.size34 _) (by rw [accC_size, accC_size]) (accC_one _) ?_))
      go_meet
      exact ⟨_, _, rfl, near_add fx fy bx bY (Fl.val_res ..), m0.setRow, below_row (((below_drewN ((Below.refl w.heap.size w).alloc (Nat.le_refl _) _) _).trans (hb1.mono (by simp)))) (Nat.le_refl _) _⟩
    · have hb0' : (op % 3 == 0) = false := by rw [h3]; rfl
      have hb1 : (op % 3 == 1) = true := by rw [h3]; rfl
      clear h3
      have hx := xor_top hb0
      obtain ⟨tv, tf⟩ := turn_sign hb
      have e1 : ((b + 9223372036854775808) % 18446744073709551616).toNat = (b.toNat + 9223372036854775808) % 18446744073709551616 := by have := hb0.1; have := hb0.2; omega
      rw [← e1] at tv tf
      obtain ⟨y, hy⟩ : ∃ y, y = (b + 9223372036854775808) % 18446744073709551616 := ⟨_, rfl⟩
      rw [← hy] at hx tv tf
      have yl : y.toNat < 18446744073709551616 := by omega
      have TV : Hid (vz y.toNat = -vz b.toNat) := tv
      have yf : Rn.fin y.toNat = true := by rw [tf]; exact fy
      clear hy e1 tv tf
      go_wp2_with (first
        | (go_at_call 27; refine (f64_any _ _).mono ?_; rintro e w' ⟨rfl, hq⟩; obtain rfl := hq.symm)
        | (go_at_call 35; refine (accSum_any _ _ ha fx yl yf _).mono ?_; rintro e w1 ⟨rfl, hb1⟩; have m0 := (n0.drewN (Fl.drs .sub a.toNat b.toNat)).below hb1)
        | (refine wpList_store_row rfl 34 _ _ rfl w.heap.size _ rfl rfl 34 _ m0 (Tadg.size34 _) (by rw [accC_size, accC_size]) (accC_one _) ?_))
      go_meet
      refine ⟨_, _, rfl, ?_, m0.setRow, below_row (((below_drewN ((Below.refl w.heap.size w).alloc (Nat.le_refl _) _) _).trans (hb1.mono (by simp)))) (Nat.le_refl _) _⟩
      rw [TV.out]
      exact near_sub fx fy bx bY (Fl.val_res ..)
    · have hb0' : (op % 3 == 0) = false := by rw [h3]; rfl
      have hb1' : (op % 3 == 1) = false := by rw [h3]; rfl
      have hb1 : (op % 3 == 2) = true := by rw [h3]; rfl
      clear h3
      go_wp2_with (first
        | (go_at_call 22; refine (accProd_any _ _ ha fx hb fy _).mono ?_; rintro e w1 ⟨rfl, hb1⟩; have m0 := (n0.drewN (Fl.drs .mul a.toNat b.toNat)).below hb1)
        | (refine wpList_store_row rfl 34 _ _ rfl w.heap.size _ rfl rfl 34 _ m0 (Tadg.size34 _) (by rw [accC_size, accC_size]) (accC_one _) ?_))
      go_meet
      exact ⟨_, _, rfl, near_mul fx fy bx bY (Fl.val_res ..), m0.setRow, below_row (((below_drewN ((Below.refl w.heap.size w).alloc (Nat.le_refl _) _) _).trans (hb1.mono (by simp)))) (Nat.le_refl _) _⟩
  case rest =>
    obtain ⟨R, E, rfl, hN, hE, hB⟩ := hcut
    obtain ⟨hS1, hS2, hS3, hS4, hle⟩ := near_cmp hN
    have hR1 := hN.1
    have hR2 := hN.2.1
    have HLe : Hid (((vz R * P 1074 - E).natAbs : Int) * P 53 ≤ (E.natAbs : Int) + 4503599627370496 * P 1074) := hle
    clear hle hN n0
    go_upto_region 15 with (go_at_call 16; refine (finite_any _ hR2 _).mono ?_; rintro e w' ⟨rfl, hq⟩; obtain rfl := hq.symm)
    go_cut [11] (fun t wx => ∃ B11, t = .pointer (some ⟨B11, 0, none⟩) ∧ w.heap.size < B11 ∧ AccAt wx B11 (dig (vz R * P 1074 - E).natAbs) ∧ AccAt wx w.heap.size (dig E) ∧ Below w.heap.size w wx)
    case first =>
      refine wp_region_any (by kernel_rfl) ?_
      change wpAny _ _ _ _ _ _ _ (World.drew _)
      replace hE : AccAt wc.drew w.heap.size (dig E) := hE
      replace hB : Below w.heap.size w wc.drew := hB.drew
      generalize wc.drew = V0 at *
      refine wpAny_take (i := 0) (v := ?_) rfl (by kernel_rfl) (by kernel_rfl) (by kernel_rfl) (fun _ _ _ h => h) (Or.inl ⟨by rfl, by intro w; go_simp; try (with_reducible rfl)⟩) ?_
      refine wpAny_ready (rs := [1, 2, 4]) (by kernel_rfl) (by simp) ?_
      refine AllReady.cons rfl (fun K hK => ?_) ?_
      · go_simp
        refine (accOf_any R hR2 hR1 _).mono ?_
        rintro e w3 ⟨rfl, b3⟩
        replace hB := hB.trans (b3.mono (Nat.le_of_lt hE.lt))
        replace hE := hE.below b3
        refine hK _ _ ?_
        clear hK K b3
        refine wpAny_ready (rs := [2, 4]) (by kernel_rfl) (by simp) ?_
        refine AllReady.cons rfl (fun K hK => ?_) ?_
        · refine step_load_acc rfl _ rfl w.heap.size rfl _ hE ?_
          refine hK _ _ ?_
          clear hK K
          refine wpAny_ready (rs := [3, 4]) (by kernel_rfl) (by simp) ?_
          refine AllReady.cons rfl (fun K hK => ?_) ?_
          · go_simp
            refine (gap_any _ _ hS1 _).mono ?_
            rintro e w4 ⟨rfl, b4⟩
            replace hB := hB.trans (b4.mono (Nat.le_of_lt hE.lt))
            replace hE := hE.below b4
            refine hK _ _ ?_
            clear hK K b4
            refine wpAny_ready (rs := [4]) (by kernel_rfl) (by simp) ?_
            refine AllReady.cons rfl (fun K hK => ?_) ?_
            · go_simp
              refine hK _ _ ?_
              clear hK K
              have hge := hE.lt
              have hN := AccAt.new w4 (dig 0)
              replace hB := hB.alloc (Nat.le_of_lt hge) (.cells (accC (dig 0)) 34)
              replace hE := hE.old (.cells (accC (dig 0)) 34)
              generalize w4.alloc (.cells (accC (dig 0)) 34) = W4 at *
              generalize w4.heap.size = B11 at *
              refine wpAny_ready (rs := [5]) (by kernel_rfl) (by simp) ?_
              refine AllReady.cons rfl (fun K hK => ?_) ?_
              · have hst := run_storeCells_acc hN (dig ((vz R * P 1074 - E).natAbs))
                have hsz := accC_size (dig ((vz R * P 1074 - E).natAbs))
                go_simp
                refine hK _ _ ?_
                clear hK K hst hsz
                replace hB := below_row hB (Nat.le_of_lt hge) (accC (dig (vz R * P 1074 - E).natAbs))
                replace hE := hE.setRow_ne (Nat.ne_of_lt hge) (accC (dig (vz R * P 1074 - E).natAbs))
                replace hN := hN.setRow (g := dig (vz R * P 1074 - E).natAbs)
                refine wpAny_done (by kernel_rfl) ?_ _
                go_wp2_with fail
                go_meet
                exact ⟨B11, rfl, hge, hN, hE, hB⟩
              exact AllReady.nil
            exact AllReady.nil
          refine AllReady.cons rfl (fun K hK => ?_) ?_
          · go_simp
            refine hK _ _ ?_
            clear hK K
            have hge := hE.lt
            have hN := AccAt.new w3 (dig 0)
            replace hB := hB.alloc (Nat.le_of_lt hge) (.cells (accC (dig 0)) 34)
            replace hE := hE.old (.cells (accC (dig 0)) 34)
            generalize w3.alloc (.cells (accC (dig 0)) 34) = W3 at *
            generalize w3.heap.size = B11 at *
            refine wpAny_ready (rs := [3]) (by kernel_rfl) (by simp) ?_
            refine AllReady.cons rfl (fun K hK => ?_) ?_
            · go_simp
              refine (gap_any _ _ hS1 _).mono ?_
              rintro e w4 ⟨rfl, b4⟩
              replace hB := hB.trans (b4.mono (Nat.le_of_lt hE.lt))
              replace hE := hE.below b4
              replace hN := hN.below b4
              refine hK _ _ ?_
              clear hK K b4
              refine wpAny_ready (rs := [5]) (by kernel_rfl) (by simp) ?_
              refine AllReady.cons rfl (fun K hK => ?_) ?_
              · have hst := run_storeCells_acc hN (dig ((vz R * P 1074 - E).natAbs))
                have hsz := accC_size (dig ((vz R * P 1074 - E).natAbs))
                go_simp
                refine hK _ _ ?_
                clear hK K hst hsz
                replace hB := below_row hB (Nat.le_of_lt hge) (accC (dig (vz R * P 1074 - E).natAbs))
                replace hE := hE.setRow_ne (Nat.ne_of_lt hge) (accC (dig (vz R * P 1074 - E).natAbs))
                replace hN := hN.setRow (g := dig (vz R * P 1074 - E).natAbs)
                refine wpAny_done (by kernel_rfl) ?_ _
                go_wp2_with fail
                go_meet
                exact ⟨B11, rfl, hge, hN, hE, hB⟩
              exact AllReady.nil
            exact AllReady.nil
          exact AllReady.nil
        refine AllReady.cons rfl (fun K hK => ?_) ?_
        · go_simp
          refine hK _ _ ?_
          clear hK K
          have hge := hE.lt
          have hN := AccAt.new w3 (dig 0)
          replace hB := hB.alloc (Nat.le_of_lt hge) (.cells (accC (dig 0)) 34)
          replace hE := hE.old (.cells (accC (dig 0)) 34)
          generalize w3.alloc (.cells (accC (dig 0)) 34) = W2 at *
          generalize w3.heap.size = B11 at *
          refine wpAny_ready (rs := [2]) (by kernel_rfl) (by simp) ?_
          refine AllReady.cons rfl (fun K hK => ?_) ?_
          · refine step_load_acc rfl _ rfl w.heap.size rfl _ hE ?_
            refine hK _ _ ?_
            clear hK K
            refine wpAny_ready (rs := [3]) (by kernel_rfl) (by simp) ?_
            refine AllReady.cons rfl (fun K hK => ?_) ?_
            · go_simp
              refine (gap_any _ _ hS1 _).mono ?_
              rintro e w4 ⟨rfl, b4⟩
              replace hB := hB.trans (b4.mono (Nat.le_of_lt hE.lt))
              replace hE := hE.below b4
              replace hN := hN.below b4
              refine hK _ _ ?_
              clear hK K b4
              refine wpAny_ready (rs := [5]) (by kernel_rfl) (by simp) ?_
              refine AllReady.cons rfl (fun K hK => ?_) ?_
              · have hst := run_storeCells_acc hN (dig ((vz R * P 1074 - E).natAbs))
                have hsz := accC_size (dig ((vz R * P 1074 - E).natAbs))
                go_simp
                refine hK _ _ ?_
                clear hK K hst hsz
                replace hB := below_row hB (Nat.le_of_lt hge) (accC (dig (vz R * P 1074 - E).natAbs))
                replace hE := hE.setRow_ne (Nat.ne_of_lt hge) (accC (dig (vz R * P 1074 - E).natAbs))
                replace hN := hN.setRow (g := dig (vz R * P 1074 - E).natAbs)
                refine wpAny_done (by kernel_rfl) ?_ _
                go_wp2_with fail
                go_meet
                exact ⟨B11, rfl, hge, hN, hE, hB⟩
              exact AllReady.nil
            exact AllReady.nil
          exact AllReady.nil
        exact AllReady.nil
      refine AllReady.cons rfl (fun K hK => ?_) ?_
      · refine step_load_acc rfl _ rfl w.heap.size rfl _ hE ?_
        refine hK _ _ ?_
        clear hK K
        refine wpAny_ready (rs := [1, 4]) (by kernel_rfl) (by simp) ?_
        refine AllReady.cons rfl (fun K hK => ?_) ?_
        · go_simp
          refine (accOf_any R hR2 hR1 _).mono ?_
          rintro e w3 ⟨rfl, b3⟩
          replace hB := hB.trans (b3.mono (Nat.le_of_lt hE.lt))
          replace hE := hE.below b3
          refine hK _ _ ?_
          clear hK K b3
          refine wpAny_ready (rs := [3, 4]) (by kernel_rfl) (by simp) ?_
          refine AllReady.cons rfl (fun K hK => ?_) ?_
          · go_simp
            refine (gap_any _ _ hS1 _).mono ?_
            rintro e w4 ⟨rfl, b4⟩
            replace hB := hB.trans (b4.mono (Nat.le_of_lt hE.lt))
            replace hE := hE.below b4
            refine hK _ _ ?_
            clear hK K b4
            refine wpAny_ready (rs := [4]) (by kernel_rfl) (by simp) ?_
            refine AllReady.cons rfl (fun K hK => ?_) ?_
            · go_simp
              refine hK _ _ ?_
              clear hK K
              have hge := hE.lt
              have hN := AccAt.new w4 (dig 0)
              replace hB := hB.alloc (Nat.le_of_lt hge) (.cells (accC (dig 0)) 34)
              replace hE := hE.old (.cells (accC (dig 0)) 34)
              generalize w4.alloc (.cells (accC (dig 0)) 34) = W4 at *
              generalize w4.heap.size = B11 at *
              refine wpAny_ready (rs := [5]) (by kernel_rfl) (by simp) ?_
              refine AllReady.cons rfl (fun K hK => ?_) ?_
              · have hst := run_storeCells_acc hN (dig ((vz R * P 1074 - E).natAbs))
                have hsz := accC_size (dig ((vz R * P 1074 - E).natAbs))
                go_simp
                refine hK _ _ ?_
                clear hK K hst hsz
                replace hB := below_row hB (Nat.le_of_lt hge) (accC (dig (vz R * P 1074 - E).natAbs))
                replace hE := hE.setRow_ne (Nat.ne_of_lt hge) (accC (dig (vz R * P 1074 - E).natAbs))
                replace hN := hN.setRow (g := dig (vz R * P 1074 - E).natAbs)
                refine wpAny_done (by kernel_rfl) ?_ _
                go_wp2_with fail
                go_meet
                exact ⟨B11, rfl, hge, hN, hE, hB⟩
              exact AllReady.nil
            exact AllReady.nil
          refine AllReady.cons rfl (fun K hK => ?_) ?_
          · go_simp
            refine hK _ _ ?_
            clear hK K
            have hge := hE.lt
            have hN := AccAt.new w3 (dig 0)
            replace hB := hB.alloc (Nat.le_of_lt hge) (.cells (accC (dig 0)) 34)
            replace hE := hE.old (.cells (accC (dig 0)) 34)
            generalize w3.alloc (.cells (accC (dig 0)) 34) = W3 at *
            generalize w3.heap.size = B11 at *
            refine wpAny_ready (rs := [3]) (by kernel_rfl) (by simp) ?_
            refine AllReady.cons rfl (fun K hK => ?_) ?_
            · go_simp
              refine (gap_any _ _ hS1 _).mono ?_
              rintro e w4 ⟨rfl, b4⟩
              replace hB := hB.trans (b4.mono (Nat.le_of_lt hE.lt))
              replace hE := hE.below b4
              replace hN := hN.below b4
              refine hK _ _ ?_
              clear hK K b4
              refine wpAny_ready (rs := [5]) (by kernel_rfl) (by simp) ?_
              refine AllReady.cons rfl (fun K hK => ?_) ?_
              · have hst := run_storeCells_acc hN (dig ((vz R * P 1074 - E).natAbs))
                have hsz := accC_size (dig ((vz R * P 1074 - E).natAbs))
                go_simp
                refine hK _ _ ?_
                clear hK K hst hsz
                replace hB := below_row hB (Nat.le_of_lt hge) (accC (dig (vz R * P 1074 - E).natAbs))
                replace hE := hE.setRow_ne (Nat.ne_of_lt hge) (accC (dig (vz R * P 1074 - E).natAbs))
                replace hN := hN.setRow (g := dig (vz R * P 1074 - E).natAbs)
                refine wpAny_done (by kernel_rfl) ?_ _
                go_wp2_with fail
                go_meet
                exact ⟨B11, rfl, hge, hN, hE, hB⟩
              exact AllReady.nil
            exact AllReady.nil
          exact AllReady.nil
        refine AllReady.cons rfl (fun K hK => ?_) ?_
        · go_simp
          refine hK _ _ ?_
          clear hK K
          have hge := hE.lt
          have hN := AccAt.new V0 (dig 0)
          replace hB := hB.alloc (Nat.le_of_lt hge) (.cells (accC (dig 0)) 34)
          replace hE := hE.old (.cells (accC (dig 0)) 34)
          generalize V0.alloc (.cells (accC (dig 0)) 34) = W2 at *
          generalize V0.heap.size = B11 at *
          refine wpAny_ready (rs := [1]) (by kernel_rfl) (by simp) ?_
          refine AllReady.cons rfl (fun K hK => ?_) ?_
          · go_simp
            refine (accOf_any R hR2 hR1 _).mono ?_
            rintro e w3 ⟨rfl, b3⟩
            replace hB := hB.trans (b3.mono (Nat.le_of_lt hE.lt))
            replace hE := hE.below b3
            replace hN := hN.below b3
            refine hK _ _ ?_
            clear hK K b3
            refine wpAny_ready (rs := [3]) (by kernel_rfl) (by simp) ?_
            refine AllReady.cons rfl (fun K hK => ?_) ?_
            · go_simp
              refine (gap_any _ _ hS1 _).mono ?_
              rintro e w4 ⟨rfl, b4⟩
              replace hB := hB.trans (b4.mono (Nat.le_of_lt hE.lt))
              replace hE := hE.below b4
              replace hN := hN.below b4
              refine hK _ _ ?_
              clear hK K b4
              refine wpAny_ready (rs := [5]) (by kernel_rfl) (by simp) ?_
              refine AllReady.cons rfl (fun K hK => ?_) ?_
              · have hst := run_storeCells_acc hN (dig ((vz R * P 1074 - E).natAbs))
                have hsz := accC_size (dig ((vz R * P 1074 - E).natAbs))
                go_simp
                refine hK _ _ ?_
                clear hK K hst hsz
                replace hB := below_row hB (Nat.le_of_lt hge) (accC (dig (vz R * P 1074 - E).natAbs))
                replace hE := hE.setRow_ne (Nat.ne_of_lt hge) (accC (dig (vz R * P 1074 - E).natAbs))
                replace hN := hN.setRow (g := dig (vz R * P 1074 - E).natAbs)
                refine wpAny_done (by kernel_rfl) ?_ _
                go_wp2_with fail
                go_meet
                exact ⟨B11, rfl, hge, hN, hE, hB⟩
              exact AllReady.nil
            exact AllReady.nil
          exact AllReady.nil
        exact AllReady.nil
      refine AllReady.cons rfl (fun K hK => ?_) ?_
      · go_simp
        refine hK _ _ ?_
        clear hK K
        have hge := hE.lt
        have hN := AccAt.new V0 (dig 0)
        replace hB := hB.alloc (Nat.le_of_lt hge) (.cells (accC (dig 0)) 34)
        replace hE := hE.old (.cells (accC (dig 0)) 34)
        generalize V0.alloc (.cells (accC (dig 0)) 34) = W1 at *
        generalize V0.heap.size = B11 at *
        refine wpAny_ready (rs := [1, 2]) (by kernel_rfl) (by simp) ?_
        refine AllReady.cons rfl (fun K hK => ?_) ?_
        · go_simp
          refine (accOf_any R hR2 hR1 _).mono ?_
          rintro e w3 ⟨rfl, b3⟩
          replace hB := hB.trans (b3.mono (Nat.le_of_lt hE.lt))
          replace hE := hE.below b3
          replace hN := hN.below b3
          refine hK _ _ ?_
          clear hK K b3
          refine wpAny_ready (rs := [2]) (by kernel_rfl) (by simp) ?_
          refine AllReady.cons rfl (fun K hK => ?_) ?_
          · refine step_load_acc rfl _ rfl w.heap.size rfl _ hE ?_
            refine hK _ _ ?_
            clear hK K
            refine wpAny_ready (rs := [3]) (by kernel_rfl) (by simp) ?_
            refine AllReady.cons rfl (fun K hK => ?_) ?_
            · go_simp
              refine (gap_any _ _ hS1 _).mono ?_
              rintro e w4 ⟨rfl, b4⟩
              replace hB := hB.trans (b4.mono (Nat.le_of_lt hE.lt))
              replace hE := hE.below b4
              replace hN := hN.below b4
              refine hK _ _ ?_
              clear hK K b4
              refine wpAny_ready (rs := [5]) (by kernel_rfl) (by simp) ?_
              refine AllReady.cons rfl (fun K hK => ?_) ?_
              · have hst := run_storeCells_acc hN (dig ((vz R * P 1074 - E).natAbs))
                have hsz := accC_size (dig ((vz R * P 1074 - E).natAbs))
                go_simp
                refine hK _ _ ?_
                clear hK K hst hsz
                replace hB := below_row hB (Nat.le_of_lt hge) (accC (dig (vz R * P 1074 - E).natAbs))
                replace hE := hE.setRow_ne (Nat.ne_of_lt hge) (accC (dig (vz R * P 1074 - E).natAbs))
                replace hN := hN.setRow (g := dig (vz R * P 1074 - E).natAbs)
                refine wpAny_done (by kernel_rfl) ?_ _
                go_wp2_with fail
                go_meet
                exact ⟨B11, rfl, hge, hN, hE, hB⟩
              exact AllReady.nil
            exact AllReady.nil
          exact AllReady.nil
        refine AllReady.cons rfl (fun K hK => ?_) ?_
        · refine step_load_acc rfl _ rfl w.heap.size rfl _ hE ?_
          refine hK _ _ ?_
          clear hK K
          refine wpAny_ready (rs := [1]) (by kernel_rfl) (by simp) ?_
          refine AllReady.cons rfl (fun K hK => ?_) ?_
          · go_simp
            refine (accOf_any R hR2 hR1 _).mono ?_
            rintro e w3 ⟨rfl, b3⟩
            replace hB := hB.trans (b3.mono (Nat.le_of_lt hE.lt))
            replace hE := hE.below b3
            replace hN := hN.below b3
            refine hK _ _ ?_
            clear hK K b3
            refine wpAny_ready (rs := [3]) (by kernel_rfl) (by simp) ?_
            refine AllReady.cons rfl (fun K hK => ?_) ?_
            · go_simp
              refine (gap_any _ _ hS1 _).mono ?_
              rintro e w4 ⟨rfl, b4⟩
              replace hB := hB.trans (b4.mono (Nat.le_of_lt hE.lt))
              replace hE := hE.below b4
              replace hN := hN.below b4
              refine hK _ _ ?_
              clear hK K b4
              refine wpAny_ready (rs := [5]) (by kernel_rfl) (by simp) ?_
              refine AllReady.cons rfl (fun K hK => ?_) ?_
              · have hst := run_storeCells_acc hN (dig ((vz R * P 1074 - E).natAbs))
                have hsz := accC_size (dig ((vz R * P 1074 - E).natAbs))
                go_simp
                refine hK _ _ ?_
                clear hK K hst hsz
                replace hB := below_row hB (Nat.le_of_lt hge) (accC (dig (vz R * P 1074 - E).natAbs))
                replace hE := hE.setRow_ne (Nat.ne_of_lt hge) (accC (dig (vz R * P 1074 - E).natAbs))
                replace hN := hN.setRow (g := dig (vz R * P 1074 - E).natAbs)
                refine wpAny_done (by kernel_rfl) ?_ _
                go_wp2_with fail
                go_meet
                exact ⟨B11, rfl, hge, hN, hE, hB⟩
              exact AllReady.nil
            exact AllReady.nil
          exact AllReady.nil
        exact AllReady.nil
      exact AllReady.nil
    case rest =>
      obtain ⟨B11, rfl, hge, hN, hE, hB⟩ := hcut
      have hcm : cmp (↑(vz R * P 1074 - E).natAbs * P 53) (↑E.natAbs + 4503599627370496 * P 1074) ≤ 0 := by
        unfold cmp; have := HLe.out
        split
        · decide
        · rw [if_pos (by omega)]; decide
      have ne1 := Nat.ne_of_lt hge
      go_wp2_with (first
        | (go_at_call 20; refine (shl_any B11 _ 53 0 53 (by decide) rfl (by decide) _ hN).mono ?_; rintro e w5 ⟨rfl, hN5, o5⟩; have hE5 := o5.acc ne1 hE)
        | (go_at_call 21; refine (abs_any w.heap.size E hS3 _ hE5).mono ?_; rintro e w6 ⟨rfl, hE6, o6⟩; have hN6 := o6.acc ne1.symm hN5)
        | (go_at_call 36; refine (addFloat_any w.heap.size _ 4503599627370496 (by decide) fin_tiny _ hE6).mono ?_; rintro e w7 ⟨rfl, hE7, o7⟩; have hN7 := o7.acc ne1.symm hN6; rw [vz_tiny] at hE7)
        | (go_at_call 25; refine (cmp_any B11 w.heap.size _ _ hS2 hS4 _ hN7 hE7).mono ?_; rintro e w8 ⟨rfl, n8, rfl⟩))
      go_ret
      refine ⟨by simp [hcm], below_drewN ?_ _⟩
      exact ((hB.trans (o5.below (Nat.le_of_lt hge))).trans (o6.below (Nat.le_refl _))).trans (o7.below (Nat.le_refl _))

end Go.Proofs.Ygctad
