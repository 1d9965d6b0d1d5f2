import Derived.Test.YgctadDoorX18
namespace Go.Proofs.YgctadDoor
open Go.RowKit Go.Acc Rn
set_option linter.unusedSimpArgs false
set_option linter.unusedVariables false

theorem toNat_words {zs : List Int} (hw : ∀ n ∈ zs, (Lit.int .u64 n).wf = true) : ∀ i, (zs.map Int.toNat).getD i 0 < 18446744073709551616 := by
  intro i
  rw [List.getD, List.getElem?_map]
  cases h : zs[i]? with
  | none => simp
  | some z =>
    have := hw z (List.mem_of_getElem? h)
    simp [Lit.wf, IntKind.min, IntKind.max, IntKind.signed, IntKind.bits] at this
    simp only [Option.map_some, Option.getD_some]
    omega

/-- A slice of words that came in, as the law's shell opens it. -/
def Rows64 (w : World) (a : Option Addr) (len cap : Nat) (zs : List Int) : Prop :=
  ((cap = 0 ∧ len = 0) ∨ (0 < cap ∧ ∃ b off, a = some ⟨b, off, none⟩ ∧ b < w.heap.size ∧ len ≤ cap ∧ cap ≤ maxLen ∧ len ≤ zs.length ∧ ∀ i, i < zs.length → w.cell? ⟨b, off + i, none⟩ = some (.int .u64 (zs.getD i 0)))) ∧ ∀ n ∈ zs, (Lit.int .u64 n).wf = true

set_option maxHeartbeats 2000000 in
theorem dotsRight_walk (a : Option Addr) (len cap : Nat) (zs : List Int) (w : World) (h : Rows64 w a len cap zs) (hT : Tab w) :
    Calls Tadg.prog 3 #[.slice a len cap] w fun e w' => e = .returned (.bool true) ∧ Below w.heap.size w w' := by
  obtain ⟨h, hw⟩ := h
  go_enter Tadg.func3, Tadg.ntmps3
  go_wp2_with (go_at_call 7; refine (twoLists_any a len cap zs w h).mono ?_; rintro e w1 ⟨fs, gs, B1, B2, rfl, hfs, hgs, lf, lg, hB0, g1, g2, F1, F2, hb1, hb2⟩)
  have wf : Hid (∀ i, fs.getD i 0 < 18446744073709551616) := by
    rw [hfs.out]; exact toNat_words (fun n hn => hw n (List.mem_of_mem_take (List.mem_of_mem_take hn)))
  have wg : Hid (∀ i, gs.getD i 0 < 18446744073709551616) := by
    obtain ⟨m, hm⟩ := hgs.out
    rw [hm]; exact toNat_words (fun n hn => hw n (List.mem_of_mem_drop (List.mem_of_mem_take hn)))
  obtain ⟨n1, hn1⟩ : ∃ n1, fs.length = n1 := ⟨_, rfl⟩
  obtain ⟨n2, hn2⟩ : ∃ n2, gs.length = n2 := ⟨_, rfl⟩
  have H1 : Hid (fs.length = n1) := hn1
  have H2 : Hid (gs.length = n2) := hn2
  have T1 : Tab w1 := hT.below hB0 hT.lt
  rw [hn1] at lf ⊢
  rw [hn2] at lg ⊢
  clear hn1 hn2 hfs hgs h hw hT
  by_cases ha : admB fs gs = true
  case neg =>
    rw [Bool.not_eq_true] at ha
    go_wp2_with (go_at_call 8; refine (dotAdmitted_any _ _ _ _ _ _ n1 n2 fs gs H1 H2 (by omega) (by omega) _ F1 F2 wf wg).mono ?_; rintro e w' ⟨rfl, hq⟩; obtain rfl := hq.symm)
    go_ret
    exact ⟨rfl, hB0⟩
  obtain rfl : n1 = n2 := by have := ((admB_iff fs gs).1 ha).1; rw [H1.out, H2.out] at this; exact this
  obtain ⟨n, rfl⟩ : ∃ n, n = n1 := ⟨_, rfl⟩
  have hn : n ≤ 1024 := lf
  have hin : Hid (∀ k, k < n → (Rn.fin (fs.getD k 0) = true ∧ InR (vz (fs.getD k 0))) ∧ (Rn.fin (gs.getD k 0) = true ∧ InR (vz (gs.getD k 0)))) := fun k hk => by
    have := ((admB_iff fs gs).1 ha).2.2 k (by have := H1.out; omega)
    unfold okB at this
    simp only [Bool.and_eq_true] at this
    exact ⟨zeroOr_inR this.1, zeroOr_inR this.2⟩
  have hff : Hid (∀ i, i < n → Rn.fin (fs.getD i 0) = true ∧ Rn.fin (gs.getD i 0) = true) := fun i hi => ⟨(hin.out i hi).1.1, (hin.out i hi).2.1⟩
  have hxs : Hid (xsum fs gs n = ps fs gs n * P 1074) := (sums (fun k hk => ⟨(hin.out k hk).1.2, (hin.out k hk).2.2⟩) n (Nat.le_refl _)).1
  have hpb : Hid (((ps fs gs n).natAbs : Int) ≤ P 2060) := ps_2060 (fun k hk => ⟨(hin.out k hk).1.2, (hin.out k hk).2.2⟩) hn
  have HF1 : Hid (Fls w1 B1 0 fs) := F1
  have HF2 : Hid (Fls w1 B2 0 gs) := F2
  have hz := Tadg.zero29
  clear F1 F2
  go_upto_region 5 with (first
    | (go_at_call 8; refine (dotAdmitted_any _ _ _ _ _ _ n n fs gs H1 H2 (by omega) (by omega) _ HF1.out HF2.out wf wg).mono ?_; rintro e w' ⟨rfl, hq⟩; obtain rfl := hq.symm)
    | (go_at_call 9; refine (exactDot_any _ _ _ _ _ _ n fs gs H1 H2 hn w1 hb1 hb2 HF1.out HF2.out wf wg hff).mono ?_; rintro e w3 ⟨rfl, hb3⟩; have n3 := AccAt.new w3 (dig 0))
    | (refine wpList_store_row rfl 29 _ _ rfl w3.heap.size _ rfl rfl 29 _ n3 (Tadg.size29 _) (by rw [accC_size, accC_size]) (accC_one _) ?_))
  have h6 : w1.heap.size ≤ w3.heap.size := hb3.size
  have hB : Below w1.heap.size w1 ((w3.alloc (.cells (accC (dig 0)) 29)).setRow w3.heap.size (accC (dig (xsum fs gs n)))) := below_row (hb3.alloc h6 _) h6 _
  have hE := n3.setRow (g := dig (xsum fs gs n))
  have T3 := T1.below hB T1.lt
  simp only [Act.put]
  generalize (w3.alloc (.cells (accC (dig 0)) 29)).setRow w3.heap.size (accC (dig (xsum fs gs n))) = W at *
  generalize w3.heap.size = B6 at *
  rw [hxs.out] at hE
  clear n3 hb3 hz
  have hsW := hB.size
  go_upto_region 6 with (go_at_call 10; refine (round_any B6 (ps fs gs n) hpb.out _ T3 hE).mono ?_; rintro e w4 ⟨r, rfl, fr, vr, zr, hb4⟩)
  have hB4 := hB.trans (hb4.mono hsW)
  have T4 := T1.below hB4 T1.lt
  have hs4 := hB4.size
  have f1 := HF1.out.below hb1 hB4
  have f2 := HF2.out.below hb2 hB4
  have d1 : B1 < w4.heap.size := by omega
  have d2 : B2 < w4.heap.size := by omega
  have FR : Hid (Fw r ∧ vz r = rn (ps fs gs n) ∧ (ps fs gs n = 0 → r = 0)) := ⟨fr, vr, zr⟩
  have HH1 : Hid (Fls w4 B1 0 fs) := f1
  have HH2 : Hid (Fls w4 B2 0 gs) := f2
  clear fr vr zr hE T3 f1 f2 hb4
  go_wp2_with (first
    | (go_at_call 12; refine (dotExact_any _ _ _ _ _ _ n fs gs H1 H2 hn w4 d1 d2 HH1.out HH2.out wf wg ha T4).mono ?_; rintro e w5 ⟨r5, rfl, fr5, vr5, zr5, hb5⟩; have e5 := same_word fr5 FR.out.1 vr5 FR.out.2.1 zr5 FR.out.2.2; subst e5; have s5 := Fl.same_refl r5)
    | (go_at_call 11; refine (same_any _ _ _).mono ?_; rintro e w' ⟨rfl, hq⟩; obtain rfl := hq.symm; rw [s5])
    | (go_at_call 13; refine (dotRounded_any _ _ _ _ _ _ n fs gs H1 H2 hn w5 (Nat.lt_of_lt_of_le d1 hb5.size) (Nat.lt_of_lt_of_le d2 hb5.size) (HH1.out.below d1 hb5) (HH2.out.below d2 hb5) wf wg ha).mono ?_; rintro e w6 ⟨r6, rfl, fr6, vr6, zr6, hb6⟩; have e6 := same_word fr6 FR.out.1 vr6 FR.out.2.1 zr6 FR.out.2.2; subst e6))
  have hB5 := hB4.trans (hb5.mono hs4)
  have hB6 := hB5.trans (hb6.mono hB5.size)
  go_ret
  exact ⟨rfl, hB0.trans (hB6.mono hB0.size)⟩
end Go.Proofs.YgctadDoor
