import Derived.Test.YgctadDoorX20
namespace Go.Proofs.YgctadDoor
open Go.RowKit Go.Acc Rn
set_option linter.unusedSimpArgs false
set_option linter.unusedVariables false

theorem Rows64.u64s {w : World} {a : Option Addr} {len cap : Nat} {zs : List Int} (h : Rows64 w a len cap zs) : U64s w a len cap zs := by
  rcases h.1 with ⟨_, h0⟩ | ⟨_, b, off, e, h1, h2, h3, h4, h5⟩
  · exact .inl h0
  · exact .inr ⟨b, off, e, h1, h2, h3, h4, h5⟩

set_option maxHeartbeats 2000000 in
theorem dotRefusals_walk (a : Option Addr) (len cap : Nat) (zs : List Int) (a' : Option Addr) (len' cap' : Nat) (zs' : List Int) (w : World) (h : Rows64 w a len cap zs) (h' : Rows64 w a' len' cap' zs') (hT : Tab w) :
    Calls Tadg.prog 4 #[.slice a len cap, .slice a' len' cap'] w fun e w' => e = .returned (.bool true) ∧ Below w.heap.size w w' := by
  have hw : Hid (∀ n ∈ zs, (Lit.int .u64 n).wf = true) := h.2
  have hw' : Hid (∀ n ∈ zs', (Lit.int .u64 n).wf = true) := h'.2
  have u1 : Hid (U64s w a len cap zs) := h.u64s
  have u2 : Hid (U64s w a' len' cap' zs') := h'.u64s
  clear h h'
  go_enter Tadg.func4, Tadg.ntmps4
  go_upto_region 2 with (first
    | (go_at_call_of 14 (Value.slice a len cap); refine (floats_any a len cap 1025 zs w u1.out (by omega)).mono ?_; rintro e w1 ⟨fs, hfs, lf, rfl, B1, z1, F1⟩)
    | (go_at_call_of 14 (Value.slice a' len' cap'); refine (floats_any a' len' cap' 1025 zs' w1 (u2.out.below B1) (by omega)).mono ?_; rintro e w2 ⟨gs, hgs, lg, rfl, B2, z2, F2⟩))
  have wf : Hid (∀ i, fs.getD i 0 < 18446744073709551616) := by
    rw [hfs.out]; exact toNat_words (fun n hn => hw.out n (List.mem_of_mem_take (List.mem_of_mem_take hn)))
  have wg : Hid (∀ i, gs.getD i 0 < 18446744073709551616) := by
    rw [hgs.out]; exact toNat_words (fun n hn => hw'.out n (List.mem_of_mem_take (List.mem_of_mem_take hn)))
  have hBw : Below w.heap.size w w2 := B1.trans (B2.mono (by omega))
  have T2 : Tab w2 := hT.below hBw hT.lt
  have HF1 : Hid (Fls w2 w.heap.size 0 fs) := F1.below (by omega) B2
  have HF2 : Hid (Fls w2 (w.heap.size + 1) 0 gs) := by rw [z1] at F2; exact F2
  have d1 : w.heap.size < w2.heap.size := by omega
  have d2 : w.heap.size + 1 < w2.heap.size := by omega
  obtain ⟨n1, hn1⟩ : ∃ n1, fs.length = n1 := ⟨_, rfl⟩
  obtain ⟨n2, hn2⟩ : ∃ n2, gs.length = n2 := ⟨_, rfl⟩
  have H1 : Hid (fs.length = n1) := hn1
  have H2 : Hid (gs.length = n2) := hn2
  rw [hn1] at lf ⊢
  rw [hn2] at lg ⊢
  clear hn1 hn2 hfs hgs hw hw' u1 u2 F1 F2 B1 B2 hT z1 z2
  by_cases ha : admB fs gs = true
  case neg =>
    rw [Bool.not_eq_true] at ha
    go_wp2_with (first
      | (go_at_call 8; refine (dotAdmitted_any _ _ _ _ _ _ n1 n2 fs gs H1 H2 (by omega) (by omega) _ (by exact HF1.out) (by exact HF2.out) wf wg).mono ?_; rintro e w' ⟨rfl, hq⟩; obtain rfl := hq.symm)
      | (go_at_call 16; refine (dot_refused _ _ _ _ _ _ n1 n2 fs gs H1 H2 (by omega) (by omega) _ (by exact HF1.out) (by exact HF2.out) wf wg ha).mono ?_; rintro e w' ⟨r1, m1, rfl, rfl, nr1, lr1⟩)
      | (go_at_call_of 15 (Value.float FloatKind.f64 r1); refine (isNaN_any _ lr1 _).mono ?_; rintro e w' ⟨rfl, hq⟩; obtain rfl := hq.symm; rw [nr1])
      | (go_at_call 17; refine (dot2_refused _ _ _ _ _ _ n1 n2 fs gs H1 H2 (by omega) (by omega) _ (by exact HF1.out) (by exact HF2.out) wf wg ha).mono ?_; rintro e w' ⟨r2, m2, rfl, rfl, nr2, lr2⟩)
      | (go_at_call_of 15 (Value.float FloatKind.f64 r2); refine (isNaN_any _ lr2 _).mono ?_; rintro e w' ⟨rfl, hq⟩; obtain rfl := hq.symm; rw [nr2])
      | (go_at_call 12; refine (dotExact_refused _ _ _ _ _ _ n1 n2 fs gs H1 H2 (by omega) (by omega) _ (by exact HF1.out) (by exact HF2.out) wf wg ha).mono ?_; rintro e w' ⟨r3, m3, rfl, rfl, nr3, lr3⟩)
      | (go_at_call_of 15 (Value.float FloatKind.f64 r3); refine (isNaN_any _ lr3 _).mono ?_; rintro e w' ⟨rfl, hq⟩; obtain rfl := hq.symm; rw [nr3])
      | (go_at_call 13; refine (dotRounded_refused _ _ _ _ _ _ n1 n2 fs gs H1 H2 (by omega) (by omega) _ (by exact HF1.out) (by exact HF2.out) wf wg ha).mono ?_; rintro e w' ⟨r4, m4, rfl, rfl, nr4, lr4⟩)
      | (go_at_call_of 15 (Value.float FloatKind.f64 r4); refine (isNaN_any _ lr4 _).mono ?_; rintro e w' ⟨rfl, hq⟩; obtain rfl := hq.symm; rw [nr4]))
    go_ret
    exact ⟨rfl, below_drewN hBw _⟩
  obtain rfl : n1 = n2 := by have := ((admB_iff fs gs).1 ha).1; rw [H1.out, H2.out] at this; exact this
  obtain ⟨n, rfl⟩ : ∃ n, n = n1 := ⟨_, rfl⟩
  have hn : n ≤ 1024 := by have := ((admB_iff fs gs).1 ha).2.1; rw [H1.out] at this; exact this
  have hin : Hid (∀ k, k < n → (Rn.fin (fs.getD k 0) = true ∧ InR (vz (fs.getD k 0))) ∧ (Rn.fin (gs.getD k 0) = true ∧ InR (vz (gs.getD k 0)))) := fun k hk => by
    have := ((admB_iff fs gs).1 ha).2.2 k (by have := H1.out; omega)
    unfold okB at this
    simp only [Bool.and_eq_true] at this
    exact ⟨zeroOr_inR this.1, zeroOr_inR this.2⟩
  have hdf : Hid (∀ r, Fl.same r (dfold fs gs n) = true → Fl.isNaN r = false ∧ r < 18446744073709551616) := fun r hr => same_fin hr (dfold_fin hin.out hn)
  have hd2 : Hid (∀ s C r, Dst n s C (ps fs gs n) (pa fs gs n) → Fl.Res .add s C r → Fl.isNaN r = false ∧ r < 18446744073709551616) := fun s C r hD hr => by
    obtain ⟨f, l, _⟩ := dot2_cmp hn (fun k hk => ⟨(hin.out k hk).1.2, (hin.out k hk).2.2⟩) hD hr
    exact ⟨fin_not_nan f, l⟩
  go_wp2_with (first
    | (go_at_call 8; refine (dotAdmitted_any _ _ _ _ _ _ n n fs gs H1 H2 (by omega) (by omega) _ (by exact HF1.out) (by exact HF2.out) wf wg).mono ?_; rintro e w' ⟨rfl, hq⟩; obtain rfl := hq.symm)
    | (go_at_call 16; refine (dot_any _ _ _ _ _ _ n fs gs H1 H2 hn _ (by exact HF1.out) (by exact HF2.out) wf wg ha).mono ?_; rintro e w' ⟨r1, m1, rfl, rfl, sr1⟩; obtain ⟨nr1, lr1⟩ := hdf.out r1 sr1)
    | (go_at_call_of 15 (Value.float FloatKind.f64 r1); refine (isNaN_any _ lr1 _).mono ?_; rintro e w' ⟨rfl, hq⟩; obtain rfl := hq.symm; rw [nr1])
    | (go_at_call 17; refine (dot2_any _ _ _ _ _ _ n fs gs H1 H2 hn _ (by exact HF1.out) (by exact HF2.out) wf wg ha).mono ?_; rintro e w' ⟨r2, m2, s2, C2', rfl, rfl, sr2, sD2⟩; obtain ⟨nr2, lr2⟩ := hd2.out s2 C2' r2 sD2 sr2)
    | (go_at_call_of 15 (Value.float FloatKind.f64 r2); refine (isNaN_any _ lr2 _).mono ?_; rintro e w' ⟨rfl, hq⟩; obtain rfl := hq.symm; rw [nr2])
    | (go_at_call 12; refine (dotExact_any _ _ _ _ _ _ n fs gs H1 H2 hn _ (by exact d1) (by exact d2) (by exact HF1.out) (by exact HF2.out) wf wg ha (by exact T2)).mono ?_; rintro e w3 ⟨r3, rfl, fr3, vr3, zr3, hb3'⟩; have hb3 : Below w2.heap.size w2 w3 := (below_drewN (Below.refl _ _) _).trans hb3'; clear hb3'; have nr3 := fin_not_nan fr3.1; have lr3 := fr3.2)
    | (go_at_call_of 15 (Value.float FloatKind.f64 r3); refine (isNaN_any _ lr3 _).mono ?_; rintro e w' ⟨rfl, hq⟩; obtain rfl := hq.symm; rw [nr3])
    | (go_at_call 13; refine (dotRounded_any _ _ _ _ _ _ n fs gs H1 H2 hn w3 (Nat.lt_of_lt_of_le d1 hb3.size) (Nat.lt_of_lt_of_le d2 hb3.size) (HF1.out.below d1 hb3) (HF2.out.below d2 hb3) wf wg ha).mono ?_; rintro e w4 ⟨r4, rfl, fr4, vr4, zr4, hb4⟩; have nr4 := fin_not_nan fr4.1; have lr4 := fr4.2)
    | (go_at_call_of 15 (Value.float FloatKind.f64 r4); refine (isNaN_any _ lr4 _).mono ?_; rintro e w' ⟨rfl, hq⟩; obtain rfl := hq.symm; rw [nr4]))
  have hB3 := hBw.trans (hb3.mono (Nat.le_of_lt d1))
  go_ret
  exact ⟨rfl, hB3.trans (hb4.mono hB3.size)⟩
end Go.Proofs.YgctadDoor
