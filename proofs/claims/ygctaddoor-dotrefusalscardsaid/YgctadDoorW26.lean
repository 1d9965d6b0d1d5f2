import Derived.Test.YgctadDoorW25
namespace Go.Proofs.YgctadDoor
open Go.RowKit Go.Acc Rn
set_option linter.unusedSimpArgs false
set_option linter.unusedVariables false

def okB (fs gs : List Nat) (j : Nat) : Bool := zeroOrB (fs.getD j 0) (-480) 480 && zeroOrB (gs.getD j 0) (-480) 480
/-- The lists that package dot does not refuse. -/
def admB (fs gs : List Nat) : Bool := decide (fs.length = gs.length) && decide (fs.length ≤ 1024) && (List.range fs.length).all (okB fs gs)
theorem admB_iff (fs gs : List Nat) : admB fs gs = true ↔ (fs.length = gs.length ∧ fs.length ≤ 1024 ∧ ∀ j, j < fs.length → okB fs gs j = true) := by
  unfold admB
  simp only [Bool.and_eq_true, decide_eq_true_eq, List.all_eq_true, List.mem_range, and_assoc]
theorem admB_true {fs gs : List Nat} (h1 : fs.length = gs.length) (h2 : fs.length ≤ 1024) (h3 : ∀ j, j < fs.length → okB fs gs j = true) : admB fs gs = true := (admB_iff fs gs).2 ⟨h1, h2, h3⟩
theorem admB_false {fs gs : List Nat} (h : ¬ (fs.length = gs.length ∧ fs.length ≤ 1024 ∧ ∀ j, j < fs.length → okB fs gs j = true)) : admB fs gs = false := by
  cases e : admB fs gs
  · rfl
  · exact absurd ((admB_iff fs gs).1 e) h

set_option maxHeartbeats 2000000 in
theorem dotAdmitted_any (b1 o1 b2 o2 c1 c2 n1 n2 : Nat) (fs gs : List Nat) (hn1 : Hid (fs.length = n1)) (hn2 : Hid (gs.length = n2)) (l1 : n1 ≤ 2000) (l2 : n2 ≤ 2000) (w : World) (hf : Fls w b1 o1 fs) (hg : Fls w b2 o2 gs)
    (wf : Hid (∀ i, fs.getD i 0 < 18446744073709551616)) (wg : Hid (∀ i, gs.getD i 0 < 18446744073709551616)) :
    Calls Tadg.prog 8 #[.slice (some ⟨b1, o1, none⟩) n1 c1, .slice (some ⟨b2, o2, none⟩) n2 c2] w fun e w' => e = .returned (.bool (admB fs gs)) ∧ w' = w := by
  by_cases hne : n1 = n2
  · by_cases hbig : 1024 < n1
    · have ha : admB fs gs = false := admB_false (fun h => by have := hn1.out; omega)
      have hbig' : (1024 : Int) < (n1 : Int) := by omega
      have hq : ((n1 : Int) != (n2 : Int)) = false := by rw [bne_eq_false_iff_eq]; omega
      clear hne
      go_enter Tadg.func8, Tadg.ntmps8
      go_wp2
      go_ret
      exact ⟨by rw [ha]; rfl, rfl⟩
    · have hcf : ∀ i, i < n1 → w.cell? ⟨b1, o1 + i, none⟩ = some (.float .f64 (fs.getD i 0)) := fun i hi => hf i (by have := hn1.out; omega)
      have hcg : ∀ i, i < n1 → w.cell? ⟨b2, o2 + i, none⟩ = some (.float .f64 (gs.getD i 0)) := fun i hi => hg i (by have := hn2.out; omega)
      have hbig' : ¬ (1024 : Int) < (n1 : Int) := by omega
      have hq : ((n1 : Int) != (n2 : Int)) = false := by rw [bne_eq_false_iff_eq]; omega
      have Hall : Hid ((∀ j, j < n1 → okB fs gs j = true) → admB fs gs = true) := fun h => admB_true (by have := hn1.out; have := hn2.out; omega) (by have := hn1.out; omega) (fun j hj => h j (by have := hn1.out; omega))
      have Hsome : Hid (∀ j, j < n1 → okB fs gs j = false → admB fs gs = false) := fun j hj h => admB_false (fun ⟨_, _, h3⟩ => by have := h3 j (by have := hn1.out; omega); rw [h] at this; cases this)
      have Hok : Hid (∀ j, okB fs gs j = (zeroOrB (fs.getD j 0) (-480) 480 && zeroOrB (gs.getD j 0) (-480) 480)) := fun j => rfl
      clear hf hg
      generalize hA : admB fs gs = A at *
      generalize okB fs gs = ok at *
      have n12 : (n1 : Int) = (n2 : Int) := by omega
      have N12 : Hid (n1 = n2) := hne
      clear hA hne n12
      go_enter Tadg.func8, Tadg.ntmps8
      go_wp2
      go_loop [5] (fun i => ∃ k : Nat, k ≤ n1 ∧ i = .int .i64 k ∧ ∀ j, j < k → ok j = true) (fun i => n1 - (intOf i).toNat)
      case atStart => exact ⟨0, Nat.zero_le _, rfl, fun j h => absurd h (Nat.not_lt_zero _)⟩
      case round =>
        obtain ⟨k, hk, rfl, hz⟩ := hrel
        have HZ : Hid (∀ j, j < k → ok j = true) := hz
        clear hz
        by_cases hlt : k < n1
        · have e1 := hcf k hlt
          have e2 := hcg k hlt
          have i1 : (k : Int) < (n1 : Int) := by omega
          have i2 : (k : Int) < (n2 : Int) := by have := N12.out; omega
          have x1 := wf.out k
          have x2 := wg.out k
          have Hk := Hok.out k
          clear hcf hcg
          generalize fs.getD k 0 = X at *
          generalize gs.getD k 0 = Y at *
          have HK : Hid (ok k = (zeroOrB X (-480) 480 && zeroOrB Y (-480) 480)) := Hk
          clear Hk
          cases z1 : zeroOrB X (-480) 480
          · go_wp2_with (go_at_call 28; refine (zeroOr_any X x1 (-480) 480 (by omega) (by omega) (by omega) (by omega) _).mono ?_; rintro e w' ⟨rfl, hq⟩; obtain rfl := hq.symm)
            go_ret
            have := Hsome.out k hlt (by rw [HK.out, z1]; rfl)
            exact ⟨by rw [this]; rfl, rfl⟩
          · cases z2 : zeroOrB Y (-480) 480
            · go_wp2_with (first
                | (go_at_call_of 28 (Value.float FloatKind.f64 X); refine (zeroOr_any X x1 (-480) 480 (by omega) (by omega) (by omega) (by omega) _).mono ?_; rintro e w' ⟨rfl, hq⟩; obtain rfl := hq.symm)
                | (go_at_call_of 28 (Value.float FloatKind.f64 Y); refine (zeroOr_any Y x2 (-480) 480 (by omega) (by omega) (by omega) (by omega) _).mono ?_; rintro e w' ⟨rfl, hq⟩; obtain rfl := hq.symm))
              go_ret
              have := Hsome.out k hlt (by rw [HK.out, z1, z2]; rfl)
              exact ⟨by rw [this]; rfl, rfl⟩
            · go_wp2_with (first
                | (go_at_call_of 28 (Value.float FloatKind.f64 X); refine (zeroOr_any X x1 (-480) 480 (by omega) (by omega) (by omega) (by omega) _).mono ?_; rintro e w' ⟨rfl, hq⟩; obtain rfl := hq.symm)
                | (go_at_call_of 28 (Value.float FloatKind.f64 Y); refine (zeroOr_any Y x2 (-480) 480 (by omega) (by omega) (by omega) (by omega) _).mono ?_; rintro e w' ⟨rfl, hq⟩; obtain rfl := hq.symm))
              go_round
              case rel =>
                refine ⟨k + 1, by omega, by go_num, fun j hj => ?_⟩
                by_cases e : j = k
                · rw [e, HK.out, z1, z2]; rfl
                · exact HZ.out j (by omega)
              case measure => simp [intOf]; omega
        · have hkn : k = n1 := by omega
          have hx : ¬ (k : Int) < (n1 : Int) := by omega
          go_wp2
          go_ret
          have := Hall.out (fun j hj => HZ.out j (by omega))
          exact ⟨by rw [this]; rfl, rfl⟩
  · have ha : admB fs gs = false := admB_false (fun h => by have := hn1.out; have := hn2.out; omega)
    have hq : ((n1 : Int) != (n2 : Int)) = true := by rw [bne_iff_ne]; omega
    go_enter Tadg.func8, Tadg.ntmps8
    go_wp2
    go_ret
    exact ⟨by rw [ha]; rfl, rfl⟩

set_option maxHeartbeats 2000000 in
theorem refused_any (b1 o1 b2 o2 c1 c2 n1 n2 : Nat) (fs gs : List Nat) (hn1 : Hid (fs.length = n1)) (hn2 : Hid (gs.length = n2)) (l1 : n1 ≤ 2000) (l2 : n2 ≤ 2000) (w : World) (hf : Fls w b1 o1 fs) (hg : Fls w b2 o2 gs)
    (wf : Hid (∀ i, fs.getD i 0 < 18446744073709551616)) (wg : Hid (∀ i, gs.getD i 0 < 18446744073709551616)) :
    Calls Tadg.prog 39 #[.slice (some ⟨b1, o1, none⟩) n1 c1, .slice (some ⟨b2, o2, none⟩) n2 c2] w fun e w' => e = .returned (.bool (!admB fs gs)) ∧ w' = w := by
  by_cases hne : n1 = n2
  · by_cases hbig : 1024 < n1
    · have ha : admB fs gs = false := admB_false (fun h => by have := hn1.out; omega)
      have hbig' : (1024 : Int) < (n1 : Int) := by omega
      have hq : ((n1 : Int) != (n2 : Int)) = false := by rw [bne_eq_false_iff_eq]; omega
      clear hne
      go_enter Tadg.func39, Tadg.ntmps39
      go_wp2
      go_ret
      exact ⟨by rw [ha]; rfl, rfl⟩
    · have hcf : ∀ i, i < n1 → w.cell? ⟨b1, o1 + i, none⟩ = some (.float .f64 (fs.getD i 0)) := fun i hi => hf i (by have := hn1.out; omega)
      have hcg : ∀ i, i < n1 → w.cell? ⟨b2, o2 + i, none⟩ = some (.float .f64 (gs.getD i 0)) := fun i hi => hg i (by have := hn2.out; omega)
      have hbig' : ¬ (1024 : Int) < (n1 : Int) := by omega
      have hq : ((n1 : Int) != (n2 : Int)) = false := by rw [bne_eq_false_iff_eq]; omega
      have Hall : Hid ((∀ j, j < n1 → okB fs gs j = true) → admB fs gs = true) := fun h => admB_true (by have := hn1.out; have := hn2.out; omega) (by have := hn1.out; omega) (fun j hj => h j (by have := hn1.out; omega))
      have Hsome : Hid (∀ j, j < n1 → okB fs gs j = false → admB fs gs = false) := fun j hj h => admB_false (fun ⟨_, _, h3⟩ => by have := h3 j (by have := hn1.out; omega); rw [h] at this; cases this)
      have Hok : Hid (∀ j, okB fs gs j = (zeroOrB (fs.getD j 0) (-480) 480 && zeroOrB (gs.getD j 0) (-480) 480)) := fun j => rfl
      clear hf hg
      generalize hA : admB fs gs = A at *
      generalize okB fs gs = ok at *
      have n12 : (n1 : Int) = (n2 : Int) := by omega
      have N12 : Hid (n1 = n2) := hne
      clear hA hne n12
      go_enter Tadg.func39, Tadg.ntmps39
      go_wp2
      go_loop [5] (fun i => ∃ k : Nat, k ≤ n1 ∧ i = .int .i64 k ∧ ∀ j, j < k → ok j = true) (fun i => n1 - (intOf i).toNat)
      case atStart => exact ⟨0, Nat.zero_le _, rfl, fun j h => absurd h (Nat.not_lt_zero _)⟩
      case round =>
        obtain ⟨k, hk, rfl, hz⟩ := hrel
        have HZ : Hid (∀ j, j < k → ok j = true) := hz
        clear hz
        by_cases hlt : k < n1
        · have e1 := hcf k hlt
          have e2 := hcg k hlt
          have i1 : (k : Int) < (n1 : Int) := by omega
          have i2 : (k : Int) < (n2 : Int) := by have := N12.out; omega
          have x1 := wf.out k
          have x2 := wg.out k
          have Hk := Hok.out k
          clear hcf hcg
          generalize fs.getD k 0 = X at *
          generalize gs.getD k 0 = Y at *
          have HK : Hid (ok k = (zeroOrB X (-480) 480 && zeroOrB Y (-480) 480)) := Hk
          clear Hk
          cases z1 : zeroOrB X (-480) 480
          · go_wp2_with (go_at_call 65; refine (inRange_any X x1 _).mono ?_; rintro e w' ⟨rfl, hq⟩; obtain rfl := hq.symm)
            go_ret
            have := Hsome.out k hlt (by rw [HK.out, z1]; rfl)
            exact ⟨by rw [this]; rfl, rfl⟩
          · cases z2 : zeroOrB Y (-480) 480
            · go_wp2_with (first
                | (go_at_call_of 65 (Value.float FloatKind.f64 X); refine (inRange_any X x1 _).mono ?_; rintro e w' ⟨rfl, hq⟩; obtain rfl := hq.symm)
                | (go_at_call_of 65 (Value.float FloatKind.f64 Y); refine (inRange_any Y x2 _).mono ?_; rintro e w' ⟨rfl, hq⟩; obtain rfl := hq.symm))
              go_ret
              have := Hsome.out k hlt (by rw [HK.out, z1, z2]; rfl)
              exact ⟨by rw [this]; rfl, rfl⟩
            · go_wp2_with (first
                | (go_at_call_of 65 (Value.float FloatKind.f64 X); refine (inRange_any X x1 _).mono ?_; rintro e w' ⟨rfl, hq⟩; obtain rfl := hq.symm)
                | (go_at_call_of 65 (Value.float FloatKind.f64 Y); refine (inRange_any Y x2 _).mono ?_; rintro e w' ⟨rfl, hq⟩; obtain rfl := hq.symm))
              go_round
              case rel =>
                refine ⟨k + 1, by omega, by go_num, fun j hj => ?_⟩
                by_cases e : j = k
                · rw [e, HK.out, z1, z2]; rfl
                · exact HZ.out j (by omega)
              case measure => simp [intOf]; omega
        · have hkn : k = n1 := by omega
          have hx : ¬ (k : Int) < (n1 : Int) := by omega
          go_wp2
          go_ret
          have := Hall.out (fun j hj => HZ.out j (by omega))
          exact ⟨by rw [this]; rfl, rfl⟩
  · have ha : admB fs gs = false := admB_false (fun h => by have := hn1.out; have := hn2.out; omega)
    have hq : ((n1 : Int) != (n2 : Int)) = true := by rw [bne_iff_ne]; omega
    go_enter Tadg.func39, Tadg.ntmps39
    go_wp2
    go_ret
    exact ⟨by rw [ha]; rfl, rfl⟩

end Go.Proofs.YgctadDoor
