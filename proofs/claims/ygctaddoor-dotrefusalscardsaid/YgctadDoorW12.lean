import Derived.Test.YgctadDoorW11
namespace Go.Proofs.YgctadDoor
open Go.RowKit Rn
set_option linter.unusedSimpArgs false
set_option linter.unusedVariables false

theorem cls_cases (p : Nat) : (Fl.spCls p = 1 ∧ Rn.fin p = true) ∨ (Fl.spCls p = 0 ∧ Rn.fin p = true ∧ vz p = 0) ∨ (2 ≤ Fl.spCls p ∧ Fl.spCls p ≤ 3 ∧ Rn.fin p = false) := by
  have h1 := fin_cls p
  have h2 := cls_zero p
  have h3 : Fl.spCls p ≤ 3 := by unfold Fl.spCls; split <;> split <;> (try split) <;> decide
  by_cases c0 : Fl.spCls p = 0
  · exact .inr (.inl ⟨c0, h2.1 c0⟩)
  · by_cases c1 : Fl.spCls p = 1
    · refine .inl ⟨c1, ?_⟩; rw [← h1, c1]; rfl
    · refine .inr (.inr ⟨by omega, h3, ?_⟩); rw [← h1]; simp; omega

theorem ends_bd {m : Nat} {l h : Int} (e : Rn.Ends m 64 l h) : -1 ≤ h ∧ h < 64 := by
  unfold Rn.Ends at e
  rcases e with ⟨_, _, e⟩ | ⟨L, H, _, e, e2, _⟩ <;> omega

set_option maxHeartbeats 1000000 in
theorem atMost_any (p : Nat) (hp : p < 18446744073709551616) (e : Int) (he : -1074 ≤ e) (he2 : e ≤ 2000) (w : World) :
    Calls Tadg.prog 19 #[.float .f64 p, .int .i64 e] w fun r w' => r = .returned (.bool (atMostB p e)) ∧ w' = w := by
  have hX := (spExp_bd p).1
  have hX2 := (spExp_bd p).2
  rcases cls_cases p with ⟨hc, hf⟩ | ⟨hc, hf, hz⟩ | ⟨hc, hc2, hf⟩
  · have Hc : Hid (Fl.spCls p ≠ 0) := by rw [hc]; exact Nat.one_ne_zero
    have hPl : Hid (∀ l h : Int, Rn.Ends (Fl.spMan p) 64 l h → (decide (Fl.spExp p + h < e) || (Fl.spExp p + h == e && l == h)) = atMostB p e) := fun l h hE => (atMost_plain hp hf Hc.out e he hE).1
    generalize atMostB p e = A at *
    have hb : ((Fl.spCls p : Int) != 1) = false := by rw [hc]; rfl
    go_enter Tadg.func19, Tadg.ntmps19
    go_wp2_with (first
      | (go_at_call 24; refine (split64_any _ hp _).mono ?_; rintro e w' ⟨rfl, rfl⟩)
      | (go_at_call 46; refine (ends_any _ (Nat.lt_trans (spMan_lt p) (by decide)) _).mono ?_; rintro e w' ⟨l, h, rfl, hE, rfl⟩; have hb1 := (ends_bd hE).1; have hb2 := (ends_bd hE).2))
    all_goals
      go_ret
      refine ⟨?_, rfl⟩
      rw [← hPl.out l h hE]
      simp [*]
  · have hA : atMostB p e = true := by unfold atMostB; rw [hf, hz]; simp
    have hb : ((Fl.spCls p : Int) != 1) = true := by rw [hc]; rfl
    have hb0 : ((Fl.spCls p : Int) == 0) = true := by rw [hc]; rfl
    go_enter Tadg.func19, Tadg.ntmps19
    go_wp2_with (go_at_call 24; refine (split64_any _ hp _).mono ?_; rintro e w' ⟨rfl, rfl⟩)
    go_ret
    exact ⟨by rw [hA]; first | rfl | simp [*], rfl⟩
  · have hA : atMostB p e = false := by unfold atMostB; rw [hf]; rfl
    have hb : ((Fl.spCls p : Int) != 1) = true := by rw [bne_iff_ne]; omega
    have hb0 : ((Fl.spCls p : Int) == 0) = false := by rw [beq_eq_false_iff_ne]; omega
    go_enter Tadg.func19, Tadg.ntmps19
    go_wp2_with (go_at_call 24; refine (split64_any _ hp _).mono ?_; rintro e w' ⟨rfl, rfl⟩)
    go_ret
    exact ⟨by rw [hA]; first | rfl | simp [*], rfl⟩

set_option maxHeartbeats 1000000 in
theorem atLeast_any (p : Nat) (hp : p < 18446744073709551616) (e : Int) (he : -1074 ≤ e) (he2 : e ≤ 2000) (w : World) :
    Calls Tadg.prog 57 #[.float .f64 p, .int .i64 e] w fun r w' => r = .returned (.bool (atLeastB p e)) ∧ w' = w := by
  have hX := (spExp_bd p).1
  have hX2 := (spExp_bd p).2
  rcases cls_cases p with ⟨hc, hf⟩ | ⟨hc, hf, hz⟩ | ⟨hc, hc2, hf⟩
  · have Hc : Hid (Fl.spCls p ≠ 0) := by rw [hc]; exact Nat.one_ne_zero
    have hPl : Hid (∀ l h : Int, Rn.Ends (Fl.spMan p) 64 l h → decide (e ≤ Fl.spExp p + h) = atLeastB p e) := fun l h hE => (atMost_plain hp hf Hc.out e he hE).2.1
    generalize atLeastB p e = A at *
    have hb : ((Fl.spCls p : Int) != 1) = false := by rw [hc]; rfl
    go_enter Tadg.func57, Tadg.ntmps57
    go_wp2_with (first
      | (go_at_call 24; refine (split64_any _ hp _).mono ?_; rintro e w' ⟨rfl, rfl⟩)
      | (go_at_call 46; refine (ends_any _ (Nat.lt_trans (spMan_lt p) (by decide)) _).mono ?_; rintro e w' ⟨l, h, rfl, hE, rfl⟩; have hb1 := (ends_bd hE).1; have hb2 := (ends_bd hE).2))
    all_goals
      go_ret
      refine ⟨?_, rfl⟩
      rw [← hPl.out l h hE]
      simp [*]
  · have hA : atLeastB p e = false := by unfold atLeastB; rw [hf, hz]; simp
    have hb : ((Fl.spCls p : Int) != 1) = true := by rw [hc]; rfl
    go_enter Tadg.func57, Tadg.ntmps57
    go_wp2_with (go_at_call 24; refine (split64_any _ hp _).mono ?_; rintro e w' ⟨rfl, rfl⟩)
    go_ret
    exact ⟨by rw [hA]; first | rfl | simp [*], rfl⟩
  · have hA : atLeastB p e = false := by unfold atLeastB; rw [hf]; rfl
    have hb : ((Fl.spCls p : Int) != 1) = true := by rw [bne_iff_ne]; omega
    go_enter Tadg.func57, Tadg.ntmps57
    go_wp2_with (go_at_call 24; refine (split64_any _ hp _).mono ?_; rintro e w' ⟨rfl, rfl⟩)
    go_ret
    exact ⟨by rw [hA]; first | rfl | simp [*], rfl⟩

end Go.Proofs.YgctadDoor
