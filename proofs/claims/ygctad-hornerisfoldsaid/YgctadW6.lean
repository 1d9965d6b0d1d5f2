import Derived.Test.YgctadW5
namespace Go.Proofs.Ygctad
open Go.RowKit
set_option linter.unusedSimpArgs false
set_option linter.unusedVariables false
attribute [local go_sem] Go.Fl.run_add Go.Fl.run_sub Go.Fl.run_mul run50 run52 Go.Fl.run_store_float

theorem Fls.drewN {w : World} {b off : Nat} {xs : List Nat} (h : Fls w b off xs) (n : Nat) : Fls (w.drewN n) b off xs := h

set_option maxHeartbeats 1000000 in
theorem hornerIsFold_walk (a0 : Option Addr) (len0 cap0 : Nat) (z0 : List Int) (a1 : Int) (w : World) (hu : U64s w a0 len0 cap0 z0) :
    Calls Tadg.prog 5 #[.slice a0 len0 cap0, .int .u64 a1] w fun e w' => e = .returned (.bool true) ∧ Below w.heap.size w w' := by
  go_enter Tadg.func5, Tadg.ntmps5
  go_wp2_with (first
    | (go_at_call 26; refine (floats_any a0 len0 cap0 34 z0 w hu (by omega)).mono ?_; rintro e w' ⟨xs, hxs, hlen, rfl, hB, hsz, hF⟩)
    | (go_at_call 27; refine (f64_any a1 _).mono ?_; rintro e w' ⟨rfl, rfl⟩))
  by_cases c0 : xs.length = 0
  · rw [c0]
    clear hlen
    go_wp2_with (first
      | (go_at_call 28; refine (horner_none _ _ _ _).mono ?_; rintro e w' ⟨rfl, rfl⟩)
      | (go_at_call 29; refine (comp_none _ _ _ _).mono ?_; rintro e w' ⟨rfl, rfl⟩)
      | (go_at_call 30; refine (b64_any _ _).mono ?_; rintro e w' ⟨rfl, rfl⟩))
    go_ret
    exact ⟨rfl, hB⟩
  by_cases c1 : xs.length = 34
  · rw [c1]
    clear hlen c0
    go_wp2_with (first
      | (go_at_call 28; refine (horner_many _ _ _ _ (by omega) (by omega) _).mono ?_; rintro e w' ⟨r, n, rfl, rfl, q1, q2⟩)
      | (go_at_call 29; refine (comp_many _ _ _ _ (by omega) (by omega) _).mono ?_; rintro e w' ⟨r', n', rfl, rfl, q1', q2'⟩)
      | (go_at_call 31; refine (isNaN_any _ (by assumption) _).mono ?_; rintro e w' ⟨rfl, rfl⟩))
    go_ret
    refine ⟨by simp [*], below_drewN hB _⟩
  obtain ⟨m, hm⟩ : ∃ m, xs.length = m + 1 := ⟨xs.length - 1, by omega⟩
  rw [hm]
  have Hm : Hid (xs.length = m + 1) := hm
  have hm32 : m ≤ 32 := by omega
  have e0 : ((m : Int) + 1 == 0) = false := by rw [beq_eq_false_iff_ne]; omega
  have hh : (m : Int) + 1 ≤ 33 := by omega
  have e1 : (m : Int) + 1 - 1 = m := by omega
  have e2 : (m : Int) + 1 - 2 = m - 1 := by omega
  have hl := hF m (by omega)
  have hcell : Hid (∀ i, i < m + 1 → w'.cell? ⟨w.heap.size, i, none⟩ = some (.float .f64 (xs.getD i 0))) := fun i hi => by have := hF i (by omega); rwa [Nat.zero_add] at this
  rw [Nat.zero_add] at hl
  clear hm c0 c1 hlen
  go_wp2_with (first
      | (go_at_call 28; refine (horner_some _ _ _ _ m xs Hm.out hm32 _ hF).mono ?_; rintro e w' ⟨r, n, rfl, rfl, q1⟩)
      | (go_at_call 29; refine (comp_some _ _ _ _ m xs Hm.out hm32 _ (hF.drewN _)).mono ?_; rintro e w' ⟨r', n', rfl, rfl⟩))
  have st : ∀ k s a r, k < m → Fl.same s (Fl.hor xs a1.toNat k) = true → Fl.Res .mul s a1.toNat a → Fl.Res .add a (xs.getD (m - 1 - k) 0) r → Fl.same r (Fl.hor xs a1.toNat (k + 1)) = true := by
    intro k s a r hk h1 h2 h3
    refine Fl.hor_step h1 h2 ?_
    rw [show xs.length - 2 - k = m - 1 - k by have := Hm.out; omega]; exact h3
  have st0 : Fl.same (xs.getD m 0) (Fl.hor xs a1.toNat 0) = true := by unfold Fl.hor; rw [Hm.out]; exact Fl.same_refl _
  have hcell' : ∀ i, i < m + 1 → w'.cell? ⟨w.heap.size, i, none⟩ = some (.float .f64 (xs.getD i 0)) := hcell
  clear hcell hl hF
  generalize hH : Fl.hor xs a1.toNat = H at *
  go_loopw [10, 11] (fun s i w1 => ∃ k r n : Nat, k ≤ m ∧ i = .int .i64 ((m : Int) - 1 - k) ∧ s = .float .f64 r ∧ Fl.same r (H k) = true ∧ w1 = w'.drewN n) (fun _ i _ => (intOf i + 1).toNat)
  case atStart => exact ⟨0, _, _, Nat.zero_le _, by go_num, rfl, by simpa using st0, rfl⟩
  case round =>
    obtain ⟨k, t, nn, hk, rfl, rfl, hs, rfl⟩ := hrel
    by_cases hlt : k < m
    · have a2 : (0 : Int) ≤ (m : Int) - 1 - k := by omega
      have hc := hcell' (m - 1 - k) (by omega)
      have st1 := fun a r' => st k t a r' hlt hs
      obtain ⟨d, hd⟩ : ∃ d : Nat, (m : Int) - 1 - k = d := ⟨m - 1 - k, by omega⟩
      rw [show m - 1 - k = d by omega] at hc st1
      rw [hd] at a2 ⊢
      have dl : (d : Int) < (m : Int) + 1 := by omega
      have HD : Hid ((m : Int) - 1 - k = d) := hd
      clear hcell' st hd
      generalize xs.getD d 0 = c at *
      go_wp2
      go_roundw
      case rel => exact ⟨k + 1, _, _, by omega, int_eq (by have := HD.out; omega), rfl, st1 _ _ (Fl.val_res ..) (Fl.val_res ..), rfl⟩
      case measure => simp [intOf]
    · have a2 : ¬ (0 : Int) ≤ (m : Int) - 1 - k := by omega
      have hkm : k = m := by omega
      subst hkm
      have hrt : Fl.same r t = true := Fl.same_trans q1 (Fl.same_comm hs)
      clear hcell' st
      go_wp2_with (go_at_call 13; refine (same_any _ _ _).mono ?_; rintro e w' ⟨rfl, rfl⟩)
      go_ret
      exact ⟨rfl, below_drewN hB _⟩

end Go.Proofs.Ygctad
