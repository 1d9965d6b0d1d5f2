import Derived.Test.YgctadW3
namespace Go.Proofs.Ygctad
open Go.RowKit
set_option linter.unusedSimpArgs false
set_option linter.unusedVariables false
attribute [local go_sem] Go.Fl.run_add Go.Fl.run_sub Go.Fl.run_mul run50 run52 Go.Fl.run_store_float

theorem int_eq {k : IntKind} {a b : Int} (h : a = b) : Value.int k a = .int k b := by rw [h]
/-- Floats that lie in memory. -/
def Fls (w : World) (b off : Nat) (xs : List Nat) : Prop := ∀ i, i < xs.length → w.cell? ⟨b, off + i, none⟩ = some (.float .f64 (xs.getD i 0))

set_option maxHeartbeats 400000 in
theorem horner_many (a : Option Addr) (len cap x : Nat) (h : 33 < len) (h2 : len ≤ 2000) (w : World) :
    Calls Tadg.prog 28 #[.slice a len cap, .float .f64 x] w fun e w' => ∃ r n, e = .returned (.float .f64 r) ∧ w' = w.drewN n ∧ Fl.isNaN r = true ∧ r < 18446744073709551616 := by
  have h' : (33 : Int) < (len : Int) := by omega
  go_enter Tadg.func28, Tadg.ntmps28
  go_wp2_with (go_at_call 51; refine (nan51_any _).mono ?_; rintro e w' ⟨r, n, rfl, rfl, q1, q2⟩)
  go_ret
  exact ⟨_, _, rfl, rfl, q1, q2⟩

set_option maxHeartbeats 400000 in
theorem horner_none (a : Option Addr) (cap x : Nat) (w : World) :
    Calls Tadg.prog 28 #[.slice a 0 cap, .float .f64 x] w fun e w' => e = .returned (.float .f64 0) ∧ w' = w := by
  go_enter Tadg.func28, Tadg.ntmps28
  go_wp2
  go_ret
  exact ⟨rfl, rfl⟩

set_option maxHeartbeats 400000 in
theorem horner_some (b off cap x m : Nat) (xs : List Nat) (hm : xs.length = m + 1) (h : m ≤ 32) (w : World) (hx : Fls w b off xs) :
    Calls Tadg.prog 28 #[.slice (some ⟨b, off, none⟩) (m + 1) cap, .float .f64 x] w fun e w' => ∃ r n, e = .returned (.float .f64 r) ∧ w' = w.drewN n ∧ Fl.same r (Fl.hor xs x m) = true := by
  have e0 : ((m : Int) + 1 == 0) = false := by rw [beq_eq_false_iff_ne]; omega
  have hh : (m : Int) + 1 ≤ 33 := by omega
  have hl := hx m (by omega)
  have hcell : ∀ i, i < m + 1 → w.cell? ⟨b, off + i, none⟩ = some (.float .f64 (xs.getD i 0)) := fun i hi => hx i (by omega)
  have st : ∀ k s a r, k < m → Fl.same s (Fl.hor xs x k) = true → Fl.Res .mul s x a → Fl.Res .add a (xs.getD (m - 1 - k) 0) r → Fl.same r (Fl.hor xs x (k + 1)) = true := by
    intro k s a r hk h1 h2 h3
    refine Fl.hor_step h1 h2 ?_
    rw [show xs.length - 2 - k = m - 1 - k by omega]; exact h3
  have st0 : Fl.same (xs.getD m 0) (Fl.hor xs x 0) = true := by unfold Fl.hor; rw [hm]; exact Fl.same_refl _
  clear hx hm
  generalize xs.getD m 0 = top at *
  generalize hg : (fun i => xs.getD i 0) = g at *
  have hg' : ∀ i, xs.getD i 0 = g i := fun i => by rw [← hg]
  simp only [hg'] at hcell st
  generalize Fl.hor xs x = H at *
  clear hg hg'
  have e1 : (m : Int) + 1 - 1 = m := by omega
  have e2 : (m : Int) + 1 - 2 = m - 1 := by omega
  go_enter Tadg.func28, Tadg.ntmps28
  go_wp2
  go_loopw [6, 7] (fun s i w1 => ∃ k r n : Nat, k ≤ m ∧ i = .int .i64 ((m : Int) - 1 - k) ∧ s = .float .f64 r ∧ Fl.same r (H k) = true ∧ w1 = w.drewN n) (fun _ i _ => (intOf i + 1).toNat)
  case atStart => exact ⟨0, top, 0, Nat.zero_le _, by go_num, rfl, st0, rfl⟩
  case round =>
    obtain ⟨k, r, n, hk, rfl, rfl, hs, rfl⟩ := hrel
    by_cases hlt : k < m
    · have a1 : (0 : Int) ≤ (m : Int) - 1 - k := by omega
      have hc := hcell (m - 1 - k) (by omega)
      have st1 := fun a r' => st k r a r' hlt hs
      obtain ⟨d, hd⟩ : ∃ d : Nat, (m : Int) - 1 - k = d := ⟨m - 1 - k, by omega⟩
      rw [show m - 1 - k = d by omega] at hc st1
      rw [hd] at a1 ⊢
      have dl : (d : Int) < (m : Int) + 1 := by omega
      have HD : Hid ((m : Int) - 1 - k = d) := hd
      clear hcell st hd
      go_wp2
      go_roundw
      case rel => exact ⟨k + 1, _, _, by omega, int_eq (by have := HD.out; omega), rfl, st1 _ _ (Fl.val_res ..) (Fl.val_res ..), rfl⟩
      case measure => simp [intOf]
    · have a1 : ¬ (0 : Int) ≤ (m : Int) - 1 - k := by omega
      go_wp2
      go_ret
      have : k = m := by omega
      subst this
      exact ⟨_, rfl, ⟨_, rfl⟩, hs⟩

set_option maxHeartbeats 400000 in
theorem comp_many (a : Option Addr) (len cap x : Nat) (h : 33 < len) (h2 : len ≤ 2000) (w : World) :
    Calls Tadg.prog 29 #[.slice a len cap, .float .f64 x] w fun e w' => ∃ r n, e = .returned (.float .f64 r) ∧ w' = w.drewN n ∧ Fl.isNaN r = true ∧ r < 18446744073709551616 := by
  have h' : (33 : Int) < (len : Int) := by omega
  go_enter Tadg.func29, Tadg.ntmps29
  go_wp2_with (go_at_call 51; refine (nan51_any _).mono ?_; rintro e w' ⟨r, n, rfl, rfl, q1, q2⟩)
  go_ret
  exact ⟨_, _, rfl, rfl, q1, q2⟩

set_option maxHeartbeats 400000 in
theorem comp_none (a : Option Addr) (cap x : Nat) (w : World) :
    Calls Tadg.prog 29 #[.slice a 0 cap, .float .f64 x] w fun e w' => e = .returned (.float .f64 0) ∧ w' = w := by
  go_enter Tadg.func29, Tadg.ntmps29
  go_wp2
  go_ret
  exact ⟨rfl, rfl⟩

set_option maxHeartbeats 400000 in
theorem comp_some (b off cap x m : Nat) (xs : List Nat) (hm : xs.length = m + 1) (h : m ≤ 32) (w : World) (hx : Fls w b off xs) :
    Calls Tadg.prog 29 #[.slice (some ⟨b, off, none⟩) (m + 1) cap, .float .f64 x] w fun e w' => ∃ r n, e = .returned (.float .f64 r) ∧ w' = w.drewN n := by
  have e0 : ((m : Int) + 1 == 0) = false := by rw [beq_eq_false_iff_ne]; omega
  have hh : (m : Int) + 1 ≤ 33 := by omega
  have hl := hx m (by omega)
  have hcell : ∀ i, i < m + 1 → w.cell? ⟨b, off + i, none⟩ = some (.float .f64 (xs.getD i 0)) := fun i hi => hx i (by omega)
  clear hx hm
  generalize xs.getD m 0 = top at *
  generalize hg : (fun i => xs.getD i 0) = g at *
  have hg' : ∀ i, xs.getD i 0 = g i := fun i => by rw [← hg]
  simp only [hg'] at hcell
  clear hg hg'
  have e1 : (m : Int) + 1 - 1 = m := by omega
  have e2 : (m : Int) + 1 - 2 = m - 1 := by omega
  go_enter Tadg.func29, Tadg.ntmps29
  go_wp2
  go_loopw [6, 7, 8] (fun s r i w1 => ∃ k p q n : Nat, k ≤ m ∧ i = .int .i64 ((m : Int) - 1 - k) ∧ s = .float .f64 p ∧ r = .float .f64 q ∧ w1 = w.drewN n) (fun _ _ i _ => (intOf i + 1).toNat)
  case atStart => exact ⟨0, top, 0, 0, Nat.zero_le _, by go_num, rfl, rfl, rfl⟩
  case round =>
    obtain ⟨k, p, q, n, hk, rfl, rfl, rfl, rfl⟩ := hrel
    by_cases hlt : k < m
    · have a1 : (0 : Int) ≤ (m : Int) - 1 - k := by omega
      have hc := hcell (m - 1 - k) (by omega)
      obtain ⟨d, hd⟩ : ∃ d : Nat, (m : Int) - 1 - k = d := ⟨m - 1 - k, by omega⟩
      rw [show m - 1 - k = d by omega] at hc
      rw [hd] at a1 ⊢
      have dl : (d : Int) < (m : Int) + 1 := by omega
      have HD : Hid ((m : Int) - 1 - k = d) := hd
      clear hcell hd
      go_wp2_with (first
        | (go_at_call 41; refine (twoProd_any _ _ _).mono ?_; rintro e w' ⟨p1, _, _, _, _, _, _, _, _, _, _, _, _, _, _, _, e4, n1, rfl, rfl, -⟩)
        | (go_at_call 37; refine (twoSum_any _ _ _).mono ?_; rintro e w' ⟨s1, _, _, _, _, f1, n1, rfl, rfl, -⟩))
      go_roundw
      case rel => exact ⟨k + 1, _, _, _, by omega, int_eq (by have := HD.out; omega), rfl, rfl, rfl⟩
      case measure => simp [intOf]
    · have a1 : ¬ (0 : Int) ≤ (m : Int) - 1 - k := by omega
      go_wp2
      go_ret
      exact ⟨⟨_, rfl⟩, _, rfl⟩

end Go.Proofs.Ygctad
