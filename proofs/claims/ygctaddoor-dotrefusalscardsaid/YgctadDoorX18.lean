import Derived.Test.YgctadDoorX17
import Derived.Test.YgctadDoorX15
namespace Rn
open Go.Fl Go.Proofs.YgctadDoor
set_option linter.unusedVariables false
theorem mg_step (m : Nat) : mg m < mg (m + 1) := by
  unfold mg
  by_cases h1 : m + 1 < 4503599627370496
  · rw [if_pos (by omega), if_pos h1]; omega
  · rw [if_neg h1]
    by_cases h2 : m < 4503599627370496
    · rw [if_pos h2, show (m + 1) / 4503599627370496 - 1 = 0 by omega]; omega
    · rw [if_neg h2]
      by_cases h3 : m % 4503599627370496 = 4503599627370495
      · rw [show (m + 1) % 4503599627370496 = 0 by omega, show (m + 1) / 4503599627370496 - 1 = (m / 4503599627370496 - 1) + 1 by omega, h3, Nat.pow_succ]
        have := Nat.two_pow_pos (m / 4503599627370496 - 1)
        omega
      · rw [show (m + 1) % 4503599627370496 = m % 4503599627370496 + 1 by omega, show (m + 1) / 4503599627370496 = m / 4503599627370496 by omega]
        exact Nat.mul_lt_mul_of_pos_right (by omega) (Nat.two_pow_pos _)
theorem mg_mono {a b : Nat} (h : a < b) : mg a < mg b := by
  obtain ⟨d, rfl⟩ : ∃ d, b = a + 1 + d := ⟨b - a - 1, by omega⟩
  induction d with
  | zero => exact mg_step a
  | succ d ih => exact Nat.lt_trans (ih (by omega)) (mg_step _)
theorem mg_inj {a b : Nat} (h : mg a = mg b) : a = b := by
  rcases Nat.lt_trichotomy a b with h1 | h1 | h1
  · have := mg_mono h1; omega
  · exact h1
  · have := mg_mono h1; omega
theorem vz_inj {a b : Nat} (ha : Fw a) (hb : Fw b) (h : vz a = vz b) (h0 : vz a ≠ 0) : a = b := by
  have e1 : mg (a % 9223372036854775808) = mg (b % 9223372036854775808) := by rw [← vz_abs, ← vz_abs, h]
  have e2 := mg_inj e1
  have sa := vz_sign a
  have sb := vz_sign b
  have es : sg a = sg b := by
    cases h1 : sg a <;> cases h2 : sg b <;> rw [h1] at sa <;> rw [h2] at sb <;> simp only [if_true, if_false, Bool.false_eq_true] at sa sb
    all_goals first | rfl | (exfalso; omega)
  unfold sg at es
  have l1 := ha.2
  have l2 := hb.2
  have : a / 9223372036854775808 % 2 = b / 9223372036854775808 % 2 := by
    rcases Nat.mod_two_eq_zero_or_one (a / 9223372036854775808) with h1 | h1 <;> rcases Nat.mod_two_eq_zero_or_one (b / 9223372036854775808) with h2 | h2 <;> rw [h1, h2] at es <;> simp at es <;> omega
  omega

theorem rn_ne {n : Int} (h : n ≠ 0) : rn n ≠ 0 := by
  intro e
  by_cases hp : 0 < n
  · have := rn_mono (show (1 : Int) ≤ n by omega)
    rw [rn_id (F_small (f := 1) (by decide))] at this
    omega
  · have := rn_mono (show n ≤ (-1 : Int) by omega)
    rw [rn_id (F_small (f := -1) (by decide))] at this
    omega

/-- Two words that are both the sum, rounded once. -/
theorem same_word {S : Int} {a b : Nat} (ha : Fw a) (hb : Fw b) (va : vz a = rn S) (vb : vz b = rn S) (za : S = 0 → a = 0) (zb : S = 0 → b = 0) : a = b := by
  by_cases h : S = 0
  · rw [za h, zb h]
  · exact vz_inj ha hb (by rw [va, vb]) (by rw [va]; exact rn_ne h)

theorem P2044 : P 2044 = 1024 * P 2034 := by rw [show (2044 : Nat) = 10 + 2034 by decide, P_add]; rfl
theorem ps_le {fs gs : List Nat} {n : Nat} (h : ∀ k, k < n → InR (vz (fs.getD k 0)) ∧ InR (vz (gs.getD k 0))) : ∀ k, k ≤ n → ((ps fs gs k).natAbs : Int) ≤ (k : Int) * P 2034 := by
  intro k
  induction k with
  | zero => intro _; simp [ps]
  | succ k ih =>
    intro hk
    have i1 := ih (by omega)
    obtain ⟨c, hc, bc⟩ := prod_c (h k (by omega)).1 (h k (by omega)).2
    rw [ps, pc_eq hc, Int.natCast_add, Int.add_mul]
    omega
theorem ps_2060 {fs gs : List Nat} {n : Nat} (h : ∀ k, k < n → InR (vz (fs.getD k 0)) ∧ InR (vz (gs.getD k 0))) (hn : n ≤ 1024) : ((ps fs gs n).natAbs : Int) ≤ P 2060 := by
  have h1 := ps_le h n (Nat.le_refl _)
  have h2 : (n : Int) * P 2034 ≤ 1024 * P 2034 := Int.mul_le_mul_of_nonneg_right (by omega) (Int.le_of_lt (P_pos _))
  have h3 : P 2044 ≤ P 2060 := P_le (by decide)
  have h4 := P2044
  omega
end Rn
namespace Go.Proofs.YgctadDoor
open Go.RowKit Go.Acc Rn
set_option linter.unusedSimpArgs false
set_option linter.unusedVariables false

set_option maxHeartbeats 1000000 in
theorem dotExact_any (b1 o1 b2 o2 c1 c2 n : Nat) (fs gs : List Nat) (hn1 : Hid (fs.length = n)) (hn2 : Hid (gs.length = n)) (l1 : n ≤ 1024) (w : World) (hl1 : b1 < w.heap.size) (hl2 : b2 < w.heap.size) (hf : Fls w b1 o1 fs) (hg : Fls w b2 o2 gs)
    (wf : Hid (∀ i, fs.getD i 0 < 18446744073709551616)) (wg : Hid (∀ i, gs.getD i 0 < 18446744073709551616)) (ha : admB fs gs = true) (hT : Tab w) :
    Calls Tadg.prog 12 #[.slice (some ⟨b1, o1, none⟩) n c1, .slice (some ⟨b2, o2, none⟩) n c2] w fun e w' => ∃ r, e = .returned (.float .f64 r) ∧ Fw r ∧ vz r = rn (ps fs gs n) ∧ (ps fs gs n = 0 → r = 0) ∧ Below w.heap.size w w' := by
  have href : Hid ((!admB fs gs) = false) := by rw [Hid, ha]; rfl
  have hin : Hid (∀ k, k < n → (Rn.fin (fs.getD k 0) = true ∧ InR (vz (fs.getD k 0))) ∧ (Rn.fin (gs.getD k 0) = true ∧ InR (vz (gs.getD k 0)))) := fun k hk => by
    have := ((admB_iff fs gs).1 ha).2.2 k (by have := hn1.out; omega)
    unfold okB at this
    simp only [Bool.and_eq_true] at this
    exact ⟨zeroOr_inR this.1, zeroOr_inR this.2⟩
  have hxs : Hid (xsum fs gs n = ps fs gs n * P 1074) := (sums (fun k hk => ⟨(hin.out k hk).1.2, (hin.out k hk).2.2⟩) n (Nat.le_refl _)).1
  have hpb : Hid (((ps fs gs n).natAbs : Int) ≤ P 2060) := ps_2060 (fun k hk => ⟨(hin.out k hk).1.2, (hin.out k hk).2.2⟩) l1
  have HF : Hid (Fls w b1 o1 fs) := hf
  have HG : Hid (Fls w b2 o2 gs) := hg
  have hz := Tadg.zero29
  have n0 := AccAt.new w (dig 0)
  have hB0 : Below w.heap.size w (w.alloc (.cells (accC (dig 0)) 29)) := (Below.refl _ _).alloc (Nat.le_refl _) _
  go_enter Tadg.func12, Tadg.ntmps12
  go_wp2_with (go_at_call 39; refine (refused_any _ _ _ _ _ _ n n fs gs hn1 hn2 (by omega) (by omega) _ hf hg wf wg).mono ?_; rintro e w' ⟨rfl, hq⟩; obtain rfl := hq.symm; rw [href.out])
  clear hf hg
  generalize w.alloc (.cells (accC (dig 0)) 29) = W at *
  go_loopw [6] (fun i w1 => ∃ k : Nat, k ≤ n ∧ i = .int .i64 k ∧ AccAt w1 w.heap.size (dig (xsum fs gs k)) ∧ Below w.heap.size w w1) (fun i _ => n - (intOf i).toNat)
  case atStart => exact ⟨0, Nat.zero_le _, rfl, n0, hB0⟩
  case round =>
    obtain ⟨k, hk, rfl, A1, hB⟩ := hrel
    by_cases hlt : k < n
    · have e1 := (HF.out.below hl1 hB) k (by have := hn1.out; omega)
      have e2 := (HG.out.below hl2 hB) k (by have := hn2.out; omega)
      have i1 : (k : Int) < (n : Int) := by omega
      obtain ⟨⟨fx, _⟩, ⟨fy, _⟩⟩ := hin.out k hlt
      have wx := wf.out k
      have wy := wg.out k
      have hx1 : Hid (xsum fs gs (k + 1) = xsum fs gs k + vz (fs.getD k 0) * vz (gs.getD k 0)) := rfl
      clear n0 hB0
      generalize fs.getD k 0 = X at *
      generalize gs.getD k 0 = Y at *
      go_wp2
      go_region_with (go_at_call 29; refine (addProd_any w.heap.size (xsum fs gs k) X Y wx fx wy fy _ ?_).mono ?_; exact A1; rintro e w2 ⟨rfl, h1, h2⟩)
      all_goals
        go_wp2
        go_roundw
        case rel => exact ⟨k + 1, by omega, by go_num, by rw [hx1.out]; exact h1, ((below_drewN hB 1).trans (h2.below (C := w.heap.size) (Nat.le_refl _)))⟩
        case measure => simp [intOf]; omega
    · have hx : ¬ (k : Int) < (n : Int) := by omega
      have hkn : k = n := by omega
      subst hkn
      rw [hxs.out] at A1
      have hT1 : Tab wr := hT.below hB hT.lt
      have hsz := hB.size
      clear n0 hB0 hT
      go_wp2_with (go_at_call 10; refine (round_any w.heap.size (ps fs gs k) hpb.out _ hT1 A1).mono ?_; rintro e w2 ⟨r, rfl, fr, vr, zr, hb2⟩)
      go_ret
      exact ⟨r, rfl, fr, vr, zr, hB.trans (hb2.mono hsz)⟩
end Go.Proofs.YgctadDoor
