import Derived.Test.YgctadDoorW1
import Derived.Test.YgctadDoorSp
namespace Go.Proofs.YgctadDoor
open Go.RowKit Rn
set_option linter.unusedSimpArgs false
set_option linter.unusedVariables false

set_option maxHeartbeats 400000 in
theorem finite_any (p : Nat) (hp : p < 18446744073709551616) (w : World) :
    Calls Tadg.prog 21 #[.float .f64 p] w fun e w' => e = .returned (.bool (Rn.fin p)) ∧ w' = w := by
  go_enter Tadg.func21, Tadg.ntmps21
  go_wp2_with (go_at_call 24; refine (split64_any _ hp _).mono ?_; rintro e w' ⟨rfl, rfl⟩)
  go_ret
  exact ⟨by simp [fin_cls], rfl⟩

set_option maxHeartbeats 1000000 in
theorem ends_any (m : Nat) (hm : m < 18446744073709551616) (w : World) :
    Calls Tadg.prog 46 #[.int .u64 m] w fun e w' => ∃ l h : Int, e = .returned (.tuple #[.int .i64 l, .int .i64 h]) ∧ Rn.Ends m 64 l h ∧ w' = w := by
  go_enter Tadg.func46, Tadg.ntmps46
  go_wp2
  go_loop [2, 3, 4] (fun a b i => ∃ k : Nat, k ≤ 64 ∧ ∃ l h : Int, i = .int .i64 k ∧ a = .int .i64 l ∧ b = .int .i64 h ∧ Rn.Ends m k l h) (fun _ _ i => 64 - (intOf i).toNat)
  case atStart => exact ⟨0, by omega, _, _, rfl, rfl, rfl, Rn.Ends.start m⟩
  case round =>
    obtain ⟨k, hk, l, h, rfl, rfl, rfl, he⟩ := hrel
    by_cases hlt : k < 64
    · have hb : bits .and .u64 ((m : Int) / 2 ^ k) 1 = ((m / 2 ^ k % 2 : Nat) : Int) := by
        have := u64_and_nat (m / 2 ^ k) 1 (Nat.lt_of_le_of_lt (Nat.div_le_self ..) hm) (by decide)
        rw [nat_mask1] at this
        simpa using this
      have hbit : m / 2 ^ k % 2 = 0 ∨ m / 2 ^ k % 2 = 1 := by omega
      rcases hbit with hbit | hbit
      · have he' := he.zero hbit
        rw [hbit] at hb
        clear he hbit
        go_wp2
        go_round
        case rel => exact ⟨k + 1, by omega, l, h, by go_num, rfl, rfl, he'⟩
        case measure => simp [intOf]; omega
      · have he' := he.one hbit
        rw [hbit] at hb
        clear he hbit
        by_cases hl : l < 0
        · rw [if_pos hl] at he'
          go_wp2
          go_round
          case rel => exact ⟨k + 1, by omega, _, _, by go_num, rfl, rfl, he'⟩
          case measure => simp [intOf]; omega
        · rw [if_neg hl] at he'
          go_wp2
          go_round
          case rel => exact ⟨k + 1, by omega, _, _, by go_num, rfl, rfl, he'⟩
          case measure => simp [intOf]; omega
    · go_wp2
      go_ret2
      have : k = 64 := by omega
      subst this
      exact ⟨l, h, rfl, he, rfl⟩

/-- What 'atMost' answers. -/
def atMostB (x : Nat) (e : Int) : Bool := Rn.fin x && decide ((vz x).natAbs ≤ 2 ^ (e + 1074).toNat)
/-- What 'atLeast' answers. -/
def atLeastB (x : Nat) (e : Int) : Bool := Rn.fin x && decide (vz x ≠ 0) && decide (2 ^ (e + 1074).toNat ≤ (vz x).natAbs)

theorem top_plain {m H : Nat} (X : Int) (e : Int) (hX : -1074 ≤ X) (he : -1074 ≤ e) (h1 : 2 ^ H ≤ m) (h2 : m < 2 ^ (H + 1)) :
    (X + H < e → m * 2 ^ (X + 1074).toNat ≤ 2 ^ (e + 1074).toNat) ∧ (e < X + H → ¬ m * 2 ^ (X + 1074).toNat ≤ 2 ^ (e + 1074).toNat) ∧
    (X + H = e → (m * 2 ^ (X + 1074).toNat ≤ 2 ^ (e + 1074).toNat ↔ m = 2 ^ H)) ∧ (2 ^ (e + 1074).toNat ≤ m * 2 ^ (X + 1074).toNat ↔ e ≤ X + H) := by
  have hp := Nat.two_pow_pos (X + 1074).toNat
  have low : 2 ^ (H + (X + 1074).toNat) ≤ m * 2 ^ (X + 1074).toNat := by rw [Nat.pow_add]; exact Nat.mul_le_mul_right _ h1
  have high : m * 2 ^ (X + 1074).toNat < 2 ^ (H + 1 + (X + 1074).toNat) := by rw [Nat.pow_add]; exact Nat.mul_lt_mul_of_pos_right h2 hp
  refine ⟨fun h => ?_, fun h => ?_, fun h => ?_, ?_⟩
  · exact Nat.le_trans (Nat.le_of_lt high) (Nat.pow_le_pow_right (by decide) (by omega))
  · have : 2 ^ (e + 1074).toNat < 2 ^ (H + (X + 1074).toNat) := Nat.pow_lt_pow_right (by decide) (by omega)
    omega
  · have e1 : (e + 1074).toNat = H + (X + 1074).toNat := by omega
    rw [e1, Nat.pow_add]
    constructor
    · intro h; have := Nat.le_of_mul_le_mul_right h hp; omega
    · intro h; rw [h]; exact Nat.le_refl _
  · constructor
    · intro h
      have := Nat.lt_of_le_of_lt h high
      have := (Nat.pow_lt_pow_iff_right (a := 2) (by decide)).1 this
      omega
    · intro h
      exact Nat.le_trans (Nat.pow_le_pow_right (by decide) (by omega)) low

theorem atMost_plain {p : Nat} (hp : p < 18446744073709551616) (hf : Rn.fin p = true) (hc : Fl.spCls p ≠ 0) (e : Int) (he : -1074 ≤ e) {l h : Int} (hE : Rn.Ends (Fl.spMan p) 64 l h) :
    (decide (Fl.spExp p + h < e) || (Fl.spExp p + h == e && l == h)) = atMostB p e ∧ decide (e ≤ Fl.spExp p + h) = atLeastB p e ∧ 0 ≤ h ∧ h < 64 := by
  obtain ⟨H, rfl, h1, h2, h3, h4, h5⟩ := hE.full (Nat.lt_trans (spMan_lt p) (by decide)) (spMan_zero p hf hc)
  have hX := spExp_bd p
  obtain ⟨t1, t2, t3, t4⟩ := top_plain (Fl.spExp p) e hX.1 he h2 h3
  have hz : vz p ≠ 0 := fun h => hc ((cls_zero p).2 ⟨hf, h⟩)
  unfold atMostB atLeastB
  rw [hf, vz_abs, spMan_mg p hf]
  refine ⟨?_, ?_, by omega, by omega⟩
  · rw [Bool.eq_iff_iff]
    simp only [Bool.or_eq_true, decide_eq_true_eq, Bool.and_eq_true, beq_iff_eq, Bool.true_and]
    rw [h5]
    by_cases c1 : Fl.spExp p + H < e
    · exact ⟨fun _ => t1 c1, fun _ => .inl c1⟩
    · by_cases c2 : Fl.spExp p + H = e
      · rw [t3 c2]
        exact ⟨fun h => h.elim (fun h => absurd h c1) (·.2), fun h => .inr ⟨c2, h⟩⟩
      · have := t2 (by omega)
        exact ⟨fun h => h.elim (fun h => absurd h c1) (fun h => absurd h.1 c2), fun h => absurd h this⟩
  · rw [Bool.eq_iff_iff]
    simp only [decide_eq_true_eq, Bool.and_eq_true, Bool.true_and]
    rw [t4]
    exact ⟨fun h => ⟨hz, h⟩, fun h => h.2⟩

end Go.Proofs.YgctadDoor
