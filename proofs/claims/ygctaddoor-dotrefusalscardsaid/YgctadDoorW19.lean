import Derived.Test.YgctadDoorW17
import Derived.Test.YgctadDoorWe
namespace Go.Proofs.YgctadDoor
open Go.RowKit Go.Acc Rn
set_option linter.unusedSimpArgs false
set_option linter.unusedVariables false

def sgn (v : Int) : Int := if v < 0 then -1 else if v = 0 then 0 else 1

set_option maxHeartbeats 1000000 in
theorem sign_any (B : Nat) (v : Int) (hS : Sgd v) (w : World) (hA : AccAt w B (dig v)) :
    Calls Tadg.prog 30 #[.pointer (some ⟨B, 0, none⟩)] w fun e w' => e = .returned (.int .i8 (sgn v)) ∧ w' = w := by
  have hc := hA.cell 67 (by omega)
  have ht := top_neg hS
  by_cases hn : v < 0
  · have hd : decide (v < 0) = true := by simpa using hn
    rw [hd] at ht
    go_enter Tadg.func30, Tadg.ntmps30
    go_wp2
    go_ret
    exact ⟨by unfold sgn; rw [if_pos hn]; rfl, rfl⟩
  · have hd : decide (v < 0) = false := by simpa using hn
    rw [hd] at ht
    have Hz : Hid ((∀ j, j < 68 → dig v j = 0) → v = 0) := fun h => zero_words hS (by omega) h
    have Hz2 : Hid (∀ j, v = 0 → dig v j = 0) := fun j h => by rw [h]; exact dig_zero j
    clear hd
    go_enter Tadg.func30, Tadg.ntmps30
    go_wp2
    go_loop [3] (fun i => ∃ k : Nat, k ≤ 68 ∧ i = .int .i64 k ∧ ∀ j, j < k → dig v j = 0) (fun i => 68 - (intOf i).toNat)
    case atStart => exact ⟨0, by omega, rfl, fun j h => absurd h (Nat.not_lt_zero _)⟩
    case round =>
      obtain ⟨k, hk, rfl, hz⟩ := hrel
      have HZ : Hid (∀ j, j < k → dig v j = 0) := hz
      clear hz
      by_cases hlt : k < 68
      · have hck := hA.cell k hlt
        by_cases h0 : dig v k = 0
        · have hb : (dig v k != 0) = false := by rw [h0]; rfl
          have H0 : Hid (dig v k = 0) := h0
          clear h0
          go_wp2
          go_round
          case rel =>
            refine ⟨k + 1, by omega, by go_num, fun j hj => ?_⟩
            by_cases e : j = k
            · rw [e]; exact H0.out
            · exact HZ.out j (by omega)
          case measure => simp [intOf]; omega
        · have hb : (dig v k != 0) = true := by rw [bne_iff_ne]; exact h0
          go_wp2
          go_ret
          refine ⟨?_, rfl⟩
          unfold sgn; rw [if_neg (by omega), if_neg (fun h => h0 (Hz2.out k h))]; rfl
      · go_wp2
        go_ret
        refine ⟨?_, rfl⟩
        have hk68 : k = 68 := by omega
        subst hk68
        unfold sgn; rw [if_neg (by omega), if_pos (Hz.out HZ.out)]; rfl

set_option maxHeartbeats 1000000 in
theorem abs_any (B : Nat) (v : Int) (hS : Sgd v) (w : World) (hA : AccAt w B (dig v)) :
    Calls Tadg.prog 31 #[.pointer (some ⟨B, 0, none⟩)] w fun e w' => e = .returned (.tuple #[]) ∧ AccAt w' B (dig v.natAbs) ∧ Only B w w' := by
  by_cases hn : v < 0
  · have hs : (sgn v < 0) = True := by unfold sgn; rw [if_pos hn]; simp
    go_enter Tadg.func31, Tadg.ntmps31
    go_wp2_with (first
      | (go_at_call 30; refine (sign_any B v hS _ hA).mono ?_; rintro e w' ⟨rfl, rfl⟩)
      | (go_at_call 60; refine (neg_any B v _ hA).mono ?_; rintro e w' ⟨rfl, h1, h2⟩))
    go_end0
    exact ⟨rfl, by rw [show (v.natAbs : Int) = -v by omega]; exact h1, h2⟩
  · have hs : 0 ≤ sgn v := by unfold sgn; rw [if_neg hn]; split <;> decide
    go_enter Tadg.func31, Tadg.ntmps31
    go_wp2_with (first
      | (go_at_call 30; refine (sign_any B v hS _ hA).mono ?_; rintro e w' ⟨rfl, rfl⟩))
    go_end0
    exact ⟨rfl, by rw [show (v.natAbs : Int) = v by omega]; exact hA, Only.refl _ _⟩

end Go.Proofs.YgctadDoor
