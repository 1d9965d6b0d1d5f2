import Derived.Test.YgctadDoorW7
import Derived.Test.YgctadDoorAc
import Derived.Deep.RegionWith
import Derived.Deep.QuietTactic
import Derived.BigQuiet
import Derived.Deep.Cut
import Derived.Deep.CutRange
import Derived.Deep.DeepCutAuto
namespace Go.Proofs.YgctadDoor
open Go.RowKit Go.Acc Rn
set_option linter.unusedSimpArgs false
set_option linter.unusedVariables false

theorem neg_step {f g : Nat → Int} {b x : Int} {k : Nat} (h : val g k = b * P (64 * k) - val f k) (hx : x = 0 - f k - b + sbb 0 (f k) b * 18446744073709551616) :
    val (upd g k x) (k + 1) = sbb 0 (f k) b * P (64 * (k + 1)) - val f (k + 1) := by
  rw [val_upd_succ, val_succ, P64, h, hx]
  generalize P (64 * k) = p
  generalize sbb 0 (f k) b = c
  generalize f k = y
  rw [Int.add_mul, Int.sub_mul, Int.sub_mul, ← Int.mul_assoc]
  omega

set_option maxHeartbeats 1000000 in
theorem neg_any (B : Nat) (v : Int) (w : World) (hA : AccAt w B (dig v)) :
    Calls Tadg.prog 60 #[.pointer (some ⟨B, 0, none⟩)] w fun e w' => e = .returned (.tuple #[]) ∧ AccAt w' B (dig (-v)) ∧ Only B w w' := by
  have hW : ∀ j, Word (dig v j) := dig_word v
  obtain ⟨c0, hV⟩ := val_of v
  have HV : Hid (val (dig v) 68 = v + c0 * P (64 * 68)) := hV
  clear hV
  generalize dig v = f at *
  go_enter Tadg.func60, Tadg.ntmps60
  go_wp2
  go_loopw [2, 3] (fun c i w1 => ∃ k : Nat, k ≤ 68 ∧ ∃ b g, i = .int .i64 k ∧ c = .int .u64 b ∧ Cy b ∧ AccAt w1 B g ∧ Only B w w1 ∧ (∀ j, Word (g j)) ∧ val g k = b * P (64 * k) - val f k ∧ ∀ j, k ≤ j → g j = f j) (fun _ i _ => 68 - (intOf i).toNat)
  case atStart => exact ⟨0, by omega, 0, f, rfl, rfl, ⟨by omega, by omega⟩, hA, Only.refl _ _, hW, by simp [val], fun _ _ => rfl⟩
  case round =>
    obtain ⟨k, hk, b, g, rfl, rfl, hb, hG, hO, hg, he, hs⟩ := hrel
    have He : Hid (val g k = b * P (64 * k) - val f k) := he
    have Hs : Hid (∀ j, k ≤ j → g j = f j) := hs
    clear he hs hA
    by_cases hlt : k < 68
    · have hc := hG.cell k hlt
      have hfr := hG.frozen k
      have w1 := hg k
      go_wp2
      go_region_with (go_at_call 74; refine (sub_any _ _ _ ⟨by omega, by omega⟩ w1 hb _).mono ?_; rintro e w' ⟨rfl, rfl⟩)
      go_wp2
      go_roundw
      case rel =>
        have e1 : g k = f k := Hs.out k (Nat.le_refl _)
        refine ⟨k + 1, by omega, _, _, by go_num, rfl, sbb_cy .., (hG.set k hlt (sbs 0 (g k) b)), (hO.setCell k _).drew, ?_, ?_, ?_⟩
        · intro j; unfold upd; split
          · exact sbs_wd ..
          · exact hg j
        · rw [e1]; exact neg_step He.out (sbs_eq ⟨by omega, by omega⟩ (hW k) hb)
        · intro j hj; unfold upd; rw [if_neg (by omega)]; exact Hs.out j (by omega)
      case measure => simp [intOf]; omega
    · go_wp2
      go_end0
      have hk68 : k = 68 := by omega
      subst hk68
      exact ⟨rfl, hG.of hg ⟨b - c0, by rw [He.out, HV.out, Int.sub_mul]; omega⟩, hO⟩

end Go.Proofs.YgctadDoor
