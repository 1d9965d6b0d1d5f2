import Derived.Test.YgctadW20
namespace Go.Proofs.Ygctad
open Go.RowKit Go.Acc Rn
set_option linter.unusedSimpArgs false
set_option linter.unusedVariables false

set_option maxHeartbeats 2000000 in
theorem shl_any (B : Nat) (v : Int) (k W s : Nat) (hk : k < 4352) (hW : Hid (k = 64 * W + s)) (hs : s < 64) (w : World) (hA : AccAt w B (dig v)) :
    Calls Tadg.prog 20 #[.pointer (some ⟨B, 0, none⟩), .int .u16 k] w fun e w' => e = .returned (.tuple #[]) ∧ AccAt w' B (dig (v * P k)) ∧ Only B w w' := by
  have hWd : ∀ j, Word (dig v j) := dig_word v
  obtain ⟨c0, hV⟩ := val_of v
  have hW68 : W < 68 := by have := hW.out; omega
  have HT : Hid (∃ c, val (shw (dig v) W s) 68 = v * P k + c * P (64 * 68)) := by rw [hW.out]; exact shw_total hWd hV W s (by omega) hs
  have HW : ∀ j, Word (shw (dig v) W s j) := shw_word hWd W s hs
  have HS : Hid (∀ j, shw (dig v) W s j = (if W ≤ j then dig v (j - W) * 2 ^ s % 18446744073709551616 else 0) + (if W < j then dig v (j - W - 1) / 2 ^ (64 - s) else 0)) := fun j => rfl
  clear hV
  generalize shw (dig v) W s = sh at *
  generalize dig v = f at *
  have eW : (k : Int) / 64 = (W : Int) := by have := hW.out; omega
  have eS : (k : Int) % 64 = (s : Int) := by have := hW.out; omega
  have eW' : k / 64 = W := by have := hW.out; omega
  have eS' : k % 64 = s := by have := hW.out; omega
  have k0 : (0 : Int) ≤ (k : Int) := by omega
  have kk : (k : Int) < 65536 := by omega
  go_enter Tadg.func20, Tadg.ntmps20
  go_wp2
  rw [eS]
  clear eS eS' eW eW'
  go_loopw [6, 7] (fun i _ w1 => ∃ m : Nat, m ≤ 68 ∧ ∃ g, i = .int .i64 ((m : Int) - 1) ∧ AccAt w1 B g ∧ Only B w w1 ∧ (∀ j, Word (g j)) ∧ (∀ j, j < m → g j = f j) ∧ ∀ j, m ≤ j → j < 68 → g j = sh j) (fun i _ _ => (intOf i + 1).toNat)
  case atStart => exact ⟨68, by omega, f, rfl, hA, Only.refl _ _, hWd, fun _ _ => rfl, fun j h1 h2 => by omega⟩
  case round =>
    obtain ⟨m, hm, g, rfl, hG, hO, hg, hlo, hhi⟩ := hrel
    have Hlo : Hid (∀ j, j < m → g j = f j) := hlo
    have Hhi : Hid (∀ j, m ≤ j → j < 68 → g j = sh j) := hhi
    clear hlo hhi hA
    by_cases hm0 : m = 0
    · subst hm0
      have hneg : ¬ (0 : Int) ≤ ((0 : Nat) : Int) - 1 := by omega
      go_wp2
      go_end0
      refine ⟨rfl, ?_, hO⟩
      have hG2 : AccAt wr B sh := hG.ext (fun i hi => Hhi.out i (Nat.zero_le _) hi)
      exact hG2.of HW HT.out
    · obtain ⟨d, hd⟩ : ∃ d, m = d + 1 := ⟨m - 1, by omega⟩
      subst hd
      have ei : ((d + 1 : Nat) : Int) - 1 = d := by omega
      rw [ei]
      have d0 : (0 : Int) ≤ (d : Int) := by omega
      have d68 : (d : Int) < 68 := by omega
      have hcd := hG.cell d (by omega)
      have hfd := hG.frozen d
      have Fin : Hid (∀ x, x = sh d → ∃ m : Nat, m ≤ 68 ∧ ∃ g', Value.int .i64 ((d : Int) - 1) = .int .i64 ((m : Int) - 1) ∧ AccAt (wr.setCell ⟨B, d, none⟩ (.int .u64 x)) B g' ∧ Only B w (wr.setCell ⟨B, d, none⟩ (.int .u64 x)) ∧ (∀ j, Word (g' j)) ∧ (∀ j, j < m → g' j = f j) ∧ ∀ j, m ≤ j → j < 68 → g' j = sh j) := by
        intro x hx
        refine ⟨d, by omega, upd g d x, rfl, hG.set d (by omega) x, hO.setCell d _, upd_word hg (by rw [hx]; exact HW d) d, ?_, ?_⟩
        · intro j hj; unfold upd; rw [if_neg (by omega)]; exact Hlo.out j (by omega)
        · intro j h1 h2; unfold upd
          by_cases e : j = d
          · rw [if_pos e, hx, e]
          · rw [if_neg e]; exact Hhi.out j (by omega) h2
      by_cases c1 : d < W
      · have c1' : ¬ (W : Int) ≤ (d : Int) := by omega
        have c2' : ¬ (W : Int) < (d : Int) := by omega
        have hx : Hid (0 = sh d) := by unfold Hid; rw [HS.out, if_neg (by omega), if_neg (by omega)]; rfl
        go_wp2
        go_roundw
        case rel => exact Fin.out 0 hx.out
        case measure => simp [intOf]
      · obtain ⟨e, he⟩ : ∃ e, d = W + e := ⟨d - W, by omega⟩
        have ee : (d : Int) - W = e := by omega
        have c1' : (W : Int) ≤ (d : Int) := by omega
        have hce := hG.cell e (by omega)
        rw [Hlo.out e (by omega)] at hce
        have e68 : (e : Int) < 68 := by omega
        have hwe := hWd e
        by_cases c2 : d = W
        · have c2' : ¬ (W : Int) < (d : Int) := by omega
          have hx : Hid (IntKind.u64.wrap (f e * 2 ^ s) = sh d) := by
            unfold Hid; rw [HS.out, if_pos (by omega), if_neg (by omega), wrap_u64, show d - W = e by omega]; omega
          clear he c2
          go_wp2
          go_roundw
          case rel => exact Fin.out _ hx.out
          case measure => simp [intOf]
        · obtain ⟨e', he'⟩ : ∃ e', e = e' + 1 := ⟨e - 1, by omega⟩
          have ee' : (e : Int) - 1 = e' := by omega
          have c2' : (W : Int) < (d : Int) := by omega
          have hce' := hG.cell e' (by omega)
          rw [Hlo.out e' (by omega)] at hce'
          have e68' : (e' : Int) < 68 := by omega
          have s64 : (64 : Int) - s = ((64 - s : Nat) : Int) := by omega
          have hx : Hid (bits .or .u64 (IntKind.u64.wrap (f e * 2 ^ s)) (f e' / 2 ^ (64 - s)) = sh d) := by
            unfold Hid
            obtain ⟨a1, a2, a3, a4, a5⟩ := shl_parts (hWd e) s hs
            obtain ⟨b1, b2, b3, b4, b5⟩ := shl_parts (hWd e') s hs
            rw [or_join a1 b2 s a4 b3, HS.out, if_pos (by omega), if_pos (by omega), wrap_u64, show d - W = e by omega, show e - 1 = e' by omega]
          clear he c2 he'
          go_wp2
          go_roundw
          case rel => exact Fin.out _ hx.out
          case measure => simp [intOf]

end Go.Proofs.Ygctad
