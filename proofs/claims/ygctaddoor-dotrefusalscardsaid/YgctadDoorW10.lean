import Derived.Test.YgctadDoorW9
namespace Go.Proofs.YgctadDoor
open Go.RowKit Go.Acc Rn
set_option linter.unusedSimpArgs false
set_option linter.unusedVariables false

set_option maxRecDepth 100000 in
set_option maxHeartbeats 2000000 in
theorem place_neg (B : Nat) (v hi lo : Int) (i k s : Nat) (w : World) (hA : AccAt w B (dig v)) (hhi : Word hi) (hlo : Word lo) (hi4 : i < 4160) (hik : Hid (i = 64 * k + s)) (hs : s < 64) :
    Calls Tadg.prog 59 #[.pointer (some ⟨B, 0, none⟩), .bool true, .int .u64 hi, .int .u64 lo, .int .i64 i] w fun e w' => e = .returned (.tuple #[]) ∧ AccAt w' B (dig (v - (hi * 18446744073709551616 + lo) * P i)) ∧ Only B w w' := by
  have ek : (i : Int) / 64 = (k : Int) := by have := hik.out; omega
  have es : (i : Int) % 64 = (s : Int) := by have := hik.out; omega
  have es' : i % 64 = s := by have := hik.out; omega
  have hk : k + 3 ≤ 67 := by have := hik.out; omega
  obtain ⟨p, q, r, hp, hq, hr, wp, wq, wr, hT⟩ := three_words hhi hlo s hs
  have HT : Hid (p + q * 18446744073709551616 + r * 340282366920938463463374607431768211456 = (hi * 18446744073709551616 + lo) * P s) := hT
  have hW : ∀ j, Word (dig v j) := dig_word v
  obtain ⟨c0, hV⟩ := val_of v
  have HV : Hid (val (dig v) 68 = v + c0 * P (64 * 68)) := hV
  clear hV hT
  generalize dig v = f at *
  have hc0 := hA.cell k (by omega)
  obtain ⟨K1, hK1⟩ : ∃ K1, K1 = k + 1 := ⟨_, rfl⟩
  obtain ⟨K2, hK2⟩ : ∃ K2, K2 = k + 2 := ⟨_, rfl⟩
  obtain ⟨K3, hK3⟩ : ∃ K3, K3 = k + 3 := ⟨_, rfl⟩
  have ix1 : (k : Int) + 1 = (K1 : Int) := by omega
  have ix2 : (k : Int) + 2 = (K2 : Int) := by omega
  have ix3 : (k : Int) + 3 = (K3 : Int) := by omega
  have hc1 := hA.cell K1 (by omega)
  have hc2 := hA.cell K2 (by omega)
  have hf0 := hA.frozen k
  have hf1 := hA.frozen K1
  have hf2 := hA.frozen K2
  have k0 := hW k
  have k1 := hW K1
  have k2 := hW K2
  have l0 : (k : Int) < 68 := by omega
  have l1 : (K1 : Int) < 68 := by omega
  have l2 : (K2 : Int) < 68 := by omega
  have wr1 : IntKind.i64.wrap (K1 : Int) = K1 := by rw [IntKind.wrap_i64]; omega
  have wr2 : IntKind.i64.wrap (K2 : Int) = K2 := by rw [IntKind.wrap_i64]; omega
  have wr3 : IntKind.i64.wrap (K3 : Int) = K3 := by rw [IntKind.wrap_i64]; omega
  have n1 : k ≠ K1 := by omega
  have n2 : k ≠ K2 := by omega
  have n3 : K1 ≠ K2 := by omega
  have HK : Hid (K1 = k + 1 ∧ K2 = k + 2 ∧ K3 = k + 3) := ⟨hK1, hK2, hK3⟩
  clear hK1 hK2 hK3
  have z0 : Cy 0 := ⟨by omega, by omega⟩
  have z1 := sbb_cy (f k) p 0
  have z2 := sbb_cy (f K1) q (sbb (f k) p 0)
  have z3 := sbb_cy (f K2) r (sbb (f K1) q (sbb (f k) p 0))
  go_enter Tadg.func59, Tadg.ntmps59
  go_wp2
  go_quiet (fail)
  go_wp2
  go_region_with (go_at_call 74; refine (sub_any _ _ _ k0 wp z0 _).mono ?_; rintro e w' ⟨rfl, rfl⟩)
  go_wp2
  have hA1 : AccAt ((w.drewN (nq + 1)).setCell ⟨B, k, none⟩ (.int .u64 (sbs (f k) p 0))) B (upd f k (sbs (f k) p 0)) := (hA.drewN _).set k (by omega) _
  have hO1 : Only B w ((w.drewN (nq + 1)).setCell ⟨B, k, none⟩ (.int .u64 (sbs (f k) p 0))) := ((Only.refl B w).drewN _).setCell k _
  generalize ((w.drewN (nq + 1)).setCell ⟨B, k, none⟩ (.int .u64 (sbs (f k) p 0))) = W1 at *
  replace hc1 := hA1.cell K1 (by omega)
  rw [show upd f k (sbs (f k) p 0) K1 = f K1 by unfold upd; rw [if_neg (by omega)]] at hc1
  replace hf1 := hA1.frozen K1
  go_region_with (go_at_call 74; refine (sub_any _ _ _ k1 wq z1 _).mono ?_; rintro e w' ⟨rfl, rfl⟩)
  go_wp2
  have hA2 : AccAt (W1.setCell ⟨B, K1, none⟩ (.int .u64 (sbs (f K1) q (sbb (f k) p 0)))).drew B (upd (upd f k (sbs (f k) p 0)) K1 (sbs (f K1) q (sbb (f k) p 0))) := hA1.set K1 (by omega) _
  have hO2 : Only B w (W1.setCell ⟨B, K1, none⟩ (.int .u64 (sbs (f K1) q (sbb (f k) p 0)))).drew := (hO1.setCell K1 _).drew
  generalize (W1.setCell ⟨B, K1, none⟩ (.int .u64 (sbs (f K1) q (sbb (f k) p 0)))).drew = W2 at *
  replace hc2 := hA2.cell K2 (by omega)
  rw [show upd (upd f k (sbs (f k) p 0)) K1 (sbs (f K1) q (sbb (f k) p 0)) K2 = f K2 by unfold upd; rw [if_neg (by omega), if_neg (by omega)]] at hc2
  replace hf2 := hA2.frozen K2
  go_region_with (go_at_call 74; refine (sub_any _ _ _ k2 wr z2 _).mono ?_; rintro e w' ⟨rfl, rfl⟩)
  go_wp2
  have hA3 : AccAt (W2.setCell ⟨B, K2, none⟩ (.int .u64 (sbs (f K2) r (sbb (f K1) q (sbb (f k) p 0))))).drew B (upd (upd (upd f k (sbs (f k) p 0)) K1 (sbs (f K1) q (sbb (f k) p 0))) K2 (sbs (f K2) r (sbb (f K1) q (sbb (f k) p 0)))) := hA2.set K2 (by omega) _
  have hO3 : Only B w (W2.setCell ⟨B, K2, none⟩ (.int .u64 (sbs (f K2) r (sbb (f K1) q (sbb (f k) p 0))))).drew := (hO2.setCell K2 _).drew
  generalize (W2.setCell ⟨B, K2, none⟩ (.int .u64 (sbs (f K2) r (sbb (f K1) q (sbb (f k) p 0))))).drew = W3 at *
  have hval : val (upd (upd (upd f k (sbs (f k) p 0)) K1 (sbs (f K1) q (sbb (f k) p 0))) K2 (sbs (f K2) r (sbb (f K1) q (sbb (f k) p 0)))) 68 = v + c0 * P (64 * 68) - (hi * 18446744073709551616 + lo) * P i + sbb (f K2) r (sbb (f K1) q (sbb (f k) p 0)) * P (64 * K3) := by
    obtain ⟨e1, e2, e3⟩ := HK.out
    subst e1; subst e2; subst e3
    have q0 := sbs_eq k0 wp z0
    have q1 := sbs_eq k1 wq z1
    have q2 := sbs_eq k2 wr z2
    rw [place_val (p := -p) (q := -q) (r := -r) (c0 := -(sbb (f k) p 0)) (c1 := -(sbb (f (k + 1)) q (sbb (f k) p 0))) (c2 := -(sbb (f (k + 2)) r (sbb (f (k + 1)) q (sbb (f k) p 0)))) (by omega) (by rw [q0]; omega) (by rw [q1]; omega) (by rw [q2]; omega),
      show -p + -q * 18446744073709551616 + -r * 340282366920938463463374607431768211456 = -(p + q * 18446744073709551616 + r * 340282366920938463463374607431768211456) by omega, HT.out, HV.out, hik.out, Nat.add_comm (64 * k) s, P_add, Int.neg_mul, Int.neg_mul, ← Int.mul_assoc]
    omega
  have hw3 : ∀ j, Word (upd (upd (upd f k (sbs (f k) p 0)) K1 (sbs (f K1) q (sbb (f k) p 0))) K2 (sbs (f K2) r (sbb (f K1) q (sbb (f k) p 0))) j) := upd_word (upd_word (upd_word hW (sbs_wd ..) _) (sbs_wd ..) _) (sbs_wd ..) _
  have HVal : Hid (val (upd (upd (upd f k (sbs (f k) p 0)) K1 (sbs (f K1) q (sbb (f k) p 0))) K2 (sbs (f K2) r (sbb (f K1) q (sbb (f k) p 0)))) 68 = v + c0 * P (64 * 68) - (hi * 18446744073709551616 + lo) * P i + sbb (f K2) r (sbb (f K1) q (sbb (f k) p 0)) * P (64 * K3)) := hval
  clear hval hc0 hc1 hc2 hf0 hf1 hf2 hp hq hr n1 n2 n3
  generalize upd (upd (upd f k (sbs (f k) p 0)) K1 (sbs (f K1) q (sbb (f k) p 0))) K2 (sbs (f K2) r (sbb (f K1) q (sbb (f k) p 0))) = g3 at *
  generalize sbb (f K2) r (sbb (f K1) q (sbb (f k) p 0)) = c3 at *
  have hK3 : K3 ≤ 68 := by have := HK.out; omega
  go_loopw [15, 16] (fun c i' w1 => ∃ j : Nat, j ≤ 68 ∧ ∃ b g, i' = .int .i64 j ∧ c = .int .u64 b ∧ Cy b ∧ AccAt w1 B g ∧ Only B w w1 ∧ (∀ j, Word (g j)) ∧ val g 68 = v + c0 * P (64 * 68) - (hi * 18446744073709551616 + lo) * P i + b * P (64 * j)) (fun _ i _ => 68 - (intOf i).toNat)
  case atStart => exact ⟨K3, hK3, c3, g3, rfl, rfl, z3, hA3, hO3, hw3, HVal.out⟩
  case round =>
    obtain ⟨j, hj, b, g, rfl, rfl, hb, hG, hO, hg, he⟩ := hrel
    have He : Hid (val g 68 = v + c0 * P (64 * 68) - (hi * 18446744073709551616 + lo) * P i + b * P (64 * j)) := he
    clear he hA hA1 hA2 hA3 HVal
    by_cases hlt : j < 68
    · have hb01 : b = 0 ∨ b = 1 := by have := hb.1; have := hb.2; omega
      have hl : (j : Int) < 68 := by omega
      rcases hb01 with rfl | rfl
      · go_wp2
        refine bodyPost_ret (results_none Tadg.results59 _ _ _) rfl ?_
        exact ⟨rfl, hG.of hg ⟨c0, by rw [He.out]; omega⟩, hO⟩
      · have hc := hG.cell j hlt
        have hfr := hG.frozen j
        have w1 := hg j
        go_wp2
        go_region_with (go_at_call 74; refine (sub_any _ _ _ w1 ⟨by omega, by omega⟩ hb _).mono ?_; rintro e w' ⟨rfl, rfl⟩)
        all_goals
          go_wp2
          go_roundw
          case rel =>
            refine ⟨j + 1, by omega, _, _, by go_num, rfl, sbb_cy .., (hG.set j hlt (sbs (g j) 0 1)), (hO.setCell j _).drew, upd_word hg (sbs_wd ..) _, ?_⟩
            have q0 := sbs_eq w1 (show Word 0 from ⟨by omega, by omega⟩) hb
            rw [carry_val (b := -1) (c := -(sbb (g j) 0 1)) hlt (by rw [q0]; omega), He.out, Int.neg_mul, Int.neg_mul]; omega
          case measure => simp [intOf]; omega
    · go_wp2
      refine bodyPost_ret (results_none Tadg.results59 _ _ _) rfl ?_
      have hj68 : j = 68 := by omega
      subst hj68
      exact ⟨rfl, hG.of hg ⟨c0 + b, by rw [He.out, Int.add_mul c0 b]; omega⟩, hO⟩

end Go.Proofs.YgctadDoor
