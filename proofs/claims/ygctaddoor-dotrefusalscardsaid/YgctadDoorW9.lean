import Derived.Test.YgctadDoorW8
namespace Go.Proofs.YgctadDoor
open Go.RowKit Go.Acc Rn
set_option linter.unusedSimpArgs false
set_option linter.unusedVariables false

theorem wrap_u64 (n : Int) : IntKind.u64.wrap n = n % 18446744073709551616 := by simp [IntKind.wrap, IntKind.bits, IntKind.signed]

/-- A word shifted left, and what went out above. -/
theorem shl_parts {x : Int} (hx : Word x) (s : Nat) (hs : s < 64) :
    Word (IntKind.u64.wrap (x * 2 ^ s)) ∧ Word (x / 2 ^ (64 - s)) ∧ x / 2 ^ (64 - s) < 2 ^ s ∧ (2 : Int) ^ s ∣ IntKind.u64.wrap (x * 2 ^ s) ∧ IntKind.u64.wrap (x * 2 ^ s) + x / 2 ^ (64 - s) * 18446744073709551616 = x * 2 ^ s := by
  obtain ⟨h0, h1⟩ := hx
  rw [wrap_u64]
  have e : (18446744073709551616 : Int) = 2 ^ s * 2 ^ (64 - s) := by rw [← Int.pow_add, show s + (64 - s) = 64 by omega]; rfl
  have hp : (0 : Int) < 2 ^ s := Int.pow_pos (by decide)
  have hq : (0 : Int) < 2 ^ (64 - s) := Int.pow_pos (by decide)
  have e1 : x * 2 ^ s % 18446744073709551616 = x % 2 ^ (64 - s) * 2 ^ s := by
    rw [e, Int.mul_comm x, Int.mul_emod_mul_of_pos _ _ hp, Int.mul_comm]
  have e2 := Int.emod_add_mul_ediv x (2 ^ (64 - s))
  have b1 := Int.ediv_nonneg h0 (Int.le_of_lt hq)
  have b2 : x / 2 ^ (64 - s) < 2 ^ s := by
    refine Int.ediv_lt_of_lt_mul hq ?_
    rw [← e]; exact h1
  have b3 : (2 : Int) ^ s ≤ 18446744073709551616 := by
    rw [e]
    have := Int.mul_le_mul_of_nonneg_left (show (1 : Int) ≤ 2 ^ (64 - s) by omega) (Int.le_of_lt hp)
    rwa [Int.mul_one] at this
  refine ⟨⟨by omega, by omega⟩, ⟨b1, by omega⟩, b2, ?_, ?_⟩
  · rw [e1]; exact Int.dvd_mul_left ..
  · rw [e1]
    have : x * 2 ^ s = (x % 2 ^ (64 - s) + 2 ^ (64 - s) * (x / 2 ^ (64 - s))) * 2 ^ s := by rw [e2]
    rw [this, Int.add_mul, e, Int.mul_comm (2 ^ (64 - s)) (x / 2 ^ (64 - s)), Int.mul_assoc, Int.mul_comm (2 ^ (64 - s)) (2 ^ s)]

/-- Two numbers that share no digit: 'or' adds them. -/
theorem or_join {x y : Int} (hx : Word x) (hy : Word y) (s : Nat) (h1 : (2 : Int) ^ s ∣ x) (h2 : y < 2 ^ s) : bits .or .u64 x y = x + y := by
  obtain ⟨a, rfl⟩ := Int.eq_ofNat_of_zero_le hx.1
  obtain ⟨b, rfl⟩ := Int.eq_ofNat_of_zero_le hy.1
  have c1 := hx.2; have c2 := hy.2
  have e : ((2 ^ s : Nat) : Int) = 2 ^ s := by simp
  rw [u64_or_nat a b (by omega) (by omega), nat_join s a b, Int.natCast_add]
  · have : (2 ^ s : Nat) ∣ a := Int.natCast_dvd_natCast.1 (by rw [e]; exact h1)
    exact Nat.mod_eq_zero_of_dvd this
  · exact Int.ofNat_lt.1 (by rw [e]; exact h2)

theorem three_words {hi lo : Int} (hhi : Word hi) (hlo : Word lo) (s : Nat) (hs : s < 64) : ∃ p q r : Int,
    IntKind.u64.wrap (lo * 2 ^ s) = p ∧ bits .or .u64 (IntKind.u64.wrap (hi * 2 ^ s)) (lo / 2 ^ (64 - s)) = q ∧ hi / 2 ^ (64 - s) = r ∧ Word p ∧ Word q ∧ Word r ∧
    p + q * 18446744073709551616 + r * 340282366920938463463374607431768211456 = (hi * 18446744073709551616 + lo) * P s := by
  obtain ⟨a1, a2, a3, a4, a5⟩ := shl_parts hlo s hs
  obtain ⟨b1, b2, b3, b4, b5⟩ := shl_parts hhi s hs
  have hq := or_join b1 a2 s b4 a3
  refine ⟨_, _, _, rfl, rfl, rfl, a1, ?_, b2, ?_⟩
  · rw [hq]
    have hs2 : (2 : Int) ^ s ∣ 18446744073709551616 := by
      rw [show (18446744073709551616 : Int) = 2 ^ s * 2 ^ (64 - s) by rw [← Int.pow_add, show s + (64 - s) = 64 by omega]; rfl]
      exact Int.dvd_mul_right ..
    have hp : (0 : Int) < 2 ^ s := Int.pow_pos (by decide)
    obtain ⟨c1, c2⟩ := b1
    obtain ⟨d1, d2⟩ := a2
    refine ⟨by omega, ?_⟩
    have := dvd_le (u := 2 ^ s) (n := IntKind.u64.wrap (hi * 2 ^ s) + 2 ^ s) (m := 18446744073709551616) hp (Int.dvd_add b4 (Int.dvd_refl _)) hs2 (by omega)
    omega
  · rw [hq]
    have : P s = 2 ^ s := by unfold P; simp
    have e3 : (hi * 18446744073709551616 + lo) * (2 : Int) ^ s = hi * 2 ^ s * 18446744073709551616 + lo * 2 ^ s := by rw [Int.add_mul, Int.mul_right_comm]
    have a5' := a5.symm
    have b5' := b5.symm
    generalize IntKind.u64.wrap (lo * 2 ^ s) = x1 at *
    generalize IntKind.u64.wrap (hi * 2 ^ s) = x2 at *
    rw [this, e3, a5', b5']
    omega

theorem upd_word {g : Nat → Int} (hg : ∀ j, Word (g j)) {x : Int} (hx : Word x) (k : Nat) : ∀ j, Word (upd g k x j) := by
  intro j; unfold upd; split
  · exact hx
  · exact hg j

/-- Three words are added, the carry goes on. -/
theorem place_val {f : Nat → Int} {k : Nat} {p q r x0 x1 x2 c0 c1 c2 : Int} (hk : k + 3 ≤ 68) (h0 : x0 = f k + p - c0 * 18446744073709551616) (h1 : x1 = f (k + 1) + q + c0 - c1 * 18446744073709551616)
    (h2 : x2 = f (k + 2) + r + c1 - c2 * 18446744073709551616) :
    val (upd (upd (upd f k x0) (k + 1) x1) (k + 2) x2) 68 = val f 68 + (p + q * 18446744073709551616 + r * 340282366920938463463374607431768211456) * P (64 * k) - c2 * P (64 * (k + 3)) := by
  have g1 : upd (upd f k x0) (k + 1) x1 (k + 2) = f (k + 2) := by unfold upd; rw [if_neg (by omega), if_neg (by omega)]
  have g2 : upd f k x0 (k + 1) = f (k + 1) := by unfold upd; rw [if_neg (by omega)]
  have e3 : P (64 * (k + 3)) = P (64 * k) * 6277101735386680763835789423207666416102355444464034512896 := by rw [P64, P64, P64]; omega
  have e2 : P (64 * (k + 2)) = P (64 * k) * 340282366920938463463374607431768211456 := by rw [P64, P64]; omega
  have e1 : P (64 * (k + 1)) = P (64 * k) * 18446744073709551616 := by rw [P64]; omega
  rw [val_upd _ _ _ _ (by omega), val_upd _ _ _ _ (by omega), val_upd _ _ _ _ (by omega), g1, g2, h0, h1, h2, e1, e2, e3]
  generalize P (64 * k) = u
  simp only [← Int.mul_assoc]
  rw [show f k + p - c0 * 18446744073709551616 - f k = p - c0 * 18446744073709551616 by omega,
    show f (k + 1) + q + c0 - c1 * 18446744073709551616 - f (k + 1) = q + c0 - c1 * 18446744073709551616 by omega,
    show f (k + 2) + r + c1 - c2 * 18446744073709551616 - f (k + 2) = r + c1 - c2 * 18446744073709551616 by omega]
  have m : ∀ a b : Int, (a * b) * u = (a * u) * b := fun a b => Int.mul_right_comm a b u
  simp only [Int.add_mul, Int.sub_mul, m]
  omega

theorem carry_val {g : Nat → Int} {j : Nat} {x b c : Int} (hj : j < 68) (h : x = g j + b - c * 18446744073709551616) :
    val (upd g j x) 68 = val g 68 + b * P (64 * j) - c * P (64 * (j + 1)) := by
  have e1 : P (64 * (j + 1)) = P (64 * j) * 18446744073709551616 := by rw [P64]; omega
  rw [val_upd _ _ _ _ hj, h, e1]
  generalize P (64 * j) = u
  rw [show g j + b - c * 18446744073709551616 - g j = b - c * 18446744073709551616 by omega, Int.sub_mul, Int.mul_right_comm c, ← Int.mul_assoc]
  omega

set_option maxRecDepth 100000 in
set_option maxHeartbeats 2000000 in
theorem place_pos (B : Nat) (v hi lo : Int) (i k s : Nat) (w : World) (hA : AccAt w B (dig v)) (hhi : Word hi) (hlo : Word lo) (hi4 : i < 4160) (hik : Hid (i = 64 * k + s)) (hs : s < 64) :
    Calls Tadg.prog 59 #[.pointer (some ⟨B, 0, none⟩), .bool false, .int .u64 hi, .int .u64 lo, .int .i64 i] w fun e w' => e = .returned (.tuple #[]) ∧ AccAt w' B (dig (v + (hi * 18446744073709551616 + lo) * P i)) ∧ Only B w w' := by
  have ek : (i : Int) / 64 = (k : Int) := by have := hik.out; omega
  have es : (i : Int) % 64 = (s : Int) := by have := hik.out; omega
  have es' : i % 64 = s := by have := hik.out; omega
  have hk : k + 3 ≤ 67 := by have := hik.out; omega
  obtain ⟨p, q, r, hp, hq, hr, wp, wq, wr, hT⟩ := three_words hhi hlo s hs
  have HT : Hid (p + q * 18446744073709551616 + r * 340282366920938463463374607431768211456 = (hi * 18446744073709551616 + lo) * P s) := hT
  have hW : ∀ j, Word (dig v j) := dig_word v
  obtain ⟨c0, hV⟩ := val_of v
  have HV : Hid (val (dig v) 68 = v + c0 * P (64 * 68)) := hV
  clear hV hT
  generalize dig v = f at *
  have hc0 := hA.cell k (by omega)
  obtain ⟨K1, hK1⟩ : ∃ K1, K1 = k + 1 := ⟨_, rfl⟩
  obtain ⟨K2, hK2⟩ : ∃ K2, K2 = k + 2 := ⟨_, rfl⟩
  obtain ⟨K3, hK3⟩ : ∃ K3, K3 = k + 3 := ⟨_, rfl⟩
  have ix1 : (k : Int) + 1 = (K1 : Int) := by omega
  have ix2 : (k : Int) + 2 = (K2 : Int) := by omega
  have ix3 : (k : Int) + 3 = (K3 : Int) := by omega
  have hc1 := hA.cell K1 (by omega)
  have hc2 := hA.cell K2 (by omega)
  have hf0 := hA.frozen k
  have hf1 := hA.frozen K1
  have hf2 := hA.frozen K2
  have k0 := hW k
  have k1 := hW K1
  have k2 := hW K2
  have l0 : (k : Int) < 68 := by omega
  have l1 : (K1 : Int) < 68 := by omega
  have l2 : (K2 : Int) < 68 := by omega
  have wr1 : IntKind.i64.wrap (K1 : Int) = K1 := by rw [IntKind.wrap_i64]; omega
  have wr2 : IntKind.i64.wrap (K2 : Int) = K2 := by rw [IntKind.wrap_i64]; omega
  have wr3 : IntKind.i64.wrap (K3 : Int) = K3 := by rw [IntKind.wrap_i64]; omega
  have n1 : k ≠ K1 := by omega
  have n2 : k ≠ K2 := by omega
  have n3 : K1 ≠ K2 := by omega
  have HK : Hid (K1 = k + 1 ∧ K2 = k + 2 ∧ K3 = k + 3) := ⟨hK1, hK2, hK3⟩
  clear hK1 hK2 hK3
  have z0 : Cy 0 := ⟨by omega, by omega⟩
  have z1 := adc_cy k0 wp z0
  have z2 := adc_cy k1 wq z1
  have z3 := adc_cy k2 wr z2
  go_enter Tadg.func59, Tadg.ntmps59
  go_wp2
  go_quiet (fail)
  go_wp2
  go_region_with (go_at_call 75; refine (add_any _ _ _ k0 wp z0 _).mono ?_; rintro e w' ⟨rfl, rfl⟩)
  go_wp2
  have hA1 : AccAt ((w.drewN (nq + 1)).setCell ⟨B, k, none⟩ (.int .u64 (ads (f k) p 0))) B (upd f k (ads (f k) p 0)) := (hA.drewN _).set k (by omega) _
  have hO1 : Only B w ((w.drewN (nq + 1)).setCell ⟨B, k, none⟩ (.int .u64 (ads (f k) p 0))) := ((Only.refl B w).drewN _).setCell k _
  generalize ((w.drewN (nq + 1)).setCell ⟨B, k, none⟩ (.int .u64 (ads (f k) p 0))) = W1 at *
  replace hc1 := hA1.cell K1 (by omega)
  rw [show upd f k (ads (f k) p 0) K1 = f K1 by unfold upd; rw [if_neg (by omega)]] at hc1
  replace hf1 := hA1.frozen K1
  go_region_with (go_at_call 75; refine (add_any _ _ _ k1 wq z1 _).mono ?_; rintro e w' ⟨rfl, rfl⟩)
  go_wp2
  have hA2 : AccAt (W1.setCell ⟨B, K1, none⟩ (.int .u64 (ads (f K1) q (adc (f k) p 0)))).drew B (upd (upd f k (ads (f k) p 0)) K1 (ads (f K1) q (adc (f k) p 0))) := hA1.set K1 (by omega) _
  have hO2 : Only B w (W1.setCell ⟨B, K1, none⟩ (.int .u64 (ads (f K1) q (adc (f k) p 0)))).drew := (hO1.setCell K1 _).drew
  generalize (W1.setCell ⟨B, K1, none⟩ (.int .u64 (ads (f K1) q (adc (f k) p 0)))).drew = W2 at *
  replace hc2 := hA2.cell K2 (by omega)
  rw [show upd (upd f k (ads (f k) p 0)) K1 (ads (f K1) q (adc (f k) p 0)) K2 = f K2 by unfold upd; rw [if_neg (by omega), if_neg (by omega)]] at hc2
  replace hf2 := hA2.frozen K2
  go_region_with (go_at_call 75; refine (add_any _ _ _ k2 wr z2 _).mono ?_; rintro e w' ⟨rfl, rfl⟩)
  go_wp2
  have hA3 : AccAt (W2.setCell ⟨B, K2, none⟩ (.int .u64 (ads (f K2) r (adc (f K1) q (adc (f k) p 0))))).drew B (upd (upd (upd f k (ads (f k) p 0)) K1 (ads (f K1) q (adc (f k) p 0))) K2 (ads (f K2) r (adc (f K1) q (adc (f k) p 0)))) := hA2.set K2 (by omega) _
  have hO3 : Only B w (W2.setCell ⟨B, K2, none⟩ (.int .u64 (ads (f K2) r (adc (f K1) q (adc (f k) p 0))))).drew := (hO2.setCell K2 _).drew
  generalize (W2.setCell ⟨B, K2, none⟩ (.int .u64 (ads (f K2) r (adc (f K1) q (adc (f k) p 0))))).drew = W3 at *
  have hval : val (upd (upd (upd f k (ads (f k) p 0)) K1 (ads (f K1) q (adc (f k) p 0))) K2 (ads (f K2) r (adc (f K1) q (adc (f k) p 0)))) 68 = v + c0 * P (64 * 68) + (hi * 18446744073709551616 + lo) * P i - adc (f K2) r (adc (f K1) q (adc (f k) p 0)) * P (64 * K3) := by
    obtain ⟨e1, e2, e3⟩ := HK.out
    subst e1; subst e2; subst e3
    rw [place_val (p := p) (q := q) (r := r) (c0 := adc (f k) p 0) (by omega) (by rw [ads_eq]; omega) (ads_eq ..) (ads_eq ..), HT.out, HV.out, hik.out, Nat.add_comm (64 * k) s, P_add, ← Int.mul_assoc]
  have hw3 : ∀ j, Word (upd (upd (upd f k (ads (f k) p 0)) K1 (ads (f K1) q (adc (f k) p 0))) K2 (ads (f K2) r (adc (f K1) q (adc (f k) p 0))) j) := upd_word (upd_word (upd_word hW (ads_wd ..) _) (ads_wd ..) _) (ads_wd ..) _
  have HVal : Hid (val (upd (upd (upd f k (ads (f k) p 0)) K1 (ads (f K1) q (adc (f k) p 0))) K2 (ads (f K2) r (adc (f K1) q (adc (f k) p 0)))) 68 = v + c0 * P (64 * 68) + (hi * 18446744073709551616 + lo) * P i - adc (f K2) r (adc (f K1) q (adc (f k) p 0)) * P (64 * K3)) := hval
  clear hval hc0 hc1 hc2 hf0 hf1 hf2 hp hq hr n1 n2 n3
  generalize upd (upd (upd f k (ads (f k) p 0)) K1 (ads (f K1) q (adc (f k) p 0))) K2 (ads (f K2) r (adc (f K1) q (adc (f k) p 0))) = g3 at *
  generalize adc (f K2) r (adc (f K1) q (adc (f k) p 0)) = c3 at *
  have hK3 : K3 ≤ 68 := by have := HK.out; omega
  go_loopw [15, 17] (fun c i' w1 => ∃ j : Nat, j ≤ 68 ∧ ∃ b g, i' = .int .i64 j ∧ c = .int .u64 b ∧ Cy b ∧ AccAt w1 B g ∧ Only B w w1 ∧ (∀ j, Word (g j)) ∧ val g 68 = v + c0 * P (64 * 68) + (hi * 18446744073709551616 + lo) * P i - b * P (64 * j)) (fun _ i _ => 68 - (intOf i).toNat)
  case atStart => exact ⟨K3, hK3, c3, g3, rfl, rfl, z3, hA3, hO3, hw3, HVal.out⟩
  case round =>
    obtain ⟨j, hj, b, g, rfl, rfl, hb, hG, hO, hg, he⟩ := hrel
    have He : Hid (val g 68 = v + c0 * P (64 * 68) + (hi * 18446744073709551616 + lo) * P i - b * P (64 * j)) := he
    clear he hA hA1 hA2 hA3 HVal
    by_cases hlt : j < 68
    · have hb01 : b = 0 ∨ b = 1 := by have := hb.1; have := hb.2; omega
      have hl : (j : Int) < 68 := by omega
      rcases hb01 with rfl | rfl
      · go_wp2
        go_end0
        exact ⟨rfl, hG.of hg ⟨c0, by rw [He.out]; omega⟩, hO⟩
      · have hc := hG.cell j hlt
        have hfr := hG.frozen j
        have w1 := hg j
        go_wp2
        go_region_with (go_at_call 75; refine (add_any _ _ _ w1 ⟨by omega, by omega⟩ hb _).mono ?_; rintro e w' ⟨rfl, rfl⟩)
        all_goals
          go_wp2
          go_roundw
          case rel =>
            refine ⟨j + 1, by omega, _, _, by go_num, rfl, adc_cy w1 ⟨by omega, by omega⟩ hb, (hG.set j hlt (ads (g j) 0 1)), (hO.setCell j _).drew, upd_word hg (ads_wd ..) _, ?_⟩
            rw [carry_val hlt (show ads (g j) 0 1 = g j + 1 - adc (g j) 0 1 * 18446744073709551616 by rw [ads_eq]; omega), He.out]; omega
          case measure => simp [intOf]; omega
    · go_wp2
      go_end0
      have hj68 : j = 68 := by omega
      subst hj68
      exact ⟨rfl, hG.of hg ⟨c0 - b, by rw [He.out, Int.sub_mul]; omega⟩, hO⟩

end Go.Proofs.YgctadDoor
