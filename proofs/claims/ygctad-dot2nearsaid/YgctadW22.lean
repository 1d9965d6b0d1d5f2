import Derived.Test.YgctadW21
namespace Go.Proofs.Ygctad
open Go.RowKit Go.Acc Rn
set_option linter.unusedSimpArgs false
set_option linter.unusedVariables false

set_option maxHeartbeats 1000000 in
theorem gap_any (v u : Int) (hS : Sgd (v - u)) (w : World) :
    Calls Tadg.prog 18 #[.agg (accC (dig v)), .agg (accC (dig u))] w fun e w' => e = .returned (.agg (accC (dig (v - u).natAbs))) ∧ Below w.heap.size w w' := by
  have hz := Tadg.zero34
  obtain ⟨W0, hW0⟩ : ∃ W0, W0 = ((w.alloc (.cells (accC (dig v)) 34)).alloc (.cells (accC (dig u)) 34)).alloc (.cells (accC (dig 0)) 34) := ⟨_, rfl⟩
  have a0 : AccAt W0 w.heap.size (dig v) := by rw [hW0]; exact ((AccAt.new w (dig v)).old _).old _
  have a1 : AccAt W0 (w.heap.size + 1) (dig u) := by
    have := AccAt.new (w.alloc (.cells (accC (dig v)) 34)) (dig u)
    rw [World.size_alloc] at this
    rw [hW0]; exact this.old _
  have a2 : AccAt W0 (w.heap.size + 2) (dig 0) := by
    have := AccAt.new ((w.alloc (.cells (accC (dig v)) 34)).alloc (.cells (accC (dig u)) 34)) (dig 0)
    rw [World.size_alloc, World.size_alloc] at this
    rw [hW0]; exact this
  have b0 : Below w.heap.size w W0 := by rw [hW0]; exact (((Below.refl _ _).alloc (Nat.le_refl _) _).alloc (by simp) _).alloc (by simp; omega) _
  go_enter Tadg.func18, Tadg.ntmps18
  go_wp2_with fail
  rw [← hW0]
  clear hW0
  refine (neg_any (w.heap.size + 1) u _ a1).mono ?_
  rintro e w1 ⟨rfl, n1, o1⟩
  have c0 := o1.acc (show w.heap.size ≠ w.heap.size + 1 by omega) a0
  have c2 := o1.acc (show w.heap.size + 2 ≠ w.heap.size + 1 by omega) a2
  go_wp2_with (first
    | (go_at_call 23; refine (accAdd_any w.heap.size (w.heap.size + 1) v (-u) _ (by omega) c0 n1).mono ?_; rintro e w2 ⟨rfl, n2, o2⟩; have d2 := o2.acc (show w.heap.size + 2 ≠ w.heap.size by omega) c2)
    | (go_at_call 21; refine (abs_any w.heap.size (v + -u) hS _ n2).mono ?_; rintro e w3 ⟨rfl, n3, o3⟩; have e2 := o3.acc (show w.heap.size + 2 ≠ w.heap.size by omega) d2)
    | (refine wpList_load_row rfl 34 _ rfl w.heap.size rfl 34 _ (0, 0) _ n3 Tadg.underlying34 rfl (Tadg.size34 _) ?_)
    | (refine wpList_store_row rfl 34 _ _ rfl (w.heap.size + 2) _ rfl rfl 34 _ e2 (Tadg.size34 _) (by rw [accC_size, accC_size]) (accC_one _) ?_))
  have h3 : AccAt (w3.setRow (w.heap.size + 2) (accC (dig (v + -u).natAbs))) (w.heap.size + 2) (dig (v + -u).natAbs) := e2.setRow
  refine bodyPost_ret (results_cell_row Tadg.results18 _ _ (w.heap.size + 2) 34 _ (0, 0) _ rfl h3 Tadg.underlying34 rfl (Tadg.size34 _)) rfl ⟨rfl, ?_⟩
  exact below_row (((b0.trans (o1.below (by omega))).trans (o2.below (Nat.le_refl _))).trans (o3.below (Nat.le_refl _))) (by omega) _

theorem mulSmall_step {f g : Nat → Int} {o m x c : Int} {k : Nat} (e : val g k + o * P (64 * k) = m * val f k) (hx : x + c * 18446744073709551616 = f k * m + o) :
    val (upd g k x) (k + 1) + c * P (64 * (k + 1)) = m * val f (k + 1) := by
  rw [val_upd_succ, val_succ, P64, Int.mul_add, ← e]
  have h1 : x * P (64 * k) + c * 18446744073709551616 * P (64 * k) = f k * m * P (64 * k) + o * P (64 * k) := by rw [← Int.add_mul, hx, Int.add_mul]
  have h2 : m * (f k * P (64 * k)) = f k * m * P (64 * k) := by rw [← Int.mul_assoc, Int.mul_comm m]
  rw [h2, ← Int.mul_assoc]
  omega

theorem mulSmall_bd {a o m : Int} (ha : Word a) (hm0 : 0 ≤ m) (hm : m < 4294967296) (ho0 : 0 ≤ o) (ho : o ≤ m) :
    ads (mlo a m) o 0 + (mhi a m + adc (mlo a m) o 0) * 18446744073709551616 = a * m + o ∧ 0 ≤ mhi a m + adc (mlo a m) o 0 ∧ mhi a m + adc (mlo a m) o 0 ≤ m := by
  have h1 := m_eq a m
  have h2 := ads_eq (mlo a m) o 0
  have h3 := ads_wd (mlo a m) o 0
  have h0 := Int.mul_nonneg ha.1 hm0
  have h4 : a * m ≤ 18446744073709551615 * m := Int.mul_le_mul_of_nonneg_right (by have := ha.2; omega) hm0
  have h5 := mhi_word (x := a) (y := m) ha ⟨hm0, by omega⟩
  have h6 := mlo_word a m
  have h7 := adc_cy h6 (show Word o from ⟨ho0, by omega⟩) (show Cy 0 from ⟨by omega, by omega⟩)
  obtain ⟨h3a, h3b⟩ := h3
  obtain ⟨h5a, h5b⟩ := h5
  obtain ⟨h7a, h7b⟩ := h7
  generalize a * m = z at *
  generalize ads (mlo a m) o 0 = s at *
  generalize adc (mlo a m) o 0 = c at *
  generalize mhi a m = H at *
  generalize mlo a m = L at *
  refine ⟨by omega, by omega, by omega⟩

set_option maxHeartbeats 2000000 in
theorem mulSmall_any (B : Nat) (v m : Int) (hm0 : 0 ≤ m) (hm : m < 4294967296) (w : World) (hA : AccAt w B (dig v)) :
    Calls Tadg.prog 24 #[.pointer (some ⟨B, 0, none⟩), .int .u32 m] w fun e w' => e = .returned (.tuple #[]) ∧ AccAt w' B (dig (v * m)) ∧ Only B w w' := by
  have hW : ∀ j, Word (dig v j) := dig_word v
  obtain ⟨c0, hV⟩ := val_of v
  have HV : Hid (val (dig v) 68 = v + c0 * P (64 * 68)) := hV
  clear hV
  generalize dig v = f at *
  have wm : Word m := ⟨hm0, by omega⟩
  have z0 : Cy 0 := ⟨by omega, by omega⟩
  go_enter Tadg.func24, Tadg.ntmps24
  go_wp2
  go_loopw [4, 5] (fun c i w1 => ∃ k : Nat, k ≤ 68 ∧ ∃ o g, i = .int .i64 k ∧ c = .int .u64 o ∧ 0 ≤ o ∧ o ≤ m ∧ AccAt w1 B g ∧ Only B w w1 ∧ (∀ j, Word (g j)) ∧ val g k + o * P (64 * k) = m * val f k ∧ ∀ j, k ≤ j → g j = f j) (fun _ i _ => 68 - (intOf i).toNat)
  case atStart => exact ⟨0, by omega, 0, f, rfl, rfl, by omega, hm0, hA, Only.refl _ _, hW, by simp [val], fun _ _ => rfl⟩
  case round =>
    obtain ⟨k, hk, o, g, rfl, rfl, ho0, ho, hG, hO, hg, he, hs⟩ := hrel
    have He : Hid (val g k + o * P (64 * k) = m * val f k) := he
    have Hs : Hid (∀ j, k ≤ j → g j = f j) := hs
    clear he hs hA
    by_cases hlt : k < 68
    · have hc := hG.cell k hlt
      have hfr := hG.frozen k
      have w1 := hg k
      obtain ⟨q1, q2, q3⟩ := mulSmall_bd w1 hm0 hm ho0 ho
      have Q1 : Hid (ads (mlo (g k) m) o 0 + (mhi (g k) m + adc (mlo (g k) m) o 0) * 18446744073709551616 = g k * m + o) := q1
      have ww : IntKind.u64.wrap (mhi (g k) m + adc (mlo (g k) m) o 0) = mhi (g k) m + adc (mlo (g k) m) o 0 := by rw [wrap_u64]; omega
      clear q1
      go_wp2_with (first
        | (go_at_call 49; refine (mul_any _ _ w1 wm _).mono ?_; rintro e w' ⟨rfl, rfl⟩)
        | (go_at_call 48; refine (add_any _ _ _ (mlo_word ..) ⟨ho0, by omega⟩ z0 _).mono ?_; rintro e w' ⟨rfl, rfl⟩))
      go_roundw
      case rel =>
        have e1 : g k = f k := Hs.out k (Nat.le_refl _)
        refine ⟨k + 1, by omega, _, _, by go_num, rfl, q2, q3, hG.set k hlt (ads (mlo (g k) m) o 0), hO.setCell k _, upd_word hg (ads_wd ..) k, ?_, ?_⟩
        · exact mulSmall_step He.out (by rw [← e1]; exact Q1.out)
        · intro j hj; unfold upd; rw [if_neg (by omega)]; exact Hs.out j (by omega)
      case measure => simp [intOf]; omega
    · go_wp2
      go_end0
      have hk68 : k = 68 := by omega
      subst hk68
      refine ⟨rfl, hG.of hg ⟨m * c0 - o, ?_⟩, hO⟩
      have h1 := He.out
      rw [HV.out, Int.mul_add, ← Int.mul_assoc, Int.mul_comm m v] at h1
      rw [Int.sub_mul]; omega

end Go.Proofs.Ygctad
