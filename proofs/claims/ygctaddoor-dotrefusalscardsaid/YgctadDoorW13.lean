import Derived.Test.YgctadDoorW10
import Derived.Test.YgctadDoorW12
namespace Go.Proofs.YgctadDoor
open Go.RowKit Go.Acc Rn
set_option linter.unusedSimpArgs false
set_option linter.unusedVariables false

theorem place_any (B : Nat) (v : Int) (ng : Bool) (hi lo : Int) (i : Nat) (w : World) (hA : AccAt w B (dig v)) (hhi : Word hi) (hlo : Word lo) (hi4 : i < 4160) :
    Calls Tadg.prog 59 #[.pointer (some ⟨B, 0, none⟩), .bool ng, .int .u64 hi, .int .u64 lo, .int .i64 i] w fun e w' => e = .returned (.tuple #[]) ∧
      AccAt w' B (dig (v + (if ng then -((hi * 18446744073709551616 + lo) * P i) else (hi * 18446744073709551616 + lo) * P i))) ∧ Only B w w' := by
  cases ng
  · exact place_pos B v hi lo i (i / 64) (i % 64) w hA hhi hlo hi4 (by unfold Hid; omega) (Nat.mod_lt _ (by decide))
  · exact place_neg B v hi lo i (i / 64) (i % 64) w hA hhi hlo hi4 (by unfold Hid; omega) (Nat.mod_lt _ (by decide))

/-- What a finite float adds to an accumulator. -/
theorem vz_place (p : Nat) (hp : p < 18446744073709551616) (hf : Rn.fin p = true) :
    (if Fl.spNeg p then -((0 * 18446744073709551616 + (Fl.spMan p : Int)) * P (Fl.spExp p + 2148).toNat) else (0 * 18446744073709551616 + (Fl.spMan p : Int)) * P (Fl.spExp p + 2148).toNat) = vz p * P 1074 := by
  have hX := spExp_bd p
  have e : P (Fl.spExp p + 2148).toNat = P (Fl.spExp p + 1074).toNat * P 1074 := by rw [← P_add]; congr 1; omega
  rw [vz_sp p hp hf, e, Int.natCast_mul]
  have e2 : ((2 ^ (Fl.spExp p + 1074).toNat : Nat) : Int) = P (Fl.spExp p + 1074).toNat := rfl
  rw [e2]
  cases Fl.spNeg p
  · simp only [Bool.false_eq_true, if_false]
    rw [Int.zero_mul, Int.zero_add, Int.mul_assoc]
  · simp only [if_true]
    rw [Int.zero_mul, Int.zero_add, Int.neg_mul, Int.mul_assoc]

set_option maxHeartbeats 1000000 in
theorem addFloat_any (B : Nat) (v : Int) (p : Nat) (hp : p < 18446744073709551616) (hf : Rn.fin p = true) (w : World) (hA : AccAt w B (dig v)) :
    Calls Tadg.prog 47 #[.pointer (some ⟨B, 0, none⟩), .float .f64 p] w fun e w' => e = .returned (.bool true) ∧ AccAt w' B (dig (v + vz p * P 1074)) ∧ Only B w w' := by
  have hX := (spExp_bd p).1
  have hX2 := (spExp_bd p).2
  have hV := vz_place p hp hf
  have HV : Hid ((if Fl.spNeg p then -((0 * 18446744073709551616 + (Fl.spMan p : Int)) * P (Fl.spExp p + 2148).toNat) else (0 * 18446744073709551616 + (Fl.spMan p : Int)) * P (Fl.spExp p + 2148).toNat) = vz p * P 1074) := hV
  have hc : ((1 : Int) < (Fl.spCls p : Int)) = False := by
    have := fin_cls p; rw [hf] at this; simp at this ⊢; omega
  obtain ⟨i, hi⟩ : ∃ i : Nat, Fl.spExp p + 2148 = (i : Int) := ⟨(Fl.spExp p + 2148).toNat, by omega⟩
  have hi4 : i < 4160 := by omega
  have Hi : Hid (Fl.spExp p + 2148 = (i : Int)) := hi
  have hm : Word (Fl.spMan p) := ⟨by omega, by have := spMan_lt p; omega⟩
  have hc' : (Fl.spCls p : Int) ≤ 1 := by have := fin_cls p; rw [hf] at this; simpa using this
  clear hV hc
  go_enter Tadg.func47, Tadg.ntmps47
  go_wp2_with (first
    | (go_at_call 24; refine (split64_any _ hp _).mono ?_; rintro e w' ⟨rfl, rfl⟩)
    | (go_at_call 59; refine (place_any B v _ 0 _ i _ hA ⟨by omega, by omega⟩ hm hi4).mono ?_; rintro e w' ⟨rfl, h1, h2⟩))
  go_ret
  refine ⟨rfl, ?_, h2⟩
  rw [← HV.out, Hi.out, Int.toNat_natCast]
  exact h1

theorem Tadg.zero29 (W : World) : (zeroValue 29).run Tadg.prog W = .ok (.agg (accC (dig 0))) W := by
  have e : accC (dig 0) = accC (fun _ => 0) := accC_ext fun i _ => dig_zero i
  rw [e]
  have h : (Tadg.prog.info? 29).map (·.zero) = some (some (.agg (accC (fun _ => 0)))) := by kernel_rfl
  cases hi : Tadg.prog.info? 29 with
  | none => rw [hi] at h; cases h
  | some i =>
    rw [hi] at h
    simp only [Option.map_some, Option.some.injEq] at h
    simp [zeroValue, typeInfo, hi, h]
theorem Tadg.size29 (f : Nat → Int) : (Tadg.prog.info? 29).map (·.size) = some (accC f).size := by
  rw [accC_size]; kernel_rfl
theorem below_row {B g : Nat} {w0 w : World} (hb : Below B w0 w) (h : B ≤ g) (cs : Array Value) : Below B w0 (w.setRow g cs) :=
  ⟨hb.os, hb.tape, hb.output, by rw [setRow_size]; exact hb.size, fun k hk => by rw [setRow_other _ _ _ _ (by omega)]; exact hb.block k hk⟩

set_option maxHeartbeats 1000000 in
theorem accOf_any (p : Nat) (hp : p < 18446744073709551616) (hf : Rn.fin p = true) (w : World) :
    Calls Tadg.prog 23 #[.float .f64 p] w fun e w' => e = .returned (.agg (accC (dig (vz p * P 1074)))) ∧ Below w.heap.size w w' := by
  have hz := Tadg.zero29
  have n1 := AccAt.new (w.alloc (.cells (accC (dig 0)) 29)) (dig 0)
  have n0 := (AccAt.new w (dig 0)).old (.cells (accC (dig 0)) 29)
  rw [World.size_alloc] at n1
  go_enter Tadg.func23, Tadg.ntmps23
  go_wp2_with (first
    | (go_at_call 47; refine (addFloat_any (w.heap.size + 1) 0 _ hp hf _ n1).mono ?_; rintro e w1 ⟨rfl, h1, h2⟩; have h0 := h2.acc (show w.heap.size ≠ w.heap.size + 1 by omega) n0)
    | (refine wpList_load_row rfl 29 _ rfl (w.heap.size + 1) rfl 29 _ (0, 0) _ h1 Tadg.underlying29 rfl (Tadg.size29 _) ?_)
    | (refine wpList_store_row rfl 29 _ _ rfl w.heap.size _ rfl rfl 29 _ h0 (Tadg.size29 _) (by rw [accC_size, accC_size]) (accC_one _) ?_))
  have h3 : AccAt (w1.setRow w.heap.size (accC (dig (0 + vz p * P 1074)))) w.heap.size (dig (0 + vz p * P 1074)) := h0.setRow
  refine bodyPost_ret (results_cell_row Tadg.results23 _ _ w.heap.size 29 _ (0, 0) _ rfl h3 Tadg.underlying29 rfl (Tadg.size29 _)) rfl ⟨by rw [Int.zero_add], ?_⟩
  exact below_row ((((Below.refl _ _).alloc (Nat.le_refl _) _).alloc (by simp) _).trans (h2.below (by omega))) (Nat.le_refl _) _

set_option maxHeartbeats 1000000 in
theorem accSum_any (p q : Nat) (hp : p < 18446744073709551616) (hf : Rn.fin p = true) (hq : q < 18446744073709551616) (hg : Rn.fin q = true) (w : World) :
    Calls Tadg.prog 22 #[.float .f64 p, .float .f64 q] w fun e w' => e = .returned (.agg (accC (dig (vz p * P 1074 + vz q * P 1074)))) ∧ Below w.heap.size w w' := by
  have hz := Tadg.zero29
  have n0 := AccAt.new w (dig 0)
  go_enter Tadg.func22, Tadg.ntmps22
  go_wp2_with (first
    | (go_at_call 23; refine (accOf_any _ hp hf _).mono ?_; rintro e w1 ⟨rfl, hb⟩; have hs := hb.size; rw [World.size_alloc] at hs; have m0 := n0.below hb; have m1 := (AccAt.new w1 (dig 0)).setRow (g := dig (vz p * P 1074)); have m0' := (m0.old (.cells (accC (dig 0)) 29)).setRow_ne (show w.heap.size ≠ w1.heap.size by omega) (accC (dig (vz p * P 1074))))
    | (refine wpList_store_row rfl 29 _ _ rfl w1.heap.size _ rfl rfl 29 _ (AccAt.new w1 (dig 0)) (Tadg.size29 _) (by rw [accC_size, accC_size]) (accC_one _) ?_)
    | (go_at_call 47; refine (addFloat_any w1.heap.size _ _ hq hg _ m1).mono ?_; rintro e w2 ⟨rfl, h1, h2⟩; have h0 := h2.acc (show w.heap.size ≠ w1.heap.size by omega) m0')
    | (refine wpList_load_row rfl 29 _ rfl w1.heap.size rfl 29 _ (0, 0) _ h1 Tadg.underlying29 rfl (Tadg.size29 _) ?_)
    | (refine wpList_store_row rfl 29 _ _ rfl w.heap.size _ rfl rfl 29 _ h0 (Tadg.size29 _) (by rw [accC_size, accC_size]) (accC_one _) ?_))
  have h3 : AccAt (w2.setRow w.heap.size (accC (dig (vz p * P 1074 + vz q * P 1074)))) w.heap.size (dig (vz p * P 1074 + vz q * P 1074)) := h0.setRow
  refine bodyPost_ret (results_cell_row Tadg.results22 _ _ w.heap.size 29 _ (0, 0) _ rfl h3 Tadg.underlying29 rfl (Tadg.size29 _)) rfl ⟨rfl, ?_⟩
  have b1 : Below w.heap.size w w1 := ((Below.refl _ w).alloc (Nat.le_refl _) _).trans (hb.mono (by simp))
  exact below_row ((below_row (b1.alloc (by omega) _) (by omega) _).trans (h2.below (by omega))) (Nat.le_refl _) _

end Go.Proofs.YgctadDoor
