import Derived.Test.YgctadDoorX1
import Derived.Test.YgctadDoorW13
import Derived.Test.YgctadDoorTq
import Derived.Test.YgctadDoorEq
namespace Go.Proofs.YgctadDoor
open Go.RowKit Go.Acc Rn
set_option linter.unusedSimpArgs false
set_option linter.unusedVariables false

theorem atMost_bd {x : Nat} {e : Int} {k : Nat} (hk : (e + 1074).toNat = k) (h : atMostB x e = true) : Rn.fin x = true ∧ ((vz x).natAbs : Int) ≤ P k := by
  unfold atMostB at h
  simp only [Bool.and_eq_true, decide_eq_true_eq] at h
  rw [hk] at h
  exact ⟨h.1, Int.ofNat_le.2 h.2⟩

theorem run_acc_ne (f g : Nat → Int) (h : accC f = accC g) (w : World) : (binOp .neq 29 (.agg (accC f)) (.agg (accC g))).run Tadg.prog w = .ok (.bool false) w := by
  rw [run_neq_struct, h, run_eq_acc 9998 29 27 g Tadg.underlying29 Tadg.underlying27 (by kernel_rfl)]
  rfl

theorem man_abs {x : Nat} (hx : x < 18446744073709551616) (hf : fin x = true) : Fl.spMan x * 2 ^ (Fl.spExp x + 1074).toNat = (vz x).natAbs := by
  rw [vz_sp x hx hf]
  split
  · rw [Int.natAbs_neg, Int.natAbs_natCast]
  · rw [Int.natAbs_natCast]
/-- A word whose value is H · 2^b (up to a scale), H at most 2^26: its mantissa is at most 26 bits wide. -/
theorem wd_le {x : Nat} (hx : x < 18446744073709551616) (hf : fin x = true) {m j : Nat} {A : Int} (e : vz x * P m = A * P j) (hA : A.natAbs ≤ 67108864) : wd (Fl.spMan x) ≤ 26 := by
  unfold wd
  split
  · exact Nat.zero_le _
  · rename_i h0
    refine width_le (s := (Fl.spExp x + 1074).toNat + m) (b := j) (H := A.natAbs) h0 (by have := spMan_lt x; omega) ?_ hA
    have h := congrArg Int.natAbs e
    rw [Int.natAbs_mul, Int.natAbs_mul, natAbs_P, natAbs_P, ← man_abs hx hf] at h
    rw [Nat.pow_add, ← Nat.mul_assoc]
    exact h

theorem split_plain {x c d hi lo : Nat} (fx : fin x = true) (bx : ((vz x).natAbs : Int) ≤ P 2069) (h1 : Fl.Res .mul 4728779608772575232 x c) (h2 : Fl.Res .sub c x d) (h3 : Fl.Res .sub c d hi) (h4 : Fl.Res .sub x hi lo) :
    fin hi = true ∧ hi < 18446744073709551616 ∧ fin lo = true ∧ lo < 18446744073709551616 ∧ vz hi + vz lo = vz x ∧ wd (Fl.spMan hi) ≤ 26 ∧ wd (Fl.spMan lo) ≤ 26 := by
  obtain ⟨hs, f1, l1, f2, l2⟩ := split_words fx bx h1 h2 h3 h4
  refine ⟨f1, l1, f2, l2, spl_sum (vz_F x) hs, ?_⟩
  by_cases h0 : vz x = 0
  · rw [h0] at hs
    obtain ⟨z1, z2⟩ := spl_zero hs
    exact ⟨wd_le (m := 0) (j := 0) (A := 0) l1 f1 (by rw [z1]) (by decide), wd_le (m := 0) (j := 0) (A := 0) l2 f2 (by rw [z2]) (by decide)⟩
  · obtain ⟨m, j, A, e, a1, a2, _⟩ := normal (vz_F x) h0
    obtain ⟨ah, al, e1, e2, _, ⟨h, e3⟩, b1, b2⟩ := spl_parts hs e a1 a2
    refine ⟨wd_le (m := m) (j := 27 + j) (A := h) l1 f1 ?_ ?_, wd_le (m := m) (j := j) l2 f2 e2 b1⟩
    · rw [e1, e3, P_add, Int.mul_comm (P 27) h, Int.mul_assoc]
    · have hP : P 27 = 134217728 := rfl
      rw [hP] at e3
      omega

set_option maxHeartbeats 1000000 in
theorem splitExact_walk (a : Int) (ha : a.toNat < 18446744073709551616) (w : World) (hT : Tab w) :
    Calls Tadg.prog 5 #[.int .u64 a] w fun e w' => e = .returned (.bool true) ∧ Below w.heap.size w w' := by
  by_cases c1 : atMostB a.toNat 995 = true
  · obtain ⟨fx, bx⟩ := atMost_bd (k := 2069) (by decide) c1
    have hlt := hT.lt
    have HT : Hid (Tab w) := hT
    go_enter Tadg.func5, Tadg.ntmps5
    go_wp2_with (first
      | (go_at_call 18; refine (f64_any _ _).mono ?_; rintro e w' ⟨rfl, hq⟩; obtain rfl := hq.symm)
      | (go_at_call 19; refine (atMost_any _ ha 995 (by omega) (by omega) _).mono ?_; rintro e w' ⟨rfl, hq⟩; obtain rfl := hq.symm)
      | (go_at_call 20; refine (split_any _ _).mono ?_; rintro e w' ⟨c, d, hi, lo, n, rfl, rfl, h1, h2, h3, h4⟩))
    obtain ⟨f1, l1, f2, l2, hsum, w1, w2⟩ := split_plain fx bx h1 h2 h3 h4
    have hE : ∀ W : World, (binOp .neq 29 (.agg (accC (dig (vz hi * P 1074 + vz lo * P 1074)))) (.agg (accC (dig (vz a.toNat * P 1074))))).run Tadg.prog W = .ok (.bool false) W :=
      run_acc_ne _ _ (by rw [← Int.add_mul, hsum])
    have i1 : (wd (Fl.spMan hi) : Int) ≤ 26 := by omega
    have i2 : (wd (Fl.spMan lo) : Int) ≤ 26 := by omega
    have m1 := spMan_lt hi
    have m2 := spMan_lt lo
    clear hsum w1 w2 h1 h2 h3 h4
    go_wp2_with (first
      | (go_at_call_of 21 (Value.float FloatKind.f64 hi); refine (finite_any _ l1 _).mono ?_; rintro e w' ⟨rfl, hq⟩; obtain rfl := hq.symm)
      | (go_at_call_of 21 (Value.float FloatKind.f64 lo); refine (finite_any _ l2 _).mono ?_; rintro e w' ⟨rfl, hq⟩; obtain rfl := hq.symm)
      | (go_at_call 22; refine (accSum_any hi lo l1 f1 l2 f2 _).mono ?_; rintro e w1 ⟨rfl, b1⟩)
      | (go_at_call 23; refine (accOf_any _ ha fx _).mono ?_; rintro e w2 ⟨rfl, b2⟩; have b1' : Below w.heap.size w w1 := (below_drewN (Below.refl _ _) _).trans b1; have bb := b1'.trans (b2.mono b1'.size); have tt : Tab w2 := HT.out.below bb hlt)
      | (go_at_call_of 24 (Value.float FloatKind.f64 hi); refine (split64_any _ l1 _).mono ?_; rintro e w' ⟨rfl, hq⟩; obtain rfl := hq.symm)
      | (go_at_call_of 24 (Value.float FloatKind.f64 lo); refine (split64_any _ l2 _).mono ?_; rintro e w' ⟨rfl, hq⟩; obtain rfl := hq.symm)
      | (go_at_call_of 25 (Value.int IntKind.u64 (Fl.spMan hi)); refine (width_any _ (by omega) _ (fun _ => tt)).mono ?_; rintro e w' ⟨rfl, hq⟩; obtain rfl := hq.symm)
      | (go_at_call_of 25 (Value.int IntKind.u64 (Fl.spMan lo)); refine (width_any _ (by omega) _ (fun _ => tt)).mono ?_; rintro e w' ⟨rfl, hq⟩; obtain rfl := hq.symm))
    go_ret
    exact ⟨rfl, bb⟩
  · rw [Bool.not_eq_true] at c1
    go_enter Tadg.func5, Tadg.ntmps5
    go_wp2_with (first
      | (go_at_call 18; refine (f64_any _ _).mono ?_; rintro e w' ⟨rfl, hq⟩; obtain rfl := hq.symm)
      | (go_at_call 19; refine (atMost_any _ ha 995 (by omega) (by omega) _).mono ?_; rintro e w' ⟨rfl, hq⟩; obtain rfl := hq.symm))
    go_ret
    exact ⟨rfl, Below.refl _ _⟩
end Go.Proofs.YgctadDoor
