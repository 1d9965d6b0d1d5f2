import Derived.Test.YgctadW17
import Derived.Test.YgctadW3
namespace Go.Proofs.Ygctad
open Go.RowKit Go.Acc Rn
set_option linter.unusedSimpArgs false
set_option linter.unusedVariables false
attribute [local go_sem] Go.Fl.run_add Go.Fl.run_sub Go.Fl.run_mul

/-- What 'zeroOr' answers. -/
def zeroOrB (x : Nat) (lo hi : Int) : Bool := decide (Fl.spCls x = 0) || (atLeastB x lo && atMostB x hi)

set_option maxHeartbeats 1000000 in
theorem zeroOr_any (p : Nat) (hp : p < 18446744073709551616) (lo hi : Int) (h1 : -1074 ≤ lo) (h2 : lo ≤ 2000) (h3 : -1074 ≤ hi) (h4 : hi ≤ 2000) (w : World) :
    Calls Tadg.prog 32 #[.float .f64 p, .int .i64 lo, .int .i64 hi] w fun r w' => r = .returned (.bool (zeroOrB p lo hi)) ∧ w' = w := by
  unfold zeroOrB
  by_cases hc : Fl.spCls p = 0
  · have hb : ((Fl.spCls p : Int) == 0) = true := by rw [hc]; rfl
    go_enter Tadg.func32, Tadg.ntmps32
    go_wp2_with (go_at_call 44; refine (split64_any _ hp _).mono ?_; rintro e w' ⟨rfl, rfl⟩)
    go_ret
    exact ⟨by simp [hc], rfl⟩
  · have hb : ((Fl.spCls p : Int) == 0) = false := by rw [beq_eq_false_iff_ne]; omega
    have hd : decide (Fl.spCls p = 0) = false := by simpa using hc
    rw [hd]
    clear hd hc
    cases ha : atLeastB p lo
    all_goals
      go_enter Tadg.func32, Tadg.ntmps32
      go_wp2_with (first
        | (go_at_call 44; refine (split64_any _ hp _).mono ?_; rintro e w' ⟨rfl, rfl⟩)
        | (go_at_call 53; refine (atLeast_any _ hp lo h1 h2 _).mono ?_; rintro e w' ⟨rfl, rfl⟩)
        | (go_at_call 33; refine (atMost_any _ hp hi h3 h4 _).mono ?_; rintro e w' ⟨rfl, rfl⟩))
      go_ret
      exact ⟨by simp [*], rfl⟩

theorem zeroOr_inR {x : Nat} (h : zeroOrB x (-480) 480 = true) : Rn.fin x = true ∧ InR (vz x) := by
  unfold zeroOrB at h
  simp only [Bool.or_eq_true, decide_eq_true_eq, Bool.and_eq_true] at h
  rcases h with h | ⟨h1, h2⟩
  · have := (cls_zero x).1 h
    exact ⟨this.1, .inl this.2⟩
  · obtain ⟨a, b⟩ := atMost_bd (k := 1554) (by decide) h2
    refine ⟨a, .inr ⟨?_, b⟩⟩
    unfold atLeastB at h1
    simp only [Bool.and_eq_true, decide_eq_true_eq] at h1
    rw [show ((-480 : Int) + 1074).toNat = 594 by decide] at h1
    exact Int.ofNat_le.2 h1.2

set_option maxHeartbeats 1000000 in
theorem twoProdExact_walk (a b : Int) (ha : a.toNat < 18446744073709551616) (hb : b.toNat < 18446744073709551616) (w : World) :
    Calls Tadg.prog 10 #[.int .u64 a, .int .u64 b] w fun e w' => e = .returned (.bool true) ∧ Below w.heap.size w w' := by
  by_cases c1 : zeroOrB a.toNat (-480) 480 = true
  · by_cases c2 : zeroOrB b.toNat (-480) 480 = true
    · obtain ⟨fx, rx⟩ := zeroOr_inR c1
      obtain ⟨fy, ry⟩ := zeroOr_inR c2
      go_enter Tadg.func10, Tadg.ntmps10
      go_wp2_with (first
        | (go_at_call 27; refine (f64_any _ _).mono ?_; rintro e w' ⟨rfl, rfl⟩)
        | (go_at_call_of 32 (Value.float FloatKind.f64 a.toNat); refine (zeroOr_any _ ha (-480) 480 (by omega) (by omega) (by omega) (by omega) _).mono ?_; rintro e w' ⟨rfl, rfl⟩)
        | (go_at_call_of 32 (Value.float FloatKind.f64 b.toNat); refine (zeroOr_any _ hb (-480) 480 (by omega) (by omega) (by omega) (by omega) _).mono ?_; rintro e w' ⟨rfl, rfl⟩))
      refine (twoProd_any _ _ _).mono ?_
      rintro e w' ⟨p, ch, dh, ah, al, ci, di, bh, bl, t1, e1, t2, e2, t3, e3, t4, e4, n, rfl, rfl, hp, hx, hy, k1, k2, k3, k4, k5, k6, k7, k8⟩
      obtain ⟨fp, lp, fe, le, heq, -⟩ := twoProd_words fx fy rx ry hp hx hy k1 k2 k3 k4 k5 k6 k7 k8
      have hsame : ∀ W : World, Fl.same p (Fl.val .mul W a.toNat b.toNat) = true := fun W => hp.same (Fl.val_res ..) (.inr (.inr rfl)) (Fl.same_refl _) (Fl.same_refl _)
      have hE : ∀ W : World, (binOp .eql 34 (.agg (accC (dig (vz a.toNat * vz b.toNat)))) (.agg (accC (dig (vz p * P 1074 + vz e4 * P 1074))))).run Tadg.prog W = .ok (.bool true) W :=
        run_acc_eq _ _ (by rw [heq, Int.add_mul])
      have HE : Hid (vz a.toNat * vz b.toNat = (vz p + vz e4) * P 1074) := heq
      clear heq hx hy k1 k2 k3 k4 k5 k6 k7 k8 hp
      go_wp2_with (first
        | (go_at_call 13; refine (same_any _ _ _).mono ?_; rintro e w' ⟨rfl, rfl⟩)
        | (go_at_call_of 16 (Value.float FloatKind.f64 p); refine (finite_any _ lp _).mono ?_; rintro e w' ⟨rfl, rfl⟩)
        | (go_at_call_of 16 (Value.float FloatKind.f64 e4); refine (finite_any _ le _).mono ?_; rintro e w' ⟨rfl, rfl⟩)
        | (go_at_call 22; refine (accProd_any _ _ ha fx hb fy _).mono ?_; rintro e w1 ⟨rfl, b1⟩)
        | (go_at_call 35; refine (accSum_any _ _ lp fp le fe _).mono ?_; rintro e w2 ⟨rfl, b2⟩))
      go_ret
      refine ⟨rfl, ?_⟩
      exact ((below_drewN (Below.refl _ _) _).trans b1).trans (b2.mono b1.size)
    · rw [Bool.not_eq_true] at c2
      go_enter Tadg.func10, Tadg.ntmps10
      go_wp2_with (first
        | (go_at_call 27; refine (f64_any _ _).mono ?_; rintro e w' ⟨rfl, rfl⟩)
        | (go_at_call_of 32 (Value.float FloatKind.f64 a.toNat); refine (zeroOr_any _ ha (-480) 480 (by omega) (by omega) (by omega) (by omega) _).mono ?_; rintro e w' ⟨rfl, rfl⟩)
        | (go_at_call_of 32 (Value.float FloatKind.f64 b.toNat); refine (zeroOr_any _ hb (-480) 480 (by omega) (by omega) (by omega) (by omega) _).mono ?_; rintro e w' ⟨rfl, rfl⟩))
      go_ret
      exact ⟨rfl, Below.refl _ _⟩
  · rw [Bool.not_eq_true] at c1
    go_enter Tadg.func10, Tadg.ntmps10
    go_wp2_with (first
      | (go_at_call 27; refine (f64_any _ _).mono ?_; rintro e w' ⟨rfl, rfl⟩)
      | (go_at_call_of 32 (Value.float FloatKind.f64 a.toNat); refine (zeroOr_any _ ha (-480) 480 (by omega) (by omega) (by omega) (by omega) _).mono ?_; rintro e w' ⟨rfl, rfl⟩))
    go_ret
    exact ⟨rfl, Below.refl _ _⟩

end Go.Proofs.Ygctad
