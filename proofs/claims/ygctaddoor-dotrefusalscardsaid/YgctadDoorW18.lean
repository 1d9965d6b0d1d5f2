import Derived.Test.YgctadDoorW17
import Derived.Test.YgctadDoorW3
namespace Go.Proofs.YgctadDoor
open Go.RowKit Go.Acc Rn
set_option linter.unusedSimpArgs false
set_option linter.unusedVariables false
attribute [local go_sem] Go.Fl.run_add Go.Fl.run_sub Go.Fl.run_mul

theorem atMost_bd {x : Nat} {e : Int} {k : Nat} (hk : (e + 1074).toNat = k) (h : atMostB x e = true) : Rn.fin x = true ∧ ((vz x).natAbs : Int) ≤ P k := by
  unfold atMostB at h
  simp only [Bool.and_eq_true, decide_eq_true_eq] at h
  rw [hk] at h
  exact ⟨h.1, Int.ofNat_le.2 h.2⟩

/-- What 'zeroOr' answers. -/
def zeroOrB (x : Nat) (lo hi : Int) : Bool := decide (Fl.spCls x = 0) || (atLeastB x lo && atMostB x hi)

set_option maxHeartbeats 1000000 in
theorem zeroOr_any (p : Nat) (hp : p < 18446744073709551616) (lo hi : Int) (h1 : -1074 ≤ lo) (h2 : lo ≤ 2000) (h3 : -1074 ≤ hi) (h4 : hi ≤ 2000) (w : World) :
    Calls Tadg.prog 28 #[.float .f64 p, .int .i64 lo, .int .i64 hi] w fun r w' => r = .returned (.bool (zeroOrB p lo hi)) ∧ w' = w := by
  unfold zeroOrB
  by_cases hc : Fl.spCls p = 0
  · have hb : ((Fl.spCls p : Int) == 0) = true := by rw [hc]; rfl
    go_enter Tadg.func28, Tadg.ntmps28
    go_wp2_with (go_at_call 24; refine (split64_any _ hp _).mono ?_; rintro e w' ⟨rfl, rfl⟩)
    go_ret
    exact ⟨by simp [hc], rfl⟩
  · have hb : ((Fl.spCls p : Int) == 0) = false := by rw [beq_eq_false_iff_ne]; omega
    have hd : decide (Fl.spCls p = 0) = false := by simpa using hc
    rw [hd]
    clear hd hc
    cases ha : atLeastB p lo
    all_goals
      go_enter Tadg.func28, Tadg.ntmps28
      go_wp2_with (first
        | (go_at_call 24; refine (split64_any _ hp _).mono ?_; rintro e w' ⟨rfl, rfl⟩)
        | (go_at_call 57; refine (atLeast_any _ hp lo h1 h2 _).mono ?_; rintro e w' ⟨rfl, rfl⟩)
        | (go_at_call 19; refine (atMost_any _ hp hi h3 h4 _).mono ?_; rintro e w' ⟨rfl, rfl⟩))
      go_ret
      exact ⟨by simp [*], rfl⟩

theorem zeroOr_inR {x : Nat} (h : zeroOrB x (-480) 480 = true) : Rn.fin x = true ∧ InR (vz x) := by
  unfold zeroOrB at h
  simp only [Bool.or_eq_true, decide_eq_true_eq, Bool.and_eq_true] at h
  rcases h with h | ⟨h1, h2⟩
  · have := (cls_zero x).1 h
    exact ⟨this.1, .inl this.2⟩
  · obtain ⟨a, b⟩ := atMost_bd (k := 1554) (by decide) h2
    refine ⟨a, .inr ⟨?_, b⟩⟩
    unfold atLeastB at h1
    simp only [Bool.and_eq_true, decide_eq_true_eq] at h1
    rw [show ((-480 : Int) + 1074).toNat = 594 by decide] at h1
    exact Int.ofNat_le.2 h1.2

end Go.Proofs.YgctadDoor
