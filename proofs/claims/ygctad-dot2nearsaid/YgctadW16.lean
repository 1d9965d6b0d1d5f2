import Derived.Test.YgctadW15
namespace Go.Proofs.Ygctad
open Go.RowKit Go.Acc Rn
set_option linter.unusedSimpArgs false
set_option linter.unusedVariables false
attribute [local go_sem] Go.Fl.run_add Go.Fl.run_sub Go.Fl.run_mul

/-- What 'notLess' answers of finite floats. -/
def nlB (x y : Nat) : Bool :=
  if Fl.spCls y = 0 then true else if Fl.spCls x = 0 then false else (decide (Fl.spExp y < Fl.spExp x) || (Fl.spExp x == Fl.spExp y && decide ((Fl.spMan y : Int) ≤ (Fl.spMan x : Int))))

theorem man_ge {x : Nat} (h : -1074 < Fl.spExp x) (hc : Fl.spCls x = 1) : 4503599627370496 ≤ Fl.spMan x := by
  unfold Fl.spExp Fl.spMan Fl.spCls at *
  by_cases a : Fl.fld x = 2047
  · rw [if_pos a] at hc; split at hc <;> omega
  · rw [if_neg a] at h hc ⊢
    by_cases b : Fl.fld x = 0
    · rw [if_pos b] at h hc
      by_cases c : Fl.frc x = 0
      · rw [if_pos c] at hc; omega
      · rw [if_neg c] at h; omega
    · rw [if_neg b]; omega

theorem nl_le {x y : Nat} (fx : Rn.fin x = true) (fy : Rn.fin y = true) (h : nlB x y = true) : (vz y).natAbs ≤ (vz x).natAbs := by
  unfold nlB at h
  by_cases cy : Fl.spCls y = 0
  · have := ((cls_zero y).1 cy).2; rw [this]; omega
  · rw [if_neg cy] at h
    by_cases cx : Fl.spCls x = 0
    · rw [if_pos cx] at h; cases h
    · rw [if_neg cx] at h
      have cx1 : Fl.spCls x = 1 := by
        rcases cls_cases x with a | a | a
        · exact a.1
        · exact absurd a.1 cx
        · rw [fx] at a; cases a.2.2
      rw [vz_abs, vz_abs, spMan_mg x fx, spMan_mg y fy]
      have ex := spExp_bd x
      have ey := spExp_bd y
      simp only [Bool.or_eq_true, decide_eq_true_eq, Bool.and_eq_true, beq_iff_eq] at h
      rcases h with h | ⟨h1, h2⟩
      · have hm := man_ge (by omega) cx1
        have hy := spMan_lt y
        have e : (Fl.spExp x + 1074).toNat = ((Fl.spExp y + 1074).toNat + 1) + ((Fl.spExp x + 1074).toNat - ((Fl.spExp y + 1074).toNat + 1)) := by omega
        have e2 : 2 ^ ((Fl.spExp y + 1074).toNat + 1) ≤ 2 ^ (Fl.spExp x + 1074).toNat := Nat.pow_le_pow_right (by decide) (by omega)
        rw [Nat.pow_succ] at e2
        have e3 : Fl.spMan y * 2 ^ (Fl.spExp y + 1074).toNat ≤ 9007199254740992 * 2 ^ (Fl.spExp y + 1074).toNat := Nat.mul_le_mul_right _ (by omega)
        have e4 : 4503599627370496 * (2 ^ (Fl.spExp y + 1074).toNat * 2) ≤ Fl.spMan x * 2 ^ (Fl.spExp x + 1074).toNat := Nat.mul_le_mul hm e2
        generalize 2 ^ (Fl.spExp y + 1074).toNat = u at *
        generalize Fl.spMan x * 2 ^ (Fl.spExp x + 1074).toNat = v at *
        omega
      · rw [h1]
        exact Nat.mul_le_mul_right _ (by omega)

set_option maxHeartbeats 1000000 in
theorem notLess_any (x y : Nat) (hx : x < 18446744073709551616) (hy : y < 18446744073709551616) (fx : Rn.fin x = true) (fy : Rn.fin y = true) (w : World) :
    Calls Tadg.prog 39 #[.float .f64 x, .float .f64 y] w fun r w' => r = .returned (.bool (nlB x y)) ∧ w' = w := by
  have cx : Fl.spCls x = 0 ∨ Fl.spCls x = 1 := by
    rcases cls_cases x with a | a | a
    · exact .inr a.1
    · exact .inl a.1
    · rw [fx] at a; cases a.2.2
  have cy : Fl.spCls y = 0 ∨ Fl.spCls y = 1 := by
    rcases cls_cases y with a | a | a
    · exact .inr a.1
    · exact .inl a.1
    · rw [fy] at a; cases a.2.2
  unfold nlB
  rcases cy with cy | cy
  · rw [if_pos cy]
    rcases cx with cx | cx
    all_goals
      go_enter Tadg.func39, Tadg.ntmps39
      go_wp2_with (first
        | (go_at_call_of 44 (Value.float FloatKind.f64 x); refine (split64_any _ hx _).mono ?_; rintro e w' ⟨rfl, rfl⟩)
        | (go_at_call_of 44 (Value.float FloatKind.f64 y); refine (split64_any _ hy _).mono ?_; rintro e w' ⟨rfl, rfl⟩))
      go_ret
      exact ⟨by simp [cy], rfl⟩
  · rw [if_neg (by omega)]
    rcases cx with cx | cx
    · rw [if_pos cx]
      go_enter Tadg.func39, Tadg.ntmps39
      go_wp2_with (first
        | (go_at_call_of 44 (Value.float FloatKind.f64 x); refine (split64_any _ hx _).mono ?_; rintro e w' ⟨rfl, rfl⟩)
        | (go_at_call_of 44 (Value.float FloatKind.f64 y); refine (split64_any _ hy _).mono ?_; rintro e w' ⟨rfl, rfl⟩))
      go_ret
      exact ⟨by simp [cy], rfl⟩
    · rw [if_neg (by omega)]
      go_enter Tadg.func39, Tadg.ntmps39
      go_wp2_with (first
        | (go_at_call_of 44 (Value.float FloatKind.f64 x); refine (split64_any _ hx _).mono ?_; rintro e w' ⟨rfl, rfl⟩)
        | (go_at_call_of 44 (Value.float FloatKind.f64 y); refine (split64_any _ hy _).mono ?_; rintro e w' ⟨rfl, rfl⟩))
      all_goals
        go_ret
        exact ⟨by simp [*], rfl⟩

set_option maxHeartbeats 400000 in
theorem fastTwoSum_any (a b : Nat) (w : World) :
    Calls Tadg.prog 40 #[.float .f64 a, .float .f64 b] w fun e w' => ∃ s z r n, e = .returned (.tuple #[.float .f64 s, .float .f64 r]) ∧ w' = w.drewN n ∧
      Fl.Res .add a b s ∧ Fl.Res .sub s a z ∧ Fl.Res .sub b z r := by
  go_enter Tadg.func40, Tadg.ntmps40
  go_wp2
  go_ret2
  exact ⟨_, _, _, _, rfl, rfl, Fl.val_res .., Fl.val_res .., Fl.val_res ..⟩

set_option maxHeartbeats 1000000 in
theorem fastTwoSumExact_walk (a b : Int) (ha : a.toNat < 18446744073709551616) (hb : b.toNat < 18446744073709551616) (w : World) :
    Calls Tadg.prog 9 #[.int .u64 a, .int .u64 b] w fun e w' => e = .returned (.bool true) ∧ Below w.heap.size w w' := by
  by_cases c1 : atMostB a.toNat 1022 = true
  · by_cases c2 : atMostB b.toNat 1022 = true
    · obtain ⟨fx, bx⟩ := atMost_bd (k := 2096) (by decide) c1
      obtain ⟨fy, bY⟩ := atMost_bd (k := 2096) (by decide) c2
      by_cases c3 : nlB a.toNat b.toNat = true
      · have hle := nl_le fx fy c3
        go_enter Tadg.func9, Tadg.ntmps9
        go_wp2_with (first
          | (go_at_call 27; refine (f64_any _ _).mono ?_; rintro e w' ⟨rfl, rfl⟩)
          | (go_at_call_of 33 (Value.float FloatKind.f64 a.toNat); refine (atMost_any _ ha 1022 (by omega) (by omega) _).mono ?_; rintro e w' ⟨rfl, rfl⟩)
          | (go_at_call_of 33 (Value.float FloatKind.f64 b.toNat); refine (atMost_any _ hb 1022 (by omega) (by omega) _).mono ?_; rintro e w' ⟨rfl, rfl⟩)
          | (go_at_call 39; refine (notLess_any _ _ ha hb fx fy _).mono ?_; rintro e w' ⟨rfl, rfl⟩)
          | (go_at_call 40; refine (fastTwoSum_any _ _ _).mono ?_; rintro e w' ⟨s, z, r, n, rfl, rfl, h1, h2, h3⟩; have hT := fastTwoSum_words fx fy bx hle h1 h2 h3)
          | (go_at_call 38; refine (sumExact_any _ _ _ _ ha hb hT.2.1 hT.2.2.2.1 fx fy hT.1 hT.2.2.1 h1 hT.2.2.2.2.2 _).mono ?_; rintro e w' ⟨rfl, hB⟩))
        go_ret
        exact ⟨rfl, (below_drewN (Below.refl _ _) _).trans hB⟩
      · rw [Bool.not_eq_true] at c3
        go_enter Tadg.func9, Tadg.ntmps9
        go_wp2_with (first
          | (go_at_call 27; refine (f64_any _ _).mono ?_; rintro e w' ⟨rfl, rfl⟩)
          | (go_at_call_of 33 (Value.float FloatKind.f64 a.toNat); refine (atMost_any _ ha 1022 (by omega) (by omega) _).mono ?_; rintro e w' ⟨rfl, rfl⟩)
          | (go_at_call_of 33 (Value.float FloatKind.f64 b.toNat); refine (atMost_any _ hb 1022 (by omega) (by omega) _).mono ?_; rintro e w' ⟨rfl, rfl⟩)
          | (go_at_call 39; refine (notLess_any _ _ ha hb fx fy _).mono ?_; rintro e w' ⟨rfl, rfl⟩))
        go_ret
        exact ⟨rfl, Below.refl _ _⟩
    · rw [Bool.not_eq_true] at c2
      go_enter Tadg.func9, Tadg.ntmps9
      go_wp2_with (first
        | (go_at_call 27; refine (f64_any _ _).mono ?_; rintro e w' ⟨rfl, rfl⟩)
        | (go_at_call_of 33 (Value.float FloatKind.f64 a.toNat); refine (atMost_any _ ha 1022 (by omega) (by omega) _).mono ?_; rintro e w' ⟨rfl, rfl⟩)
        | (go_at_call_of 33 (Value.float FloatKind.f64 b.toNat); refine (atMost_any _ hb 1022 (by omega) (by omega) _).mono ?_; rintro e w' ⟨rfl, rfl⟩))
      go_ret
      exact ⟨rfl, Below.refl _ _⟩
  · rw [Bool.not_eq_true] at c1
    go_enter Tadg.func9, Tadg.ntmps9
    go_wp2_with (first
      | (go_at_call 27; refine (f64_any _ _).mono ?_; rintro e w' ⟨rfl, rfl⟩)
      | (go_at_call_of 33 (Value.float FloatKind.f64 a.toNat); refine (atMost_any _ ha 1022 (by omega) (by omega) _).mono ?_; rintro e w' ⟨rfl, rfl⟩))
    go_ret
    exact ⟨rfl, Below.refl _ _⟩

end Go.Proofs.Ygctad
