import Derived.Test.YgctadDoorX13
import Derived.Test.YgctadDoorW16
namespace Go.Proofs.YgctadDoor
open Go.RowKit Go.Acc Rn
set_option linter.unusedSimpArgs false
set_option linter.unusedVariables false
attribute [local go_sem] Go.Fl.run_add Go.Fl.run_sub Go.Fl.run_mul

theorem fin_not_nan {x : Nat} (h : Rn.fin x = true) : Fl.isNaN x = false := by
  cases hn : Fl.isNaN x with
  | false => rfl
  | true =>
    unfold Rn.fin at h
    unfold Fl.isNaN at hn
    simp only [decide_eq_true_eq] at h hn
    omega

theorem res_det {op : BinOp} {x y r : Nat} (h : Fl.Res op x y r) (hf : Rn.fin r = true) : (∀ W, Fl.val op W x y = r) ∧ Fl.drs op x y = 0 := by
  rcases h with h | ⟨h, hn⟩
  · exact ⟨fun W => by simp [Fl.val, h], by simp [Fl.drs, h]⟩
  · have h2 := hn.1; rw [fin_not_nan hf] at h2; cases h2

theorem ordlt {e : Nat} (fe : Rn.fin e = true) : (FloatKind.f64.format.order e 0 == some Ordering.lt) = decide (vz e < 0) := by
  rw [order_fin fe fin_zero, vz_zero, cmp_lt]
theorem ordgt {e : Nat} (fe : Rn.fin e = true) : (FloatKind.f64.format.order e 0 == some Ordering.gt) = decide (0 < vz e) := by
  rw [order_fin fe fin_zero, vz_zero, cmp_gt]
theorem ordeq {d t : Nat} (fd : Rn.fin d = true) (ft : Rn.fin t = true) : (FloatKind.f64.format.order d t == some Ordering.eq) = decide (vz d = vz t) := by
  rw [order_fin fd ft, cmp_eq]

theorem take_snoc {ns : List Nat} {j : Nat} (h : j < ns.length) : ns.take (j + 1) = ns.take j ++ [ns.getD j 0] := by
  rw [List.take_add_one, List.getD, List.getElem?_eq_getElem h]; rfl

theorem Fi.nil {T : Int} {hi : Nat} (h : Fi T [] hi) : vz hi = rn T := by
  have := h.sum
  simp at this
  rw [← this, rn_id (vz_F hi)]
theorem Fb.nil {T : Int} {hi lo : Nat} (h : Fb T [] hi lo) : vz hi = rn T := by
  obtain ⟨Y, y1, _, y3, _⟩ := h.y
  simp at y3
  rw [y3, y1]

set_option maxHeartbeats 1000000 in
theorem finish_walk (base g cap n : Nat) (ns : List Nat) (b T : Int) (w : World) (hn : n ≤ 2048) (hR : FRow w base g cap n ns) (hP : Pw b T ns) (hb : b ≤ P 2047) :
    Calls Tadg.prog 43 #[.slice (some ⟨g, 0, none⟩) n cap] w fun e w' => ∃ r m, e = .returned (.float .f64 r) ∧ w' = w.drewN m ∧ Fw r ∧ vz r = rn T ∧ (T = 0 → r = 0) := by
  have hlen := hR.len
  cases n with
  | zero =>
    obtain rfl : ns = [] := List.eq_nil_of_length_eq_zero hlen
    have hT : Hid (T = 0) := by have := hP.sum; simp at this; exact this.symm
    clear hR hP hlen
    go_enter Tadg.func43, Tadg.ntmps43
    go_wp2
    go_ret
    have h0 : Fw 0 := ⟨by decide, by decide⟩
    have h1 : vz 0 = rn T := by rw [hT.out, rn_zero]; decide
    first
      | exact ⟨0, rfl, ⟨0, rfl⟩, h0, h1, fun _ => rfl⟩
      | exact ⟨0, 0, rfl, rfl, h0, h1, fun _ => rfl⟩
  | succ k =>
    have hcell : ∀ i, i < k + 1 → w.cell? ⟨g, i, none⟩ = some (.float .f64 (ns.getD i 0)) := fun i hi => hR.cell hi
    have hT0 : Hid (T ≠ 0) := by
      have := hP.par.sum_ne (by intro h; rw [List.map_eq_nil_iff] at h; rw [h] at hlen; simp at hlen)
      rw [hP.sum] at this
      exact this
    have hlen' : Hid (ns.length = k + 1) := hlen
    have hFi : Hid (Fi T (ns.take k) (ns.getD k 0)) := by
      have e : ns = ns.take k ++ [ns.getD k 0] := by
        rw [← take_snoc (by omega), List.take_of_length_le (by omega)]
      rw [e] at hP
      exact hP.finish hb
    have hst : Hid (∀ j hi lo s z, j < k + 1 → Fi T (ns.take (j + 1)) hi → Fl.Res .add hi (ns.getD j 0) s → Fl.Res .sub s hi z → Fl.Res .sub (ns.getD j 0) z lo → Fw lo ∧ (vz lo = 0 → Fi T (ns.take j) s) ∧ (vz lo ≠ 0 → Fb T (ns.take j) s lo)) := by
      intro j hi lo s z hj h s1 s2 s3
      rw [take_snoc (by omega)] at h
      exact h.step s1 s2 s3
    have e0 := hcell k (by omega)
    clear hR hP hlen
    go_enter Tadg.func43, Tadg.ntmps43
    go_wp2
    go_loopw [3, 4, 5] (fun nv hv lv w1 => ∃ j hi lo m : Nat, j ≤ k ∧ nv = .int .i64 j ∧ hv = .float .f64 hi ∧ lv = .float .f64 lo ∧ w1 = w.drewN m ∧ Fw lo ∧ ((vz lo = 0 ∧ Fi T (ns.take j) hi) ∨ (vz lo ≠ 0 ∧ Fb T (ns.take j) hi lo))) (fun nv _ _ _ => (intOf nv).toNat)
    case atStart => exact ⟨k, ns.getD k 0, 0, 0, Nat.le_refl _, by go_num, rfl, rfl, rfl, ⟨by decide, by decide⟩, .inl ⟨by decide, hFi.out⟩⟩
    case round =>
      obtain ⟨j, hi, lo, m, hj, rfl, rfl, rfl, rfl, flo, hst'⟩ := hrel
      have o0 := ord0 flo.1
      rcases hst' with ⟨h0, hF⟩ | ⟨h0, hF⟩
      · have o1 : (FloatKind.f64.format.order lo 0 == some Ordering.eq) = true := by rw [o0, h0]; rfl
        cases j with
        | zero =>
          have hv : Hid (vz hi = rn T) := Fi.nil hF
          have fw : Fw hi := hF.whi
          clear o0 hF h0 hFi e0 hcell
          go_wp2
          go_ret
          first
            | exact ⟨hi, rfl, ⟨m, rfl⟩, fw, hv.out, fun h => absurd h hT0.out⟩
            | exact ⟨hi, m, rfl, rfl, fw, hv.out, fun h => absurd h hT0.out⟩
        | succ j =>
          have e1 := hcell j (by omega)
          have F' : Hid (Fi T (ns.take (j + 1)) hi) := hF
          have p1 : (0 : Int) < (j : Int) + 1 := by omega
          have p2 : (j : Int) < (k : Int) + 1 := by omega
          clear o0 hF h0 hFi e0 hcell
          go_wp2_with (go_at_call 66; refine (fastTwoSum_any _ _ _).mono ?_; rintro e w' ⟨s, z, r, m', rfl, rfl, z1, z2, z3⟩)
          obtain ⟨fr, a1, a2⟩ := hst.out j hi r s z (by omega) F'.out z1 z2 z3
          go_roundw
          case rel =>
            have hor : (vz r = 0 ∧ Fi T (ns.take j) s) ∨ (vz r ≠ 0 ∧ Fb T (ns.take j) s r) := by
              by_cases hr0 : vz r = 0
              · exact .inl ⟨hr0, a1 hr0⟩
              · exact .inr ⟨hr0, a2 hr0⟩
            exact ⟨_, _, _, _, _, _, _, _, _, _, _, _, _, _, _, _, _, _, _, _, ⟨j, s, r, _, by omega, rfl, rfl, rfl, rfl, fr, hor⟩, rfl⟩
          case measure => simp [intOf]
      · have o1 : (FloatKind.f64.format.order lo 0 == some Ordering.eq) = false := by rw [o0]; exact decide_eq_false h0
        cases j with
        | zero =>
          have hv : Hid (vz hi = rn T) := Fb.nil hF
          have fw : Fw hi := hF.whi
          clear o0 hF h0 hFi e0 hcell
          go_wp2
          go_ret
          first
            | exact ⟨hi, rfl, ⟨m, rfl⟩, fw, hv.out, fun h => absurd h hT0.out⟩
            | exact ⟨hi, m, rfl, rfl, fw, hv.out, fun h => absurd h hT0.out⟩
        | succ j =>
          have e1 := hcell j (by omega)
          rw [take_snoc (by rw [hlen'.out]; omega)] at hF
          have fw : Fw hi := hF.whi
          obtain ⟨q, hq⟩ : ∃ q, ns.getD j 0 = q := ⟨_, rfl⟩
          rw [hq] at hF e1
          obtain ⟨tw, m1⟩ : ∃ tw, Fl.Res .mul 4611686018427387904 lo tw := ⟨_, Fl.val_res .mul w _ _⟩
          obtain ⟨r, m2⟩ : ∃ r, Fl.Res .add hi tw r := ⟨_, Fl.val_res .add w _ _⟩
          obtain ⟨d, m3⟩ : ∃ d, Fl.Res .sub r hi d := ⟨_, Fl.val_res .sub w _ _⟩
          obtain ⟨fq, fd, ft, fr, hs, ho⟩ := hF.last m1 m2 m3
          obtain ⟨v1, d1⟩ := res_det m1 ft.1
          obtain ⟨v2, d2⟩ := res_det m2 fr.1
          obtain ⟨v3, d3⟩ := res_det m3 fd.1
          have HS : Hid (((0 < vz q ∧ 0 < vz lo) ∨ (vz q < 0 ∧ vz lo < 0)) → (vz d = vz tw → vz r = rn T) ∧ (vz d ≠ vz tw → vz hi = rn T)) := hs
          have HO : Hid (¬ ((0 < vz q ∧ 0 < vz lo) ∨ (vz q < 0 ∧ vz lo < 0)) → vz hi = rn T) := ho
          have p1 : (0 : Int) < (j : Int) + 1 := by omega
          have p2 : (j : Int) < (k : Int) + 1 := by omega
          have q1 := ordlt flo.1
          have q2 := ordgt flo.1
          have q3 := ordlt fq.1
          have q4 := ordgt fq.1
          have q5 := ordeq fd.1 ft.1
          clear hs ho o0 hF hFi e0 hcell hq m1 m2 m3 hst
          by_cases hl : 0 < vz lo
          · have nl : ¬ vz lo < 0 := by omega
            rw [decide_eq_false nl] at q1
            rw [decide_eq_true hl] at q2
            by_cases hqq : 0 < vz q
            · rw [decide_eq_true hqq] at q4
              obtain ⟨k1, k2⟩ := HS.out (.inl ⟨hqq, hl⟩)
              by_cases hd : vz d = vz tw
              · rw [decide_eq_true hd] at q5
                have hv : Hid (vz r = rn T) := k1 hd
                clear k1 k2 hd HS HO hl nl hqq h0
                go_wp2
                go_ret
                first
                  | exact ⟨r, rfl, ⟨_, rfl⟩, fr, hv.out, fun h => absurd h hT0.out⟩
                  | exact ⟨r, _, rfl, rfl, fr, hv.out, fun h => absurd h hT0.out⟩
              · rw [decide_eq_false hd] at q5
                have hv : Hid (vz hi = rn T) := k2 hd
                clear k1 k2 hd HS HO hl nl hqq h0
                go_wp2
                go_ret
                first
                  | exact ⟨hi, rfl, ⟨_, rfl⟩, fw, hv.out, fun h => absurd h hT0.out⟩
                  | exact ⟨hi, _, rfl, rfl, fw, hv.out, fun h => absurd h hT0.out⟩
            · rw [decide_eq_false hqq] at q4
              have hv : Hid (vz hi = rn T) := HO.out (by omega)
              clear HS HO hl nl hqq h0
              go_wp2
              go_ret
              first
                | exact ⟨hi, rfl, ⟨_, rfl⟩, fw, hv.out, fun h => absurd h hT0.out⟩
                | exact ⟨hi, _, rfl, rfl, fw, hv.out, fun h => absurd h hT0.out⟩
          · have nl : vz lo < 0 := by omega
            rw [decide_eq_true nl] at q1
            rw [decide_eq_false hl] at q2
            by_cases hqq : vz q < 0
            · rw [decide_eq_true hqq] at q3
              obtain ⟨k1, k2⟩ := HS.out (.inr ⟨hqq, nl⟩)
              by_cases hd : vz d = vz tw
              · rw [decide_eq_true hd] at q5
                have hv : Hid (vz r = rn T) := k1 hd
                clear k1 k2 hd HS HO hl nl hqq h0
                go_wp2
                go_ret
                first
                  | exact ⟨r, rfl, ⟨_, rfl⟩, fr, hv.out, fun h => absurd h hT0.out⟩
                  | exact ⟨r, _, rfl, rfl, fr, hv.out, fun h => absurd h hT0.out⟩
              · rw [decide_eq_false hd] at q5
                have hv : Hid (vz hi = rn T) := k2 hd
                clear k1 k2 hd HS HO hl nl hqq h0
                go_wp2
                go_ret
                first
                  | exact ⟨hi, rfl, ⟨_, rfl⟩, fw, hv.out, fun h => absurd h hT0.out⟩
                  | exact ⟨hi, _, rfl, rfl, fw, hv.out, fun h => absurd h hT0.out⟩
            · rw [decide_eq_false hqq] at q3
              have hv : Hid (vz hi = rn T) := HO.out (by omega)
              clear HS HO hl nl hqq h0
              go_wp2
              go_ret
              first
                | exact ⟨hi, rfl, ⟨_, rfl⟩, fw, hv.out, fun h => absurd h hT0.out⟩
                | exact ⟨hi, _, rfl, rfl, fw, hv.out, fun h => absurd h hT0.out⟩
end Go.Proofs.YgctadDoor
