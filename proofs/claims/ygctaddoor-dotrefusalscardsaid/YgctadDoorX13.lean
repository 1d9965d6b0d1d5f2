import Derived.Test.YgctadDoorSw
import Derived.Test.YgctadDoorW27
namespace Go.Proofs.YgctadDoor
open Go.RowKit Go.Acc Rn
set_option linter.unusedSimpArgs false
set_option linter.unusedVariables false
attribute [local go_sem] Go.Fl.run_add Go.Fl.run_sub Go.Fl.run_mul Go.Fl.run_store_float

/-- A row of floats of the call's own. -/
def FRow (w : World) (base g cap n : Nat) (ns : List Nat) : Prop := w.ownsRow base 31 1 (.slice (some ⟨g, 0, none⟩) n cap) n (ns.map (Value.float .f64))

theorem FRow.len {w : World} {base g cap n : Nat} {ns : List Nat} (h : FRow w base g cap n ns) : ns.length = n := by
  have := h.1; simpa using this
theorem FRow.cell {w : World} {base g cap n : Nat} {ns : List Nat} (h : FRow w base g cap n ns) {i : Nat} (hi : i < n) : w.cell? ⟨g, i, none⟩ = some (.float .f64 (ns.getD i 0)) := by
  have h1 := World.ownsRow.cellAt h i (by omega)
  have h2 := h.len
  rw [h1, List.getElem?_map, List.getElem?_eq_getElem (by omega), List.getD, List.getElem?_eq_getElem (by omega)]
  rfl
theorem FRow.frozen {w : World} {base g cap n : Nat} {ns : List Nat} (h : FRow w base g cap n ns) (i : Nat) : w.frozen? ⟨g, i, none⟩ = false := World.ownsRow.frozenAt h i
theorem FRow.drewN {w : World} {base g cap n : Nat} {ns : List Nat} (h : FRow w base g cap n ns) (m : Nat) : FRow (w.drewN m) base g cap n ns := h
theorem FRow.at {w : World} {base g cap n : Nat} {ns : List Nat} (h : FRow w base g cap n ns) : base ≤ g ∧ g < w.heap.size := World.ownsRow.lt h g rfl
theorem FRow.set {w : World} {base g cap n : Nat} {ns : List Nat} (h : FRow w base g cap n ns) (j e : Nat) : FRow (w.setCell ⟨g, j, none⟩ (.float .f64 e)) base g cap n (ns.set j e) := by
  have := (World.ownsRow.stored h j (.float .f64 e)).1
  unfold FRow
  rw [List.map_set]
  exact this
theorem FRow.cut {w : World} {base g cap n k : Nat} {hs t : List Nat} (h : FRow w base g cap n (hs ++ t)) (hk : hs.length = k) : FRow w base g cap k hs := by
  have hl := h.len
  rcases h.2 with ⟨h', _⟩ | ⟨g', cap', cur, h', hb, hg, hnc, hcm, hcs, htake⟩
  · simp at h'
  · simp only [Value.slice.injEq, Option.some.injEq, Addr.mk.injEq, and_true, true_and] at h'
    obtain ⟨rfl, rfl⟩ := h'
    rw [List.length_append] at hl
    refine ⟨by simp [hk], .inr ⟨g, cap, cur, rfl, hb, hg, by omega, hcm, hcs, ?_⟩⟩
    have := congrArg (List.take (k * 1)) htake
    rw [List.take_take, Nat.min_eq_left (by omega), List.map_append] at this
    rw [this, List.take_append_of_le_length (by simp; omega), List.take_of_length_le (by simp; omega)]
theorem FRow.cap {w : World} {base g cap n : Nat} {ns : List Nat} (h : FRow w base g cap n ns) : n ≤ cap ∧ cap ≤ maxLen := by
  rcases h.2 with ⟨h', _⟩ | ⟨g', cap', cur, h', hb, hg, hnc, hcm, hcs, htake⟩
  · simp at h'
  · simp only [Value.slice.injEq, Option.some.injEq, Addr.mk.injEq, and_true, true_and] at h'
    obtain ⟨rfl, rfl⟩ := h'
    exact ⟨hnc, hcm⟩
theorem FRow.below {w w' : World} {base g cap n B : Nat} {ns : List Nat} (h : FRow w base g cap n ns) (hB : Below B w w') (hg : g < B) : FRow w' base g cap n ns := by
  refine ⟨h.1, ?_⟩
  rcases h.2 with ⟨h', _⟩ | ⟨g', cap', cur, h', hb, hg', rest⟩
  · simp at h'
  · have e := h'
    simp only [Value.slice.injEq, Option.some.injEq, Addr.mk.injEq, and_true, true_and] at h'
    obtain ⟨rfl, rfl⟩ := h'
    exact .inr ⟨g, cap, cur, e, hb, by rw [hB.block g hg]; exact hg', rest⟩

theorem FRow.of_append {w : World} {base k x : Nat} {hs : List Nat} {v : Value} (h : w.ownsRow base 31 1 v (k + 1) (hs.map (Value.float .f64) ++ [.float .f64 x])) : ∃ g cap, v = .slice (some ⟨g, 0, none⟩) (k + 1) cap ∧ FRow w base g cap (k + 1) (hs ++ [x]) := by
  rcases h.2 with ⟨_, h0⟩ | ⟨g, cap, cur, rfl, _⟩
  · omega
  · exact ⟨g, cap, rfl, by unfold FRow; rw [List.map_append]; exact h⟩

theorem getD_mid (l : List Nat) (p : Nat) (r : List Nat) {i : Nat} (h : l.length = i) : (l ++ p :: r).getD i 0 = p := by
  subst h; simp [List.getD]
theorem set_kept (hs junk rest : List Nat) (p e : Nat) {k : Nat} (h : hs.length = k) : (hs ++ (junk ++ p :: rest)).set k e = (hs ++ [e]) ++ ((junk ++ [p]).tail ++ rest) := by
  subst h
  cases junk <;> simp

/-- The state of 'Grow's loop. -/
def GSt (w : World) (base g cap n : Nat) (b T : Int) (i k x : Nat) : Prop :=
  ∃ hs junk rest : List Nat, hs.length = k ∧ junk.length + k = i ∧ rest.length + i = n ∧ FRow w base g cap n (hs ++ (junk ++ rest)) ∧ Gw (b + (i : Int) * P 1995) T hs x rest

theorem GSt.start {w : World} {base g cap n x : Nat} {ns : List Nat} {b T : Int} (h : FRow w base g cap n ns) (hG : Gw b T [] x ns) : GSt w base g cap n b T 0 0 x :=
  ⟨[], [], ns, rfl, rfl, h.len, h, by simpa using hG⟩

theorem GSt.round {w : World} {base g cap n i k x : Nat} {b T : Int} (h : GSt w base g cap n b T i k x) (hi : i < n) (hn : n ≤ 2048) (hb : b + 2048 * P 1995 ≤ P 2047) :
    ∃ p q, k ≤ i ∧ w.cell? ⟨g, i, none⟩ = some (.float .f64 p) ∧ w.cell? ⟨g, k, none⟩ = some (.float .f64 q) ∧ w.frozen? ⟨g, k, none⟩ = false ∧ 
      ∀ s bb aa db da e m, Fl.Res .add x p s → Fl.Res .sub s x bb → Fl.Res .sub s bb aa → Fl.Res .sub p bb db → Fl.Res .sub x aa da → Fl.Res .add da db e →
        Fw e ∧ (vz e ≠ 0 → GSt ((w.drewN m).setCell ⟨g, k, none⟩ (.float .f64 e)) base g cap n b T (i + 1) (k + 1) s) ∧ (vz e = 0 → GSt (w.drewN m) base g cap n b T (i + 1) k s) := by
  obtain ⟨hs, junk, rest, h1, h2, h3, h4, h5⟩ := h
  cases rest with
  | nil => simp at h3; omega
  | cons p rest =>
    refine ⟨p, _, by omega, ?_, h4.cell (by omega), h4.frozen k, ?_⟩
    · have := h4.cell hi
      rw [← List.append_assoc, getD_mid _ p rest (by simp; omega)] at this
      exact this
    · intro s bb aa db da e m z1 z2 z3 z4 z5 z6
      have hp := P_pos 1995
      have hip : (i : Int) * P 1995 ≤ 2048 * P 1995 := Int.mul_le_mul_of_nonneg_right (by omega) (Int.le_of_lt hp)
      obtain ⟨fe, g1, g2⟩ := h5.step (by omega) z1 z2 z3 z4 z5 z6
      have eb : b + (i : Int) * P 1995 + P 1995 = b + ((i + 1 : Nat) : Int) * P 1995 := by rw [Int.natCast_add, Int.add_mul]; omega
      rw [eb] at g1 g2
      simp only [List.length_cons] at h3
      refine ⟨fe, fun h0 => ⟨hs ++ [e], (junk ++ [p]).tail, rest, by simp [h1], by simp; omega, by omega, ?_, g1 h0⟩, fun h0 => ⟨hs, junk ++ [p], rest, h1, by simp; omega, by omega, ?_, g2 h0⟩⟩
      · rw [← set_kept hs junk rest p e h1]
        exact (h4.drewN m).set k e
      · rw [List.append_assoc, List.singleton_append]
        exact h4

theorem GSt.last {w : World} {base g cap n k x : Nat} {b T : Int} (h : GSt w base g cap n b T n k x) : ∃ hs, k ≤ n ∧ FRow w base g cap k hs ∧ Gw (b + (n : Int) * P 1995) T hs x [] := by
  obtain ⟨hs, junk, rest, h1, h2, h3, h4, h5⟩ := h
  obtain rfl : rest = [] := List.eq_nil_of_length_eq_zero (by omega)
  exact ⟨hs, by omega, h4.cut h1, h5⟩

theorem ord0 {e : Nat} (fe : Rn.fin e = true) : (FloatKind.f64.format.order e 0 == some Ordering.eq) = decide (vz e = 0) := by
  rw [order_fin fe fin_zero, vz_zero, cmp_eq]
theorem ordn {e : Nat} (fe : Rn.fin e = true) : (FloatKind.f64.format.order e 0 != some Ordering.eq) = !decide (vz e = 0) := by
  rw [bne, ord0 fe]

set_option maxHeartbeats 1000000 in
theorem grow_any (base g cap n x : Nat) (ns : List Nat) (b T : Int) (w : World) (hn : n ≤ 2048) (hR : FRow w base g cap n ns) (hG : Gw b T [] x ns) (hb : b + 2048 * P 1995 ≤ P 2047) (hbs : base ≤ w.heap.size) :
    Calls Tadg.prog 42 #[.slice (some ⟨g, 0, none⟩) n cap, .float .f64 x] w fun e w' => ∃ g' cap' n' ns', e = .returned (.slice (some ⟨g', 0, none⟩) n' cap') ∧ n' ≤ n + 1 ∧ FRow w' base g' cap' n' ns' ∧ Pw (b + (n : Int) * P 1995) T ns' ∧ Below base w w' := by
  have hS := GSt.start hR hG
  obtain ⟨i0, hi0, hz0, hz1, hz2⟩ := info_parts Tadg.info31
  have hgb := hR.at.1
  have hcp := hR.cap
  have hgl := hR.at.2
  clear hR hG
  go_enter Tadg.func42, Tadg.ntmps42
  go_wp2
  go_loopw [1, 5, 6] (fun xv kv iv w1 => ∃ x' k i : Nat, i ≤ n ∧ k ≤ i ∧ xv = .float .f64 x' ∧ kv = .int .i64 k ∧ iv = .int .i64 i ∧ GSt w1 base g cap n b T i k x' ∧ Below base w w1) (fun _ _ iv _ => n - (intOf iv).toNat)
  case atStart => exact ⟨x, 0, 0, Nat.zero_le _, Nat.le_refl _, rfl, rfl, rfl, hS, Below.refl _ _⟩
  case round =>
    obtain ⟨x', k, i, hi, hki, rfl, rfl, rfl, hS', hB⟩ := hrel
    by_cases hlt : i < n
    · obtain ⟨p, q, hk, e1, e2, e3, hrd⟩ := hS'.round hlt hn hb
      have HR : Hid (∀ s bb aa db da e m, Fl.Res .add x' p s → Fl.Res .sub s x' bb → Fl.Res .sub s bb aa → Fl.Res .sub p bb db → Fl.Res .sub x' aa da → Fl.Res .add da db e →
        Fw e ∧ (vz e ≠ 0 → GSt ((wr.drewN m).setCell ⟨g, k, none⟩ (.float .f64 e)) base g cap n b T (i + 1) (k + 1) s) ∧ (vz e = 0 → GSt (wr.drewN m) base g cap n b T (i + 1) k s)) := hrd
      have i1 : (i : Int) < (n : Int) := by omega
      have k1 : (k : Int) < (n : Int) := by omega
      clear hrd hS hS'
      go_upto_region 6 with (go_at_call 44; refine (twoSum_any _ _ _).mono ?_; rintro e w' ⟨s, bb, aa, db, da, r, m, rfl, rfl, z1, z2, z3, z4, z5, z6⟩)
      obtain ⟨fe, g1, g2⟩ := HR.out s bb aa db da r m z1 z2 z3 z4 z5 z6
      have o0 := ordn fe.1
      clear HR
      by_cases h0 : vz r = 0
      · have G2 : Hid (GSt (wr.drewN m) base g cap n b T (i + 1) k s) := g2 h0
        have o1 : (FloatKind.f64.format.order r 0 != some Ordering.eq) = false := by rw [o0, h0]; rfl
        clear o0 g1 g2 h0
        go_wp2
        go_roundw
        case rel => exact ⟨s, k, i + 1, by omega, by omega, rfl, rfl, by go_num, G2.out, below_drewN hB _⟩
        case measure => simp [intOf]; omega
      · have G1 : Hid (GSt ((wr.drewN m).setCell ⟨g, k, none⟩ (.float .f64 r)) base g cap n b T (i + 1) (k + 1) s) := g1 h0
        have o1 : (FloatKind.f64.format.order r 0 != some Ordering.eq) = true := by rw [o0, decide_eq_false h0]; rfl
        clear o0 g1 g2 h0
        go_wp2
        go_roundw
        case rel => exact ⟨s, k + 1, i + 1, by omega, by omega, rfl, by go_num, by go_num, G1.out, (below_drewN hB _).setCell hgb _⟩
        case measure => simp [intOf]; omega
    · have hx : ¬ (i : Int) < (n : Int) := by omega
      have hin : i = n := by omega
      subst hin
      obtain ⟨hs, hk, hR, hGw⟩ := hS'.last
      obtain ⟨d1, d2⟩ := hGw.done
      have o0 := ordn hGw.wx.1
      clear hS hS' hGw
      have cc : (k : Int) ≤ (cap : Int) := by omega
      by_cases h0 : vz x' = 0
      · have D : Hid (Pw (b + (i : Int) * P 1995) T hs) := d2 h0
        have o1 : (FloatKind.f64.format.order x' 0 != some Ordering.eq) = false := by rw [o0, h0]; rfl
        clear o0 d1 d2 h0
        go_wp2
        go_ret
        first
          | exact ⟨g, cap, k, hs, rfl, by omega, hR, D.out, hB⟩
          | exact ⟨g, cap, k, rfl, by omega, hs, hR, D.out, hB⟩
          | exact ⟨g, cap, k, rfl, by omega, ⟨hs, hR, D.out⟩, hB⟩
      · have D : Hid (Pw (b + (i : Int) * P 1995) T (hs ++ [x'])) := d1 h0
        have o1 : (FloatKind.f64.format.order x' 0 != some Ordering.eq) = true := by rw [o0, decide_eq_false h0]; rfl
        clear o0 d1 d2 h0
        have hbw := hB.size
        go_wp2_with (at_builtin; refine wpList_append_own _ rfl _ _ 23 rfl base 31 i0 (.float .f64 0) 1 8 Tadg.underlying23 hi0 hz0 hz1 hz2 rfl (by decide) _ _ _ rfl (World.ownsRow.alloc hR _) ⟨wr.heap.size, 0, none⟩ 1 1 [.float .f64 x'] rfl rfl ?c1 ?c2 ?c3 ?c4 ?c5 ?_)
        case c2 => rfl
        case c3 => unfold maxLen; omega
        case c4 => omega
        case c5 => first | omega | (simp; omega)
        intro v' w1 hown' hgrow _
        obtain ⟨g', cap', rfl, hF⟩ := FRow.of_append hown'
        have hB1 := (hB.alloc (Nat.le_trans hbs hbw) _).grown hgrow (by simp; omega) (fun k hk => by simp [Value.ownBlock] at hk; omega)
        clear hown' hgrow hR
        go_wp2
        go_ret
        first
          | exact ⟨g', cap', k + 1, hs ++ [x'], rfl, by omega, hF, D.out, hB1⟩
          | exact ⟨g', cap', k + 1, rfl, by omega, hs ++ [x'], hF, D.out, hB1⟩
          | exact ⟨g', cap', k + 1, rfl, by omega, ⟨hs ++ [x'], hF, D.out⟩, hB1⟩
end Go.Proofs.YgctadDoor
