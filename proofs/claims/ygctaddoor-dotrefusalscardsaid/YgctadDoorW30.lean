import Derived.Test.YgctadDoorW29
namespace Go.Proofs.YgctadDoor
open Go.RowKit Go.Acc Rn
set_option linter.unusedSimpArgs false
set_option linter.unusedVariables false

/-- The exact dot product of the first k, in the accumulator's scale. -/
def xsum (fs gs : List Nat) : Nat → Int
  | 0 => 0
  | k + 1 => xsum fs gs k + vz (fs.getD k 0) * vz (gs.getD k 0)

set_option maxHeartbeats 1000000 in
theorem exactDot_any (b1 o1 b2 o2 c1 c2 n : Nat) (fs gs : List Nat) (hn1 : Hid (fs.length = n)) (hn2 : Hid (gs.length = n)) (l1 : n ≤ 1024) (w : World) (hl1 : b1 < w.heap.size) (hl2 : b2 < w.heap.size) (hf : Fls w b1 o1 fs) (hg : Fls w b2 o2 gs)
    (wf : Hid (∀ i, fs.getD i 0 < 18446744073709551616)) (wg : Hid (∀ i, gs.getD i 0 < 18446744073709551616)) (ff : Hid (∀ i, i < n → Rn.fin (fs.getD i 0) = true ∧ Rn.fin (gs.getD i 0) = true)) :
    Calls Tadg.prog 9 #[.slice (some ⟨b1, o1, none⟩) n c1, .slice (some ⟨b2, o2, none⟩) n c2] w fun e w' => e = .returned (.agg (accC (dig (xsum fs gs n)))) ∧ Below w.heap.size w w' := by
  have hz := Tadg.zero29
  have n1 := AccAt.new (w.alloc (.cells (accC (dig 0)) 29)) (dig 0)
  have n0 := (AccAt.new w (dig 0)).old (.cells (accC (dig 0)) 29)
  rw [World.size_alloc] at n1
  go_enter Tadg.func9, Tadg.ntmps9
  go_wp2
  have bw : Below w.heap.size w ((w.alloc (.cells (accC (dig 0)) 29)).alloc (.cells (accC (dig 0)) 29)) := ((Below.refl _ _).alloc (Nat.le_refl _) _).alloc (by simp) _
  have hf' := hf.below hl1 bw
  have hg' := hg.below hl2 bw
  generalize (w.alloc (.cells (accC (dig 0)) 29)).alloc (.cells (accC (dig 0)) 29) = W at *
  go_loopw [6] (fun i w1 => ∃ k : Nat, k ≤ n ∧ i = .int .i64 k ∧ AccAt w1 (w.heap.size + 1) (dig (xsum fs gs k)) ∧ AccAt w1 w.heap.size (dig 0) ∧ Below w.heap.size w w1) (fun i _ => n - (intOf i).toNat)
  case atStart => exact ⟨0, Nat.zero_le _, rfl, n1, n0, bw⟩
  case round =>
    obtain ⟨k, hk, rfl, A1, A0, hB⟩ := hrel
    by_cases hlt : k < n
    · have e1 := (hf.below hl1 hB) k (by have := hn1.out; omega)
      have e2 := (hg.below hl2 hB) k (by have := hn2.out; omega)
      have i1 : (k : Int) < (n : Int) := by omega
      obtain ⟨fx, fy⟩ := ff.out k hlt
      have wx := wf.out k
      have wy := wg.out k
      have hx1 : Hid (xsum fs gs (k + 1) = xsum fs gs k + vz (fs.getD k 0) * vz (gs.getD k 0)) := rfl
      have hsz := hB.size
      clear hf' hg' n0 n1
      generalize fs.getD k 0 = X at *
      generalize gs.getD k 0 = Y at *
      go_wp2
      go_region_with (go_at_call 29; refine (addProd_any (w.heap.size + 1) (xsum fs gs k) X Y wx fx wy fy _ ?_).mono ?_; exact A1; rintro e w2 ⟨rfl, h1, h2⟩)
      all_goals
        go_wp2
        go_roundw
        case rel => exact ⟨k + 1, by omega, by go_num, by rw [hx1.out]; exact h1, h2.acc (by omega) A0, ((below_drewN hB 1).trans (h2.below (C := w.heap.size) (Nat.le_succ _)))⟩
        case measure => simp [intOf]; omega
    · have hx : ¬ (k : Int) < (n : Int) := by omega
      have hkn : k = n := by omega
      subst hkn
      clear hf' hg' n0 n1
      go_wp2_with (first
        | (refine wpList_load_row rfl 29 _ rfl (w.heap.size + 1) rfl 29 _ (0, 0) _ A1 Tadg.underlying29 rfl (Tadg.size29 _) ?_)
        | (refine wpList_store_row rfl 29 _ _ rfl w.heap.size _ rfl rfl 29 _ A0 (Tadg.size29 _) (by rw [accC_size, accC_size]) (accC_one _) ?_))
      refine bodyPost_ret (results_cell_row Tadg.results9 _ _ w.heap.size 29 _ (0, 0) _ rfl A0.setRow Tadg.underlying29 rfl (Tadg.size29 _)) rfl ⟨rfl, ?_⟩
      exact below_row hB (Nat.le_refl _) _
end Go.Proofs.YgctadDoor
