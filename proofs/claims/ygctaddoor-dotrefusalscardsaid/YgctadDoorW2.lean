import Derived.Test.YgctadDoorW1
namespace Go.Proofs.YgctadDoor
open Go.RowKit
set_option linter.unusedSimpArgs false
set_option linter.unusedVariables false
attribute [local go_sem] Go.Fl.run_add Go.Fl.run_sub Go.Fl.run_mul run50 run52 Go.Fl.run_store_float

theorem Tadg.info31 : (Tadg.prog.info? 31).map (fun i => (i.zero, i.size, i.bytes)) = some (some (.float .f64 0), 1, 8) := by kernel_rfl

set_option maxHeartbeats 400000 in
theorem floats_le (b off len cap : Nat) (zs : List Int) (n : Int) (w : World) (hb : b < w.heap.size) (hl : len ≤ cap) (hc : cap ≤ maxLen) (hz : len ≤ zs.length)
    (hcell : ∀ i, i < zs.length → w.cell? ⟨b, off + i, none⟩ = some (.int .u64 (zs.getD i 0))) (hn : (len : Int) ≤ n) (hn2 : n ≤ 2000) :
    Calls Tadg.prog 14 #[.slice (some ⟨b, off, none⟩) len cap, .int .i64 n] w fun e w' => e = .returned (.slice (some ⟨w.heap.size, 0, none⟩) len len) ∧ Below w.heap.size w w' ∧
      w'.heap.size = w.heap.size + 1 ∧ ∀ i, i < len → w'.cell? ⟨w.heap.size, i, none⟩ = some (.float .f64 (zs.getD i 0).toNat) := by
  unfold maxLen at hc
  obtain ⟨i, hi, hz0, hz1, hz2⟩ := info_parts Tadg.info31
  have hm : ∀ W : World, (Instr.makeSlice 23 (.int .i64 len) (.int .i64 len)).run Tadg.prog W = .ok (.slice (some ⟨W.heap.size, 0, none⟩) len len) (W.alloc (.cells (madeCells #[.float .f64 0] len) 31)) := by
    intro W
    have := run_make (P := Tadg.prog) W 23 31 i _ Tadg.underlying23 hi hz0 .i64 .i64 (len : Int) (len : Int) (by omega) (by omega) (by rw [hz2]; omega) (by omega)
    rw [hz1] at this
    simpa [Value.cells] using this
  clear hz0 hz1 hz2 hi
  go_enter Tadg.func14, Tadg.ntmps14
  go_wp2
  go_loopw [6] (fun i w1 => ∃ k : Nat, k ≤ len ∧ i = .int .i64 k ∧ Below w.heap.size w w1 ∧ w1.heap.size = w.heap.size + 1 ∧ (∀ j, j < len → ∃ v, w1.cell? ⟨w.heap.size, j, none⟩ = some v) ∧
      (∀ j, j < len → w1.frozen? ⟨w.heap.size, j, none⟩ = false) ∧ ∀ j, j < k → w1.cell? ⟨w.heap.size, j, none⟩ = some (.float .f64 (zs.getD j 0).toNat)) (fun i _ => len - (intOf i).toNat)
  case atStart =>
    refine ⟨0, Nat.zero_le _, rfl, (Below.refl _ _).alloc (Nat.le_refl _) _, by simp, ?_, ?_, fun j hj => absurd hj (Nat.not_lt_zero _)⟩
    · intro j hj
      exact ⟨.float .f64 0, by simp [go_sem, madeCells, hj, Nat.mod_one]⟩
    · intro j hj
      simp [go_sem]
  case round =>
    obtain ⟨k, hk, rfl, hB, hs, hex, hfr, hdone⟩ := hrel
    by_cases hlt : k < len
    · obtain ⟨v, hv⟩ := hex k hlt
      have hf := hfr k hlt
      have hr := hcell k (by omega)
      rw [← hB.cell (p := ⟨b, off + k, none⟩) hb] at hr
      clear hcell
      go_wp2
      go_roundw
      case rel =>
        refine ⟨k + 1, by omega, by go_num, hB.setCell (Nat.le_refl _) _, by simp [hs], ?_, ?_, ?_⟩
        · intro j hj
          by_cases e : j = k
          · subst e; exact ⟨_, World.cell?_setCell_same _ _ _ hv⟩
          · obtain ⟨u, hu⟩ := hex j hj
            exact ⟨u, by rw [World.cell?_setCell_other _ _ _ _ (by intro h; injection h with _ h2; omega)]; exact hu⟩
        · intro j hj
          simpa using hfr j hj
        · intro j hj
          by_cases e : j = k
          · subst e; rw [World.cell?_setCell_same _ _ _ hv]; simp
          · rw [World.cell?_setCell_other _ _ _ _ (by intro h; injection h with _ h2; omega)]
            exact hdone j (by omega)
      case measure => simp [intOf]; omega
    · go_wp2
      go_ret
      have : k = len := by omega
      subst this
      exact ⟨rfl, hB, hs, hdone⟩

set_option maxHeartbeats 400000 in
theorem floats_gt (b off len cap N : Nat) (zs : List Int) (w : World) (hb : b < w.heap.size) (hl : len ≤ cap) (hc : cap ≤ maxLen) (hz : len ≤ zs.length)
    (hcell : ∀ i, i < zs.length → w.cell? ⟨b, off + i, none⟩ = some (.int .u64 (zs.getD i 0))) (hn : N < len) (hn2 : N ≤ 2000) :
    Calls Tadg.prog 14 #[.slice (some ⟨b, off, none⟩) len cap, .int .i64 N] w fun e w' => e = .returned (.slice (some ⟨w.heap.size, 0, none⟩) N N) ∧ Below w.heap.size w w' ∧
      w'.heap.size = w.heap.size + 1 ∧ ∀ i, i < N → w'.cell? ⟨w.heap.size, i, none⟩ = some (.float .f64 (zs.getD i 0).toNat) := by
  unfold maxLen at hc
  obtain ⟨i, hi, hz0, hz1, hz2⟩ := info_parts Tadg.info31
  have hm : ∀ W : World, (Instr.makeSlice 23 (.int .i64 N) (.int .i64 N)).run Tadg.prog W = .ok (.slice (some ⟨W.heap.size, 0, none⟩) N N) (W.alloc (.cells (madeCells #[.float .f64 0] N) 31)) := by
    intro W
    have := run_make (P := Tadg.prog) W 23 31 i _ Tadg.underlying23 hi hz0 .i64 .i64 (N : Int) (N : Int) (by omega) (by omega) (by rw [hz2]; omega) (by omega)
    rw [hz1] at this
    simpa [Value.cells] using this
  clear hz0 hz1 hz2 hi
  have hN : ((N : Int) < (len : Int)) := by omega
  go_enter Tadg.func14, Tadg.ntmps14
  go_wp2
  go_loopw [6] (fun i w1 => ∃ k : Nat, k ≤ N ∧ i = .int .i64 k ∧ Below w.heap.size w w1 ∧ w1.heap.size = w.heap.size + 1 ∧ (∀ j, j < N → ∃ v, w1.cell? ⟨w.heap.size, j, none⟩ = some v) ∧
      (∀ j, j < N → w1.frozen? ⟨w.heap.size, j, none⟩ = false) ∧ ∀ j, j < k → w1.cell? ⟨w.heap.size, j, none⟩ = some (.float .f64 (zs.getD j 0).toNat)) (fun i _ => N - (intOf i).toNat)
  case atStart =>
    refine ⟨0, Nat.zero_le _, rfl, (Below.refl _ _).alloc (Nat.le_refl _) _, by simp, ?_, ?_, fun j hj => absurd hj (Nat.not_lt_zero _)⟩
    · intro j hj
      exact ⟨.float .f64 0, by simp [go_sem, madeCells, hj, Nat.mod_one]⟩
    · intro j hj
      simp [go_sem]
  case round =>
    obtain ⟨k, hk, rfl, hB, hs, hex, hfr, hdone⟩ := hrel
    by_cases hlt : k < N
    · obtain ⟨v, hv⟩ := hex k hlt
      have hf := hfr k hlt
      have hr := hcell k (by omega)
      rw [← hB.cell (p := ⟨b, off + k, none⟩) hb] at hr
      clear hcell
      go_wp2
      go_roundw
      case rel =>
        refine ⟨k + 1, by omega, by go_num, hB.setCell (Nat.le_refl _) _, by simp [hs], ?_, ?_, ?_⟩
        · intro j hj
          by_cases e : j = k
          · subst e; exact ⟨_, World.cell?_setCell_same _ _ _ hv⟩
          · obtain ⟨u, hu⟩ := hex j hj
            exact ⟨u, by rw [World.cell?_setCell_other _ _ _ _ (by intro h; injection h with _ h2; omega)]; exact hu⟩
        · intro j hj
          simpa using hfr j hj
        · intro j hj
          by_cases e : j = k
          · subst e; rw [World.cell?_setCell_same _ _ _ hv]; simp
          · rw [World.cell?_setCell_other _ _ _ _ (by intro h; injection h with _ h2; omega)]
            exact hdone j (by omega)
      case measure => simp [intOf]; omega
    · go_wp2
      go_ret
      have : k = N := by omega
      subst this
      exact ⟨rfl, hB, hs, hdone⟩

end Go.Proofs.YgctadDoor
