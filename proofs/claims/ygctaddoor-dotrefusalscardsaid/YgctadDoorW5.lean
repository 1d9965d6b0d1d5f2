import Derived.Test.YgctadDoorW3
namespace Go.Proofs.YgctadDoor
open Go.RowKit
set_option linter.unusedSimpArgs false
set_option linter.unusedVariables false
attribute [local go_sem] Go.Fl.run_add Go.Fl.run_sub Go.Fl.run_mul run50 run52 Go.Fl.run_store_float

/-- A slice of words that came in. -/
def U64s (w : World) (a : Option Addr) (len cap : Nat) (zs : List Int) : Prop :=
  len = 0 ∨ ∃ b off, a = some ⟨b, off, none⟩ ∧ b < w.heap.size ∧ len ≤ cap ∧ cap ≤ maxLen ∧ len ≤ zs.length ∧ ∀ i, i < zs.length → w.cell? ⟨b, off + i, none⟩ = some (.int .u64 (zs.getD i 0))

/-- Floats that lie in memory. -/
def Fls (w : World) (b off : Nat) (xs : List Nat) : Prop := ∀ i, i < xs.length → w.cell? ⟨b, off + i, none⟩ = some (.float .f64 (xs.getD i 0))


set_option maxHeartbeats 400000 in
theorem floats_zero (a : Option Addr) (cap : Nat) (n : Int) (hn : 0 ≤ n) (w : World) :
    Calls Tadg.prog 14 #[.slice a 0 cap, .int .i64 n] w fun e w' => e = .returned (.slice (some ⟨w.heap.size, 0, none⟩) 0 0) ∧ Below w.heap.size w w' ∧ w'.heap.size = w.heap.size + 1 := by
  obtain ⟨i, hi, hz0, hz1, hz2⟩ := info_parts Tadg.info31
  have hm : ∀ W : World, (Instr.makeSlice 23 (.int .i64 0) (.int .i64 0)).run Tadg.prog W = .ok (.slice (some ⟨W.heap.size, 0, none⟩) 0 0) (W.alloc (.cells (madeCells #[.float .f64 0] 0) 31)) := by
    intro W
    have := run_make (P := Tadg.prog) W 23 31 i _ Tadg.underlying23 hi hz0 .i64 .i64 0 0 (by omega) (by omega) (by omega) (by omega)
    rw [hz1] at this
    simpa [Value.cells] using this
  clear hz0 hz1 hz2 hi
  go_enter Tadg.func14, Tadg.ntmps14
  go_wp2
  go_loopw [6] (fun i w1 => i = .int .i64 0 ∧ w1 = w.alloc (.cells (madeCells #[.float .f64 0] 0) 31)) (fun _ _ => 0)
  case atStart => exact ⟨rfl, rfl⟩
  case round =>
    obtain ⟨rfl, rfl⟩ := hrel
    go_wp2
    go_ret
    exact ⟨rfl, (Below.refl _ _).alloc (Nat.le_refl _) _, by simp⟩

theorem floats_any (a : Option Addr) (len cap N : Nat) (zs : List Int) (w : World) (h : U64s w a len cap zs) (hN : N ≤ 2000) :
    Calls Tadg.prog 14 #[.slice a len cap, .int .i64 N] w fun e w' => ∃ xs : List Nat, Hid (xs = ((zs.take len).take N).map Int.toNat) ∧ xs.length ≤ N ∧ e = .returned (.slice (some ⟨w.heap.size, 0, none⟩) xs.length xs.length) ∧
      Below w.heap.size w w' ∧ w'.heap.size = w.heap.size + 1 ∧ Fls w' w.heap.size 0 xs := by
  rcases h with rfl | ⟨b, off, rfl, hb, hl, hc, hz, hcell⟩
  · refine (floats_zero a cap N (by omega) w).mono ?_
    rintro e w' ⟨rfl, h1, h2⟩
    exact ⟨[], by simp [Hid], by simp, rfl, h1, h2, fun i hi => absurd hi (Nat.not_lt_zero _)⟩
  · by_cases hle : len ≤ N
    · refine (floats_le b off len cap zs N w hb hl hc hz hcell (by omega) (by omega)).mono ?_
      rintro e w' ⟨rfl, h1, h2, h3⟩
      have hlen : (((zs.take len).take N).map Int.toNat).length = len := by simp; omega
      refine ⟨_, rfl, by rw [hlen]; omega, by rw [hlen], h1, h2, fun i hi => ?_⟩
      rw [hlen] at hi
      rw [Nat.zero_add, h3 i hi]
      have : i < zs.length := by omega
      simp [List.getD, List.getElem?_take, hi, this, show i < N by omega]
    · refine (floats_gt b off len cap N zs w hb hl hc hz hcell (by omega) hN).mono ?_
      rintro e w' ⟨rfl, h1, h2, h3⟩
      have hlen : (((zs.take len).take N).map Int.toNat).length = N := by simp; omega
      refine ⟨_, rfl, by rw [hlen]; omega, by rw [hlen], h1, h2, fun i hi => ?_⟩
      rw [hlen] at hi
      rw [Nat.zero_add, h3 i hi]
      have : i < zs.length := by omega
      simp [List.getD, List.getElem?_take, hi, this, show i < len by omega]

end Go.Proofs.YgctadDoor
