import Derived.WalkKit
import Derived.WalkSpells
import Derived.Deep.Draws
import Derived.Test.YgctadDoorWd
namespace Go.Acc
open Go.RowKit Rn
set_option linter.unusedVariables false

/-- The 68 words of an accumulator, as values. -/
def accC (f : Nat → Int) : Array Value := Array.ofFn (n := 68) fun i => .int .u64 (f i.val)
theorem accC_size (f : Nat → Int) : (accC f).size = 68 := by simp [accC]
theorem accC_get (f : Nat → Int) (i : Nat) (h : i < 68) : (accC f)[i]? = some (.int .u64 (f i)) := by simp [accC, h]
theorem accC_ext {f g : Nat → Int} (h : ∀ i, i < 68 → f i = g i) : accC f = accC g := by
  unfold accC; congr 1; funext i; rw [h i.val i.isLt]
theorem accC_one (f : Nat → Int) : (accC f).all (·.oneCell') = true := by
  unfold accC
  rw [Array.all_eq_true_iff_forall_mem]
  intro x hx
  obtain ⟨i, rfl⟩ := Array.mem_ofFn.1 hx
  rfl

theorem accC_none (f : Nat → Int) (i : Nat) (h : ¬ i < 68) : (accC f)[i]? = none := by rw [Array.getElem?_eq_none_iff, accC_size]; omega
theorem accC_set (f : Nat → Int) (k : Nat) (v : Int) : (accC f).setIfInBounds k (.int .u64 v) = accC (upd f k v) := by
  apply Array.ext_getElem?
  intro i
  rw [Array.getElem?_setIfInBounds, accC_size]
  by_cases hi : i < 68
  · rw [accC_get _ i hi, accC_get _ i hi]
    unfold upd
    by_cases e : k = i
    · subst e; simp [hi]
    · rw [if_neg e, if_neg (fun h => e h.symm)]
  · rw [accC_none _ i hi, accC_none _ i hi]
    by_cases e : k = i
    · subst e; simp [hi]
    · rw [if_neg e]

/-- An accumulator lies in block 'B'. -/
def AccAt (w : World) (B : Nat) (f : Nat → Int) : Prop := w.heap[B]? = some (.cells (accC f) 29 (0, 0))

theorem AccAt.cell {w : World} {B : Nat} {f : Nat → Int} (h : AccAt w B f) (i : Nat) (hi : i < 68) : w.cell? ⟨B, i, none⟩ = some (.int .u64 (f i)) := by
  unfold AccAt at h
  simp [World.cell?, h, accC_get f i hi]
theorem AccAt.frozen {w : World} {B : Nat} {f : Nat → Int} (h : AccAt w B f) (i : Nat) : w.frozen? ⟨B, i, none⟩ = false := by
  unfold AccAt at h
  simp [World.frozen?, h]
theorem AccAt.drewN {w : World} {B : Nat} {f : Nat → Int} (h : AccAt w B f) (n : Nat) : AccAt (w.drewN n) B f := h
theorem AccAt.lt {w : World} {B : Nat} {f : Nat → Int} (h : AccAt w B f) : B < w.heap.size := by
  unfold AccAt at h
  exact (Array.getElem?_eq_some_iff.1 h).1
theorem AccAt.set {w : World} {B : Nat} {f : Nat → Int} (h : AccAt w B f) (k : Nat) (hk : k < 68) (v : Int) : AccAt (w.setCell ⟨B, k, none⟩ (.int .u64 v)) B (upd f k v) := by
  unfold AccAt at *
  rw [← accC_set f k v]
  simp only [World.setCell, Array.getElem?_modify, if_true, h, Option.map_some, Option.isSome_none, Bool.false_eq_true, if_false]

theorem AccAt.ext {w : World} {B : Nat} {f g : Nat → Int} (h : AccAt w B f) (e : ∀ i, i < 68 → f i = g i) : AccAt w B g := by
  unfold AccAt at *; rw [← accC_ext e]; exact h
theorem AccAt.of {w : World} {B : Nat} {g : Nat → Int} {v : Int} (h : AccAt w B g) (hg : ∀ j, Word (g j)) (e : ∃ c, val g 68 = v + c * P (64 * 68)) : AccAt w B (dig v) :=
  h.ext (dig_of_val (fun i _ => hg i) e)
theorem val_of (v : Int) : ∃ c, val (dig v) 68 = v + c * P (64 * 68) :=
  ⟨-(v / P (64 * 68)), by rw [val_dig, Int.neg_mul, Int.mul_comm]; have := Int.emod_add_mul_ediv v (P (64 * 68)); omega⟩

/-- Nothing but block 'B' (and the count of draws) has turned. -/
structure Only (B : Nat) (w w' : World) : Prop where
  os : w'.os = w.os
  tape : w'.tape = w.tape
  output : w'.output = w.output
  size : w'.heap.size = w.heap.size
  block : ∀ k, k ≠ B → w'.heap[k]? = w.heap[k]?

namespace Only
theorem refl (B : Nat) (w : World) : Only B w w := ⟨rfl, rfl, rfl, rfl, fun _ _ => rfl⟩
theorem trans {B : Nat} {a b c : World} (h : Only B a b) (k : Only B b c) : Only B a c :=
  ⟨k.os.trans h.os, k.tape.trans h.tape, k.output.trans h.output, k.size.trans h.size, fun i hi => (k.block i hi).trans (h.block i hi)⟩
theorem drew {B : Nat} {a w : World} (h : Only B a w) : Only B a w.drew := ⟨h.os, h.tape, h.output, h.size, h.block⟩
theorem drewN {B : Nat} {a w : World} (h : Only B a w) (n : Nat) : Only B a (w.drewN n) := ⟨h.os, h.tape, h.output, h.size, h.block⟩
theorem setCell {B : Nat} {a w : World} (h : Only B a w) (k : Nat) (v : Value) : Only B a (w.setCell ⟨B, k, none⟩ v) :=
  ⟨h.os, h.tape, h.output, by simp [World.setCell, h.size], fun i hi => by rw [Below.heap_setCell _ _ _ _ hi]; exact h.block i hi⟩
theorem below {B C : Nat} {a w : World} (h : Only B a w) (hC : C ≤ B) : Below C a w := ⟨h.os, h.tape, h.output, Nat.le_of_eq h.size.symm, fun k hk => h.block k (by omega)⟩
theorem acc {B C : Nat} {a w : World} {f : Nat → Int} (h : Only B a w) (hC : C ≠ B) (hf : AccAt a C f) : AccAt w C f := by
  unfold AccAt at *; rw [h.block C hC]; exact hf
theorem cell {B : Nat} {a w : World} (h : Only B a w) {p : Addr} (hp : p.block ≠ B) : w.cell? p = a.cell? p := World.cell?_of_block (w := a) (h.block p.block hp)
theorem setRow {B : Nat} {a w : World} (h : Only B a w) (cells : Array Value) : Only B a (w.setRow B cells) :=
  ⟨h.os, h.tape, h.output, by rw [← h.size]; simp, fun i hi => by rw [setRow_other _ _ _ _ hi]; exact h.block i hi⟩
end Only

theorem AccAt.new (w : World) (f : Nat → Int) : AccAt (w.alloc (.cells (accC f) 29)) w.heap.size f := heap_alloc_new w _
theorem AccAt.old {w : World} {B : Nat} {f : Nat → Int} (h : AccAt w B f) (o : Obj) : AccAt (w.alloc o) B f := by
  have hl := h.lt
  unfold AccAt at *; rw [heap_alloc_old w o hl]; exact h
theorem AccAt.setRow {B : Nat} {w : World} {f g : Nat → Int} (h : AccAt w B f) : AccAt (w.setRow B (accC g)) B g := setRow_heap w B _ _ _ _ h
theorem AccAt.setRow_ne {B C : Nat} {w : World} {f : Nat → Int} (h : AccAt w B f) (hC : B ≠ C) (cells : Array Value) : AccAt (w.setRow C cells) B f := by
  unfold AccAt at *; rw [setRow_other _ _ _ _ hC]; exact h
theorem AccAt.below {B : Nat} {w w' : World} {f : Nat → Int} (h : AccAt w B f) (hb : Below w.heap.size w w') : AccAt w' B f := by
  have hl := h.lt
  unfold AccAt at *; rw [hb.block B hl]; exact h

end Go.Acc
