import Derived.Test.YgctadDoorW26
import Derived.Deep.QuietTactic
import Derived.BigQuiet
namespace Go.Proofs.YgctadDoor
open Go.RowKit Go.Acc Rn
set_option linter.unusedSimpArgs false
set_option linter.unusedVariables false
attribute [local go_sem] Go.Fl.run_add Go.Fl.run_sub Go.Fl.run_mul

/-- The fold of the products, from +0. -/
def dfold (fs gs : List Nat) : Nat → Nat
  | 0 => 0
  | k + 1 => Fl.can .add (dfold fs gs k) (Fl.can .mul (fs.getD k 0) (gs.getD k 0))
theorem dfold_step {fs gs : List Nat} {k s p r : Nat} (hs : Fl.same s (dfold fs gs k) = true) (hp : Fl.Res .mul (fs.getD k 0) (gs.getD k 0) p) (hr : Fl.Res .add s p r) : Fl.same r (dfold fs gs (k + 1)) = true :=
  hr.same (Fl.can_res ..) (.inl rfl) hs (hp.same (Fl.can_res ..) (.inr (.inr rfl)) (Fl.same_refl _) (Fl.same_refl _))

set_option maxHeartbeats 2000000 in
theorem dot_any (b1 o1 b2 o2 c1 c2 n : Nat) (fs gs : List Nat) (hn1 : Hid (fs.length = n)) (hn2 : Hid (gs.length = n)) (l1 : n ≤ 1024) (w : World) (hf : Fls w b1 o1 fs) (hg : Fls w b2 o2 gs)
    (wf : Hid (∀ i, fs.getD i 0 < 18446744073709551616)) (wg : Hid (∀ i, gs.getD i 0 < 18446744073709551616)) (ha : admB fs gs = true) :
    Calls Tadg.prog 16 #[.slice (some ⟨b1, o1, none⟩) n c1, .slice (some ⟨b2, o2, none⟩) n c2] w fun e w' => ∃ r m, e = .returned (.float .f64 r) ∧ w' = w.drewN m ∧ Fl.same r (dfold fs gs n) = true := by
  have hcf : ∀ i, i < n → w.cell? ⟨b1, o1 + i, none⟩ = some (.float .f64 (fs.getD i 0)) := fun i hi => hf i (by have := hn1.out; omega)
  have hcg : ∀ i, i < n → w.cell? ⟨b2, o2 + i, none⟩ = some (.float .f64 (gs.getD i 0)) := fun i hi => hg i (by have := hn2.out; omega)
  have hst : Hid (∀ k s p r, Fl.same s (dfold fs gs k) = true → Fl.Res .mul (fs.getD k 0) (gs.getD k 0) p → Fl.Res .add s p r → Fl.same r (dfold fs gs (k + 1)) = true) := fun k s p r h1 h2 h3 => dfold_step h1 h2 h3
  have h00 : Hid (dfold fs gs 0 = 0) := rfl
  have href : Hid ((!admB fs gs) = false) := by rw [Hid, ha]; rfl
  go_enter Tadg.func16, Tadg.ntmps16
  go_wp2_with (go_at_call 39; refine (refused_any _ _ _ _ _ _ n n fs gs hn1 hn2 (by omega) (by omega) _ hf hg wf wg).mono ?_; rintro e w' ⟨rfl, hq⟩; obtain rfl := hq.symm; rw [href.out])
  clear hf hg
  generalize hD : dfold fs gs = D at *
  have HD : Hid (dfold fs gs = D) := hD
  clear hD
  go_loopw [5, 6] (fun s i w1 => ∃ k r m : Nat, k ≤ n ∧ i = .int .i64 k ∧ s = .float .f64 r ∧ w1 = w.drewN m ∧ Fl.same r (D k) = true) (fun _ i _ => n - (intOf i).toNat)
  case atStart => exact ⟨0, 0, 0, Nat.zero_le _, rfl, rfl, rfl, by rw [h00.out]; exact Fl.same_refl _⟩
  case round =>
    obtain ⟨k, r, m, hk, rfl, rfl, rfl, hs⟩ := hrel
    by_cases hlt : k < n
    · have e1 := hcf k hlt
      have e2 := hcg k hlt
      have i1 : (k : Int) < (n : Int) := by omega
      have st : Hid (∀ p q, Fl.Res .mul (fs.getD k 0) (gs.getD k 0) p → Fl.Res .add r p q → Fl.same q (D (k + 1)) = true) := fun p q h1 h2 => hst.out k r p q hs h1 h2
      clear hcf hcg hst
      generalize fs.getD k 0 = X at *
      generalize gs.getD k 0 = Y at *
      go_wp2
      go_region_with (fail)
      all_goals
        go_wp2
        go_roundw
        case rel => exact ⟨k + 1, _, _, by omega, by go_num, rfl, rfl, st.out _ _ (Fl.val_res ..) (Fl.val_res ..)⟩
        case measure => simp [intOf]; omega
    · have hx : ¬ (k : Int) < (n : Int) := by omega
      go_wp2
      go_ret
      have : k = n := by omega
      subst this
      exact ⟨_, rfl, ⟨_, rfl⟩, by rw [HD.out]; exact hs⟩

theorem U64s.below {w w' : World} {a : Option Addr} {len cap : Nat} {zs : List Int} (h : U64s w a len cap zs) (hb : Below w.heap.size w w') : U64s w' a len cap zs := by
  rcases h with h | ⟨b, off, e, h1, h2, h3, h4, h5⟩
  · exact .inl h
  · exact .inr ⟨b, off, e, Nat.lt_of_lt_of_le h1 hb.size, h2, h3, h4, fun i hi => by rw [hb.cell (p := ⟨b, off + i, none⟩) h1]; exact h5 i hi⟩
theorem Fls.below {w w' : World} {b off : Nat} {xs : List Nat} (h : Fls w b off xs) (hl : b < w.heap.size) (hb : Below w.heap.size w w') : Fls w' b off xs := fun i hi => by
  rw [hb.cell (p := ⟨b, off + i, none⟩) hl]; exact h i hi

/-- What 'twoLists' leaves: two slices of floats in two new blocks. -/
def TwoFs (w : World) (e : Ending) (w' : World) (zs : List Int) (h : Nat) : Prop :=
  ∃ fs gs : List Nat, ∃ B1 B2 : Nat, e = .returned (.tuple #[.slice (some ⟨B1, 0, none⟩) fs.length fs.length, .slice (some ⟨B2, 0, none⟩) gs.length gs.length]) ∧
    Hid (fs = ((zs.take h).take 1024).map Int.toNat) ∧ (Hid (∃ m, gs = ((zs.drop h).take m).map Int.toNat)) ∧ fs.length ≤ 1024 ∧ gs.length ≤ 1024 ∧
    Below w.heap.size w w' ∧ w.heap.size ≤ B1 ∧ w.heap.size ≤ B2 ∧ Fls w' B1 0 fs ∧ Fls w' B2 0 gs ∧ B1 < w'.heap.size ∧ B2 < w'.heap.size

set_option maxHeartbeats 2000000 in
theorem twoLists_some (b off len cap : Nat) (zs : List Int) (w : World) (hb : b < w.heap.size) (hl : len ≤ cap) (hc : cap ≤ maxLen) (hz : len ≤ zs.length) (hcp : 0 < cap) (h : Nat) (HH : Hid (h = len / 2))
    (hcell : ∀ i, i < zs.length → w.cell? ⟨b, off + i, none⟩ = some (.int .u64 (zs.getD i 0))) :
    Calls Tadg.prog 7 #[.slice (some ⟨b, off, none⟩) len cap] w fun e w' => TwoFs w e w' zs h := by
  have u1 : U64s w (some ⟨b, off, none⟩) h h zs := .inr ⟨b, off, rfl, hb, Nat.le_refl _, by have := HH.out; unfold maxLen at *; omega, by have := HH.out; omega, hcell⟩
  have u2 : U64s w (some ⟨b, off + h, none⟩) (len - h) (cap - h) (zs.drop h) := .inr ⟨b, off + h, rfl, hb, by omega, by unfold maxLen at *; omega, by rw [List.length_drop]; omega, fun i hi => by
    rw [List.length_drop] at hi
    rw [show off + h + i = off + (h + i) by omega, hcell (h + i) (by omega)]
    simp [List.getD, List.getElem?_drop]⟩
  unfold maxLen at hc
  have eh : (len : Int) / 2 = (h : Int) := by have := HH.out; omega
  have h0 : (0 : Int) ≤ (h : Int) := by omega
  have h1 : (h : Int) ≤ (len : Int) := by have := HH.out; omega
  have h2 : (h : Int) ≤ (cap : Int) := by have := HH.out; omega
  have h1n : h ≤ len := by have := HH.out; omega
  obtain ⟨M, hM⟩ : ∃ M : Nat, M = min h 1024 := ⟨_, rfl⟩
  have M1 : M ≤ 1024 := by omega
  have hmin : (if (1024 : Int) < (h : Int) then (1024 : Int) else (h : Int)) = (M : Int) := by split <;> omega
  have hch : ¬ cap = h := by have := HH.out; omega
  clear hM hcell
  go_enter Tadg.func7, Tadg.ntmps7
  go_wp2
  go_region_with (first
    | (go_at_call_of 14 (Value.int IntKind.i64 1024); refine (floats_any (some ⟨b, off, none⟩) h h 1024 zs _ (by exact u1) (by omega)).mono ?_; rintro e w1 ⟨fs, hfs, lf, rfl, B1, z1, F1⟩)
    | (go_at_call 14; refine (floats_any (some ⟨b, off + h, none⟩) (len - h) (cap - h) M (zs.drop h) _ (by exact U64s.below (w := w.drew) u2 B1) (by omega)).mono ?_; rintro e w2 ⟨gs, hgs, lg, rfl, B2, z2, F2⟩))
  all_goals
    go_wp2
    go_ret2
    have B1' : Below w.heap.size w w1 := ((Below.refl _ w).drew).trans B1
    have z1' : w1.heap.size = w.heap.size + 1 := z1
    rw [z1'] at F2
    refine ⟨fs, gs, w.heap.size, w.heap.size + 1, rfl, hfs, ⟨min M (len - h), by rw [hgs.out, List.take_take]⟩, lf, by omega, B1'.trans (B2.mono (by omega)), Nat.le_refl _, by omega, F1.below (by omega) B2, F2, by omega, by omega⟩

set_option maxHeartbeats 2000000 in
theorem twoLists_zero (a : Option Addr) (zs : List Int) (w : World) :
    Calls Tadg.prog 7 #[.slice a 0 0] w fun e w' => TwoFs w e w' zs 0 := by
  cases a
  all_goals
    go_enter Tadg.func7, Tadg.ntmps7
    go_wp2
    go_region_with (first
      | (go_at_call_of 14 (Value.int IntKind.i64 1024); refine (floats_any _ 0 _ 1024 [] _ (.inl rfl) (by omega)).mono ?_; rintro e w1 ⟨fs, hfs, lf, rfl, B1, z1, F1⟩)
      | (go_at_call_of 14 (Value.int IntKind.i64 0); refine (floats_any _ 0 _ 0 [] _ (.inl rfl) (by omega)).mono ?_; rintro e w2 ⟨gs, hgs, lg, rfl, B2, z2, F2⟩))
    all_goals
      go_wp2
      go_ret2
      have B1' : Below w.heap.size w w1 := ((Below.refl _ w).drew).trans B1
      have z1' : w1.heap.size = w.heap.size + 1 := z1
      rw [z1'] at F2
      have ef : fs = [] := by rw [hfs.out]; simp
      have eg : gs = [] := by rw [hgs.out]; simp
      refine ⟨fs, gs, w.heap.size, w.heap.size + 1, rfl, by rw [ef]; simp [Hid], ⟨0, by rw [eg]; simp⟩, lf, by omega, B1'.trans (B2.mono (by omega)), Nat.le_refl _, by omega, F1.below (by omega) B2, F2, by omega, by omega⟩

theorem twoLists_any (a : Option Addr) (len cap : Nat) (zs : List Int) (w : World) (h : (cap = 0 ∧ len = 0) ∨ (0 < cap ∧ ∃ b off, a = some ⟨b, off, none⟩ ∧ b < w.heap.size ∧ len ≤ cap ∧ cap ≤ maxLen ∧ len ≤ zs.length ∧ ∀ i, i < zs.length → w.cell? ⟨b, off + i, none⟩ = some (.int .u64 (zs.getD i 0)))) :
    Calls Tadg.prog 7 #[.slice a len cap] w fun e w' => TwoFs w e w' zs (len / 2) := by
  rcases h with ⟨rfl, rfl⟩ | ⟨h0, b, off, rfl, h1, h2, h3, h4, h5⟩
  · exact twoLists_zero a zs w
  · exact twoLists_some b off len cap zs w h1 h2 h3 h4 h0 _ rfl h5

end Go.Proofs.YgctadDoor
