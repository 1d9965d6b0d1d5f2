import Derived.Test.YgctadDoorRows
import Derived.Test.YgctadDoorTie
import Derived.Test.YgctadDoorCards
import Derived.WalkKit
import Derived.ProofKit
import Derived.OpenShut
import Derived.ShutString
import Derived.ChangeOld
import Derived.Below
import Derived.JoinedOf
import Derived.LaidLaws
import Derived.LaidHandle
import Derived.Lib.LaidTab
import Derived.SevenTiedAt
import Derived.Test.YgctadDoorX12
namespace Go.Proofs.YgctadDoor.splitJoin
open Go.ChangeShapes Go.WideShapes Go.ChangeAt Go.RowKit
open Go.ChangeMaps (open_string shut_string)
set_option linter.unusedVariables false

theorem own : ownKnob Tadg.prog.godebug = none := by kernel_rfl
theorem gT : Tadg.prog.globalNamed (Rows.splitJoinRow.named.headD "") = some 1 := by kernel_rfl
theorem gTType : (Tadg.prog.globals[1]?).map (·.type) = some 87 := by kernel_rfl
theorem cells5 : Tadg.prog.cellsOf 5 = 1 := by kernel_rfl
theorem cells87 : Tadg.prog.cellsOf 87 = 64 := by kernel_rfl

theorem walk (a0 : Int) (a1 : Int) (w0 : (Lit.int .u64 a0).wf = true) (w1 : (Lit.int .u32 a1).wf = true) (w : World) (hT : Tab w) :
    Calls Tadg.prog 6 #[.int .u64 a0, .int .u32 a1] w fun e w' => e = .returned (.bool true) ∧ Below w.heap.size w w' := by
  simp [Lit.wf, IntKind.min, IntKind.max, IntKind.signed, IntKind.bits] at w0 w1
  have h := splitJoin_walk a0.toNat a1.toNat (by omega) (by omega) w hT
  rw [Int.toNat_of_nonneg (by omega), Int.toNat_of_nonneg (by omega)] at h
  exact h

/-- The settled world, the table (block 1) holding what its initialiser lays, meets the condition: the witness. -/
theorem laid_met (os : Os) (args : Array Value) : laidMet Tadg.prog Rows.splitJoinRow.laid (({ World.holding Tadg.prog os ⟨#[], #[], []⟩ with heap := (World.holding Tadg.prog os ⟨#[], #[], []⟩).heap.modify 1 fun
      | .cells _ t frozen => .cells (Lib.deBruijn64tab.map fun (z : Nat) => Value.int .u8 (z : Int)).toArray t frozen
      | o => o } : World).forCall (fun _ _ => 0) ⟨#[], args, []⟩).memory :=
  laidMet_of_run' 8 (by kernel_rfl) (by kernel_rfl)
theorem tab_of {W : World} (h : laidMet Tadg.prog Rows.splitJoinRow.laid W) : Tab W := by
  have hT := Lib.tabIs_of_head (k := .u8) (zs := Lib.deBruijn64tab.map fun (z : Nat) => (z : Int)) gT gTType Tadg.underlying87 Tadg.underlying5 cells5 cells87 h
  intro j hj
  have := hT.cell gT j (by simpa using hj)
  rw [this]
  rw [List.getD_eq_getElem?_getD, List.getD_eq_getElem?_getD, List.getElem?_map, List.getElem?_eq_getElem hj]
  rfl

set_option maxRecDepth 100000 in
theorem lifted (os : Os) (started : os.Started) (H : Type) (enc : TypeId × Value → H) :
    ReturnsInHanded {} Tadg.checked os 6 .any (fun w args => (Rows.splitJoinSpec.pre enc Tadg.prog Tadg.f6 [] false w args ∧ laidMetH Tadg.prog Rows.splitJoinRow.laid w) ∧ sizedMet enc Tadg.prog Tadg.f6 (OpenSpec.ofChange Rows.splitJoinSpec) false w args) (Rows.splitJoinSpec.post enc Tadg.prog Tadg.f6 false true false false) := by
  refine returnsInHanded_of_change_and (C := Tadg.checked) (X := fun w _ => laidMetH Tadg.prog Rows.splitJoinRow.laid w) (fun _ _ _ hh h => h.of_heap hh) own started (by kernel_rfl) Tadg.func6
    (ChangeSpec.witness_at (enc := enc) (C := Tadg.checked) (os := os) (X := fun w _ => laidMetH Tadg.prog Rows.splitJoinRow.laid w) false ({ World.holding Tadg.prog os ⟨#[], #[], []⟩ with heap := (World.holding Tadg.prog os ⟨#[], #[], []⟩).heap.modify 1 fun
      | .cells _ t frozen => .cells (Lib.deBruijn64tab.map fun (z : Nat) => Value.int .u8 (z : Int)).toArray t frozen
      | o => o } : World) #[.int .u64 0, .int .u32 0] 8 rfl (by kernel_rfl) (by kernel_rfl) (by kernel_rfl) (by kernel_rfl) (by kernel_rfl) (laid_met os _)) ?_
  intro W base args ds gs before hval0 hW _ _ hL _
  have hval : ∀ (j : Nat) t v, Tadg.f6.params[j]? = some t → args[j]? = some v → Value.okWide Tadg.prog W .any base t v := hval0
  have hW' := hW
  obtain ⟨p, q, hA0, hV, rfl, hfz, hnd⟩ := hW
  have hA : DataW.TrodAll enc Tadg.prog W 0 (fun _ => true) true Tadg.f6.params.toList args.toList ds p := hA0
  rw [Tadg.params6] at hA hval
  obtain ⟨v0, vs0, d0, ds0, p0, q0, hargs, rfl, rfl, h0, r0⟩ := trodAll_cons hA
  obtain ⟨v1, vs1, d1, ds1, p1, q1, rfl, rfl, rfl, h1, r1⟩ := trodAll_cons r0
  obtain ⟨rfl, rfl, rfl⟩ := trodAll_nil r1
  obtain rfl : args = #[v0, v1] := by cases args; simp_all
  obtain ⟨rfl, rfl⟩ := trodVars_none hV
  obtain ⟨a0, rfl, rfl, rfl, w0⟩ := open_int Tadg.underlying27 (hval 0 27 v0 rfl rfl) h0
  obtain ⟨a1, rfl, rfl, rfl, w1⟩ := open_int Tadg.underlying51 (hval 1 51 v1 rfl rfl) h1
  clear hA0 hval0
  simp only [List.append_nil] at hW'
  refine (walk a0 a1 w0 w1 W (tab_of hL)).mono fun e W' ⟨he, bel⟩ => ?_
  subst he
  exact ⟨_, rfl, _, _, _, [], _, [], hW', trodAll_mk1 (shut_bool Tadg.underlying4 _), (trodAll_cons_mk (shut_int Tadg.underlying27 w0) (trodAll_cons_mk (shut_int Tadg.underlying51 w1) trodAll_mk0)), rfl, bel.frame _, fun h => by cases h⟩

theorem over : Rows.splitJoinRow.holds Tadg.pinned (OpenSpec.ofChange Rows.splitJoinSpec) :=
  OpenClaim.holds_of_wide 6 Tadg.f6 rfl rfl rfl rfl rfl rfl rfl ⟨rfl, rfl, rfl, rfl, rfl⟩ rfl rfl rfl rfl rfl (by kernel_rfl) Tadg.func6 (by kernel_rfl)
    (of_decide_eq_true (by kernel_rfl)) (by unfold Func.isWrapper; first | (rw [if_pos (by decide +kernel)]; kernel_rfl) | (rw [if_neg (by decide +kernel)]; exact ⟨rfl, rfl⟩))
    (fun os started H enc _ => lifted os started H enc)

/-- ████ THE STATEMENT ████ -/
theorem proved : Rows.SplitJoinCardSaid :=
  Claim7.holds_tied_plain_at .later [] [.data] true (true, "f02fccddf6565b151bc32e189cacdbfc35e8ded60d87eb975c3c8156684baaa4") false
    over (fun _ h => by cases h) (by kernel_rfl) (fun _ h => by cases h) splitJoin_row_tie rfl ⟨rfl, rfl⟩ (by kernel_rfl) rfl
    (fun f fn hf hfn => by
      obtain rfl : f = 6 := Option.some.inj ((show Tadg.prog.funcNamed Rows.splitJoinRow.func = some 6 by kernel_rfl).symm.trans hf) |>.symm
      obtain rfl : fn = Tadg.f6 := (Option.some.inj (Tadg.func6.symm.trans hfn)).symm
      exact ⟨by kernel_rfl, fun j t ht => by
        rw [Tadg.params6] at ht
        have h3 : t = 27 ∨ t = 51 := by
          rcases j with _ | _ | j
          · exact .inl (by simpa using ht.symm)
          · exact .inr (by simpa using ht.symm)
          · simp at ht
        rcases h3 with rfl | rfl
        · exact (show Tadg.prog.wantsStandIn 27 = false by kernel_rfl)
        · exact (show Tadg.prog.wantsStandIn 51 = false by kernel_rfl)⟩)
    (by kernel_rfl)
end Go.Proofs.YgctadDoor.splitJoin
