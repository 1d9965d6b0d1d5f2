/-
  No cell of these rows narrows 'for every input' (looked for: loops, veiled, ifaces, maps, wideKeys, modest, calm, conditions, laid).
  DERIVED. THE GIVEN ROWS OF THIS SEAT. 8 by the template 'for every input the law returns true; each argument reads behind the call as it read before'; 0 by the template 'total and deterministic' (their statements: YgctadTotals.lean).
  GIVEN WITH THE SEED: the statements are not yours to turn. If you find one false, say at which input.
  Laid BY PROGRAM, IN A SANDBOX (cutbox-rows.mjs): the forced cells as the released guide's own fill.sh prints them over the translation d73834ef88a523e2… (all of the seat's roots in one cut). By AI agents, Wed Nov 11 2026. No macro, syntax, notation, axiom, sorry.
-/
import Derived.Test.YgctadChecked
import GoSem.Claim
import GoSem.ClaimJoined
import GoSem.ClaimMapViews
import Derived.JoinedTies
import Derived.KernelRfl
namespace Go.Proofs.Ygctad
/- THE CELL 'sum', in the pinned program and in every row, IS THE sha256 OF THE DUMP (.gsa) THAT YgctadProg.lean LOADS. Nothing in Lean hashes anything: it is a label: what it is worth is what the hold of that sum in a sandbox is worth. -/
noncomputable def Tadg.pinned : Pinned := { name := "ygctad", sum := "d73834ef88a523e2dfd4a61eed6cc2ea3d47e0cb405dd0e22f3a687b38ff50d9", checked := Tadg.checked }
namespace Rows
def none {H : Type} : Left H := { results := [], args := [] }

/-- 'law.DotIsFold': WHATEVER THE INPUT: true; the input reads as it did. -/
def dotIsFoldSpec : ChangeSpec := { name := "dotIsFold", fn := fun _ => fun
  | [d] => { results := [.lit (.bool true)], args := [d] }
  | _ => none }
def dotIsFoldRow : OpenClaim := { program := "ygctad", sum := "d73834ef88a523e2dfd4a61eed6cc2ea3d47e0cb405dd0e22f3a687b38ff50d9", func := "fftlab/law.DotIsFold", spec := "dotIsFold", inPlace := ["math.Float64frombits", "math.Float64bits"], apart := false }
def DotIsFoldSaid : Prop := dotIsFoldRow.holds Tadg.pinned (OpenSpec.ofChange dotIsFoldSpec)

/-- ITS FALSE NEIGHBOUR: 'it returns false'. Refute it at one input. -/
def dotIsFoldWrong : ChangeSpec := { name := "dotIsFold", fn := fun _ => fun
  | [d] => { results := [.lit (.bool false)], args := [d] }
  | _ => none }
def DotIsFoldWrongFalsely : Prop := dotIsFoldRow.holds Tadg.pinned (OpenSpec.ofChange dotIsFoldWrong)

/-- 'law.Dot2Near': WHATEVER THE INPUT: true; the input reads as it did. -/
def dot2NearSpec : ChangeSpec := { name := "dot2Near", fn := fun _ => fun
  | [d] => { results := [.lit (.bool true)], args := [d] }
  | _ => none }
def dot2NearRow : OpenClaim := { program := "ygctad", sum := "d73834ef88a523e2dfd4a61eed6cc2ea3d47e0cb405dd0e22f3a687b38ff50d9", func := "fftlab/law.Dot2Near", spec := "dot2Near", inPlace := ["math.Float64frombits", "math.Float64bits", "math/bits.Sub64", "math/bits.Add64"], apart := false }
def Dot2NearSaid : Prop := dot2NearRow.holds Tadg.pinned (OpenSpec.ofChange dot2NearSpec)

/-- ITS FALSE NEIGHBOUR: 'it returns false'. Refute it at one input. -/
def dot2NearWrong : ChangeSpec := { name := "dot2Near", fn := fun _ => fun
  | [d] => { results := [.lit (.bool false)], args := [d] }
  | _ => none }
def Dot2NearWrongFalsely : Prop := dot2NearRow.holds Tadg.pinned (OpenSpec.ofChange dot2NearWrong)

/-- 'law.HornerIsFold': WHATEVER THE INPUT: true; the input reads as it did. -/
def hornerIsFoldSpec : ChangeSpec := { name := "hornerIsFold", fn := fun _ => fun
  | [d1, d2] => { results := [.lit (.bool true)], args := [d1, d2] }
  | _ => none }
def hornerIsFoldRow : OpenClaim := { program := "ygctad", sum := "d73834ef88a523e2dfd4a61eed6cc2ea3d47e0cb405dd0e22f3a687b38ff50d9", func := "fftlab/law.HornerIsFold", spec := "hornerIsFold", inPlace := ["math.Float64frombits", "math.Float64bits"], apart := false }
def HornerIsFoldSaid : Prop := hornerIsFoldRow.holds Tadg.pinned (OpenSpec.ofChange hornerIsFoldSpec)

/-- ITS FALSE NEIGHBOUR: 'it returns false'. Refute it at one input. -/
def hornerIsFoldWrong : ChangeSpec := { name := "hornerIsFold", fn := fun _ => fun
  | [d1, d2] => { results := [.lit (.bool false)], args := [d1, d2] }
  | _ => none }
def HornerIsFoldWrongFalsely : Prop := hornerIsFoldRow.holds Tadg.pinned (OpenSpec.ofChange hornerIsFoldWrong)

/-- 'law.CompensatedNear': WHATEVER THE INPUT: true; the input reads as it did. -/
def compensatedNearSpec : ChangeSpec := { name := "compensatedNear", fn := fun _ => fun
  | [d1, d2] => { results := [.lit (.bool true)], args := [d1, d2] }
  | _ => none }
def compensatedNearRow : OpenClaim := { program := "ygctad", sum := "d73834ef88a523e2dfd4a61eed6cc2ea3d47e0cb405dd0e22f3a687b38ff50d9", func := "fftlab/law.CompensatedNear", spec := "compensatedNear", inPlace := ["math.Float64frombits", "math.Float64bits", "math/bits.Sub64", "math/bits.Add64"], apart := false }
def CompensatedNearSaid : Prop := compensatedNearRow.holds Tadg.pinned (OpenSpec.ofChange compensatedNearSpec)

/-- ITS FALSE NEIGHBOUR: 'it returns false'. Refute it at one input. -/
def compensatedNearWrong : ChangeSpec := { name := "compensatedNear", fn := fun _ => fun
  | [d1, d2] => { results := [.lit (.bool false)], args := [d1, d2] }
  | _ => none }
def CompensatedNearWrongFalsely : Prop := compensatedNearRow.holds Tadg.pinned (OpenSpec.ofChange compensatedNearWrong)

/-- 'law.OpNear': WHATEVER THE INPUT: true; the input reads as it did. -/
def opNearSpec : ChangeSpec := { name := "opNear", fn := fun _ => fun
  | [d1, d2, d3] => { results := [.lit (.bool true)], args := [d1, d2, d3] }
  | _ => none }
def opNearRow : OpenClaim := { program := "ygctad", sum := "d73834ef88a523e2dfd4a61eed6cc2ea3d47e0cb405dd0e22f3a687b38ff50d9", func := "fftlab/law.OpNear", spec := "opNear", inPlace := ["math.Float64frombits", "math.Float64bits", "math/bits.Sub64", "math/bits.Add64"], apart := false }
def OpNearSaid : Prop := opNearRow.holds Tadg.pinned (OpenSpec.ofChange opNearSpec)

/-- ITS FALSE NEIGHBOUR: 'it returns false'. Refute it at one input. -/
def opNearWrong : ChangeSpec := { name := "opNear", fn := fun _ => fun
  | [d1, d2, d3] => { results := [.lit (.bool false)], args := [d1, d2, d3] }
  | _ => none }
def OpNearWrongFalsely : Prop := opNearRow.holds Tadg.pinned (OpenSpec.ofChange opNearWrong)

/-- 'law.TwoSumExact': WHATEVER THE INPUT: true; the input reads as it did. -/
def twoSumExactSpec : ChangeSpec := { name := "twoSumExact", fn := fun _ => fun
  | [d1, d2] => { results := [.lit (.bool true)], args := [d1, d2] }
  | _ => none }
def twoSumExactRow : OpenClaim := { program := "ygctad", sum := "d73834ef88a523e2dfd4a61eed6cc2ea3d47e0cb405dd0e22f3a687b38ff50d9", func := "fftlab/law.TwoSumExact", spec := "twoSumExact", inPlace := ["math.Float64frombits", "math.Float64bits", "math/bits.Sub64", "math/bits.Add64"], apart := false }
def TwoSumExactSaid : Prop := twoSumExactRow.holds Tadg.pinned (OpenSpec.ofChange twoSumExactSpec)

/-- ITS FALSE NEIGHBOUR: 'it returns false'. Refute it at one input. -/
def twoSumExactWrong : ChangeSpec := { name := "twoSumExact", fn := fun _ => fun
  | [d1, d2] => { results := [.lit (.bool false)], args := [d1, d2] }
  | _ => none }
def TwoSumExactWrongFalsely : Prop := twoSumExactRow.holds Tadg.pinned (OpenSpec.ofChange twoSumExactWrong)

/-- 'law.FastTwoSumExact': WHATEVER THE INPUT: true; the input reads as it did. -/
def fastTwoSumExactSpec : ChangeSpec := { name := "fastTwoSumExact", fn := fun _ => fun
  | [d1, d2] => { results := [.lit (.bool true)], args := [d1, d2] }
  | _ => none }
def fastTwoSumExactRow : OpenClaim := { program := "ygctad", sum := "d73834ef88a523e2dfd4a61eed6cc2ea3d47e0cb405dd0e22f3a687b38ff50d9", func := "fftlab/law.FastTwoSumExact", spec := "fastTwoSumExact", inPlace := ["math.Float64frombits", "math.Float64bits", "math/bits.Sub64", "math/bits.Add64"], apart := false }
def FastTwoSumExactSaid : Prop := fastTwoSumExactRow.holds Tadg.pinned (OpenSpec.ofChange fastTwoSumExactSpec)

/-- ITS FALSE NEIGHBOUR: 'it returns false'. Refute it at one input. -/
def fastTwoSumExactWrong : ChangeSpec := { name := "fastTwoSumExact", fn := fun _ => fun
  | [d1, d2] => { results := [.lit (.bool false)], args := [d1, d2] }
  | _ => none }
def FastTwoSumExactWrongFalsely : Prop := fastTwoSumExactRow.holds Tadg.pinned (OpenSpec.ofChange fastTwoSumExactWrong)

/-- 'law.TwoProdExact': WHATEVER THE INPUT: true; the input reads as it did. -/
def twoProdExactSpec : ChangeSpec := { name := "twoProdExact", fn := fun _ => fun
  | [d1, d2] => { results := [.lit (.bool true)], args := [d1, d2] }
  | _ => none }
def twoProdExactRow : OpenClaim := { program := "ygctad", sum := "d73834ef88a523e2dfd4a61eed6cc2ea3d47e0cb405dd0e22f3a687b38ff50d9", func := "fftlab/law.TwoProdExact", spec := "twoProdExact", inPlace := ["math.Float64frombits", "math.Float64bits", "math/bits.Sub64", "math/bits.Add64"], apart := false }
def TwoProdExactSaid : Prop := twoProdExactRow.holds Tadg.pinned (OpenSpec.ofChange twoProdExactSpec)

/-- ITS FALSE NEIGHBOUR: 'it returns false'. Refute it at one input. -/
def twoProdExactWrong : ChangeSpec := { name := "twoProdExact", fn := fun _ => fun
  | [d1, d2] => { results := [.lit (.bool false)], args := [d1, d2] }
  | _ => none }
def TwoProdExactWrongFalsely : Prop := twoProdExactRow.holds Tadg.pinned (OpenSpec.ofChange twoProdExactWrong)

end Rows
end Go.Proofs.Ygctad
