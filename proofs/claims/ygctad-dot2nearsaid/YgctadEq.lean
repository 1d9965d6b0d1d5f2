import Derived.Test.YgctadAc
import Derived.Laws.StructEq
namespace Go.Acc
section
variable {P : Program}
theorem run_eq_acc (d : Nat) (t e : TypeId) (f : Nat → Int) (ht : P.underlying t = some (.array 68 e)) (he : P.underlying e = some (.int .u64)) (hs : (P.info? e).map (·.size) = some 1) (w : World) :
    (Op.equalIn (d + 2) t (.agg (accC f)) (.agg (accC f))).run P w = .ok true w := by
  cases hi : P.info? e with
  | none => rw [hi] at hs; cases hs
  | some i =>
    rw [hi] at hs
    simp only [Option.map_some, Option.some.injEq] at hs
    rw [Op.equalIn]
    simp only [Sem.run_bind, run_underlying ht, Result.andThen_ok, sizeOf, typeInfo, hi, run_program, Sem.run_pure, hs, Nat.mul_one]
    rw [Std.Legacy.Range.forIn_eq_forIn_range']
    have key : ∀ l : List Nat, (∀ j ∈ l, j < 68) → (forIn (m := Sem) l ((none : Option Bool), ()) fun i __s => do
            let __do_lift ← part e (accC f) i
            let __do_lift_1 ← part e (accC f) i
            let __do_lift ← Op.equalIn (d + 1) e __do_lift __do_lift_1
            if (!__do_lift) = true then pure (ForInStep.done (some false, ())) else pure (ForInStep.yield (none, ()))).run P w = .ok (none, ()) w := by
      intro l
      induction l with
      | nil => intro _; simp
      | cons j l ih =>
        intro hl
        have hj : j < 68 := hl j (List.mem_cons_self ..)
        have hp : (part e (accC f) j).run P w = .ok (.int .u64 (f j)) w := by
          simp [part, isAgg, run_underlying he, accC_get f j hj]
        simp only [List.forIn_cons, Sem.run_bind, hp, Result.andThen_ok, run_equalIn_int w d e .u64 .u64 (f j) (f j) he, BEq.rfl, Bool.not_true, Bool.false_eq_true, if_false, Sem.run_pure]
        exact ih (fun i hi => hl i (List.mem_cons_of_mem _ hi))
    rw [key _ (by intro j hj; simp [List.mem_range'] at hj; omega)]
    simp
end
end Go.Acc
