/- Small functions of diffcon. Conditions: none. -/
import Derived.Test.YtkkbnbgdhpkfhaaB
import Derived.Test.YtkkbnbgdhpkfhaaC

set_option linter.unusedVariables false
set_option linter.unusedSimpArgs false
namespace Go.Proofs.Ytkkbnbgdhpkfhaa.A
open Go Go.RowKit

def S0 : Orc := fun _ _ => none
theorem S0_ok : SOK Try.prog S0 := ⟨fun _ _ _ h => by cases h⟩

def withinF (x lo hi : Int) : Bool := decide (lo ≤ x ∧ x ≤ hi)
theorem within_calls (x lo hi : Int) (σ : AHeap) : ACalls Try.prog 34 [.int .i64 x, .int .i64 lo, .int .i64 hi] σ (fun v σ' => v = .bool (withinF x lo hi) ∧ σ' = σ) := by
  refine acalls_of S0_ok k34 (by simp) (fun hwf hrl => ?_)
  unfold c34
  simp -dsimp -implicitDefEqProofs (disch := (first | omega | (simp -implicitDefEqProofs only [nx]; done) | (simp -implicitDefEqProofs only [nx]; omega))) only [↓sd, su, ofC, ofV, argT, Option.map_some, Option.map_none, lb, ob, abin, aint, acmp, aun, aconv, aloadO, apart, afield, afaddr, aiaddrS, aiaddrA, aindex, aslice, abnd, alenS, amaxmin, amxs, amx, aalloc, abox, abuildSlice, amake, astore, aappend, acopy, asrcO, afill, AV.cellsA, AV.sc, TK.is, TK.agg, mb, nb, Nat.reduceGT, Int.reduceLT, Int.reduceLE, Int.reduceNeg, Int.reduceEq, decide_true, decide_false, decide_eq_true_eq, decide_eq_false_iff_not, if_true, if_false, ite_true, ite_false, reduceCtorEq, ne_eq, Nat.reduceAdd, Nat.reduceSub, Nat.reduceMul, Nat.reduceLT, Nat.reduceLeDiff, Nat.reduceEqDiff, Nat.reduceBEq, Int.reduceToNat, tb]
  refine AG_dec (fun h => ?_) (fun h => ?_)
  all_goals
    simp -dsimp -implicitDefEqProofs (disch := (first | omega | (simp -implicitDefEqProofs only [nx]; done) | (simp -implicitDefEqProofs only [nx]; omega))) only [↓sd, su, ofC, ofV, argT, Option.map_some, Option.map_none, lb, ob, abin, aint, acmp, aun, aconv, aloadO, apart, afield, afaddr, aiaddrS, aiaddrA, aindex, aslice, abnd, alenS, amaxmin, amxs, amx, aalloc, abox, abuildSlice, amake, astore, aappend, acopy, asrcO, afill, AV.cellsA, AV.sc, TK.is, TK.agg, mb, nb, Nat.reduceGT, Int.reduceLT, Int.reduceLE, Int.reduceNeg, Int.reduceEq, decide_true, decide_false, decide_eq_true_eq, decide_eq_false_iff_not, if_true, if_false, ite_true, ite_false, reduceCtorEq, ne_eq, Nat.reduceAdd, Nat.reduceSub, Nat.reduceMul, Nat.reduceLT, Nat.reduceLeDiff, Nat.reduceEqDiff, Nat.reduceBEq, Int.reduceToNat, tb, h]
    refine ret_pure (Nat.le_refl _) (Sub.refl hwf) ?_ ?_
    · simp -dsimp -implicitDefEqProofs (disch := (first | omega | (simp -implicitDefEqProofs only [nx]; done) | (simp -implicitDefEqProofs only [nx]; omega))) only [↓sd, su, ofC, ofV, argT, Option.map_some, Option.map_none, lb, ob, abin, aint, acmp, aun, aconv, aloadO, apart, afield, afaddr, aiaddrS, aiaddrA, aindex, aslice, abnd, alenS, amaxmin, amxs, amx, aalloc, abox, abuildSlice, amake, astore, aappend, acopy, asrcO, afill, AV.cellsA, AV.sc, TK.is, TK.agg, mb, nb, Nat.reduceGT, Int.reduceLT, Int.reduceLE, Int.reduceNeg, Int.reduceEq, decide_true, decide_false, decide_eq_true_eq, decide_eq_false_iff_not, if_true, if_false, ite_true, ite_false, reduceCtorEq, ne_eq, Nat.reduceAdd, Nat.reduceSub, Nat.reduceMul, Nat.reduceLT, Nat.reduceLeDiff, Nat.reduceEqDiff, Nat.reduceBEq, Int.reduceToNat, tb, h, AV.rl]
    · simp -dsimp -implicitDefEqProofs (disch := (first | omega | (simp -implicitDefEqProofs only [nx]; done) | (simp -implicitDefEqProofs only [nx]; omega))) only [↓sd, su, ofC, ofV, argT, Option.map_some, Option.map_none, lb, ob, abin, aint, acmp, aun, aconv, aloadO, apart, afield, afaddr, aiaddrS, aiaddrA, aindex, aslice, abnd, alenS, amaxmin, amxs, amx, aalloc, abox, abuildSlice, amake, astore, aappend, acopy, asrcO, afill, AV.cellsA, AV.sc, TK.is, TK.agg, mb, nb, Nat.reduceGT, Int.reduceLT, Int.reduceLE, Int.reduceNeg, Int.reduceEq, decide_true, decide_false, decide_eq_true_eq, decide_eq_false_iff_not, if_true, if_false, ite_true, ite_false, reduceCtorEq, ne_eq, Nat.reduceAdd, Nat.reduceSub, Nat.reduceMul, Nat.reduceLT, Nat.reduceLeDiff, Nat.reduceEqDiff, Nat.reduceBEq, Int.reduceToNat, tb, h, withinF]

end Go.Proofs.Ytkkbnbgdhpkfhaa.A
