/- math/bits.Mul64 and Mul, slices.Repeat of one element. Conditions: none. -/
import Derived.Test.YtkkbnbgdhpkfhaaA13
import Derived.Test.YtkkbnbgdhpkfhaaF1
set_option linter.unusedVariables false
set_option linter.unusedSimpArgs false
namespace Go.Proofs.Ytkkbnbgdhpkfhaa.A
open Go Go.RowKit

def mul64R (x y : Int) : AV := .tup [.int .u64 (x * y / 18446744073709551616), .int .u64 (x * y % 18446744073709551616)]
theorem mul64_calls (x y : Int) (hx : 0 ≤ x ∧ x < 18446744073709551616) (hy : 0 ≤ y ∧ y < 18446744073709551616) (σ : AHeap) :
    ACalls Try.prog 50 [.int .u64 x, .int .u64 y] σ (fun r σ' => r = mul64R x y ∧ σ' = σ) := by
  refine acalls_of S0_ok k50 (by simp) (fun hwf hrl => ?_)
  unfold c50
  have x1 : 0 ≤ x / 4294967296 ∧ x / 4294967296 ≤ 4294967295 := by omega
  have x0 : 0 ≤ x % 4294967296 ∧ x % 4294967296 ≤ 4294967295 := by omega
  have y1 : 0 ≤ y / 4294967296 ∧ y / 4294967296 ≤ 4294967295 := by omega
  have y0 : 0 ≤ y % 4294967296 ∧ y % 4294967296 ≤ 4294967295 := by omega
  have b00 := mul_bd x0 y0
  have b01 := mul_bd x0 y1
  have b10 := mul_bd x1 y0
  have b11 := mul_bd x1 y1
  have hhi := mulHi x y hx.1 hy.1 hx.2 hy.2
  have hlt : x * y / 18446744073709551616 < 18446744073709551616 := by
    have : x * y ≤ 18446744073709551615 * 18446744073709551615 := Int.mul_le_mul (by omega) (by omega) hy.1 (by omega)
    omega
  have h0 : 0 ≤ x * y / 18446744073709551616 := by have := Int.mul_nonneg hx.1 hy.1; omega
  simp -dsimp -implicitDefEqProofs (disch := (first | omega | (simp -implicitDefEqProofs only [nx]; done) | (simp -implicitDefEqProofs only [nx]; omega))) only [↓sd, su, ofC, ofV, argT, Option.map_some, Option.map_none, lb, ob, abin, aint, acmp, aun, aconv, aloadO, apart, afield, afaddr, aiaddrS, aiaddrA, aindex, aslice, abnd, alenS, amaxmin, amxs, amx, aalloc, abox, abuildSlice, amake, astore, aappend, acopy, asrcO, afill, AV.cellsA, AV.sc, TK.is, TK.agg, mb, nb, Nat.reduceGT, Int.reduceLT, Int.reduceLE, Int.reduceNeg, Int.reduceEq, decide_true, decide_false, decide_eq_true_eq, decide_eq_false_iff_not, if_true, if_false, ite_true, ite_false, reduceCtorEq, ne_eq, Nat.reduceAdd, Nat.reduceSub, Nat.reduceMul, Nat.reduceLT, Nat.reduceLeDiff, Nat.reduceEqDiff, Nat.reduceBEq, Int.reduceToNat, tb, shr32, and32, wu64]
  refine ret_pure (Nat.le_refl _) (by repeat (first | exact Sub.refl ‹_› | refine Sub.alloc ?_ _ | refine Sub.set ?_ (by (try simp only [AHeap.next_alloc, AHeap.next_set]); omega) _)) ?_ ?_
  · simp (disch := (first | omega | (simp -implicitDefEqProofs only [nx]; done) | (simp -implicitDefEqProofs only [nx]; omega))) only [only, List.mem_cons, List.not_mem_nil, forall_eq_or_imp, forall_eq, List.contains_cons, List.contains_nil, Nat.reduceBEq, rl_int, rl_bool, AV.rl, AV.rls, ↓sd, su, ofC, ofV, argT, Option.map_some, Option.map_none, lb, nb, Nat.reduceGT, Int.reduceLT, Int.reduceLE, Int.reduceNeg, Int.reduceEq, decide_true, decide_false, decide_eq_true_eq, decide_eq_false_iff_not, if_true, if_false, ite_true, ite_false, reduceCtorEq, ne_eq, Nat.reduceAdd, Nat.reduceSub, Nat.reduceMul, Nat.reduceLT, Nat.reduceLeDiff, Nat.reduceEqDiff, Nat.reduceBEq, Int.reduceToNat]
  · simp (disch := (first | omega | (simp -implicitDefEqProofs only [nx]; done) | (simp -implicitDefEqProofs only [nx]; omega))) only [only, List.mem_cons, List.not_mem_nil, forall_eq_or_imp, forall_eq, List.contains_cons, List.contains_nil, Nat.reduceBEq, rl_int, rl_bool, AV.rl, AV.rls, ↓sd, su, ofC, ofV, argT, Option.map_some, Option.map_none, lb, nb, Nat.reduceGT, Int.reduceLT, Int.reduceLE, Int.reduceNeg, Int.reduceEq, decide_true, decide_false, decide_eq_true_eq, decide_eq_false_iff_not, if_true, if_false, ite_true, ite_false, reduceCtorEq, ne_eq, Nat.reduceAdd, Nat.reduceSub, Nat.reduceMul, Nat.reduceLT, Nat.reduceLeDiff, Nat.reduceEqDiff, Nat.reduceBEq, Int.reduceToNat]
    rw [hhi, u64_mod]; rfl

def S2 : Orc := fun f args => if f = 50 then (match args with | [.int .u64 x, .int .u64 y] => if (0 ≤ x ∧ x < 18446744073709551616) ∧ (0 ≤ y ∧ y < 18446744073709551616) then some (mul64R x y) else none | _ => none) else none
theorem S2_ok : SOK Try.prog S2 := ⟨fun f args v h => by
  unfold S2 at h
  split at h
  · rename_i hf; subst hf
    split at h
    · split at h
      · rename_i hc
        cases h; exact ⟨rfl, fun σ => mul64_calls _ _ hc.1 hc.2 σ⟩
      · cases h
    · cases h
  · cases h⟩
theorem mul_calls (x y : Int) (hx : 0 ≤ x ∧ x < 18446744073709551616) (hy : 0 ≤ y ∧ y < 18446744073709551616) (σ : AHeap) :
    ACalls Try.prog 48 [.int .u64 x, .int .u64 y] σ (fun r σ' => r = mul64R x y ∧ σ' = σ) := by
  refine acalls_of S2_ok k48 (by simp) (fun hwf hrl => ?_)
  unfold c48
  simp -dsimp -implicitDefEqProofs (disch := (first | omega | (simp -implicitDefEqProofs only [nx]; done) | (simp -implicitDefEqProofs only [nx]; omega))) only [↓sd, su, ofC, ofV, argT, Option.map_some, Option.map_none, lb, ob, abin, aint, acmp, aun, aconv, aloadO, apart, afield, afaddr, aiaddrS, aiaddrA, aindex, aslice, abnd, alenS, amaxmin, amxs, amx, aalloc, abox, abuildSlice, amake, astore, aappend, acopy, asrcO, afill, AV.cellsA, AV.sc, TK.is, TK.agg, mb, nb, Nat.reduceGT, Int.reduceLT, Int.reduceLE, Int.reduceNeg, Int.reduceEq, decide_true, decide_false, decide_eq_true_eq, decide_eq_false_iff_not, if_true, if_false, ite_true, ite_false, reduceCtorEq, ne_eq, Nat.reduceAdd, Nat.reduceSub, Nat.reduceMul, Nat.reduceLT, Nat.reduceLeDiff, Nat.reduceEqDiff, Nat.reduceBEq, Int.reduceToNat, tb, S2, hx, hy, mul64R]
  refine ret_pure (Nat.le_refl _) (by repeat (first | exact Sub.refl ‹_› | refine Sub.alloc ?_ _ | refine Sub.set ?_ (by (try simp only [AHeap.next_alloc, AHeap.next_set]); omega) _)) ?_ ?_
  · simp (disch := (first | omega | (simp -implicitDefEqProofs only [nx]; done) | (simp -implicitDefEqProofs only [nx]; omega))) only [only, List.mem_cons, List.not_mem_nil, forall_eq_or_imp, forall_eq, List.contains_cons, List.contains_nil, Nat.reduceBEq, rl_int, rl_bool, AV.rl, AV.rls, ↓sd, su, ofC, ofV, argT, Option.map_some, Option.map_none, lb, nb, Nat.reduceGT, Int.reduceLT, Int.reduceLE, Int.reduceNeg, Int.reduceEq, decide_true, decide_false, decide_eq_true_eq, decide_eq_false_iff_not, if_true, if_false, ite_true, ite_false, reduceCtorEq, ne_eq, Nat.reduceAdd, Nat.reduceSub, Nat.reduceMul, Nat.reduceLT, Nat.reduceLeDiff, Nat.reduceEqDiff, Nat.reduceBEq, Int.reduceToNat]
  · simp (disch := (first | omega | (simp -implicitDefEqProofs only [nx]; done) | (simp -implicitDefEqProofs only [nx]; omega))) only [only, List.mem_cons, List.not_mem_nil, forall_eq_or_imp, forall_eq, List.contains_cons, List.contains_nil, Nat.reduceBEq, rl_int, rl_bool, AV.rl, AV.rls, ↓sd, su, ofC, ofV, argT, Option.map_some, Option.map_none, lb, nb, Nat.reduceGT, Int.reduceLT, Int.reduceLE, Int.reduceNeg, Int.reduceEq, decide_true, decide_false, decide_eq_true_eq, decide_eq_false_iff_not, if_true, if_false, ite_true, ite_false, reduceCtorEq, ne_eq, Nat.reduceAdd, Nat.reduceSub, Nat.reduceMul, Nat.reduceLT, Nat.reduceLeDiff, Nat.reduceEqDiff, Nat.reduceBEq, Int.reduceToNat, mul64R]

def S3 : Orc := fun f args => if f = 48 then (match args with | [.int .u64 x, .int .u64 y] => if (0 ≤ x ∧ x < 18446744073709551616) ∧ (0 ≤ y ∧ y < 18446744073709551616) then some (mul64R x y) else none | _ => none) else none
theorem S3_ok : SOK Try.prog S3 := ⟨fun f args v h => by
  unfold S3 at h
  split at h
  · rename_i hf; subst hf
    split at h
    · split at h
      · rename_i hc
        cases h; exact ⟨rfl, fun σ => mul_calls _ _ hc.1 hc.2 σ⟩
      · cases h
    · cases h
  · cases h⟩
def repW (a : Int) (N k : Nat) : List Int := List.replicate k a ++ List.replicate (N - k) 0
/-- slices.Repeat([]int a, n) -/
theorem repeat_calls (a n : Int) (i : Nat) (σ : AHeap) (hi : i < σ.next) (ho : σ.get i = .own 1 [.int .i64 a]) (hn : 0 ≤ n ∧ n ≤ 1000000) :
    ACalls Try.prog 45 [.slice i 0 1, .int .i64 n] σ (fun r σ' => r = .slice σ.next 0 n.toNat ∧ σ' = σ.alloc (.own 1 (ints (List.replicate n.toNat a)))) := by
  refine acalls_of S3_ok k45 (by simp) (fun hwf hrl => ?_)
  unfold c45
  have h1 : ¬ n < 0 := by omega
  have e1 : 1 * n / 18446744073709551616 = 0 := by omega
  have e2 : 1 * n % 18446744073709551616 = n := by omega
  have e3 : ¬ (9223372036854775807 < n) := by omega
  have hcell := cells_of_own ho
  have hfit := fits_of_own ho
  obtain ⟨N, rfl⟩ := Int.eq_ofNat_of_zero_le hn.1
  have hsp : splice (ints (List.replicate N 0)) 0 (List.take (min 1 N) [AV.int .i64 a]) = ints (repW a N (min 1 N)) := by
    rw [show [AV.int .i64 a] = ints [a] from rfl, ints_take, splice_intss]
    congr 1
    cases N with
    | zero => rfl
    | succ N => simp [isplice, repW, List.replicate_succ]
  simp -dsimp -implicitDefEqProofs (disch := (first | omega | (simp -implicitDefEqProofs only [nx]; done) | (simp -implicitDefEqProofs only [nx]; omega))) only [↓sd, su, ofC, ofV, argT, Option.map_some, Option.map_none, lb, ob, abin, aint, acmp, aun, aconv, aloadO, apart, afield, afaddr, aiaddrS, aiaddrA, aindex, aslice, abnd, alenS, amaxmin, amxs, amx, aalloc, abox, abuildSlice, amake, astore, aappend, acopy, asrcO, afill, AV.cellsA, AV.sc, TK.is, TK.agg, mb, nb, Nat.reduceGT, Int.reduceLT, Int.reduceLE, Int.reduceNeg, Int.reduceEq, decide_true, decide_false, decide_eq_true_eq, decide_eq_false_iff_not, if_true, if_false, ite_true, ite_false, reduceCtorEq, ne_eq, Nat.reduceAdd, Nat.reduceSub, Nat.reduceMul, Nat.reduceLT, Nat.reduceLeDiff, Nat.reduceEqDiff, Nat.reduceBEq, Int.reduceToNat, tb, S3, h1, e1, e2, e3, mul64R, wu64, w64, hcell, hfit, if_pos, Int.lt_irrefl, hsp]
  refine loop_by (AW.loop S3_ok (fun m t σ' => ∃ k : Nat, m = N - k ∧ min 1 N ≤ k ∧ k ≤ N ∧ σ' = σ.alloc (.own 1 (ints (repW a N k))) ∧ t 7 = .slice σ.next 0 N ∧ t 8 = .int .i64 (k : Int)) ?_ (m := N - min 1 N) ?_)
  · rintro m t σ' ⟨k, rfl, hk1, hk2, rfl, h7, h8⟩ hle hwf'
    have hW : (repW a N k).length = N := by simp [repW]; omega
    simp -dsimp -implicitDefEqProofs (disch := (first | omega | (simp -implicitDefEqProofs only [nx]; done) | (simp -implicitDefEqProofs only [nx]; omega))) only [↓sd, su, ofC, ofV, argT, Option.map_some, Option.map_none, lb, ob, abin, aint, acmp, aun, aconv, aloadO, apart, afield, afaddr, aiaddrS, aiaddrA, aindex, aslice, abnd, alenS, amaxmin, amxs, amx, aalloc, abox, abuildSlice, amake, astore, aappend, acopy, asrcO, afill, AV.cellsA, AV.sc, TK.is, TK.agg, mb, nb, Nat.reduceGT, Int.reduceLT, Int.reduceLE, Int.reduceNeg, Int.reduceEq, decide_true, decide_false, decide_eq_true_eq, decide_eq_false_iff_not, if_true, if_false, ite_true, ite_false, reduceCtorEq, ne_eq, Nat.reduceAdd, Nat.reduceSub, Nat.reduceMul, Nat.reduceLT, Nat.reduceLeDiff, Nat.reduceEqDiff, Nat.reduceBEq, Int.reduceToNat, tb, h7, h8]
    refine ACond_dec (fun hlt => ?_) (fun hlt => ?_)
    · have c1 : (0 : Int) ≤ (k : Int) ∧ (k : Int) ≤ (N : Int) := by omega
      have hmin : min ((repW a N k).take k).length (N - k) = min k (N - k) := by simp [hW]
      simp -dsimp -implicitDefEqProofs (disch := (first | omega | (simp -implicitDefEqProofs only [nx]; done) | (simp -implicitDefEqProofs only [nx]; omega))) only [↓sd, su, ofC, ofV, argT, Option.map_some, Option.map_none, lb, ob, abin, aint, acmp, aun, aconv, aloadO, apart, afield, afaddr, aiaddrS, aiaddrA, aindex, aslice, abnd, alenS, amaxmin, amxs, amx, aalloc, abox, abuildSlice, amake, astore, aappend, acopy, asrcO, afill, AV.cellsA, AV.sc, TK.is, TK.agg, mb, nb, Nat.reduceGT, Int.reduceLT, Int.reduceLE, Int.reduceNeg, Int.reduceEq, decide_true, decide_false, decide_eq_true_eq, decide_eq_false_iff_not, if_true, if_false, ite_true, ite_false, reduceCtorEq, ne_eq, Nat.reduceAdd, Nat.reduceSub, Nat.reduceMul, Nat.reduceLT, Nat.reduceLeDiff, Nat.reduceEqDiff, Nat.reduceBEq, Int.reduceToNat, tb, hlt, h7, h8, c1, hW, if_pos, Int.natCast_nonneg]
      refine again_by [7, 8] (σ.alloc (.own 1 (ints (repW a N (k + min k (N - k)))))) (N - (k + min k (N - k))) (by omega) (by simp only [AHeap.next_alloc]; omega) ?_ ?_ ?_
      · have hrow : isplice (repW a N k) k (List.take (min k (N - k)) (List.take k (repW a N k))) = repW a N (k + min k (N - k)) := by
          have g1 : List.take k (repW a N k) = List.replicate k a := by simp [repW]
          rw [g1, List.take_replicate, isplice, g1]
          have g2 : min (min k (N - k)) k = min k (N - k) := by omega
          rw [g2, List.length_replicate, repW, List.drop_append, List.length_replicate, List.drop_replicate, List.drop_replicate, List.replicate_append_replicate]
          simp only [repW]
          rw [show k - (k + min k (N - k)) = 0 by omega, show N - k - (k + min k (N - k) - k) = N - (k + min k (N - k)) by omega]
          simp
        rw [hrow]
        exact Sub.refl (WF.alloc hwf rl_ints)
      · simp (disch := (first | omega | (simp -implicitDefEqProofs only [nx]; done) | (simp -implicitDefEqProofs only [nx]; omega))) only [only, List.mem_cons, List.not_mem_nil, forall_eq_or_imp, forall_eq, List.contains_cons, List.contains_nil, Nat.reduceBEq, rl_int, rl_bool, AV.rl, AV.rls, ↓sd, su, ofC, ofV, argT, Option.map_some, Option.map_none, lb, nb, Nat.reduceGT, Int.reduceLT, Int.reduceLE, Int.reduceNeg, Int.reduceEq, decide_true, decide_false, decide_eq_true_eq, decide_eq_false_iff_not, if_true, if_false, ite_true, ite_false, reduceCtorEq, ne_eq, Nat.reduceAdd, Nat.reduceSub, Nat.reduceMul, Nat.reduceLT, Nat.reduceLeDiff, Nat.reduceEqDiff, Nat.reduceBEq, Int.reduceToNat, h7, h8, AHeap.next_alloc]
        omega
      · refine ⟨k + min k (N - k), rfl, by omega, by omega, rfl, ?_, ?_⟩
        · simp (disch := (first | omega | (simp -implicitDefEqProofs only [nx]; done) | (simp -implicitDefEqProofs only [nx]; omega))) only [only, List.mem_cons, List.not_mem_nil, forall_eq_or_imp, forall_eq, List.contains_cons, List.contains_nil, Nat.reduceBEq, rl_int, rl_bool, AV.rl, AV.rls, ↓sd, su, ofC, ofV, argT, Option.map_some, Option.map_none, lb, nb, Nat.reduceGT, Int.reduceLT, Int.reduceLE, Int.reduceNeg, Int.reduceEq, decide_true, decide_false, decide_eq_true_eq, decide_eq_false_iff_not, if_true, if_false, ite_true, ite_false, reduceCtorEq, ne_eq, Nat.reduceAdd, Nat.reduceSub, Nat.reduceMul, Nat.reduceLT, Nat.reduceLeDiff, Nat.reduceEqDiff, Nat.reduceBEq, Int.reduceToNat, h7]
        · simp -dsimp -implicitDefEqProofs (disch := (first | omega | (simp -implicitDefEqProofs only [nx]; done) | (simp -implicitDefEqProofs only [nx]; omega))) only [↓sd, su, ofC, ofV, argT, Option.map_some, Option.map_none, lb, ob, abin, aint, acmp, aun, aconv, aloadO, apart, afield, afaddr, aiaddrS, aiaddrA, aindex, aslice, abnd, alenS, amaxmin, amxs, amx, aalloc, abox, abuildSlice, amake, astore, aappend, acopy, asrcO, afill, AV.cellsA, AV.sc, TK.is, TK.agg, mb, nb, Nat.reduceGT, Int.reduceLT, Int.reduceLE, Int.reduceNeg, Int.reduceEq, decide_true, decide_false, decide_eq_true_eq, decide_eq_false_iff_not, if_true, if_false, ite_true, ite_false, reduceCtorEq, ne_eq, Nat.reduceAdd, Nat.reduceSub, Nat.reduceMul, Nat.reduceLT, Nat.reduceLeDiff, Nat.reduceEqDiff, Nat.reduceBEq, Int.reduceToNat, tb, h8, only, List.contains_cons, List.contains_nil, w64, Int.natCast_add]
    · have hkN : k = N := by omega
      subst hkN
      simp -dsimp -implicitDefEqProofs (disch := (first | omega | (simp -implicitDefEqProofs only [nx]; done) | (simp -implicitDefEqProofs only [nx]; omega))) only [↓sd, su, ofC, ofV, argT, Option.map_some, Option.map_none, lb, ob, abin, aint, acmp, aun, aconv, aloadO, apart, afield, afaddr, aiaddrS, aiaddrA, aindex, aslice, abnd, alenS, amaxmin, amxs, amx, aalloc, abox, abuildSlice, amake, astore, aappend, acopy, asrcO, afill, AV.cellsA, AV.sc, TK.is, TK.agg, mb, nb, Nat.reduceGT, Int.reduceLT, Int.reduceLE, Int.reduceNeg, Int.reduceEq, decide_true, decide_false, decide_eq_true_eq, decide_eq_false_iff_not, if_true, if_false, ite_true, ite_false, reduceCtorEq, ne_eq, Nat.reduceAdd, Nat.reduceSub, Nat.reduceMul, Nat.reduceLT, Nat.reduceLeDiff, Nat.reduceEqDiff, Nat.reduceBEq, Int.reduceToNat, tb, hlt, h7, h8]
      refine ret_pure (by simp only [AHeap.next_alloc]; omega) (Sub.refl hwf') ?_ ?_
      · simp (disch := (first | omega | (simp -implicitDefEqProofs only [nx]; done) | (simp -implicitDefEqProofs only [nx]; omega))) only [only, List.mem_cons, List.not_mem_nil, forall_eq_or_imp, forall_eq, List.contains_cons, List.contains_nil, Nat.reduceBEq, rl_int, rl_bool, AV.rl, AV.rls, ↓sd, su, ofC, ofV, argT, Option.map_some, Option.map_none, lb, nb, Nat.reduceGT, Int.reduceLT, Int.reduceLE, Int.reduceNeg, Int.reduceEq, decide_true, decide_false, decide_eq_true_eq, decide_eq_false_iff_not, if_true, if_false, ite_true, ite_false, reduceCtorEq, ne_eq, Nat.reduceAdd, Nat.reduceSub, Nat.reduceMul, Nat.reduceLT, Nat.reduceLeDiff, Nat.reduceEqDiff, Nat.reduceBEq, Int.reduceToNat, AHeap.next_alloc]
        omega
      · simp (disch := (first | omega | (simp -implicitDefEqProofs only [nx]; done) | (simp -implicitDefEqProofs only [nx]; omega))) only [only, List.mem_cons, List.not_mem_nil, forall_eq_or_imp, forall_eq, List.contains_cons, List.contains_nil, Nat.reduceBEq, rl_int, rl_bool, AV.rl, AV.rls, ↓sd, su, ofC, ofV, argT, Option.map_some, Option.map_none, lb, nb, Nat.reduceGT, Int.reduceLT, Int.reduceLE, Int.reduceNeg, Int.reduceEq, decide_true, decide_false, decide_eq_true_eq, decide_eq_false_iff_not, if_true, if_false, ite_true, ite_false, reduceCtorEq, ne_eq, Nat.reduceAdd, Nat.reduceSub, Nat.reduceMul, Nat.reduceLT, Nat.reduceLeDiff, Nat.reduceEqDiff, Nat.reduceBEq, Int.reduceToNat]
        simp [repW]
  · exact ⟨min 1 N, rfl, Nat.le_refl _, by omega, rfl, by simp -dsimp -implicitDefEqProofs (disch := (first | omega | (simp -implicitDefEqProofs only [nx]; done) | (simp -implicitDefEqProofs only [nx]; omega))) only [↓sd, su, ofC, ofV, argT, Option.map_some, Option.map_none, lb, ob, abin, aint, acmp, aun, aconv, aloadO, apart, afield, afaddr, aiaddrS, aiaddrA, aindex, aslice, abnd, alenS, amaxmin, amxs, amx, aalloc, abox, abuildSlice, amake, astore, aappend, acopy, asrcO, afill, AV.cellsA, AV.sc, TK.is, TK.agg, mb, nb, Nat.reduceGT, Int.reduceLT, Int.reduceLE, Int.reduceNeg, Int.reduceEq, decide_true, decide_false, decide_eq_true_eq, decide_eq_false_iff_not, if_true, if_false, ite_true, ite_false, reduceCtorEq, ne_eq, Nat.reduceAdd, Nat.reduceSub, Nat.reduceMul, Nat.reduceLT, Nat.reduceLeDiff, Nat.reduceEqDiff, Nat.reduceBEq, Int.reduceToNat, tb], by simp -dsimp -implicitDefEqProofs (disch := (first | omega | (simp -implicitDefEqProofs only [nx]; done) | (simp -implicitDefEqProofs only [nx]; omega))) only [↓sd, su, ofC, ofV, argT, Option.map_some, Option.map_none, lb, ob, abin, aint, acmp, aun, aconv, aloadO, apart, afield, afaddr, aiaddrS, aiaddrA, aindex, aslice, abnd, alenS, amaxmin, amxs, amx, aalloc, abox, abuildSlice, amake, astore, aappend, acopy, asrcO, afill, AV.cellsA, AV.sc, TK.is, TK.agg, mb, nb, Nat.reduceGT, Int.reduceLT, Int.reduceLE, Int.reduceNeg, Int.reduceEq, decide_true, decide_false, decide_eq_true_eq, decide_eq_false_iff_not, if_true, if_false, ite_true, ite_false, reduceCtorEq, ne_eq, Nat.reduceAdd, Nat.reduceSub, Nat.reduceMul, Nat.reduceLT, Nat.reduceLeDiff, Nat.reduceEqDiff, Nat.reduceBEq, Int.reduceToNat, tb]⟩

end Go.Proofs.Ytkkbnbgdhpkfhaa.A
