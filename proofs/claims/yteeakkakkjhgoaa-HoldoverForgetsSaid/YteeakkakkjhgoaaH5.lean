/- Learn and Lose. Conditions: none. -/
import Derived.Test.YteeakkakkjhgoaaH4
set_option linter.unusedVariables false
set_option linter.unusedSimpArgs false
namespace Go.Proofs.Yteeakkakkjhgoaa.A
open Go Go.RowKit

def befF (m : Mem) (t : Int) : Bool := m.called && decide (t ≤ m.last)
theorem before_calls (t : Int) (σ : AHeap) (r q : Nat) (m : Mem) (h : MA σ r q m) : ACalls Try.prog 28 [.ptr r 0, .int .i64 t] σ (fun v σ' => v = .bool (befF m t) ∧ σ' = σ) := by
  refine acalls_of S0_ok k28 (by simp) (fun hwf hrl => ?_)
  unfold c28
  obtain ⟨sl, hg, _⟩ := h.ex
  have hc := cells_of_own hg
  unfold befF
  cases hcal : m.called <;> by_cases h2 : t ≤ m.last
  all_goals
    simp -dsimp -implicitDefEqProofs (disch := (first | omega | (simp -implicitDefEqProofs only [nx]; done) | (simp -implicitDefEqProofs only [nx]; omega))) only [↓sd, su, ofC, ofV, argT, Option.map_some, Option.map_none, lb, ob, alenX, alenM, alook, amakeMap, aupdate, adelete, abin, aint, acmp, aun, aconv, aloadO, apart, afield, afaddr, aiaddrS, aiaddrA, aindex, aslice, abnd, alenS, amaxmin, amxs, amx, aalloc, abox, abuildSlice, amake, astore, aappend, acopy, asrcO, afill, AV.cellsA, AV.sc, TK.is, TK.agg, mb, nb, Nat.reduceGT, Int.reduceLT, Int.reduceLE, Int.reduceNeg, Int.reduceEq, decide_true, decide_false, decide_eq_true_eq, decide_eq_false_iff_not, if_true, if_false, ite_true, ite_false, reduceCtorEq, ne_eq, Nat.reduceAdd, Nat.reduceSub, Nat.reduceMul, Nat.reduceLT, Nat.reduceLeDiff, Nat.reduceEqDiff, Nat.reduceBEq, Int.reduceToNat, tb, S0, hc, memV, HCf.enc, hcal, h2]
    refine ret_pure (σ := σ) (Nat.le_refl _) (by repeat (first | exact Sub.refl ‹_› | refine Sub.alloc ?_ _ | refine Sub.set ?_ (by (try simp only [AHeap.next_alloc, AHeap.next_set]); omega) _)) ?_ ?_
    · simp (disch := (first | omega | (simp -implicitDefEqProofs only [nx]; done) | (simp -implicitDefEqProofs only [nx]; omega))) only [only, List.mem_cons, List.not_mem_nil, forall_eq_or_imp, forall_eq, List.contains_cons, List.contains_nil, Nat.reduceBEq, rl_int, rl_bool, AV.rl, AV.rls, ↓sd, su, ofC, ofV, argT, Option.map_some, Option.map_none, lb, nb, Nat.reduceGT, Int.reduceLT, Int.reduceLE, Int.reduceNeg, Int.reduceEq, decide_true, decide_false, decide_eq_true_eq, decide_eq_false_iff_not, if_true, if_false, ite_true, ite_false, reduceCtorEq, ne_eq, Nat.reduceAdd, Nat.reduceSub, Nat.reduceMul, Nat.reduceLT, Nat.reduceLeDiff, Nat.reduceEqDiff, Nat.reduceBEq, Int.reduceToNat]
    · simp (disch := (first | omega | (simp -implicitDefEqProofs only [nx]; done) | (simp -implicitDefEqProofs only [nx]; omega))) only [only, List.mem_cons, List.not_mem_nil, forall_eq_or_imp, forall_eq, List.contains_cons, List.contains_nil, Nat.reduceBEq, rl_int, rl_bool, AV.rl, AV.rls, ↓sd, su, ofC, ofV, argT, Option.map_some, Option.map_none, lb, nb, Nat.reduceGT, Int.reduceLT, Int.reduceLE, Int.reduceNeg, Int.reduceEq, decide_true, decide_false, decide_eq_true_eq, decide_eq_false_iff_not, if_true, if_false, ite_true, ite_false, reduceCtorEq, ne_eq, Nat.reduceAdd, Nat.reduceSub, Nat.reduceMul, Nat.reduceLT, Nat.reduceLeDiff, Nat.reduceEqDiff, Nat.reduceBEq, Int.reduceToNat, h2]
theorem FRow.push {σ : AHeap} {r q : Nat} {sl : AV} {fr : List Int} (h : FRow σ r q sl fr) (hr : r < σ.next) (hwf : σ.WF) (hl : fr.length ≤ 16) (x : Int) :
    ∃ p σ3, aappend Try.prog 45 sl (.slice σ.next 0 1) (σ.alloc (.own 1 [.int .i64 x])) = some (.slice p 0 (fr.length + 1), σ3) ∧ σ.next < p ∧ p < σ3.next ∧ σ3.get p = .own 1 (ints (fr ++ [x])) ∧ σ3.WF ∧ (∀ j, j < σ.next → (j ≠ q ∨ q = r) → σ3.get j = σ.get j) := by
  have hp : (σ.alloc (.own 1 [.int .i64 x])).get σ.next = .own 1 [.int .i64 x] := get_alloc_self rfl
  have hsrc : asrc (σ.alloc (.own 1 [.int .i64 x])) 1 (.slice σ.next 0 1) = some (1, [.int .i64 x]) := by
    rw [asrc_slice, cells_of_own hp, fits_of_own hp]; simp [asrcO, AV.sc]
  have hwf1 : (σ.alloc (.own 1 [.int .i64 x])).WF := WF.alloc hwf rfl
  rcases h with ⟨rfl, rfl, hq⟩ | ⟨rfl, hq, hqr, hne, z, hz, ht, hzl⟩
  · refine ⟨σ.next + 1, (σ.alloc (.own 1 [.int .i64 x])).alloc (.own 1 [.int .i64 x]), ?_, by omega, (by first | omega | (simp only [AHeap.next_alloc, AHeap.next_set]; omega) | (simp only [AHeap.next_alloc, AHeap.next_set] at *; omega)), get_alloc_self rfl, WF.alloc hwf1 rfl, fun j hj _ => by rw [get_alloc_ne (by first | omega | (simp only [AHeap.next_alloc, AHeap.next_set]; omega) | (simp only [AHeap.next_alloc, AHeap.next_set] at *; omega)), get_alloc_ne (by omega)]⟩
    simp [aappend, tk45, sz3, by3, ze3, hsrc, AHeap.next_alloc]
  · have hz1 : (σ.alloc (.own 1 [.int .i64 x])).get q = .own 1 (ints z) := by rw [get_alloc_ne (by omega)]; exact hz
    refine ⟨σ.next + 1, ((σ.alloc (.own 1 [.int .i64 x])).set q .dead).alloc (.own 1 (ints (fr ++ [x]))), ?_, by omega, (by first | omega | (simp only [AHeap.next_alloc, AHeap.next_set]; omega) | (simp only [AHeap.next_alloc, AHeap.next_set] at *; omega)), get_alloc_self rfl, WF.alloc (WF.set hwf1 _ rl_dead) rl_ints, fun j hj hjq => ?_⟩
    · simp only [aappend, tk45, sz3, by3, ze3, hsrc, hz1]
      simp [ints_length, AHeap.next_alloc]
      refine ⟨⟨by omega, by omega⟩, ?_⟩
      rw [ints_take, ht]
      simp [ints]
    · have hjq : j ≠ q := by omega
      rw [get_alloc_ne (by first | omega | (simp only [AHeap.next_alloc, AHeap.next_set]; omega) | (simp only [AHeap.next_alloc, AHeap.next_set] at *; omega)), get_set_ne hjq, get_alloc_ne (by omega)]
theorem push_ok {l : List Int} (h : l.length ≤ 16) (x : Int) : (push16 l x).length ≤ 16 ∧ push16 l x ≠ [] := by
  unfold push16
  split
  · refine ⟨by simp; omega, by simp⟩
  · refine ⟨by simp; omega, fun q => ?_⟩
    have h2 : ((l ++ [x]).drop 1).length = l.length := by simp
    rw [q] at h2
    simp at h2
    omega
theorem learn_ok {m : Mem} (h : MOK m) (t p : Int) : MOK (learnF m t p).2 := by
  unfold learnF
  split
  · exact h
  · split
    · exact h
    · have := push_ok h.len p
      exact ⟨h.conf, this.1, by simp only []; omega, fun q => absurd q this.2, fun _ => rfl⟩
set_option maxRecDepth 20000 in
set_option maxHeartbeats 2000000 in
theorem learn_calls (t x : Int) (σ : AHeap) (r q : Nat) (m : Mem) (h : MA σ r q m) : ACalls Try.prog 19 [.ptr r 0, .int .i64 t, .int .i64 x] σ (fun v σ' => v = .int .i64 (learnF m t x).1 ∧ Chg [r, q] σ σ' ∧ ∃ q', (q' = r ∨ q' = q ∨ σ.next ≤ q') ∧ MA σ' r q' (learnF m t x).2) := by
  refine acalls_of S22_ok k19 (by simp) (fun hwf hrl => ?_)
  unfold c19
  obtain ⟨sl, hg, hrow⟩ := h.ex
  have hc := cells_of_own hg
  have hr := h.rl
  by_cases hbad : t < 0 ∨ 1125899906842624 < t ∨ x < -500000 ∨ 500000 < x
  · have e : learnF m t x = (3, m) := by unfold learnF; rw [if_pos hbad]
    rw [e]
    have fin : Chg [r, q] σ σ ∧ ∃ q', (q' = r ∨ q' = q ∨ σ.next ≤ q') ∧ MA σ r q' m := ⟨Chg.refl _ _, q, by simp, h⟩
    cases ht : isT t with
    | false =>
      simp -dsimp -implicitDefEqProofs (disch := (first | omega | (simp -implicitDefEqProofs only [nx]; done) | (simp -implicitDefEqProofs only [nx]; omega))) only [↓sd, su, ofC, ofV, argT, Option.map_some, Option.map_none, lb, ob, alenX, alenM, alook, amakeMap, aupdate, adelete, abin, aint, acmp, aun, aconv, aloadO, apart, afield, afaddr, aiaddrS, aiaddrA, aindex, aslice, abnd, alenS, amaxmin, amxs, amx, aalloc, abox, abuildSlice, amake, astore, aappend, acopy, asrcO, afill, AV.cellsA, AV.sc, TK.is, TK.agg, mb, nb, Nat.reduceGT, Int.reduceLT, Int.reduceLE, Int.reduceNeg, Int.reduceEq, decide_true, decide_false, decide_eq_true_eq, decide_eq_false_iff_not, if_true, if_false, ite_true, ite_false, reduceCtorEq, ne_eq, Nat.reduceAdd, Nat.reduceSub, Nat.reduceMul, Nat.reduceLT, Nat.reduceLeDiff, Nat.reduceEqDiff, Nat.reduceBEq, Int.reduceToNat, tb, S22, eqA, ht]
      refine ret_pure (σ := σ) (Nat.le_refl _) (by repeat (first | exact Sub.refl ‹_› | (refine Sub.refl ?_; (repeat (first | assumption | refine WF.alloc ?_ (by first | exact rl_ints | assumption | rfl) | refine WF.set ?_ _ (by first | exact rl_ints | assumption | rfl))); done) | refine Sub.alloc2 ?_ (by rfl) (by first | exact rl_ints | assumption | rfl) | refine Sub.allocD ?_ (by rfl) _ | refine Sub.alloc ?_ _ | refine Sub.set2 ?_ _ (by first | exact rl_ints | assumption | rfl) | refine Sub.set ?_ (by (try simp only [AHeap.next_alloc, AHeap.next_set]); omega) _)) ?_ ?_
      · simp (disch := (first | omega | (simp -implicitDefEqProofs only [nx]; done) | (simp -implicitDefEqProofs only [nx]; omega))) only [only, List.mem_cons, List.not_mem_nil, forall_eq_or_imp, forall_eq, List.contains_cons, List.contains_nil, Nat.reduceBEq, rl_int, rl_bool, AV.rl, AV.rls, ↓sd, su, ofC, ofV, argT, Option.map_some, Option.map_none, lb, nb, Nat.reduceGT, Int.reduceLT, Int.reduceLE, Int.reduceNeg, Int.reduceEq, decide_true, decide_false, decide_eq_true_eq, decide_eq_false_iff_not, if_true, if_false, ite_true, ite_false, reduceCtorEq, ne_eq, Nat.reduceAdd, Nat.reduceSub, Nat.reduceMul, Nat.reduceLT, Nat.reduceLeDiff, Nat.reduceEqDiff, Nat.reduceBEq, Int.reduceToNat]
      · simp (disch := (first | omega | (simp -implicitDefEqProofs only [nx]; done) | (simp -implicitDefEqProofs only [nx]; omega))) only [only, List.mem_cons, List.not_mem_nil, forall_eq_or_imp, forall_eq, List.contains_cons, List.contains_nil, Nat.reduceBEq, rl_int, rl_bool, AV.rl, AV.rls, ↓sd, su, ofC, ofV, argT, Option.map_some, Option.map_none, lb, nb, Nat.reduceGT, Int.reduceLT, Int.reduceLE, Int.reduceNeg, Int.reduceEq, decide_true, decide_false, decide_eq_true_eq, decide_eq_false_iff_not, if_true, if_false, ite_true, ite_false, reduceCtorEq, ne_eq, Nat.reduceAdd, Nat.reduceSub, Nat.reduceMul, Nat.reduceLT, Nat.reduceLeDiff, Nat.reduceEqDiff, Nat.reduceBEq, Int.reduceToNat]
        exact fin
    | true =>
      have ht2 := isT_iff.1 ht
      by_cases p1 : x < -500000
      · simp -dsimp -implicitDefEqProofs (disch := (first | omega | (simp -implicitDefEqProofs only [nx]; done) | (simp -implicitDefEqProofs only [nx]; omega))) only [↓sd, su, ofC, ofV, argT, Option.map_some, Option.map_none, lb, ob, alenX, alenM, alook, amakeMap, aupdate, adelete, abin, aint, acmp, aun, aconv, aloadO, apart, afield, afaddr, aiaddrS, aiaddrA, aindex, aslice, abnd, alenS, amaxmin, amxs, amx, aalloc, abox, abuildSlice, amake, astore, aappend, acopy, asrcO, afill, AV.cellsA, AV.sc, TK.is, TK.agg, mb, nb, Nat.reduceGT, Int.reduceLT, Int.reduceLE, Int.reduceNeg, Int.reduceEq, decide_true, decide_false, decide_eq_true_eq, decide_eq_false_iff_not, if_true, if_false, ite_true, ite_false, reduceCtorEq, ne_eq, Nat.reduceAdd, Nat.reduceSub, Nat.reduceMul, Nat.reduceLT, Nat.reduceLeDiff, Nat.reduceEqDiff, Nat.reduceBEq, Int.reduceToNat, tb, S22, eqA, ht, p1]
        refine ret_pure (σ := σ) (Nat.le_refl _) (by repeat (first | exact Sub.refl ‹_› | (refine Sub.refl ?_; (repeat (first | assumption | refine WF.alloc ?_ (by first | exact rl_ints | assumption | rfl) | refine WF.set ?_ _ (by first | exact rl_ints | assumption | rfl))); done) | refine Sub.alloc2 ?_ (by rfl) (by first | exact rl_ints | assumption | rfl) | refine Sub.allocD ?_ (by rfl) _ | refine Sub.alloc ?_ _ | refine Sub.set2 ?_ _ (by first | exact rl_ints | assumption | rfl) | refine Sub.set ?_ (by (try simp only [AHeap.next_alloc, AHeap.next_set]); omega) _)) ?_ ?_
        · simp (disch := (first | omega | (simp -implicitDefEqProofs only [nx]; done) | (simp -implicitDefEqProofs only [nx]; omega))) only [only, List.mem_cons, List.not_mem_nil, forall_eq_or_imp, forall_eq, List.contains_cons, List.contains_nil, Nat.reduceBEq, rl_int, rl_bool, AV.rl, AV.rls, ↓sd, su, ofC, ofV, argT, Option.map_some, Option.map_none, lb, nb, Nat.reduceGT, Int.reduceLT, Int.reduceLE, Int.reduceNeg, Int.reduceEq, decide_true, decide_false, decide_eq_true_eq, decide_eq_false_iff_not, if_true, if_false, ite_true, ite_false, reduceCtorEq, ne_eq, Nat.reduceAdd, Nat.reduceSub, Nat.reduceMul, Nat.reduceLT, Nat.reduceLeDiff, Nat.reduceEqDiff, Nat.reduceBEq, Int.reduceToNat]
        · simp (disch := (first | omega | (simp -implicitDefEqProofs only [nx]; done) | (simp -implicitDefEqProofs only [nx]; omega))) only [only, List.mem_cons, List.not_mem_nil, forall_eq_or_imp, forall_eq, List.contains_cons, List.contains_nil, Nat.reduceBEq, rl_int, rl_bool, AV.rl, AV.rls, ↓sd, su, ofC, ofV, argT, Option.map_some, Option.map_none, lb, nb, Nat.reduceGT, Int.reduceLT, Int.reduceLE, Int.reduceNeg, Int.reduceEq, decide_true, decide_false, decide_eq_true_eq, decide_eq_false_iff_not, if_true, if_false, ite_true, ite_false, reduceCtorEq, ne_eq, Nat.reduceAdd, Nat.reduceSub, Nat.reduceMul, Nat.reduceLT, Nat.reduceLeDiff, Nat.reduceEqDiff, Nat.reduceBEq, Int.reduceToNat]
          exact fin
      · have p2 : 500000 < x := by omega
        simp -dsimp -implicitDefEqProofs (disch := (first | omega | (simp -implicitDefEqProofs only [nx]; done) | (simp -implicitDefEqProofs only [nx]; omega))) only [↓sd, su, ofC, ofV, argT, Option.map_some, Option.map_none, lb, ob, alenX, alenM, alook, amakeMap, aupdate, adelete, abin, aint, acmp, aun, aconv, aloadO, apart, afield, afaddr, aiaddrS, aiaddrA, aindex, aslice, abnd, alenS, amaxmin, amxs, amx, aalloc, abox, abuildSlice, amake, astore, aappend, acopy, asrcO, afill, AV.cellsA, AV.sc, TK.is, TK.agg, mb, nb, Nat.reduceGT, Int.reduceLT, Int.reduceLE, Int.reduceNeg, Int.reduceEq, decide_true, decide_false, decide_eq_true_eq, decide_eq_false_iff_not, if_true, if_false, ite_true, ite_false, reduceCtorEq, ne_eq, Nat.reduceAdd, Nat.reduceSub, Nat.reduceMul, Nat.reduceLT, Nat.reduceLeDiff, Nat.reduceEqDiff, Nat.reduceBEq, Int.reduceToNat, tb, S22, eqA, ht, p1, p2]
        refine ret_pure (σ := σ) (Nat.le_refl _) (by repeat (first | exact Sub.refl ‹_› | (refine Sub.refl ?_; (repeat (first | assumption | refine WF.alloc ?_ (by first | exact rl_ints | assumption | rfl) | refine WF.set ?_ _ (by first | exact rl_ints | assumption | rfl))); done) | refine Sub.alloc2 ?_ (by rfl) (by first | exact rl_ints | assumption | rfl) | refine Sub.allocD ?_ (by rfl) _ | refine Sub.alloc ?_ _ | refine Sub.set2 ?_ _ (by first | exact rl_ints | assumption | rfl) | refine Sub.set ?_ (by (try simp only [AHeap.next_alloc, AHeap.next_set]); omega) _)) ?_ ?_
        · simp (disch := (first | omega | (simp -implicitDefEqProofs only [nx]; done) | (simp -implicitDefEqProofs only [nx]; omega))) only [only, List.mem_cons, List.not_mem_nil, forall_eq_or_imp, forall_eq, List.contains_cons, List.contains_nil, Nat.reduceBEq, rl_int, rl_bool, AV.rl, AV.rls, ↓sd, su, ofC, ofV, argT, Option.map_some, Option.map_none, lb, nb, Nat.reduceGT, Int.reduceLT, Int.reduceLE, Int.reduceNeg, Int.reduceEq, decide_true, decide_false, decide_eq_true_eq, decide_eq_false_iff_not, if_true, if_false, ite_true, ite_false, reduceCtorEq, ne_eq, Nat.reduceAdd, Nat.reduceSub, Nat.reduceMul, Nat.reduceLT, Nat.reduceLeDiff, Nat.reduceEqDiff, Nat.reduceBEq, Int.reduceToNat]
        · simp (disch := (first | omega | (simp -implicitDefEqProofs only [nx]; done) | (simp -implicitDefEqProofs only [nx]; omega))) only [only, List.mem_cons, List.not_mem_nil, forall_eq_or_imp, forall_eq, List.contains_cons, List.contains_nil, Nat.reduceBEq, rl_int, rl_bool, AV.rl, AV.rls, ↓sd, su, ofC, ofV, argT, Option.map_some, Option.map_none, lb, nb, Nat.reduceGT, Int.reduceLT, Int.reduceLE, Int.reduceNeg, Int.reduceEq, decide_true, decide_false, decide_eq_true_eq, decide_eq_false_iff_not, if_true, if_false, ite_true, ite_false, reduceCtorEq, ne_eq, Nat.reduceAdd, Nat.reduceSub, Nat.reduceMul, Nat.reduceLT, Nat.reduceLeDiff, Nat.reduceEqDiff, Nat.reduceBEq, Int.reduceToNat]
          exact fin
  have ht : isT t = true := isT_iff.2 (by omega)
  have p1 : ¬ x < -500000 := by omega
  have p2 : ¬ 500000 < x := by omega
  simp -dsimp -implicitDefEqProofs (disch := (first | omega | (simp -implicitDefEqProofs only [nx]; done) | (simp -implicitDefEqProofs only [nx]; omega))) only [↓sd, su, ofC, ofV, argT, Option.map_some, Option.map_none, lb, ob, alenX, alenM, alook, amakeMap, aupdate, adelete, abin, aint, acmp, aun, aconv, aloadO, apart, afield, afaddr, aiaddrS, aiaddrA, aindex, aslice, abnd, alenS, amaxmin, amxs, amx, aalloc, abox, abuildSlice, amake, astore, aappend, acopy, asrcO, afill, AV.cellsA, AV.sc, TK.is, TK.agg, mb, nb, Nat.reduceGT, Int.reduceLT, Int.reduceLE, Int.reduceNeg, Int.reduceEq, decide_true, decide_false, decide_eq_true_eq, decide_eq_false_iff_not, if_true, if_false, ite_true, ite_false, reduceCtorEq, ne_eq, Nat.reduceAdd, Nat.reduceSub, Nat.reduceMul, Nat.reduceLT, Nat.reduceLeDiff, Nat.reduceEqDiff, Nat.reduceBEq, Int.reduceToNat, tb, S22, eqA, ht, p1, p2]
  refine call_by (before_calls t σ r q m h) ?_
  rintro v σ' ⟨rfl, rfl⟩
  by_cases hord : m.called = true ∧ t ≤ m.last
  · have e : learnF m t x = (12, m) := by unfold learnF; rw [if_neg hbad, if_pos hord]
    have hb : befF m t = true := by unfold befF; simpa using hord
    rw [e]
    simp -dsimp -implicitDefEqProofs (disch := (first | omega | (simp -implicitDefEqProofs only [nx]; done) | (simp -implicitDefEqProofs only [nx]; omega))) only [↓sd, su, ofC, ofV, argT, Option.map_some, Option.map_none, lb, ob, alenX, alenM, alook, amakeMap, aupdate, adelete, abin, aint, acmp, aun, aconv, aloadO, apart, afield, afaddr, aiaddrS, aiaddrA, aindex, aslice, abnd, alenS, amaxmin, amxs, amx, aalloc, abox, abuildSlice, amake, astore, aappend, acopy, asrcO, afill, AV.cellsA, AV.sc, TK.is, TK.agg, mb, nb, Nat.reduceGT, Int.reduceLT, Int.reduceLE, Int.reduceNeg, Int.reduceEq, decide_true, decide_false, decide_eq_true_eq, decide_eq_false_iff_not, if_true, if_false, ite_true, ite_false, reduceCtorEq, ne_eq, Nat.reduceAdd, Nat.reduceSub, Nat.reduceMul, Nat.reduceLT, Nat.reduceLeDiff, Nat.reduceEqDiff, Nat.reduceBEq, Int.reduceToNat, tb, S22, hb]
    refine ret_pure (σ := σ') (Nat.le_refl _) (by repeat (first | exact Sub.refl ‹_› | (refine Sub.refl ?_; (repeat (first | assumption | refine WF.alloc ?_ (by first | exact rl_ints | assumption | rfl) | refine WF.set ?_ _ (by first | exact rl_ints | assumption | rfl))); done) | refine Sub.alloc2 ?_ (by rfl) (by first | exact rl_ints | assumption | rfl) | refine Sub.allocD ?_ (by rfl) _ | refine Sub.alloc ?_ _ | refine Sub.set2 ?_ _ (by first | exact rl_ints | assumption | rfl) | refine Sub.set ?_ (by (try simp only [AHeap.next_alloc, AHeap.next_set]); omega) _)) ?_ ?_
    · simp (disch := (first | omega | (simp -implicitDefEqProofs only [nx]; done) | (simp -implicitDefEqProofs only [nx]; omega))) only [only, List.mem_cons, List.not_mem_nil, forall_eq_or_imp, forall_eq, List.contains_cons, List.contains_nil, Nat.reduceBEq, rl_int, rl_bool, AV.rl, AV.rls, ↓sd, su, ofC, ofV, argT, Option.map_some, Option.map_none, lb, nb, Nat.reduceGT, Int.reduceLT, Int.reduceLE, Int.reduceNeg, Int.reduceEq, decide_true, decide_false, decide_eq_true_eq, decide_eq_false_iff_not, if_true, if_false, ite_true, ite_false, reduceCtorEq, ne_eq, Nat.reduceAdd, Nat.reduceSub, Nat.reduceMul, Nat.reduceLT, Nat.reduceLeDiff, Nat.reduceEqDiff, Nat.reduceBEq, Int.reduceToNat]
    · simp (disch := (first | omega | (simp -implicitDefEqProofs only [nx]; done) | (simp -implicitDefEqProofs only [nx]; omega))) only [only, List.mem_cons, List.not_mem_nil, forall_eq_or_imp, forall_eq, List.contains_cons, List.contains_nil, Nat.reduceBEq, rl_int, rl_bool, AV.rl, AV.rls, ↓sd, su, ofC, ofV, argT, Option.map_some, Option.map_none, lb, nb, Nat.reduceGT, Int.reduceLT, Int.reduceLE, Int.reduceNeg, Int.reduceEq, decide_true, decide_false, decide_eq_true_eq, decide_eq_false_iff_not, if_true, if_false, ite_true, ite_false, reduceCtorEq, ne_eq, Nat.reduceAdd, Nat.reduceSub, Nat.reduceMul, Nat.reduceLT, Nat.reduceLeDiff, Nat.reduceEqDiff, Nat.reduceBEq, Int.reduceToNat]
      exact ⟨Chg.refl _ _, q, by simp, h⟩
  have hb : befF m t = false := by
    cases hq : befF m t with
    | false => rfl
    | true => exact absurd (by unfold befF at hq; simpa using hq) hord
  have e : learnF m t x = (0, { m with fr := push16 m.fr x, over := false, called := true, last := t }) := by unfold learnF; rw [if_neg hbad, if_neg hord]
  have hok := learn_ok h.ok t x
  rw [e] at hok ⊢
  have hl16 := h.ok.len
  obtain ⟨p, σ3, hap, hp1, hp2, hp3, hwf3, hsame⟩ := hrow.push hr hwf hl16 x
  have hrq : r ≠ q ∨ q = r := by omega
  have hg3 : σ3.get r = .own 8 (memV sl m) := (hsame r hr hrq).trans hg
  have hn3 : σ'.next ≤ σ3.next := by omega
  have hsl := hrow.row.rl
  by_cases hfull : m.fr.length < 16
  · have n1 : ¬ ((16 : Int) < ((m.fr.length + 1 : Nat) : Int)) := by omega
    simp -dsimp -implicitDefEqProofs (disch := (first | omega | (simp -implicitDefEqProofs only [nx]; done) | (simp -implicitDefEqProofs only [nx]; omega))) only [↓sd, su, ofC, ofV, argT, List.getD_cons_zero, List.getD_cons_succ, List.getElem?_cons_zero, List.getElem?_cons_succ, List.map_cons, List.map_nil, List.nil_append, List.cons_append, List.append_nil, Option.map_some, Option.map_none, ob, alenX, alenM, alook, amakeMap, aupdate, adelete, abin, aint, acmp, aun, aconv, aloadO, apart, afield, afaddr, aiaddrS, aiaddrA, aindex, aslice, abnd, alenS, amaxmin, amxs, amx, aalloc, abox, abuildSlice, amake, astore, acopy, asrcO, afill, AV.cellsA, AV.sc, TK.is, TK.agg, List.length_cons, List.length_nil, List.all_cons, List.all_nil, mb, beq_self_eq_true, List.length_set, Int.zero_sub, List.set_cons_zero, List.set_cons_succ, List.take_zero, List.drop_zero, List.take_succ_cons, List.drop_succ_cons, or_false, false_or, or_true, true_or, or_self, gt_iff_lt, ge_iff_le, Nat.lt_irrefl, Nat.reduceGT, Int.reduceLT, Int.reduceLE, Int.reduceNeg, Int.reduceEq, Nat.not_lt_zero, List.replicate_succ, List.replicate_zero, List.flatten_cons, List.flatten_nil, List.length_replicate, Nat.le_refl, Nat.sub_zero, cast0, cast1, Int.cast_ofNat_Int, Int.toNat_natCast, Bool.not_not, Bool.true_and, Bool.and_true, Bool.false_and, Bool.and_false, Bool.or_true, Bool.true_or, Bool.or_false, Bool.false_or, decide_true, decide_false, Bool.not_true, Bool.not_false, beq_iff_eq, Bool.not_eq_true', decide_eq_true_eq, decide_eq_false_iff_not, if_true, if_false, ite_true, ite_false, reduceCtorEq, Bool.false_eq_true, ne_eq, not_false_eq_true, not_true_eq_false, true_and, and_true, and_self, false_and, and_false, Nat.reduceAdd, Nat.reduceSub, Nat.reduceMul, Nat.reduceLT, Nat.reduceLeDiff, Nat.reduceEqDiff, Nat.reduceBEq, Int.reduceToNat, Nat.add_zero, Nat.zero_add, Nat.mul_one, Nat.one_mul, tb, S22, hb, hc, memV, HCf.enc, hap, hg3, n1]
    have e2 : push16 m.fr x = m.fr ++ [x] := by unfold push16; rw [if_pos hfull]
    rw [e2] at hok ⊢
    refine ret_pure (by simp only [AHeap.next_set]; omega) (Sub.refl (WF.set hwf3 _ ?_)) ?_ ?_
    · simp [AObj.rl, AV.rls, AV.rl]; omega
    · simp (disch := (first | omega | (simp -implicitDefEqProofs only [nx]; done) | (simp -implicitDefEqProofs only [nx]; omega))) only [only, List.mem_cons, List.not_mem_nil, forall_eq_or_imp, forall_eq, List.contains_cons, List.contains_nil, Nat.reduceBEq, rl_int, rl_bool, AV.rl, AV.rls, ↓sd, su, ofC, ofV, argT, Option.map_some, Option.map_none, lb, nb, Nat.reduceGT, Int.reduceLT, Int.reduceLE, Int.reduceNeg, Int.reduceEq, decide_true, decide_false, decide_eq_true_eq, decide_eq_false_iff_not, if_true, if_false, ite_true, ite_false, reduceCtorEq, ne_eq, Nat.reduceAdd, Nat.reduceSub, Nat.reduceMul, Nat.reduceLT, Nat.reduceLeDiff, Nat.reduceEqDiff, Nat.reduceBEq, Int.reduceToNat]
    · simp (disch := (first | omega | (simp -implicitDefEqProofs only [nx]; done) | (simp -implicitDefEqProofs only [nx]; omega))) only [only, List.mem_cons, List.not_mem_nil, forall_eq_or_imp, forall_eq, List.contains_cons, List.contains_nil, Nat.reduceBEq, rl_int, rl_bool, AV.rl, AV.rls, ↓sd, su, ofC, ofV, argT, Option.map_some, Option.map_none, lb, nb, Nat.reduceGT, Int.reduceLT, Int.reduceLE, Int.reduceNeg, Int.reduceEq, decide_true, decide_false, decide_eq_true_eq, decide_eq_false_iff_not, if_true, if_false, ite_true, ite_false, reduceCtorEq, ne_eq, Nat.reduceAdd, Nat.reduceSub, Nat.reduceMul, Nat.reduceLT, Nat.reduceLeDiff, Nat.reduceEqDiff, Nat.reduceBEq, Int.reduceToNat]
      refine ⟨⟨by simp only [AHeap.next_set]; omega, fun j hj hn => ?_⟩, p, .inr (.inr (by omega)), hok, by simp only [AHeap.next_set]; omega, .slice p 0 (m.fr.length + 1), ?_, .inr ⟨by simp, by simp only [AHeap.next_set]; omega, by omega, by simp, m.fr ++ [x], ?_, List.take_of_length_le (by simp), by simp⟩⟩
      · have hj1 : j ≠ r := fun q => hn (by simp [q])
        have hj2 : j ≠ q := fun q => hn (by simp [q])
        rw [get_set_ne hj1]; exact hsame j hj (.inl hj2)
      · rw [get_set_self rfl]; simp [memV, HCf.enc, Mem.locked]
      · rw [get_set_ne (by omega)]; exact hp3
  · have n1 : m.fr.length = 16 := by omega
    have e2 : push16 m.fr x = (m.fr ++ [x]).drop 1 := by unfold push16; rw [if_neg hfull]
    rw [e2] at hok ⊢
    obtain ⟨l17, hl17⟩ : ∃ l, l = m.fr ++ [x] := ⟨_, rfl⟩
    rw [← hl17] at hp3 hok ⊢
    have hlen17 : l17.length = 17 := by rw [hl17]; simp; omega
    have hap17 : aappend Try.prog 45 sl (.slice σ'.next 0 1) (σ'.alloc (.own 1 [.int .i64 x])) = some (.slice p 0 17, σ3) := by rw [hap, n1]
    have hcp : ∀ A, acopy Try.prog 45 (.slice p 0 17) (.slice p 1 16) (σ3.set r A) = some (.int .i64 16, (σ3.set r A).set p (.own 1 (ints (l17.drop 1 ++ l17.drop 16)))) := fun A => by
      have hgp : (σ3.set r A).get p = .own 1 (ints l17) := by rw [get_set_ne (by omega)]; exact hp3
      have hsrc : asrc (σ3.set r A) 1 (.slice p 1 16) = some (16, ints (l17.drop 1)) := by
        rw [asrc_slice, cells_of_own hgp, fits_of_own hgp]
        have e3 : ((ints l17).drop 1).take 16 = ints (l17.drop 1) := by
          rw [ints_drop, ints_take, List.take_of_length_le (by simp; omega)]
        simp only [asrcO, Nat.mul_one, e3, ints_sc, ints_length]
        rw [if_pos (by refine ⟨by omega, ?_, ?_⟩ <;> first | trivial | rfl)]
      simp only [acopy, tk45, sz3, hsrc, hgp]
      have e4 : splice (ints l17) 0 ((ints (l17.drop 1)).take (min 16 17 * 1)) = ints (l17.drop 1 ++ l17.drop 16) := by
        have e5 : (l17.drop 1).take 16 = l17.drop 1 := List.take_of_length_le (by simp; omega)
        have e6 : (ints (l17.drop 1)).take (min 16 17 * 1) = ints (l17.drop 1) := by rw [show min 16 17 * 1 = 16 from rfl, ints_take, e5]
        rw [e6]
        unfold splice
        rw [List.take_zero, List.nil_append, ints_length, ints_drop, ints_append]
        simp [hlen17]
      rw [if_pos ⟨trivial, by rw [ints_length]; omega⟩, e4]
      rfl
    have hfA : ∀ A, (σ3.set r A).fits p 1 = true := fun A => by rw [fits_set_ne (by omega)]; exact fits_of_own hp3
    have hsl17 : ∀ A, aslice Try.prog 45 (.slice p 0 17) (some (.int .i64 1)) none none (σ3.set r A) = some (.slice p 1 16) := fun A => by simp [aslice, tk45, abnd, sz3, hfA A]
    have hsl16 : ∀ A B, aslice Try.prog 45 (.slice p 0 17) none (some (.int .i64 16)) none ((σ3.set r A).set p (.own 1 B)) = some (.slice p 0 16) := fun A B => by
      have hf : ((σ3.set r A).set p (.own 1 B)).fits p 1 = true := by rw [fits_set_self rfl]; rfl
      simp [aslice, tk45, abnd, sz3, hf]
    have hf3 := fits_of_own (s := 1) hp3
    have hpr : p ≠ r := by omega
    simp -dsimp -implicitDefEqProofs (disch := (first | omega | (simp -implicitDefEqProofs only [nx]; done) | (simp -implicitDefEqProofs only [nx]; omega))) only [↓sd, su, ofC, ofV, argT, List.getD_cons_zero, List.getD_cons_succ, List.getElem?_cons_zero, List.getElem?_cons_succ, List.map_cons, List.map_nil, List.nil_append, List.cons_append, List.append_nil, Option.map_some, Option.map_none, ob, alenX, alenM, alook, amakeMap, aupdate, adelete, abin, aint, acmp, aun, aconv, aloadO, apart, afield, afaddr, aiaddrS, aiaddrA, aindex, abnd, alenS, amaxmin, amxs, amx, aalloc, abox, abuildSlice, amake, astore, asrcO, afill, AV.cellsA, AV.sc, TK.is, TK.agg, List.length_cons, List.length_nil, List.all_cons, List.all_nil, mb, beq_self_eq_true, List.length_set, Int.zero_sub, List.set_cons_zero, List.set_cons_succ, List.take_zero, List.drop_zero, List.take_succ_cons, List.drop_succ_cons, or_false, false_or, or_true, true_or, or_self, gt_iff_lt, ge_iff_le, Nat.lt_irrefl, Nat.reduceGT, Int.reduceLT, Int.reduceLE, Int.reduceNeg, Int.reduceEq, Nat.not_lt_zero, List.replicate_succ, List.replicate_zero, List.flatten_cons, List.flatten_nil, List.length_replicate, Nat.le_refl, Nat.sub_zero, cast0, cast1, Int.cast_ofNat_Int, Int.toNat_natCast, Bool.not_not, Bool.true_and, Bool.and_true, Bool.false_and, Bool.and_false, Bool.or_true, Bool.true_or, Bool.or_false, Bool.false_or, decide_true, decide_false, Bool.not_true, Bool.not_false, beq_iff_eq, Bool.not_eq_true', decide_eq_true_eq, decide_eq_false_iff_not, if_true, if_false, ite_true, ite_false, reduceCtorEq, Bool.false_eq_true, ne_eq, not_false_eq_true, not_true_eq_false, true_and, and_true, and_self, false_and, and_false, Nat.reduceAdd, Nat.reduceSub, Nat.reduceMul, Nat.reduceLT, Nat.reduceLeDiff, Nat.reduceEqDiff, Nat.reduceBEq, Int.reduceToNat, Nat.add_zero, Nat.zero_add, Nat.mul_one, Nat.one_mul, tb, S22, hb, hc, memV, HCf.enc, hap17, hg3, hcp, hsl17, hsl16, hf3]
    have hd16 : (l17.drop 1).length = 16 := by simp [hlen17]
    refine ret_pure (by simp only [AHeap.next_set]; omega) (Sub.refl (WF.set (WF.set (WF.set hwf3 _ ?_) _ rl_ints) _ ?_)) ?_ ?_
    · simp [AObj.rl, AV.rls, AV.rl]; omega
    · simp [AObj.rl, AV.rls, AV.rl, AHeap.next_set]; omega
    · simp (disch := (first | omega | (simp -implicitDefEqProofs only [nx]; done) | (simp -implicitDefEqProofs only [nx]; omega))) only [only, List.mem_cons, List.not_mem_nil, forall_eq_or_imp, forall_eq, List.contains_cons, List.contains_nil, Nat.reduceBEq, rl_int, rl_bool, AV.rl, AV.rls, ↓sd, su, ofC, ofV, argT, Option.map_some, Option.map_none, lb, nb, Nat.reduceGT, Int.reduceLT, Int.reduceLE, Int.reduceNeg, Int.reduceEq, decide_true, decide_false, decide_eq_true_eq, decide_eq_false_iff_not, if_true, if_false, ite_true, ite_false, reduceCtorEq, ne_eq, Nat.reduceAdd, Nat.reduceSub, Nat.reduceMul, Nat.reduceLT, Nat.reduceLeDiff, Nat.reduceEqDiff, Nat.reduceBEq, Int.reduceToNat]
    · simp (disch := (first | omega | (simp -implicitDefEqProofs only [nx]; done) | (simp -implicitDefEqProofs only [nx]; omega))) only [only, List.mem_cons, List.not_mem_nil, forall_eq_or_imp, forall_eq, List.contains_cons, List.contains_nil, Nat.reduceBEq, rl_int, rl_bool, AV.rl, AV.rls, ↓sd, su, ofC, ofV, argT, Option.map_some, Option.map_none, lb, nb, Nat.reduceGT, Int.reduceLT, Int.reduceLE, Int.reduceNeg, Int.reduceEq, decide_true, decide_false, decide_eq_true_eq, decide_eq_false_iff_not, if_true, if_false, ite_true, ite_false, reduceCtorEq, ne_eq, Nat.reduceAdd, Nat.reduceSub, Nat.reduceMul, Nat.reduceLT, Nat.reduceLeDiff, Nat.reduceEqDiff, Nat.reduceBEq, Int.reduceToNat]
      refine ⟨⟨by simp only [AHeap.next_set]; omega, fun j hj hn => ?_⟩, p, .inr (.inr (by omega)), hok, by simp only [AHeap.next_set]; omega, .slice p 0 16, ?_, .inr ⟨by rw [hd16], by simp only [AHeap.next_set]; omega, hpr, ?_, l17.drop 1 ++ l17.drop 16, ?_, ?_, ?_⟩⟩
      · have hj1 : j ≠ r := fun q => hn (by simp [q])
        have hj2 : j ≠ q := fun q => hn (by simp [q])
        rw [get_set_ne hj1, get_set_ne (by omega), get_set_ne hj1]; exact hsame j hj (.inl hj2)
      · have hne : l17.drop 1 ≠ [] := fun q => by rw [q] at hd16; simp at hd16
        rw [get_set_self rfl]; simp only [memV, HCf.enc, Mem.locked, List.cons_append, List.nil_append]
        have hne2 : ¬ l17.tail = [] := by intro q; have h3 : l17.drop 1 = [] := by simpa using q
                                          exact hne h3
        simp [hne2]
      · intro q
        have q : l17.drop 1 = [] := q
        rw [q] at hd16; simp at hd16
      · rw [get_set_ne hpr]; exact get_set_self rfl
      · rw [hd16, List.take_append_of_le_length (by omega), List.take_of_length_le (by omega)]
      · simp
end Go.Proofs.Yteeakkakkjhgoaa.A
