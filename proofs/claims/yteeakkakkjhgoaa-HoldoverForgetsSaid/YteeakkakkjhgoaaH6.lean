/- Lose, Estimate, Error, State. Conditions: none. -/
import Derived.Test.YteeakkakkjhgoaaH5
set_option linter.unusedVariables false
set_option linter.unusedSimpArgs false
namespace Go.Proofs.Yteeakkakkjhgoaa.A
open Go Go.RowKit

theorem lose_ok {m : Mem} (h : MOK m) (t : Int) : MOK (loseF m t).2 := by
  unfold loseF
  split
  · exact h
  · split
    · exact h
    · split
      · exact h
      · rename_i h1 h2 h3
        have hne : m.fr ≠ [] := fun q => h3 (by unfold Mem.locked; simp [q])
        exact ⟨h.conf, h.len, by simp only []; omega, fun q => absurd q hne, h.cal⟩
set_option maxRecDepth 20000 in
theorem lose_calls (t : Int) (σ : AHeap) (r q : Nat) (m : Mem) (h : MA σ r q m) : ACalls Try.prog 20 [.ptr r 0, .int .i64 t] σ (fun v σ' => v = .int .i64 (loseF m t).1 ∧ Chg [r] σ σ' ∧ MA σ' r q (loseF m t).2) := by
  refine acalls_of S22_ok k20 (by simp) (fun hwf hrl => ?_)
  unfold c20
  obtain ⟨sl, hg, hrow⟩ := h.ex
  have hc := cells_of_own hg
  have hr := h.rl
  by_cases hbad : t < 0 ∨ 1125899906842624 < t
  · have e : loseF m t = (3, m) := by unfold loseF; rw [if_pos hbad]
    have ht : isT t = false := by
      cases ht : isT t with
      | false => rfl
      | true => have := isT_iff.1 ht; omega
    rw [e]
    simp -dsimp -implicitDefEqProofs (disch := (first | omega | (simp -implicitDefEqProofs only [nx]; done) | (simp -implicitDefEqProofs only [nx]; omega))) only [↓sd, su, ofC, ofV, argT, Option.map_some, Option.map_none, lb, ob, alenX, alenM, alook, amakeMap, aupdate, adelete, abin, aint, acmp, aun, aconv, aloadO, apart, afield, afaddr, aiaddrS, aiaddrA, aindex, aslice, abnd, alenS, amaxmin, amxs, amx, aalloc, abox, abuildSlice, amake, astore, aappend, acopy, asrcO, afill, AV.cellsA, AV.sc, TK.is, TK.agg, mb, nb, Nat.reduceGT, Int.reduceLT, Int.reduceLE, Int.reduceNeg, Int.reduceEq, decide_true, decide_false, decide_eq_true_eq, decide_eq_false_iff_not, if_true, if_false, ite_true, ite_false, reduceCtorEq, ne_eq, Nat.reduceAdd, Nat.reduceSub, Nat.reduceMul, Nat.reduceLT, Nat.reduceLeDiff, Nat.reduceEqDiff, Nat.reduceBEq, Int.reduceToNat, tb, S22, eqA, ht]
    refine ret_pure (σ := σ) (Nat.le_refl _) (by repeat (first | exact Sub.refl ‹_› | (refine Sub.refl ?_; (repeat (first | assumption | refine WF.alloc ?_ (by first | exact rl_ints | assumption | rfl) | refine WF.set ?_ _ (by first | exact rl_ints | assumption | rfl))); done) | refine Sub.alloc2 ?_ (by rfl) (by first | exact rl_ints | assumption | rfl) | refine Sub.allocD ?_ (by rfl) _ | refine Sub.alloc ?_ _ | refine Sub.set2 ?_ _ (by first | exact rl_ints | assumption | rfl) | refine Sub.set ?_ (by (try simp only [AHeap.next_alloc, AHeap.next_set]); omega) _)) ?_ ?_
    · simp (disch := (first | omega | (simp -implicitDefEqProofs only [nx]; done) | (simp -implicitDefEqProofs only [nx]; omega))) only [only, List.mem_cons, List.not_mem_nil, forall_eq_or_imp, forall_eq, List.contains_cons, List.contains_nil, Nat.reduceBEq, rl_int, rl_bool, AV.rl, AV.rls, ↓sd, su, ofC, ofV, argT, Option.map_some, Option.map_none, lb, nb, Nat.reduceGT, Int.reduceLT, Int.reduceLE, Int.reduceNeg, Int.reduceEq, decide_true, decide_false, decide_eq_true_eq, decide_eq_false_iff_not, if_true, if_false, ite_true, ite_false, reduceCtorEq, ne_eq, Nat.reduceAdd, Nat.reduceSub, Nat.reduceMul, Nat.reduceLT, Nat.reduceLeDiff, Nat.reduceEqDiff, Nat.reduceBEq, Int.reduceToNat]
    · simp (disch := (first | omega | (simp -implicitDefEqProofs only [nx]; done) | (simp -implicitDefEqProofs only [nx]; omega))) only [only, List.mem_cons, List.not_mem_nil, forall_eq_or_imp, forall_eq, List.contains_cons, List.contains_nil, Nat.reduceBEq, rl_int, rl_bool, AV.rl, AV.rls, ↓sd, su, ofC, ofV, argT, Option.map_some, Option.map_none, lb, nb, Nat.reduceGT, Int.reduceLT, Int.reduceLE, Int.reduceNeg, Int.reduceEq, decide_true, decide_false, decide_eq_true_eq, decide_eq_false_iff_not, if_true, if_false, ite_true, ite_false, reduceCtorEq, ne_eq, Nat.reduceAdd, Nat.reduceSub, Nat.reduceMul, Nat.reduceLT, Nat.reduceLeDiff, Nat.reduceEqDiff, Nat.reduceBEq, Int.reduceToNat]
      exact ⟨Chg.refl _ _, h⟩
  have ht : isT t = true := isT_iff.2 (by omega)
  simp -dsimp -implicitDefEqProofs (disch := (first | omega | (simp -implicitDefEqProofs only [nx]; done) | (simp -implicitDefEqProofs only [nx]; omega))) only [↓sd, su, ofC, ofV, argT, Option.map_some, Option.map_none, lb, ob, alenX, alenM, alook, amakeMap, aupdate, adelete, abin, aint, acmp, aun, aconv, aloadO, apart, afield, afaddr, aiaddrS, aiaddrA, aindex, aslice, abnd, alenS, amaxmin, amxs, amx, aalloc, abox, abuildSlice, amake, astore, aappend, acopy, asrcO, afill, AV.cellsA, AV.sc, TK.is, TK.agg, mb, nb, Nat.reduceGT, Int.reduceLT, Int.reduceLE, Int.reduceNeg, Int.reduceEq, decide_true, decide_false, decide_eq_true_eq, decide_eq_false_iff_not, if_true, if_false, ite_true, ite_false, reduceCtorEq, ne_eq, Nat.reduceAdd, Nat.reduceSub, Nat.reduceMul, Nat.reduceLT, Nat.reduceLeDiff, Nat.reduceEqDiff, Nat.reduceBEq, Int.reduceToNat, tb, S22, eqA, ht]
  refine call_by (before_calls t σ r q m h) ?_
  rintro v σ' ⟨rfl, rfl⟩
  by_cases hord : m.called = true ∧ t ≤ m.last
  · have e : loseF m t = (12, m) := by unfold loseF; rw [if_neg hbad, if_pos hord]
    have hb : befF m t = true := by unfold befF; simpa using hord
    rw [e]
    simp -dsimp -implicitDefEqProofs (disch := (first | omega | (simp -implicitDefEqProofs only [nx]; done) | (simp -implicitDefEqProofs only [nx]; omega))) only [↓sd, su, ofC, ofV, argT, Option.map_some, Option.map_none, lb, ob, alenX, alenM, alook, amakeMap, aupdate, adelete, abin, aint, acmp, aun, aconv, aloadO, apart, afield, afaddr, aiaddrS, aiaddrA, aindex, aslice, abnd, alenS, amaxmin, amxs, amx, aalloc, abox, abuildSlice, amake, astore, aappend, acopy, asrcO, afill, AV.cellsA, AV.sc, TK.is, TK.agg, mb, nb, Nat.reduceGT, Int.reduceLT, Int.reduceLE, Int.reduceNeg, Int.reduceEq, decide_true, decide_false, decide_eq_true_eq, decide_eq_false_iff_not, if_true, if_false, ite_true, ite_false, reduceCtorEq, ne_eq, Nat.reduceAdd, Nat.reduceSub, Nat.reduceMul, Nat.reduceLT, Nat.reduceLeDiff, Nat.reduceEqDiff, Nat.reduceBEq, Int.reduceToNat, tb, S22, hb]
    refine ret_pure (σ := σ') (Nat.le_refl _) (by repeat (first | exact Sub.refl ‹_› | (refine Sub.refl ?_; (repeat (first | assumption | refine WF.alloc ?_ (by first | exact rl_ints | assumption | rfl) | refine WF.set ?_ _ (by first | exact rl_ints | assumption | rfl))); done) | refine Sub.alloc2 ?_ (by rfl) (by first | exact rl_ints | assumption | rfl) | refine Sub.allocD ?_ (by rfl) _ | refine Sub.alloc ?_ _ | refine Sub.set2 ?_ _ (by first | exact rl_ints | assumption | rfl) | refine Sub.set ?_ (by (try simp only [AHeap.next_alloc, AHeap.next_set]); omega) _)) ?_ ?_
    · simp (disch := (first | omega | (simp -implicitDefEqProofs only [nx]; done) | (simp -implicitDefEqProofs only [nx]; omega))) only [only, List.mem_cons, List.not_mem_nil, forall_eq_or_imp, forall_eq, List.contains_cons, List.contains_nil, Nat.reduceBEq, rl_int, rl_bool, AV.rl, AV.rls, ↓sd, su, ofC, ofV, argT, Option.map_some, Option.map_none, lb, nb, Nat.reduceGT, Int.reduceLT, Int.reduceLE, Int.reduceNeg, Int.reduceEq, decide_true, decide_false, decide_eq_true_eq, decide_eq_false_iff_not, if_true, if_false, ite_true, ite_false, reduceCtorEq, ne_eq, Nat.reduceAdd, Nat.reduceSub, Nat.reduceMul, Nat.reduceLT, Nat.reduceLeDiff, Nat.reduceEqDiff, Nat.reduceBEq, Int.reduceToNat]
    · simp (disch := (first | omega | (simp -implicitDefEqProofs only [nx]; done) | (simp -implicitDefEqProofs only [nx]; omega))) only [only, List.mem_cons, List.not_mem_nil, forall_eq_or_imp, forall_eq, List.contains_cons, List.contains_nil, Nat.reduceBEq, rl_int, rl_bool, AV.rl, AV.rls, ↓sd, su, ofC, ofV, argT, Option.map_some, Option.map_none, lb, nb, Nat.reduceGT, Int.reduceLT, Int.reduceLE, Int.reduceNeg, Int.reduceEq, decide_true, decide_false, decide_eq_true_eq, decide_eq_false_iff_not, if_true, if_false, ite_true, ite_false, reduceCtorEq, ne_eq, Nat.reduceAdd, Nat.reduceSub, Nat.reduceMul, Nat.reduceLT, Nat.reduceLeDiff, Nat.reduceEqDiff, Nat.reduceBEq, Int.reduceToNat]
      exact ⟨Chg.refl _ _, h⟩
  have hb : befF m t = false := by
    cases hq : befF m t with
    | false => rfl
    | true => exact absurd (by unfold befF at hq; simpa using hq) hord
  cases hlk : m.locked with
  | false =>
    have e : loseF m t = (15, m) := by unfold loseF; rw [if_neg hbad, if_neg hord, if_pos hlk]
    rw [e]
    simp -dsimp -implicitDefEqProofs (disch := (first | omega | (simp -implicitDefEqProofs only [nx]; done) | (simp -implicitDefEqProofs only [nx]; omega))) only [↓sd, su, ofC, ofV, argT, Option.map_some, Option.map_none, lb, ob, alenX, alenM, alook, amakeMap, aupdate, adelete, abin, aint, acmp, aun, aconv, aloadO, apart, afield, afaddr, aiaddrS, aiaddrA, aindex, aslice, abnd, alenS, amaxmin, amxs, amx, aalloc, abox, abuildSlice, amake, astore, aappend, acopy, asrcO, afill, AV.cellsA, AV.sc, TK.is, TK.agg, mb, nb, Nat.reduceGT, Int.reduceLT, Int.reduceLE, Int.reduceNeg, Int.reduceEq, decide_true, decide_false, decide_eq_true_eq, decide_eq_false_iff_not, if_true, if_false, ite_true, ite_false, reduceCtorEq, ne_eq, Nat.reduceAdd, Nat.reduceSub, Nat.reduceMul, Nat.reduceLT, Nat.reduceLeDiff, Nat.reduceEqDiff, Nat.reduceBEq, Int.reduceToNat, tb, S22, hb, hc, memV, HCf.enc, hlk]
    refine ret_pure (σ := σ') (Nat.le_refl _) (by repeat (first | exact Sub.refl ‹_› | (refine Sub.refl ?_; (repeat (first | assumption | refine WF.alloc ?_ (by first | exact rl_ints | assumption | rfl) | refine WF.set ?_ _ (by first | exact rl_ints | assumption | rfl))); done) | refine Sub.alloc2 ?_ (by rfl) (by first | exact rl_ints | assumption | rfl) | refine Sub.allocD ?_ (by rfl) _ | refine Sub.alloc ?_ _ | refine Sub.set2 ?_ _ (by first | exact rl_ints | assumption | rfl) | refine Sub.set ?_ (by (try simp only [AHeap.next_alloc, AHeap.next_set]); omega) _)) ?_ ?_
    · simp (disch := (first | omega | (simp -implicitDefEqProofs only [nx]; done) | (simp -implicitDefEqProofs only [nx]; omega))) only [only, List.mem_cons, List.not_mem_nil, forall_eq_or_imp, forall_eq, List.contains_cons, List.contains_nil, Nat.reduceBEq, rl_int, rl_bool, AV.rl, AV.rls, ↓sd, su, ofC, ofV, argT, Option.map_some, Option.map_none, lb, nb, Nat.reduceGT, Int.reduceLT, Int.reduceLE, Int.reduceNeg, Int.reduceEq, decide_true, decide_false, decide_eq_true_eq, decide_eq_false_iff_not, if_true, if_false, ite_true, ite_false, reduceCtorEq, ne_eq, Nat.reduceAdd, Nat.reduceSub, Nat.reduceMul, Nat.reduceLT, Nat.reduceLeDiff, Nat.reduceEqDiff, Nat.reduceBEq, Int.reduceToNat]
    · simp (disch := (first | omega | (simp -implicitDefEqProofs only [nx]; done) | (simp -implicitDefEqProofs only [nx]; omega))) only [only, List.mem_cons, List.not_mem_nil, forall_eq_or_imp, forall_eq, List.contains_cons, List.contains_nil, Nat.reduceBEq, rl_int, rl_bool, AV.rl, AV.rls, ↓sd, su, ofC, ofV, argT, Option.map_some, Option.map_none, lb, nb, Nat.reduceGT, Int.reduceLT, Int.reduceLE, Int.reduceNeg, Int.reduceEq, decide_true, decide_false, decide_eq_true_eq, decide_eq_false_iff_not, if_true, if_false, ite_true, ite_false, reduceCtorEq, ne_eq, Nat.reduceAdd, Nat.reduceSub, Nat.reduceMul, Nat.reduceLT, Nat.reduceLeDiff, Nat.reduceEqDiff, Nat.reduceBEq, Int.reduceToNat]
      exact ⟨Chg.refl _ _, h⟩
  | true =>
    have e : loseF m t = (0, { m with over := true, last := t }) := by unfold loseF; rw [if_neg hbad, if_neg hord, if_neg (by rw [hlk]; simp)]
    have hok := lose_ok h.ok t
    rw [e] at hok ⊢
    have hsl := hrow.row.rl
    simp -dsimp -implicitDefEqProofs (disch := (first | omega | (simp -implicitDefEqProofs only [nx]; done) | (simp -implicitDefEqProofs only [nx]; omega))) only [↓sd, su, ofC, ofV, argT, Option.map_some, Option.map_none, lb, ob, alenX, alenM, alook, amakeMap, aupdate, adelete, abin, aint, acmp, aun, aconv, aloadO, apart, afield, afaddr, aiaddrS, aiaddrA, aindex, aslice, abnd, alenS, amaxmin, amxs, amx, aalloc, abox, abuildSlice, amake, astore, aappend, acopy, asrcO, afill, AV.cellsA, AV.sc, TK.is, TK.agg, mb, nb, Nat.reduceGT, Int.reduceLT, Int.reduceLE, Int.reduceNeg, Int.reduceEq, decide_true, decide_false, decide_eq_true_eq, decide_eq_false_iff_not, if_true, if_false, ite_true, ite_false, reduceCtorEq, ne_eq, Nat.reduceAdd, Nat.reduceSub, Nat.reduceMul, Nat.reduceLT, Nat.reduceLeDiff, Nat.reduceEqDiff, Nat.reduceBEq, Int.reduceToNat, tb, S22, hb, hc, memV, HCf.enc, hlk, hg]
    refine ret_pure (by simp only [AHeap.next_set]; omega) (Sub.refl (WF.set hwf _ ?_)) ?_ ?_
    · simp [AObj.rl, AV.rls, AV.rl, hsl]
    · simp (disch := (first | omega | (simp -implicitDefEqProofs only [nx]; done) | (simp -implicitDefEqProofs only [nx]; omega))) only [only, List.mem_cons, List.not_mem_nil, forall_eq_or_imp, forall_eq, List.contains_cons, List.contains_nil, Nat.reduceBEq, rl_int, rl_bool, AV.rl, AV.rls, ↓sd, su, ofC, ofV, argT, Option.map_some, Option.map_none, lb, nb, Nat.reduceGT, Int.reduceLT, Int.reduceLE, Int.reduceNeg, Int.reduceEq, decide_true, decide_false, decide_eq_true_eq, decide_eq_false_iff_not, if_true, if_false, ite_true, ite_false, reduceCtorEq, ne_eq, Nat.reduceAdd, Nat.reduceSub, Nat.reduceMul, Nat.reduceLT, Nat.reduceLeDiff, Nat.reduceEqDiff, Nat.reduceBEq, Int.reduceToNat]
    · simp (disch := (first | omega | (simp -implicitDefEqProofs only [nx]; done) | (simp -implicitDefEqProofs only [nx]; omega))) only [only, List.mem_cons, List.not_mem_nil, forall_eq_or_imp, forall_eq, List.contains_cons, List.contains_nil, Nat.reduceBEq, rl_int, rl_bool, AV.rl, AV.rls, ↓sd, su, ofC, ofV, argT, Option.map_some, Option.map_none, lb, nb, Nat.reduceGT, Int.reduceLT, Int.reduceLE, Int.reduceNeg, Int.reduceEq, decide_true, decide_false, decide_eq_true_eq, decide_eq_false_iff_not, if_true, if_false, ite_true, ite_false, reduceCtorEq, ne_eq, Nat.reduceAdd, Nat.reduceSub, Nat.reduceMul, Nat.reduceLT, Nat.reduceLeDiff, Nat.reduceEqDiff, Nat.reduceBEq, Int.reduceToNat]
      refine ⟨(Chg.refl _ _).set _ (.inl (by simp)), hok, by simp only [AHeap.next_set]; exact hr, sl, ?_, hrow.ext (Nat.le_refl _) (fun hq _ => get_set_ne hq)⟩
      rw [get_set_self rfl]; simp [memV, HCf.enc, Mem.locked]

/-! ### Estimate -/
theorem est_nil (σ : AHeap) : ACalls Try.prog 21 [.nilp] σ (fun v σ' => v = .tup [.int .i64 0, .bool false] ∧ σ' = σ) := by
  refine acalls_of S0_ok k21 (by simp) (fun hwf hrl => ?_)
  unfold c21
  simp -dsimp -implicitDefEqProofs (disch := (first | omega | (simp -implicitDefEqProofs only [nx]; done) | (simp -implicitDefEqProofs only [nx]; omega))) only [↓sd, su, ofC, ofV, argT, Option.map_some, Option.map_none, lb, ob, alenX, alenM, alook, amakeMap, aupdate, adelete, abin, aint, acmp, aun, aconv, aloadO, apart, afield, afaddr, aiaddrS, aiaddrA, aindex, aslice, abnd, alenS, amaxmin, amxs, amx, aalloc, abox, abuildSlice, amake, astore, aappend, acopy, asrcO, afill, AV.cellsA, AV.sc, TK.is, TK.agg, mb, nb, Nat.reduceGT, Int.reduceLT, Int.reduceLE, Int.reduceNeg, Int.reduceEq, decide_true, decide_false, decide_eq_true_eq, decide_eq_false_iff_not, if_true, if_false, ite_true, ite_false, reduceCtorEq, ne_eq, Nat.reduceAdd, Nat.reduceSub, Nat.reduceMul, Nat.reduceLT, Nat.reduceLeDiff, Nat.reduceEqDiff, Nat.reduceBEq, Int.reduceToNat, tb, S0, eqA0]
  refine ret_pure (σ := σ) (Nat.le_refl _) (by repeat (first | exact Sub.refl ‹_› | (refine Sub.refl ?_; (repeat (first | assumption | refine WF.alloc ?_ (by first | exact rl_ints | assumption | rfl) | refine WF.set ?_ _ (by first | exact rl_ints | assumption | rfl))); done) | refine Sub.alloc2 ?_ (by rfl) (by first | exact rl_ints | assumption | rfl) | refine Sub.allocD ?_ (by rfl) _ | refine Sub.alloc ?_ _ | refine Sub.set2 ?_ _ (by first | exact rl_ints | assumption | rfl) | refine Sub.set ?_ (by (try simp only [AHeap.next_alloc, AHeap.next_set]); omega) _)) ?_ ?_
  · simp (disch := (first | omega | (simp -implicitDefEqProofs only [nx]; done) | (simp -implicitDefEqProofs only [nx]; omega))) only [only, List.mem_cons, List.not_mem_nil, forall_eq_or_imp, forall_eq, List.contains_cons, List.contains_nil, Nat.reduceBEq, rl_int, rl_bool, AV.rl, AV.rls, ↓sd, su, ofC, ofV, argT, Option.map_some, Option.map_none, lb, nb, Nat.reduceGT, Int.reduceLT, Int.reduceLE, Int.reduceNeg, Int.reduceEq, decide_true, decide_false, decide_eq_true_eq, decide_eq_false_iff_not, if_true, if_false, ite_true, ite_false, reduceCtorEq, ne_eq, Nat.reduceAdd, Nat.reduceSub, Nat.reduceMul, Nat.reduceLT, Nat.reduceLeDiff, Nat.reduceEqDiff, Nat.reduceBEq, Int.reduceToNat]
  · simp (disch := (first | omega | (simp -implicitDefEqProofs only [nx]; done) | (simp -implicitDefEqProofs only [nx]; omega))) only [only, List.mem_cons, List.not_mem_nil, forall_eq_or_imp, forall_eq, List.contains_cons, List.contains_nil, Nat.reduceBEq, rl_int, rl_bool, AV.rl, AV.rls, ↓sd, su, ofC, ofV, argT, Option.map_some, Option.map_none, lb, nb, Nat.reduceGT, Int.reduceLT, Int.reduceLE, Int.reduceNeg, Int.reduceEq, decide_true, decide_false, decide_eq_true_eq, decide_eq_false_iff_not, if_true, if_false, ite_true, ite_false, reduceCtorEq, ne_eq, Nat.reduceAdd, Nat.reduceSub, Nat.reduceMul, Nat.reduceLT, Nat.reduceLeDiff, Nat.reduceEqDiff, Nat.reduceBEq, Int.reduceToNat]
theorem IntRow.src {σ : AHeap} {v : AV} {l : List Int} (h : IntRow σ v l) : asrc σ 1 v = some (l.length, ints l) := by
  unfold IntRow RowOf at h
  rw [ints_flat] at h
  have hsc : (ints l).all AV.sc = true := ints_sc
  generalize hn : l.length = n at *
  generalize hcc : ints l = cells at *
  cases h
  · rfl
  · rfl
  · rename_i i off cs hi hcs hf hle hce
    rw [asrc_slice, hcs, hf]
    simp only [asrcO]
    rw [← hce, if_pos (by refine ⟨by omega, ?_, ?_⟩ <;> first | exact hsc | trivial)]
set_option maxHeartbeats 1000000 in
theorem est_calls (σ : AHeap) (r q : Nat) (m : Mem) (h : MA σ r q m) : ACalls Try.prog 21 [.ptr r 0] σ (fun v σ' => v = .tup [.int .i64 (estF m).1, .bool (estF m).2] ∧ σ' = σ) := by
  refine acalls_of S0_ok k21 (by simp) (fun hwf hrl => ?_)
  unfold c21
  obtain ⟨sl, hg, hrow⟩ := h.ex
  have hc := cells_of_own hg
  have hr := h.rl
  have hir := hrow.row
  have hlen := hir.len (P := Try.prog) tk45
  have hl16 := h.ok.len
  by_cases hne : m.fr = []
  · have e : estF m = (0, false) := by unfold estF; rw [if_pos hne]
    have hl0 : m.fr.length = 0 := by rw [hne]; rfl
    rw [hl0] at hlen
    rw [e]
    simp -dsimp -implicitDefEqProofs (disch := (first | omega | (simp -implicitDefEqProofs only [nx]; done) | (simp -implicitDefEqProofs only [nx]; omega))) only [↓sd, su, ofC, ofV, argT, Option.map_some, Option.map_none, lb, ob, alenX, alenM, alook, amakeMap, aupdate, adelete, abin, aint, acmp, aun, aconv, aloadO, apart, afield, afaddr, aiaddrS, aiaddrA, aindex, aslice, abnd, alenS, amaxmin, amxs, amx, aalloc, abox, abuildSlice, amake, astore, aappend, acopy, asrcO, afill, AV.cellsA, AV.sc, TK.is, TK.agg, mb, nb, Nat.reduceGT, Int.reduceLT, Int.reduceLE, Int.reduceNeg, Int.reduceEq, decide_true, decide_false, decide_eq_true_eq, decide_eq_false_iff_not, if_true, if_false, ite_true, ite_false, reduceCtorEq, ne_eq, Nat.reduceAdd, Nat.reduceSub, Nat.reduceMul, Nat.reduceLT, Nat.reduceLeDiff, Nat.reduceEqDiff, Nat.reduceBEq, Int.reduceToNat, tb, S0, eqA, hc, memV, HCf.enc, hlen]
    refine ret_pure (σ := σ) (Nat.le_refl _) (by repeat (first | exact Sub.refl ‹_› | (refine Sub.refl ?_; (repeat (first | assumption | refine WF.alloc ?_ (by first | exact rl_ints | assumption | rfl) | refine WF.set ?_ _ (by first | exact rl_ints | assumption | rfl))); done) | refine Sub.alloc2 ?_ (by rfl) (by first | exact rl_ints | assumption | rfl) | refine Sub.allocD ?_ (by rfl) _ | refine Sub.alloc ?_ _ | refine Sub.set2 ?_ _ (by first | exact rl_ints | assumption | rfl) | refine Sub.set ?_ (by (try simp only [AHeap.next_alloc, AHeap.next_set]); omega) _)) ?_ ?_
    · simp (disch := (first | omega | (simp -implicitDefEqProofs only [nx]; done) | (simp -implicitDefEqProofs only [nx]; omega))) only [only, List.mem_cons, List.not_mem_nil, forall_eq_or_imp, forall_eq, List.contains_cons, List.contains_nil, Nat.reduceBEq, rl_int, rl_bool, AV.rl, AV.rls, ↓sd, su, ofC, ofV, argT, Option.map_some, Option.map_none, lb, nb, Nat.reduceGT, Int.reduceLT, Int.reduceLE, Int.reduceNeg, Int.reduceEq, decide_true, decide_false, decide_eq_true_eq, decide_eq_false_iff_not, if_true, if_false, ite_true, ite_false, reduceCtorEq, ne_eq, Nat.reduceAdd, Nat.reduceSub, Nat.reduceMul, Nat.reduceLT, Nat.reduceLeDiff, Nat.reduceEqDiff, Nat.reduceBEq, Int.reduceToNat]
    · simp (disch := (first | omega | (simp -implicitDefEqProofs only [nx]; done) | (simp -implicitDefEqProofs only [nx]; omega))) only [only, List.mem_cons, List.not_mem_nil, forall_eq_or_imp, forall_eq, List.contains_cons, List.contains_nil, Nat.reduceBEq, rl_int, rl_bool, AV.rl, AV.rls, ↓sd, su, ofC, ofV, argT, Option.map_some, Option.map_none, lb, nb, Nat.reduceGT, Int.reduceLT, Int.reduceLE, Int.reduceNeg, Int.reduceEq, decide_true, decide_false, decide_eq_true_eq, decide_eq_false_iff_not, if_true, if_false, ite_true, ite_false, reduceCtorEq, ne_eq, Nat.reduceAdd, Nat.reduceSub, Nat.reduceMul, Nat.reduceLT, Nat.reduceLeDiff, Nat.reduceEqDiff, Nat.reduceBEq, Int.reduceToNat]
  have hl0 : ¬ ((m.fr.length : Nat) : Int) = 0 := by
    intro q; apply hne; exact List.eq_nil_of_length_eq_zero (by omega)
  have hpos : 0 < m.fr.length := by omega
  have e : estF m = ((m.fr.mergeSort leI).getD ((m.fr.length - 1) / 2) 0, true) := by unfold estF; rw [if_neg hne]
  rw [e]
  have b1 : (0 : Int) ≤ ((m.fr.length : Nat) : Int) := by omega
  have b2 : ((m.fr.length : Nat) : Int) ≤ 281474976710656 := by omega
  have b3 : (8 : Int) * ((m.fr.length : Nat) : Int) ≤ 281474976710656 := by omega
  have hcp : ∀ o, o = AObj.own 1 (ints (List.replicate m.fr.length 0)) → acopy Try.prog 45 (.slice σ.next 0 m.fr.length) sl (σ.alloc o) = some (.int .i64 (m.fr.length : Int), σ.alloc (.own 1 (ints m.fr))) := fun o ho => by
    subst ho
    have hsrc : asrc (σ.alloc (.own 1 (ints (List.replicate m.fr.length 0)))) 1 sl = some (m.fr.length, ints m.fr) := IntRow.src hir.ext
    simp only [acopy, tk45, sz3, hsrc, get_alloc_self rfl]
    rw [if_pos ⟨trivial, by rw [ints_length]; simp⟩, alloc_set rfl]
    have e4 : splice (ints (List.replicate m.fr.length 0)) 0 ((ints m.fr).take (min m.fr.length m.fr.length * 1)) = ints m.fr := by
      rw [Nat.min_self, Nat.mul_one, List.take_of_length_le (by rw [ints_length]; omega)]
      exact splice_all (by rw [ints_length, ints_length]; simp)
    rw [e4]; simp
  have hcp2 := hcp _ rfl
  have hstep := sort_calls (σ.alloc (.own 1 (ints m.fr))) σ.next m.fr (by first | omega | (simp only [AHeap.next_alloc, AHeap.next_set]; omega) | (simp only [AHeap.next_alloc, AHeap.next_set] at *; omega)) (get_alloc_self rfl) (by omega)
  have hc2 : ∀ o, (σ.alloc o).cells r = some (memV sl m) := fun o => by rw [cells_alloc_ne (by omega)]; exact hc
  dsimp only [memV, HCf.enc, List.cons_append, List.nil_append] at hc2
  simp -dsimp -implicitDefEqProofs (disch := (first | omega | (simp -implicitDefEqProofs only [nx]; done) | (simp -implicitDefEqProofs only [nx]; omega))) only [↓sd, su, ofC, ofV, argT, List.getD_cons_zero, List.getD_cons_succ, List.getElem?_cons_zero, List.getElem?_cons_succ, List.map_cons, List.map_nil, List.nil_append, List.cons_append, List.append_nil, Option.map_some, Option.map_none, ob, alenX, alenM, alook, amakeMap, aupdate, adelete, abin, aint, acmp, aun, aconv, aloadO, apart, afield, afaddr, aiaddrS, aiaddrA, aindex, aslice, abnd, alenS, amaxmin, amxs, amx, aalloc, abox, abuildSlice, amake, astore, aappend, asrcO, afill, AV.cellsA, AV.sc, TK.is, TK.agg, List.length_cons, List.length_nil, List.all_cons, List.all_nil, mb, beq_self_eq_true, List.length_set, Int.zero_sub, List.set_cons_zero, List.set_cons_succ, List.take_zero, List.drop_zero, List.take_succ_cons, List.drop_succ_cons, or_false, false_or, or_true, true_or, or_self, gt_iff_lt, ge_iff_le, Nat.lt_irrefl, Nat.reduceGT, Int.reduceLT, Int.reduceLE, Int.reduceNeg, Int.reduceEq, Nat.not_lt_zero, List.replicate_succ, List.replicate_zero, List.flatten_cons, List.flatten_nil, List.length_replicate, Nat.le_refl, Nat.sub_zero, cast0, cast1, Int.cast_ofNat_Int, Int.toNat_natCast, Bool.not_not, Bool.true_and, Bool.and_true, Bool.false_and, Bool.and_false, Bool.or_true, Bool.true_or, Bool.or_false, Bool.false_or, decide_true, decide_false, Bool.not_true, Bool.not_false, beq_iff_eq, Bool.not_eq_true', decide_eq_true_eq, decide_eq_false_iff_not, if_true, if_false, ite_true, ite_false, reduceCtorEq, Bool.false_eq_true, ne_eq, not_false_eq_true, not_true_eq_false, true_and, and_true, and_self, false_and, and_false, Nat.reduceAdd, Nat.reduceSub, Nat.reduceMul, Nat.reduceLT, Nat.reduceLeDiff, Nat.reduceEqDiff, Nat.reduceBEq, Int.reduceToNat, Nat.add_zero, Nat.zero_add, Nat.mul_one, Nat.one_mul, tb, S0, eqA, hc, memV, HCf.enc, hlen, hl0, b1, b2, b3, if_pos, hc2, hcp2]
  refine call_wf hstep ?_
  rintro v σ2 ⟨rfl, hσ2⟩ hwf2 _ _
  have e5 : σ2 = σ.alloc (.own 1 (ints (m.fr.mergeSort leI))) := by rw [hσ2, alloc_set rfl]
  subst e5
  have hls : (m.fr.mergeSort leI).length = m.fr.length := List.length_mergeSort _
  have hrs : IntRow (σ.alloc (.own 1 (ints (m.fr.mergeSort leI)))) (.slice σ.next 0 (m.fr.mergeSort leI).length) (m.fr.mergeSort leI) := IntRow.of_own (by first | omega | (simp only [AHeap.next_alloc, AHeap.next_set]; omega) | (simp only [AHeap.next_alloc, AHeap.next_set] at *; omega)) (get_alloc_self rfl)
  rw [hls] at hrs
  have w1 : IntKind.i64.wrap (((m.fr.length : Nat) : Int) - 1) = ((m.fr.length : Nat) : Int) - 1 := w64 (by omega)
  have t1 : Int.tdiv (((m.fr.length : Nat) : Int) - 1) 2 = (((m.fr.length - 1) / 2 : Nat) : Int) := by
    rw [Int.tdiv_eq_ediv_of_nonneg (by omega)]; omega
  have w2 : IntKind.i64.wrap ((((m.fr.length - 1) / 2 : Nat) : Int)) = (((m.fr.length - 1) / 2 : Nat) : Int) := w64 (by omega)
  have ad := hrs.iaddr (P := Try.prog) tk45 sz3 ((m.fr.length - 1) / 2) (by omega)
  have ld := IntRow.load (P := Try.prog) (e := 3) hrs (by rw [tk3]; rfl) (by rw [tk3]; rfl) ((m.fr.length - 1) / 2) (by omega)
  simp -dsimp -implicitDefEqProofs (disch := (first | omega | (simp -implicitDefEqProofs only [nx]; done) | (simp -implicitDefEqProofs only [nx]; omega))) only [↓sd, su, ofC, ofV, argT, List.getD_cons_zero, List.getD_cons_succ, List.getElem?_cons_zero, List.getElem?_cons_succ, List.map_cons, List.map_nil, List.nil_append, List.cons_append, List.append_nil, Option.map_some, Option.map_none, ob, alenX, alenM, alook, amakeMap, aupdate, adelete, abin, aint, acmp, aun, aconv, aloadO, apart, afield, afaddr, aiaddrS, aiaddrA, aindex, aslice, abnd, alenS, amaxmin, amxs, amx, aalloc, abox, abuildSlice, amake, astore, aappend, acopy, asrcO, afill, AV.cellsA, AV.sc, TK.is, TK.agg, List.length_cons, List.length_nil, List.all_cons, List.all_nil, mb, beq_self_eq_true, List.length_set, Int.zero_sub, List.set_cons_zero, List.set_cons_succ, List.take_zero, List.drop_zero, List.take_succ_cons, List.drop_succ_cons, or_false, false_or, or_true, true_or, or_self, gt_iff_lt, ge_iff_le, Nat.lt_irrefl, Nat.reduceGT, Int.reduceLT, Int.reduceLE, Int.reduceNeg, Int.reduceEq, Nat.not_lt_zero, List.replicate_succ, List.replicate_zero, List.flatten_cons, List.flatten_nil, List.length_replicate, Nat.le_refl, Nat.sub_zero, cast0, cast1, Int.cast_ofNat_Int, Int.toNat_natCast, Bool.not_not, Bool.true_and, Bool.and_true, Bool.false_and, Bool.and_false, Bool.or_true, Bool.true_or, Bool.or_false, Bool.false_or, decide_true, decide_false, Bool.not_true, Bool.not_false, beq_iff_eq, Bool.not_eq_true', decide_eq_true_eq, decide_eq_false_iff_not, if_true, if_false, ite_true, ite_false, reduceCtorEq, Bool.false_eq_true, ne_eq, not_false_eq_true, not_true_eq_false, true_and, and_true, and_self, false_and, and_false, Nat.reduceAdd, Nat.reduceSub, Nat.reduceMul, Nat.reduceLT, Nat.reduceLeDiff, Nat.reduceEqDiff, Nat.reduceBEq, Int.reduceToNat, Nat.add_zero, Nat.zero_add, Nat.mul_one, Nat.one_mul, tb, S0, w1, t1, w2, ad, ld]
  refine ret_pure (σ := σ) (Nat.le_refl _) (Chg.sub (rs := []) (.ofExt inferInstance) hwf (fun q hq => by cases hq)) ?_ ?_
  · simp (disch := (first | omega | (simp -implicitDefEqProofs only [nx]; done) | (simp -implicitDefEqProofs only [nx]; omega))) only [only, List.mem_cons, List.not_mem_nil, forall_eq_or_imp, forall_eq, List.contains_cons, List.contains_nil, Nat.reduceBEq, rl_int, rl_bool, AV.rl, AV.rls, ↓sd, su, ofC, ofV, argT, Option.map_some, Option.map_none, lb, nb, Nat.reduceGT, Int.reduceLT, Int.reduceLE, Int.reduceNeg, Int.reduceEq, decide_true, decide_false, decide_eq_true_eq, decide_eq_false_iff_not, if_true, if_false, ite_true, ite_false, reduceCtorEq, ne_eq, Nat.reduceAdd, Nat.reduceSub, Nat.reduceMul, Nat.reduceLT, Nat.reduceLeDiff, Nat.reduceEqDiff, Nat.reduceBEq, Int.reduceToNat]
  · simp (disch := (first | omega | (simp -implicitDefEqProofs only [nx]; done) | (simp -implicitDefEqProofs only [nx]; omega))) only [only, List.mem_cons, List.not_mem_nil, forall_eq_or_imp, forall_eq, List.contains_cons, List.contains_nil, Nat.reduceBEq, rl_int, rl_bool, AV.rl, AV.rls, ↓sd, su, ofC, ofV, argT, Option.map_some, Option.map_none, lb, nb, Nat.reduceGT, Int.reduceLT, Int.reduceLE, Int.reduceNeg, Int.reduceEq, decide_true, decide_false, decide_eq_true_eq, decide_eq_false_iff_not, if_true, if_false, ite_true, ite_false, reduceCtorEq, ne_eq, Nat.reduceAdd, Nat.reduceSub, Nat.reduceMul, Nat.reduceLT, Nat.reduceLeDiff, Nat.reduceEqDiff, Nat.reduceBEq, Int.reduceToNat]
end Go.Proofs.Yteeakkakkjhgoaa.A
