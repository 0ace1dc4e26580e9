/- The law Asks. Conditions: none. -/
import Derived.Test.YthiaegigndlnpaaG11
set_option linter.unusedVariables false
set_option linter.unusedSimpArgs false
namespace Go.Proofs.Ythiaegigndlnpaa.A
open Go Go.RowKit

theorem eqBoolT (a b : Bool) : aeq Try.prog 4 (.bool a) (.bool b) = some (a == b) := by simp [aeq, tk4]
set_option maxHeartbeats 4000000 in
theorem asks_calls (c : Conf) (v : AV) (l : List Req) (σ : AHeap) (hll : l.length < 1000000000000000) (hv : ReqRow σ v l) (hI : ∀ x ∈ l, x.I64) : ACalls Try.prog 4 [.agg c.enc, v] σ (fun r σ' => r = .bool true ∧ σ' = σ) := by
  refine acalls_of S0_ok k4 (by simp) (fun hwf hrl => ?_)
  unfold c4
  have hld := fun τ h => load_conf c τ σ.next h
  have hl1 := load_conf c (σ.alloc (.own 5 c.enc)) σ.next (cells_alloc_self rfl)
  have hlen := hv.len (P := Try.prog) tk30
  simp -dsimp -implicitDefEqProofs (disch := (first | omega | (simp -implicitDefEqProofs only [nx]; done) | (simp -implicitDefEqProofs only [nx]; omega))) only [↓sd, su, ofC, ofV, argT, List.getD_cons_zero, List.getD_cons_succ, List.getElem?_cons_zero, List.getElem?_cons_succ, List.map_cons, List.map_nil, List.nil_append, List.cons_append, List.append_nil, Option.map_some, Option.map_none, ob, alenX, alenM, alook, amakeMap, aupdate, adelete, abin, aint, acmp, aun, aconv, aloadO, apart, afield, afaddr, aiaddrS, aiaddrA, aindex, aslice, abnd, alenS, amaxmin, amxs, amx, aalloc, abuildSlice, amake, astore, aappend, acopy, asrcO, afill, AV.cellsA, AV.sc, TK.is, TK.agg, List.length_cons, List.length_nil, List.all_cons, List.all_nil, mb, beq_self_eq_true, List.length_set, Int.zero_sub, List.set_cons_zero, List.set_cons_succ, List.take_zero, List.drop_zero, List.take_succ_cons, List.drop_succ_cons, or_false, false_or, or_true, true_or, or_self, gt_iff_lt, ge_iff_le, Nat.lt_irrefl, Nat.reduceGT, Int.reduceLT, Int.reduceLE, Int.reduceNeg, Int.reduceEq, Nat.not_lt_zero, List.replicate_succ, List.replicate_zero, List.flatten_cons, List.flatten_nil, List.length_replicate, Nat.le_refl, Nat.sub_zero, cast0, cast1, Int.cast_ofNat_Int, Int.toNat_natCast, Bool.not_not, Bool.true_and, Bool.and_true, Bool.false_and, Bool.and_false, Bool.or_true, Bool.true_or, Bool.or_false, Bool.false_or, decide_true, decide_false, Bool.not_true, Bool.not_false, beq_iff_eq, Bool.not_eq_true', decide_eq_true_eq, decide_eq_false_iff_not, if_true, if_false, ite_true, ite_false, reduceCtorEq, Bool.false_eq_true, ne_eq, not_false_eq_true, not_true_eq_false, true_and, and_true, and_self, false_and, and_false, Nat.reduceAdd, Nat.reduceSub, Nat.reduceMul, Nat.reduceLT, Nat.reduceLeDiff, Nat.reduceEqDiff, Nat.reduceBEq, Int.reduceToNat, Nat.add_zero, Nat.zero_add, Nat.mul_one, Nat.one_mul, tb, S0, box_conf, hl1]
  have hwf1 : (σ.alloc (.own 5 c.enc)).WF := WF.alloc hwf (conf_rl _ _ _)
  have hE1 : Ext σ (σ.alloc (.own 5 c.enc)) := inferInstance
  have hn1 : (σ.alloc (.own 5 c.enc)).next = σ.next + 1 := rfl
  generalize (σ.alloc (.own 5 c.enc)) = σ1 at *
  refine callh hwf1 (new_calls c _) ?_
  rintro ra σ2 ⟨hE2, hN2⟩ hwf2 hrl2 hle2
  have hE2 := hE2.unhold
  have hN2 : (confB c = false ∧ ra = .nilp) ∨ (confB c = true ∧ ∃ i mp, ra = .ptr i 0 ∧ σ1.next ≤ i ∧ σ1.next ≤ mp ∧ IA (unhold [σ.next, σ.next] σ1 σ2) i mp (lim0 c)) := by
    rcases hN2 with h | ⟨h, i, mp, h1, h2, h3, h4⟩
    · exact .inl h
    · have h2 : σ1.next ≤ i := h2
      have h3 : σ1.next ≤ mp := h3
      exact .inr ⟨h, i, mp, h1, h2, h3, h4.unhold (by simp; omega) (by simp; omega)⟩
  generalize (unhold [σ.next, σ.next] σ1 σ2) = σ3 at *
  have hn3 := hE2.le
  simp -dsimp -implicitDefEqProofs (disch := (first | omega | (simp -implicitDefEqProofs only [nx]; done) | (simp -implicitDefEqProofs only [nx]; omega))) only [↓sd, su, ofC, ofV, argT, Option.map_some, Option.map_none, lb, ob, alenX, alenM, alook, amakeMap, aupdate, adelete, abin, aint, acmp, aun, aconv, aloadO, apart, afield, afaddr, aiaddrS, aiaddrA, aindex, aslice, abnd, alenS, amaxmin, amxs, amx, aalloc, abox, abuildSlice, amake, astore, aappend, acopy, asrcO, afill, AV.cellsA, AV.sc, TK.is, TK.agg, mb, nb, Nat.reduceGT, Int.reduceLT, Int.reduceLE, Int.reduceNeg, Int.reduceEq, decide_true, decide_false, decide_eq_true_eq, decide_eq_false_iff_not, if_true, if_false, ite_true, ite_false, reduceCtorEq, ne_eq, Nat.reduceAdd, Nat.reduceSub, Nat.reduceMul, Nat.reduceLT, Nat.reduceLeDiff, Nat.reduceEqDiff, Nat.reduceBEq, Int.reduceToNat, tb, S0]
  refine callh hwf2 (refNew_calls c _) ?_
  rintro rb σ4 ⟨hE4, hN4⟩ hwf4 hrl4 hle4
  have hE4 := hE4.unhold
  have hN4 : (confB c = false ∧ rb = .nilp) ∨ (confB c = true ∧ ∃ i, rb = .ptr i 0 ∧ σ3.next ≤ i ∧ RB (unhold [σ.next, σ.next] σ3 σ4) i i (lim0 c)) := by
    rcases hN4 with h | ⟨h, i, h1, h2, h3⟩
    · exact .inl h
    · have h2 : σ3.next ≤ i := h2
      exact .inr ⟨h, i, h1, h2, h3.unhold (by simp; omega) (by simp; omega)⟩
  generalize (unhold [σ.next, σ.next] σ3 σ4) = σ5 at *
  have hE5 : Ext σ σ5 := (hE1.trans hE2).trans hE4
  have fin : ∀ σ' : AHeap, Ext σ σ' → Sub σ' σ := fun σ' hE => Chg.sub (rs := []) (.ofExt hE) hwf (fun q hq => by cases hq)
  cases hcb : confB c with
  | false =>
    rcases hN2 with ⟨_, rfl⟩ | ⟨q, _⟩
    rotate_left
    · rw [hcb] at q; cases q
    rcases hN4 with ⟨_, rfl⟩ | ⟨q, _⟩
    rotate_left
    · rw [hcb] at q; cases q
    simp -dsimp -implicitDefEqProofs (disch := (first | omega | (simp -implicitDefEqProofs only [nx]; done) | (simp -implicitDefEqProofs only [nx]; omega))) only [↓sd, su, ofC, ofV, argT, Option.map_some, Option.map_none, lb, ob, alenX, alenM, alook, amakeMap, aupdate, adelete, abin, aint, acmp, aun, aconv, aloadO, apart, afield, afaddr, aiaddrS, aiaddrA, aindex, aslice, abnd, alenS, amaxmin, amxs, amx, aalloc, abox, abuildSlice, amake, astore, aappend, acopy, asrcO, afill, AV.cellsA, AV.sc, TK.is, TK.agg, mb, nb, Nat.reduceGT, Int.reduceLT, Int.reduceLE, Int.reduceNeg, Int.reduceEq, decide_true, decide_false, decide_eq_true_eq, decide_eq_false_iff_not, if_true, if_false, ite_true, ite_false, reduceCtorEq, ne_eq, Nat.reduceAdd, Nat.reduceSub, Nat.reduceMul, Nat.reduceLT, Nat.reduceLeDiff, Nat.reduceEqDiff, Nat.reduceBEq, Int.reduceToNat, tb, S0, eqA0, eqB0, eqBoolT]
    refine call_wf (awake_calls σ5) ?_
    rintro r σ6 ⟨rfl, rfl⟩ _ _ _
    simp -dsimp -implicitDefEqProofs (disch := (first | omega | (simp -implicitDefEqProofs only [nx]; done) | (simp -implicitDefEqProofs only [nx]; omega))) only [↓sd, su, ofC, ofV, argT, Option.map_some, Option.map_none, lb, ob, alenX, alenM, alook, amakeMap, aupdate, adelete, abin, aint, acmp, aun, aconv, aloadO, apart, afield, afaddr, aiaddrS, aiaddrA, aindex, aslice, abnd, alenS, amaxmin, amxs, amx, aalloc, abox, abuildSlice, amake, astore, aappend, acopy, asrcO, afill, AV.cellsA, AV.sc, TK.is, TK.agg, mb, nb, Nat.reduceGT, Int.reduceLT, Int.reduceLE, Int.reduceNeg, Int.reduceEq, decide_true, decide_false, decide_eq_true_eq, decide_eq_false_iff_not, if_true, if_false, ite_true, ite_false, reduceCtorEq, ne_eq, Nat.reduceAdd, Nat.reduceSub, Nat.reduceMul, Nat.reduceLT, Nat.reduceLeDiff, Nat.reduceEqDiff, Nat.reduceBEq, Int.reduceToNat, tb, S0]
    refine ret_pure (σ := σ) (Nat.le_refl _) (fin _ hE5) ?_ ?_
    · simp (disch := (first | omega | (simp -implicitDefEqProofs only [nx]; done) | (simp -implicitDefEqProofs only [nx]; omega))) only [only, List.mem_cons, List.not_mem_nil, forall_eq_or_imp, forall_eq, List.contains_cons, List.contains_nil, Nat.reduceBEq, rl_int, rl_bool, AV.rl, AV.rls, ↓sd, su, ofC, ofV, argT, Option.map_some, Option.map_none, lb, nb, Nat.reduceGT, Int.reduceLT, Int.reduceLE, Int.reduceNeg, Int.reduceEq, decide_true, decide_false, decide_eq_true_eq, decide_eq_false_iff_not, if_true, if_false, ite_true, ite_false, reduceCtorEq, ne_eq, Nat.reduceAdd, Nat.reduceSub, Nat.reduceMul, Nat.reduceLT, Nat.reduceLeDiff, Nat.reduceEqDiff, Nat.reduceBEq, Int.reduceToNat]
    · simp (disch := (first | omega | (simp -implicitDefEqProofs only [nx]; done) | (simp -implicitDefEqProofs only [nx]; omega))) only [only, List.mem_cons, List.not_mem_nil, forall_eq_or_imp, forall_eq, List.contains_cons, List.contains_nil, Nat.reduceBEq, rl_int, rl_bool, AV.rl, AV.rls, ↓sd, su, ofC, ofV, argT, Option.map_some, Option.map_none, lb, nb, Nat.reduceGT, Int.reduceLT, Int.reduceLE, Int.reduceNeg, Int.reduceEq, decide_true, decide_false, decide_eq_true_eq, decide_eq_false_iff_not, if_true, if_false, ite_true, ite_false, reduceCtorEq, ne_eq, Nat.reduceAdd, Nat.reduceSub, Nat.reduceMul, Nat.reduceLT, Nat.reduceLeDiff, Nat.reduceEqDiff, Nat.reduceBEq, Int.reduceToNat]
  | true =>
    rcases hN2 with ⟨q, _⟩ | ⟨_, i, mp, rfl, hi, hmp, hA⟩
    · rw [hcb] at q; cases q
    rcases hN4 with ⟨q, _⟩ | ⟨_, r, rfl, hr, hB⟩
    · rw [hcb] at q; cases q
    have hir : i < r := Nat.lt_of_lt_of_le hA.rl hr
    have hmr : mp < r := Nat.lt_of_lt_of_le hA.ml hr
    have hA : IA σ5 i mp (lim0 c) := hA.ext
    by_cases h150 : (150 : Int) < (l.length : Int)
    · simp -dsimp -implicitDefEqProofs (disch := (first | omega | (simp -implicitDefEqProofs only [nx]; done) | (simp -implicitDefEqProofs only [nx]; omega))) only [↓sd, su, ofC, ofV, argT, Option.map_some, Option.map_none, lb, ob, alenX, alenM, alook, amakeMap, aupdate, adelete, abin, aint, acmp, aun, aconv, aloadO, apart, afield, afaddr, aiaddrS, aiaddrA, aindex, aslice, abnd, alenS, amaxmin, amxs, amx, aalloc, abox, abuildSlice, amake, astore, aappend, acopy, asrcO, afill, AV.cellsA, AV.sc, TK.is, TK.agg, mb, nb, Nat.reduceGT, Int.reduceLT, Int.reduceLE, Int.reduceNeg, Int.reduceEq, decide_true, decide_false, decide_eq_true_eq, decide_eq_false_iff_not, if_true, if_false, ite_true, ite_false, reduceCtorEq, ne_eq, Nat.reduceAdd, Nat.reduceSub, Nat.reduceMul, Nat.reduceLT, Nat.reduceLeDiff, Nat.reduceEqDiff, Nat.reduceBEq, Int.reduceToNat, tb, S0, eqA, eqB, eqBoolT, hlen, h150]
      refine call_wf (awake_calls σ5) ?_
      rintro r σ6 ⟨rfl, rfl⟩ _ _ _
      simp -dsimp -implicitDefEqProofs (disch := (first | omega | (simp -implicitDefEqProofs only [nx]; done) | (simp -implicitDefEqProofs only [nx]; omega))) only [↓sd, su, ofC, ofV, argT, Option.map_some, Option.map_none, lb, ob, alenX, alenM, alook, amakeMap, aupdate, adelete, abin, aint, acmp, aun, aconv, aloadO, apart, afield, afaddr, aiaddrS, aiaddrA, aindex, aslice, abnd, alenS, amaxmin, amxs, amx, aalloc, abox, abuildSlice, amake, astore, aappend, acopy, asrcO, afill, AV.cellsA, AV.sc, TK.is, TK.agg, mb, nb, Nat.reduceGT, Int.reduceLT, Int.reduceLE, Int.reduceNeg, Int.reduceEq, decide_true, decide_false, decide_eq_true_eq, decide_eq_false_iff_not, if_true, if_false, ite_true, ite_false, reduceCtorEq, ne_eq, Nat.reduceAdd, Nat.reduceSub, Nat.reduceMul, Nat.reduceLT, Nat.reduceLeDiff, Nat.reduceEqDiff, Nat.reduceBEq, Int.reduceToNat, tb, S0]
      refine ret_pure (σ := σ) (Nat.le_refl _) (fin _ hE5) ?_ ?_
      · simp (disch := (first | omega | (simp -implicitDefEqProofs only [nx]; done) | (simp -implicitDefEqProofs only [nx]; omega))) only [only, List.mem_cons, List.not_mem_nil, forall_eq_or_imp, forall_eq, List.contains_cons, List.contains_nil, Nat.reduceBEq, rl_int, rl_bool, AV.rl, AV.rls, ↓sd, su, ofC, ofV, argT, Option.map_some, Option.map_none, lb, nb, Nat.reduceGT, Int.reduceLT, Int.reduceLE, Int.reduceNeg, Int.reduceEq, decide_true, decide_false, decide_eq_true_eq, decide_eq_false_iff_not, if_true, if_false, ite_true, ite_false, reduceCtorEq, ne_eq, Nat.reduceAdd, Nat.reduceSub, Nat.reduceMul, Nat.reduceLT, Nat.reduceLeDiff, Nat.reduceEqDiff, Nat.reduceBEq, Int.reduceToNat]
      · simp (disch := (first | omega | (simp -implicitDefEqProofs only [nx]; done) | (simp -implicitDefEqProofs only [nx]; omega))) only [only, List.mem_cons, List.not_mem_nil, forall_eq_or_imp, forall_eq, List.contains_cons, List.contains_nil, Nat.reduceBEq, rl_int, rl_bool, AV.rl, AV.rls, ↓sd, su, ofC, ofV, argT, Option.map_some, Option.map_none, lb, nb, Nat.reduceGT, Int.reduceLT, Int.reduceLE, Int.reduceNeg, Int.reduceEq, decide_true, decide_false, decide_eq_true_eq, decide_eq_false_iff_not, if_true, if_false, ite_true, ite_false, reduceCtorEq, ne_eq, Nat.reduceAdd, Nat.reduceSub, Nat.reduceMul, Nat.reduceLT, Nat.reduceLeDiff, Nat.reduceEqDiff, Nat.reduceBEq, Int.reduceToNat]
    · simp -dsimp -implicitDefEqProofs (disch := (first | omega | (simp -implicitDefEqProofs only [nx]; done) | (simp -implicitDefEqProofs only [nx]; omega))) only [↓sd, su, ofC, ofV, argT, Option.map_some, Option.map_none, lb, ob, alenX, alenM, alook, amakeMap, aupdate, adelete, abin, aint, acmp, aun, aconv, aloadO, apart, afield, afaddr, aiaddrS, aiaddrA, aindex, aslice, abnd, alenS, amaxmin, amxs, amx, aalloc, abox, abuildSlice, amake, astore, aappend, acopy, asrcO, afill, AV.cellsA, AV.sc, TK.is, TK.agg, mb, nb, Nat.reduceGT, Int.reduceLT, Int.reduceLE, Int.reduceNeg, Int.reduceEq, decide_true, decide_false, decide_eq_true_eq, decide_eq_false_iff_not, if_true, if_false, ite_true, ite_false, reduceCtorEq, ne_eq, Nat.reduceAdd, Nat.reduceSub, Nat.reduceMul, Nat.reduceLT, Nat.reduceLeDiff, Nat.reduceEqDiff, Nat.reduceBEq, Int.reduceToNat, tb, S0, eqA, eqB, eqBoolT, hlen, h150]
      have hil := hA.rl
      have hml := hA.ml
      have hrl := hB.rl
      refine loop_by (AW.loop S0_ok (fun m t σ' => ∃ (k : Nat) (L : Lim) (ib : Nat), m = l.length - k ∧ k ≤ l.length ∧ Ext σ σ' ∧ IA σ' i mp L ∧ RB σ' r ib L ∧ IdOK L ∧ ib ≠ i ∧ ib ≠ mp ∧ σ.next ≤ ib ∧ t 1 = v ∧ t 5 = .ptr i 0 ∧ t 6 = .ptr r 0 ∧ t 7 = .int .i64 (k : Int)) ?_ (m := l.length - 0) ?_)
      · rintro m t σ' ⟨k, L, ib, rfl, hk, hE, hIA, hRB, hid, hib1, hib2, hib3, g1, g5, g6, g7⟩ hle' hwf'
        simp -dsimp -implicitDefEqProofs (disch := (first | omega | (simp -implicitDefEqProofs only [nx]; done) | (simp -implicitDefEqProofs only [nx]; omega))) only [↓sd, su, ofC, ofV, argT, Option.map_some, Option.map_none, lb, ob, alenX, alenM, alook, amakeMap, aupdate, adelete, abin, aint, acmp, aun, aconv, aloadO, apart, afield, afaddr, aiaddrS, aiaddrA, aindex, aslice, abnd, alenS, amaxmin, amxs, amx, aalloc, abox, abuildSlice, amake, astore, aappend, acopy, asrcO, afill, AV.cellsA, AV.sc, TK.is, TK.agg, mb, nb, Nat.reduceGT, Int.reduceLT, Int.reduceLE, Int.reduceNeg, Int.reduceEq, decide_true, decide_false, decide_eq_true_eq, decide_eq_false_iff_not, if_true, if_false, ite_true, ite_false, reduceCtorEq, ne_eq, Nat.reduceAdd, Nat.reduceSub, Nat.reduceMul, Nat.reduceLT, Nat.reduceLeDiff, Nat.reduceEqDiff, Nat.reduceBEq, Int.reduceToNat, tb, g1, g7, hlen]
        refine ACond_dec (fun hlt => ?_) (fun hlt => ?_)
        · have k1 : k < l.length := by omega
          obtain ⟨x, hxk, hxd, hmem, hdr⟩ := slots (l := l) k1
          obtain ⟨q, off, cs, rfl, hql, hqc, hat⟩ := ReqRow.get hv (fun e => by rw [e] at k1; simp at k1)
          obtain ⟨e0, e1⟩ := hat k k1
          rw [hxd] at e0 e1
          have hc0 : σ'.cells q = some cs := by rw [hE.cells hql]; exact hqc
          have hin : (0 : Int) ≤ (k : Int) ∧ (k : Int) < (l.length : Int) := by omega
          have hin0 : (0 : Int) ≤ (k : Int) := by omega
          have hx64 := hI x hmem
          simp -dsimp -implicitDefEqProofs (disch := (first | omega | (simp -implicitDefEqProofs only [nx]; done) | (simp -implicitDefEqProofs only [nx]; omega))) only [↓sd, su, ofC, ofV, argT, Option.map_some, Option.map_none, lb, ob, alenX, alenM, alook, amakeMap, aupdate, adelete, abin, aint, acmp, aun, aconv, aloadO, apart, afield, afaddr, aiaddrS, aiaddrA, aindex, aslice, abnd, alenS, amaxmin, amxs, amx, aalloc, abox, abuildSlice, amake, astore, aappend, acopy, asrcO, afill, AV.cellsA, AV.sc, TK.is, TK.agg, mb, nb, Nat.reduceGT, Int.reduceLT, Int.reduceLE, Int.reduceNeg, Int.reduceEq, decide_true, decide_false, decide_eq_true_eq, decide_eq_false_iff_not, if_true, if_false, ite_true, ite_false, reduceCtorEq, ne_eq, Nat.reduceAdd, Nat.reduceSub, Nat.reduceMul, Nat.reduceLT, Nat.reduceLeDiff, Nat.reduceEqDiff, Nat.reduceBEq, Int.reduceToNat, tb, hlt, g1, g5, g6, g7, hc0, e0, e1, hin0, S0]
          have qi : i ∉ [q, q] := by simp; omega
          have qmp : mp ∉ [q, q] := by simp; omega
          have qr : r ∉ [q, q] := by simp; omega
          have qib : ib ∉ [q, q] := by simp; omega
          refine callh hwf' (ask_calls _ i mp L x.cl x.tm (hIA.hold qi qmp) hid hx64.1.2) ?_
          rintro va τ1 ⟨rfl, hC1, hA1⟩ hw1 _ hle1
          have hC1 := hC1.unhold
          have hA1 := hA1.unhold (H := [q, q]) (σ := σ') qi qmp
          have hid1 : IdOK (askF L x.cl x.tm).2.2 := hid.ask hx64.1.2
          have hB1 : RB (unhold [q, q] σ' τ1) r ib L := hRB.chg hC1 (by simp; omega) (by simp; omega)
          have hEE1 : Ext σ (unhold [q, q] σ' τ1) := hE.chg hC1 (by simp; omega)
          generalize (unhold [q, q] σ' τ1) = σa at *
          have hca : σa.cells q = some cs := by rw [hEE1.cells hql]; exact hqc
          simp -dsimp -implicitDefEqProofs (disch := (first | omega | (simp -implicitDefEqProofs only [nx]; done) | (simp -implicitDefEqProofs only [nx]; omega))) only [↓sd, su, ofC, ofV, argT, Option.map_some, Option.map_none, lb, ob, alenX, alenM, alook, amakeMap, aupdate, adelete, abin, aint, acmp, aun, aconv, aloadO, apart, afield, afaddr, aiaddrS, aiaddrA, aindex, aslice, abnd, alenS, amaxmin, amxs, amx, aalloc, abox, abuildSlice, amake, astore, aappend, acopy, asrcO, afill, AV.cellsA, AV.sc, TK.is, TK.agg, mb, nb, Nat.reduceGT, Int.reduceLT, Int.reduceLE, Int.reduceNeg, Int.reduceEq, decide_true, decide_false, decide_eq_true_eq, decide_eq_false_iff_not, if_true, if_false, ite_true, ite_false, reduceCtorEq, ne_eq, Nat.reduceAdd, Nat.reduceSub, Nat.reduceMul, Nat.reduceLT, Nat.reduceLeDiff, Nat.reduceEqDiff, Nat.reduceBEq, Int.reduceToNat, tb, hlt, g1, g5, g6, g7, hca, e0, e1, hin0, S0]
          refine callh hw1 (refAsk_calls _ r ib L x.cl x.tm (hB1.hold qr qib)) ?_
          rintro vb τ2 ⟨rfl, hC2, ib', hib', hB2⟩ hw2 _ hle2
          have hC2 := hC2.unhold
          have hib'' : ib' ∉ [q, q] ∧ ib' ≠ i ∧ ib' ≠ mp ∧ σ.next ≤ ib' := by
            have hh : σa.next ≤ (unhold [q, q] σa τ2).next := hC2.le
            have h3 := hA1.rl
            have h4 := hA1.ml
            rcases hib' with rfl | rfl | hib'
            · refine ⟨by simp; omega, by omega, by omega, by omega⟩
            · exact ⟨qib, hib1, hib2, hib3⟩
            · have hib' : σa.next ≤ ib' := hib'
              refine ⟨by simp; omega, by omega, by omega, by have := hEE1.le; omega⟩
          have hB2 := hB2.unhold (H := [q, q]) (σ := σa) qr hib''.1
          have hA2 : IA (unhold [q, q] σa τ2) i mp (askF L x.cl x.tm).2.2 := hA1.chg hC2 (by simp; omega) (by simp; omega)
          have hEE2 : Ext σ (unhold [q, q] σa τ2) := hEE1.chg hC2 (by simp; omega)
          generalize (unhold [q, q] σa τ2) = σb at *
          have hcb2 : σb.cells q = some cs := by rw [hEE2.cells hql]; exact hqc
          simp -dsimp -implicitDefEqProofs (disch := (first | omega | (simp -implicitDefEqProofs only [nx]; done) | (simp -implicitDefEqProofs only [nx]; omega))) only [↓sd, su, ofC, ofV, argT, Option.map_some, Option.map_none, lb, ob, alenX, alenM, alook, amakeMap, aupdate, adelete, abin, aint, acmp, aun, aconv, aloadO, apart, afield, afaddr, aiaddrS, aiaddrA, aindex, aslice, abnd, alenS, amaxmin, amxs, amx, aalloc, abox, abuildSlice, amake, astore, aappend, acopy, asrcO, afill, AV.cellsA, AV.sc, TK.is, TK.agg, mb, nb, Nat.reduceGT, Int.reduceLT, Int.reduceLE, Int.reduceNeg, Int.reduceEq, decide_true, decide_false, decide_eq_true_eq, decide_eq_false_iff_not, if_true, if_false, ite_true, ite_false, reduceCtorEq, ne_eq, Nat.reduceAdd, Nat.reduceSub, Nat.reduceMul, Nat.reduceLT, Nat.reduceLeDiff, Nat.reduceEqDiff, Nat.reduceBEq, Int.reduceToNat, tb, hlt, g1, g5, g6, g7, hcb2, e0, e1, hin0, S0]
          refine call_wf (level_calls x.cl σb i mp _ hA2) ?_
          rintro vc σc ⟨rfl, hE3⟩ hw3 _ hle3
          have hEE3 := hEE2.trans hE3
          have hA3 : IA σc i mp (askF L x.cl x.tm).2.2 := hA2.ext
          have hB3 : RB σc r ib' (askF L x.cl x.tm).2.2 := hB2.ext
          have hcc : σc.cells q = some cs := by rw [hEE3.cells hql]; exact hqc
          simp -dsimp -implicitDefEqProofs (disch := (first | omega | (simp -implicitDefEqProofs only [nx]; done) | (simp -implicitDefEqProofs only [nx]; omega))) only [↓sd, su, ofC, ofV, argT, Option.map_some, Option.map_none, lb, ob, alenX, alenM, alook, amakeMap, aupdate, adelete, abin, aint, acmp, aun, aconv, aloadO, apart, afield, afaddr, aiaddrS, aiaddrA, aindex, aslice, abnd, alenS, amaxmin, amxs, amx, aalloc, abox, abuildSlice, amake, astore, aappend, acopy, asrcO, afill, AV.cellsA, AV.sc, TK.is, TK.agg, mb, nb, Nat.reduceGT, Int.reduceLT, Int.reduceLE, Int.reduceNeg, Int.reduceEq, decide_true, decide_false, decide_eq_true_eq, decide_eq_false_iff_not, if_true, if_false, ite_true, ite_false, reduceCtorEq, ne_eq, Nat.reduceAdd, Nat.reduceSub, Nat.reduceMul, Nat.reduceLT, Nat.reduceLeDiff, Nat.reduceEqDiff, Nat.reduceBEq, Int.reduceToNat, tb, hlt, g1, g5, g6, g7, hcc, e0, e1, hin0, S0]
          refine call_by (refLevel_calls x.cl σc r ib' _ hB3) ?_
          rintro vd σd ⟨rfl, rfl⟩
          simp -dsimp -implicitDefEqProofs (disch := (first | omega | (simp -implicitDefEqProofs only [nx]; done) | (simp -implicitDefEqProofs only [nx]; omega))) only [↓sd, su, ofC, ofV, argT, Option.map_some, Option.map_none, lb, ob, alenX, alenM, alook, amakeMap, aupdate, adelete, abin, aint, acmp, aun, aconv, aloadO, apart, afield, afaddr, aiaddrS, aiaddrA, aindex, aslice, abnd, alenS, amaxmin, amxs, amx, aalloc, abox, abuildSlice, amake, astore, aappend, acopy, asrcO, afill, AV.cellsA, AV.sc, TK.is, TK.agg, mb, nb, Nat.reduceGT, Int.reduceLT, Int.reduceLE, Int.reduceNeg, Int.reduceEq, decide_true, decide_false, decide_eq_true_eq, decide_eq_false_iff_not, if_true, if_false, ite_true, ite_false, reduceCtorEq, ne_eq, Nat.reduceAdd, Nat.reduceSub, Nat.reduceMul, Nat.reduceLT, Nat.reduceLeDiff, Nat.reduceEqDiff, Nat.reduceBEq, Int.reduceToNat, tb, g1, g5, g6, g7, S0, eqBoolT]
          refine call_wf (clients_calls σd i mp _ hA3 hid1) ?_
          rintro ve σe ⟨hE4, hO4⟩ hw4 _ hle4
          have hEE4 := hEE3.trans hE4
          have hA4 : IA σe i mp (askF L x.cl x.tm).2.2 := hA3.ext
          have hB4 : RB σe r ib' (askF L x.cl x.tm).2.2 := hB3.ext
          simp -dsimp -implicitDefEqProofs (disch := (first | omega | (simp -implicitDefEqProofs only [nx]; done) | (simp -implicitDefEqProofs only [nx]; omega))) only [↓sd, su, ofC, ofV, argT, Option.map_some, Option.map_none, lb, ob, alenX, alenM, alook, amakeMap, aupdate, adelete, abin, aint, acmp, aun, aconv, aloadO, apart, afield, afaddr, aiaddrS, aiaddrA, aindex, aslice, abnd, alenS, amaxmin, amxs, amx, aalloc, abox, abuildSlice, amake, astore, aappend, acopy, asrcO, afill, AV.cellsA, AV.sc, TK.is, TK.agg, mb, nb, Nat.reduceGT, Int.reduceLT, Int.reduceLE, Int.reduceNeg, Int.reduceEq, decide_true, decide_false, decide_eq_true_eq, decide_eq_false_iff_not, if_true, if_false, ite_true, ite_false, reduceCtorEq, ne_eq, Nat.reduceAdd, Nat.reduceSub, Nat.reduceMul, Nat.reduceLT, Nat.reduceLeDiff, Nat.reduceEqDiff, Nat.reduceBEq, Int.reduceToNat, tb, g1, g5, g6, g7, S0]
          refine call_wf (refClients_calls σe r ib' _ hB4) ?_
          rintro vf σf ⟨hE5', hO5⟩ hw5 _ hle5
          have hEE5 := hEE4.trans hE5'
          have hA5 : IA σf i mp (askF L x.cl x.tm).2.2 := hA4.ext
          have hB5 : RB σf r ib' (askF L x.cl x.tm).2.2 := hB4.ext
          have hO4' := hO4.ext (σ' := σf)
          simp -dsimp -implicitDefEqProofs (disch := (first | omega | (simp -implicitDefEqProofs only [nx]; done) | (simp -implicitDefEqProofs only [nx]; omega))) only [↓sd, su, ofC, ofV, argT, Option.map_some, Option.map_none, lb, ob, alenX, alenM, alook, amakeMap, aupdate, adelete, abin, aint, acmp, aun, aconv, aloadO, apart, afield, afaddr, aiaddrS, aiaddrA, aindex, aslice, abnd, alenS, amaxmin, amxs, amx, aalloc, abox, abuildSlice, amake, astore, aappend, acopy, asrcO, afill, AV.cellsA, AV.sc, TK.is, TK.agg, mb, nb, Nat.reduceGT, Int.reduceLT, Int.reduceLE, Int.reduceNeg, Int.reduceEq, decide_true, decide_false, decide_eq_true_eq, decide_eq_false_iff_not, if_true, if_false, ite_true, ite_false, reduceCtorEq, ne_eq, Nat.reduceAdd, Nat.reduceSub, Nat.reduceMul, Nat.reduceLT, Nat.reduceLeDiff, Nat.reduceEqDiff, Nat.reduceBEq, Int.reduceToNat, tb, S0]
          have hlid : (idsF (askF L x.cl x.tm).2.2).length < 1000000000000000 := by
            have := hA5.ok.l64
            simp [idsF]; omega
          refine call_by (same_calls _ _ _ _ _ hlid hO4'.row hO5.row) ?_
          rintro vg σg ⟨rfl, rfl⟩
          simp -dsimp -implicitDefEqProofs (disch := (first | omega | (simp -implicitDefEqProofs only [nx]; done) | (simp -implicitDefEqProofs only [nx]; omega))) only [↓sd, su, ofC, ofV, argT, Option.map_some, Option.map_none, lb, ob, alenX, alenM, alook, amakeMap, aupdate, adelete, abin, aint, acmp, aun, aconv, aloadO, apart, afield, afaddr, aiaddrS, aiaddrA, aindex, aslice, abnd, alenS, amaxmin, amxs, amx, aalloc, abox, abuildSlice, amake, astore, aappend, acopy, asrcO, afill, AV.cellsA, AV.sc, TK.is, TK.agg, mb, nb, Nat.reduceGT, Int.reduceLT, Int.reduceLE, Int.reduceNeg, Int.reduceEq, decide_true, decide_false, decide_eq_true_eq, decide_eq_false_iff_not, if_true, if_false, ite_true, ite_false, reduceCtorEq, ne_eq, Nat.reduceAdd, Nat.reduceSub, Nat.reduceMul, Nat.reduceLT, Nat.reduceLeDiff, Nat.reduceEqDiff, Nat.reduceBEq, Int.reduceToNat, tb, g1, g5, g6, g7, S0, w64]
          refine again_by [1, 5, 6, 7] σg (l.length - (k + 1)) (by omega) hEE5.le (Sub.refl hw5) ?_ ?_
          · simp (disch := (first | omega | (simp -implicitDefEqProofs only [nx]; done) | (simp -implicitDefEqProofs only [nx]; omega))) only [only, List.mem_cons, List.not_mem_nil, forall_eq_or_imp, forall_eq, List.contains_cons, List.contains_nil, Nat.reduceBEq, rl_int, rl_bool, AV.rl, AV.rls, ↓sd, su, ofC, ofV, argT, Option.map_some, Option.map_none, lb, nb, Nat.reduceGT, Int.reduceLT, Int.reduceLE, Int.reduceNeg, Int.reduceEq, decide_true, decide_false, decide_eq_true_eq, decide_eq_false_iff_not, if_true, if_false, ite_true, ite_false, reduceCtorEq, ne_eq, Nat.reduceAdd, Nat.reduceSub, Nat.reduceMul, Nat.reduceLT, Nat.reduceLeDiff, Nat.reduceEqDiff, Nat.reduceBEq, Int.reduceToNat, g1, g5, g6, g7]
            have h3 := hA5.rl
            have h4 := hB5.rl
            have h5 := hEE5.le
            refine ⟨?_, ?_, ?_⟩ <;> first | omega | (simp only [decide_eq_true_eq]; omega)
          · refine ⟨k + 1, _, ib', rfl, by omega, hEE5, hA5, hB5, hid1, hib''.2.1, hib''.2.2.1, hib''.2.2.2, ?_, ?_, ?_, ?_⟩
            · simp (disch := (first | omega | (simp -implicitDefEqProofs only [nx]; done) | (simp -implicitDefEqProofs only [nx]; omega))) only [only, List.mem_cons, List.not_mem_nil, forall_eq_or_imp, forall_eq, List.contains_cons, List.contains_nil, Nat.reduceBEq, rl_int, rl_bool, AV.rl, AV.rls, ↓sd, su, ofC, ofV, argT, Option.map_some, Option.map_none, lb, nb, Nat.reduceGT, Int.reduceLT, Int.reduceLE, Int.reduceNeg, Int.reduceEq, decide_true, decide_false, decide_eq_true_eq, decide_eq_false_iff_not, if_true, if_false, ite_true, ite_false, reduceCtorEq, ne_eq, Nat.reduceAdd, Nat.reduceSub, Nat.reduceMul, Nat.reduceLT, Nat.reduceLeDiff, Nat.reduceEqDiff, Nat.reduceBEq, Int.reduceToNat, g1]
            · simp (disch := (first | omega | (simp -implicitDefEqProofs only [nx]; done) | (simp -implicitDefEqProofs only [nx]; omega))) only [only, List.mem_cons, List.not_mem_nil, forall_eq_or_imp, forall_eq, List.contains_cons, List.contains_nil, Nat.reduceBEq, rl_int, rl_bool, AV.rl, AV.rls, ↓sd, su, ofC, ofV, argT, Option.map_some, Option.map_none, lb, nb, Nat.reduceGT, Int.reduceLT, Int.reduceLE, Int.reduceNeg, Int.reduceEq, decide_true, decide_false, decide_eq_true_eq, decide_eq_false_iff_not, if_true, if_false, ite_true, ite_false, reduceCtorEq, ne_eq, Nat.reduceAdd, Nat.reduceSub, Nat.reduceMul, Nat.reduceLT, Nat.reduceLeDiff, Nat.reduceEqDiff, Nat.reduceBEq, Int.reduceToNat, g5]
            · simp (disch := (first | omega | (simp -implicitDefEqProofs only [nx]; done) | (simp -implicitDefEqProofs only [nx]; omega))) only [only, List.mem_cons, List.not_mem_nil, forall_eq_or_imp, forall_eq, List.contains_cons, List.contains_nil, Nat.reduceBEq, rl_int, rl_bool, AV.rl, AV.rls, ↓sd, su, ofC, ofV, argT, Option.map_some, Option.map_none, lb, nb, Nat.reduceGT, Int.reduceLT, Int.reduceLE, Int.reduceNeg, Int.reduceEq, decide_true, decide_false, decide_eq_true_eq, decide_eq_false_iff_not, if_true, if_false, ite_true, ite_false, reduceCtorEq, ne_eq, Nat.reduceAdd, Nat.reduceSub, Nat.reduceMul, Nat.reduceLT, Nat.reduceLeDiff, Nat.reduceEqDiff, Nat.reduceBEq, Int.reduceToNat, g6]
            · simp (disch := (first | omega | (simp -implicitDefEqProofs only [nx]; done) | (simp -implicitDefEqProofs only [nx]; omega))) only [only, List.mem_cons, List.not_mem_nil, forall_eq_or_imp, forall_eq, List.contains_cons, List.contains_nil, Nat.reduceBEq, rl_int, rl_bool, AV.rl, AV.rls, ↓sd, su, ofC, ofV, argT, Option.map_some, Option.map_none, lb, nb, Nat.reduceGT, Int.reduceLT, Int.reduceLE, Int.reduceNeg, Int.reduceEq, decide_true, decide_false, decide_eq_true_eq, decide_eq_false_iff_not, if_true, if_false, ite_true, ite_false, reduceCtorEq, ne_eq, Nat.reduceAdd, Nat.reduceSub, Nat.reduceMul, Nat.reduceLT, Nat.reduceLeDiff, Nat.reduceEqDiff, Nat.reduceBEq, Int.reduceToNat, g7, Int.natCast_add]
        · simp -dsimp -implicitDefEqProofs (disch := (first | omega | (simp -implicitDefEqProofs only [nx]; done) | (simp -implicitDefEqProofs only [nx]; omega))) only [↓sd, su, ofC, ofV, argT, Option.map_some, Option.map_none, lb, ob, alenX, alenM, alook, amakeMap, aupdate, adelete, abin, aint, acmp, aun, aconv, aloadO, apart, afield, afaddr, aiaddrS, aiaddrA, aindex, aslice, abnd, alenS, amaxmin, amxs, amx, aalloc, abox, abuildSlice, amake, astore, aappend, acopy, asrcO, afill, AV.cellsA, AV.sc, TK.is, TK.agg, mb, nb, Nat.reduceGT, Int.reduceLT, Int.reduceLE, Int.reduceNeg, Int.reduceEq, decide_true, decide_false, decide_eq_true_eq, decide_eq_false_iff_not, if_true, if_false, ite_true, ite_false, reduceCtorEq, ne_eq, Nat.reduceAdd, Nat.reduceSub, Nat.reduceMul, Nat.reduceLT, Nat.reduceLeDiff, Nat.reduceEqDiff, Nat.reduceBEq, Int.reduceToNat, tb, hlt, S0]
          refine call_wf (awake_calls σ') ?_
          rintro r2 σ6 ⟨rfl, rfl⟩ _ _ _
          simp -dsimp -implicitDefEqProofs (disch := (first | omega | (simp -implicitDefEqProofs only [nx]; done) | (simp -implicitDefEqProofs only [nx]; omega))) only [↓sd, su, ofC, ofV, argT, Option.map_some, Option.map_none, lb, ob, alenX, alenM, alook, amakeMap, aupdate, adelete, abin, aint, acmp, aun, aconv, aloadO, apart, afield, afaddr, aiaddrS, aiaddrA, aindex, aslice, abnd, alenS, amaxmin, amxs, amx, aalloc, abox, abuildSlice, amake, astore, aappend, acopy, asrcO, afill, AV.cellsA, AV.sc, TK.is, TK.agg, mb, nb, Nat.reduceGT, Int.reduceLT, Int.reduceLE, Int.reduceNeg, Int.reduceEq, decide_true, decide_false, decide_eq_true_eq, decide_eq_false_iff_not, if_true, if_false, ite_true, ite_false, reduceCtorEq, ne_eq, Nat.reduceAdd, Nat.reduceSub, Nat.reduceMul, Nat.reduceLT, Nat.reduceLeDiff, Nat.reduceEqDiff, Nat.reduceBEq, Int.reduceToNat, tb, S0]
          refine ret_pure (σ := σ) (Nat.le_refl _) (fin _ hE) ?_ ?_
          · simp (disch := (first | omega | (simp -implicitDefEqProofs only [nx]; done) | (simp -implicitDefEqProofs only [nx]; omega))) only [only, List.mem_cons, List.not_mem_nil, forall_eq_or_imp, forall_eq, List.contains_cons, List.contains_nil, Nat.reduceBEq, rl_int, rl_bool, AV.rl, AV.rls, ↓sd, su, ofC, ofV, argT, Option.map_some, Option.map_none, lb, nb, Nat.reduceGT, Int.reduceLT, Int.reduceLE, Int.reduceNeg, Int.reduceEq, decide_true, decide_false, decide_eq_true_eq, decide_eq_false_iff_not, if_true, if_false, ite_true, ite_false, reduceCtorEq, ne_eq, Nat.reduceAdd, Nat.reduceSub, Nat.reduceMul, Nat.reduceLT, Nat.reduceLeDiff, Nat.reduceEqDiff, Nat.reduceBEq, Int.reduceToNat]
          · simp (disch := (first | omega | (simp -implicitDefEqProofs only [nx]; done) | (simp -implicitDefEqProofs only [nx]; omega))) only [only, List.mem_cons, List.not_mem_nil, forall_eq_or_imp, forall_eq, List.contains_cons, List.contains_nil, Nat.reduceBEq, rl_int, rl_bool, AV.rl, AV.rls, ↓sd, su, ofC, ofV, argT, Option.map_some, Option.map_none, lb, nb, Nat.reduceGT, Int.reduceLT, Int.reduceLE, Int.reduceNeg, Int.reduceEq, decide_true, decide_false, decide_eq_true_eq, decide_eq_false_iff_not, if_true, if_false, ite_true, ite_false, reduceCtorEq, ne_eq, Nat.reduceAdd, Nat.reduceSub, Nat.reduceMul, Nat.reduceLT, Nat.reduceLeDiff, Nat.reduceEqDiff, Nat.reduceBEq, Int.reduceToNat]
      · refine ⟨0, lim0 c, r, rfl, Nat.zero_le _, hE5, hA, hB, (fun _ h => by cases h), by omega, by omega, by omega, ?_, ?_, ?_, ?_⟩
        all_goals (simp -dsimp -implicitDefEqProofs (disch := (first | omega | (simp -implicitDefEqProofs only [nx]; done) | (simp -implicitDefEqProofs only [nx]; omega))) only [↓sd, su, ofC, ofV, argT, Option.map_some, Option.map_none, lb, ob, alenX, alenM, alook, amakeMap, aupdate, adelete, abin, aint, acmp, aun, aconv, aloadO, apart, afield, afaddr, aiaddrS, aiaddrA, aindex, aslice, abnd, alenS, amaxmin, amxs, amx, aalloc, abox, abuildSlice, amake, astore, aappend, acopy, asrcO, afill, AV.cellsA, AV.sc, TK.is, TK.agg, mb, nb, Nat.reduceGT, Int.reduceLT, Int.reduceLE, Int.reduceNeg, Int.reduceEq, decide_true, decide_false, decide_eq_true_eq, decide_eq_false_iff_not, if_true, if_false, ite_true, ite_false, reduceCtorEq, ne_eq, Nat.reduceAdd, Nat.reduceSub, Nat.reduceMul, Nat.reduceLT, Nat.reduceLeDiff, Nat.reduceEqDiff, Nat.reduceBEq, Int.reduceToNat, tb] <;> rfl)
theorem asksLaw (c : Conf) (_ : c.I64) (v : AV) (l : List Req) {σ : AHeap} (hll : l.length < 1000000000000000) (hv : ReqRow σ v l) (hI : ∀ x ∈ l, x.I64) :
    ACalls Try.prog 4 [.agg [.int .i64 c.cap, .int .i64 c.gap, .int .i64 c.cost, .int .i64 c.burst, .int .i64 c.kiss], v] σ (fun r _ => r = .bool true) := (asks_calls c v l σ hll hv hI).mono fun _ _ h => h.1
end Go.Proofs.Ythiaegigndlnpaa.A
