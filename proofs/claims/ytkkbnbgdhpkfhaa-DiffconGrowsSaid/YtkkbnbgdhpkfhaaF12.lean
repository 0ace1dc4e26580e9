/- The examples of the chapter: awake. Conditions: none. -/
import Derived.Test.YtkkbnbgdhpkfhaaF7
import Derived.Test.YtkkbnbgdhpkfhaaF8
import Derived.Test.YtkkbnbgdhpkfhaaF10
import Derived.Test.YtkkbnbgdhpkfhaaF11
set_option linter.unusedVariables false
set_option linter.unusedSimpArgs false
namespace Go.Proofs.Ytkkbnbgdhpkfhaa.A
open Go Go.RowKit

def L1 : List Con := [⟨0, 1, 5⟩, ⟨1, 2, -2⟩]
def L2 : List Con := [⟨0, 1, 1⟩, ⟨1, 0, -2⟩]
theorem aw_bounds : boundsF 3 L1 = ([[0, 5, 3], [NONE, 0, -2], [NONE, NONE, 0]], 0) := by decide +kernel
theorem aw_solve : solF 3 L1 = (some [0, 0, -2], 0) := by decide +kernel
theorem aw_tight : tightF 3 L1 1 2 = (some [0, 0, -2], 0) := by decide +kernel
theorem aw_check2 : checkF 2 L2 = 0 := by decide +kernel
theorem aw_s2 : solveF 2 L2 = ⟨[-4, -2], [1, 0], 0⟩ := by decide +kernel
theorem aw_h1 : holdsF L1 [0, 0, -2] = true := by decide +kernel
theorem aw_h2 : holdsF L1 [] = false := by decide +kernel
theorem aw_cyc : CycOK L2 (solveF 2 L2).fr 2 (solveF 2 L2).last 2 where
  pos := by omega
  inn := fun k hk => by
    have : ∀ k : Fin 5, (0 ≤ backN L2 (solveF 2 L2).fr k (solveF 2 L2).last ∧ backN L2 (solveF 2 L2).fr k (solveF 2 L2).last < ((2 : Nat) : Int)) ∧ 0 ≤ frAt (solveF 2 L2).fr (backN L2 (solveF 2 L2).fr k (solveF 2 L2).last) ∧ frAt (solveF 2 L2).fr (backN L2 (solveF 2 L2).fr k (solveF 2 L2).last) < (L2.length : Int) := by decide +kernel
    exact this ⟨k, by omega⟩
  met := by decide +kernel
  not := fun j h1 h2 => by
    have : j = 1 := by omega
    subst this; decide +kernel
theorem aw_res {p : List Int} {ok : Bool} (h : CycRes 2 L2 p ok) : ok = true ∧ ∃ x y, p = [x, y] ∧ x + y = 1 := by
  cases h with
  | bad h => exact absurd aw_check2 h
  | none h h2 => rw [show (2 : Int).toNat = 2 from rfl, aw_s2] at h2; exact absurd h2 (by decide)
  | some h L h2 hc =>
    have e : L = 2 := by
      rcases Nat.lt_trichotomy L 2 with h | h | h
      · have : L = 1 := by have := hc.pos; omega
        subst this
        exact absurd hc.met (by decide +kernel)
      · exact h
      · exact absurd (aw_cyc.met) (hc.not 2 (by omega) h)
    subst e
    refine ⟨rfl, _, _, (by decide +kernel : _ = [(0 : Int), 1]), by decide⟩
theorem ConRow.of_own {σ : AHeap} {i : Nat} {l : List Con} (hi : i < σ.next) (h : σ.get i = .own 3 (l.flatMap Con.enc)) : ConRow σ (.slice i 0 l.length) l := by
  have hlen := flatMap_length Con.enc_len l
  refine .row i 0 _ _ _ hi (cells_of_own h) (fits_of_own h) (by omega) ?_
  rw [List.drop_zero, List.take_of_length_le (by omega)]
theorem build40 (a b c : Int) : abuild Try.prog 40 [(0, .int .i64 a), (1, .int .i64 b), (2, .int .i64 c)] = some (.agg [.int .i64 a, .int .i64 b, .int .i64 c]) := by
  simp [abuild, tk40, ze40, sz3, afill, AV.cellsA, AV.sc]
theorem OptRow.row {σ0 σ : AHeap} {r : AV} {x : List Int} (h : OptRow σ0 σ r (some x)) : IntRow σ r x := by
  obtain ⟨i, rfl, _, h2, h3⟩ := h
  exact IntRow.of_own h2 h3
theorem awake_calls (σ : AHeap) : ACalls Try.prog 12 [] σ (fun r σ' => r = .bool true ∧ σ' = σ) := by
  refine acalls_of S0_ok k12 (by simp) (fun hwf hrl => ?_)
  unfold c12
  simp -dsimp -implicitDefEqProofs (disch := (first | omega | (simp -implicitDefEqProofs only [nx]; done) | (simp -implicitDefEqProofs only [nx]; omega))) only [↓sd, su, ofC, ofV, argT, Option.map_some, Option.map_none, lb, ob, abin, aint, acmp, aun, aconv, aloadO, apart, afield, afaddr, aiaddrS, aiaddrA, aindex, aslice, abnd, alenS, amaxmin, amxs, amx, aalloc, abox, abuildSlice, amake, astore, aappend, acopy, asrcO, afill, AV.cellsA, AV.sc, TK.is, TK.agg, mb, nb, Nat.reduceGT, Int.reduceLT, Int.reduceLE, Int.reduceNeg, Int.reduceEq, decide_true, decide_false, decide_eq_true_eq, decide_eq_false_iff_not, if_true, if_false, ite_true, ite_false, reduceCtorEq, ne_eq, Nat.reduceAdd, Nat.reduceSub, Nat.reduceMul, Nat.reduceLT, Nat.reduceLeDiff, Nat.reduceEqDiff, Nat.reduceBEq, Int.reduceToNat, tb, S0, build40]
  have w1 : (σ.alloc (.own 3 (L1.flatMap Con.enc))).WF := WF.alloc hwf rfl
  have r1 : (σ.alloc (.own 3 (L1.flatMap Con.enc))).get σ.next = .own 3 (L1.flatMap Con.enc) := get_alloc_self rfl
  have e1 : Ext σ (σ.alloc (.own 3 (L1.flatMap Con.enc))) := inferInstance
  change ACK _ _ _ (σ.alloc (.own 3 (L1.flatMap Con.enc))) _ _
  have n1 : (σ.alloc (.own 3 (L1.flatMap Con.enc))).next = σ.next + 1 := rfl
  generalize σ.alloc (.own 3 (L1.flatMap Con.enc)) = σ1 at *
  have hv1 : ConRow σ1 (.slice σ.next 0 2) L1 := ConRow.of_own (by omega) r1
  refine call_wf (bounds_calls 3 _ L1 σ1 hv1) ?_
  rw [aw_bounds]
  rintro r σ2 ⟨am, rfl, e2, hm⟩ w2 _ n2
  have hv2 : ConRow σ2 (.slice σ.next 0 2) L1 := hv1.ext
  simp -dsimp -implicitDefEqProofs (disch := (first | omega | (simp -implicitDefEqProofs only [nx]; done) | (simp -implicitDefEqProofs only [nx]; omega))) only [↓sd, su, ofC, ofV, argT, Option.map_some, Option.map_none, lb, ob, abin, aint, acmp, aun, aconv, aloadO, apart, afield, afaddr, aiaddrS, aiaddrA, aindex, aslice, abnd, alenS, amaxmin, amxs, amx, aalloc, abox, abuildSlice, amake, astore, aappend, acopy, asrcO, afill, AV.cellsA, AV.sc, TK.is, TK.agg, mb, nb, Nat.reduceGT, Int.reduceLT, Int.reduceLE, Int.reduceNeg, Int.reduceEq, decide_true, decide_false, decide_eq_true_eq, decide_eq_false_iff_not, if_true, if_false, ite_true, ite_false, reduceCtorEq, ne_eq, Nat.reduceAdd, Nat.reduceSub, Nat.reduceMul, Nat.reduceLT, Nat.reduceLeDiff, Nat.reduceEqDiff, Nat.reduceBEq, Int.reduceToNat, tb, S0]
  refine call_wf (solve51_calls 3 _ L1 σ2 hv2) ?_
  rw [aw_solve]
  rintro r σ3 ⟨ax, rfl, e3, hx⟩ w3 _ n3
  have hv3 : ConRow σ3 (.slice σ.next 0 2) L1 := hv2.ext
  simp -dsimp -implicitDefEqProofs (disch := (first | omega | (simp -implicitDefEqProofs only [nx]; done) | (simp -implicitDefEqProofs only [nx]; omega))) only [↓sd, su, ofC, ofV, argT, Option.map_some, Option.map_none, lb, ob, abin, aint, acmp, aun, aconv, aloadO, apart, afield, afaddr, aiaddrS, aiaddrA, aindex, aslice, abnd, alenS, amaxmin, amxs, amx, aalloc, abox, abuildSlice, amake, astore, aappend, acopy, asrcO, afill, AV.cellsA, AV.sc, TK.is, TK.agg, mb, nb, Nat.reduceGT, Int.reduceLT, Int.reduceLE, Int.reduceNeg, Int.reduceEq, decide_true, decide_false, decide_eq_true_eq, decide_eq_false_iff_not, if_true, if_false, ite_true, ite_false, reduceCtorEq, ne_eq, Nat.reduceAdd, Nat.reduceSub, Nat.reduceMul, Nat.reduceLT, Nat.reduceLeDiff, Nat.reduceEqDiff, Nat.reduceBEq, Int.reduceToNat, tb, S0]
  refine call_wf (tight_calls 3 _ L1 1 2 σ3 hv3) ?_
  rw [aw_tight]
  rintro r σ4 ⟨ay, rfl, e4, hy⟩ w4 _ n4
  have hv4 : ConRow σ4 (.slice σ.next 0 2) L1 := hv3.ext
  simp -dsimp -implicitDefEqProofs (disch := (first | omega | (simp -implicitDefEqProofs only [nx]; done) | (simp -implicitDefEqProofs only [nx]; omega))) only [↓sd, su, ofC, ofV, argT, Option.map_some, Option.map_none, lb, ob, abin, aint, acmp, aun, aconv, aloadO, apart, afield, afaddr, aiaddrS, aiaddrA, aindex, aslice, abnd, alenS, amaxmin, amxs, amx, aalloc, abox, abuildSlice, amake, astore, aappend, acopy, asrcO, afill, AV.cellsA, AV.sc, TK.is, TK.agg, mb, nb, Nat.reduceGT, Int.reduceLT, Int.reduceLE, Int.reduceNeg, Int.reduceEq, decide_true, decide_false, decide_eq_true_eq, decide_eq_false_iff_not, if_true, if_false, ite_true, ite_false, reduceCtorEq, ne_eq, Nat.reduceAdd, Nat.reduceSub, Nat.reduceMul, Nat.reduceLT, Nat.reduceLeDiff, Nat.reduceEqDiff, Nat.reduceBEq, Int.reduceToNat, tb, S0, build40]
  have w5 : (σ4.alloc (.own 3 (L2.flatMap Con.enc))).WF := WF.alloc w4 rfl
  have r5 : (σ4.alloc (.own 3 (L2.flatMap Con.enc))).get σ4.next = .own 3 (L2.flatMap Con.enc) := get_alloc_self rfl
  have e5 : Ext σ4 (σ4.alloc (.own 3 (L2.flatMap Con.enc))) := inferInstance
  change ACK _ _ _ (σ4.alloc (.own 3 (L2.flatMap Con.enc))) _ _
  have n5 : (σ4.alloc (.own 3 (L2.flatMap Con.enc))).next = σ4.next + 1 := rfl
  generalize σ4.alloc (.own 3 (L2.flatMap Con.enc)) = σ5 at *
  have hv5 : ConRow σ5 (.slice σ4.next 0 2) L2 := ConRow.of_own (by omega) r5
  refine call_wf (cycle_calls 2 _ L2 σ5 hv5 (fun _ _ => ⟨2, aw_cyc⟩)) ?_
  rintro r σ6 ⟨ap, p, ok, rfl, hres, e6, hp⟩ w6 _ n6
  obtain ⟨rfl, px, py, rfl, hpxy⟩ := aw_res hres
  have hpr := hp.row
  have hplen := hpr.len (P := Try.prog) tk32
  simp -dsimp -implicitDefEqProofs (disch := (first | omega | (simp -implicitDefEqProofs only [nx]; done) | (simp -implicitDefEqProofs only [nx]; omega))) only [↓sd, su, ofC, ofV, argT, Option.map_some, Option.map_none, lb, ob, abin, aint, acmp, aun, aconv, aloadO, apart, afield, afaddr, aiaddrS, aiaddrA, aindex, aslice, abnd, alenS, amaxmin, amxs, amx, aalloc, abox, abuildSlice, amake, astore, aappend, acopy, asrcO, afill, AV.cellsA, AV.sc, TK.is, TK.agg, mb, nb, Nat.reduceGT, Int.reduceLT, Int.reduceLE, Int.reduceNeg, Int.reduceEq, decide_true, decide_false, decide_eq_true_eq, decide_eq_false_iff_not, if_true, if_false, ite_true, ite_false, reduceCtorEq, ne_eq, Nat.reduceAdd, Nat.reduceSub, Nat.reduceMul, Nat.reduceLT, Nat.reduceLeDiff, Nat.reduceEqDiff, Nat.reduceBEq, Int.reduceToNat, tb, S0, hplen]
  have hmat : ∀ H : AHeap, H = ((((σ6.alloc (.own 1 [.int .i64 0, .int .i64 5, .int .i64 3])).alloc (.own 1 [.int .i64 4611686018427387904, .int .i64 0, .int .i64 (-2)])).alloc (.own 1 [.int .i64 4611686018427387904, .int .i64 4611686018427387904, .int .i64 0])).alloc (.own 1 [.slice σ6.next 0 3, .slice (σ6.next + 1) 0 3, .slice (σ6.next + 1 + 1) 0 3])) →
      Mat H (.slice (σ6.next + 1 + 1 + 1) 0 3) [[0, 5, 3], [NONE, 0, -2], [NONE, NONE, 0]] ∧ Ext σ6 H ∧ H.WF ∧ H.next = σ6.next + 4 := by
    rintro H rfl
    have q0 : ∀ o1 o2 o3 o4, ((((σ6.alloc o1).alloc o2).alloc o3).alloc o4).get σ6.next = o1 ∧ ((((σ6.alloc o1).alloc o2).alloc o3).alloc o4).get (σ6.next + 1) = o2 ∧ ((((σ6.alloc o1).alloc o2).alloc o3).alloc o4).get (σ6.next + 1 + 1) = o3 ∧ ((((σ6.alloc o1).alloc o2).alloc o3).alloc o4).get (σ6.next + 1 + 1 + 1) = o4 := fun o1 o2 o3 o4 => by
      refine ⟨?_, ?_, ?_, ?_⟩
      · rw [get_alloc_ne (by simp only [AHeap.next_alloc]; omega), get_alloc_ne (by simp only [AHeap.next_alloc]; omega), get_alloc_ne (by simp only [AHeap.next_alloc]; omega)]; exact get_alloc_self rfl
      · rw [get_alloc_ne (by simp only [AHeap.next_alloc]; omega), get_alloc_ne (by simp only [AHeap.next_alloc]; omega)]; exact get_alloc_self rfl
      · rw [get_alloc_ne (by simp only [AHeap.next_alloc]; omega)]; exact get_alloc_self rfl
      · exact get_alloc_self rfl
    obtain ⟨g1, g2, g3, g4⟩ := q0 (.own 1 [.int .i64 0, .int .i64 5, .int .i64 3]) (.own 1 [.int .i64 4611686018427387904, .int .i64 0, .int .i64 (-2)]) (.own 1 [.int .i64 4611686018427387904, .int .i64 4611686018427387904, .int .i64 0]) (.own 1 [.slice σ6.next 0 3, .slice (σ6.next + 1) 0 3, .slice (σ6.next + 1 + 1) 0 3])
    refine ⟨⟨_, rfl, .row _ 0 3 _ _ (by simp only [AHeap.next_alloc]; omega) (cells_of_own g4) (fits_of_own g4) (by simp) rfl, fun k hk => ?_⟩, inferInstance, ?_, by simp only [AHeap.next_alloc]⟩
    · have hk' : k = 0 ∨ k = 1 ∨ k = 2 := by simp at hk; omega
      rcases hk' with rfl | rfl | rfl
      · exact IntRow.of_own (l := [0, 5, 3]) (by simp only [AHeap.next_alloc]; omega) g1
      · exact IntRow.of_own (l := [NONE, 0, -2]) (by simp only [AHeap.next_alloc]; omega) g2
      · exact IntRow.of_own (l := [NONE, NONE, 0]) (by simp only [AHeap.next_alloc]; omega) g3
    · refine WF.alloc (WF.alloc (WF.alloc (WF.alloc w6 rfl) rfl) rfl) ?_
      simp only [AObj.rl, AV.rls, AV.rl, AHeap.next_alloc, Bool.and_eq_true, decide_eq_true_eq]
      refine ⟨decide_eq_true (by omega), decide_eq_true (by omega), decide_eq_true (by omega), trivial⟩
  generalize hH : ((((σ6.alloc (.own 1 [.int .i64 0, .int .i64 5, .int .i64 3])).alloc (.own 1 [.int .i64 4611686018427387904, .int .i64 0, .int .i64 (-2)])).alloc (.own 1 [.int .i64 4611686018427387904, .int .i64 4611686018427387904, .int .i64 0])).alloc (.own 1 [.slice σ6.next 0 3, .slice (σ6.next + 1) 0 3, .slice (σ6.next + 1 + 1) 0 3])) = H at *
  obtain ⟨hM, eH, wH, nH⟩ := hmat H rfl
  have hm6 : Mat H am [[0, 5, 3], [NONE, 0, -2], [NONE, NONE, 0]] := (((((hm.ext (σ' := σ3)).ext (σ' := σ4)).ext (σ' := σ5)).ext (σ' := σ6)).ext (σ' := H)).mat
  have hx6 : IntRow H ax [0, 0, -2] := (((hx.row.ext (σ' := σ4)).ext (σ' := σ5)).ext (σ' := σ6)).ext (σ' := H)
  have hy6 : IntRow H ay [0, 0, -2] := ((hy.row.ext (σ' := σ5)).ext (σ' := σ6)).ext (σ' := H)
  have hp6 : IntRow H ap [px, py] := hpr.ext
  have hv6 : ConRow H (.slice σ.next 0 2) L1 := ((hv4.ext (σ' := σ5)).ext (σ' := σ6)).ext
  refine call_wf (same_calls _ _ _ _ H (by simp) (by simp) hm6 hM) ?_
  rintro r σ7 ⟨rfl, rfl⟩ w7 _ _
  simp -dsimp -implicitDefEqProofs (disch := (first | omega | (simp -implicitDefEqProofs only [nx]; done) | (simp -implicitDefEqProofs only [nx]; omega))) only [↓sd, su, ofC, ofV, argT, Option.map_some, Option.map_none, lb, ob, abin, aint, acmp, aun, aconv, aloadO, apart, afield, afaddr, aiaddrS, aiaddrA, aindex, aslice, abnd, alenS, amaxmin, amxs, amx, aalloc, abox, abuildSlice, amake, astore, aappend, acopy, asrcO, afill, AV.cellsA, AV.sc, TK.is, TK.agg, mb, nb, Nat.reduceGT, Int.reduceLT, Int.reduceLE, Int.reduceNeg, Int.reduceEq, decide_true, decide_false, decide_eq_true_eq, decide_eq_false_iff_not, if_true, if_false, ite_true, ite_false, reduceCtorEq, ne_eq, Nat.reduceAdd, Nat.reduceSub, Nat.reduceMul, Nat.reduceLT, Nat.reduceLeDiff, Nat.reduceEqDiff, Nat.reduceBEq, Int.reduceToNat, tb, S0]
  have hc1 : IntRow (σ7.alloc (.own 1 [.int .i64 0, .int .i64 0, .int .i64 (-2)])) (.slice σ7.next 0 3) [0, 0, -2] := IntRow.of_own (l := [0, 0, -2]) (by simp only [AHeap.next_alloc]; omega) (get_alloc_self rfl)
  refine call_wf (equal_calls _ _ _ _ _ (by simp) hx6.ext hc1) ?_
  rintro r σ8 ⟨rfl, h8⟩ w8 _ n8
  have e8 : Ext σ7 σ8 := by subst h8; exact inferInstance
  have hy8 : IntRow σ8 ay [0, 0, -2] := hy6.ext
  simp -dsimp -implicitDefEqProofs (disch := (first | omega | (simp -implicitDefEqProofs only [nx]; done) | (simp -implicitDefEqProofs only [nx]; omega))) only [↓sd, su, ofC, ofV, argT, Option.map_some, Option.map_none, lb, ob, abin, aint, acmp, aun, aconv, aloadO, apart, afield, afaddr, aiaddrS, aiaddrA, aindex, aslice, abnd, alenS, amaxmin, amxs, amx, aalloc, abox, abuildSlice, amake, astore, aappend, acopy, asrcO, afill, AV.cellsA, AV.sc, TK.is, TK.agg, mb, nb, Nat.reduceGT, Int.reduceLT, Int.reduceLE, Int.reduceNeg, Int.reduceEq, decide_true, decide_false, decide_eq_true_eq, decide_eq_false_iff_not, if_true, if_false, ite_true, ite_false, reduceCtorEq, ne_eq, Nat.reduceAdd, Nat.reduceSub, Nat.reduceMul, Nat.reduceLT, Nat.reduceLeDiff, Nat.reduceEqDiff, Nat.reduceBEq, Int.reduceToNat, tb, S0]
  have hc2 : IntRow (σ8.alloc (.own 1 [.int .i64 0, .int .i64 0, .int .i64 (-2)])) (.slice σ8.next 0 3) [0, 0, -2] := IntRow.of_own (l := [0, 0, -2]) (by simp only [AHeap.next_alloc]; omega) (get_alloc_self rfl)
  refine call_wf (equal_calls _ _ _ _ _ (by simp) hy8.ext hc2) ?_
  rintro r σ9 ⟨rfl, h9⟩ w9 _ n9
  have e9 : Ext σ8 σ9 := by subst h9; exact inferInstance
  have hp9 : IntRow σ9 ap [px, py] := (hp6.ext (σ' := σ8)).ext
  have hx9 : IntRow σ9 ax [0, 0, -2] := (hx6.ext (σ' := σ8)).ext
  have hv9 : ConRow σ9 (.slice σ.next 0 2) L1 := (hv6.ext (σ' := σ8)).ext
  have a0 : aiaddr Try.prog 32 ap (.int .i64 0) = some (rowPtr ap 0 1) := hp9.iaddr tk32 sz3 0 (by simp)
  have a1 : aiaddr Try.prog 32 ap (.int .i64 1) = some (rowPtr ap 1 1) := hp9.iaddr tk32 sz3 1 (by simp)
  have l0 : aload Try.prog 3 (rowPtr ap 0 1) σ9 = some (.int .i64 px) := IntRow.load hp9 (by rw [tk3]; rfl) (by rw [tk3]; rfl) 0 (by simp)
  have l1 : aload Try.prog 3 (rowPtr ap 1 1) σ9 = some (.int .i64 py) := IntRow.load hp9 (by rw [tk3]; rfl) (by rw [tk3]; rfl) 1 (by simp)
  simp -dsimp -implicitDefEqProofs (disch := (first | omega | (simp -implicitDefEqProofs only [nx]; done) | (simp -implicitDefEqProofs only [nx]; omega))) only [↓sd, su, ofC, ofV, argT, Option.map_some, Option.map_none, lb, ob, abin, aint, acmp, aun, aconv, aloadO, apart, afield, afaddr, aiaddrS, aiaddrA, aindex, aslice, abnd, alenS, amaxmin, amxs, amx, aalloc, abox, abuildSlice, amake, astore, aappend, acopy, asrcO, afill, AV.cellsA, AV.sc, TK.is, TK.agg, mb, nb, Nat.reduceGT, Int.reduceLT, Int.reduceLE, Int.reduceNeg, Int.reduceEq, decide_true, decide_false, decide_eq_true_eq, decide_eq_false_iff_not, if_true, if_false, ite_true, ite_false, reduceCtorEq, ne_eq, Nat.reduceAdd, Nat.reduceSub, Nat.reduceMul, Nat.reduceLT, Nat.reduceLeDiff, Nat.reduceEqDiff, Nat.reduceBEq, Int.reduceToNat, tb, S0, hplen, a0, a1, l0, l1, hpxy, w64]
  constructor
  all_goals
    refine call_wf (holds_calls _ _ L1 _ σ9 (by decide) (by decide) hv9 hx9) ?_
    rw [aw_h1]
    rintro r σ10 ⟨rfl, rfl⟩ w10 _ n10
    simp -dsimp -implicitDefEqProofs (disch := (first | omega | (simp -implicitDefEqProofs only [nx]; done) | (simp -implicitDefEqProofs only [nx]; omega))) only [↓sd, su, ofC, ofV, argT, Option.map_some, Option.map_none, lb, ob, abin, aint, acmp, aun, aconv, aloadO, apart, afield, afaddr, aiaddrS, aiaddrA, aindex, aslice, abnd, alenS, amaxmin, amxs, amx, aalloc, abox, abuildSlice, amake, astore, aappend, acopy, asrcO, afill, AV.cellsA, AV.sc, TK.is, TK.agg, mb, nb, Nat.reduceGT, Int.reduceLT, Int.reduceLE, Int.reduceNeg, Int.reduceEq, decide_true, decide_false, decide_eq_true_eq, decide_eq_false_iff_not, if_true, if_false, ite_true, ite_false, reduceCtorEq, ne_eq, Nat.reduceAdd, Nat.reduceSub, Nat.reduceMul, Nat.reduceLT, Nat.reduceLeDiff, Nat.reduceEqDiff, Nat.reduceBEq, Int.reduceToNat, tb, S0]
    refine call_wf (holds_calls _ _ L1 [] σ10 (by decide) (by decide) hv9 .nils) ?_
    rw [aw_h2]
    rintro r σ11 ⟨rfl, rfl⟩ w11 _ n11
    simp -dsimp -implicitDefEqProofs (disch := (first | omega | (simp -implicitDefEqProofs only [nx]; done) | (simp -implicitDefEqProofs only [nx]; omega))) only [↓sd, su, ofC, ofV, argT, Option.map_some, Option.map_none, lb, ob, abin, aint, acmp, aun, aconv, aloadO, apart, afield, afaddr, aiaddrS, aiaddrA, aindex, aslice, abnd, alenS, amaxmin, amxs, amx, aalloc, abox, abuildSlice, amake, astore, aappend, acopy, asrcO, afill, AV.cellsA, AV.sc, TK.is, TK.agg, mb, nb, Nat.reduceGT, Int.reduceLT, Int.reduceLE, Int.reduceNeg, Int.reduceEq, decide_true, decide_false, decide_eq_true_eq, decide_eq_false_iff_not, if_true, if_false, ite_true, ite_false, reduceCtorEq, ne_eq, Nat.reduceAdd, Nat.reduceSub, Nat.reduceMul, Nat.reduceLT, Nat.reduceLeDiff, Nat.reduceEqDiff, Nat.reduceBEq, Int.reduceToNat, tb, S0]
    refine ret_pure (σ := σ) (Nat.le_refl _) ?_ ?_ ?_
    · have hE := (((((((e1.trans e2).trans e3).trans e4).trans e5).trans e6).trans eH).trans e8).trans e9
      exact ⟨hE.le, fun i hi => .inr (hE.same i hi).symm, hwf⟩
    · simp (disch := (first | omega | (simp -implicitDefEqProofs only [nx]; done) | (simp -implicitDefEqProofs only [nx]; omega))) only [only, List.mem_cons, List.not_mem_nil, forall_eq_or_imp, forall_eq, List.contains_cons, List.contains_nil, Nat.reduceBEq, rl_int, rl_bool, AV.rl, AV.rls, ↓sd, su, ofC, ofV, argT, Option.map_some, Option.map_none, lb, nb, Nat.reduceGT, Int.reduceLT, Int.reduceLE, Int.reduceNeg, Int.reduceEq, decide_true, decide_false, decide_eq_true_eq, decide_eq_false_iff_not, if_true, if_false, ite_true, ite_false, reduceCtorEq, ne_eq, Nat.reduceAdd, Nat.reduceSub, Nat.reduceMul, Nat.reduceLT, Nat.reduceLeDiff, Nat.reduceEqDiff, Nat.reduceBEq, Int.reduceToNat]
    · simp (disch := (first | omega | (simp -implicitDefEqProofs only [nx]; done) | (simp -implicitDefEqProofs only [nx]; omega))) only [only, List.mem_cons, List.not_mem_nil, forall_eq_or_imp, forall_eq, List.contains_cons, List.contains_nil, Nat.reduceBEq, rl_int, rl_bool, AV.rl, AV.rls, ↓sd, su, ofC, ofV, argT, Option.map_some, Option.map_none, lb, nb, Nat.reduceGT, Int.reduceLT, Int.reduceLE, Int.reduceNeg, Int.reduceEq, decide_true, decide_false, decide_eq_true_eq, decide_eq_false_iff_not, if_true, if_false, ite_true, ite_false, reduceCtorEq, ne_eq, Nat.reduceAdd, Nat.reduceSub, Nat.reduceMul, Nat.reduceLT, Nat.reduceLeDiff, Nat.reduceEqDiff, Nat.reduceBEq, Int.reduceToNat]
end Go.Proofs.Ytkkbnbgdhpkfhaa.A
