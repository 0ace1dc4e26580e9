/- The specification's forget and insert. Conditions: none. -/
import Derived.Test.YthiaegigndlnpaaG7
set_option linter.unusedVariables false
set_option linter.unusedSimpArgs false
namespace Go.Proofs.Ythiaegigndlnpaa.A
open Go Go.RowKit

theorem enc_sc (l : List Cli) : (l.flatMap Cli.enc).all AV.sc = true := by
  rw [List.all_eq_true]
  intro x hx
  obtain ⟨c, _, hc⟩ := List.mem_flatMap.1 hx
  simp [Cli.enc] at hc
  rcases hc with rfl | rfl | rfl | rfl | rfl <;> rfl
theorem enc_len5 (l : List Cli) : (l.flatMap Cli.enc).length = l.length * 5 := flatMap_length Cli.enc_len l
theorem enc_take (l : List Cli) (k : Nat) : (l.flatMap Cli.enc).take (k * 5) = (l.take k).flatMap Cli.enc := by
  by_cases h : k ≤ l.length
  · have := flatMap_drop_take Cli.enc_len l 0 k (by omega)
    simpa using this
  · rw [List.take_of_length_le (by rw [enc_len5]; omega), List.take_of_length_le (by omega)]
theorem enc_drop (l : List Cli) (k : Nat) : (l.flatMap Cli.enc).drop (k * 5) = (l.drop k).flatMap Cli.enc := by
  by_cases h : k ≤ l.length
  · have := flatMap_drop_take Cli.enc_len l k (l.length - k) (by omega)
    rw [List.take_of_length_le (by rw [List.length_drop, enc_len5, Nat.sub_mul]; omega)] at this
    rw [List.take_of_length_le (by simp)] at this
    exact this
  · rw [List.drop_eq_nil_of_le (by rw [enc_len5]; omega), List.drop_eq_nil_of_le (by omega)]; rfl
/-- What a slice hands to append. -/
def Src (σ : AHeap) (v : AV) (l : List Cli) : Prop := asrc σ 5 v = some (l.length, l.flatMap Cli.enc)
/-- A slice of rows of the call's own, that grows. -/
inductive FC (σ0 σ : AHeap) : AV → List Cli → Prop where
  | nil : FC σ0 σ .slice0 []
  | mk (q : Nat) (x : List Cli) (hq : σ0.next ≤ q ∧ q < σ.next) (ho : σ.get q = .own 5 (x.flatMap Cli.enc)) : FC σ0 σ (.slice q 0 x.length) x
theorem FC.push {σ0 σ : AHeap} {v u : AV} {x y : List Cli} (h0 : σ0.next ≤ σ.next) (h : FC σ0 σ v x) (hs : Src σ u y) (hl : x.length + y.length ≤ 1000) (hwf : σ.WF) :
    ∃ v' σ3, aappend Try.prog 50 v u σ = some (v', σ3) ∧ FC σ0 σ3 v' (x ++ y) ∧ σ3.WF ∧ σ.next ≤ σ3.next ∧ (∀ j, j < σ0.next → σ3.get j = σ.get j) ∧
      (∀ τ : AHeap, τ.next = σ.next → Src τ u y → (∀ q, σ0.next ≤ q → τ.get q = σ.get q) → ∃ τ3, aappend Try.prog 50 v u τ = some (v', τ3)) := by
  unfold Src at hs
  cases h with
  | nil =>
    by_cases hy : y = []
    · subst hy
      refine ⟨.slice0, σ, ?_, .nil, hwf, Nat.le_refl _, fun _ _ => rfl, fun τ _ hτ _ => ⟨τ, ?_⟩⟩
      · simp [aappend, tk50, sz59, by59, ze59, hs]
      · unfold Src at hτ; simp [aappend, tk50, sz59, by59, ze59, hτ]
    · have hy0 : y.length ≠ 0 := fun q => hy (List.eq_nil_of_length_eq_zero q)
      refine ⟨.slice σ.next 0 y.length, σ.alloc (.own 5 (y.flatMap Cli.enc)), ?_, ?_, WF.alloc hwf (encs_rl _ _ _), (by first | omega | (simp only [AHeap.next_alloc, AHeap.next_set]; omega) | (simp only [AHeap.next_alloc, AHeap.next_set] at *; omega)), fun j hj => ?_, fun τ hn hτ _ => ⟨τ.alloc (.own 5 (y.flatMap Cli.enc)), ?_⟩⟩
      · simp [aappend, tk50, sz59, by59, ze59, hs]
        rw [if_neg hy, if_pos (by omega)]
      · rw [List.nil_append]
        exact .mk σ.next y ⟨h0, (by first | omega | (simp only [AHeap.next_alloc, AHeap.next_set]; omega) | (simp only [AHeap.next_alloc, AHeap.next_set] at *; omega))⟩ (get_alloc_self rfl)
      · exact get_alloc_ne (by omega)
      · unfold Src at hτ
        simp [aappend, tk50, sz59, by59, ze59, hτ]
        rw [if_neg hy, if_pos (by omega), hn]
  | mk q x hq ho =>
    refine ⟨.slice σ.next 0 (x.length + y.length), (σ.set q .dead).alloc (.own 5 ((x ++ y).flatMap Cli.enc)), ?_, ?_, WF.alloc (WF.set hwf q rl_dead) (encs_rl _ _ _), (by first | omega | (simp only [AHeap.next_alloc, AHeap.next_set]; omega) | (simp only [AHeap.next_alloc, AHeap.next_set] at *; omega)), fun j hj => ?_, fun τ hn hτ hsame => ⟨(τ.set q .dead).alloc (.own 5 ((x ++ y).flatMap Cli.enc)), ?_⟩⟩
    · simp only [aappend, tk50, sz59, by59, ze59, hs, ho]
      simp [enc_len5, -List.length_flatMap]
      refine ⟨by omega, ?_⟩
      rw [List.take_of_length_le (by rw [enc_len5]; omega)]
    · have e : (x ++ y).length = x.length + y.length := by simp
      rw [← e]
      exact .mk σ.next _ ⟨h0, (by first | omega | (simp only [AHeap.next_alloc, AHeap.next_set]; omega) | (simp only [AHeap.next_alloc, AHeap.next_set] at *; omega))⟩ (get_alloc_self rfl)
    · rw [get_alloc_ne (by simp only [AHeap.next_set]; omega), get_set_ne (by omega)]
    · unfold Src at hτ
      simp only [aappend, tk50, sz59, by59, ze59, hτ, hsame q hq.1, ho]
      simp [enc_len5, hn, -List.length_flatMap]
      refine ⟨by omega, ?_⟩
      rw [List.take_of_length_le (by rw [enc_len5]; omega)]
theorem FC.own {σ0 σ : AHeap} {v : AV} {x : List Cli} (h : FC σ0 σ v x) : v.rl σ.next = true ∧ v.sc = true := by
  cases h with
  | nil => exact ⟨rfl, rfl⟩
  | mk q x hq ho => exact ⟨by simp [AV.rl]; omega, rfl⟩
theorem Src.of_get {σ τ : AHeap} {u : AV} {y : List Cli} (h : Src σ u y) (hu : ∀ i off n, u = .slice i off n → τ.get i = σ.get i) : Src τ u y := by
  unfold Src at *
  rw [← h]
  cases u <;> try rfl
  rename_i i off n
  have e1 : τ.cells i = σ.cells i := by unfold AHeap.cells; rw [hu i off n rfl]
  have e2 : τ.fits i 5 = σ.fits i 5 := by unfold AHeap.fits; rw [hu i off n rfl]
  simp only [asrc, e1, e2]
theorem src_slice {σ : AHeap} {i : Nat} {l : List Cli} (h : σ.get i = .own 5 (l.flatMap Cli.enc)) {a b : Nat} (ha : a ≤ b) (hb : b ≤ l.length) : Src σ (.slice i (a * 5) (b - a)) ((l.drop a).take (b - a)) := by
  unfold Src asrc
  have e : ((l.flatMap Cli.enc).drop (a * 5)).take ((b - a) * 5) = ((l.drop a).take (b - a)).flatMap Cli.enc := by rw [enc_drop, enc_take]
  have hlen : ((l.drop a).take (b - a)).length = b - a := by simp; omega
  simp only [cells_of_own h, fits_of_own h, e, enc_sc, hlen]
  rw [if_pos]
  refine ⟨?_, trivial, trivial⟩
  rw [enc_len5, Nat.sub_mul]
  have : a * 5 ≤ b * 5 := Nat.mul_le_mul_right _ ha
  omega
theorem refForget_calls (σ : AHeap) (r i : Nat) (L : Lim) (h : RB σ r i L) (hne : L.cl ≠ []) : ACalls Try.prog 25 [.ptr r 0] σ (fun v σ' => Chg [r] σ σ' ∧ ∃ i', (i' = r ∨ σ.next ≤ i') ∧ RB σ' r i' { L with cl := forC L.cl }) := by
  refine acalls_of S0_ok k25 (by simp) (fun hwf hrl => ?_)
  unfold c25
  have hrow0 := h.row
  obtain ⟨sl, hg, hx⟩ := h.ex
  have hr := h.rl
  rcases hx with ⟨_, q, _⟩ | ⟨rfl, hi, hir, hio⟩
  · exact absurd q hne
  have hc := cells_of_own hg
  have hrow : CliRow σ (.slice i 0 L.cl.length) L.cl := by
    obtain ⟨sl2, h1, _, h3⟩ := hrow0
    rw [hg] at h1
    simp [rowV, Conf.enc] at h1
    rw [← h1] at h3
    exact h3
  have hl64 := h.ok.l64
  have hlen := hrow.len (P := Try.prog) tk50
  obtain ⟨c, l, hcl⟩ := List.exists_cons_of_ne_nil hne
  have hcn : L.cl.length = l.length + 1 := by rw [hcl]; rfl
  simp -dsimp -implicitDefEqProofs (disch := (first | omega | (simp -implicitDefEqProofs only [nx]; done) | (simp -implicitDefEqProofs only [nx]; omega))) only [↓sd, su, ofC, ofV, argT, Option.map_some, Option.map_none, lb, ob, alenX, alenM, alook, amakeMap, aupdate, adelete, abin, aint, acmp, aun, aconv, aloadO, apart, afield, afaddr, aiaddrS, aiaddrA, aindex, aslice, abnd, alenS, amaxmin, amxs, amx, aalloc, abox, abuildSlice, amake, astore, aappend, acopy, asrcO, afill, AV.cellsA, AV.sc, TK.is, TK.agg, mb, nb, Nat.reduceGT, Int.reduceLT, Int.reduceLE, Int.reduceNeg, Int.reduceEq, decide_true, decide_false, decide_eq_true_eq, decide_eq_false_iff_not, if_true, if_false, ite_true, ite_false, reduceCtorEq, ne_eq, Nat.reduceAdd, Nat.reduceSub, Nat.reduceMul, Nat.reduceLT, Nat.reduceLeDiff, Nat.reduceEqDiff, Nat.reduceBEq, Int.reduceToNat, tb, S0]
  refine loop_by (AW.loop S0_ok (fun m t σ' => ∃ (j k : Nat), m = l.length - j ∧ j ≤ l.length ∧ k ≤ j ∧ σ' = σ ∧ t 0 = .ptr r 0 ∧ t 2 = .int .i64 (k : Int) ∧ t 3 = .int .i64 ((j : Int) + 1) ∧ L.cl[k]? = some (minC c (l.take j))) ?_ (m := l.length - 0) ?_)
  · rintro m t σ' ⟨j, k, rfl, hj, hkj, rfl, h0, h2, h3, hk⟩ _ _
    simp -dsimp -implicitDefEqProofs (disch := (first | omega | (simp -implicitDefEqProofs only [nx]; done) | (simp -implicitDefEqProofs only [nx]; omega))) only [↓sd, su, ofC, ofV, argT, List.getD_cons_zero, List.getD_cons_succ, List.getElem?_cons_zero, List.getElem?_cons_succ, List.map_cons, List.map_nil, List.nil_append, List.cons_append, List.append_nil, Option.map_some, Option.map_none, ob, alenX, alenM, alook, amakeMap, aupdate, adelete, abin, aint, acmp, aun, aconv, aloadO, apart, afield, aiaddrS, aiaddrA, aindex, aslice, abnd, alenS, amaxmin, amxs, amx, aalloc, abox, abuildSlice, amake, astore, aappend, acopy, asrcO, afill, AV.cellsA, AV.sc, TK.is, TK.agg, List.length_cons, List.length_nil, List.all_cons, List.all_nil, mb, beq_self_eq_true, List.length_set, Int.zero_sub, List.set_cons_zero, List.set_cons_succ, List.take_zero, List.drop_zero, List.take_succ_cons, List.drop_succ_cons, or_false, false_or, or_true, true_or, or_self, gt_iff_lt, ge_iff_le, Nat.lt_irrefl, Nat.reduceGT, Int.reduceLT, Int.reduceLE, Int.reduceNeg, Int.reduceEq, Nat.not_lt_zero, List.replicate_succ, List.replicate_zero, List.flatten_cons, List.flatten_nil, List.length_replicate, Nat.le_refl, Nat.sub_zero, cast0, cast1, Int.cast_ofNat_Int, Int.toNat_natCast, Bool.not_not, Bool.true_and, Bool.and_true, Bool.false_and, Bool.and_false, Bool.or_true, Bool.true_or, Bool.or_false, Bool.false_or, decide_true, decide_false, Bool.not_true, Bool.not_false, beq_iff_eq, Bool.not_eq_true', decide_eq_true_eq, decide_eq_false_iff_not, if_true, if_false, ite_true, ite_false, reduceCtorEq, Bool.false_eq_true, ne_eq, not_false_eq_true, not_true_eq_false, true_and, and_true, and_self, false_and, and_false, Nat.reduceAdd, Nat.reduceSub, Nat.reduceMul, Nat.reduceLT, Nat.reduceLeDiff, Nat.reduceEqDiff, Nat.reduceBEq, Int.reduceToNat, Nat.add_zero, Nat.zero_add, Nat.mul_one, Nat.one_mul, tb, h0, h3, hc, hlen, rowV, Conf.enc, fa1]
    refine ACond_dec (fun hlt => ?_) (fun hlt => ?_)
    · have j1 : j < l.length := by omega
      obtain ⟨x, hxk, hxd, hmem, hdr⟩ := slots (l := l) j1
      obtain ⟨ad, _, ⟨f1, g1⟩, _⟩ := hrow.fld (j + 1) (by omega)
      obtain ⟨ad2, _, ⟨f2, g2⟩, _⟩ := hrow.fld k (by omega)
      have ex : L.cl.getD (j + 1) default = x := by rw [hcl, List.getD_eq_getElem?_getD, List.getElem?_cons_succ, hxk]; rfl
      have ek : L.cl.getD k default = minC c (l.take j) := by rw [List.getD_eq_getElem?_getD, hk]; rfl
      rw [ex] at g1
      rw [ek] at g2
      have ad : aiaddr Try.prog 50 (.slice i 0 L.cl.length) (.int .i64 ((j : Int) + 1)) = some (rowPtr (.slice i 0 L.cl.length) (j + 1) 5) := by simpa using ad
      have esn : minC c (l.take (j + 1)) = if x.last < (minC c (l.take j)).last then x else minC c (l.take j) := by
        rw [List.take_add_one, hxk]; exact minC_snoc x _ _
      simp -dsimp -implicitDefEqProofs (disch := (first | omega | (simp -implicitDefEqProofs only [nx]; done) | (simp -implicitDefEqProofs only [nx]; omega))) only [↓sd, su, ofC, ofV, argT, List.getD_cons_zero, List.getD_cons_succ, List.getElem?_cons_zero, List.getElem?_cons_succ, List.map_cons, List.map_nil, List.nil_append, List.cons_append, List.append_nil, Option.map_some, Option.map_none, ob, alenX, alenM, alook, amakeMap, aupdate, adelete, abin, aint, acmp, aun, aconv, aloadO, apart, afield, aiaddrS, aiaddrA, aindex, aslice, abnd, alenS, amaxmin, amxs, amx, aalloc, abox, abuildSlice, amake, astore, aappend, acopy, asrcO, afill, AV.cellsA, AV.sc, TK.is, TK.agg, List.length_cons, List.length_nil, List.all_cons, List.all_nil, mb, beq_self_eq_true, List.length_set, Int.zero_sub, List.set_cons_zero, List.set_cons_succ, List.take_zero, List.drop_zero, List.take_succ_cons, List.drop_succ_cons, or_false, false_or, or_true, true_or, or_self, gt_iff_lt, ge_iff_le, Nat.lt_irrefl, Nat.reduceGT, Int.reduceLT, Int.reduceLE, Int.reduceNeg, Int.reduceEq, Nat.not_lt_zero, List.replicate_succ, List.replicate_zero, List.flatten_cons, List.flatten_nil, List.length_replicate, Nat.le_refl, Nat.sub_zero, cast0, cast1, Int.cast_ofNat_Int, Int.toNat_natCast, Bool.not_not, Bool.true_and, Bool.and_true, Bool.false_and, Bool.and_false, Bool.or_true, Bool.true_or, Bool.or_false, Bool.false_or, decide_true, decide_false, Bool.not_true, Bool.not_false, beq_iff_eq, Bool.not_eq_true', decide_eq_true_eq, decide_eq_false_iff_not, if_true, if_false, ite_true, ite_false, reduceCtorEq, Bool.false_eq_true, ne_eq, not_false_eq_true, not_true_eq_false, true_and, and_true, and_self, false_and, and_false, Nat.reduceAdd, Nat.reduceSub, Nat.reduceMul, Nat.reduceLT, Nat.reduceLeDiff, Nat.reduceEqDiff, Nat.reduceBEq, Int.reduceToNat, Nat.add_zero, Nat.zero_add, Nat.mul_one, Nat.one_mul, tb, hlt, h0, h2, h3, hc, ad, f1, g1, ad2, f2, g2, rowV, Conf.enc, fa1]
      refine ACond_dec (fun hp => ?_) (fun hp => ?_)
      · simp -dsimp -implicitDefEqProofs (disch := (first | omega | (simp -implicitDefEqProofs only [nx]; done) | (simp -implicitDefEqProofs only [nx]; omega))) only [↓sd, su, ofC, ofV, argT, Option.map_some, Option.map_none, lb, ob, alenX, alenM, alook, amakeMap, aupdate, adelete, abin, aint, acmp, aun, aconv, aloadO, apart, afield, afaddr, aiaddrS, aiaddrA, aindex, aslice, abnd, alenS, amaxmin, amxs, amx, aalloc, abox, abuildSlice, amake, astore, aappend, acopy, asrcO, afill, AV.cellsA, AV.sc, TK.is, TK.agg, mb, nb, Nat.reduceGT, Int.reduceLT, Int.reduceLE, Int.reduceNeg, Int.reduceEq, decide_true, decide_false, decide_eq_true_eq, decide_eq_false_iff_not, if_true, if_false, ite_true, ite_false, reduceCtorEq, ne_eq, Nat.reduceAdd, Nat.reduceSub, Nat.reduceMul, Nat.reduceLT, Nat.reduceLeDiff, Nat.reduceEqDiff, Nat.reduceBEq, Int.reduceToNat, tb, h0, h2, h3, w64]
        refine again_by [0, 2, 3] σ' (l.length - (j + 1)) (by omega) (Nat.le_refl _) (by repeat (first | exact Sub.refl ‹_› | refine Sub.alloc ?_ _ | refine Sub.set ?_ (by (try simp only [AHeap.next_alloc, AHeap.next_set]); omega) _)) ?_ ?_
        · simp (disch := (first | omega | (simp -implicitDefEqProofs only [nx]; done) | (simp -implicitDefEqProofs only [nx]; omega))) only [only, List.mem_cons, List.not_mem_nil, forall_eq_or_imp, forall_eq, List.contains_cons, List.contains_nil, Nat.reduceBEq, rl_int, rl_bool, AV.rl, AV.rls, ↓sd, su, ofC, ofV, argT, Option.map_some, Option.map_none, lb, nb, Nat.reduceGT, Int.reduceLT, Int.reduceLE, Int.reduceNeg, Int.reduceEq, decide_true, decide_false, decide_eq_true_eq, decide_eq_false_iff_not, if_true, if_false, ite_true, ite_false, reduceCtorEq, ne_eq, Nat.reduceAdd, Nat.reduceSub, Nat.reduceMul, Nat.reduceLT, Nat.reduceLeDiff, Nat.reduceEqDiff, Nat.reduceBEq, Int.reduceToNat, h0, h2, h3]
          exact hr
        · refine ⟨j + 1, j + 1, rfl, by omega, by omega, rfl, ?_, ?_, ?_, ?_⟩
          · simp (disch := (first | omega | (simp -implicitDefEqProofs only [nx]; done) | (simp -implicitDefEqProofs only [nx]; omega))) only [only, List.mem_cons, List.not_mem_nil, forall_eq_or_imp, forall_eq, List.contains_cons, List.contains_nil, Nat.reduceBEq, rl_int, rl_bool, AV.rl, AV.rls, ↓sd, su, ofC, ofV, argT, Option.map_some, Option.map_none, lb, nb, Nat.reduceGT, Int.reduceLT, Int.reduceLE, Int.reduceNeg, Int.reduceEq, decide_true, decide_false, decide_eq_true_eq, decide_eq_false_iff_not, if_true, if_false, ite_true, ite_false, reduceCtorEq, ne_eq, Nat.reduceAdd, Nat.reduceSub, Nat.reduceMul, Nat.reduceLT, Nat.reduceLeDiff, Nat.reduceEqDiff, Nat.reduceBEq, Int.reduceToNat, h0]
          · simp (disch := (first | omega | (simp -implicitDefEqProofs only [nx]; done) | (simp -implicitDefEqProofs only [nx]; omega))) only [only, List.mem_cons, List.not_mem_nil, forall_eq_or_imp, forall_eq, List.contains_cons, List.contains_nil, Nat.reduceBEq, rl_int, rl_bool, AV.rl, AV.rls, ↓sd, su, ofC, ofV, argT, Option.map_some, Option.map_none, lb, nb, Nat.reduceGT, Int.reduceLT, Int.reduceLE, Int.reduceNeg, Int.reduceEq, decide_true, decide_false, decide_eq_true_eq, decide_eq_false_iff_not, if_true, if_false, ite_true, ite_false, reduceCtorEq, ne_eq, Nat.reduceAdd, Nat.reduceSub, Nat.reduceMul, Nat.reduceLT, Nat.reduceLeDiff, Nat.reduceEqDiff, Nat.reduceBEq, Int.reduceToNat, h2, Int.natCast_add]
          · simp (disch := (first | omega | (simp -implicitDefEqProofs only [nx]; done) | (simp -implicitDefEqProofs only [nx]; omega))) only [only, List.mem_cons, List.not_mem_nil, forall_eq_or_imp, forall_eq, List.contains_cons, List.contains_nil, Nat.reduceBEq, rl_int, rl_bool, AV.rl, AV.rls, ↓sd, su, ofC, ofV, argT, Option.map_some, Option.map_none, lb, nb, Nat.reduceGT, Int.reduceLT, Int.reduceLE, Int.reduceNeg, Int.reduceEq, decide_true, decide_false, decide_eq_true_eq, decide_eq_false_iff_not, if_true, if_false, ite_true, ite_false, reduceCtorEq, ne_eq, Nat.reduceAdd, Nat.reduceSub, Nat.reduceMul, Nat.reduceLT, Nat.reduceLeDiff, Nat.reduceEqDiff, Nat.reduceBEq, Int.reduceToNat, h3, Int.natCast_add]
          · rw [esn, if_pos hp, hcl, List.getElem?_cons_succ, hxk]
      · simp -dsimp -implicitDefEqProofs (disch := (first | omega | (simp -implicitDefEqProofs only [nx]; done) | (simp -implicitDefEqProofs only [nx]; omega))) only [↓sd, su, ofC, ofV, argT, Option.map_some, Option.map_none, lb, ob, alenX, alenM, alook, amakeMap, aupdate, adelete, abin, aint, acmp, aun, aconv, aloadO, apart, afield, afaddr, aiaddrS, aiaddrA, aindex, aslice, abnd, alenS, amaxmin, amxs, amx, aalloc, abox, abuildSlice, amake, astore, aappend, acopy, asrcO, afill, AV.cellsA, AV.sc, TK.is, TK.agg, mb, nb, Nat.reduceGT, Int.reduceLT, Int.reduceLE, Int.reduceNeg, Int.reduceEq, decide_true, decide_false, decide_eq_true_eq, decide_eq_false_iff_not, if_true, if_false, ite_true, ite_false, reduceCtorEq, ne_eq, Nat.reduceAdd, Nat.reduceSub, Nat.reduceMul, Nat.reduceLT, Nat.reduceLeDiff, Nat.reduceEqDiff, Nat.reduceBEq, Int.reduceToNat, tb, h0, h2, h3, w64]
        refine again_by [0, 2, 3] σ' (l.length - (j + 1)) (by omega) (Nat.le_refl _) (by repeat (first | exact Sub.refl ‹_› | refine Sub.alloc ?_ _ | refine Sub.set ?_ (by (try simp only [AHeap.next_alloc, AHeap.next_set]); omega) _)) ?_ ?_
        · simp (disch := (first | omega | (simp -implicitDefEqProofs only [nx]; done) | (simp -implicitDefEqProofs only [nx]; omega))) only [only, List.mem_cons, List.not_mem_nil, forall_eq_or_imp, forall_eq, List.contains_cons, List.contains_nil, Nat.reduceBEq, rl_int, rl_bool, AV.rl, AV.rls, ↓sd, su, ofC, ofV, argT, Option.map_some, Option.map_none, lb, nb, Nat.reduceGT, Int.reduceLT, Int.reduceLE, Int.reduceNeg, Int.reduceEq, decide_true, decide_false, decide_eq_true_eq, decide_eq_false_iff_not, if_true, if_false, ite_true, ite_false, reduceCtorEq, ne_eq, Nat.reduceAdd, Nat.reduceSub, Nat.reduceMul, Nat.reduceLT, Nat.reduceLeDiff, Nat.reduceEqDiff, Nat.reduceBEq, Int.reduceToNat, h0, h2, h3]
          exact hr
        · refine ⟨j + 1, k, rfl, by omega, by omega, rfl, ?_, ?_, ?_, ?_⟩
          · simp (disch := (first | omega | (simp -implicitDefEqProofs only [nx]; done) | (simp -implicitDefEqProofs only [nx]; omega))) only [only, List.mem_cons, List.not_mem_nil, forall_eq_or_imp, forall_eq, List.contains_cons, List.contains_nil, Nat.reduceBEq, rl_int, rl_bool, AV.rl, AV.rls, ↓sd, su, ofC, ofV, argT, Option.map_some, Option.map_none, lb, nb, Nat.reduceGT, Int.reduceLT, Int.reduceLE, Int.reduceNeg, Int.reduceEq, decide_true, decide_false, decide_eq_true_eq, decide_eq_false_iff_not, if_true, if_false, ite_true, ite_false, reduceCtorEq, ne_eq, Nat.reduceAdd, Nat.reduceSub, Nat.reduceMul, Nat.reduceLT, Nat.reduceLeDiff, Nat.reduceEqDiff, Nat.reduceBEq, Int.reduceToNat, h0]
          · simp (disch := (first | omega | (simp -implicitDefEqProofs only [nx]; done) | (simp -implicitDefEqProofs only [nx]; omega))) only [only, List.mem_cons, List.not_mem_nil, forall_eq_or_imp, forall_eq, List.contains_cons, List.contains_nil, Nat.reduceBEq, rl_int, rl_bool, AV.rl, AV.rls, ↓sd, su, ofC, ofV, argT, Option.map_some, Option.map_none, lb, nb, Nat.reduceGT, Int.reduceLT, Int.reduceLE, Int.reduceNeg, Int.reduceEq, decide_true, decide_false, decide_eq_true_eq, decide_eq_false_iff_not, if_true, if_false, ite_true, ite_false, reduceCtorEq, ne_eq, Nat.reduceAdd, Nat.reduceSub, Nat.reduceMul, Nat.reduceLT, Nat.reduceLeDiff, Nat.reduceEqDiff, Nat.reduceBEq, Int.reduceToNat, h2]
          · simp (disch := (first | omega | (simp -implicitDefEqProofs only [nx]; done) | (simp -implicitDefEqProofs only [nx]; omega))) only [only, List.mem_cons, List.not_mem_nil, forall_eq_or_imp, forall_eq, List.contains_cons, List.contains_nil, Nat.reduceBEq, rl_int, rl_bool, AV.rl, AV.rls, ↓sd, su, ofC, ofV, argT, Option.map_some, Option.map_none, lb, nb, Nat.reduceGT, Int.reduceLT, Int.reduceLE, Int.reduceNeg, Int.reduceEq, decide_true, decide_false, decide_eq_true_eq, decide_eq_false_iff_not, if_true, if_false, ite_true, ite_false, reduceCtorEq, ne_eq, Nat.reduceAdd, Nat.reduceSub, Nat.reduceMul, Nat.reduceLT, Nat.reduceLeDiff, Nat.reduceEqDiff, Nat.reduceBEq, Int.reduceToNat, h3, Int.natCast_add]
          · rw [esn, if_neg hp, hk]
    · have hjl : j = l.length := by omega
      subst hjl
      rw [List.take_length] at hk
      have hkl : k < L.cl.length := by omega
      have hforC : L.cl.take k ++ L.cl.drop (k + 1) = forC L.cl := by
        have e : oldC L.cl = (minC c l).id := by rw [hcl]; rfl
        unfold forC
        rw [e, ← erase_at (Uniq.of_sorted h.ok.sorted) hk, List.eraseIdx_eq_take_drop_succ]
      have s1 : Src σ' (.slice i 0 k) (L.cl.take k) := by simpa using src_slice hio (a := 0) (b := k) (by omega) (by omega)
      have s2 : Src σ' (.slice i ((k + 1) * 5) (L.cl.length - (k + 1))) (L.cl.drop (k + 1)) := by
        have := src_slice hio (a := k + 1) (b := L.cl.length) (by omega) (by omega)
        rw [List.take_of_length_le (by simp)] at this
        exact this
      have hholdI : ∀ τ : AHeap, (hold [r, r] τ).get i = τ.get i := fun τ => by rw [get_hold_ne _ _ hir, get_hold_ne _ _ hir]; rfl
      have hholdG : ∀ (τ : AHeap) (q : Nat), σ'.next ≤ q → (hold [r, r] τ).get q = τ.get q := fun τ q hq => by rw [get_hold_ne _ _ (by omega), get_hold_ne _ _ (by omega)]; rfl
      obtain ⟨v1, σ3, p1, p2, p3, p4, p5, p6⟩ := (FC.nil (σ0 := σ') (σ := σ')).push (Nat.le_refl _) s1 (by simp; omega) hwf
      obtain ⟨τ3, p7⟩ := p6 (hold [r, r] σ') rfl (s1.of_get fun i2 off n e => by cases e; exact hholdI _) (fun q hq => hholdG _ q hq)
      have s3 : Src σ3 (.slice i ((k + 1) * 5) (L.cl.length - (k + 1))) (L.cl.drop (k + 1)) := s2.of_get fun i2 off n e => by cases e; exact p5 i hi
      obtain ⟨v2, σ4, u1, u2, u3, u4, u5, u6⟩ := p2.push p4 s3 (by simp; omega) p3
      obtain ⟨τ4, u7⟩ := u6 (hold [r, r] σ3) rfl (s3.of_get fun i2 off n e => by cases e; exact hholdI _) (fun q hq => hholdG _ q hq)
      have k1 : σ3.get r = σ'.get r := p5 r hr
      have k2 : σ4.get r = σ'.get r := u5 r hr |>.trans k1
      have k3 : σ4.get r = .own 7 (rowV (.slice i 0 L.cl.length) L.conf L.now) := k2.trans hg
      have k4 : σ4.get r = σ3.get r := u5 r hr
      rw [List.nil_append] at u2
      rw [hforC] at u2
      have hvv := u2.own
      have hwf5 : (σ4.set r (.own 7 (rowV v2 L.conf L.now))).WF := WF.set u3 r (rowV_rl hvv.1 _ _)
      have hst : astore Try.prog 50 (.ptr r 5) v2 σ4 = some (.junk, σ4.set r (.own 7 (rowV v2 L.conf L.now))) := by
        have hcv : v2.cellsA = some [v2] := by
          have := hvv.2
          cases v2 <;> simp [AV.sc] at this <;> rfl
        simp only [astore, k3, hcv, sz50]
        simp [hvv.2, rowV, Conf.enc, splice]
      have hfit := fits_of_own (s := 5) hio
      have q0 : (0 : Int) ≤ (k : Int) := by omega
      have q1 : (k : Int) ≤ (L.cl.length : Int) := by omega
      have q2 : (0 : Int) ≤ (k : Int) + 1 := by omega
      have q3 : (k : Int) + 1 ≤ (L.cl.length : Int) := by omega
      have q4 : (L.cl.length : Int) ≤ (L.cl.length : Int) := by omega
      have q5 : ((k : Int) + 1).toNat = k + 1 := by omega
      simp -dsimp -implicitDefEqProofs (disch := (first | omega | (simp -implicitDefEqProofs only [nx]; done) | (simp -implicitDefEqProofs only [nx]; omega))) only [↓sd, su, ofC, ofV, argT, List.getD_cons_zero, List.getD_cons_succ, List.getElem?_cons_zero, List.getElem?_cons_succ, List.map_cons, List.map_nil, List.nil_append, List.cons_append, List.append_nil, Option.map_some, Option.map_none, ob, alenX, alenM, alook, amakeMap, aupdate, adelete, abin, aint, acmp, aun, aconv, aloadO, apart, afield, aiaddrS, aiaddrA, aindex, aslice, abnd, alenS, amaxmin, amxs, amx, aalloc, abox, abuildSlice, amake, acopy, asrcO, afill, AV.cellsA, AV.sc, TK.is, TK.agg, List.length_cons, List.length_nil, List.all_cons, List.all_nil, mb, beq_self_eq_true, List.length_set, Int.zero_sub, List.set_cons_zero, List.set_cons_succ, List.take_zero, List.drop_zero, List.take_succ_cons, List.drop_succ_cons, or_false, false_or, or_true, true_or, or_self, gt_iff_lt, ge_iff_le, Nat.lt_irrefl, Nat.reduceGT, Int.reduceLT, Int.reduceLE, Int.reduceNeg, Int.reduceEq, Nat.not_lt_zero, List.replicate_succ, List.replicate_zero, List.flatten_cons, List.flatten_nil, List.length_replicate, Nat.le_refl, Nat.sub_zero, cast0, cast1, Int.cast_ofNat_Int, Int.toNat_natCast, Bool.not_not, Bool.true_and, Bool.and_true, Bool.false_and, Bool.and_false, Bool.or_true, Bool.true_or, Bool.or_false, Bool.false_or, decide_true, decide_false, Bool.not_true, Bool.not_false, beq_iff_eq, Bool.not_eq_true', decide_eq_true_eq, decide_eq_false_iff_not, if_true, if_false, ite_true, ite_false, reduceCtorEq, Bool.false_eq_true, ne_eq, not_false_eq_true, not_true_eq_false, true_and, and_true, and_self, false_and, and_false, Nat.reduceAdd, Nat.reduceSub, Nat.reduceMul, Nat.reduceLT, Nat.reduceLeDiff, Nat.reduceEqDiff, Nat.reduceBEq, Int.reduceToNat, Nat.add_zero, Nat.zero_add, Nat.mul_one, Nat.one_mul, tb, hlt, h0, h2, h3, hc, rowV, Conf.enc, fa1, w64, hfit, q0, q1, q2, q3, q4, q5, p1, p7, k1, u1, u7, k4, hst]
      refine normal_pure (σ := σ4.set r (.own 7 (rowV v2 L.conf L.now))) (by simp only [AHeap.next_set]; omega) (Sub.refl hwf5) ?_ ?_
      · simp (disch := (first | omega | (simp -implicitDefEqProofs only [nx]; done) | (simp -implicitDefEqProofs only [nx]; omega))) only [only, List.mem_cons, List.not_mem_nil, forall_eq_or_imp, forall_eq, List.contains_cons, List.contains_nil, Nat.reduceBEq, rl_int, rl_bool, AV.rl, AV.rls, ↓sd, su, ofC, ofV, argT, Option.map_some, Option.map_none, lb, nb, Nat.reduceGT, Int.reduceLT, Int.reduceLE, Int.reduceNeg, Int.reduceEq, decide_true, decide_false, decide_eq_true_eq, decide_eq_false_iff_not, if_true, if_false, ite_true, ite_false, reduceCtorEq, ne_eq, Nat.reduceAdd, Nat.reduceSub, Nat.reduceMul, Nat.reduceLT, Nat.reduceLeDiff, Nat.reduceEqDiff, Nat.reduceBEq, Int.reduceToNat]
      · have hC : Chg [r] σ' (σ4.set r (.own 7 (rowV v2 L.conf L.now))) := ⟨by simp only [AHeap.next_set]; omega, fun j hj hn => by
          have hjr : j ≠ r := fun e => hn (by simp [e])
          rw [get_set_ne hjr, u5 j hj, p5 j hj]⟩
        refine ⟨hC, ?_⟩
        generalize hff : forC L.cl = fl at *
        cases u2 with
        | nil =>
          refine ⟨r, .inl rfl, hff ▸ forC_ok h.ok, by simp only [AHeap.next_set]; omega, _, get_set_self rfl, .inl ⟨.inr rfl, rfl, rfl⟩⟩
        | mk q x hq ho =>
          refine ⟨q, .inr hq.1, hff ▸ forC_ok h.ok, by simp only [AHeap.next_set]; omega, _, get_set_self rfl, .inr ⟨rfl, by simp only [AHeap.next_set]; omega, by omega, ?_⟩⟩
          rw [get_set_ne (by omega)]
          exact ho
  · refine ⟨0, 0, rfl, Nat.zero_le _, Nat.le_refl _, rfl, ?_, ?_, ?_, ?_⟩
    · simp -dsimp -implicitDefEqProofs (disch := (first | omega | (simp -implicitDefEqProofs only [nx]; done) | (simp -implicitDefEqProofs only [nx]; omega))) only [↓sd, su, ofC, ofV, argT, Option.map_some, Option.map_none, lb, ob, alenX, alenM, alook, amakeMap, aupdate, adelete, abin, aint, acmp, aun, aconv, aloadO, apart, afield, afaddr, aiaddrS, aiaddrA, aindex, aslice, abnd, alenS, amaxmin, amxs, amx, aalloc, abox, abuildSlice, amake, astore, aappend, acopy, asrcO, afill, AV.cellsA, AV.sc, TK.is, TK.agg, mb, nb, Nat.reduceGT, Int.reduceLT, Int.reduceLE, Int.reduceNeg, Int.reduceEq, decide_true, decide_false, decide_eq_true_eq, decide_eq_false_iff_not, if_true, if_false, ite_true, ite_false, reduceCtorEq, ne_eq, Nat.reduceAdd, Nat.reduceSub, Nat.reduceMul, Nat.reduceLT, Nat.reduceLeDiff, Nat.reduceEqDiff, Nat.reduceBEq, Int.reduceToNat, tb]
    · simp -dsimp -implicitDefEqProofs (disch := (first | omega | (simp -implicitDefEqProofs only [nx]; done) | (simp -implicitDefEqProofs only [nx]; omega))) only [↓sd, su, ofC, ofV, argT, Option.map_some, Option.map_none, lb, ob, alenX, alenM, alook, amakeMap, aupdate, adelete, abin, aint, acmp, aun, aconv, aloadO, apart, afield, afaddr, aiaddrS, aiaddrA, aindex, aslice, abnd, alenS, amaxmin, amxs, amx, aalloc, abox, abuildSlice, amake, astore, aappend, acopy, asrcO, afill, AV.cellsA, AV.sc, TK.is, TK.agg, mb, nb, Nat.reduceGT, Int.reduceLT, Int.reduceLE, Int.reduceNeg, Int.reduceEq, decide_true, decide_false, decide_eq_true_eq, decide_eq_false_iff_not, if_true, if_false, ite_true, ite_false, reduceCtorEq, ne_eq, Nat.reduceAdd, Nat.reduceSub, Nat.reduceMul, Nat.reduceLT, Nat.reduceLeDiff, Nat.reduceEqDiff, Nat.reduceBEq, Int.reduceToNat, tb] <;> rfl
    · simp -dsimp -implicitDefEqProofs (disch := (first | omega | (simp -implicitDefEqProofs only [nx]; done) | (simp -implicitDefEqProofs only [nx]; omega))) only [↓sd, su, ofC, ofV, argT, Option.map_some, Option.map_none, lb, ob, alenX, alenM, alook, amakeMap, aupdate, adelete, abin, aint, acmp, aun, aconv, aloadO, apart, afield, afaddr, aiaddrS, aiaddrA, aindex, aslice, abnd, alenS, amaxmin, amxs, amx, aalloc, abox, abuildSlice, amake, astore, aappend, acopy, asrcO, afill, AV.cellsA, AV.sc, TK.is, TK.agg, mb, nb, Nat.reduceGT, Int.reduceLT, Int.reduceLE, Int.reduceNeg, Int.reduceEq, decide_true, decide_false, decide_eq_true_eq, decide_eq_false_iff_not, if_true, if_false, ite_true, ite_false, reduceCtorEq, ne_eq, Nat.reduceAdd, Nat.reduceSub, Nat.reduceMul, Nat.reduceLT, Nat.reduceLeDiff, Nat.reduceEqDiff, Nat.reduceBEq, Int.reduceToNat, tb] <;> rfl
    · rw [hcl]; rfl
end Go.Proofs.Ythiaegigndlnpaa.A
