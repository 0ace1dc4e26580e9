/- The memory of holdover. Conditions: none. -/
import Derived.Test.YteeakkakkjhgoaaH3
import Derived.Test.YteeakkakkjhgoaaA19
set_option linter.unusedVariables false
set_option linter.unusedSimpArgs false
namespace Go.Proofs.Yteeakkakkjhgoaa.A
open Go Go.RowKit

structure HCf where
  base : Int
  drift : Int
  aging : Int
  limit : Int
  deriving Inhabited, DecidableEq
def HCf.enc (c : HCf) : List AV := [.int .i64 c.base, .int .i64 c.drift, .int .i64 c.aging, .int .i64 c.limit]
def isT (t : Int) : Bool := decide (0 ≤ t) && decide (t ≤ 1125899906842624)
theorem isT_iff {t : Int} : isT t = true ↔ 0 ≤ t ∧ t ≤ 1125899906842624 := by simp [isT]
def hcB (c : HCf) : Bool := isT c.base && decide (0 ≤ c.drift) && decide (c.drift ≤ 500000) && decide (0 ≤ c.aging) && decide (c.aging ≤ 1000) && isT c.limit
structure Mem where
  conf : HCf
  fr : List Int
  over : Bool
  called : Bool
  last : Int
  deriving Inhabited, DecidableEq
def Mem.locked (m : Mem) : Bool := decide (m.fr ≠ []) && !m.over
structure MOK (m : Mem) : Prop where
  conf : hcB m.conf = true
  len : m.fr.length ≤ 16
  last : 0 ≤ m.last ∧ m.last ≤ 1125899906842624
  emp : m.fr = [] → m.over = false
  cal : m.fr ≠ [] → m.called = true
def mem0 (c : HCf) : Mem := ⟨c, [], false, false, 0⟩
def errF (m : Mem) (t : Int) : Int × Int :=
  if t < 0 ∨ 1125899906842624 < t then (0, 3)
  else if m.called = true ∧ t < m.last then (0, 12)
  else if m.fr = [] then (0, 15)
  else if m.over = false then (m.conf.base, 0)
  else (m.conf.base + upF (t - m.last) m.conf.drift 1000000000 + upF (t - m.last) (upF (t - m.last) m.conf.aging 86400000000000) 1000000000, 0)
def stateF (m : Mem) (t : Int) : Int :=
  if m.fr = [] then 0
  else if m.over = false then 1
  else if (errF m (max t m.last)).2 ≠ 0 ∨ m.conf.limit < (errF m (max t m.last)).1 then 3
  else 2
def push16 (l : List Int) (p : Int) : List Int := if l.length < 16 then l ++ [p] else (l ++ [p]).drop 1
def learnF (m : Mem) (t p : Int) : Int × Mem :=
  if t < 0 ∨ 1125899906842624 < t ∨ p < -500000 ∨ 500000 < p then (3, m)
  else if m.called = true ∧ t ≤ m.last then (12, m)
  else (0, { m with fr := push16 m.fr p, over := false, called := true, last := t })
def loseF (m : Mem) (t : Int) : Int × Mem :=
  if t < 0 ∨ 1125899906842624 < t then (3, m)
  else if m.called = true ∧ t ≤ m.last then (12, m)
  else if m.locked = false then (15, m)
  else (0, { m with over := true, last := t })
def estF (m : Mem) : Int × Bool := if m.fr = [] then (0, false) else ((m.fr.mergeSort leI).getD ((m.fr.length - 1) / 2) 0, true)

def memV (sl : AV) (m : Mem) : List AV := m.conf.enc ++ [sl, .bool m.locked, .bool m.called, .int .i64 m.last]
/-- A row of frequencies, of which more cells may lie behind. -/
def FRow (σ : AHeap) (r q : Nat) (sl : AV) (fr : List Int) : Prop :=
  (sl = .nils ∧ fr = [] ∧ q = r) ∨ (sl = .slice q 0 fr.length ∧ q < σ.next ∧ q ≠ r ∧ fr ≠ [] ∧ ∃ z : List Int, σ.get q = .own 1 (ints z) ∧ z.take fr.length = fr ∧ fr.length ≤ z.length)
structure MA (σ : AHeap) (r q : Nat) (m : Mem) : Prop where
  ok : MOK m
  rl : r < σ.next
  ex : ∃ sl, σ.get r = .own 8 (memV sl m) ∧ FRow σ r q sl m.fr
theorem FRow.row {σ : AHeap} {r q : Nat} {sl : AV} {fr : List Int} (h : FRow σ r q sl fr) : IntRow σ sl fr := by
  rcases h with ⟨rfl, rfl, _⟩ | ⟨rfl, hq, _, _, z, hz, ht, hl⟩
  · exact .nils
  · refine .row q 0 _ _ _ hq (cells_of_own hz) (fits_of_own hz) (by rw [ints_length]; omega) ?_
    rw [ints_flat, List.drop_zero, ints_take, Nat.mul_one, ht]
theorem FRow.ext {σ σ' : AHeap} {r q : Nat} {sl : AV} {fr : List Int} (h : FRow σ r q sl fr) (hle : σ.next ≤ σ'.next) (hs : q ≠ r → q < σ.next → σ'.get q = σ.get q) : FRow σ' r q sl fr := by
  rcases h with h | ⟨h1, h2, h3, h4, z, h5, h6⟩
  · exact .inl h
  · exact .inr ⟨h1, Nat.lt_of_lt_of_le h2 hle, h3, h4, z, by rw [hs h3 h2]; exact h5, h6⟩
theorem MA.chg {rs : List Nat} {σ σ' : AHeap} {r q : Nat} {m : Mem} (h : MA σ r q m) (hC : Chg rs σ σ') (h1 : r ∉ rs) (h2 : q ∉ rs) : MA σ' r q m := by
  obtain ⟨sl, g1, g2⟩ := h.ex
  exact ⟨h.ok, Nat.lt_of_lt_of_le h.rl hC.le, sl, by rw [hC.same r h.rl h1]; exact g1, g2.ext hC.le fun _ hq => hC.same q hq h2⟩
theorem MA.ext {σ σ' : AHeap} {r q : Nat} {m : Mem} (h : MA σ r q m) [hE : Ext σ σ'] : MA σ' r q m := h.chg (.ofExt (rs := []) hE) (by simp) (by simp)
set_option maxRecDepth 20000 in
theorem hc_bd {c : HCf} (h : hcB c = true) : (0 ≤ c.base ∧ c.base ≤ 1125899906842624) ∧ (0 ≤ c.drift ∧ c.drift ≤ 500000) ∧ (0 ≤ c.aging ∧ c.aging ≤ 1000) ∧ (0 ≤ c.limit ∧ c.limit ≤ 1125899906842624) := by
  simpa [hcB, isT, and_assoc] using h

/-! ### isTime, Check, New -/
set_option maxRecDepth 20000 in
theorem isTime_calls (t : Int) (σ : AHeap) : ACalls Try.prog 22 [.int .i64 t] σ (fun r σ' => r = .bool (isT t) ∧ σ' = σ) := by
  refine acalls_of S0_ok k22 (by simp) (fun hwf hrl => ?_)
  unfold c22
  unfold isT
  by_cases h1 : 0 ≤ t <;> by_cases h2 : t ≤ 1125899906842624
  all_goals
    simp -dsimp -implicitDefEqProofs (disch := (first | omega | (simp -implicitDefEqProofs only [nx]; done) | (simp -implicitDefEqProofs only [nx]; omega))) only [↓sd, su, ofC, ofV, argT, Option.map_some, Option.map_none, lb, ob, alenX, alenM, alook, amakeMap, aupdate, adelete, abin, aint, acmp, aun, aconv, aloadO, apart, afield, afaddr, aiaddrS, aiaddrA, aindex, aslice, abnd, alenS, amaxmin, amxs, amx, aalloc, abox, abuildSlice, amake, astore, aappend, acopy, asrcO, afill, AV.cellsA, AV.sc, TK.is, TK.agg, mb, nb, Nat.reduceGT, Int.reduceLT, Int.reduceLE, Int.reduceNeg, Int.reduceEq, decide_true, decide_false, decide_eq_true_eq, decide_eq_false_iff_not, if_true, if_false, ite_true, ite_false, reduceCtorEq, ne_eq, Nat.reduceAdd, Nat.reduceSub, Nat.reduceMul, Nat.reduceLT, Nat.reduceLeDiff, Nat.reduceEqDiff, Nat.reduceBEq, Int.reduceToNat, tb, S0, h1, h2]
    refine ret_pure (σ := σ) (Nat.le_refl _) (by repeat (first | exact Sub.refl ‹_› | refine Sub.alloc ?_ _ | refine Sub.set ?_ (by (try simp only [AHeap.next_alloc, AHeap.next_set]); omega) _)) ?_ ?_
    · simp (disch := (first | omega | (simp -implicitDefEqProofs only [nx]; done) | (simp -implicitDefEqProofs only [nx]; omega))) only [only, List.mem_cons, List.not_mem_nil, forall_eq_or_imp, forall_eq, List.contains_cons, List.contains_nil, Nat.reduceBEq, rl_int, rl_bool, AV.rl, AV.rls, ↓sd, su, ofC, ofV, argT, Option.map_some, Option.map_none, lb, nb, Nat.reduceGT, Int.reduceLT, Int.reduceLE, Int.reduceNeg, Int.reduceEq, decide_true, decide_false, decide_eq_true_eq, decide_eq_false_iff_not, if_true, if_false, ite_true, ite_false, reduceCtorEq, ne_eq, Nat.reduceAdd, Nat.reduceSub, Nat.reduceMul, Nat.reduceLT, Nat.reduceLeDiff, Nat.reduceEqDiff, Nat.reduceBEq, Int.reduceToNat]
    · simp (disch := (first | omega | (simp -implicitDefEqProofs only [nx]; done) | (simp -implicitDefEqProofs only [nx]; omega))) only [only, List.mem_cons, List.not_mem_nil, forall_eq_or_imp, forall_eq, List.contains_cons, List.contains_nil, Nat.reduceBEq, rl_int, rl_bool, AV.rl, AV.rls, ↓sd, su, ofC, ofV, argT, Option.map_some, Option.map_none, lb, nb, Nat.reduceGT, Int.reduceLT, Int.reduceLE, Int.reduceNeg, Int.reduceEq, decide_true, decide_false, decide_eq_true_eq, decide_eq_false_iff_not, if_true, if_false, ite_true, ite_false, reduceCtorEq, ne_eq, Nat.reduceAdd, Nat.reduceSub, Nat.reduceMul, Nat.reduceLT, Nat.reduceLeDiff, Nat.reduceEqDiff, Nat.reduceBEq, Int.reduceToNat, h1, h2]
def S22 : Orc := fun f args => if f = 22 then (match args with | [.int .i64 x] => some (.bool (isT x)) | _ => none) else none
theorem S22_ok : SOK Try.prog S22 := ⟨fun f args v h => by
  unfold S22 at h
  split at h
  · rename_i hf; subst hf
    split at h
    · cases h; exact ⟨rfl, fun σ => isTime_calls _ σ⟩
    · cases h
  · cases h⟩
def hcF (c : HCf) : Int := if hcB c = true then 0 else 3
theorem conf_rl (n s : Nat) (c : HCf) : (AObj.own s c.enc).rl n = true := by simp [AObj.rl, HCf.enc, AV.rls, AV.rl]
set_option maxRecDepth 20000 in
theorem check_calls (c : HCf) (σ : AHeap) : ACalls Try.prog 9 [.agg c.enc] σ (fun r σ' => r = .int .i64 (hcF c) ∧ σ' = σ) := by
  refine acalls_of S22_ok k9 (by simp) (fun hwf hrl => ?_)
  unfold c9
  unfold hcF hcB
  have e1 : decide (0 ≤ c.drift) = !decide (c.drift < 0) := by rw [Bool.eq_iff_iff]; simp
  have e2 : decide (c.drift ≤ 500000) = !decide (500000 < c.drift) := by rw [Bool.eq_iff_iff]; simp
  have e3 : decide (0 ≤ c.aging) = !decide (c.aging < 0) := by rw [Bool.eq_iff_iff]; simp
  have e4 : decide (c.aging ≤ 1000) = !decide (1000 < c.aging) := by rw [Bool.eq_iff_iff]; simp
  rw [e1, e2, e3, e4]
  cases h1 : isT c.base <;> by_cases h2 : c.drift < 0 <;> by_cases h3 : 500000 < c.drift <;> by_cases h4 : c.aging < 0 <;> by_cases h5 : 1000 < c.aging <;> cases h6 : isT c.limit
  all_goals try (exfalso; omega)
  all_goals
    simp -dsimp -implicitDefEqProofs (disch := (first | omega | (simp -implicitDefEqProofs only [nx]; done) | (simp -implicitDefEqProofs only [nx]; omega))) only [↓sd, su, ofC, ofV, argT, Option.map_some, Option.map_none, lb, ob, alenX, alenM, alook, amakeMap, aupdate, adelete, abin, aint, acmp, aun, aconv, aloadO, apart, afield, afaddr, aiaddrS, aiaddrA, aindex, aslice, abnd, alenS, amaxmin, amxs, amx, aalloc, abox, abuildSlice, amake, astore, aappend, acopy, asrcO, afill, AV.cellsA, AV.sc, TK.is, TK.agg, mb, nb, Nat.reduceGT, Int.reduceLT, Int.reduceLE, Int.reduceNeg, Int.reduceEq, decide_true, decide_false, decide_eq_true_eq, decide_eq_false_iff_not, if_true, if_false, ite_true, ite_false, reduceCtorEq, ne_eq, Nat.reduceAdd, Nat.reduceSub, Nat.reduceMul, Nat.reduceLT, Nat.reduceLeDiff, Nat.reduceEqDiff, Nat.reduceBEq, Int.reduceToNat, tb, HCf.enc, S22, h1, h2, h3, h4, h5, h6]
    refine ret_pure (σ := σ) (Nat.le_refl _) (by repeat (first | exact Sub.refl ‹_› | (refine Sub.refl ?_; (repeat (first | assumption | refine WF.alloc ?_ (by first | exact rl_ints | assumption | rfl) | refine WF.set ?_ _ (by first | exact rl_ints | assumption | rfl))); done) | refine Sub.alloc2 ?_ (by rfl) (by first | exact rl_ints | assumption | rfl) | refine Sub.allocD ?_ (by rfl) _ | refine Sub.alloc ?_ _ | refine Sub.set2 ?_ _ (by first | exact rl_ints | assumption | rfl) | refine Sub.set ?_ (by (try simp only [AHeap.next_alloc, AHeap.next_set]); omega) _)) ?_ ?_
    · simp (disch := (first | omega | (simp -implicitDefEqProofs only [nx]; done) | (simp -implicitDefEqProofs only [nx]; omega))) only [only, List.mem_cons, List.not_mem_nil, forall_eq_or_imp, forall_eq, List.contains_cons, List.contains_nil, Nat.reduceBEq, rl_int, rl_bool, AV.rl, AV.rls, ↓sd, su, ofC, ofV, argT, Option.map_some, Option.map_none, lb, nb, Nat.reduceGT, Int.reduceLT, Int.reduceLE, Int.reduceNeg, Int.reduceEq, decide_true, decide_false, decide_eq_true_eq, decide_eq_false_iff_not, if_true, if_false, ite_true, ite_false, reduceCtorEq, ne_eq, Nat.reduceAdd, Nat.reduceSub, Nat.reduceMul, Nat.reduceLT, Nat.reduceLeDiff, Nat.reduceEqDiff, Nat.reduceBEq, Int.reduceToNat]
    · simp (disch := (first | omega | (simp -implicitDefEqProofs only [nx]; done) | (simp -implicitDefEqProofs only [nx]; omega))) only [only, List.mem_cons, List.not_mem_nil, forall_eq_or_imp, forall_eq, List.contains_cons, List.contains_nil, Nat.reduceBEq, rl_int, rl_bool, AV.rl, AV.rls, ↓sd, su, ofC, ofV, argT, Option.map_some, Option.map_none, lb, nb, Nat.reduceGT, Int.reduceLT, Int.reduceLE, Int.reduceNeg, Int.reduceEq, decide_true, decide_false, decide_eq_true_eq, decide_eq_false_iff_not, if_true, if_false, ite_true, ite_false, reduceCtorEq, ne_eq, Nat.reduceAdd, Nat.reduceSub, Nat.reduceMul, Nat.reduceLT, Nat.reduceLeDiff, Nat.reduceEqDiff, Nat.reduceBEq, Int.reduceToNat, h2, h3, h4, h5]
theorem eqA (r o : Nat) : aeq Try.prog 26 (.ptr r o) .nilp = some false := by simp [aeq, tk26]
theorem eqA0 : aeq Try.prog 26 .nilp .nilp = some true := by simp [aeq, tk26]
theorem build52 (c : HCf) : abuild Try.prog 52 [(0, .agg c.enc)] = some (.agg (memV .nils (mem0 c))) := by
  simp [abuild, tk52, ze52, sz23, sz3, sz4, sz45, afill, AV.cellsA, AV.sc, HCf.enc, memV, mem0, Mem.locked]
theorem box_conf (c : HCf) (σ : AHeap) : abox (.agg c.enc) σ = some (.ptr σ.next 0, σ.alloc (.own 4 c.enc)) := rfl
theorem box_mem (sl : AV) (m : Mem) (σ : AHeap) : abox (.agg (memV sl m)) σ = some (.ptr σ.next 0, σ.alloc (.own 8 (memV sl m))) := rfl
theorem load_conf (c : HCf) (σ : AHeap) (i : Nat) (h : σ.cells i = some c.enc) : aload Try.prog 23 (.ptr i 0) σ = some (.agg c.enc) := by
  simp [aload, h, tk23, sz23, HCf.enc, TK.is, TK.agg]
theorem memV_rl {n : Nat} {sl : AV} (h : sl.rl n = true) (m : Mem) : (AObj.own 8 (memV sl m)).rl n = true := by
  simp [AObj.rl, memV, HCf.enc, AV.rls, AV.rl, h]
theorem mem0_ok {c : HCf} (h : hcB c = true) : MOK (mem0 c) := ⟨h, by simp [mem0], by simp [mem0], fun _ => rfl, fun q => absurd rfl q⟩
theorem new_calls (c : HCf) (σ : AHeap) : ACalls Try.prog 11 [.agg c.enc] σ (fun r σ' => Ext σ σ' ∧ ((hcB c = false ∧ r = .nilp) ∨ (hcB c = true ∧ ∃ i, r = .ptr i 0 ∧ σ.next ≤ i ∧ MA σ' i i (mem0 c)))) := by
  refine acalls_of S0_ok k11 (by simp) (fun hwf hrl => ?_)
  unfold c11
  have hl := load_conf c (σ.alloc (.own 4 c.enc)) σ.next (cells_alloc_self rfl)
  simp -dsimp -implicitDefEqProofs (disch := (first | omega | (simp -implicitDefEqProofs only [nx]; done) | (simp -implicitDefEqProofs only [nx]; omega))) only [↓sd, su, ofC, ofV, argT, List.getD_cons_zero, List.getD_cons_succ, List.getElem?_cons_zero, List.getElem?_cons_succ, List.map_cons, List.map_nil, List.nil_append, List.cons_append, List.append_nil, Option.map_some, Option.map_none, ob, alenX, alenM, alook, amakeMap, aupdate, adelete, abin, aint, acmp, aun, aconv, aloadO, apart, afield, afaddr, aiaddrS, aiaddrA, aindex, aslice, abnd, alenS, amaxmin, amxs, amx, aalloc, abuildSlice, amake, astore, aappend, acopy, asrcO, afill, AV.cellsA, AV.sc, TK.is, TK.agg, List.length_cons, List.length_nil, List.all_cons, List.all_nil, mb, beq_self_eq_true, List.length_set, Int.zero_sub, List.set_cons_zero, List.set_cons_succ, List.take_zero, List.drop_zero, List.take_succ_cons, List.drop_succ_cons, or_false, false_or, or_true, true_or, or_self, gt_iff_lt, ge_iff_le, Nat.lt_irrefl, Nat.reduceGT, Int.reduceLT, Int.reduceLE, Int.reduceNeg, Int.reduceEq, Nat.not_lt_zero, List.replicate_succ, List.replicate_zero, List.flatten_cons, List.flatten_nil, List.length_replicate, Nat.le_refl, Nat.sub_zero, cast0, cast1, Int.cast_ofNat_Int, Int.toNat_natCast, Bool.not_not, Bool.true_and, Bool.and_true, Bool.false_and, Bool.and_false, Bool.or_true, Bool.true_or, Bool.or_false, Bool.false_or, decide_true, decide_false, Bool.not_true, Bool.not_false, beq_iff_eq, Bool.not_eq_true', decide_eq_true_eq, decide_eq_false_iff_not, if_true, if_false, ite_true, ite_false, reduceCtorEq, Bool.false_eq_true, ne_eq, not_false_eq_true, not_true_eq_false, true_and, and_true, and_self, false_and, and_false, Nat.reduceAdd, Nat.reduceSub, Nat.reduceMul, Nat.reduceLT, Nat.reduceLeDiff, Nat.reduceEqDiff, Nat.reduceBEq, Int.reduceToNat, Nat.add_zero, Nat.zero_add, Nat.mul_one, Nat.one_mul, tb, S0, box_conf, hl]
  refine call_by (check_calls c _) ?_
  rintro r σ' ⟨rfl, rfl⟩
  cases hb : hcB c with
  | false =>
    have hF : hcF c = 3 := by unfold hcF; rw [hb]; rfl
    simp -dsimp -implicitDefEqProofs (disch := (first | omega | (simp -implicitDefEqProofs only [nx]; done) | (simp -implicitDefEqProofs only [nx]; omega))) only [↓sd, su, ofC, ofV, argT, Option.map_some, Option.map_none, lb, ob, alenX, alenM, alook, amakeMap, aupdate, adelete, abin, aint, acmp, aun, aconv, aloadO, apart, afield, afaddr, aiaddrS, aiaddrA, aindex, aslice, abnd, alenS, amaxmin, amxs, amx, aalloc, abox, abuildSlice, amake, astore, aappend, acopy, asrcO, afill, AV.cellsA, AV.sc, TK.is, TK.agg, mb, nb, Nat.reduceGT, Int.reduceLT, Int.reduceLE, Int.reduceNeg, Int.reduceEq, decide_true, decide_false, decide_eq_true_eq, decide_eq_false_iff_not, if_true, if_false, ite_true, ite_false, reduceCtorEq, ne_eq, Nat.reduceAdd, Nat.reduceSub, Nat.reduceMul, Nat.reduceLT, Nat.reduceLeDiff, Nat.reduceEqDiff, Nat.reduceBEq, Int.reduceToNat, tb, S0, hF]
    refine ret_pure (σ := σ) (Nat.le_refl _) (by repeat (first | exact Sub.refl ‹_› | (refine Sub.refl ?_; (repeat (first | assumption | refine WF.alloc ?_ (by first | exact rl_ints | assumption | rfl) | refine WF.set ?_ _ (by first | exact rl_ints | assumption | rfl))); done) | refine Sub.alloc2 ?_ (by rfl) (by first | exact rl_ints | assumption | rfl) | refine Sub.allocD ?_ (by rfl) _ | refine Sub.alloc ?_ _ | refine Sub.set2 ?_ _ (by first | exact rl_ints | assumption | rfl) | refine Sub.set ?_ (by (try simp only [AHeap.next_alloc, AHeap.next_set]); omega) _)) ?_ ?_
    · simp (disch := (first | omega | (simp -implicitDefEqProofs only [nx]; done) | (simp -implicitDefEqProofs only [nx]; omega))) only [only, List.mem_cons, List.not_mem_nil, forall_eq_or_imp, forall_eq, List.contains_cons, List.contains_nil, Nat.reduceBEq, rl_int, rl_bool, AV.rl, AV.rls, ↓sd, su, ofC, ofV, argT, Option.map_some, Option.map_none, lb, nb, Nat.reduceGT, Int.reduceLT, Int.reduceLE, Int.reduceNeg, Int.reduceEq, decide_true, decide_false, decide_eq_true_eq, decide_eq_false_iff_not, if_true, if_false, ite_true, ite_false, reduceCtorEq, ne_eq, Nat.reduceAdd, Nat.reduceSub, Nat.reduceMul, Nat.reduceLT, Nat.reduceLeDiff, Nat.reduceEqDiff, Nat.reduceBEq, Int.reduceToNat]
    · simp (disch := (first | omega | (simp -implicitDefEqProofs only [nx]; done) | (simp -implicitDefEqProofs only [nx]; omega))) only [only, List.mem_cons, List.not_mem_nil, forall_eq_or_imp, forall_eq, List.contains_cons, List.contains_nil, Nat.reduceBEq, rl_int, rl_bool, AV.rl, AV.rls, ↓sd, su, ofC, ofV, argT, Option.map_some, Option.map_none, lb, nb, Nat.reduceGT, Int.reduceLT, Int.reduceLE, Int.reduceNeg, Int.reduceEq, decide_true, decide_false, decide_eq_true_eq, decide_eq_false_iff_not, if_true, if_false, ite_true, ite_false, reduceCtorEq, ne_eq, Nat.reduceAdd, Nat.reduceSub, Nat.reduceMul, Nat.reduceLT, Nat.reduceLeDiff, Nat.reduceEqDiff, Nat.reduceBEq, Int.reduceToNat, hb]
      exact Ext.refl _
  | true =>
    have hF : hcF c = 0 := by unfold hcF; rw [hb]; rfl
    simp -dsimp -implicitDefEqProofs (disch := (first | omega | (simp -implicitDefEqProofs only [nx]; done) | (simp -implicitDefEqProofs only [nx]; omega))) only [↓sd, su, ofC, ofV, argT, List.getD_cons_zero, List.getD_cons_succ, List.getElem?_cons_zero, List.getElem?_cons_succ, List.map_cons, List.map_nil, List.nil_append, List.cons_append, List.append_nil, Option.map_some, Option.map_none, ob, alenX, alenM, alook, amakeMap, aupdate, adelete, abin, aint, acmp, aun, aconv, aloadO, apart, afield, afaddr, aiaddrS, aiaddrA, aindex, aslice, abnd, alenS, amaxmin, amxs, amx, aalloc, abuildSlice, amake, astore, aappend, acopy, asrcO, afill, AV.cellsA, AV.sc, TK.is, TK.agg, List.length_cons, List.length_nil, List.all_cons, List.all_nil, mb, beq_self_eq_true, List.length_set, Int.zero_sub, List.set_cons_zero, List.set_cons_succ, List.take_zero, List.drop_zero, List.take_succ_cons, List.drop_succ_cons, or_false, false_or, or_true, true_or, or_self, gt_iff_lt, ge_iff_le, Nat.lt_irrefl, Nat.reduceGT, Int.reduceLT, Int.reduceLE, Int.reduceNeg, Int.reduceEq, Nat.not_lt_zero, List.replicate_succ, List.replicate_zero, List.flatten_cons, List.flatten_nil, List.length_replicate, Nat.le_refl, Nat.sub_zero, cast0, cast1, Int.cast_ofNat_Int, Int.toNat_natCast, Bool.not_not, Bool.true_and, Bool.and_true, Bool.false_and, Bool.and_false, Bool.or_true, Bool.true_or, Bool.or_false, Bool.false_or, decide_true, decide_false, Bool.not_true, Bool.not_false, beq_iff_eq, Bool.not_eq_true', decide_eq_true_eq, decide_eq_false_iff_not, if_true, if_false, ite_true, ite_false, reduceCtorEq, Bool.false_eq_true, ne_eq, not_false_eq_true, not_true_eq_false, true_and, and_true, and_self, false_and, and_false, Nat.reduceAdd, Nat.reduceSub, Nat.reduceMul, Nat.reduceLT, Nat.reduceLeDiff, Nat.reduceEqDiff, Nat.reduceBEq, Int.reduceToNat, Nat.add_zero, Nat.zero_add, Nat.mul_one, Nat.one_mul, tb, S0, hF, hl, box_mem, build52]
    refine ret_pure (σ := (σ.alloc (.own 4 c.enc)).alloc (.own 8 (memV .nils (mem0 c)))) (by first | omega | (simp only [AHeap.next_alloc, AHeap.next_set]; omega) | (simp only [AHeap.next_alloc, AHeap.next_set] at *; omega)) (Sub.refl ?_) ?_ ?_
    · exact WF.alloc (WF.alloc hwf (conf_rl _ _ _)) (memV_rl rfl _)
    · simp (disch := (first | omega | (simp -implicitDefEqProofs only [nx]; done) | (simp -implicitDefEqProofs only [nx]; omega))) only [only, List.mem_cons, List.not_mem_nil, forall_eq_or_imp, forall_eq, List.contains_cons, List.contains_nil, Nat.reduceBEq, rl_int, rl_bool, AV.rl, AV.rls, ↓sd, su, ofC, ofV, argT, Option.map_some, Option.map_none, lb, nb, Nat.reduceGT, Int.reduceLT, Int.reduceLE, Int.reduceNeg, Int.reduceEq, decide_true, decide_false, decide_eq_true_eq, decide_eq_false_iff_not, if_true, if_false, ite_true, ite_false, reduceCtorEq, ne_eq, Nat.reduceAdd, Nat.reduceSub, Nat.reduceMul, Nat.reduceLT, Nat.reduceLeDiff, Nat.reduceEqDiff, Nat.reduceBEq, Int.reduceToNat, AHeap.next_alloc]
      omega
    · simp (disch := (first | omega | (simp -implicitDefEqProofs only [nx]; done) | (simp -implicitDefEqProofs only [nx]; omega))) only [only, List.mem_cons, List.not_mem_nil, forall_eq_or_imp, forall_eq, List.contains_cons, List.contains_nil, Nat.reduceBEq, rl_int, rl_bool, AV.rl, AV.rls, ↓sd, su, ofC, ofV, argT, Option.map_some, Option.map_none, lb, nb, Nat.reduceGT, Int.reduceLT, Int.reduceLE, Int.reduceNeg, Int.reduceEq, decide_true, decide_false, decide_eq_true_eq, decide_eq_false_iff_not, if_true, if_false, ite_true, ite_false, reduceCtorEq, ne_eq, Nat.reduceAdd, Nat.reduceSub, Nat.reduceMul, Nat.reduceLT, Nat.reduceLeDiff, Nat.reduceEqDiff, Nat.reduceBEq, Int.reduceToNat, hb]
      refine ⟨inferInstance, _, rfl, (by first | omega | (simp only [AHeap.next_alloc, AHeap.next_set]; omega) | (simp only [AHeap.next_alloc, AHeap.next_set] at *; omega)), mem0_ok hb, (by first | omega | (simp only [AHeap.next_alloc, AHeap.next_set]; omega) | (simp only [AHeap.next_alloc, AHeap.next_set] at *; omega)), .nils, get_alloc_self rfl, .inl ⟨rfl, rfl, rfl⟩⟩
end Go.Proofs.Yteeakkakkjhgoaa.A
