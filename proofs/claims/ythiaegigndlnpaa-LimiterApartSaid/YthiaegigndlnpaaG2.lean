/- The limiters in memory; New and Level. Conditions: none. -/
import Derived.Test.YthiaegigndlnpaaL1
set_option linter.unusedVariables false
set_option linter.unusedSimpArgs false
namespace Go.Proofs.Ythiaegigndlnpaa.A
open Go Go.RowKit

def Cli.kn (c : Cli) : AV := .agg [.int .i64 c.last, .int .i64 c.level, .bool c.kissed, .int .i64 c.kiss]
def Cli.ent (c : Cli) : AV × AV := (.int .i64 c.id, c.kn)
def Cli.enc (c : Cli) : List AV := [.int .i64 c.id, .int .i64 c.last, .int .i64 c.level, .bool c.kissed, .int .i64 c.kiss]
theorem Cli.enc_len (c : Cli) : c.enc.length = 5 := rfl

/-! ### The map's list -/
theorem keys_ent (m : List Cli) : mkeys .i64 (m.map Cli.ent) = true := by
  unfold mkeys; simp [Cli.ent]
theorem mfind_none {z : Int} : ∀ {m : List Cli} {i : Nat}, getC m z = none → mfind z (m.map Cli.ent) i = none
  | [], i, _ => rfl
  | c :: m, i, h => by
    unfold getC at h
    rw [List.find?_cons] at h
    split at h
    · cases h
    · rename_i hc
      have hc : ¬ c.id = z := by simpa using hc
      have e : ¬ z = c.id := fun q => hc q.symm
      rw [List.map_cons]
      simp only [mfind, Cli.ent, e, if_false]
      exact mfind_none (m := m) h
theorem mfind_some {z : Int} {x : Cli} : ∀ {m : List Cli} {i : Nat}, getC m z = some x → ∃ j, mfind z (m.map Cli.ent) i = some (i + j, x.kn) ∧ m[j]? = some x
  | [], i, h => by cases h
  | c :: m, i, h => by
    unfold getC at h
    rw [List.find?_cons] at h
    split at h
    · rename_i hc
      have hc : c.id = z := by simpa using hc
      cases h
      exact ⟨0, by simp [mfind, Cli.ent, hc], rfl⟩
    · rename_i hc
      have hc : ¬ c.id = z := by simpa using hc
      have e : ¬ z = c.id := fun q => hc q.symm
      obtain ⟨j, h1, h2⟩ := mfind_some (m := m) (i := i + 1) h
      refine ⟨j + 1, ?_, by simpa using h2⟩
      rw [List.map_cons]
      simp only [mfind, Cli.ent, e, if_false]
      rw [show i + (j + 1) = i + 1 + j by omega]
      exact h1
def Uniq (m : List Cli) : Prop := m.Pairwise fun a b => a.id ≠ b.id
theorem Uniq.of_sorted {cl : List Cli} (h : cl.Pairwise (fun a b => a.id < b.id)) : Uniq cl := h.imp fun hab => by omega
theorem Uniq.perm {m cl : List Cli} (hp : m.Perm cl) (h : Uniq cl) : Uniq m := (hp.pairwise_iff fun hab => hab.symm).2 h
theorem Uniq.at {m : List Cli} (h : Uniq m) {i j : Nat} {a b : Cli} (ha : m[i]? = some a) (hb : m[j]? = some b) (he : a.id = b.id) : i = j := by
  obtain ⟨hi, rfl⟩ := List.getElem?_eq_some_iff.1 ha
  obtain ⟨hj, rfl⟩ := List.getElem?_eq_some_iff.1 hb
  have := List.pairwise_iff_getElem.1 h
  rcases Nat.lt_trichotomy i j with h1 | h1 | h1
  · exact absurd he (this i j hi hj h1)
  · exact h1
  · exact absurd he.symm (this j i hj hi h1)
theorem set_at {m : List Cli} (h : Uniq m) {j : Nat} {c x : Cli} (hc : m[j]? = some c) (he : c.id = x.id) : m.set j x = setC x m := by
  unfold setC
  apply List.ext_getElem?
  intro i
  rw [List.getElem?_set, List.getElem?_map]
  by_cases hij : j = i
  · subst hij
    have := (List.getElem?_eq_some_iff.1 hc).1
    rw [if_pos rfl, if_pos this, hc]
    simp [he]
  · rw [if_neg hij]
    cases ha : m[i]? with
    | none => rfl
    | some a =>
      have : ¬ a.id = x.id := fun q => hij (h.at hc ha (he.trans q.symm))
      simp [this]
theorem put_old {m : List Cli} (h : Uniq m) {c x : Cli} (hg : getC m x.id = some c) : mput .i64 x.id x.kn (m.map Cli.ent) = (setC x m).map Cli.ent := by
  obtain ⟨j, h1, h2⟩ := mfind_some (i := 0) hg
  unfold mput
  rw [h1]
  simp only [Nat.zero_add]
  rw [← set_at h h2 (getC_some hg).2, List.map_set]
  rfl
theorem put_new {m : List Cli} {x : Cli} (hg : getC m x.id = none) : mput .i64 x.id x.kn (m.map Cli.ent) = (m ++ [x]).map Cli.ent := by
  unfold mput
  rw [mfind_none hg, List.map_append]
  rfl
theorem erase_at : ∀ {m : List Cli}, Uniq m → ∀ {j : Nat} {c : Cli}, m[j]? = some c → m.eraseIdx j = delC c.id m
  | [], _, j, c, hc => by simp at hc
  | a :: m, h, 0, c, hc => by
    have : a = c := by simpa using hc
    subst this
    obtain ⟨h1, h2⟩ := List.pairwise_cons.1 h
    unfold delC
    rw [List.eraseIdx_cons_zero, List.filter_cons]
    simp only [ne_eq, not_true_eq_false, decide_false, Bool.false_eq_true, if_false]
    exact (List.filter_eq_self.2 fun b hb => by have := h1 b hb; simpa using fun q : b.id = a.id => this q.symm).symm
  | a :: m, h, j + 1, c, hc => by
    have hc : m[j]? = some c := by simpa using hc
    obtain ⟨h1, h2⟩ := List.pairwise_cons.1 h
    have hne : a.id ≠ c.id := h1 c (List.mem_of_getElem? hc)
    have := erase_at h2 hc
    unfold delC at this ⊢
    rw [List.eraseIdx_cons_succ, List.filter_cons, this]
    simp [hne]
theorem erase_map (f : Cli → AV × AV) : ∀ (m : List Cli) (j : Nat), (m.map f).eraseIdx j = (m.eraseIdx j).map f
  | [], _ => rfl
  | a :: m, 0 => rfl
  | a :: m, j + 1 => by simp [erase_map f m j]
theorem del_old {m : List Cli} (h : Uniq m) {c : Cli} (hc : c ∈ m) : mdel c.id (m.map Cli.ent) = (delC c.id m).map Cli.ent := by
  have hg : getC m c.id = some c := by
    cases hg : getC m c.id with
    | none => exact absurd rfl (getC_none hg c hc)
    | some d =>
      obtain ⟨h1, h2⟩ := getC_some hg
      obtain ⟨i, hi⟩ := List.mem_iff_getElem?.1 h1
      obtain ⟨j, hj⟩ := List.mem_iff_getElem?.1 hc
      have := h.at hi hj h2
      subst this
      rw [← hi, hj]
  obtain ⟨j, h1, h2⟩ := mfind_some (i := 0) hg
  unfold mdel
  rw [h1]
  simp only [Nat.zero_add]
  rw [← erase_at h h2, erase_map]

/-! ### In memory -/
/-- What was there is there still, but for some rows. -/
structure Chg (rs : List Nat) (σ σ' : AHeap) : Prop where
  le : σ.next ≤ σ'.next
  same : ∀ i, i < σ.next → i ∉ rs → σ'.get i = σ.get i
theorem Chg.refl (rs : List Nat) (σ : AHeap) : Chg rs σ σ := ⟨Nat.le_refl _, fun _ _ _ => rfl⟩
theorem Chg.ofExt {rs : List Nat} {σ σ' : AHeap} (h : Ext σ σ') : Chg rs σ σ' := ⟨h.le, fun i hi _ => h.same i hi⟩
theorem Chg.trans {rs : List Nat} {σ σ1 σ2 : AHeap} (h : Chg rs σ σ1) (k : Chg rs σ1 σ2) : Chg rs σ σ2 :=
  ⟨Nat.le_trans h.le k.le, fun i hi hn => (k.same i (Nat.lt_of_lt_of_le hi h.le) hn).trans (h.same i hi hn)⟩
theorem Chg.mono {rs rs' : List Nat} {σ σ' : AHeap} (h : Chg rs σ σ') (hs : ∀ i, i < σ.next → i ∈ rs → i ∈ rs') : Chg rs' σ σ' :=
  ⟨h.le, fun i hi hn => h.same i hi fun q => hn (hs i hi q)⟩
theorem Chg.alloc {rs : List Nat} {σ σ' : AHeap} (h : Chg rs σ σ') (o : AObj) : Chg rs σ (σ'.alloc o) :=
  h.trans (.ofExt inferInstance)
theorem Chg.set {rs : List Nat} {σ σ' : AHeap} (h : Chg rs σ σ') {i : Nat} (o : AObj) (hi : i ∈ rs ∨ σ.next ≤ i) : Chg rs σ (σ'.set i o) :=
  ⟨h.le, fun j hj hn => by
    rw [get_set_ne]; exact h.same j hj hn
    intro q; subst q
    rcases hi with hi | hi
    · exact hn hi
    · omega⟩
theorem Chg.sub {rs : List Nat} {σ σ' : AHeap} (h : Chg rs σ σ') (hwf : σ.WF) (hr : ∀ i ∈ rs, σ.next ≤ i) : Sub σ' σ :=
  ⟨h.le, fun i hi => .inr (h.same i hi fun q => by have := hr i q; omega).symm, hwf⟩

def mapV (mp : Nat) (c : Conf) (now : Int) : List AV := c.enc ++ [.int .i64 now, .map mp]
def rowV (sl : AV) (c : Conf) (now : Int) : List AV := c.enc ++ [sl, .int .i64 now]
/-- A limiter with a map. -/
structure IA (σ : AHeap) (r mp : Nat) (L : Lim) : Prop where
  ok : LOK L
  rl : r < σ.next
  ml : mp < σ.next
  ne : r ≠ mp
  cell : σ.get r = .own 7 (mapV mp L.conf L.now)
  ex : ∃ m : List Cli, m.Perm L.cl ∧ σ.get mp = .amap (m.map Cli.ent)
/-- The specification's limiter. -/
structure RB (σ : AHeap) (r i : Nat) (L : Lim) : Prop where
  ok : LOK L
  rl : r < σ.next
  ex : ∃ sl : AV, σ.get r = .own 7 (rowV sl L.conf L.now) ∧ (((sl = .nils ∨ sl = .slice0) ∧ L.cl = [] ∧ i = r) ∨ (sl = .slice i 0 L.cl.length ∧ i < σ.next ∧ i ≠ r ∧ σ.get i = .own 5 (L.cl.flatMap Cli.enc)))
theorem IA.chg {rs : List Nat} {σ σ' : AHeap} {r mp : Nat} {L : Lim} (h : IA σ r mp L) (hE : Chg rs σ σ') (h1 : r ∉ rs) (h2 : mp ∉ rs) : IA σ' r mp L :=
  ⟨h.ok, Nat.lt_of_lt_of_le h.rl hE.le, Nat.lt_of_lt_of_le h.ml hE.le, h.ne, by rw [hE.same r h.rl h1]; exact h.cell, by
    obtain ⟨m, p, q⟩ := h.ex; exact ⟨m, p, by rw [hE.same mp h.ml h2]; exact q⟩⟩
theorem IA.ext {σ σ' : AHeap} {r mp : Nat} {L : Lim} (h : IA σ r mp L) [hE : Ext σ σ'] : IA σ' r mp L := h.chg (.ofExt (rs := []) hE) (by simp) (by simp)
theorem rowV_len (sl : AV) (c : Conf) (n : Int) : (rowV sl c n).length = 7 := rfl
theorem mapV_rl {n mp : Nat} (h : mp < n) (c : Conf) (z : Int) : (AObj.own 7 (mapV mp c z)).rl n = true := by
  simp [AObj.rl, mapV, Conf.enc, AV.rls, AV.rl, h]
theorem rowV_rl {n : Nat} {sl : AV} (h : sl.rl n = true) (c : Conf) (z : Int) : (AObj.own 7 (rowV sl c z)).rl n = true := by
  simp [AObj.rl, rowV, Conf.enc, AV.rls, AV.rl, h]
theorem ents_rl (n : Nat) (m : List Cli) : (AObj.amap (m.map Cli.ent)).rl n = true := by
  simp [AObj.rl, Cli.ent, Cli.kn, AV.rl, AV.rls]
theorem encs_rl (n s : Nat) (m : List Cli) : (AObj.own s (m.flatMap Cli.enc)).rl n = true := by
  simp only [AObj.rl]
  rw [AV.rls_all, List.all_eq_true]
  intro x hx
  obtain ⟨c, _, hc⟩ := List.mem_flatMap.1 hx
  simp [Cli.enc] at hc
  rcases hc with rfl | rfl | rfl | rfl | rfl <;> rfl

def lim0 (c : Conf) : Lim := ⟨c, 0, []⟩
theorem lim0_ok {c : Conf} (h : confB c = true) : LOK (lim0 c) :=
  ⟨h, by simp [lim0], by have := conf_bd h; simp [lim0]; omega, .nil, fun _ h => by cases h⟩
theorem conf_rl (n s : Nat) (c : Conf) : (AObj.own s c.enc).rl n = true := by simp [AObj.rl, Conf.enc, AV.rls, AV.rl]
theorem build49 (c : Conf) (mp : Nat) : abuild Try.prog 49 [(0, .agg c.enc), (2, .map mp)] = some (.agg (mapV mp c 0)) := by
  simp [abuild, tk49, ze49, sz23, sz3, sz47, afill, AV.cellsA, AV.sc, Conf.enc, mapV]
theorem build52 (c : Conf) : abuild Try.prog 52 [(0, .agg c.enc)] = some (.agg (rowV .nils c 0)) := by
  simp [abuild, tk52, ze52, sz23, sz3, sz50, afill, AV.cellsA, AV.sc, Conf.enc, rowV]
theorem box_conf (c : Conf) (σ : AHeap) : abox (.agg c.enc) σ = some (.ptr σ.next 0, σ.alloc (.own 5 c.enc)) := rfl
theorem box_map (mp : Nat) (c : Conf) (z : Int) (σ : AHeap) : abox (.agg (mapV mp c z)) σ = some (.ptr σ.next 0, σ.alloc (.own 7 (mapV mp c z))) := rfl
theorem box_row (sl : AV) (c : Conf) (z : Int) (σ : AHeap) : abox (.agg (rowV sl c z)) σ = some (.ptr σ.next 0, σ.alloc (.own 7 (rowV sl c z))) := rfl
theorem load_conf (c : Conf) (σ : AHeap) (i : Nat) (h : σ.cells i = some c.enc) : aload Try.prog 23 (.ptr i 0) σ = some (.agg c.enc) := by
  simp [aload, h, tk23, sz23, Conf.enc, TK.is, TK.agg]
theorem new_calls (c : Conf) (σ : AHeap) : ACalls Try.prog 12 [.agg c.enc] σ (fun r σ' => Ext σ σ' ∧ ((confB c = false ∧ r = .nilp) ∨ (confB c = true ∧ ∃ i mp, r = .ptr i 0 ∧ σ.next ≤ i ∧ σ.next ≤ mp ∧ IA σ' i mp (lim0 c)))) := by
  refine acalls_of S0_ok k12 (by simp) (fun hwf hrl => ?_)
  unfold c12
  have hl := load_conf c (σ.alloc (.own 5 c.enc)) σ.next (cells_alloc_self rfl)
  have hl2 := fun mp => load_conf c ((σ.alloc (.own 5 c.enc)).alloc mp) σ.next (by rw [cells_alloc_ne (by first | omega | (simp only [AHeap.next_alloc, AHeap.next_set]; omega) | (simp only [AHeap.next_alloc, AHeap.next_set] at *; omega))]; exact cells_alloc_self rfl)
  simp -dsimp -implicitDefEqProofs (disch := (first | omega | (simp -implicitDefEqProofs only [nx]; done) | (simp -implicitDefEqProofs only [nx]; omega))) only [↓sd, su, ofC, ofV, argT, List.getD_cons_zero, List.getD_cons_succ, List.getElem?_cons_zero, List.getElem?_cons_succ, List.map_cons, List.map_nil, List.nil_append, List.cons_append, List.append_nil, Option.map_some, Option.map_none, ob, alenX, alenM, alook, amakeMap, aupdate, adelete, abin, aint, acmp, aun, aconv, aloadO, apart, afield, afaddr, aiaddrS, aiaddrA, aindex, aslice, abnd, alenS, amaxmin, amxs, amx, aalloc, abuildSlice, amake, astore, aappend, acopy, asrcO, afill, AV.cellsA, AV.sc, TK.is, TK.agg, List.length_cons, List.length_nil, List.all_cons, List.all_nil, mb, beq_self_eq_true, List.length_set, Int.zero_sub, List.set_cons_zero, List.set_cons_succ, List.take_zero, List.drop_zero, List.take_succ_cons, List.drop_succ_cons, or_false, false_or, or_true, true_or, or_self, gt_iff_lt, ge_iff_le, Nat.lt_irrefl, Nat.reduceGT, Int.reduceLT, Int.reduceLE, Int.reduceNeg, Int.reduceEq, Nat.not_lt_zero, List.replicate_succ, List.replicate_zero, List.flatten_cons, List.flatten_nil, List.length_replicate, Nat.le_refl, Nat.sub_zero, cast0, cast1, Int.cast_ofNat_Int, Int.toNat_natCast, Bool.not_not, Bool.true_and, Bool.and_true, Bool.false_and, Bool.and_false, Bool.or_true, Bool.true_or, Bool.or_false, Bool.false_or, decide_true, decide_false, Bool.not_true, Bool.not_false, beq_iff_eq, Bool.not_eq_true', decide_eq_true_eq, decide_eq_false_iff_not, if_true, if_false, ite_true, ite_false, reduceCtorEq, Bool.false_eq_true, ne_eq, not_false_eq_true, not_true_eq_false, true_and, and_true, and_self, false_and, and_false, Nat.reduceAdd, Nat.reduceSub, Nat.reduceMul, Nat.reduceLT, Nat.reduceLeDiff, Nat.reduceEqDiff, Nat.reduceBEq, Int.reduceToNat, Nat.add_zero, Nat.zero_add, Nat.mul_one, Nat.one_mul, tb, S0, box_conf, hl, hl2]
  refine call_by (check_calls c _) ?_
  rintro r σ' ⟨rfl, rfl⟩
  cases hb : confB c with
  | false =>
    have hF : confF c = 3 := by unfold confF; rw [hb]; rfl
    simp -dsimp -implicitDefEqProofs (disch := (first | omega | (simp -implicitDefEqProofs only [nx]; done) | (simp -implicitDefEqProofs only [nx]; omega))) only [↓sd, su, ofC, ofV, argT, Option.map_some, Option.map_none, lb, ob, alenX, alenM, alook, amakeMap, aupdate, adelete, abin, aint, acmp, aun, aconv, aloadO, apart, afield, afaddr, aiaddrS, aiaddrA, aindex, aslice, abnd, alenS, amaxmin, amxs, amx, aalloc, abox, abuildSlice, amake, astore, aappend, acopy, asrcO, afill, AV.cellsA, AV.sc, TK.is, TK.agg, mb, nb, Nat.reduceGT, Int.reduceLT, Int.reduceLE, Int.reduceNeg, Int.reduceEq, decide_true, decide_false, decide_eq_true_eq, decide_eq_false_iff_not, if_true, if_false, ite_true, ite_false, reduceCtorEq, ne_eq, Nat.reduceAdd, Nat.reduceSub, Nat.reduceMul, Nat.reduceLT, Nat.reduceLeDiff, Nat.reduceEqDiff, Nat.reduceBEq, Int.reduceToNat, tb, S0, hF]
    refine ret_pure (σ := σ) (Nat.le_refl _) (by repeat (first | exact Sub.refl ‹_› | (refine Sub.refl ?_; (repeat (first | assumption | refine WF.alloc ?_ (by first | exact rl_ints | assumption | rfl) | refine WF.set ?_ _ (by first | exact rl_ints | assumption | rfl))); done) | refine Sub.alloc2 ?_ (by rfl) (by first | exact rl_ints | assumption | rfl) | refine Sub.allocD ?_ (by rfl) _ | refine Sub.alloc ?_ _ | refine Sub.set2 ?_ _ (by first | exact rl_ints | assumption | rfl) | refine Sub.set ?_ (by (try simp only [AHeap.next_alloc, AHeap.next_set]); omega) _)) ?_ ?_
    · simp (disch := (first | omega | (simp -implicitDefEqProofs only [nx]; done) | (simp -implicitDefEqProofs only [nx]; omega))) only [only, List.mem_cons, List.not_mem_nil, forall_eq_or_imp, forall_eq, List.contains_cons, List.contains_nil, Nat.reduceBEq, rl_int, rl_bool, AV.rl, AV.rls, ↓sd, su, ofC, ofV, argT, Option.map_some, Option.map_none, lb, nb, Nat.reduceGT, Int.reduceLT, Int.reduceLE, Int.reduceNeg, Int.reduceEq, decide_true, decide_false, decide_eq_true_eq, decide_eq_false_iff_not, if_true, if_false, ite_true, ite_false, reduceCtorEq, ne_eq, Nat.reduceAdd, Nat.reduceSub, Nat.reduceMul, Nat.reduceLT, Nat.reduceLeDiff, Nat.reduceEqDiff, Nat.reduceBEq, Int.reduceToNat]
    · simp (disch := (first | omega | (simp -implicitDefEqProofs only [nx]; done) | (simp -implicitDefEqProofs only [nx]; omega))) only [only, List.mem_cons, List.not_mem_nil, forall_eq_or_imp, forall_eq, List.contains_cons, List.contains_nil, Nat.reduceBEq, rl_int, rl_bool, AV.rl, AV.rls, ↓sd, su, ofC, ofV, argT, Option.map_some, Option.map_none, lb, nb, Nat.reduceGT, Int.reduceLT, Int.reduceLE, Int.reduceNeg, Int.reduceEq, decide_true, decide_false, decide_eq_true_eq, decide_eq_false_iff_not, if_true, if_false, ite_true, ite_false, reduceCtorEq, ne_eq, Nat.reduceAdd, Nat.reduceSub, Nat.reduceMul, Nat.reduceLT, Nat.reduceLeDiff, Nat.reduceEqDiff, Nat.reduceBEq, Int.reduceToNat, hb]
      exact Ext.refl _
  | true =>
    have hF : confF c = 0 := by unfold confF; rw [hb]; rfl
    simp -dsimp -implicitDefEqProofs (disch := (first | omega | (simp -implicitDefEqProofs only [nx]; done) | (simp -implicitDefEqProofs only [nx]; omega))) only [↓sd, su, ofC, ofV, argT, List.getD_cons_zero, List.getD_cons_succ, List.getElem?_cons_zero, List.getElem?_cons_succ, List.map_cons, List.map_nil, List.nil_append, List.cons_append, List.append_nil, Option.map_some, Option.map_none, ob, alenX, alenM, alook, amakeMap, aupdate, adelete, abin, aint, acmp, aun, aconv, aloadO, apart, afield, afaddr, aiaddrS, aiaddrA, aindex, aslice, abnd, alenS, amaxmin, amxs, amx, aalloc, abuildSlice, amake, astore, aappend, acopy, asrcO, afill, AV.cellsA, AV.sc, TK.is, TK.agg, List.length_cons, List.length_nil, List.all_cons, List.all_nil, mb, beq_self_eq_true, List.length_set, Int.zero_sub, List.set_cons_zero, List.set_cons_succ, List.take_zero, List.drop_zero, List.take_succ_cons, List.drop_succ_cons, or_false, false_or, or_true, true_or, or_self, gt_iff_lt, ge_iff_le, Nat.lt_irrefl, Nat.reduceGT, Int.reduceLT, Int.reduceLE, Int.reduceNeg, Int.reduceEq, Nat.not_lt_zero, List.replicate_succ, List.replicate_zero, List.flatten_cons, List.flatten_nil, List.length_replicate, Nat.le_refl, Nat.sub_zero, cast0, cast1, Int.cast_ofNat_Int, Int.toNat_natCast, Bool.not_not, Bool.true_and, Bool.and_true, Bool.false_and, Bool.and_false, Bool.or_true, Bool.true_or, Bool.or_false, Bool.false_or, decide_true, decide_false, Bool.not_true, Bool.not_false, beq_iff_eq, Bool.not_eq_true', decide_eq_true_eq, decide_eq_false_iff_not, if_true, if_false, ite_true, ite_false, reduceCtorEq, Bool.false_eq_true, ne_eq, not_false_eq_true, not_true_eq_false, true_and, and_true, and_self, false_and, and_false, Nat.reduceAdd, Nat.reduceSub, Nat.reduceMul, Nat.reduceLT, Nat.reduceLeDiff, Nat.reduceEqDiff, Nat.reduceBEq, Int.reduceToNat, Nat.add_zero, Nat.zero_add, Nat.mul_one, Nat.one_mul, tb, S0, hF, hl, box_map, build49]
    refine ret_pure (σ := ((σ.alloc (.own 5 c.enc)).alloc (.amap [])).alloc (.own 7 (mapV (σ.next + 1) c 0))) (by first | omega | (simp only [AHeap.next_alloc, AHeap.next_set]; omega) | (simp only [AHeap.next_alloc, AHeap.next_set] at *; omega)) (Sub.refl ?_) ?_ ?_
    · exact WF.alloc (WF.alloc (WF.alloc hwf (conf_rl _ _ _)) rfl) (mapV_rl (by first | omega | (simp only [AHeap.next_alloc, AHeap.next_set]; omega) | (simp only [AHeap.next_alloc, AHeap.next_set] at *; omega)) _ _)
    · simp (disch := (first | omega | (simp -implicitDefEqProofs only [nx]; done) | (simp -implicitDefEqProofs only [nx]; omega))) only [only, List.mem_cons, List.not_mem_nil, forall_eq_or_imp, forall_eq, List.contains_cons, List.contains_nil, Nat.reduceBEq, rl_int, rl_bool, AV.rl, AV.rls, ↓sd, su, ofC, ofV, argT, Option.map_some, Option.map_none, lb, nb, Nat.reduceGT, Int.reduceLT, Int.reduceLE, Int.reduceNeg, Int.reduceEq, decide_true, decide_false, decide_eq_true_eq, decide_eq_false_iff_not, if_true, if_false, ite_true, ite_false, reduceCtorEq, ne_eq, Nat.reduceAdd, Nat.reduceSub, Nat.reduceMul, Nat.reduceLT, Nat.reduceLeDiff, Nat.reduceEqDiff, Nat.reduceBEq, Int.reduceToNat, AHeap.next_alloc]
      omega
    · simp (disch := (first | omega | (simp -implicitDefEqProofs only [nx]; done) | (simp -implicitDefEqProofs only [nx]; omega))) only [only, List.mem_cons, List.not_mem_nil, forall_eq_or_imp, forall_eq, List.contains_cons, List.contains_nil, Nat.reduceBEq, rl_int, rl_bool, AV.rl, AV.rls, ↓sd, su, ofC, ofV, argT, Option.map_some, Option.map_none, lb, nb, Nat.reduceGT, Int.reduceLT, Int.reduceLE, Int.reduceNeg, Int.reduceEq, decide_true, decide_false, decide_eq_true_eq, decide_eq_false_iff_not, if_true, if_false, ite_true, ite_false, reduceCtorEq, ne_eq, Nat.reduceAdd, Nat.reduceSub, Nat.reduceMul, Nat.reduceLT, Nat.reduceLeDiff, Nat.reduceEqDiff, Nat.reduceBEq, Int.reduceToNat, hb]
      refine ⟨inferInstance, _, σ.next + 1, rfl, (by first | omega | (simp only [AHeap.next_alloc, AHeap.next_set]; omega) | (simp only [AHeap.next_alloc, AHeap.next_set] at *; omega)), (by first | omega | (simp only [AHeap.next_alloc, AHeap.next_set]; omega) | (simp only [AHeap.next_alloc, AHeap.next_set] at *; omega)), lim0_ok hb, (by first | omega | (simp only [AHeap.next_alloc, AHeap.next_set]; omega) | (simp only [AHeap.next_alloc, AHeap.next_set] at *; omega)), (by first | omega | (simp only [AHeap.next_alloc, AHeap.next_set]; omega) | (simp only [AHeap.next_alloc, AHeap.next_set] at *; omega)), (by first | omega | (simp only [AHeap.next_alloc, AHeap.next_set]; omega) | (simp only [AHeap.next_alloc, AHeap.next_set] at *; omega)), get_alloc_self rfl, [], .refl _, ?_⟩
      rw [get_alloc_ne (by first | omega | (simp only [AHeap.next_alloc, AHeap.next_set]; omega) | (simp only [AHeap.next_alloc, AHeap.next_set] at *; omega))]
      exact get_alloc_self rfl
theorem refNew_calls (c : Conf) (σ : AHeap) : ACalls Try.prog 14 [.agg c.enc] σ (fun r σ' => Ext σ σ' ∧ ((confB c = false ∧ r = .nilp) ∨ (confB c = true ∧ ∃ i, r = .ptr i 0 ∧ σ.next ≤ i ∧ RB σ' i i (lim0 c)))) := by
  refine acalls_of S0_ok k14 (by simp) (fun hwf hrl => ?_)
  unfold c14
  have hl := load_conf c (σ.alloc (.own 5 c.enc)) σ.next (cells_alloc_self rfl)
  simp -dsimp -implicitDefEqProofs (disch := (first | omega | (simp -implicitDefEqProofs only [nx]; done) | (simp -implicitDefEqProofs only [nx]; omega))) only [↓sd, su, ofC, ofV, argT, List.getD_cons_zero, List.getD_cons_succ, List.getElem?_cons_zero, List.getElem?_cons_succ, List.map_cons, List.map_nil, List.nil_append, List.cons_append, List.append_nil, Option.map_some, Option.map_none, ob, alenX, alenM, alook, amakeMap, aupdate, adelete, abin, aint, acmp, aun, aconv, aloadO, apart, afield, afaddr, aiaddrS, aiaddrA, aindex, aslice, abnd, alenS, amaxmin, amxs, amx, aalloc, abuildSlice, amake, astore, aappend, acopy, asrcO, afill, AV.cellsA, AV.sc, TK.is, TK.agg, List.length_cons, List.length_nil, List.all_cons, List.all_nil, mb, beq_self_eq_true, List.length_set, Int.zero_sub, List.set_cons_zero, List.set_cons_succ, List.take_zero, List.drop_zero, List.take_succ_cons, List.drop_succ_cons, or_false, false_or, or_true, true_or, or_self, gt_iff_lt, ge_iff_le, Nat.lt_irrefl, Nat.reduceGT, Int.reduceLT, Int.reduceLE, Int.reduceNeg, Int.reduceEq, Nat.not_lt_zero, List.replicate_succ, List.replicate_zero, List.flatten_cons, List.flatten_nil, List.length_replicate, Nat.le_refl, Nat.sub_zero, cast0, cast1, Int.cast_ofNat_Int, Int.toNat_natCast, Bool.not_not, Bool.true_and, Bool.and_true, Bool.false_and, Bool.and_false, Bool.or_true, Bool.true_or, Bool.or_false, Bool.false_or, decide_true, decide_false, Bool.not_true, Bool.not_false, beq_iff_eq, Bool.not_eq_true', decide_eq_true_eq, decide_eq_false_iff_not, if_true, if_false, ite_true, ite_false, reduceCtorEq, Bool.false_eq_true, ne_eq, not_false_eq_true, not_true_eq_false, true_and, and_true, and_self, false_and, and_false, Nat.reduceAdd, Nat.reduceSub, Nat.reduceMul, Nat.reduceLT, Nat.reduceLeDiff, Nat.reduceEqDiff, Nat.reduceBEq, Int.reduceToNat, Nat.add_zero, Nat.zero_add, Nat.mul_one, Nat.one_mul, tb, S0, box_conf, hl]
  refine call_by (refCheck_calls c _) ?_
  rintro r σ' ⟨rfl, rfl⟩
  cases hb : confB c with
  | false =>
    have hF : confF c = 3 := by unfold confF; rw [hb]; rfl
    simp -dsimp -implicitDefEqProofs (disch := (first | omega | (simp -implicitDefEqProofs only [nx]; done) | (simp -implicitDefEqProofs only [nx]; omega))) only [↓sd, su, ofC, ofV, argT, Option.map_some, Option.map_none, lb, ob, alenX, alenM, alook, amakeMap, aupdate, adelete, abin, aint, acmp, aun, aconv, aloadO, apart, afield, afaddr, aiaddrS, aiaddrA, aindex, aslice, abnd, alenS, amaxmin, amxs, amx, aalloc, abox, abuildSlice, amake, astore, aappend, acopy, asrcO, afill, AV.cellsA, AV.sc, TK.is, TK.agg, mb, nb, Nat.reduceGT, Int.reduceLT, Int.reduceLE, Int.reduceNeg, Int.reduceEq, decide_true, decide_false, decide_eq_true_eq, decide_eq_false_iff_not, if_true, if_false, ite_true, ite_false, reduceCtorEq, ne_eq, Nat.reduceAdd, Nat.reduceSub, Nat.reduceMul, Nat.reduceLT, Nat.reduceLeDiff, Nat.reduceEqDiff, Nat.reduceBEq, Int.reduceToNat, tb, S0, hF]
    refine ret_pure (σ := σ) (Nat.le_refl _) (by repeat (first | exact Sub.refl ‹_› | (refine Sub.refl ?_; (repeat (first | assumption | refine WF.alloc ?_ (by first | exact rl_ints | assumption | rfl) | refine WF.set ?_ _ (by first | exact rl_ints | assumption | rfl))); done) | refine Sub.alloc2 ?_ (by rfl) (by first | exact rl_ints | assumption | rfl) | refine Sub.allocD ?_ (by rfl) _ | refine Sub.alloc ?_ _ | refine Sub.set2 ?_ _ (by first | exact rl_ints | assumption | rfl) | refine Sub.set ?_ (by (try simp only [AHeap.next_alloc, AHeap.next_set]); omega) _)) ?_ ?_
    · simp (disch := (first | omega | (simp -implicitDefEqProofs only [nx]; done) | (simp -implicitDefEqProofs only [nx]; omega))) only [only, List.mem_cons, List.not_mem_nil, forall_eq_or_imp, forall_eq, List.contains_cons, List.contains_nil, Nat.reduceBEq, rl_int, rl_bool, AV.rl, AV.rls, ↓sd, su, ofC, ofV, argT, Option.map_some, Option.map_none, lb, nb, Nat.reduceGT, Int.reduceLT, Int.reduceLE, Int.reduceNeg, Int.reduceEq, decide_true, decide_false, decide_eq_true_eq, decide_eq_false_iff_not, if_true, if_false, ite_true, ite_false, reduceCtorEq, ne_eq, Nat.reduceAdd, Nat.reduceSub, Nat.reduceMul, Nat.reduceLT, Nat.reduceLeDiff, Nat.reduceEqDiff, Nat.reduceBEq, Int.reduceToNat]
    · simp (disch := (first | omega | (simp -implicitDefEqProofs only [nx]; done) | (simp -implicitDefEqProofs only [nx]; omega))) only [only, List.mem_cons, List.not_mem_nil, forall_eq_or_imp, forall_eq, List.contains_cons, List.contains_nil, Nat.reduceBEq, rl_int, rl_bool, AV.rl, AV.rls, ↓sd, su, ofC, ofV, argT, Option.map_some, Option.map_none, lb, nb, Nat.reduceGT, Int.reduceLT, Int.reduceLE, Int.reduceNeg, Int.reduceEq, decide_true, decide_false, decide_eq_true_eq, decide_eq_false_iff_not, if_true, if_false, ite_true, ite_false, reduceCtorEq, ne_eq, Nat.reduceAdd, Nat.reduceSub, Nat.reduceMul, Nat.reduceLT, Nat.reduceLeDiff, Nat.reduceEqDiff, Nat.reduceBEq, Int.reduceToNat, hb]
      exact Ext.refl _
  | true =>
    have hF : confF c = 0 := by unfold confF; rw [hb]; rfl
    simp -dsimp -implicitDefEqProofs (disch := (first | omega | (simp -implicitDefEqProofs only [nx]; done) | (simp -implicitDefEqProofs only [nx]; omega))) only [↓sd, su, ofC, ofV, argT, List.getD_cons_zero, List.getD_cons_succ, List.getElem?_cons_zero, List.getElem?_cons_succ, List.map_cons, List.map_nil, List.nil_append, List.cons_append, List.append_nil, Option.map_some, Option.map_none, ob, alenX, alenM, alook, amakeMap, aupdate, adelete, abin, aint, acmp, aun, aconv, aloadO, apart, afield, afaddr, aiaddrS, aiaddrA, aindex, aslice, abnd, alenS, amaxmin, amxs, amx, aalloc, abuildSlice, amake, astore, aappend, acopy, asrcO, afill, AV.cellsA, AV.sc, TK.is, TK.agg, List.length_cons, List.length_nil, List.all_cons, List.all_nil, mb, beq_self_eq_true, List.length_set, Int.zero_sub, List.set_cons_zero, List.set_cons_succ, List.take_zero, List.drop_zero, List.take_succ_cons, List.drop_succ_cons, or_false, false_or, or_true, true_or, or_self, gt_iff_lt, ge_iff_le, Nat.lt_irrefl, Nat.reduceGT, Int.reduceLT, Int.reduceLE, Int.reduceNeg, Int.reduceEq, Nat.not_lt_zero, List.replicate_succ, List.replicate_zero, List.flatten_cons, List.flatten_nil, List.length_replicate, Nat.le_refl, Nat.sub_zero, cast0, cast1, Int.cast_ofNat_Int, Int.toNat_natCast, Bool.not_not, Bool.true_and, Bool.and_true, Bool.false_and, Bool.and_false, Bool.or_true, Bool.true_or, Bool.or_false, Bool.false_or, decide_true, decide_false, Bool.not_true, Bool.not_false, beq_iff_eq, Bool.not_eq_true', decide_eq_true_eq, decide_eq_false_iff_not, if_true, if_false, ite_true, ite_false, reduceCtorEq, Bool.false_eq_true, ne_eq, not_false_eq_true, not_true_eq_false, true_and, and_true, and_self, false_and, and_false, Nat.reduceAdd, Nat.reduceSub, Nat.reduceMul, Nat.reduceLT, Nat.reduceLeDiff, Nat.reduceEqDiff, Nat.reduceBEq, Int.reduceToNat, Nat.add_zero, Nat.zero_add, Nat.mul_one, Nat.one_mul, tb, S0, hF, hl, box_row, build52]
    refine ret_pure (σ := (σ.alloc (.own 5 c.enc)).alloc (.own 7 (rowV .nils c 0))) (by first | omega | (simp only [AHeap.next_alloc, AHeap.next_set]; omega) | (simp only [AHeap.next_alloc, AHeap.next_set] at *; omega)) (Sub.refl ?_) ?_ ?_
    · exact WF.alloc (WF.alloc hwf (conf_rl _ _ _)) (rowV_rl rfl _ _)
    · simp (disch := (first | omega | (simp -implicitDefEqProofs only [nx]; done) | (simp -implicitDefEqProofs only [nx]; omega))) only [only, List.mem_cons, List.not_mem_nil, forall_eq_or_imp, forall_eq, List.contains_cons, List.contains_nil, Nat.reduceBEq, rl_int, rl_bool, AV.rl, AV.rls, ↓sd, su, ofC, ofV, argT, Option.map_some, Option.map_none, lb, nb, Nat.reduceGT, Int.reduceLT, Int.reduceLE, Int.reduceNeg, Int.reduceEq, decide_true, decide_false, decide_eq_true_eq, decide_eq_false_iff_not, if_true, if_false, ite_true, ite_false, reduceCtorEq, ne_eq, Nat.reduceAdd, Nat.reduceSub, Nat.reduceMul, Nat.reduceLT, Nat.reduceLeDiff, Nat.reduceEqDiff, Nat.reduceBEq, Int.reduceToNat, AHeap.next_alloc]
      omega
    · simp (disch := (first | omega | (simp -implicitDefEqProofs only [nx]; done) | (simp -implicitDefEqProofs only [nx]; omega))) only [only, List.mem_cons, List.not_mem_nil, forall_eq_or_imp, forall_eq, List.contains_cons, List.contains_nil, Nat.reduceBEq, rl_int, rl_bool, AV.rl, AV.rls, ↓sd, su, ofC, ofV, argT, Option.map_some, Option.map_none, lb, nb, Nat.reduceGT, Int.reduceLT, Int.reduceLE, Int.reduceNeg, Int.reduceEq, decide_true, decide_false, decide_eq_true_eq, decide_eq_false_iff_not, if_true, if_false, ite_true, ite_false, reduceCtorEq, ne_eq, Nat.reduceAdd, Nat.reduceSub, Nat.reduceMul, Nat.reduceLT, Nat.reduceLeDiff, Nat.reduceEqDiff, Nat.reduceBEq, Int.reduceToNat, hb]
      refine ⟨inferInstance, _, rfl, (by first | omega | (simp only [AHeap.next_alloc, AHeap.next_set]; omega) | (simp only [AHeap.next_alloc, AHeap.next_set] at *; omega)), lim0_ok hb, (by first | omega | (simp only [AHeap.next_alloc, AHeap.next_set]; omega) | (simp only [AHeap.next_alloc, AHeap.next_set] at *; omega)), .nils, get_alloc_self rfl, .inl ⟨.inl rfl, rfl, rfl⟩⟩

/-! ### Level -/
theorem look_ent {σ : AHeap} {r mp : Nat} {L : Lim} (h : IA σ r mp L) (z : Int) : alook Try.prog 47 (.map mp) (.int .i64 z) true σ = some (match getC L.cl z with
    | some c => .tup [c.kn, .bool true]
    | none => .tup [.agg [.int .i64 0, .int .i64 0, .bool false, .int .i64 0], .bool false]) := by
  obtain ⟨m, hp, hm⟩ := h.ex
  have hg := getC_perm h.ok.sorted hp z
  unfold alook
  rw [tk47]
  simp only [hm, tk3, keys_ent, and_self, if_true]
  cases hc : getC L.cl z with
  | none =>
    rw [mfind_none (hg.trans hc), zv54]
  | some c =>
    obtain ⟨j, h1, h2⟩ := mfind_some (i := 0) (hg.trans hc)
    rw [h1]
theorem eqA (r o : Nat) : aeq Try.prog 26 (.ptr r o) .nilp = some false := by simp [aeq, tk26]
theorem eqA0 : aeq Try.prog 26 .nilp .nilp = some true := by simp [aeq, tk26]
theorem eqB (r o : Nat) : aeq Try.prog 31 (.ptr r o) .nilp = some false := by simp [aeq, tk31]
theorem eqB0 : aeq Try.prog 31 .nilp .nilp = some true := by simp [aeq, tk31]
theorem level_calls (z : Int) (σ : AHeap) (r mp : Nat) (L : Lim) (h : IA σ r mp L) : ACalls Try.prog 17 [.ptr r 0, .int .i64 z] σ (fun v σ' => v = .tup [.int .i64 (levF L z).1, .bool (levF L z).2] ∧ Ext σ σ') := by
  refine acalls_of S0_ok k17 (by simp) (fun hwf hrl => ?_)
  unfold c17
  have hc := cells_of_own h.cell
  have hlk := look_ent h z
  unfold levF
  cases hg : getC L.cl z with
  | none =>
    rw [hg] at hlk
    simp only [] at hlk
    simp -dsimp -implicitDefEqProofs (disch := (first | omega | (simp -implicitDefEqProofs only [nx]; done) | (simp -implicitDefEqProofs only [nx]; omega))) only [↓sd, su, ofC, ofV, argT, List.getD_cons_zero, List.getD_cons_succ, List.getElem?_cons_zero, List.getElem?_cons_succ, List.map_cons, List.map_nil, List.nil_append, List.cons_append, List.append_nil, Option.map_some, Option.map_none, ob, alenX, alenM, amakeMap, aupdate, adelete, abin, aint, acmp, aun, aconv, aloadO, apart, afield, afaddr, aiaddrS, aiaddrA, aindex, aslice, abnd, alenS, amaxmin, amxs, amx, aalloc, abox, abuildSlice, amake, astore, aappend, acopy, asrcO, afill, AV.cellsA, AV.sc, TK.is, TK.agg, List.length_cons, List.length_nil, List.all_cons, List.all_nil, mb, beq_self_eq_true, List.length_set, Int.zero_sub, List.set_cons_zero, List.set_cons_succ, List.take_zero, List.drop_zero, List.take_succ_cons, List.drop_succ_cons, or_false, false_or, or_true, true_or, or_self, gt_iff_lt, ge_iff_le, Nat.lt_irrefl, Nat.reduceGT, Int.reduceLT, Int.reduceLE, Int.reduceNeg, Int.reduceEq, Nat.not_lt_zero, List.replicate_succ, List.replicate_zero, List.flatten_cons, List.flatten_nil, List.length_replicate, Nat.le_refl, Nat.sub_zero, cast0, cast1, Int.cast_ofNat_Int, Int.toNat_natCast, Bool.not_not, Bool.true_and, Bool.and_true, Bool.false_and, Bool.and_false, Bool.or_true, Bool.true_or, Bool.or_false, Bool.false_or, decide_true, decide_false, Bool.not_true, Bool.not_false, beq_iff_eq, Bool.not_eq_true', decide_eq_true_eq, decide_eq_false_iff_not, if_true, if_false, ite_true, ite_false, reduceCtorEq, Bool.false_eq_true, ne_eq, not_false_eq_true, not_true_eq_false, true_and, and_true, and_self, false_and, and_false, Nat.reduceAdd, Nat.reduceSub, Nat.reduceMul, Nat.reduceLT, Nat.reduceLeDiff, Nat.reduceEqDiff, Nat.reduceBEq, Int.reduceToNat, Nat.add_zero, Nat.zero_add, Nat.mul_one, Nat.one_mul, tb, S0, eqA, eqA0, hc, hlk, mapV, Conf.enc]
    refine ret_pure (σ := σ) (Nat.le_refl _) (by repeat (first | exact Sub.refl ‹_› | (refine Sub.refl ?_; (repeat (first | assumption | refine WF.alloc ?_ (by first | exact rl_ints | assumption | rfl) | refine WF.set ?_ _ (by first | exact rl_ints | assumption | rfl))); done) | refine Sub.alloc2 ?_ (by rfl) (by first | exact rl_ints | assumption | rfl) | refine Sub.allocD ?_ (by rfl) _ | refine Sub.alloc ?_ _ | refine Sub.set2 ?_ _ (by first | exact rl_ints | assumption | rfl) | refine Sub.set ?_ (by (try simp only [AHeap.next_alloc, AHeap.next_set]); omega) _)) ?_ ?_
    · simp (disch := (first | omega | (simp -implicitDefEqProofs only [nx]; done) | (simp -implicitDefEqProofs only [nx]; omega))) only [only, List.mem_cons, List.not_mem_nil, forall_eq_or_imp, forall_eq, List.contains_cons, List.contains_nil, Nat.reduceBEq, rl_int, rl_bool, AV.rl, AV.rls, ↓sd, su, ofC, ofV, argT, Option.map_some, Option.map_none, lb, nb, Nat.reduceGT, Int.reduceLT, Int.reduceLE, Int.reduceNeg, Int.reduceEq, decide_true, decide_false, decide_eq_true_eq, decide_eq_false_iff_not, if_true, if_false, ite_true, ite_false, reduceCtorEq, ne_eq, Nat.reduceAdd, Nat.reduceSub, Nat.reduceMul, Nat.reduceLT, Nat.reduceLeDiff, Nat.reduceEqDiff, Nat.reduceBEq, Int.reduceToNat]
    · simp (disch := (first | omega | (simp -implicitDefEqProofs only [nx]; done) | (simp -implicitDefEqProofs only [nx]; omega))) only [only, List.mem_cons, List.not_mem_nil, forall_eq_or_imp, forall_eq, List.contains_cons, List.contains_nil, Nat.reduceBEq, rl_int, rl_bool, AV.rl, AV.rls, ↓sd, su, ofC, ofV, argT, Option.map_some, Option.map_none, lb, nb, Nat.reduceGT, Int.reduceLT, Int.reduceLE, Int.reduceNeg, Int.reduceEq, decide_true, decide_false, decide_eq_true_eq, decide_eq_false_iff_not, if_true, if_false, ite_true, ite_false, reduceCtorEq, ne_eq, Nat.reduceAdd, Nat.reduceSub, Nat.reduceMul, Nat.reduceLT, Nat.reduceLeDiff, Nat.reduceEqDiff, Nat.reduceBEq, Int.reduceToNat]
      exact Ext.refl _
  | some c =>
    rw [hg] at hlk
    simp only [] at hlk
    simp -dsimp -implicitDefEqProofs (disch := (first | omega | (simp -implicitDefEqProofs only [nx]; done) | (simp -implicitDefEqProofs only [nx]; omega))) only [↓sd, su, ofC, ofV, argT, List.getD_cons_zero, List.getD_cons_succ, List.getElem?_cons_zero, List.getElem?_cons_succ, List.map_cons, List.map_nil, List.nil_append, List.cons_append, List.append_nil, Option.map_some, Option.map_none, ob, alenX, alenM, amakeMap, aupdate, adelete, abin, aint, acmp, aun, aconv, aloadO, apart, afield, afaddr, aiaddrS, aiaddrA, aindex, aslice, abnd, alenS, amaxmin, amxs, amx, aalloc, abox, abuildSlice, amake, astore, aappend, acopy, asrcO, afill, AV.cellsA, AV.sc, TK.is, TK.agg, List.length_cons, List.length_nil, List.all_cons, List.all_nil, mb, beq_self_eq_true, List.length_set, Int.zero_sub, List.set_cons_zero, List.set_cons_succ, List.take_zero, List.drop_zero, List.take_succ_cons, List.drop_succ_cons, or_false, false_or, or_true, true_or, or_self, gt_iff_lt, ge_iff_le, Nat.lt_irrefl, Nat.reduceGT, Int.reduceLT, Int.reduceLE, Int.reduceNeg, Int.reduceEq, Nat.not_lt_zero, List.replicate_succ, List.replicate_zero, List.flatten_cons, List.flatten_nil, List.length_replicate, Nat.le_refl, Nat.sub_zero, cast0, cast1, Int.cast_ofNat_Int, Int.toNat_natCast, Bool.not_not, Bool.true_and, Bool.and_true, Bool.false_and, Bool.and_false, Bool.or_true, Bool.true_or, Bool.or_false, Bool.false_or, decide_true, decide_false, Bool.not_true, Bool.not_false, beq_iff_eq, Bool.not_eq_true', decide_eq_true_eq, decide_eq_false_iff_not, if_true, if_false, ite_true, ite_false, reduceCtorEq, Bool.false_eq_true, ne_eq, not_false_eq_true, not_true_eq_false, true_and, and_true, and_self, false_and, and_false, Nat.reduceAdd, Nat.reduceSub, Nat.reduceMul, Nat.reduceLT, Nat.reduceLeDiff, Nat.reduceEqDiff, Nat.reduceBEq, Int.reduceToNat, Nat.add_zero, Nat.zero_add, Nat.mul_one, Nat.one_mul, tb, S0, eqA, eqA0, hc, hlk, mapV, Conf.enc, Cli.kn]
    refine ret_pure (σ := σ) (Nat.le_refl _) (by repeat (first | exact Sub.refl ‹_› | (refine Sub.refl ?_; (repeat (first | assumption | refine WF.alloc ?_ (by first | exact rl_ints | assumption | rfl) | refine WF.set ?_ _ (by first | exact rl_ints | assumption | rfl))); done) | refine Sub.alloc2 ?_ (by rfl) (by first | exact rl_ints | assumption | rfl) | refine Sub.allocD ?_ (by rfl) _ | refine Sub.alloc ?_ _ | refine Sub.set2 ?_ _ (by first | exact rl_ints | assumption | rfl) | refine Sub.set ?_ (by (try simp only [AHeap.next_alloc, AHeap.next_set]); omega) _)) ?_ ?_
    · simp (disch := (first | omega | (simp -implicitDefEqProofs only [nx]; done) | (simp -implicitDefEqProofs only [nx]; omega))) only [only, List.mem_cons, List.not_mem_nil, forall_eq_or_imp, forall_eq, List.contains_cons, List.contains_nil, Nat.reduceBEq, rl_int, rl_bool, AV.rl, AV.rls, ↓sd, su, ofC, ofV, argT, Option.map_some, Option.map_none, lb, nb, Nat.reduceGT, Int.reduceLT, Int.reduceLE, Int.reduceNeg, Int.reduceEq, decide_true, decide_false, decide_eq_true_eq, decide_eq_false_iff_not, if_true, if_false, ite_true, ite_false, reduceCtorEq, ne_eq, Nat.reduceAdd, Nat.reduceSub, Nat.reduceMul, Nat.reduceLT, Nat.reduceLeDiff, Nat.reduceEqDiff, Nat.reduceBEq, Int.reduceToNat]
    · simp (disch := (first | omega | (simp -implicitDefEqProofs only [nx]; done) | (simp -implicitDefEqProofs only [nx]; omega))) only [only, List.mem_cons, List.not_mem_nil, forall_eq_or_imp, forall_eq, List.contains_cons, List.contains_nil, Nat.reduceBEq, rl_int, rl_bool, AV.rl, AV.rls, ↓sd, su, ofC, ofV, argT, Option.map_some, Option.map_none, lb, nb, Nat.reduceGT, Int.reduceLT, Int.reduceLE, Int.reduceNeg, Int.reduceEq, decide_true, decide_false, decide_eq_true_eq, decide_eq_false_iff_not, if_true, if_false, ite_true, ite_false, reduceCtorEq, ne_eq, Nat.reduceAdd, Nat.reduceSub, Nat.reduceMul, Nat.reduceLT, Nat.reduceLeDiff, Nat.reduceEqDiff, Nat.reduceBEq, Int.reduceToNat]
      exact Ext.refl _
theorem level_nil (z : Int) (σ : AHeap) : ACalls Try.prog 17 [.nilp, .int .i64 z] σ (fun v σ' => v = .tup [.int .i64 0, .bool false] ∧ Ext σ σ') := by
  refine acalls_of S0_ok k17 (by simp) (fun hwf hrl => ?_)
  unfold c17
  simp -dsimp -implicitDefEqProofs (disch := (first | omega | (simp -implicitDefEqProofs only [nx]; done) | (simp -implicitDefEqProofs only [nx]; omega))) only [↓sd, su, ofC, ofV, argT, Option.map_some, Option.map_none, lb, ob, alenX, alenM, alook, amakeMap, aupdate, adelete, abin, aint, acmp, aun, aconv, aloadO, apart, afield, afaddr, aiaddrS, aiaddrA, aindex, aslice, abnd, alenS, amaxmin, amxs, amx, aalloc, abox, abuildSlice, amake, astore, aappend, acopy, asrcO, afill, AV.cellsA, AV.sc, TK.is, TK.agg, mb, nb, Nat.reduceGT, Int.reduceLT, Int.reduceLE, Int.reduceNeg, Int.reduceEq, decide_true, decide_false, decide_eq_true_eq, decide_eq_false_iff_not, if_true, if_false, ite_true, ite_false, reduceCtorEq, ne_eq, Nat.reduceAdd, Nat.reduceSub, Nat.reduceMul, Nat.reduceLT, Nat.reduceLeDiff, Nat.reduceEqDiff, Nat.reduceBEq, Int.reduceToNat, tb, S0, eqA, eqA0]
  refine ret_pure (σ := σ) (Nat.le_refl _) (by repeat (first | exact Sub.refl ‹_› | (refine Sub.refl ?_; (repeat (first | assumption | refine WF.alloc ?_ (by first | exact rl_ints | assumption | rfl) | refine WF.set ?_ _ (by first | exact rl_ints | assumption | rfl))); done) | refine Sub.alloc2 ?_ (by rfl) (by first | exact rl_ints | assumption | rfl) | refine Sub.allocD ?_ (by rfl) _ | refine Sub.alloc ?_ _ | refine Sub.set2 ?_ _ (by first | exact rl_ints | assumption | rfl) | refine Sub.set ?_ (by (try simp only [AHeap.next_alloc, AHeap.next_set]); omega) _)) ?_ ?_
  · simp (disch := (first | omega | (simp -implicitDefEqProofs only [nx]; done) | (simp -implicitDefEqProofs only [nx]; omega))) only [only, List.mem_cons, List.not_mem_nil, forall_eq_or_imp, forall_eq, List.contains_cons, List.contains_nil, Nat.reduceBEq, rl_int, rl_bool, AV.rl, AV.rls, ↓sd, su, ofC, ofV, argT, Option.map_some, Option.map_none, lb, nb, Nat.reduceGT, Int.reduceLT, Int.reduceLE, Int.reduceNeg, Int.reduceEq, decide_true, decide_false, decide_eq_true_eq, decide_eq_false_iff_not, if_true, if_false, ite_true, ite_false, reduceCtorEq, ne_eq, Nat.reduceAdd, Nat.reduceSub, Nat.reduceMul, Nat.reduceLT, Nat.reduceLeDiff, Nat.reduceEqDiff, Nat.reduceBEq, Int.reduceToNat]
  · simp (disch := (first | omega | (simp -implicitDefEqProofs only [nx]; done) | (simp -implicitDefEqProofs only [nx]; omega))) only [only, List.mem_cons, List.not_mem_nil, forall_eq_or_imp, forall_eq, List.contains_cons, List.contains_nil, Nat.reduceBEq, rl_int, rl_bool, AV.rl, AV.rls, ↓sd, su, ofC, ofV, argT, Option.map_some, Option.map_none, lb, nb, Nat.reduceGT, Int.reduceLT, Int.reduceLE, Int.reduceNeg, Int.reduceEq, decide_true, decide_false, decide_eq_true_eq, decide_eq_false_iff_not, if_true, if_false, ite_true, ite_false, reduceCtorEq, ne_eq, Nat.reduceAdd, Nat.reduceSub, Nat.reduceMul, Nat.reduceLT, Nat.reduceLeDiff, Nat.reduceEqDiff, Nat.reduceBEq, Int.reduceToNat]
    exact Ext.refl _
end Go.Proofs.Ythiaegigndlnpaa.A
