/- Add of diffcon. Conditions: none. -/
import Derived.Test.YtkkbnbgdhpkfhaaA18
import Derived.Test.YtkkbnbgdhpkfhaaF14
import Derived.Test.YtkkbnbgdhpkfhaaF15
set_option linter.unusedVariables false
set_option linter.unusedSimpArgs false
namespace Go.Proofs.Ytkkbnbgdhpkfhaa.A
open Go Go.RowKit

theorem Mat.rowsX {P : Program} {σ : AHeap} {v : AV} {m : List (List Int)} {e : TypeId} (h : Mat σ v m) (his : (tk P e).is = true) (hagg : (tk P e).agg = false) :
    ∃ rv : Nat → AV, ∀ k, k < m.length → IntRow σ (rv k) (m.getD k []) ∧ ∀ σ', Ext σ σ' → aload P e (rowPtr v k 1) σ' = some (rv k) := by
  obtain ⟨rs, h1, h2, h3⟩ := h.ex
  refine ⟨fun k => rs.getD k .junk, fun k hk => ⟨h3 k hk, fun σ' hE => ?_⟩⟩
  have h2 := h2.ext (σ' := σ')
  generalize hn : m.length = n at *
  cases h2
  · omega
  · omega
  · rename_i i off cs hi hc hf hle hce
    simp only [aload, rowPtr, hc, his, hagg, if_true, Nat.mul_one]
    rw [if_neg (by simp)]
    have h4 : rs[k]? = some (rs.getD k .junk) := by rw [List.getD_eq_getElem?_getD, List.getElem?_eq_getElem (by omega)]; rfl
    rw [← h4, hce, List.getElem?_take, if_pos (by omega), List.getElem?_drop]
theorem rl_sl {n i len : Nat} (h : i < n) : (AObj.own 1 [AV.slice i 0 len]).rl n = true := by simp [AObj.rl, AV.rls, AV.rl, h]
theorem OMat.down {σ0 σ1 σ : AHeap} (hle : σ0.next ≤ σ1.next) {v : AV} {m : List (List Int)} (h : OMat σ1 σ v m) : OMat σ0 σ v m := by
  cases h with
  | nil => exact .nil
  | mk j js m hne hl hj ho hr hd =>
    exact .mk j js m hne hl ⟨by omega, hj.2⟩ ho (fun k i r h1 h2 => by
      obtain ⟨a, b, c, d⟩ := hr k i r h1 h2
      exact ⟨by omega, b, c, d⟩) hd
/-- What a valid matrix and constraint are. -/
structure VM (m : List (List Int)) (c : Con) : Prop where
  len : 1 ≤ m.length ∧ m.length ≤ 160
  row : ∀ k, k < m.length → (m.getD k []).length = m.length
  diag : ∀ k, k < m.length → ent m k k = 0
  bd : ∀ i j, i < m.length → j < m.length → ent m i j = NONE ∨ (-2305843009213693952 ≤ ent m i j ∧ ent m i j ≤ 2305843009213693952)
  con : (0 ≤ c.a ∧ c.a < (m.length : Int)) ∧ (0 ≤ c.b ∧ c.b < (m.length : Int)) ∧ -9007199254740992 ≤ c.w ∧ c.w ≤ 9007199254740992
theorem rowsB_iff {N : Nat} : ∀ (m : List (List Int)) (i : Nat), rowsB N i m = true ↔ ∀ k, k < m.length → rowB N (i + k) (m.getD k []) = true
  | [], i => by simp [rowsB]
  | r :: m, i => by
    unfold rowsB
    rw [Bool.and_eq_true, rowsB_iff m (i + 1)]
    constructor
    · rintro ⟨h1, h2⟩ k hk
      match k with
      | 0 => simpa using h1
      | k + 1 =>
        have := h2 k (by simpa using hk)
        rw [show i + (k + 1) = i + 1 + k by omega]; simpa using this
    · intro h
      refine ⟨by have := h 0 (by simp); simpa using this, fun k hk => ?_⟩
      have := h (k + 1) (by simpa using hk)
      rw [show i + 1 + k = i + (k + 1) by omega]; simpa using this
theorem rowB_iff {N i : Nat} {r : List Int} : rowB N i r = true ↔ r.length = N ∧ r.getD i 0 = 0 ∧ ∀ j, j < r.length → r.getD j 0 = NONE ∨ (-2305843009213693952 ≤ r.getD j 0 ∧ r.getD j 0 ≤ 2305843009213693952) := by
  unfold rowB
  rw [Bool.and_eq_true, Bool.and_eq_true, decide_eq_true_eq, decide_eq_true_eq, List.all_eq_true, and_assoc]
  have he : (∀ x ∈ r, entryB x = true) ↔ ∀ j, j < r.length → r.getD j 0 = NONE ∨ (-2305843009213693952 ≤ r.getD j 0 ∧ r.getD j 0 ≤ 2305843009213693952) := by
    constructor
    · intro h j hj
      have := h (r.getD j 0) (by rw [List.getD_eq_getElem?_getD, List.getElem?_eq_getElem hj]; exact List.getElem_mem hj)
      simpa [entryB, withinF] using this
    · intro h x hx
      obtain ⟨j, hj, rfl⟩ := List.getElem_of_mem hx
      have := h j hj
      rw [List.getD_eq_getElem?_getD, List.getElem?_eq_getElem hj] at this
      simpa [entryB, withinF] using this
  rw [he]
theorem valid_iff {m : List (List Int)} {c : Con} : validF m c = true ↔ VM m c := by
  unfold validF
  rw [Bool.and_eq_true, Bool.and_eq_true, rowsB_iff]
  have h1 : withinF (m.length : Int) 1 160 = true ↔ 1 ≤ m.length ∧ m.length ≤ 160 := by simp [withinF]; omega
  have h3 : rightB (m.length : Int) c = true ↔ ((0 ≤ c.a ∧ c.a < (m.length : Int)) ∧ (0 ≤ c.b ∧ c.b < (m.length : Int)) ∧ -9007199254740992 ≤ c.w ∧ c.w ≤ 9007199254740992) := by
    simp [rightB, withinF]; omega
  rw [h1, h3]
  constructor
  · rintro ⟨⟨a, b⟩, d⟩
    have hb : ∀ k, k < m.length → (m.getD k []).length = m.length ∧ (m.getD k []).getD k 0 = 0 ∧ ∀ j, j < (m.getD k []).length → (m.getD k []).getD j 0 = NONE ∨ (-2305843009213693952 ≤ (m.getD k []).getD j 0 ∧ (m.getD k []).getD j 0 ≤ 2305843009213693952) := fun k hk => by
      have := b k hk
      rw [Nat.zero_add] at this
      exact rowB_iff.1 this
    exact ⟨a, fun k hk => (hb k hk).1, fun k hk => (hb k hk).2.1, fun i j hi hj => (hb i hi).2.2 j (by rw [(hb i hi).1]; exact hj), d⟩
  · intro h
    refine ⟨⟨h.len, fun k hk => ?_⟩, h.con⟩
    rw [Nat.zero_add]
    exact rowB_iff.2 ⟨h.row k hk, h.diag k hk, fun j hj => h.bd k j hk (by rw [h.row k hk] at hj; exact hj)⟩

def addE (m : List (List Int)) (c : Con) (r : List Int) (j : Nat) : Int :=
  if r.getD c.a.toNat 0 ≠ NONE ∧ ent m c.b.toNat j ≠ NONE then min (r.getD j 0) (IntKind.i64.wrap (IntKind.i64.wrap (r.getD c.a.toNat 0 + c.w) + ent m c.b.toNat j)) else r.getD j 0
def addTo (m : List (List Int)) (c : Con) (r : List Int) (k : Nat) : List Int := (List.range k).map (addE m c r) ++ r.drop k
theorem addTo_len {m : List (List Int)} {c : Con} {r : List Int} {k : Nat} (h : k ≤ r.length) : (addTo m c r k).length = r.length := by simp [addTo]; omega
theorem addTo_get {m : List (List Int)} {c : Con} {r : List Int} {k : Nat} (h : k < r.length) : (addTo m c r k).getD k 0 = r.getD k 0 := by
  rw [List.getD_eq_getElem?_getD, List.getD_eq_getElem?_getD, addTo, List.getElem?_append_right (by simp)]
  simp
theorem addTo_succ {m : List (List Int)} {c : Con} {r : List Int} {k : Nat} (h : k < r.length) : (addTo m c r k).set k (addE m c r k) = addTo m c r (k + 1) := by
  unfold addTo
  rw [List.set_append_right _ _ (by simp), List.range_succ, List.map_append, List.append_assoc]
  congr 1
  rw [List.length_map, List.length_range, Nat.sub_self, List.drop_eq_getElem_cons h, List.set_cons_zero]
  rfl
theorem addTo_same {m : List (List Int)} {c : Con} {r : List Int} {k : Nat} (h : k < r.length) (he : addE m c r k = r.getD k 0) : addTo m c r (k + 1) = addTo m c r k := by
  rw [← addTo_succ h, he, ← addTo_get (m := m) (c := c) h, show (addTo m c r k).set k ((addTo m c r k).getD k 0) = addTo m c r k from by
    apply List.ext_getElem (by simp)
    intro j h1 h2
    rw [List.getElem_set]
    split
    · rename_i e; subst e; rw [List.getD_eq_getElem?_getD, List.getElem?_eq_getElem h2]; rfl
    · rfl]
def addRow (m : List (List Int)) (c : Con) (r : List Int) : List Int := addTo m c r r.length
def addF (m : List (List Int)) (c : Con) : List (List Int) × Int :=
  if validF m c = false then ([], 2) else if ent m c.b.toNat c.a.toNat ≠ NONE ∧ IntKind.i64.wrap (ent m c.b.toNat c.a.toNat + c.w) < 0 then ([], 20) else (m.map (addRow m c), 0)

set_option maxHeartbeats 2000000 in
theorem add_calls (u : AV) (m : List (List Int)) (c : Con) (σ : AHeap) (hml : m.length < 1000000000000000) (hrl : ∀ r ∈ m, r.length < 1000000000000000) (hm : Mat σ u m) :
    ACalls Try.prog 29 [u, .agg c.enc] σ (fun r σ' => ∃ a, r = .tup [a, .int .i64 (addF m c).2] ∧ Ext σ σ' ∧ OMat σ σ' a (addF m c).1) := by
  refine acalls_of S0_ok k29 (by simp) (fun hwf hargs => ?_)
  unfold c29
  simp -dsimp -implicitDefEqProofs (disch := (first | omega | (simp -implicitDefEqProofs only [nx]; done) | (simp -implicitDefEqProofs only [nx]; omega))) only [↓sd, su, ofC, ofV, argT, Option.map_some, Option.map_none, lb, ob, abin, aint, acmp, aun, aconv, aloadO, apart, afield, afaddr, aiaddrS, aiaddrA, aindex, aslice, abnd, alenS, amaxmin, amxs, amx, aalloc, abox, abuildSlice, amake, astore, aappend, acopy, asrcO, afill, AV.cellsA, AV.sc, TK.is, TK.agg, mb, nb, Nat.reduceGT, Int.reduceLT, Int.reduceLE, Int.reduceNeg, Int.reduceEq, decide_true, decide_false, decide_eq_true_eq, decide_eq_false_iff_not, if_true, if_false, ite_true, ite_false, reduceCtorEq, ne_eq, Nat.reduceAdd, Nat.reduceSub, Nat.reduceMul, Nat.reduceLT, Nat.reduceLeDiff, Nat.reduceEqDiff, Nat.reduceBEq, Int.reduceToNat, tb, Con.enc, S0]
  have hE1 : Ext σ (σ.alloc (.own 3 c.enc)) := inferInstance
  have hwf1 : (σ.alloc (.own 3 c.enc)).WF := WF.alloc hwf rfl
  have hc1 : (σ.alloc (.own 3 c.enc)).get σ.next = .own 3 c.enc := get_alloc_self rfl
  have hn1 : (σ.alloc (.own 3 c.enc)).next = σ.next + 1 := rfl
  change ACK _ _ [u, .agg c.enc] (σ.alloc (.own 3 c.enc)) _ _
  generalize hσ1 : σ.alloc (.own 3 c.enc) = σ1 at *
  refine call_wf (valid_calls u m c σ1 hml hrl hm.ext) ?_
  rintro r σ2 ⟨rfl, rfl⟩ _ _ _
  simp -dsimp -implicitDefEqProofs (disch := (first | omega | (simp -implicitDefEqProofs only [nx]; done) | (simp -implicitDefEqProofs only [nx]; omega))) only [↓sd, su, ofC, ofV, argT, Option.map_some, Option.map_none, lb, ob, abin, aint, acmp, aun, aconv, aloadO, apart, afield, afaddr, aiaddrS, aiaddrA, aindex, aslice, abnd, alenS, amaxmin, amxs, amx, aalloc, abox, abuildSlice, amake, astore, aappend, acopy, asrcO, afill, AV.cellsA, AV.sc, TK.is, TK.agg, mb, nb, Nat.reduceGT, Int.reduceLT, Int.reduceLE, Int.reduceNeg, Int.reduceEq, decide_true, decide_false, decide_eq_true_eq, decide_eq_false_iff_not, if_true, if_false, ite_true, ite_false, reduceCtorEq, ne_eq, Nat.reduceAdd, Nat.reduceSub, Nat.reduceMul, Nat.reduceLT, Nat.reduceLeDiff, Nat.reduceEqDiff, Nat.reduceBEq, Int.reduceToNat, tb]
  refine ACond_not (fun hval => ?_) (fun hval => ?_)
  · simp -dsimp -implicitDefEqProofs (disch := (first | omega | (simp -implicitDefEqProofs only [nx]; done) | (simp -implicitDefEqProofs only [nx]; omega))) only [↓sd, su, ofC, ofV, argT, Option.map_some, Option.map_none, lb, ob, abin, aint, acmp, aun, aconv, aloadO, apart, afield, afaddr, aiaddrS, aiaddrA, aindex, aslice, abnd, alenS, amaxmin, amxs, amx, aalloc, abox, abuildSlice, amake, astore, aappend, acopy, asrcO, afill, AV.cellsA, AV.sc, TK.is, TK.agg, mb, nb, Nat.reduceGT, Int.reduceLT, Int.reduceLE, Int.reduceNeg, Int.reduceEq, decide_true, decide_false, decide_eq_true_eq, decide_eq_false_iff_not, if_true, if_false, ite_true, ite_false, reduceCtorEq, ne_eq, Nat.reduceAdd, Nat.reduceSub, Nat.reduceMul, Nat.reduceLT, Nat.reduceLeDiff, Nat.reduceEqDiff, Nat.reduceBEq, Int.reduceToNat, tb, hval]
    refine ret_pure (σ := σ2) (by omega) (Sub.refl hwf1) ?_ ?_
    · simp (disch := (first | omega | (simp -implicitDefEqProofs only [nx]; done) | (simp -implicitDefEqProofs only [nx]; omega))) only [only, List.mem_cons, List.not_mem_nil, forall_eq_or_imp, forall_eq, List.contains_cons, List.contains_nil, Nat.reduceBEq, rl_int, rl_bool, AV.rl, AV.rls, ↓sd, su, ofC, ofV, argT, Option.map_some, Option.map_none, lb, nb, Nat.reduceGT, Int.reduceLT, Int.reduceLE, Int.reduceNeg, Int.reduceEq, decide_true, decide_false, decide_eq_true_eq, decide_eq_false_iff_not, if_true, if_false, ite_true, ite_false, reduceCtorEq, ne_eq, Nat.reduceAdd, Nat.reduceSub, Nat.reduceMul, Nat.reduceLT, Nat.reduceLeDiff, Nat.reduceEqDiff, Nat.reduceBEq, Int.reduceToNat]
    · simp (disch := (first | omega | (simp -implicitDefEqProofs only [nx]; done) | (simp -implicitDefEqProofs only [nx]; omega))) only [only, List.mem_cons, List.not_mem_nil, forall_eq_or_imp, forall_eq, List.contains_cons, List.contains_nil, Nat.reduceBEq, rl_int, rl_bool, AV.rl, AV.rls, ↓sd, su, ofC, ofV, argT, Option.map_some, Option.map_none, lb, nb, Nat.reduceGT, Int.reduceLT, Int.reduceLE, Int.reduceNeg, Int.reduceEq, decide_true, decide_false, decide_eq_true_eq, decide_eq_false_iff_not, if_true, if_false, ite_true, ite_false, reduceCtorEq, ne_eq, Nat.reduceAdd, Nat.reduceSub, Nat.reduceMul, Nat.reduceLT, Nat.reduceLeDiff, Nat.reduceEqDiff, Nat.reduceBEq, Int.reduceToNat, addF, hval]
      exact ⟨.nils, rfl, hE1, .nil⟩
  · have hV := valid_iff.1 hval
    have hN := hV.len
    obtain ⟨⟨a1, a2⟩, ⟨b1, b2⟩, w1, w2⟩ := hV.con
    have a3 : c.a.toNat < m.length := by omega
    have b3 : c.b.toNat < m.length := by omega
    have hadd : addF m c = (if ent m c.b.toNat c.a.toNat ≠ NONE ∧ IntKind.i64.wrap (ent m c.b.toNat c.a.toNat + c.w) < 0 then ([], 20) else (m.map (addRow m c), 0)) := by
      unfold addF; rw [if_neg (by rw [hval]; simp)]
    have hcc : ∀ τ, Ext σ2 τ → τ.cells σ.next = some [.int .i64 c.a, .int .i64 c.b, .int .i64 c.w] := fun τ hE => by rw [hE.cells (by omega)]; exact cells_of_own hc1
    have hcc2 := hcc σ2 (Ext.refl _)
    have hm2 : Mat σ2 u m := hm.ext
    have hlm := hm.len (P := Try.prog) tk25
    have ham := fun k => hm.iaddr (P := Try.prog) tk25 sz32 k
    have hamZ := fun k => hm.iaddrZ (P := Try.prog) tk25 sz32 k
    obtain ⟨rv, hrv⟩ := hm2.rowsX (P := Try.prog) (e := 32) (by rw [tk32]; rfl) (by rw [tk32]; rfl)
    have hrow := fun k (hk : k < m.length) => (hrv k hk).1
    have hlr : ∀ k, k < m.length → alen Try.prog 32 (rv k) = some (.int .i64 (m.length : Int)) := fun k hk => by
      rw [(hrow k hk).len (P := Try.prog) tk32, hV.row k hk]
    have haZ : ∀ k, k < m.length → ∀ z : Int, 0 ≤ z → z < (m.length : Int) → aiaddr Try.prog 32 (rv k) (.int .i64 z) = some (rowPtr (rv k) z.toNat 1) := fun k hk z h0 h1 => (hrow k hk).iaddrZ (P := Try.prog) tk32 sz3 z h0 (by rw [hV.row k hk]; exact h1)
    have hld : ∀ τ, Ext σ2 τ → ∀ k, k < m.length → ∀ j, j < m.length → aload Try.prog 3 (rowPtr (rv k) j 1) τ = some (.int .i64 ((m.getD k []).getD j 0)) := fun τ hE k hk j hj => IntRow.load (σ := τ) (hrow k hk).ext (P := Try.prog) (e := 3) (by rw [tk3]; rfl) (by rw [tk3]; rfl) j (by rw [hV.row k hk]; exact hj)
    have hrvb := (hrv _ b3).2 σ2 (Ext.refl _)
    have haba := haZ _ b3 c.a a1 a2
    have hldba := hld σ2 (Ext.refl _) _ b3 _ a3
    have hbk := hV.bd _ _ b3 a3
    have hent : (m.getD c.b.toNat []).getD c.a.toNat 0 = ent m c.b.toNat c.a.toNat := rfl
    rw [hent] at hldba
    have hcyc : (ent m c.b.toNat c.a.toNat ≠ 4611686018427387904 ∧ IntKind.i64.wrap (ent m c.b.toNat c.a.toNat + c.w) < 0) ∨ ¬ (ent m c.b.toNat c.a.toNat ≠ 4611686018427387904 ∧ IntKind.i64.wrap (ent m c.b.toNat c.a.toNat + c.w) < 0) := Classical.em _
    unfold NONE at hadd
    simp -dsimp -implicitDefEqProofs (disch := (first | omega | (simp -implicitDefEqProofs only [nx]; done) | (simp -implicitDefEqProofs only [nx]; omega))) only [↓sd, su, ofC, ofV, argT, Option.map_some, Option.map_none, lb, ob, abin, aint, acmp, aun, aconv, aloadO, apart, afield, afaddr, aiaddrS, aiaddrA, aindex, aslice, abnd, alenS, amaxmin, amxs, amx, aalloc, abox, abuildSlice, amake, astore, aappend, acopy, asrcO, afill, AV.cellsA, AV.sc, TK.is, TK.agg, mb, nb, Nat.reduceGT, Int.reduceLT, Int.reduceLE, Int.reduceNeg, Int.reduceEq, decide_true, decide_false, decide_eq_true_eq, decide_eq_false_iff_not, if_true, if_false, ite_true, ite_false, reduceCtorEq, ne_eq, Nat.reduceAdd, Nat.reduceSub, Nat.reduceMul, Nat.reduceLT, Nat.reduceLeDiff, Nat.reduceEqDiff, Nat.reduceBEq, Int.reduceToNat, tb, hval, hamZ, hrvb, haba, hldba, hcc2, b1, b2, a1, a2]
    rcases hcyc with hcy | hcy
    · rw [if_pos hcy] at hadd
      obtain ⟨y1, y2⟩ := hcy
      simp -dsimp -implicitDefEqProofs (disch := (first | omega | (simp -implicitDefEqProofs only [nx]; done) | (simp -implicitDefEqProofs only [nx]; omega))) only [↓sd, su, ofC, ofV, argT, Option.map_some, Option.map_none, lb, ob, abin, aint, acmp, aun, aconv, aloadO, apart, afield, afaddr, aiaddrS, aiaddrA, aindex, aslice, abnd, alenS, amaxmin, amxs, amx, aalloc, abox, abuildSlice, amake, astore, aappend, acopy, asrcO, afill, AV.cellsA, AV.sc, TK.is, TK.agg, mb, nb, Nat.reduceGT, Int.reduceLT, Int.reduceLE, Int.reduceNeg, Int.reduceEq, decide_true, decide_false, decide_eq_true_eq, decide_eq_false_iff_not, if_true, if_false, ite_true, ite_false, reduceCtorEq, ne_eq, Nat.reduceAdd, Nat.reduceSub, Nat.reduceMul, Nat.reduceLT, Nat.reduceLeDiff, Nat.reduceEqDiff, Nat.reduceBEq, Int.reduceToNat, tb, y1, y2, hcc2]
      refine ret_pure (σ := σ2) (by omega) (Sub.refl hwf1) ?_ ?_
      · simp (disch := (first | omega | (simp -implicitDefEqProofs only [nx]; done) | (simp -implicitDefEqProofs only [nx]; omega))) only [only, List.mem_cons, List.not_mem_nil, forall_eq_or_imp, forall_eq, List.contains_cons, List.contains_nil, Nat.reduceBEq, rl_int, rl_bool, AV.rl, AV.rls, ↓sd, su, ofC, ofV, argT, Option.map_some, Option.map_none, lb, nb, Nat.reduceGT, Int.reduceLT, Int.reduceLE, Int.reduceNeg, Int.reduceEq, decide_true, decide_false, decide_eq_true_eq, decide_eq_false_iff_not, if_true, if_false, ite_true, ite_false, reduceCtorEq, ne_eq, Nat.reduceAdd, Nat.reduceSub, Nat.reduceMul, Nat.reduceLT, Nat.reduceLeDiff, Nat.reduceEqDiff, Nat.reduceBEq, Int.reduceToNat]
      · simp (disch := (first | omega | (simp -implicitDefEqProofs only [nx]; done) | (simp -implicitDefEqProofs only [nx]; omega))) only [only, List.mem_cons, List.not_mem_nil, forall_eq_or_imp, forall_eq, List.contains_cons, List.contains_nil, Nat.reduceBEq, rl_int, rl_bool, AV.rl, AV.rls, ↓sd, su, ofC, ofV, argT, Option.map_some, Option.map_none, lb, nb, Nat.reduceGT, Int.reduceLT, Int.reduceLE, Int.reduceNeg, Int.reduceEq, decide_true, decide_false, decide_eq_true_eq, decide_eq_false_iff_not, if_true, if_false, ite_true, ite_false, reduceCtorEq, ne_eq, Nat.reduceAdd, Nat.reduceSub, Nat.reduceMul, Nat.reduceLT, Nat.reduceLeDiff, Nat.reduceEqDiff, Nat.reduceBEq, Int.reduceToNat, hadd]
        exact ⟨.nils, rfl, hE1, .nil⟩
    · rw [if_neg hcy] at hadd
      have hE12 : Ext σ σ2 := hE1
      have hml2 : (m.map (addRow m c)).length = m.length := by simp
      refine AG_ne (fun y1 => ?_) (fun y1 => ?_)
      all_goals
        (try have y2 : ¬ IntKind.i64.wrap (ent m c.b.toNat c.a.toNat + c.w) < 0 := fun h => hcy ⟨y1, h⟩)
        first
        | simp -dsimp -implicitDefEqProofs (disch := (first | omega | (simp -implicitDefEqProofs only [nx]; done) | (simp -implicitDefEqProofs only [nx]; omega))) only [↓sd, su, ofC, ofV, argT, Option.map_some, Option.map_none, lb, ob, abin, aint, acmp, aun, aconv, aloadO, apart, afield, afaddr, aiaddrS, aiaddrA, aindex, aslice, abnd, alenS, amaxmin, amxs, amx, aalloc, abox, abuildSlice, amake, astore, aappend, acopy, asrcO, afill, AV.cellsA, AV.sc, TK.is, TK.agg, mb, nb, Nat.reduceGT, Int.reduceLT, Int.reduceLE, Int.reduceNeg, Int.reduceEq, decide_true, decide_false, decide_eq_true_eq, decide_eq_false_iff_not, if_true, if_false, ite_true, ite_false, reduceCtorEq, ne_eq, Nat.reduceAdd, Nat.reduceSub, Nat.reduceMul, Nat.reduceLT, Nat.reduceLeDiff, Nat.reduceEqDiff, Nat.reduceBEq, Int.reduceToNat, tb, y1, y2, hcc2, hlm]
        | simp -dsimp -implicitDefEqProofs (disch := (first | omega | (simp -implicitDefEqProofs only [nx]; done) | (simp -implicitDefEqProofs only [nx]; omega))) only [↓sd, su, ofC, ofV, argT, Option.map_some, Option.map_none, lb, ob, abin, aint, acmp, aun, aconv, aloadO, apart, afield, afaddr, aiaddrS, aiaddrA, aindex, aslice, abnd, alenS, amaxmin, amxs, amx, aalloc, abox, abuildSlice, amake, astore, aappend, acopy, asrcO, afill, AV.cellsA, AV.sc, TK.is, TK.agg, mb, nb, Nat.reduceGT, Int.reduceLT, Int.reduceLE, Int.reduceNeg, Int.reduceEq, decide_true, decide_false, decide_eq_true_eq, decide_eq_false_iff_not, if_true, if_false, ite_true, ite_false, reduceCtorEq, ne_eq, Nat.reduceAdd, Nat.reduceSub, Nat.reduceMul, Nat.reduceLT, Nat.reduceLeDiff, Nat.reduceEqDiff, Nat.reduceBEq, Int.reduceToNat, tb, y1, hcc2, hlm]
        refine loop_by (AW.loop S0_ok (fun z t τ => ∃ (k : Nat) (out : AV), z = m.length - k ∧ k ≤ m.length ∧ Ext σ2 τ ∧ OMat σ2 τ out ((m.map (addRow m c)).take k) ∧ t 0 = u ∧ t 3 = .ptr σ.next 0 ∧ t 7 = out ∧ t 35 = u ∧ t 36 = .int .i64 (m.length : Int) ∧ t 37 = .int .i64 (k : Int)) ?_ (m := m.length - 0) ?_)
        · rintro z t τ ⟨k, out, rfl, hk, hE, hO, g0, g3, g7, g35, g36, g37⟩ hle hwf2
          simp -dsimp -implicitDefEqProofs (disch := (first | omega | (simp -implicitDefEqProofs only [nx]; done) | (simp -implicitDefEqProofs only [nx]; omega))) only [↓sd, su, ofC, ofV, argT, Option.map_some, Option.map_none, lb, ob, abin, aint, acmp, aun, aconv, aloadO, apart, afield, afaddr, aiaddrS, aiaddrA, aindex, aslice, abnd, alenS, amaxmin, amxs, amx, aalloc, abox, abuildSlice, amake, astore, aappend, acopy, asrcO, afill, AV.cellsA, AV.sc, TK.is, TK.agg, mb, nb, Nat.reduceGT, Int.reduceLT, Int.reduceLE, Int.reduceNeg, Int.reduceEq, decide_true, decide_false, decide_eq_true_eq, decide_eq_false_iff_not, if_true, if_false, ite_true, ite_false, reduceCtorEq, ne_eq, Nat.reduceAdd, Nat.reduceSub, Nat.reduceMul, Nat.reduceLT, Nat.reduceLeDiff, Nat.reduceEqDiff, Nat.reduceBEq, Int.reduceToNat, tb, g36, g37]
          refine ACond_dec (fun hlt => ?_) (fun hlt => ?_)
          · have hkm : k < m.length := by omega
            have hnx : σ2.next ≤ τ.next := hE.le
            have hrk := (hrv k hkm).2 τ hE
            have hRk : IntRow τ (rv k) (m.getD k []) := (hrow k hkm).ext
            have hRl := hV.row k hkm
            simp -dsimp -implicitDefEqProofs (disch := (first | omega | (simp -implicitDefEqProofs only [nx]; done) | (simp -implicitDefEqProofs only [nx]; omega))) only [↓sd, su, ofC, ofV, argT, Option.map_some, Option.map_none, lb, ob, abin, aint, acmp, aun, aconv, aloadO, apart, afield, afaddr, aiaddrS, aiaddrA, aindex, aslice, abnd, alenS, amaxmin, amxs, amx, aalloc, abox, abuildSlice, amake, astore, aappend, acopy, asrcO, afill, AV.cellsA, AV.sc, TK.is, TK.agg, mb, nb, Nat.reduceGT, Int.reduceLT, Int.reduceLE, Int.reduceNeg, Int.reduceEq, decide_true, decide_false, decide_eq_true_eq, decide_eq_false_iff_not, if_true, if_false, ite_true, ite_false, reduceCtorEq, ne_eq, Nat.reduceAdd, Nat.reduceSub, Nat.reduceMul, Nat.reduceLT, Nat.reduceLeDiff, Nat.reduceEqDiff, Nat.reduceBEq, Int.reduceToNat, tb, hlt, g0, g3, g7, g35, g36, g37, ham, hrk, S0]
            refine call_wf (clone_calls (rv k) (m.getD k []) τ (by omega) hRk) ?_
            intro fv τ1 hres hwf3 _ hle3
            have hsucc : (m.map (addRow m c)).take (k + 1) = (m.map (addRow m c)).take k ++ [addRow m c (m.getD k [])] := by
              rw [List.take_add_one, List.getElem?_map, List.getElem?_eq_getElem hkm, List.getD_eq_getElem?_getD, List.getElem?_eq_getElem hkm]; rfl
            generalize hRR : m.getD k [] = R at *
            cases hres with
            | nil hR0 _ hvn => subst hR0; simp at hRl; omega
            | row hR0 =>
              have hcc1 : ∀ x, (τ.alloc (.own 1 (ints x))).cells σ.next = some [.int .i64 c.a, .int .i64 c.b, .int .i64 c.w] := fun x => hcc _ inferInstance
              have hrb1 : ∀ x, aload Try.prog 32 (rowPtr u c.b.toNat 1) (τ.alloc (.own 1 (ints x))) = some (rv c.b.toNat) := fun x => (hrv _ b3).2 _ inferInstance
              have hlb := hlr _ b3
              have hldb : ∀ x, ∀ j, j < m.length → aload Try.prog 3 (rowPtr (rv c.b.toNat) j 1) (τ.alloc (.own 1 (ints x))) = some (.int .i64 (ent m c.b.toNat j)) := fun x j hj => hld _ inferInstance _ b3 j hj
              have hldk : ∀ x, ∀ j, j < m.length → aload Try.prog 3 (rowPtr (rv k) j 1) (τ.alloc (.own 1 (ints x))) = some (.int .i64 (R.getD j 0)) := fun x j hj => by rw [← hRR]; exact hld _ inferInstance k hkm j hj
              have hak := haZ k hkm c.a a1 a2
              have hrlk : (rv k).rl τ.next = true := hRk.rl
              have hrlb : (rv c.b.toNat).rl τ.next = true := AV.rl_mono hnx _ (hrow _ b3).rl
              have hrlo := hO.mat.rl
              have hrlu : u.rl τ.next = true := AV.rl_mono hnx _ hm2.rl
              simp -dsimp -implicitDefEqProofs (disch := (first | omega | (simp -implicitDefEqProofs only [nx]; done) | (simp -implicitDefEqProofs only [nx]; omega))) only [↓sd, su, ofC, ofV, argT, Option.map_some, Option.map_none, lb, ob, abin, aint, acmp, aun, aconv, aloadO, apart, afield, afaddr, aiaddrS, aiaddrA, aindex, aslice, abnd, alenS, amaxmin, amxs, amx, aalloc, abox, abuildSlice, amake, astore, aappend, acopy, asrcO, afill, AV.cellsA, AV.sc, TK.is, TK.agg, mb, nb, Nat.reduceGT, Int.reduceLT, Int.reduceLE, Int.reduceNeg, Int.reduceEq, decide_true, decide_false, decide_eq_true_eq, decide_eq_false_iff_not, if_true, if_false, ite_true, ite_false, reduceCtorEq, ne_eq, Nat.reduceAdd, Nat.reduceSub, Nat.reduceMul, Nat.reduceLT, Nat.reduceLeDiff, Nat.reduceEqDiff, Nat.reduceBEq, Int.reduceToNat, tb, g0, g3, g7, g35, g36, g37, hcc1, hamZ, hrb1, hlb, b1, b2]
              refine loop_by (AW.loop S0_ok (fun z t τ' => ∃ (j : Nat), z = m.length - j ∧ j ≤ m.length ∧ τ' = τ.alloc (.own 1 (ints (addTo m c R j))) ∧ t 0 = u ∧ t 3 = .ptr σ.next 0 ∧ t 7 = out ∧ t 35 = u ∧ t 36 = .int .i64 (m.length : Int) ∧ t 37 = .int .i64 (k : Int) ∧ t 9 = rv k ∧ t 10 = .slice τ.next 0 R.length ∧
                t 47 = rv c.b.toNat ∧ t 48 = .int .i64 (m.length : Int) ∧ t 49 = .int .i64 (j : Int)) ?_ (m := m.length - 0) ?_)
              · rintro z t τ' ⟨j, rfl, hj, rfl, g0, g3, g7, g35, g36, g37, g9, g10, g47, g48, g49⟩ hle' _
                simp -dsimp -implicitDefEqProofs (disch := (first | omega | (simp -implicitDefEqProofs only [nx]; done) | (simp -implicitDefEqProofs only [nx]; omega))) only [↓sd, su, ofC, ofV, argT, Option.map_some, Option.map_none, lb, ob, abin, aint, acmp, aun, aconv, aloadO, apart, afield, afaddr, aiaddrS, aiaddrA, aindex, aslice, abnd, alenS, amaxmin, amxs, amx, aalloc, abox, abuildSlice, amake, astore, aappend, acopy, asrcO, afill, AV.cellsA, AV.sc, TK.is, TK.agg, mb, nb, Nat.reduceGT, Int.reduceLT, Int.reduceLE, Int.reduceNeg, Int.reduceEq, decide_true, decide_false, decide_eq_true_eq, decide_eq_false_iff_not, if_true, if_false, ite_true, ite_false, reduceCtorEq, ne_eq, Nat.reduceAdd, Nat.reduceSub, Nat.reduceMul, Nat.reduceLT, Nat.reduceLeDiff, Nat.reduceEqDiff, Nat.reduceBEq, Int.reduceToNat, tb, g48, g49]
                refine ACond_dec (fun hlt2 => ?_) (fun hlt2 => ?_)
                · have hjm : j < m.length := by omega
                  have hjR : j < R.length := by omega
                  have hal := addTo_len (m := m) (c := c) (r := R) (k := j) (by omega)
                  have hjA : j < (addTo m c R j).length := by omega
                  have hag := addTo_get (m := m) (c := c) hjR
                  have has := addTo_succ (m := m) (c := c) hjR
                  have hasm := addTo_same (m := m) (c := c) hjR
                  have hcca := hcc1 (addTo m c R j)
                  have hajb := haZ _ b3 (j : Int) (by omega) (by omega)
                  rw [Int.toNat_natCast] at hajb
                  have fin : ∀ A, A = addTo m c R (j + 1) → ∀ t' : T, t' 0 = u → t' 3 = .ptr σ.next 0 → t' 7 = out → t' 35 = u → t' 36 = .int .i64 (m.length : Int) → t' 37 = .int .i64 (k : Int) → t' 9 = rv k → t' 10 = .slice τ.next 0 R.length → t' 47 = rv c.b.toNat → t' 48 = .int .i64 (m.length : Int) → t' 49 = .int .i64 ((j + 1 : Nat) : Int) →
                      Again σ.next (fun z t τ' => ∃ (j : Nat), z = m.length - j ∧ j ≤ m.length ∧ τ' = τ.alloc (.own 1 (ints (addTo m c R j))) ∧ t 0 = u ∧ t 3 = .ptr σ.next 0 ∧ t 7 = out ∧ t 35 = u ∧ t 36 = .int .i64 (m.length : Int) ∧ t 37 = .int .i64 (k : Int) ∧ t 9 = rv k ∧ t 10 = .slice τ.next 0 R.length ∧
                        t 47 = rv c.b.toNat ∧ t 48 = .int .i64 (m.length : Int) ∧ t 49 = .int .i64 (j : Int)) (m.length - j) ⟨⟩ t' (τ.alloc (.own 1 (ints A))) := by
                    intro A hA t' e0 e3 e7 e35 e36 e37 e9 e10 e47 e48 e49
                    refine again_by [0, 3, 7, 35, 36, 37, 9, 10, 47, 48, 49] (τ.alloc (.own 1 (ints A))) (m.length - (j + 1)) (by omega) (by simp only [AHeap.next_alloc]; omega) (by repeat (first | exact Sub.refl ‹_› | (refine Sub.refl ?_; (repeat (first | assumption | refine WF.alloc ?_ (by first | exact rl_ints | assumption | rfl) | refine WF.set ?_ _ (by first | exact rl_ints | assumption | rfl))); done) | refine Sub.alloc2 ?_ (by rfl) (by first | exact rl_ints | assumption | rfl) | refine Sub.allocD ?_ (by rfl) _ | refine Sub.alloc ?_ _ | refine Sub.set2 ?_ _ (by first | exact rl_ints | assumption | rfl) | refine Sub.set ?_ (by (try simp only [AHeap.next_alloc, AHeap.next_set]); omega) _)) ?_ ?_
                    · simp (disch := (first | omega | (simp -implicitDefEqProofs only [nx]; done) | (simp -implicitDefEqProofs only [nx]; omega))) only [only, List.mem_cons, List.not_mem_nil, forall_eq_or_imp, forall_eq, List.contains_cons, List.contains_nil, Nat.reduceBEq, rl_int, rl_bool, AV.rl, AV.rls, ↓sd, su, ofC, ofV, argT, Option.map_some, Option.map_none, lb, nb, Nat.reduceGT, Int.reduceLT, Int.reduceLE, Int.reduceNeg, Int.reduceEq, decide_true, decide_false, decide_eq_true_eq, decide_eq_false_iff_not, if_true, if_false, ite_true, ite_false, reduceCtorEq, ne_eq, Nat.reduceAdd, Nat.reduceSub, Nat.reduceMul, Nat.reduceLT, Nat.reduceLeDiff, Nat.reduceEqDiff, Nat.reduceBEq, Int.reduceToNat, e0, e3, e7, e35, e36, e37, e9, e10, e47, e48, e49, AHeap.next_alloc]
                      have M := fun (a : AV) (h : a.rl τ.next = true) => AV.rl_mono (n := τ.next) (n' := τ.next + 1) (by omega) a h
                      exact ⟨M _ hrlu, by omega, M _ hrlo, M _ hrlu, M _ hrlk, by omega, M _ hrlb⟩
                    · exact ⟨j + 1, rfl, by omega, by rw [hA], e0, e3, e7, e35, e36, e37, e9, e10, e47, e48, e49⟩
                  by_cases c1 : R.getD c.a.toNat 0 = 4611686018427387904
                  · have hsm := hasm (if_neg (fun h => h.1 c1))
                    simp -dsimp -implicitDefEqProofs (disch := (first | omega | (simp -implicitDefEqProofs only [nx]; done) | (simp -implicitDefEqProofs only [nx]; omega))) only [↓sd, su, ofC, ofV, argT, Option.map_some, Option.map_none, lb, ob, abin, aint, acmp, aun, aconv, aloadO, apart, afield, afaddr, aiaddrS, aiaddrA, aindex, aslice, abnd, alenS, amaxmin, amxs, amx, aalloc, abox, abuildSlice, amake, astore, aappend, acopy, asrcO, afill, AV.cellsA, AV.sc, TK.is, TK.agg, mb, nb, Nat.reduceGT, Int.reduceLT, Int.reduceLE, Int.reduceNeg, Int.reduceEq, decide_true, decide_false, decide_eq_true_eq, decide_eq_false_iff_not, if_true, if_false, ite_true, ite_false, reduceCtorEq, ne_eq, Nat.reduceAdd, Nat.reduceSub, Nat.reduceMul, Nat.reduceLT, Nat.reduceLeDiff, Nat.reduceEqDiff, Nat.reduceBEq, Int.reduceToNat, tb, hlt2, g0, g3, g7, g35, g36, g37, g9, g10, g47, g48, g49, hajb, hldb, hcc1, hak, hldk, c1, w64]
                    refine fin _ hsm.symm _ ?_ ?_ ?_ ?_ ?_ ?_ ?_ ?_ ?_ ?_ ?_
                    all_goals simp (disch := (first | omega | (simp -implicitDefEqProofs only [nx]; done) | (simp -implicitDefEqProofs only [nx]; omega))) only [only, List.mem_cons, List.not_mem_nil, forall_eq_or_imp, forall_eq, List.contains_cons, List.contains_nil, Nat.reduceBEq, rl_int, rl_bool, AV.rl, AV.rls, ↓sd, su, ofC, ofV, argT, Option.map_some, Option.map_none, lb, nb, Nat.reduceGT, Int.reduceLT, Int.reduceLE, Int.reduceNeg, Int.reduceEq, decide_true, decide_false, decide_eq_true_eq, decide_eq_false_iff_not, if_true, if_false, ite_true, ite_false, reduceCtorEq, ne_eq, Nat.reduceAdd, Nat.reduceSub, Nat.reduceMul, Nat.reduceLT, Nat.reduceLeDiff, Nat.reduceEqDiff, Nat.reduceBEq, Int.reduceToNat, g0, g3, g7, g35, g36, g37, g9, g10, g47, g48, g49, Int.natCast_add]
                  by_cases c2 : ent m c.b.toNat j = 4611686018427387904
                  · have hsm := hasm (if_neg (fun h => h.2 c2))
                    simp -dsimp -implicitDefEqProofs (disch := (first | omega | (simp -implicitDefEqProofs only [nx]; done) | (simp -implicitDefEqProofs only [nx]; omega))) only [↓sd, su, ofC, ofV, argT, Option.map_some, Option.map_none, lb, ob, abin, aint, acmp, aun, aconv, aloadO, apart, afield, afaddr, aiaddrS, aiaddrA, aindex, aslice, abnd, alenS, amaxmin, amxs, amx, aalloc, abox, abuildSlice, amake, astore, aappend, acopy, asrcO, afill, AV.cellsA, AV.sc, TK.is, TK.agg, mb, nb, Nat.reduceGT, Int.reduceLT, Int.reduceLE, Int.reduceNeg, Int.reduceEq, decide_true, decide_false, decide_eq_true_eq, decide_eq_false_iff_not, if_true, if_false, ite_true, ite_false, reduceCtorEq, ne_eq, Nat.reduceAdd, Nat.reduceSub, Nat.reduceMul, Nat.reduceLT, Nat.reduceLeDiff, Nat.reduceEqDiff, Nat.reduceBEq, Int.reduceToNat, tb, hlt2, g0, g3, g7, g35, g36, g37, g9, g10, g47, g48, g49, hajb, hldb, hcc1, hak, hldk, c1, c2, w64]
                    refine fin _ hsm.symm _ ?_ ?_ ?_ ?_ ?_ ?_ ?_ ?_ ?_ ?_ ?_
                    all_goals simp (disch := (first | omega | (simp -implicitDefEqProofs only [nx]; done) | (simp -implicitDefEqProofs only [nx]; omega))) only [only, List.mem_cons, List.not_mem_nil, forall_eq_or_imp, forall_eq, List.contains_cons, List.contains_nil, Nat.reduceBEq, rl_int, rl_bool, AV.rl, AV.rls, ↓sd, su, ofC, ofV, argT, Option.map_some, Option.map_none, lb, nb, Nat.reduceGT, Int.reduceLT, Int.reduceLE, Int.reduceNeg, Int.reduceEq, decide_true, decide_false, decide_eq_true_eq, decide_eq_false_iff_not, if_true, if_false, ite_true, ite_false, reduceCtorEq, ne_eq, Nat.reduceAdd, Nat.reduceSub, Nat.reduceMul, Nat.reduceLT, Nat.reduceLeDiff, Nat.reduceEqDiff, Nat.reduceBEq, Int.reduceToNat, g0, g3, g7, g35, g36, g37, g9, g10, g47, g48, g49, Int.natCast_add]
                  have hae : addE m c R j = min (R.getD j 0) (IntKind.i64.wrap (IntKind.i64.wrap (R.getD c.a.toNat 0 + c.w) + ent m c.b.toNat j)) := if_pos ⟨c1, c2⟩
                  rw [hae] at has
                  have hRm : R.length = m.length := hRl
                  simp -dsimp -implicitDefEqProofs (disch := (first | omega | (simp -implicitDefEqProofs only [nx]; done) | (simp -implicitDefEqProofs only [nx]; omega))) only [↓sd, su, ofC, ofV, argT, Option.map_some, Option.map_none, lb, ob, abin, aint, acmp, aun, aconv, aloadO, apart, afield, afaddr, aiaddrS, aiaddrA, aindex, aslice, abnd, alenS, amaxmin, amxs, amx, aalloc, abox, abuildSlice, amake, astore, aappend, acopy, asrcO, afill, AV.cellsA, AV.sc, TK.is, TK.agg, mb, nb, Nat.reduceGT, Int.reduceLT, Int.reduceLE, Int.reduceNeg, Int.reduceEq, decide_true, decide_false, decide_eq_true_eq, decide_eq_false_iff_not, if_true, if_false, ite_true, ite_false, reduceCtorEq, ne_eq, Nat.reduceAdd, Nat.reduceSub, Nat.reduceMul, Nat.reduceLT, Nat.reduceLeDiff, Nat.reduceEqDiff, Nat.reduceBEq, Int.reduceToNat, tb, hlt2, g0, g3, g7, g35, g36, g37, g9, g10, g47, g48, g49, hajb, hldb, hcc1, hak, hldk, c1, c2, ints_get, hag, if_pos, w64]
                  refine fin _ has _ ?_ ?_ ?_ ?_ ?_ ?_ ?_ ?_ ?_ ?_ ?_
                  all_goals simp (disch := (first | omega | (simp -implicitDefEqProofs only [nx]; done) | (simp -implicitDefEqProofs only [nx]; omega))) only [only, List.mem_cons, List.not_mem_nil, forall_eq_or_imp, forall_eq, List.contains_cons, List.contains_nil, Nat.reduceBEq, rl_int, rl_bool, AV.rl, AV.rls, ↓sd, su, ofC, ofV, argT, Option.map_some, Option.map_none, lb, nb, Nat.reduceGT, Int.reduceLT, Int.reduceLE, Int.reduceNeg, Int.reduceEq, decide_true, decide_false, decide_eq_true_eq, decide_eq_false_iff_not, if_true, if_false, ite_true, ite_false, reduceCtorEq, ne_eq, Nat.reduceAdd, Nat.reduceSub, Nat.reduceMul, Nat.reduceLT, Nat.reduceLeDiff, Nat.reduceEqDiff, Nat.reduceBEq, Int.reduceToNat, g0, g3, g7, g35, g36, g37, g9, g10, g47, g48, g49, Int.natCast_add]
                · have hjm : j = m.length := by omega
                  subst hjm
                  have har : addTo m c R m.length = addRow m c R := by unfold addRow; rw [hRl]
                  rw [har]
                  have harl : (addRow m c R).length = R.length := addTo_len (Nat.le_refl _)
                  have hwf4 : (τ.alloc (.own 1 (ints (addRow m c R)))).WF := WF.alloc hwf2 rl_ints
                  have hwf5 : ((τ.alloc (.own 1 (ints (addRow m c R)))).alloc (.own 1 [.slice τ.next 0 (addRow m c R).length])).WF := WF.alloc hwf4 (rl_sl (by simp only [AHeap.next_alloc]; omega))
                  obtain ⟨a', σ5, happ, hm5, hwf6, hle5, hE5⟩ := OMat.push (P := Try.prog) tk25 sz32 by32 ze32 rfl (σ2 := ((τ.alloc (.own 1 (ints (addRow m c R)))).alloc (.own 1 [.slice τ.next 0 (addRow m c R).length])))
                    (q := τ.next + 1) (i := τ.next) (r := addRow m c R) hE.le hO (by rw [List.length_take, hml2]; omega) (get_alloc_self rfl) (by simp only [AHeap.next_alloc]; omega) (by omega)
                    (by rw [get_alloc_ne (by simp only [AHeap.next_alloc]; omega)]; exact get_alloc_self rfl) (by omega) (by simp only [AHeap.next_alloc]; omega) hwf5
                  rw [harl] at happ
                  have hE6 := hE5 inferInstance
                  simp only [AHeap.next_alloc] at hle5
                  simp -dsimp -implicitDefEqProofs (disch := (first | omega | (simp -implicitDefEqProofs only [nx]; done) | (simp -implicitDefEqProofs only [nx]; omega))) only [↓sd, su, ofC, ofV, argT, List.getD_cons_zero, List.getD_cons_succ, List.getElem?_cons_zero, List.getElem?_cons_succ, List.map_cons, List.map_nil, List.nil_append, List.cons_append, List.append_nil, Option.map_some, Option.map_none, ob, abin, aint, acmp, aun, aconv, aloadO, apart, afield, afaddr, aiaddrS, aiaddrA, aindex, aslice, abnd, alenS, amaxmin, amxs, amx, aalloc, abox, abuildSlice, amake, astore, acopy, asrcO, afill, AV.cellsA, AV.sc, TK.is, TK.agg, List.length_cons, List.length_nil, List.all_cons, List.all_nil, mb, beq_self_eq_true, List.length_set, Int.zero_sub, List.set_cons_zero, List.set_cons_succ, List.take_zero, List.drop_zero, List.take_succ_cons, List.drop_succ_cons, or_false, false_or, or_true, true_or, or_self, gt_iff_lt, ge_iff_le, Nat.lt_irrefl, Nat.reduceGT, Int.reduceLT, Int.reduceLE, Int.reduceNeg, Int.reduceEq, Nat.not_lt_zero, List.replicate_succ, List.replicate_zero, List.flatten_cons, List.flatten_nil, List.length_replicate, Nat.le_refl, Nat.sub_zero, cast0, cast1, Int.cast_ofNat_Int, Int.toNat_natCast, Bool.not_not, Bool.true_and, Bool.and_true, Bool.false_and, Bool.and_false, Bool.or_true, Bool.true_or, Bool.or_false, Bool.false_or, decide_true, decide_false, Bool.not_true, Bool.not_false, beq_iff_eq, Bool.not_eq_true', decide_eq_true_eq, decide_eq_false_iff_not, if_true, if_false, ite_true, ite_false, reduceCtorEq, Bool.false_eq_true, ne_eq, not_false_eq_true, not_true_eq_false, true_and, and_true, and_self, false_and, and_false, Nat.reduceAdd, Nat.reduceSub, Nat.reduceMul, Nat.reduceLT, Nat.reduceLeDiff, Nat.reduceEqDiff, Nat.reduceBEq, Int.reduceToNat, Nat.add_zero, Nat.zero_add, Nat.mul_one, Nat.one_mul, tb, hlt2, happ, g0, g3, g7, g35, g36, g37, g10, w64]
                  refine again_by [0, 3, 7, 35, 36, 37] σ5 (m.length - (k + 1)) (by omega) (by omega) (Sub.refl hwf6) ?_ ?_
                  · simp (disch := (first | omega | (simp -implicitDefEqProofs only [nx]; done) | (simp -implicitDefEqProofs only [nx]; omega))) only [only, List.mem_cons, List.not_mem_nil, forall_eq_or_imp, forall_eq, List.contains_cons, List.contains_nil, Nat.reduceBEq, rl_int, rl_bool, AV.rl, AV.rls, ↓sd, su, ofC, ofV, argT, Option.map_some, Option.map_none, lb, nb, Nat.reduceGT, Int.reduceLT, Int.reduceLE, Int.reduceNeg, Int.reduceEq, decide_true, decide_false, decide_eq_true_eq, decide_eq_false_iff_not, if_true, if_false, ite_true, ite_false, reduceCtorEq, ne_eq, Nat.reduceAdd, Nat.reduceSub, Nat.reduceMul, Nat.reduceLT, Nat.reduceLeDiff, Nat.reduceEqDiff, Nat.reduceBEq, Int.reduceToNat, g0, g3, g7, g35, g36, g37]
                    exact ⟨AV.rl_mono (by omega) _ hrlu, by omega, hm5.mat.rl, AV.rl_mono (by omega) _ hrlu⟩
                  · refine ⟨k + 1, a', rfl, by omega, hE6, by rw [hsucc]; exact hm5, ?_, ?_, ?_, ?_, ?_, ?_⟩
                    · simp (disch := (first | omega | (simp -implicitDefEqProofs only [nx]; done) | (simp -implicitDefEqProofs only [nx]; omega))) only [only, List.mem_cons, List.not_mem_nil, forall_eq_or_imp, forall_eq, List.contains_cons, List.contains_nil, Nat.reduceBEq, rl_int, rl_bool, AV.rl, AV.rls, ↓sd, su, ofC, ofV, argT, Option.map_some, Option.map_none, lb, nb, Nat.reduceGT, Int.reduceLT, Int.reduceLE, Int.reduceNeg, Int.reduceEq, decide_true, decide_false, decide_eq_true_eq, decide_eq_false_iff_not, if_true, if_false, ite_true, ite_false, reduceCtorEq, ne_eq, Nat.reduceAdd, Nat.reduceSub, Nat.reduceMul, Nat.reduceLT, Nat.reduceLeDiff, Nat.reduceEqDiff, Nat.reduceBEq, Int.reduceToNat, g0]
                    · simp (disch := (first | omega | (simp -implicitDefEqProofs only [nx]; done) | (simp -implicitDefEqProofs only [nx]; omega))) only [only, List.mem_cons, List.not_mem_nil, forall_eq_or_imp, forall_eq, List.contains_cons, List.contains_nil, Nat.reduceBEq, rl_int, rl_bool, AV.rl, AV.rls, ↓sd, su, ofC, ofV, argT, Option.map_some, Option.map_none, lb, nb, Nat.reduceGT, Int.reduceLT, Int.reduceLE, Int.reduceNeg, Int.reduceEq, decide_true, decide_false, decide_eq_true_eq, decide_eq_false_iff_not, if_true, if_false, ite_true, ite_false, reduceCtorEq, ne_eq, Nat.reduceAdd, Nat.reduceSub, Nat.reduceMul, Nat.reduceLT, Nat.reduceLeDiff, Nat.reduceEqDiff, Nat.reduceBEq, Int.reduceToNat, g3]
                    · simp (disch := (first | omega | (simp -implicitDefEqProofs only [nx]; done) | (simp -implicitDefEqProofs only [nx]; omega))) only [only, List.mem_cons, List.not_mem_nil, forall_eq_or_imp, forall_eq, List.contains_cons, List.contains_nil, Nat.reduceBEq, rl_int, rl_bool, AV.rl, AV.rls, ↓sd, su, ofC, ofV, argT, Option.map_some, Option.map_none, lb, nb, Nat.reduceGT, Int.reduceLT, Int.reduceLE, Int.reduceNeg, Int.reduceEq, decide_true, decide_false, decide_eq_true_eq, decide_eq_false_iff_not, if_true, if_false, ite_true, ite_false, reduceCtorEq, ne_eq, Nat.reduceAdd, Nat.reduceSub, Nat.reduceMul, Nat.reduceLT, Nat.reduceLeDiff, Nat.reduceEqDiff, Nat.reduceBEq, Int.reduceToNat]
                    · simp (disch := (first | omega | (simp -implicitDefEqProofs only [nx]; done) | (simp -implicitDefEqProofs only [nx]; omega))) only [only, List.mem_cons, List.not_mem_nil, forall_eq_or_imp, forall_eq, List.contains_cons, List.contains_nil, Nat.reduceBEq, rl_int, rl_bool, AV.rl, AV.rls, ↓sd, su, ofC, ofV, argT, Option.map_some, Option.map_none, lb, nb, Nat.reduceGT, Int.reduceLT, Int.reduceLE, Int.reduceNeg, Int.reduceEq, decide_true, decide_false, decide_eq_true_eq, decide_eq_false_iff_not, if_true, if_false, ite_true, ite_false, reduceCtorEq, ne_eq, Nat.reduceAdd, Nat.reduceSub, Nat.reduceMul, Nat.reduceLT, Nat.reduceLeDiff, Nat.reduceEqDiff, Nat.reduceBEq, Int.reduceToNat, g35]
                    · simp (disch := (first | omega | (simp -implicitDefEqProofs only [nx]; done) | (simp -implicitDefEqProofs only [nx]; omega))) only [only, List.mem_cons, List.not_mem_nil, forall_eq_or_imp, forall_eq, List.contains_cons, List.contains_nil, Nat.reduceBEq, rl_int, rl_bool, AV.rl, AV.rls, ↓sd, su, ofC, ofV, argT, Option.map_some, Option.map_none, lb, nb, Nat.reduceGT, Int.reduceLT, Int.reduceLE, Int.reduceNeg, Int.reduceEq, decide_true, decide_false, decide_eq_true_eq, decide_eq_false_iff_not, if_true, if_false, ite_true, ite_false, reduceCtorEq, ne_eq, Nat.reduceAdd, Nat.reduceSub, Nat.reduceMul, Nat.reduceLT, Nat.reduceLeDiff, Nat.reduceEqDiff, Nat.reduceBEq, Int.reduceToNat, g36]
                    · simp (disch := (first | omega | (simp -implicitDefEqProofs only [nx]; done) | (simp -implicitDefEqProofs only [nx]; omega))) only [only, List.mem_cons, List.not_mem_nil, forall_eq_or_imp, forall_eq, List.contains_cons, List.contains_nil, Nat.reduceBEq, rl_int, rl_bool, AV.rl, AV.rls, ↓sd, su, ofC, ofV, argT, Option.map_some, Option.map_none, lb, nb, Nat.reduceGT, Int.reduceLT, Int.reduceLE, Int.reduceNeg, Int.reduceEq, decide_true, decide_false, decide_eq_true_eq, decide_eq_false_iff_not, if_true, if_false, ite_true, ite_false, reduceCtorEq, ne_eq, Nat.reduceAdd, Nat.reduceSub, Nat.reduceMul, Nat.reduceLT, Nat.reduceLeDiff, Nat.reduceEqDiff, Nat.reduceBEq, Int.reduceToNat, g37, Int.natCast_add]
              · refine ⟨0, rfl, Nat.zero_le _, by simp [addTo], ?_, ?_, ?_, ?_, ?_, ?_, ?_, ?_, ?_, ?_, ?_⟩
                all_goals first | (simp -dsimp -implicitDefEqProofs (disch := (first | omega | (simp -implicitDefEqProofs only [nx]; done) | (simp -implicitDefEqProofs only [nx]; omega))) only [↓sd, su, ofC, ofV, argT, Option.map_some, Option.map_none, lb, ob, abin, aint, acmp, aun, aconv, aloadO, apart, afield, afaddr, aiaddrS, aiaddrA, aindex, aslice, abnd, alenS, amaxmin, amxs, amx, aalloc, abox, abuildSlice, amake, astore, aappend, acopy, asrcO, afill, AV.cellsA, AV.sc, TK.is, TK.agg, mb, nb, Nat.reduceGT, Int.reduceLT, Int.reduceLE, Int.reduceNeg, Int.reduceEq, decide_true, decide_false, decide_eq_true_eq, decide_eq_false_iff_not, if_true, if_false, ite_true, ite_false, reduceCtorEq, ne_eq, Nat.reduceAdd, Nat.reduceSub, Nat.reduceMul, Nat.reduceLT, Nat.reduceLeDiff, Nat.reduceEqDiff, Nat.reduceBEq, Int.reduceToNat, tb, g0, g3, g7, g35, g36, g37]; done) | (simp -dsimp -implicitDefEqProofs (disch := (first | omega | (simp -implicitDefEqProofs only [nx]; done) | (simp -implicitDefEqProofs only [nx]; omega))) only [↓sd, su, ofC, ofV, argT, Option.map_some, Option.map_none, lb, ob, abin, aint, acmp, aun, aconv, aloadO, apart, afield, afaddr, aiaddrS, aiaddrA, aindex, aslice, abnd, alenS, amaxmin, amxs, amx, aalloc, abox, abuildSlice, amake, astore, aappend, acopy, asrcO, afill, AV.cellsA, AV.sc, TK.is, TK.agg, mb, nb, Nat.reduceGT, Int.reduceLT, Int.reduceLE, Int.reduceNeg, Int.reduceEq, decide_true, decide_false, decide_eq_true_eq, decide_eq_false_iff_not, if_true, if_false, ite_true, ite_false, reduceCtorEq, ne_eq, Nat.reduceAdd, Nat.reduceSub, Nat.reduceMul, Nat.reduceLT, Nat.reduceLeDiff, Nat.reduceEqDiff, Nat.reduceBEq, Int.reduceToNat, tb, g0, g3, g7, g35, g36, g37] <;> rfl)
          · have hkm : k = m.length := by omega
            subst hkm
            simp -dsimp -implicitDefEqProofs (disch := (first | omega | (simp -implicitDefEqProofs only [nx]; done) | (simp -implicitDefEqProofs only [nx]; omega))) only [↓sd, su, ofC, ofV, argT, Option.map_some, Option.map_none, lb, ob, abin, aint, acmp, aun, aconv, aloadO, apart, afield, afaddr, aiaddrS, aiaddrA, aindex, aslice, abnd, alenS, amaxmin, amxs, amx, aalloc, abox, abuildSlice, amake, astore, aappend, acopy, asrcO, afill, AV.cellsA, AV.sc, TK.is, TK.agg, mb, nb, Nat.reduceGT, Int.reduceLT, Int.reduceLE, Int.reduceNeg, Int.reduceEq, decide_true, decide_false, decide_eq_true_eq, decide_eq_false_iff_not, if_true, if_false, ite_true, ite_false, reduceCtorEq, ne_eq, Nat.reduceAdd, Nat.reduceSub, Nat.reduceMul, Nat.reduceLT, Nat.reduceLeDiff, Nat.reduceEqDiff, Nat.reduceBEq, Int.reduceToNat, tb, hlt, g7]
            refine ret_pure hle (Sub.refl hwf2) ?_ ?_
            · simp (disch := (first | omega | (simp -implicitDefEqProofs only [nx]; done) | (simp -implicitDefEqProofs only [nx]; omega))) only [only, List.mem_cons, List.not_mem_nil, forall_eq_or_imp, forall_eq, List.contains_cons, List.contains_nil, Nat.reduceBEq, rl_int, rl_bool, AV.rl, AV.rls, ↓sd, su, ofC, ofV, argT, Option.map_some, Option.map_none, lb, nb, Nat.reduceGT, Int.reduceLT, Int.reduceLE, Int.reduceNeg, Int.reduceEq, decide_true, decide_false, decide_eq_true_eq, decide_eq_false_iff_not, if_true, if_false, ite_true, ite_false, reduceCtorEq, ne_eq, Nat.reduceAdd, Nat.reduceSub, Nat.reduceMul, Nat.reduceLT, Nat.reduceLeDiff, Nat.reduceEqDiff, Nat.reduceBEq, Int.reduceToNat]
              exact hO.mat.rl
            · simp (disch := (first | omega | (simp -implicitDefEqProofs only [nx]; done) | (simp -implicitDefEqProofs only [nx]; omega))) only [only, List.mem_cons, List.not_mem_nil, forall_eq_or_imp, forall_eq, List.contains_cons, List.contains_nil, Nat.reduceBEq, rl_int, rl_bool, AV.rl, AV.rls, ↓sd, su, ofC, ofV, argT, Option.map_some, Option.map_none, lb, nb, Nat.reduceGT, Int.reduceLT, Int.reduceLE, Int.reduceNeg, Int.reduceEq, decide_true, decide_false, decide_eq_true_eq, decide_eq_false_iff_not, if_true, if_false, ite_true, ite_false, reduceCtorEq, ne_eq, Nat.reduceAdd, Nat.reduceSub, Nat.reduceMul, Nat.reduceLT, Nat.reduceLeDiff, Nat.reduceEqDiff, Nat.reduceBEq, Int.reduceToNat, hadd]
              rw [List.take_of_length_le (by omega)] at hO
              exact ⟨_, rfl, hE12.trans hE, hO.down (by omega)⟩
        · refine ⟨0, .nils, rfl, Nat.zero_le _, Ext.refl _, .nil, ?_, ?_, ?_, ?_, ?_, ?_⟩
          all_goals first | (simp -dsimp -implicitDefEqProofs (disch := (first | omega | (simp -implicitDefEqProofs only [nx]; done) | (simp -implicitDefEqProofs only [nx]; omega))) only [↓sd, su, ofC, ofV, argT, Option.map_some, Option.map_none, lb, ob, abin, aint, acmp, aun, aconv, aloadO, apart, afield, afaddr, aiaddrS, aiaddrA, aindex, aslice, abnd, alenS, amaxmin, amxs, amx, aalloc, abox, abuildSlice, amake, astore, aappend, acopy, asrcO, afill, AV.cellsA, AV.sc, TK.is, TK.agg, mb, nb, Nat.reduceGT, Int.reduceLT, Int.reduceLE, Int.reduceNeg, Int.reduceEq, decide_true, decide_false, decide_eq_true_eq, decide_eq_false_iff_not, if_true, if_false, ite_true, ite_false, reduceCtorEq, ne_eq, Nat.reduceAdd, Nat.reduceSub, Nat.reduceMul, Nat.reduceLT, Nat.reduceLeDiff, Nat.reduceEqDiff, Nat.reduceBEq, Int.reduceToNat, tb]; done) | (simp -dsimp -implicitDefEqProofs (disch := (first | omega | (simp -implicitDefEqProofs only [nx]; done) | (simp -implicitDefEqProofs only [nx]; omega))) only [↓sd, su, ofC, ofV, argT, Option.map_some, Option.map_none, lb, ob, abin, aint, acmp, aun, aconv, aloadO, apart, afield, afaddr, aiaddrS, aiaddrA, aindex, aslice, abnd, alenS, amaxmin, amxs, amx, aalloc, abox, abuildSlice, amake, astore, aappend, acopy, asrcO, afill, AV.cellsA, AV.sc, TK.is, TK.agg, mb, nb, Nat.reduceGT, Int.reduceLT, Int.reduceLE, Int.reduceNeg, Int.reduceEq, decide_true, decide_false, decide_eq_true_eq, decide_eq_false_iff_not, if_true, if_false, ite_true, ite_false, reduceCtorEq, ne_eq, Nat.reduceAdd, Nat.reduceSub, Nat.reduceMul, Nat.reduceLT, Nat.reduceLeDiff, Nat.reduceEqDiff, Nat.reduceBEq, Int.reduceToNat, tb] <;> rfl)
end Go.Proofs.Ytkkbnbgdhpkfhaa.A
