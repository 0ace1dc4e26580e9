/- Heaps of which some rows change; calls behind loads. Conditions: none. -/
import Derived.Test.YteeakkakkjhgoaaA16
set_option linter.unusedVariables false
set_option linter.unusedSimpArgs false
namespace Go.Proofs.Yteeakkakkjhgoaa.A
open Go Go.RowKit

/-- What was there is there still, but for some rows. -/
structure Chg (rs : List Nat) (σ σ' : AHeap) : Prop where
  le : σ.next ≤ σ'.next
  same : ∀ i, i < σ.next → i ∉ rs → σ'.get i = σ.get i
theorem Chg.refl (rs : List Nat) (σ : AHeap) : Chg rs σ σ := ⟨Nat.le_refl _, fun _ _ _ => rfl⟩
theorem Chg.ofExt {rs : List Nat} {σ σ' : AHeap} (h : Ext σ σ') : Chg rs σ σ' := ⟨h.le, fun i hi _ => h.same i hi⟩
theorem Chg.trans {rs : List Nat} {σ σ1 σ2 : AHeap} (h : Chg rs σ σ1) (k : Chg rs σ1 σ2) : Chg rs σ σ2 :=
  ⟨Nat.le_trans h.le k.le, fun i hi hn => (k.same i (Nat.lt_of_lt_of_le hi h.le) hn).trans (h.same i hi hn)⟩
theorem Chg.mono {rs rs' : List Nat} {σ σ' : AHeap} (h : Chg rs σ σ') (hs : ∀ i, i < σ.next → i ∈ rs → i ∈ rs') : Chg rs' σ σ' :=
  ⟨h.le, fun i hi hn => h.same i hi fun q => hn (hs i hi q)⟩
theorem Chg.alloc {rs : List Nat} {σ σ' : AHeap} (h : Chg rs σ σ') (o : AObj) : Chg rs σ (σ'.alloc o) :=
  h.trans (.ofExt inferInstance)
theorem Chg.set {rs : List Nat} {σ σ' : AHeap} (h : Chg rs σ σ') {i : Nat} (o : AObj) (hi : i ∈ rs ∨ σ.next ≤ i) : Chg rs σ (σ'.set i o) :=
  ⟨h.le, fun j hj hn => by
    rw [get_set_ne]; exact h.same j hj hn
    intro q; subst q
    rcases hi with hi | hi
    · exact hn hi
    · omega⟩
theorem Chg.sub {rs : List Nat} {σ σ' : AHeap} (h : Chg rs σ σ') (hwf : σ.WF) (hr : ∀ i ∈ rs, σ.next ≤ i) : Sub σ' σ :=
  ⟨h.le, fun i hi => .inr (h.same i hi fun q => by have := hr i q; omega).symm, hwf⟩

theorem unhold_next {H : List Nat} {σ σ2 : AHeap} : (unhold H σ σ2).next = σ2.next := rfl
theorem unhold_wf {H : List Nat} {σ σ2 : AHeap} (h : σ.WF) (h2 : σ2.WF) (hn : σ.next ≤ σ2.next) : (unhold H σ σ2).WF := by
  rw [WF_iff] at h h2 ⊢
  intro i hi
  have hi : i < σ2.next := hi
  show ((unhold H σ σ2).get i).rl σ2.next = true
  by_cases hm : i ∈ H ∧ i < σ.next
  · rw [unhold_in hm.1 hm.2]; exact AObj.rl_mono hn (h i hm.2)
  · rcases unhold_cases (σ := σ) (σ2 := σ2) hm with q | ⟨q, _⟩
    · rw [q]; rfl
    · rw [q]; exact h2 i hi
theorem callh {P : Program} {f : FuncId} {args : List AV} {H : List Nat} {σ : AHeap} {R F : AV → AHeap → Prop} {d : Hd F} (hwf : σ.WF) (h : ACalls P f args (hold H σ) R)
    (hr : ∀ v σ2, R v σ2 → (unhold H σ σ2).WF → v.rl σ2.next = true → σ.next ≤ σ2.next → F v (unhold H σ σ2)) : ACH P f args H σ F d :=
  h.wf.mono fun v σ2 ⟨h1, h2, h3, h4⟩ => hr v σ2 h1 (unhold_wf hwf h2 h4) h3 h4
theorem Chg.unhold {rs H : List Nat} {σ σ2 : AHeap} (h : Chg rs (hold H σ) σ2) : Chg rs σ (unhold H σ σ2) :=
  ⟨h.le, fun j hj hn => unhold_same hj fun hm => (h.same j hj hn).trans (hold_get_not hm)⟩
theorem Ext.ofChg {σ σ' : AHeap} (h : Chg [] σ σ') : Ext σ σ' := ⟨h.le, fun i hi => h.same i hi (by simp)⟩
theorem Ext.unhold {H : List Nat} {σ σ2 : AHeap} (h : Ext (hold H σ) σ2) : Ext σ (unhold H σ σ2) := .ofChg (Chg.unhold (.ofExt h))
theorem Ext.chg {rs : List Nat} {σ σ1 σ2 : AHeap} (h : Ext σ σ1) (k : Chg rs σ1 σ2) (hr : ∀ j ∈ rs, σ.next ≤ j) : Ext σ σ2 :=
  ⟨Nat.le_trans h.le k.le, fun j hj => by rw [k.same j (Nat.lt_of_lt_of_le hj h.le) (fun q => by have := hr j q; omega)]; exact h.same j hj⟩
theorem RowOf.at {α : Type} [Inhabited α] {enc : α → List AV} {s : Nat} {σ : AHeap} {v : AV} {l : List α} (h : RowOf enc s σ v l) (hs : ∀ x, (enc x).length = s) (h0 : l ≠ []) :
    ∃ q off cs, v = .slice q off l.length ∧ q < σ.next ∧ σ.cells q = some cs ∧ ∀ k, k < l.length → ∀ o, o < s → cs[off + k * s + o]? = some ((enc (l.getD k default)).getD o .junk) := by
  unfold RowOf at h
  generalize hn : l.length = n at h
  generalize hcells : l.flatMap enc = cells at h
  cases h
  · exact absurd (List.eq_nil_of_length_eq_zero hn) h0
  · exact absurd (List.eq_nil_of_length_eq_zero hn) h0
  · rename_i i off cs hi hc hf hle hce
    refine ⟨i, off, cs, rfl, hi, hc, fun m hm o ho => ?_⟩
    have hlt : (m + 1) * s ≤ n * s := Nat.mul_le_mul_right _ (by omega)
    rw [Nat.add_mul] at hlt
    have h1 := flatMap_drop_take hs l m 1 (by omega)
    rw [hcells, hce, List.drop_take, List.take_take, List.drop_drop, Nat.one_mul] at h1
    rw [show min s (n * s - m * s) = s by omega] at h1
    have h2 : (l.drop m).take 1 = [l[m]] := by
      rw [List.drop_eq_getElem_cons (by omega), List.take_succ_cons, List.take_zero]
    rw [h2] at h1
    simp only [List.flatMap_cons, List.flatMap_nil, List.append_nil] at h1
    have h3 : (List.take s (List.drop (off + m * s) cs))[o]? = (enc l[m])[o]? := by rw [h1]
    rw [List.getElem?_take, if_pos ho, List.getElem?_drop] at h3
    rw [h3, List.getElem?_eq_getElem (by rw [hs]; exact ho), List.getD_eq_getElem?_getD, List.getD_eq_getElem?_getD, List.getElem?_eq_getElem (show m < l.length by omega)]
    simp only [Option.getD_some]
    rw [List.getElem?_eq_getElem (by rw [hs]; exact ho)]; rfl
theorem Chg.cells {rs : List Nat} {σ σ' : AHeap} (h : Chg rs σ σ') {i : Nat} (hi : i < σ.next) (hn : i ∉ rs) : σ'.cells i = σ.cells i := by
  unfold AHeap.cells; rw [h.same i hi hn]
theorem OInts.chg {rs : List Nat} {σ0 σ σ' : AHeap} {v : AV} {x : List Int} (h : OInts σ0 σ v x) (hC : Chg rs σ σ') (hr : ∀ r ∈ rs, r < σ0.next) : OInts σ0 σ' v x := by
  cases h with
  | nil => exact .nil
  | mk q x hq ho => exact .mk q x ⟨hq.1, Nat.lt_of_lt_of_le hq.2 hC.le⟩ (by rw [hC.same q hq.2 (fun m => by have := hr q m; omega)]; exact ho)
theorem ownRow {rs : List Nat} {σ σ' : AHeap} (hC : Chg rs σ σ') {q : Nat} {x : List Int} (hq : q < σ.next) (hn : q ∉ rs) (ho : σ.get q = .own 1 (ints x)) : IntRow σ' (.slice q 0 x.length) x :=
  IntRow.of_own (Nat.lt_of_lt_of_le hq hC.le) (by rw [hC.same q hq hn]; exact ho)

theorem OInts.base {σ0 σ1 σ : AHeap} (hle : σ0.next ≤ σ1.next) {v : AV} {x : List Int} (h : OInts σ1 σ v x) : OInts σ0 σ v x := by
  cases h with
  | nil => exact .nil
  | mk q x hq ho => exact .mk q x ⟨by omega, hq.2⟩ ho
theorem astore_ptr {P : Program} {t : TypeId} {i off : Nat} {v : AV} {σ : AHeap} : astore P t (.ptr i off) v σ = (match σ.get i, v.cellsA with
    | .own s cs, some vs => if sz P t = some vs.length ∧ off + vs.length ≤ cs.length ∧ vs.all AV.sc = true then some (.junk, σ.set i (.own s (splice cs off vs))) else none
    | _, _ => none) := rfl
end Go.Proofs.Yteeakkakkjhgoaa.A
