/- Calls behind loads; the law Asks. Conditions: none. -/
import Derived.Test.YthiaegigndlnpaaG10
set_option linter.unusedVariables false
set_option linter.unusedSimpArgs false
namespace Go.Proofs.Ythiaegigndlnpaa.A
open Go Go.RowKit

theorem unhold_next {H : List Nat} {σ σ2 : AHeap} : (unhold H σ σ2).next = σ2.next := rfl
theorem unhold_wf {H : List Nat} {σ σ2 : AHeap} (h : σ.WF) (h2 : σ2.WF) (hn : σ.next ≤ σ2.next) : (unhold H σ σ2).WF := by
  rw [WF_iff] at h h2 ⊢
  intro i hi
  have hi : i < σ2.next := hi
  show ((unhold H σ σ2).get i).rl σ2.next = true
  by_cases hm : i ∈ H ∧ i < σ.next
  · rw [unhold_in hm.1 hm.2]; exact AObj.rl_mono hn (h i hm.2)
  · rcases unhold_cases (σ := σ) (σ2 := σ2) hm with q | ⟨q, _⟩
    · rw [q]; rfl
    · rw [q]; exact h2 i hi
theorem callh {P : Program} {f : FuncId} {args : List AV} {H : List Nat} {σ : AHeap} {R F : AV → AHeap → Prop} {d : Hd F} (hwf : σ.WF) (h : ACalls P f args (hold H σ) R)
    (hr : ∀ v σ2, R v σ2 → (unhold H σ σ2).WF → v.rl σ2.next = true → σ.next ≤ σ2.next → F v (unhold H σ σ2)) : ACH P f args H σ F d :=
  h.wf.mono fun v σ2 ⟨h1, h2, h3, h4⟩ => hr v σ2 h1 (unhold_wf hwf h2 h4) h3 h4
theorem Chg.unhold {rs H : List Nat} {σ σ2 : AHeap} (h : Chg rs (hold H σ) σ2) : Chg rs σ (unhold H σ σ2) :=
  ⟨h.le, fun j hj hn => unhold_same hj fun hm => (h.same j hj hn).trans (hold_get_not hm)⟩
theorem Ext.ofChg {σ σ' : AHeap} (h : Chg [] σ σ') : Ext σ σ' := ⟨h.le, fun i hi => h.same i hi (by simp)⟩
theorem Ext.unhold {H : List Nat} {σ σ2 : AHeap} (h : Ext (hold H σ) σ2) : Ext σ (unhold H σ σ2) := .ofChg (Chg.unhold (.ofExt h))
theorem Ext.chg {rs : List Nat} {σ σ1 σ2 : AHeap} (h : Ext σ σ1) (k : Chg rs σ1 σ2) (hr : ∀ j ∈ rs, σ.next ≤ j) : Ext σ σ2 :=
  ⟨Nat.le_trans h.le k.le, fun j hj => by rw [k.same j (Nat.lt_of_lt_of_le hj h.le) (fun q => by have := hr j q; omega)]; exact h.same j hj⟩
theorem IA.hold {H : List Nat} {σ : AHeap} {r mp : Nat} {L : Lim} (h : IA σ r mp L) (h1 : r ∉ H) (h2 : mp ∉ H) : IA (A.hold H σ) r mp L :=
  ⟨h.ok, h.rl, h.ml, h.ne, by rw [hold_get_not h1]; exact h.cell, by obtain ⟨m, p, q⟩ := h.ex; exact ⟨m, p, by rw [hold_get_not h2]; exact q⟩⟩
theorem IA.unhold {H : List Nat} {σ σ2 : AHeap} {r mp : Nat} {L : Lim} (h : IA σ2 r mp L) (h1 : r ∉ H) (h2 : mp ∉ H) : IA (A.unhold H σ σ2) r mp L :=
  ⟨h.ok, h.rl, h.ml, h.ne, by rw [unhold_own h1 (by rw [h.cell]; rfl)]; exact h.cell, by obtain ⟨m, p, q⟩ := h.ex; exact ⟨m, p, by rw [unhold_own h2 (by rw [q]; rfl)]; exact q⟩⟩
theorem RB.hold {H : List Nat} {σ : AHeap} {r i : Nat} {L : Lim} (h : RB σ r i L) (h1 : r ∉ H) (h2 : i ∉ H) : RB (A.hold H σ) r i L := by
  obtain ⟨sl, g1, g2⟩ := h.ex
  refine ⟨h.ok, h.rl, sl, by rw [hold_get_not h1]; exact g1, ?_⟩
  rcases g2 with g2 | ⟨h3, h4, h5, h6⟩
  · exact .inl g2
  · exact .inr ⟨h3, h4, h5, by rw [hold_get_not h2]; exact h6⟩
theorem RB.unhold {H : List Nat} {σ σ2 : AHeap} {r i : Nat} {L : Lim} (h : RB σ2 r i L) (h1 : r ∉ H) (h2 : i ∉ H) : RB (A.unhold H σ σ2) r i L := by
  obtain ⟨sl, g1, g2⟩ := h.ex
  refine ⟨h.ok, h.rl, sl, by rw [unhold_own h1 (by rw [g1]; rfl)]; exact g1, ?_⟩
  rcases g2 with g2 | ⟨h3, h4, h5, h6⟩
  · exact .inl g2
  · exact .inr ⟨h3, h4, h5, by rw [unhold_own h2 (by rw [h6]; rfl)]; exact h6⟩
/-- The row of requests. -/
theorem RowOf.at {α : Type} [Inhabited α] {enc : α → List AV} {s : Nat} {σ : AHeap} {v : AV} {l : List α} (h : RowOf enc s σ v l) (hs : ∀ x, (enc x).length = s) (h0 : l ≠ []) :
    ∃ q off cs, v = .slice q off l.length ∧ q < σ.next ∧ σ.cells q = some cs ∧ ∀ k, k < l.length → ∀ o, o < s → cs[off + k * s + o]? = some ((enc (l.getD k default)).getD o .junk) := by
  unfold RowOf at h
  generalize hn : l.length = n at h
  generalize hcells : l.flatMap enc = cells at h
  cases h
  · exact absurd (List.eq_nil_of_length_eq_zero hn) h0
  · exact absurd (List.eq_nil_of_length_eq_zero hn) h0
  · rename_i i off cs hi hc hf hle hce
    refine ⟨i, off, cs, rfl, hi, hc, fun m hm o ho => ?_⟩
    have hlt : (m + 1) * s ≤ n * s := Nat.mul_le_mul_right _ (by omega)
    rw [Nat.add_mul] at hlt
    have h1 := flatMap_drop_take hs l m 1 (by omega)
    rw [hcells, hce, List.drop_take, List.take_take, List.drop_drop, Nat.one_mul] at h1
    rw [show min s (n * s - m * s) = s by omega] at h1
    have h2 : (l.drop m).take 1 = [l[m]] := by
      rw [List.drop_eq_getElem_cons (by omega), List.take_succ_cons, List.take_zero]
    rw [h2] at h1
    simp only [List.flatMap_cons, List.flatMap_nil, List.append_nil] at h1
    have h3 : (List.take s (List.drop (off + m * s) cs))[o]? = (enc l[m])[o]? := by rw [h1]
    rw [List.getElem?_take, if_pos ho, List.getElem?_drop] at h3
    rw [h3, List.getElem?_eq_getElem (by rw [hs]; exact ho), List.getD_eq_getElem?_getD, List.getD_eq_getElem?_getD, List.getElem?_eq_getElem (show m < l.length by omega)]
    simp only [Option.getD_some]
    rw [List.getElem?_eq_getElem (by rw [hs]; exact ho)]; rfl
theorem Chg.cells {rs : List Nat} {σ σ' : AHeap} (h : Chg rs σ σ') {i : Nat} (hi : i < σ.next) (hn : i ∉ rs) : σ'.cells i = σ.cells i := by
  unfold AHeap.cells; rw [h.same i hi hn]
theorem eqBoolN (a b : Bool) : abin Try.prog .neq 4 (.bool a) (.bool b) = some (.bool (!(a == b))) := by
  simp [abin, aeq, tk4]
abbrev ReqRow (σ : AHeap) (v : AV) (l : List Req) : Prop := RowOf Req.enc 2 σ v l
/-- The request at a place of a row. -/
theorem ReqRow.get {σ : AHeap} {v : AV} {l : List Req} (h : ReqRow σ v l) (h0 : l ≠ []) :
    ∃ q off cs, v = .slice q off l.length ∧ q < σ.next ∧ σ.cells q = some cs ∧ ∀ k, k < l.length → cs[off + k * 2]? = some (.int .i64 (l.getD k default).cl) ∧ cs[off + k * 2 + 1]? = some (.int .i64 (l.getD k default).tm) := by
  obtain ⟨q, off, cs, h1, h2, h3, h4⟩ := h.at Req.enc_len h0
  exact ⟨q, off, cs, h1, h2, h3, fun k hk => ⟨h4 k hk 0 (by omega), h4 k hk 1 (by omega)⟩⟩
end Go.Proofs.Ythiaegigndlnpaa.A
