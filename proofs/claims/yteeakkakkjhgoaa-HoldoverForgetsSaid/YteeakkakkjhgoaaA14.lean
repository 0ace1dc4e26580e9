/- Heaps that grow. Conditions: none. -/
import Derived.Test.YteeakkakkjhgoaaA13
set_option linter.unusedVariables false
set_option linter.unusedSimpArgs false
namespace Go.Proofs.Yteeakkakkjhgoaa.A
open Go Go.RowKit

class LeI (a b : Nat) : Prop where
  le : a ≤ b
instance LeI.refl (a : Nat) : LeI a a := ⟨Nat.le_refl a⟩
instance LeI.succ (a b : Nat) [h : LeI a b] : LeI a (b + 1) := ⟨Nat.le_succ_of_le h.le⟩
/-- What was there is there still, unchanged. -/
class Ext (σ σ' : AHeap) : Prop where
  le : σ.next ≤ σ'.next
  same : ∀ i, i < σ.next → σ'.get i = σ.get i
instance (priority := 10) LeI.ofExt (σ σ' : AHeap) [h : Ext σ σ'] : LeI σ.next σ'.next := ⟨h.le⟩
instance LeI.alloc (a : Nat) (σ : AHeap) (o : AObj) [h : LeI a σ.next] : LeI a (σ.alloc o).next := ⟨Nat.le_succ_of_le h.le⟩
instance LeI.set (a : Nat) (σ : AHeap) (i : Nat) (o : AObj) [h : LeI a σ.next] : LeI a (σ.set i o).next := ⟨h.le⟩
instance Ext.refl (σ : AHeap) : Ext σ σ := ⟨Nat.le_refl _, fun _ _ => rfl⟩
instance Ext.alloc (σ σ' : AHeap) (o : AObj) [h : Ext σ σ'] : Ext σ (σ'.alloc o) :=
  ⟨by have := h.le; simp only [AHeap.next_alloc]; omega, fun i hi => by rw [get_alloc_ne (by have := h.le; omega)]; exact h.same i hi⟩
instance Ext.set (σ σ' : AHeap) (i : Nat) (o : AObj) [h : Ext σ σ'] [k : LeI σ.next i] : Ext σ (σ'.set i o) :=
  ⟨h.le, fun j hj => by rw [get_set_ne (by have := k.le; omega)]; exact h.same j hj⟩
theorem Ext.trans {σ σ1 σ2 : AHeap} (h : Ext σ σ1) (k : Ext σ1 σ2) : Ext σ σ2 :=
  ⟨Nat.le_trans h.le k.le, fun i hi => (k.same i (Nat.lt_of_lt_of_le hi h.le)).trans (h.same i hi)⟩
theorem Ext.cells {σ σ' : AHeap} (h : Ext σ σ') {i : Nat} (hi : i < σ.next) : σ'.cells i = σ.cells i := by
  unfold AHeap.cells; rw [h.same i hi]
theorem Ext.fits {σ σ' : AHeap} (h : Ext σ σ') {i s : Nat} (hi : i < σ.next) : σ'.fits i s = σ.fits i s := by
  unfold AHeap.fits; rw [h.same i hi]
theorem IsRow.ext {σ σ' : AHeap} [h : Ext σ σ'] {s n : Nat} {v : AV} {cells : List AV} (k : IsRow σ s v n cells) : IsRow σ' s v n cells := by
  cases k
  · exact .nils
  · exact .slice0
  · rename_i i off cs hi hc hf hle hce
    exact .row i off n cs cells (Nat.lt_of_lt_of_le hi h.le) (by rw [h.cells hi]; exact hc) (by rw [h.fits hi]; exact hf) hle hce
theorem RowOf.ext {α : Type} {enc : α → List AV} {σ σ' : AHeap} [h : Ext σ σ'] {s : Nat} {v : AV} {l : List α} (k : RowOf enc s σ v l) : RowOf enc s σ' v l := IsRow.ext k

theorem ACalls.wf {P : Program} {f : FuncId} {args : List AV} {σ : AHeap} {R : AV → AHeap → Prop} (h : ACalls P f args σ R) : ACalls P f args σ (fun v σ' => R v σ' ∧ σ'.WF ∧ v.rl σ'.next = true ∧ σ.next ≤ σ'.next) :=
  ⟨h.1, fun ρ w cargs hv hh => (h.2 ρ w cargs hv hh).mono fun e w' ⟨cv, v, ρ', σ', h1, h2, h3, h4, h5, h6, h7⟩ => ⟨cv, v, ρ', σ', h1, h2, h3, h4, h5, h6, h7, h3.wf, h2.rl, h5⟩⟩
theorem call_wf {P : Program} {σ : AHeap} {f : FuncId} {args : List AV} {R F : AV → AHeap → Prop} {d : Hd F} (h : ACalls P f args σ R) (hr : ∀ v σ', R v σ' → σ'.WF → v.rl σ'.next = true → σ.next ≤ σ'.next → F v σ') : ACK P f args σ F d :=
  h.wf.mono fun v σ' ⟨h1, h2, h3, h4⟩ => hr v σ' h1 h2 h3 h4

/-- The integers of a row, one by one. -/
theorem IntRow.load {P : Program} {σ : AHeap} {v : AV} {l : List Int} {e : TypeId} (h : IntRow σ v l) (his : (tk P e).is = true) (hagg : (tk P e).agg = false) (m : Nat) (hm : m < l.length) :
    aload P e (rowPtr v m 1) σ = some (.int .i64 (l.getD m 0)) := RowOf.load1 (en := fun x => .int .i64 x) h his hagg m hm

/-- A row of rows of integers. -/
structure Mat (σ : AHeap) (v : AV) (m : List (List Int)) : Prop where
  ex : ∃ as : List AV, as.length = m.length ∧ IsRow σ 1 v m.length as ∧ ∀ k, k < m.length → IntRow σ (as.getD k .junk) (m.getD k [])
theorem Mat.ext {σ σ' : AHeap} [h : Ext σ σ'] {v : AV} {m : List (List Int)} (k : Mat σ v m) : Mat σ' v m :=
  let ⟨as, h1, h2, h3⟩ := k.ex; ⟨as, h1, h2.ext, fun j hj => (h3 j hj).ext⟩

theorem Mat.rl {σ : AHeap} {v : AV} {m : List (List Int)} (k : Mat σ v m) : v.rl σ.next = true :=
  let ⟨as, h1, h2, h3⟩ := k.ex; h2.rl
theorem IsRow.box {σ τ : AHeap} {s n : Nat} {u : AV} {cells : List AV} (h : IsRow σ s u n cells) : abox u τ = some (.ptr τ.next 0, τ.alloc (.own 1 [u])) := by
  cases h <;> simp [abox, AV.cellsA, AV.sc]
theorem RowOf.box {α : Type} {enc : α → List AV} {σ τ : AHeap} {s : Nat} {u : AV} {l : List α} (h : RowOf enc s σ u l) : abox u τ = some (.ptr τ.next 0, τ.alloc (.own 1 [u])) := IsRow.box h
/-- What an index that was sought says. -/
def IdxOK (z : Int) (b : Bool) : Prop := 0 ≤ z ↔ b = true
theorem IdxOK.dec {z : Int} {b : Bool} (h : IdxOK z b) : decide (0 ≤ z) = b := by rw [Bool.eq_iff_iff]; unfold IdxOK at h; simpa using h
theorem ACond_ne {c : Prop} [Decidable c] {x y : Unit → Prop} (hx : ¬ c → x ()) (hy : c → y ()) {d : Hd (x, y)} : ACond (.bool (decide ¬ c)) x y d := by
  by_cases h : c
  · simpa [ACond, h] using hy h
  · simpa [ACond, h] using hx h
theorem AG_ne {c : Prop} [Decidable c] {x y : Unit → Prop} (hx : ¬ c → x ()) (hy : c → y ()) {d : Hd (x, y)} : AG (.test (decide ¬ c)) x y d := by
  by_cases h : c
  · simpa [AG, h] using hy h
  · simpa [AG, h] using hx h

end Go.Proofs.Yteeakkakkjhgoaa.A
