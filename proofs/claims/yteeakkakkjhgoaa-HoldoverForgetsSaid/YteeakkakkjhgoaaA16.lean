/- A fresh row of integers that grows by append. Conditions: none. -/
import Derived.Test.YteeakkakkjhgoaaA15
set_option linter.unusedVariables false
set_option linter.unusedSimpArgs false
namespace Go.Proofs.Yteeakkakkjhgoaa.A
open Go Go.RowKit

inductive OInts (σ0 σ : AHeap) : AV → List Int → Prop where
  | nil : OInts σ0 σ .nils []
  | mk (q : Nat) (x : List Int) (hq : σ0.next ≤ q ∧ q < σ.next) (ho : σ.get q = .own 1 (ints x)) : OInts σ0 σ (.slice q 0 x.length) x
theorem OInts.row {σ0 σ : AHeap} {v : AV} {x : List Int} (h : OInts σ0 σ v x) : IntRow σ v x := by
  cases h with
  | nil => exact .nils
  | mk q x hq ho => exact IntRow.of_own hq.2 ho
theorem OInts.ext {σ0 σ σ' : AHeap} [h : Ext σ σ'] {v : AV} {x : List Int} (k : OInts σ0 σ v x) : OInts σ0 σ' v x := by
  cases k with
  | nil => exact .nil
  | mk q x hq ho => exact .mk q x ⟨hq.1, Nat.lt_of_lt_of_le hq.2 h.le⟩ (by rw [h.same q hq.2]; exact ho)
theorem OInts.push {P : Program} {t e : TypeId} (hk : tk P t = .slice e) (hs : sz P e = some 1) (hb : byt P e = some 8) {z : List AV} (hz : zeroOf P e = some z) (hz1 : z.length = 1)
    {σ0 σ' σ2 : AHeap} [h02 : Ext σ' σ2] {v : AV} {x : List Int} (h0 : σ0.next ≤ σ'.next) (h : OInts σ0 σ' v x) (hm : x.length ≤ 1000000) {p : Nat} {c : Int} (hp : σ2.get p = .own 1 [.int .i64 c]) (hwf : σ2.WF) :
    ∃ v' σ3, aappend P t v (.slice p 0 1) σ2 = some (v', σ3) ∧ OInts σ0 σ3 v' (x ++ [c]) ∧ σ3.WF ∧ σ2.next ≤ σ3.next ∧ (Ext σ0 σ2 → Ext σ0 σ3) := by
  have hsrc : asrc σ2 1 (.slice p 0 1) = some (1, [.int .i64 c]) := by
    rw [asrc_slice, cells_of_own hp, fits_of_own hp]; simp [asrcO, AV.sc]
  cases h with
  | nil =>
    refine ⟨.slice σ2.next 0 1, σ2.alloc (.own 1 [.int .i64 c]), ?_, ?_, WF.alloc hwf rfl, by simp only [AHeap.next_alloc]; omega, fun _ => inferInstance⟩
    · simp [aappend, hk, hs, hb, hz, hz1, hsrc]
    · exact .mk σ2.next [c] ⟨by have := h02.le; omega, by simp only [AHeap.next_alloc]; omega⟩ (get_alloc_self rfl)
  | mk q x hq ho =>
    have hq2 : q < σ2.next := Nat.lt_of_lt_of_le hq.2 h02.le
    have ho2 : σ2.get q = .own 1 (ints x) := by rw [h02.same q hq.2]; exact ho
    refine ⟨.slice σ2.next 0 (x.length + 1), (σ2.set q .dead).alloc (.own 1 (ints (x ++ [c]))), ?_, ?_, WF.alloc (WF.set hwf q rl_dead) rl_ints, by simp only [AHeap.next_alloc, AHeap.next_set]; omega, fun hE => ?_⟩
    · simp only [aappend, hk, hs, hb, hz, hz1, hsrc, ho2]
      simp [ints_length]
      refine ⟨by omega, ?_⟩
      rw [List.take_of_length_le (by rw [ints_length]; omega)]
      simp [ints]
    · have e : (x ++ [c]).length = x.length + 1 := by simp
      rw [← e]
      exact .mk σ2.next _ ⟨by have := h02.le; omega, by simp only [AHeap.next_alloc, AHeap.next_set]; omega⟩ (get_alloc_self rfl)
    · have : LeI σ0.next q := ⟨hq.1⟩
      exact inferInstance
/-- A field of an element, its place. -/
def rowFld : AV → Nat → Nat → Nat → AV
  | .slice i off _, k, s, o => .ptr i (off + k * s + o)
  | _, _, _, _ => .junk
section
variable {P : Program} {σ : AHeap} {α : Type} {enc : α → List AV} {s : Nat} {v : AV} {l : List α} {t e : TypeId}
theorem RowOf.faddr (h : RowOf enc s σ v l) {f o : Nat} (hf : ∀ i off, afaddr P t (.ptr i off) f = some (.ptr i (off + o))) (m : Nat) (hm : m < l.length) : afaddr P t (rowPtr v m s) f = some (rowFld v m s o) := by
  unfold RowOf at h
  generalize hn : l.length = n at h hm
  generalize l.flatMap enc = cells at h
  cases h
  · omega
  · omega
  · simp [rowPtr, rowFld, hf]
theorem RowOf.loadF [Inhabited α] (h : RowOf enc s σ v l) (hs : ∀ x, (enc x).length = s) (his : (tk P e).is = true) (hagg : (tk P e).agg = false) (m o : Nat) (hm : m < l.length) (ho : o < s) :
    aload P e (rowFld v m s o) σ = some ((enc (l.getD m default)).getD o .junk) := by
  unfold RowOf at h
  generalize hn : l.length = n at h
  generalize hcells : l.flatMap enc = cells at h
  cases h
  · omega
  · omega
  · rename_i i off cs hi hc hf hle hce
    have hlt : (m + 1) * s ≤ n * s := Nat.mul_le_mul_right _ (by omega)
    rw [Nat.add_mul] at hlt
    simp only [aload, rowFld, hc, his, hagg, if_true]
    rw [if_neg (by simp)]
    have h1 := flatMap_drop_take hs l m 1 (by omega)
    rw [hcells, hce, List.drop_take, List.take_take, List.drop_drop, Nat.one_mul] at h1
    rw [show min s (n * s - m * s) = s by omega] at h1
    have h2 : (l.drop m).take 1 = [l[m]] := by
      rw [List.drop_eq_getElem_cons (by omega), List.take_succ_cons, List.take_zero]
    rw [h2] at h1
    simp only [List.flatMap_cons, List.flatMap_nil, List.append_nil] at h1
    have h3 : (List.take s (List.drop (off + m * s) cs))[o]? = (enc l[m])[o]? := by rw [h1]
    rw [List.getElem?_take, if_pos ho, List.getElem?_drop] at h3
    rw [h3, List.getElem?_eq_getElem (by rw [hs]; exact ho), List.getD_eq_getElem?_getD, List.getD_eq_getElem?_getD, List.getElem?_eq_getElem (show m < l.length by omega)]
    simp only [Option.getD_some]
    rw [List.getElem?_eq_getElem (by rw [hs]; exact ho)]; rfl
end
theorem ACond_not {p : Bool} {x y : Unit → Prop} (hx : p = false → x ()) (hy : p = true → y ()) {d : Hd (x, y)} : ACond (.bool (!p)) x y d := by
  cases p
  · simpa [ACond] using hx rfl
  · simpa [ACond] using hy rfl
theorem AG_not {p : Bool} {x y : Unit → Prop} (hx : p = false → x ()) (hy : p = true → y ()) {d : Hd (x, y)} : AG (.test (!p)) x y d := by
  cases p
  · simpa [AG] using hx rfl
  · simpa [AG] using hy rfl
end Go.Proofs.Yteeakkakkjhgoaa.A
