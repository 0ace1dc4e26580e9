/- A fresh matrix that grows by append. Conditions: none. -/
import Derived.Test.YteeakkakkjhgoaaA14
set_option linter.unusedVariables false
set_option linter.unusedSimpArgs false
namespace Go.Proofs.Yteeakkakkjhgoaa.A
open Go Go.RowKit

/-- Slices of whole rows. -/
def rowsA (js : List Nat) (m : List (List Int)) : List AV := List.zipWith (fun i r => AV.slice i 0 r.length) js m
inductive OMat (σ0 σ : AHeap) : AV → List (List Int) → Prop where
  | nil : OMat σ0 σ .nils []
  | mk (j : Nat) (js : List Nat) (m : List (List Int)) (hne : m ≠ []) (hl : js.length = m.length) (hj : σ0.next ≤ j ∧ j < σ.next) (ho : σ.get j = .own 1 (rowsA js m))
      (hr : ∀ (k i : Nat) (r : List Int), js[k]? = some i → m[k]? = some r → σ0.next ≤ i ∧ i < σ.next ∧ i ≠ j ∧ σ.get i = .own 1 (ints r)) (hd : js.Nodup) : OMat σ0 σ (.slice j 0 m.length) m
theorem rowsA_length {js : List Nat} {m : List (List Int)} (h : js.length = m.length) : (rowsA js m).length = m.length := by simp [rowsA, h]
theorem rowsA_get {js : List Nat} {m : List (List Int)} {k i : Nat} {r : List Int} (h1 : js[k]? = some i) (h2 : m[k]? = some r) : (rowsA js m)[k]? = some (.slice i 0 r.length) := by
  simp [rowsA, List.getElem?_zipWith, h1, h2]
theorem OMat.mat {σ0 σ : AHeap} {v : AV} {m : List (List Int)} (h : OMat σ0 σ v m) : Mat σ v m := by
  cases h with
  | nil => exact ⟨[], rfl, .nils, fun k hk => by simp at hk⟩
  | mk j js m hne hl hj ho hr hd =>
    refine ⟨rowsA js m, rowsA_length hl, .row j 0 _ (rowsA js m) _ hj.2 (cells_of_own ho) (fits_of_own ho) (by rw [rowsA_length hl]; omega) ?_, fun k hk => ?_⟩
    · rw [List.drop_zero, List.take_of_length_le (by rw [rowsA_length hl]; omega)]
    · have hk1 : js[k]? = some js[k] := List.getElem?_eq_getElem (by omega)
      have hk2 : m[k]? = some m[k] := List.getElem?_eq_getElem hk
      obtain ⟨_, h1, _, h2⟩ := hr k _ _ hk1 hk2
      have := IntRow.of_own h1 h2
      rw [List.getD_eq_getElem?_getD, rowsA_get hk1 hk2, List.getD_eq_getElem?_getD, hk2]
      exact this
theorem OMat.ext {σ0 σ σ' : AHeap} [h : Ext σ σ'] {v : AV} {m : List (List Int)} (k : OMat σ0 σ v m) : OMat σ0 σ' v m := by
  cases k with
  | nil => exact .nil
  | mk j js m hne hl hj ho hr hd =>
    exact .mk j js m hne hl ⟨hj.1, Nat.lt_of_lt_of_le hj.2 h.le⟩ (by rw [h.same j hj.2]; exact ho) (fun k i r h1 h2 => by
      obtain ⟨a, b, c, d⟩ := hr k i r h1 h2
      exact ⟨a, Nat.lt_of_lt_of_le b h.le, c, by rw [h.same i b]; exact d⟩) hd

/-- One more row, by append of a slice of one. -/
theorem OMat.push {P : Program} {t e : TypeId} (hk : tk P t = .slice e) (hs : sz P e = some 1) (hb : byt P e = some 24) {z : List AV} (hz : zeroOf P e = some z) (hz1 : z.length = 1)
    {σ0 σ' σ2 : AHeap} [h02 : Ext σ' σ2] {v : AV} {m : List (List Int)} (h0 : σ0.next ≤ σ'.next) (h : OMat σ0 σ' v m) (hm : m.length ≤ 100000) {q i : Nat} {r : List Int} (hq : σ2.get q = .own 1 [.slice i 0 r.length]) (hq2 : q < σ2.next)
    (hq1 : σ'.next ≤ q) (hi : σ2.get i = .own 1 (ints r)) (hi1 : σ'.next ≤ i) (hi2 : i < σ2.next) (hwf : σ2.WF) :
    ∃ v' σ3, aappend P t v (.slice q 0 1) σ2 = some (v', σ3) ∧ OMat σ0 σ3 v' (m ++ [r]) ∧ σ3.WF ∧ σ2.next ≤ σ3.next ∧ (Ext σ0 σ2 → Ext σ0 σ3) := by
  have hsrc : asrc σ2 1 (.slice q 0 1) = some (1, [.slice i 0 r.length]) := by
    rw [asrc_slice, cells_of_own hq, fits_of_own hq]; simp [asrcO, AV.sc]
  have hrl : ∀ n, i < n → (AObj.own 1 [AV.slice i 0 r.length]).rl n = true := fun n hn => by simp [AObj.rl, AV.rls, AV.rl, hn]
  cases h with
  | nil =>
    refine ⟨.slice σ2.next 0 1, σ2.alloc (.own 1 [.slice i 0 r.length]), ?_, ?_, WF.alloc hwf (hrl _ (by omega)), by simp only [AHeap.next_alloc]; omega, fun _ => inferInstance⟩
    · simp [aappend, hk, hs, hb, hz, hz1, hsrc]
    · refine .mk σ2.next [i] [r] (by simp) rfl ⟨by have := h02.le; omega, by simp only [AHeap.next_alloc]; omega⟩ (get_alloc_self rfl) (fun k i' r' h1 h2 => ?_) (by simp)
      cases k with
      | zero =>
        simp at h1 h2; subst h1 h2
        exact ⟨by omega, by simp only [AHeap.next_alloc]; omega, by omega, by rw [get_alloc_ne (by omega)]; exact hi⟩
      | succ k => simp at h1
  | mk j js m hne hl hj ho hr hd =>
    have hj2 : j < σ2.next := Nat.lt_of_lt_of_le hj.2 h02.le
    have ho2 : σ2.get j = .own 1 (rowsA js m) := by rw [h02.same j hj.2]; exact ho
    have hlen := rowsA_length hl
    refine ⟨.slice σ2.next 0 (m.length + 1), (σ2.set j .dead).alloc (.own 1 (rowsA js m ++ [.slice i 0 r.length])), ?_, ?_, ?_, by simp only [AHeap.next_alloc, AHeap.next_set]; omega, fun hE => ?_⟩
    · simp only [aappend, hk, hs, hb, hz, hz1, hsrc, ho2]
      simp [hlen]
      refine ⟨by omega, by rw [List.take_of_length_le (by omega)]⟩
    · have e : (m ++ [r]).length = m.length + 1 := by simp
      have e2 : rowsA js m ++ [.slice i 0 r.length] = rowsA (js ++ [i]) (m ++ [r]) := by
        unfold rowsA; rw [List.zipWith_append hl]; rfl
      rw [e2, ← e]
      refine .mk σ2.next (js ++ [i]) (m ++ [r]) (by simp) (by simp [hl]) ⟨by have := h02.le; omega, by simp only [AHeap.next_alloc, AHeap.next_set]; omega⟩ (get_alloc_self rfl) (fun k i' r' h1 h2 => ?_) ?_
      · by_cases hkm : k < m.length
        · rw [List.getElem?_append_left (by omega)] at h1 h2
          obtain ⟨a, b, c, d⟩ := hr k i' r' h1 h2
          have hb2 : i' < σ2.next := Nat.lt_of_lt_of_le b h02.le
          exact ⟨a, by simp only [AHeap.next_alloc, AHeap.next_set]; omega, by omega, by rw [get_alloc_ne (by simp only [AHeap.next_set]; omega), get_set_ne c, h02.same i' b]; exact d⟩
        · have hke : k = m.length := by
            have := (List.getElem?_eq_some_iff.1 h2).1
            simp at this; omega
          subst hke
          rw [List.getElem?_append_right (by omega)] at h1 h2
          simp [hl] at h1 h2
          subst h1 h2
          refine ⟨by omega, by simp only [AHeap.next_alloc, AHeap.next_set]; omega, by omega, ?_⟩
          rw [get_alloc_ne (by simp only [AHeap.next_set]; omega), get_set_ne (by omega)]
          exact hi
      · rw [List.nodup_append]
        refine ⟨hd, by simp, fun a ha b hb => ?_⟩
        simp at hb; subst hb
        obtain ⟨k, hk⟩ := List.mem_iff_getElem?.1 ha
        have hkl : k < m.length := by have := (List.getElem?_eq_some_iff.1 hk).1; omega
        obtain ⟨_, b, _, _⟩ := hr k a m[k] hk (List.getElem?_eq_getElem hkl)
        omega
    · refine WF.alloc (WF.set hwf j rl_dead) ?_
      simp only [AHeap.next_set]
      show AV.rls _ _ = true
      rw [AV.rls_all, List.all_append, Bool.and_eq_true]
      constructor
      · rw [← AV.rls_all]
        have := (WF_iff.1 hwf) j hj2
        rw [ho2] at this
        exact AV.rls_mono (by omega) _ this
      · simp [AV.rl]; omega
    · have : LeI σ0.next j := ⟨hj.1⟩
      exact inferInstance
end Go.Proofs.Yteeakkakkjhgoaa.A
