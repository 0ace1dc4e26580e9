/- A square matrix that is written entry by entry. Conditions: none. -/
import Derived.Test.YtkkbnbgdhpkfhaaA16
set_option linter.unusedVariables false
set_option linter.unusedSimpArgs false
namespace Go.Proofs.Ytkkbnbgdhpkfhaa.A
open Go Go.RowKit

def outer (N : Nat) (js : List Nat) : List AV := js.map (fun i => AV.slice i 0 N) ++ List.replicate (N - js.length) AV.nils
theorem outer_len {N : Nat} {js : List Nat} (h : js.length ≤ N) : (outer N js).length = N := by simp [outer]; omega
theorem outer_get {N : Nat} {js : List Nat} {k : Nat} (h : k < js.length) : (outer N js)[k]? = some (.slice (js.getD k 0) 0 N) := by
  unfold outer
  rw [List.getElem?_append_left (by simpa using h)]
  simp [List.getElem?_map, List.getElem?_eq_getElem h, List.getD_eq_getElem?_getD]
theorem outer_rls {N : Nat} {js : List Nat} {n : Nat} (h : ∀ k, k < js.length → js.getD k 0 < n) : (AObj.own 1 (outer N js)).rl n = true := by
  show AV.rls n (outer N js) = true
  rw [AV.rls_all, outer, List.all_append, Bool.and_eq_true]
  constructor
  · rw [List.all_eq_true]
    intro x hx
    obtain ⟨i, hi, rfl⟩ := List.mem_map.1 hx
    obtain ⟨k, hk, rfl⟩ := List.getElem_of_mem hi
    have := h k hk
    rw [List.getD_eq_getElem?_getD, List.getElem?_eq_getElem hk] at this
    simpa [AV.rl] using this
  · rw [List.all_eq_true]
    intro x hx
    rw [List.eq_of_mem_replicate hx]; rfl
theorem nrow {k : Nat} {v : AV} : (List.replicate k [v]).flatten = List.replicate k v := by
  induction k with
  | zero => rfl
  | succ k ih => simp [List.replicate_succ, ih]
def ent (m : List (List Int)) (i j : Nat) : Int := (m.getD i []).getD j 0
def setE (m : List (List Int)) (i j : Nat) (v : Int) : List (List Int) := m.set i ((m.getD i []).set j v)
theorem setE_length (m : List (List Int)) (i j : Nat) (v : Int) : (setE m i j v).length = m.length := by simp [setE]
theorem getD_set_ne' {α : Type} {l : List α} {k i : Nat} {v d : α} (h : i ≠ k) : (l.set k v).getD i d = l.getD i d := by
  rw [List.getD_eq_getElem?_getD, List.getD_eq_getElem?_getD, List.getElem?_set_ne (by omega)]
theorem getD_set_eq' {α : Type} {l : List α} {k : Nat} {v d : α} (h : k < l.length) : (l.set k v).getD k d = v := by
  rw [List.getD_eq_getElem?_getD, List.getElem?_set_self h]; rfl
theorem ent_set {m : List (List Int)} {i j i' j' : Nat} {v : Int} (hi : i < m.length) (hj : j < (m.getD i []).length) : ent (setE m i j v) i' j' = if i' = i ∧ j' = j then v else ent m i' j' := by
  unfold ent setE
  by_cases h : i' = i
  · subst h
    rw [getD_set_eq' hi]
    by_cases h2 : j' = j
    · subst h2; rw [getD_set_eq' hj, if_pos ⟨rfl, rfl⟩]
    · rw [getD_set_ne' h2, if_neg (by omega)]
  · rw [getD_set_ne' h, if_neg (by omega)]
structure PM (σ0 σ : AHeap) (N q : Nat) (js : List Nat) (m : List (List Int)) : Prop where
  hl : js.length = m.length
  hN : m.length ≤ N
  hj : σ0.next ≤ q ∧ q < σ.next
  ho : σ.get q = .own 1 (outer N js)
  hr : ∀ k, k < m.length → σ0.next ≤ js.getD k 0 ∧ js.getD k 0 < σ.next ∧ js.getD k 0 ≠ q ∧ σ.get (js.getD k 0) = .own 1 (ints (m.getD k [])) ∧ (m.getD k []).length = N
  hd : ∀ k k', k < m.length → k' < m.length → js.getD k 0 = js.getD k' 0 → k = k'
section
variable {σ0 σ : AHeap} {N q : Nat} {js : List Nat} {m : List (List Int)}
theorem PM.get (h : PM σ0 σ N q js m) {k : Nat} (hk : k < m.length) : (outer N js)[k]? = some (.slice (js.getD k 0) 0 N) := outer_get (by rw [h.hl]; exact hk)
theorem PM.cells (h : PM σ0 σ N q js m) : σ.cells q = some (outer N js) := cells_of_own h.ho
theorem PM.row (h : PM σ0 σ N q js m) {k : Nat} (hk : k < m.length) : σ.cells (js.getD k 0) = some (ints (m.getD k [])) := cells_of_own (h.hr k hk).2.2.2.1
theorem PM.set (h : PM σ0 σ N q js m) {k c : Nat} (v : Int) (hk : k < m.length) : PM σ0 (σ.set (js.getD k 0) (.own 1 (ints ((m.getD k []).set c v)))) N q js (setE m k c v) where
  hl := by rw [setE_length]; exact h.hl
  hN := by rw [setE_length]; exact h.hN
  hj := h.hj
  ho := by rw [get_set_ne (by have := (h.hr k hk).2.2.1; omega)]; exact h.ho
  hr := fun i hi => by
    rw [setE_length] at hi
    obtain ⟨a, b, c1, d, e⟩ := h.hr i hi
    refine ⟨a, b, c1, ?_⟩
    by_cases hik : i = k
    · subst hik
      rw [get_set_self rfl]
      unfold setE
      rw [getD_set_eq' hi]
      exact ⟨rfl, by simpa using e⟩
    · rw [get_set_ne (fun hc => hik (h.hd i k hi hk hc))]
      unfold setE
      rw [getD_set_ne' hik]
      exact ⟨d, e⟩
  hd := fun a b ha hb => by rw [setE_length] at ha hb; exact h.hd a b ha hb
theorem PM.ext (h : PM σ0 σ N q js m) {σ' : AHeap} (hle : σ.next ≤ σ'.next) (hs : ∀ i, i < σ.next → σ'.get i = σ.get i) : PM σ0 σ' N q js m where
  hl := h.hl
  hN := h.hN
  hj := ⟨h.hj.1, by have := h.hj.2; omega⟩
  ho := by rw [hs _ h.hj.2]; exact h.ho
  hr := fun k hk => by
    obtain ⟨a, b, c, d, e⟩ := h.hr k hk
    exact ⟨a, by omega, c, by rw [hs _ b]; exact d, e⟩
  hd := h.hd
theorem PM.push (h : PM σ0 σ N q js m) {r : List Int} (hr : r.length = N) (hm : m.length < N) :
    PM σ0 ((σ.alloc (.own 1 (ints r))).set q (.own 1 (outer N (js ++ [σ.next])))) N q (js ++ [σ.next]) (m ++ [r]) := by
  have hl := h.hl
  have hj := h.hj
  have e1 : ∀ k, k < m.length → (js ++ [σ.next]).getD k 0 = js.getD k 0 := fun k hk => by
    rw [List.getD_eq_getElem?_getD, List.getD_eq_getElem?_getD, List.getElem?_append_left (by omega)]
  have e2 : (js ++ [σ.next]).getD m.length 0 = σ.next := by
    rw [List.getD_eq_getElem?_getD, List.getElem?_append_right (by omega), hl]; simp
  have f1 : ∀ k, k < m.length → (m ++ [r]).getD k [] = m.getD k [] := fun k hk => by
    rw [List.getD_eq_getElem?_getD, List.getD_eq_getElem?_getD, List.getElem?_append_left (by omega)]
  have f2 : (m ++ [r]).getD m.length [] = r := by
    rw [List.getD_eq_getElem?_getD, List.getElem?_append_right (by omega)]; simp
  refine ⟨by simp [hl], by simp; omega, ⟨hj.1, by simp only [AHeap.next_set, AHeap.next_alloc]; omega⟩, get_set_self rfl, fun k hk => ?_, fun k k' hk hk' => ?_⟩
  · simp at hk
    by_cases hkm : k < m.length
    · rw [e1 k hkm, f1 k hkm]
      obtain ⟨a, b, c, d, e⟩ := h.hr k hkm
      exact ⟨a, by simp only [AHeap.next_set, AHeap.next_alloc]; omega, c, by rw [get_set_ne c, get_alloc_ne (by omega)]; exact d, e⟩
    · have : k = m.length := by omega
      subst this
      rw [e2, f2]
      exact ⟨by omega, by simp only [AHeap.next_set, AHeap.next_alloc]; omega, by omega, by rw [get_set_ne (by omega)]; exact get_alloc_self rfl, hr⟩
  · simp at hk hk'
    by_cases h1 : k < m.length <;> by_cases h2 : k' < m.length
    · rw [e1 k h1, e1 k' h2]; exact h.hd k k' h1 h2
    · have : k' = m.length := by omega
      subst this
      rw [e1 k h1, e2]; have := (h.hr k h1).2.1; omega
    · have : k = m.length := by omega
      subst this
      rw [e1 k' h2, e2]; have := (h.hr k' h2).2.1; omega
    · omega
theorem PM.omat (h : PM σ0 σ N q js m) (hm : m.length = N) (hne : 1 ≤ N) : OMat σ0 σ (.slice q 0 N) m := by
  have hl := h.hl
  have e : outer N js = rowsA js m := by
    apply List.ext_getElem?
    intro k
    by_cases hk : k < m.length
    · rw [h.get hk]
      rw [rowsA_get (i := js.getD k 0) (r := m.getD k []) (by rw [List.getD_eq_getElem?_getD, List.getElem?_eq_getElem (by omega)]; rfl) (by rw [List.getD_eq_getElem?_getD, List.getElem?_eq_getElem hk]; rfl), (h.hr k hk).2.2.2.2]
    · rw [List.getElem?_eq_none (by rw [outer_len (by omega)]; omega), List.getElem?_eq_none (by rw [rowsA_length hl]; omega)]
  have := OMat.mk (σ0 := σ0) (σ := σ) q js m (by intro e; subst e; simp at hm; omega) hl h.hj (by rw [h.ho, e]) (fun k i r h1 h2 => by
    have hk : k < m.length := (List.getElem?_eq_some_iff.1 h2).1
    have := h.hr k hk
    rw [List.getD_eq_getElem?_getD, h1, List.getD_eq_getElem?_getD, h2] at this
    exact ⟨this.1, this.2.1, this.2.2.1, this.2.2.2.1⟩) (by
    rw [List.nodup_iff_pairwise_ne, List.pairwise_iff_getElem]
    intro i j hi hj hij he
    have := h.hd i j (by omega) (by omega) (by rw [List.getD_eq_getElem?_getD, List.getD_eq_getElem?_getD, List.getElem?_eq_getElem hi, List.getElem?_eq_getElem hj]; simpa using he)
    omega)
  rwa [hm] at this
end
end Go.Proofs.Ytkkbnbgdhpkfhaa.A
