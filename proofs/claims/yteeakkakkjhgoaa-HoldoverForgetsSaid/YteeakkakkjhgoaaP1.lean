/- The last frequencies and their middle, in plain Lean. Conditions: none. -/
import Derived.Test.YteeakkakkjhgoaaH9
set_option linter.unusedVariables false
set_option linter.unusedSimpArgs false
namespace Go.Proofs.Yteeakkakkjhgoaa.A
open Go Go.RowKit

def last16 (l : List Int) : List Int := l.drop (l.length - 16)
theorem last16_push (l : List Int) (x : Int) : push16 (last16 l) x = last16 (l ++ [x]) := by
  unfold push16 last16
  by_cases h : l.length < 16
  · rw [show l.length - 16 = 0 by omega, List.drop_zero, if_pos h, show (l ++ [x]).length - 16 = 0 by simp; omega, List.drop_zero]
  · have h1 : ¬ (l.drop (l.length - 16)).length < 16 := by simp; omega
    rw [if_neg h1]
    have e : (l ++ [x]).length - 16 = l.length - 16 + 1 := by simp; omega
    rw [e, ← List.drop_drop, List.drop_append_of_le_length (l₁ := l) (l₂ := [x]) (show l.length - 16 ≤ l.length by omega)]
theorem last16_len (l : List Int) : (last16 l).length ≤ 16 ∧ (l ≠ [] → last16 l ≠ []) := by
  unfold last16
  refine ⟨by simp; omega, fun h q => ?_⟩
  have h2 : (l.drop (l.length - 16)).length = l.length - (l.length - 16) := by simp
  rw [q] at h2
  have : 0 < l.length := List.length_pos_iff.2 h
  simp at h2
  omega
theorem mid_sorted {s : List Int} (hs : s.Pairwise (fun a b => leI a b = true)) {k : Nat} (hk : k < s.length) :
    s.countP (fun x => decide (x < s.getD k 0)) ≤ k ∧ k + 1 ≤ s.countP (fun x => decide (x ≤ s.getD k 0)) := by
  have hget : s.getD k 0 = s[k] := by rw [List.getD_eq_getElem?_getD, List.getElem?_eq_getElem hk]; rfl
  rw [hget]
  have hp := List.pairwise_iff_getElem.1 hs
  obtain ⟨f, hf⟩ : ∃ f, f = s[k] := ⟨_, rfl⟩
  rw [← hf]
  have e1 : s.countP (fun x => decide (x < f)) = (s.take k ++ s.drop k).countP (fun x => decide (x < f)) := by rw [List.take_append_drop]
  have e2 : s.countP (fun x => decide (x ≤ f)) = (s.take (k + 1) ++ s.drop (k + 1)).countP (fun x => decide (x ≤ f)) := by rw [List.take_append_drop]
  constructor
  · rw [e1, List.countP_append]
    have h0 : (s.drop k).countP (fun x => decide (x < f)) = 0 := by
      rw [List.countP_eq_zero]
      intro x hx
      obtain ⟨j, hj, rfl⟩ := List.mem_iff_getElem.1 hx
      simp only [List.getElem_drop, decide_eq_true_eq]
      simp at hj
      by_cases e : j = 0
      · subst e; simp [hf]
      · have q := hp k (k + j) hk (by omega) (by omega)
        simp only [leI, decide_eq_true_eq] at q
        omega
    rw [h0, Nat.add_zero]
    exact Nat.le_trans List.countP_le_length (by simp; omega)
  · rw [e2, List.countP_append]
    have h0 : (s.take (k + 1)).countP (fun x => decide (x ≤ f)) = (s.take (k + 1)).length := by
      rw [List.countP_eq_length]
      intro x hx
      obtain ⟨j, hj, rfl⟩ := List.mem_iff_getElem.1 hx
      simp only [List.getElem_take, decide_eq_true_eq]
      simp at hj
      by_cases e : j = k
      · subst e; rw [hf]; exact Int.le_refl _
      · have q := hp j k (by omega) hk (by omega)
        rw [hf]
        simpa [leI] using q
    rw [h0]
    simp; omega
theorem leI_tr : ∀ a b c : Int, leI a b = true → leI b c = true → leI a c = true := fun a b c h1 h2 => by simp only [leI, decide_eq_true_eq] at *; omega
theorem leI_to : ∀ a b : Int, (leI a b || leI b a) = true := fun a b => by simp only [leI, Bool.or_eq_true, decide_eq_true_eq]; omega
theorem count_le (l : List Int) (f : Int) : l.countP (fun x => decide (x ≤ f)) = l.countP (fun x => decide (x < f)) + l.countP (fun x => decide (x = f)) := by
  induction l with
  | nil => rfl
  | cons a l ih =>
    simp only [List.countP_cons, ih]
    by_cases h1 : a < f
    · have h2 : a ≤ f := by omega
      have h3 : ¬ a = f := by omega
      simp [h1, h2, h3]; omega
    · by_cases h2 : a = f
      · subst h2; simp; omega
      · have h3 : ¬ a ≤ f := by omega
        simp [h1, h2, h3]
theorem middle {l : List Int} (hne : l ≠ []) {f : Int} (hf : f = (l.mergeSort leI).getD ((l.length - 1) / 2) 0) :
    l.countP (fun x => decide (x < f)) ≤ (l.length - 1) / 2 ∧ (l.length - 1) / 2 < l.countP (fun x => decide (x < f)) + l.countP (fun x => decide (x = f)) := by
  have hpos : 0 < l.length := List.length_pos_iff.2 hne
  have hp := List.mergeSort_perm l leI
  have hlen : (l.mergeSort leI).length = l.length := hp.length_eq
  have hm := mid_sorted (List.pairwise_mergeSort leI_tr leI_to l) (k := (l.length - 1) / 2) (by omega)
  rw [← hf] at hm
  rw [← count_le, ← hp.countP_eq, ← hp.countP_eq]
  omega
end Go.Proofs.Yteeakkakkjhgoaa.A
