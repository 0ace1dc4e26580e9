/- The rate of one client's requests, in plain Lean. Conditions: none. -/
import Derived.Test.YthiaegigndlnpaaL1
set_option linter.unusedVariables false
set_option linter.unusedSimpArgs false
namespace Go.Proofs.Ythiaegigndlnpaa.A
open Go Go.RowKit

def RG (c : Conf) (ps : List Int) : Prop := (∀ i, i + 1 < ps.length → c.gap ≤ ps.getD (i + 1) 0 - ps.getD i 0) ∧ (∀ i k : Nat, i ≤ k → k < ps.length → ((k : Int) - i + 1) * c.cost ≤ c.burst + ps.getD k 0 - ps.getD i 0) ∧
  (∀ i, i < ps.length → 0 ≤ ps.getD i 0 ∧ ps.getD i 0 ≤ 1125899906842624)
def RJ (c : Conf) (d : Cli) (ps : List Int) : Prop := (∀ i : Nat, i < ps.length → ((ps.length : Int) - i) * c.cost ≤ d.level + d.last - ps.getD i 0) ∧ ∀ i : Nat, i < ps.length → ps.getD i 0 ≤ d.last
theorem getD_app_lt {ps : List Int} {a : Int} {i : Nat} (h : i < ps.length) : (ps ++ [a]).getD i 0 = ps.getD i 0 := by
  rw [List.getD_eq_getElem?_getD, List.getElem?_append_left h, ← List.getD_eq_getElem?_getD]
theorem getD_app_eq {ps : List Int} {a : Int} {i : Nat} (h : i = ps.length) : (ps ++ [a]).getD i 0 = a := by
  subst h
  rw [List.getD_eq_getElem?_getD, List.getElem?_append_right (Nat.le_refl _)]; simp
theorem rate_nil (c : Conf) : RG c [] := ⟨fun i h => by simp at h, fun i k _ h => by simp at h, fun i h => by simp at h⟩
theorem rate_first {c : Conf} (hb : confB c = true) {z a : Int} (h0 : 0 ≤ a) (h1 : a ≤ 1125899906842624) : RG c [a] ∧ RJ c ⟨z, a, c.cost, false, 0⟩ [a] := by
  have hc := conf_bd hb
  refine ⟨⟨fun i h => by simp at h, fun i k hik h => ?_, fun i h => ?_⟩, fun i h => ?_, fun i h => ?_⟩
  · have : k = 0 := by simpa using h
    subst this
    have : i = 0 := by omega
    subst this
    simp; omega
  · have : i = 0 := by simpa using h
    subst this
    exact ⟨h0, h1⟩
  · have : i = 0 := by simpa using h
    subst this
    simp
  · have : i = 0 := by simpa using h
    subst this
    simp
theorem rate_pass {c : Conf} (hb : confB c = true) {d : Cli} {a : Int} {ps : List Int} (hg : RG c ps) (hj : RJ c d ps) (h0 : 0 ≤ a) (h1 : a ≤ 1125899906842624) (hd : d.last ≤ a)
    (hp : c.gap ≤ a - d.last ∧ max 0 (d.level - (a - d.last)) + c.cost ≤ c.burst) : RG c (ps ++ [a]) ∧ RJ c { d with last := a, level := max 0 (d.level - (a - d.last)) + c.cost } (ps ++ [a]) := by
  have hc := conf_bd hb
  obtain ⟨g1, g2, g3⟩ := hg
  obtain ⟨j1, j2⟩ := hj
  have hl : (ps ++ [a]).length = ps.length + 1 := by simp
  have hmul : ∀ i : Nat, ((ps.length : Int) - i + 1) * c.cost = ((ps.length : Int) - i) * c.cost + c.cost := fun i => by rw [Int.add_mul, Int.one_mul]
  have key : ∀ i : Nat, i < ps.length + 1 → ((ps.length : Int) - i + 1) * c.cost ≤ max 0 (d.level - (a - d.last)) + c.cost + a - (ps ++ [a]).getD i 0 := fun i hi => by
    rw [hmul]
    by_cases e : i < ps.length
    · rw [getD_app_lt e]
      have := j1 i e
      omega
    · have e : i = ps.length := by omega
      rw [getD_app_eq e, e, Int.sub_self, Int.zero_mul]
      omega
  refine ⟨⟨fun i h => ?_, fun i k hik h => ?_, fun i h => ?_⟩, fun i h => ?_, fun i h => ?_⟩
  · rw [hl] at h
    by_cases e : i + 1 < ps.length
    · rw [getD_app_lt e, getD_app_lt (by omega)]; exact g1 i e
    · rw [getD_app_eq (by omega), getD_app_lt (by omega)]
      have := j2 i (by omega)
      omega
  · rw [hl] at h
    by_cases e : k < ps.length
    · rw [getD_app_lt e, getD_app_lt (by omega)]; exact g2 i k hik e
    · have e : k = ps.length := by omega
      subst e
      rw [getD_app_eq rfl]
      have := key i (by omega)
      omega
  · rw [hl] at h
    by_cases e : i < ps.length
    · rw [getD_app_lt e]; exact g3 i e
    · rw [getD_app_eq (by omega)]; exact ⟨h0, h1⟩
  · rw [hl] at h ⊢
    have := key i h
    have e : ((ps.length + 1 : Nat) : Int) - i = (ps.length : Int) - i + 1 := by omega
    rw [e]
    exact this
  · rw [hl] at h
    by_cases e : i < ps.length
    · rw [getD_app_lt e]
      have := j2 i e
      simp only []; omega
    · rw [getD_app_eq (by omega)]; exact Int.le_refl _
theorem rate_skip {c : Conf} {d : Cli} {a : Int} {ps : List Int} (hj : RJ c d ps) (hd : d.last ≤ a) (hp : ¬ (c.gap ≤ a - d.last ∧ max 0 (d.level - (a - d.last)) + c.cost ≤ c.burst)) : RJ c (stepC c d a).2 ps ∧ (stepC c d a).1 ≠ 0 := by
  obtain ⟨j1, j2⟩ := hj
  unfold stepC
  rw [if_neg hp]
  split
  all_goals
    refine ⟨⟨fun i h => ?_, fun i h => ?_⟩, by simp⟩
    · have := j1 i h
      simp only []; omega
    · have := j2 i h
      simp only []; omega
end Go.Proofs.Ythiaegigndlnpaa.A
