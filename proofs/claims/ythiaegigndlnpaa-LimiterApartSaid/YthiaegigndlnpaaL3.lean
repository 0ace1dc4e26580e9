/- A client's requests beside those of others, in plain Lean. Conditions: none. -/
import Derived.Test.YthiaegigndlnpaaG14
set_option linter.unusedVariables false
set_option linter.unusedSimpArgs false
namespace Go.Proofs.Ythiaegigndlnpaa.A
open Go Go.RowKit

theorem sorted_len {hi : Int} : ∀ {cl : List Cli} {lo : Int}, cl.Pairwise (fun a b => a.id < b.id) → (∀ c ∈ cl, lo ≤ c.id ∧ c.id < hi) → lo ≤ hi → (cl.length : Int) ≤ hi - lo
  | [], lo, _, _, h => by simp; omega
  | x :: l, lo, hs, hb, h => by
    obtain ⟨h1, h2⟩ := List.pairwise_cons.1 hs
    have hx := hb x List.mem_cons_self
    have := sorted_len (hi := hi) (cl := l) (lo := x.id + 1) h2 (fun c hc => by have q1 : x.id < c.id := h1 c hc; have q2 := hb c (List.mem_cons_of_mem _ hc); omega) (by omega)
    simp; omega
structure AP (LA LB : Lim) (c : Conf) (z : Int) : Prop where
  ca : LA.conf = c
  cb : LB.conf = c
  ids : ∀ d ∈ LA.cl, d.id < c.cap
  get : getC LA.cl z = getC LB.cl z
  solo : Solo LB z
  now : LB.now ≤ LA.now
theorem not_full {L : Lim} (h : LOK L) {y : Int} (hi : ∀ d ∈ L.cl, d.id < L.conf.cap) (hy : 0 ≤ y ∧ y < L.conf.cap) (hg : getC L.cl y = none) : (L.cl.length : Int) ≠ L.conf.cap := by
  have hn := getC_none hg
  have hs := insC_sorted (x := ⟨y, 0, 0, false, 0⟩) h.sorted hn
  have := sorted_len (hi := L.conf.cap) (lo := 0) hs (fun d hd => by
    rcases insC_mem.1 hd with rfl | hd
    · exact hy
    · have := h.each d hd; have := hi d hd; omega) (by omega)
  rw [insC_len] at this
  omega
theorem ap_other {LA LB : Lim} {c : Conf} {z y a : Int} (h : AP LA LB c z) (hok : LOK LA) (hy : 0 ≤ y ∧ y < c.cap) (hne : y ≠ z) : AP (askF LA y a).2.2 LB c z := by
  by_cases h1 : y < 0 ∨ a < 0 ∨ 1125899906842624 < a
  · have e : askF LA y a = (0, 3, LA) := by unfold askF; rw [if_pos h1]
    rw [e]; exact h
  by_cases h2 : a < LA.now
  · have e : askF LA y a = (0, 12, LA) := by unfold askF; rw [if_neg h1, if_pos h2]
    rw [e]; exact h
  have hca := h.ca
  have hn := h.now
  cases hg : getC LA.cl y with
  | none =>
    rw [askF_none (by omega) (by omega) (by omega) (by omega) hg]
    have hnf := not_full hok (y := y) (by rw [hca]; exact h.ids) (by rw [hca]; exact hy) hg
    have e : newCl LA y a = insC ⟨y, a, LA.conf.cost, false, 0⟩ LA.cl := by unfold newCl; rw [if_neg hnf]
    refine ⟨hca, h.cb, fun d hd => ?_, ?_, h.solo, by simp only []; omega⟩
    · rw [show ({ LA with now := a, cl := newCl LA y a } : Lim).cl = newCl LA y a from rfl, e] at hd
      rcases insC_mem.1 hd with rfl | hd
      · exact hy.2
      · exact h.ids d hd
    · show getC (newCl LA y a) z = _
      rw [e, getC_ins hok.sorted (getC_none hg), if_neg (fun q => hne q.symm)]
      exact h.get
  | some d =>
    rw [askF_some (by omega) (by omega) (by omega) (by omega) hg]
    have hd := getC_some hg
    refine ⟨hca, h.cb, fun d2 hd2 => ?_, ?_, h.solo, by simp only []; omega⟩
    · rcases setC_mem hd2 with rfl | ⟨hd2, _⟩
      · rw [stepC_id, hd.2]; exact hy.2
      · exact h.ids d2 hd2
    · show getC (setC _ LA.cl) z = _
      rw [getC_set _ LA.cl z ⟨d, hd.1, (stepC_id _ _ _).symm⟩, stepC_id, hd.2, if_neg (fun q => hne q.symm)]
      exact h.get
theorem ap_own {LA LB : Lim} {c : Conf} {z a : Int} (h : AP LA LB c z) (hok : LOK LA) (hokb : LOK LB) (hz : 0 ≤ z ∧ z < c.cap) (ht : LA.now ≤ a ∨ a < 0) :
    (askF LA z a).1 = (askF LB z a).1 ∧ (askF LA z a).2.1 = (askF LB z a).2.1 ∧ AP (askF LA z a).2.2 (askF LB z a).2.2 c z := by
  by_cases h1 : z < 0 ∨ a < 0 ∨ 1125899906842624 < a
  · have e : askF LA z a = (0, 3, LA) := by unfold askF; rw [if_pos h1]
    have e2 : askF LB z a = (0, 3, LB) := by unfold askF; rw [if_pos h1]
    rw [e, e2]; exact ⟨rfl, rfl, h⟩
  have hca := h.ca
  have hcb := h.cb
  have hn := h.now
  have hc := conf_bd hok.conf
  have hget := h.get
  cases hg : getC LA.cl z with
  | none =>
    rw [hg] at hget
    rw [askF_none (by omega) (by omega) (by omega) (by omega) hg, askF_none (by omega) (by omega) (by omega) (by omega) hget.symm]
    have hnf := not_full hok (y := z) (by rw [hca]; exact h.ids) (by rw [hca]; exact hz) hg
    have e : newCl LA z a = insC ⟨z, a, LA.conf.cost, false, 0⟩ LA.cl := by unfold newCl; rw [if_neg hnf]
    have hbn : LB.cl = [] := by
      rcases h.solo with q | ⟨d, q, q2⟩
      · exact q
      · rw [q] at hget; unfold getC at hget; simp [q2] at hget
    have e2 : newCl LB z a = [⟨z, a, LB.conf.cost, false, 0⟩] := by
      unfold newCl; rw [hbn, if_neg (by rw [hcb, ← hca]; simp; omega)]; rfl
    refine ⟨rfl, rfl, hca, hcb, fun d hd => ?_, ?_, .inr ⟨_, e2, rfl⟩, by simp only []; omega⟩
    · rw [show ({ LA with now := a, cl := newCl LA z a } : Lim).cl = newCl LA z a from rfl, e] at hd
      rcases insC_mem.1 hd with rfl | hd
      · exact hz.2
      · exact h.ids d hd
    · show getC (newCl LA z a) z = getC (newCl LB z a) z
      rw [e, getC_ins hok.sorted (getC_none hg), if_pos rfl, e2, hca, hcb]
      unfold getC; simp
  | some d =>
    rw [hg] at hget
    rw [askF_some (by omega) (by omega) (by omega) (by omega) hg, askF_some (by omega) (by omega) (by omega) (by omega) hget.symm]
    have hd := getC_some hg
    have hd2 := getC_some hget.symm
    rw [hca, hcb]
    refine ⟨rfl, rfl, rfl, rfl, fun d2 hq => ?_, ?_, ?_, by simp only []; omega⟩
    · rcases setC_mem hq with rfl | ⟨hq, _⟩
      · rw [stepC_id, hd.2]; exact hz.2
      · exact h.ids d2 hq
    · show getC (setC _ LA.cl) z = getC (setC _ LB.cl) z
      rw [getC_set _ LA.cl z ⟨d, hd.1, (stepC_id _ _ _).symm⟩, getC_set _ LB.cl z ⟨d, hd2.1, (stepC_id _ _ _).symm⟩, stepC_id, hd.2, if_pos rfl, if_pos rfl]
    · rcases h.solo with q | ⟨d3, q, q2⟩
      · rw [q] at hd2; cases hd2.1
      · refine .inr ⟨(stepC c d a).2, ?_, (stepC_id _ _ _).trans hd.2⟩
        show setC _ LB.cl = _
        rw [q]
        unfold setC
        simp [stepC_id, q2, hd.2]
theorem ask_now {L : Lim} {y a : Int} : (askF L y a).2.2.now = L.now ∨ ((askF L y a).2.2.now = a ∧ 0 ≤ a) := by
  by_cases h1 : y < 0 ∨ a < 0 ∨ 1125899906842624 < a
  · have e : askF L y a = (0, 3, L) := by unfold askF; rw [if_pos h1]
    rw [e]; exact .inl rfl
  by_cases h2 : a < L.now
  · have e : askF L y a = (0, 12, L) := by unfold askF; rw [if_neg h1, if_pos h2]
    rw [e]; exact .inl rfl
  cases hg : getC L.cl y with
  | none => rw [askF_none (by omega) (by omega) (by omega) (by omega) hg]; exact .inr ⟨rfl, by omega⟩
  | some d => rw [askF_some (by omega) (by omega) (by omega) (by omega) hg]; exact .inr ⟨rfl, by omega⟩
end Go.Proofs.Ythiaegigndlnpaa.A
