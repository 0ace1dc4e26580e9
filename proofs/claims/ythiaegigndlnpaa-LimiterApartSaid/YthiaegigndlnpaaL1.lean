/- The limiter, in plain Lean. Conditions: none. -/
import Derived.Test.YthiaegigndlnpaaG1
set_option linter.unusedVariables false
set_option linter.unusedSimpArgs false
namespace Go.Proofs.Ythiaegigndlnpaa.A
open Go Go.RowKit

structure Cli where
  id : Int
  last : Int
  level : Int
  kissed : Bool
  kiss : Int
  deriving Inhabited, DecidableEq
structure Lim where
  conf : Conf
  now : Int
  cl : List Cli
  deriving Inhabited, DecidableEq
def tera : Int := 1125899906842624
structure LOK (L : Lim) : Prop where
  conf : confB L.conf = true
  now : 0 ≤ L.now ∧ L.now ≤ 1125899906842624
  len : (L.cl.length : Int) ≤ L.conf.cap
  sorted : L.cl.Pairwise (fun a b => a.id < b.id)
  each : ∀ c ∈ L.cl, 0 ≤ c.id ∧ 0 ≤ c.last ∧ c.last ≤ L.now ∧ 0 ≤ c.level ∧ c.level ≤ L.conf.burst ∧ 0 ≤ c.kiss ∧ c.kiss ≤ L.now
def getC (cl : List Cli) (z : Int) : Option Cli := cl.find? fun c => decide (c.id = z)
def setC (x : Cli) (cl : List Cli) : List Cli := cl.map fun c => if c.id = x.id then x else c
def insC (x : Cli) (cl : List Cli) : List Cli := (cl.takeWhile fun c => decide (c.id < x.id)) ++ x :: (cl.dropWhile fun c => decide (c.id < x.id))
def minC : Cli → List Cli → Cli
  | m, [] => m
  | m, c :: l => minC (if c.last < m.last then c else m) l
def oldC : List Cli → Int
  | [] => -1
  | c :: l => (minC c l).id
def delC (z : Int) (cl : List Cli) : List Cli := cl.filter fun c => decide (c.id ≠ z)
def forC (cl : List Cli) : List Cli := delC (oldC cl) cl
def stepC (k : Conf) (c : Cli) (a : Int) : Int × Cli :=
  if k.gap ≤ a - c.last ∧ max 0 (c.level - (a - c.last)) + k.cost ≤ k.burst then (0, { c with last := a, level := max 0 (c.level - (a - c.last)) + k.cost })
  else if c.kissed = false ∨ k.kiss ≤ a - c.kiss then (2, { c with last := a, level := max 0 (c.level - (a - c.last)), kissed := true, kiss := a })
  else (1, { c with last := a, level := max 0 (c.level - (a - c.last)) })
def newCl (L : Lim) (z a : Int) : List Cli := insC ⟨z, a, L.conf.cost, false, 0⟩ (if (L.cl.length : Int) = L.conf.cap then forC L.cl else L.cl)
def askF (L : Lim) (z a : Int) : Int × Int × Lim :=
  if z < 0 ∨ a < 0 ∨ 1125899906842624 < a then (0, 3, L)
  else if a < L.now then (0, 12, L)
  else match getC L.cl z with
    | none => (0, 0, { L with now := a, cl := newCl L z a })
    | some c => ((stepC L.conf c a).1, 0, { L with now := a, cl := setC (stepC L.conf c a).2 L.cl })
def levF (L : Lim) (z : Int) : Int × Bool := match getC L.cl z with
  | none => (0, false)
  | some c => (c.level, true)
def idsF (L : Lim) : List Int := L.cl.map Cli.id

theorem conf_bd {k : Conf} (h : confB k = true) : (1 ≤ k.cap ∧ k.cap ≤ 64) ∧ (0 ≤ k.gap ∧ k.gap ≤ 1000000000000) ∧ (1 ≤ k.cost ∧ k.cost ≤ 1000000000000) ∧ (k.cost ≤ k.burst ∧ k.burst ≤ 10000000000000) ∧ (0 ≤ k.kiss ∧ k.kiss ≤ 1000000000000) := by
  simpa [confB, inF, and_assoc] using h
theorem getC_some {cl : List Cli} {z : Int} {c : Cli} (h : getC cl z = some c) : c ∈ cl ∧ c.id = z := by
  refine ⟨List.mem_of_find?_eq_some h, ?_⟩
  have := List.find?_some h
  simpa using this
theorem getC_none {cl : List Cli} {z : Int} (h : getC cl z = none) : ∀ c ∈ cl, c.id ≠ z := by
  intro c hc e
  have := List.find?_eq_none.1 h c hc
  simp [e] at this
theorem uniq {cl : List Cli} (hs : cl.Pairwise (fun a b => a.id < b.id)) {a b : Cli} (ha : a ∈ cl) (hb : b ∈ cl) (h : a.id = b.id) : a = b := by
  induction cl with
  | nil => cases ha
  | cons x l ih =>
    obtain ⟨h1, h2⟩ := List.pairwise_cons.1 hs
    rcases List.mem_cons.1 ha with rfl | ha' <;> rcases List.mem_cons.1 hb with rfl | hb'
    · rfl
    · have := h1 b hb'; omega
    · have := h1 a ha'; omega
    · exact ih h2 ha' hb'
theorem getC_mem {cl : List Cli} (hs : cl.Pairwise (fun a b => a.id < b.id)) {c : Cli} (hc : c ∈ cl) : getC cl c.id = some c := by
  cases h : getC cl c.id with
  | none => exact absurd rfl (getC_none h c hc)
  | some d => rw [uniq hs (getC_some h).1 hc (getC_some h).2]
theorem getC_perm {m cl : List Cli} (hs : cl.Pairwise (fun a b => a.id < b.id)) (hp : m.Perm cl) (z : Int) : getC m z = getC cl z := by
  cases h : getC m z with
  | none =>
    cases h2 : getC cl z with
    | none => rfl
    | some c => exact absurd (getC_some h2).2 (getC_none h c (hp.mem_iff.2 (getC_some h2).1))
  | some c =>
    obtain ⟨h1, h2⟩ := getC_some h
    rw [← h2, getC_mem hs (hp.mem_iff.1 h1)]
theorem sorted_map {cl : List Cli} {f : Cli → Cli} (hf : ∀ c ∈ cl, (f c).id = c.id) (hs : cl.Pairwise (fun a b => a.id < b.id)) : (cl.map f).Pairwise (fun a b => a.id < b.id) := by
  rw [List.pairwise_map]
  exact hs.imp_of_mem fun ha hb h => by rw [hf _ ha, hf _ hb]; exact h
theorem setC_sorted {cl : List Cli} {x : Cli} (hs : cl.Pairwise (fun a b => a.id < b.id)) : (setC x cl).Pairwise (fun a b => a.id < b.id) :=
  sorted_map (fun c _ => by by_cases h : c.id = x.id <;> simp [h]) hs
theorem setC_mem {cl : List Cli} {x c : Cli} (h : c ∈ setC x cl) : c = x ∨ (c ∈ cl ∧ c.id ≠ x.id) := by
  obtain ⟨d, hd, rfl⟩ := List.mem_map.1 h
  by_cases e : d.id = x.id
  · exact .inl (by rw [if_pos e])
  · rw [if_neg e]; exact .inr ⟨hd, e⟩
theorem setC_len (x : Cli) (cl : List Cli) : (setC x cl).length = cl.length := by simp [setC]
theorem getC_set (x : Cli) : ∀ (cl : List Cli) (z : Int), (∃ c ∈ cl, c.id = x.id) → getC (setC x cl) z = if z = x.id then some x else getC cl z
  | [], z, h => by obtain ⟨c, hc, _⟩ := h; cases hc
  | d :: l, z, h => by
    unfold getC setC at *
    rw [List.map_cons, List.find?_cons, List.find?_cons]
    by_cases e : d.id = x.id
    · rw [if_pos e]
      by_cases ez : z = x.id
      · simp [ez]
      · have e1 : ¬ x.id = z := fun q => ez q.symm
        have e2 : ¬ d.id = z := fun q => ez (q.symm.trans e)
        rw [if_neg ez]
        simp only [e1, e2, decide_false]
        by_cases hl : ∃ c ∈ l, c.id = x.id
        · have := getC_set x l z hl
          unfold getC setC at this
          rw [this, if_neg ez]
        · congr 1
          conv => rhs; rw [← List.map_id l]
          apply List.map_congr_left
          intro c hc
          rw [if_neg fun q => hl ⟨c, hc, q⟩]; rfl
    · rw [if_neg e]
      have hl : ∃ c ∈ l, c.id = x.id := by
        obtain ⟨c, hc, h2⟩ := h
        rcases List.mem_cons.1 hc with rfl | hc
        · exact absurd h2 e
        · exact ⟨c, hc, h2⟩
      have := getC_set x l z hl
      unfold getC setC at this
      rw [this]
      by_cases ez : z = x.id
      · rw [if_pos ez, if_pos ez, ez]; simp [e]
      · rw [if_neg ez, if_neg ez]
theorem mem_takeWhile {α : Type} {p : α → Bool} : ∀ {l : List α} {a : α}, a ∈ l.takeWhile p → a ∈ l ∧ p a = true
  | [], a, h => by simp at h
  | x :: l, a, h => by
    rw [List.takeWhile_cons] at h
    split at h
    · rename_i hp
      rcases List.mem_cons.1 h with rfl | h
      · exact ⟨List.mem_cons_self, hp⟩
      · exact ⟨List.mem_cons_of_mem _ (mem_takeWhile h).1, (mem_takeWhile h).2⟩
    · cases h
theorem drop_ge {z : Int} : ∀ {cl : List Cli}, cl.Pairwise (fun a b => a.id < b.id) → ∀ c ∈ cl.dropWhile (fun c => decide (c.id < z)), z ≤ c.id
  | [], _, c, h => by simp at h
  | x :: l, hs, c, h => by
    obtain ⟨h1, h2⟩ := List.pairwise_cons.1 hs
    rw [List.dropWhile_cons] at h
    split at h
    · exact drop_ge h2 c h
    · rename_i hp
      have hp : ¬ x.id < z := by simpa using hp
      rcases List.mem_cons.1 h with rfl | h
      · omega
      · have := h1 c h; omega
theorem insC_mem {x c : Cli} {cl : List Cli} : c ∈ insC x cl ↔ c = x ∨ c ∈ cl := by
  unfold insC
  conv => rhs; rw [← List.takeWhile_append_dropWhile (p := fun c => decide (c.id < x.id)) (l := cl)]
  simp only [List.mem_append, List.mem_cons]
  constructor
  · rintro (h | h | h)
    · exact .inr (.inl h)
    · exact .inl h
    · exact .inr (.inr h)
  · rintro (h | h | h)
    · exact .inr (.inl h)
    · exact .inl h
    · exact .inr (.inr h)
theorem insC_perm (x : Cli) (cl : List Cli) : (cl ++ [x]).Perm (insC x cl) := by
  unfold insC
  have h1 : (cl ++ [x]).Perm (x :: cl) := List.perm_append_singleton x cl
  refine h1.trans ?_
  conv => lhs; rw [← List.takeWhile_append_dropWhile (p := fun c => decide (c.id < x.id)) (l := cl)]
  exact List.perm_middle.symm
theorem insC_sorted {x : Cli} {cl : List Cli} (hs : cl.Pairwise (fun a b => a.id < b.id)) (hn : ∀ c ∈ cl, c.id ≠ x.id) : (insC x cl).Pairwise (fun a b => a.id < b.id) := by
  unfold insC
  have hsp : ((cl.takeWhile fun c => decide (c.id < x.id)) ++ (cl.dropWhile fun c => decide (c.id < x.id))).Pairwise (fun a b => a.id < b.id) := by
    rw [List.takeWhile_append_dropWhile]; exact hs
  obtain ⟨h1, h2, h3⟩ := List.pairwise_append.1 hsp
  have hge := drop_ge (z := x.id) hs
  refine List.pairwise_append.2 ⟨h1, List.pairwise_cons.2 ⟨fun c hc => ?_, h2⟩, fun a ha b hb => ?_⟩
  · have := hge c hc
    have hc' : c ∈ cl := (List.dropWhile_sublist _).subset hc
    have := hn c hc'
    omega
  · have ha2 := (mem_takeWhile ha).2
    have ha2 : a.id < x.id := by simpa using ha2
    rcases List.mem_cons.1 hb with rfl | hb
    · exact ha2
    · have := hge b hb; omega
theorem insC_len (x : Cli) (cl : List Cli) : (insC x cl).length = cl.length + 1 := by
  have := (insC_perm x cl).length_eq
  simpa using this.symm
theorem getC_ins {x : Cli} {cl : List Cli} (hs : cl.Pairwise (fun a b => a.id < b.id)) (hn : ∀ c ∈ cl, c.id ≠ x.id) (z : Int) : getC (insC x cl) z = if z = x.id then some x else getC cl z := by
  have h2 := insC_sorted hs hn
  by_cases e : z = x.id
  · rw [if_pos e, e]; exact getC_mem h2 (insC_mem.2 (.inl rfl))
  · rw [if_neg e]
    cases h : getC cl z with
    | none =>
      cases h3 : getC (insC x cl) z with
      | none => rfl
      | some c =>
        obtain ⟨h4, h5⟩ := getC_some h3
        rcases insC_mem.1 h4 with rfl | h4
        · exact absurd h5.symm e
        · exact absurd h5 (getC_none h c h4)
    | some c =>
      obtain ⟨h4, h5⟩ := getC_some h
      rw [← h5]; exact getC_mem h2 (insC_mem.2 (.inr h4))
theorem minC_mem : ∀ (l : List Cli) (m : Cli), minC m l = m ∨ minC m l ∈ l
  | [], m => .inl rfl
  | c :: l, m => by
    unfold minC
    rcases minC_mem l (if c.last < m.last then c else m) with h | h
    · rw [h]
      split
      · exact .inr List.mem_cons_self
      · exact .inl rfl
    · exact .inr (List.mem_cons_of_mem _ h)
theorem delC_sorted {z : Int} {cl : List Cli} (hs : cl.Pairwise (fun a b => a.id < b.id)) : (delC z cl).Pairwise (fun a b => a.id < b.id) := hs.sublist List.filter_sublist
theorem delC_mem {z : Int} {c : Cli} {cl : List Cli} : c ∈ delC z cl ↔ c ∈ cl ∧ c.id ≠ z := by simp [delC]
theorem delC_len {z : Int} {cl : List Cli} {c : Cli} (hc : c ∈ cl) (h : c.id = z) : (delC z cl).length < cl.length := by
  unfold delC
  exact List.length_filter_lt_length_iff_exists.2 ⟨c, hc, by simp [h]⟩
theorem forC_len {cl : List Cli} (h : cl ≠ []) : (forC cl).length < cl.length := by
  cases cl with
  | nil => exact absurd rfl h
  | cons c l =>
    refine delC_len (c := minC c l) ?_ rfl
    rcases minC_mem l c with h | h
    · rw [h]; exact List.mem_cons_self
    · exact List.mem_cons_of_mem _ h
theorem stepC_id (k : Conf) (c : Cli) (a : Int) : (stepC k c a).2.id = c.id := by
  unfold stepC; split
  · rfl
  · split <;> rfl
theorem stepC_ok {k : Conf} (hk : confB k = true) {c : Cli} {n a : Int} (hc : 0 ≤ c.id ∧ 0 ≤ c.last ∧ c.last ≤ n ∧ 0 ≤ c.level ∧ c.level ≤ k.burst ∧ 0 ≤ c.kiss ∧ c.kiss ≤ n) (ha : n ≤ a) :
    0 ≤ (stepC k c a).2.id ∧ 0 ≤ (stepC k c a).2.last ∧ (stepC k c a).2.last ≤ a ∧ 0 ≤ (stepC k c a).2.level ∧ (stepC k c a).2.level ≤ k.burst ∧ 0 ≤ (stepC k c a).2.kiss ∧ (stepC k c a).2.kiss ≤ a := by
  have := conf_bd hk
  unfold stepC; split
  · simp only []; omega
  · split <;> (simp only []; omega)
theorem newCl_ok {L : Lim} (h : LOK L) {z a : Int} (hz : 0 ≤ z) (ha : L.now ≤ a) (ha2 : a ≤ 1125899906842624) (hg : getC L.cl z = none) : LOK { L with now := a, cl := newCl L z a } := by
  have hb := conf_bd h.conf
  have hn := h.now
  have hsub : ∀ c ∈ (if (L.cl.length : Int) = L.conf.cap then forC L.cl else L.cl), c ∈ L.cl := fun c hc => by
    split at hc
    · exact (delC_mem.1 hc).1
    · exact hc
  have hs : (if (L.cl.length : Int) = L.conf.cap then forC L.cl else L.cl).Pairwise (fun a b => a.id < b.id) := by
    split
    · exact delC_sorted h.sorted
    · exact h.sorted
  have hnn := getC_none hg
  refine ⟨h.conf, ⟨by simp only []; omega, ha2⟩, ?_, insC_sorted hs (fun c hc => hnn c (hsub c hc)), fun c hc => ?_⟩
  · show ((newCl L z a).length : Int) ≤ L.conf.cap
    unfold newCl
    rw [insC_len]
    have hl := h.len
    split
    · rename_i he
      have : L.cl ≠ [] := fun q => by rw [q] at he; simp at he; omega
      have := forC_len this
      omega
    · omega
  · rcases insC_mem.1 hc with rfl | hc
    · simp only []; omega
    · have := h.each c (hsub c hc)
      simp only []; omega
theorem setC_ok {L : Lim} (h : LOK L) {c : Cli} {a : Int} (ha : L.now ≤ a) (ha2 : a ≤ 1125899906842624) (hc : c ∈ L.cl) : LOK { L with now := a, cl := setC (stepC L.conf c a).2 L.cl } := by
  have hn := h.now
  refine ⟨h.conf, ⟨by simp only []; omega, ha2⟩, by show ((setC _ L.cl).length : Int) ≤ _; rw [setC_len]; exact h.len, setC_sorted h.sorted, fun d hd => ?_⟩
  rcases setC_mem hd with rfl | ⟨hd, _⟩
  · exact stepC_ok h.conf (h.each c hc) ha
  · have := h.each d hd
    simp only []; omega
theorem askF_ok {L : Lim} (h : LOK L) (z a : Int) : LOK (askF L z a).2.2 := by
  unfold askF
  split
  · exact h
  · split
    · exact h
    · cases hg : getC L.cl z with
      | none => exact newCl_ok h (by omega) (by omega) (by omega) hg
      | some c => exact setC_ok h (by omega) (by omega) (getC_some hg).1
theorem askF_conf (L : Lim) (z a : Int) : (askF L z a).2.2.conf = L.conf := by
  unfold askF
  split
  · rfl
  · split
    · rfl
    · cases getC L.cl z <;> rfl
end Go.Proofs.Ythiaegigndlnpaa.A
