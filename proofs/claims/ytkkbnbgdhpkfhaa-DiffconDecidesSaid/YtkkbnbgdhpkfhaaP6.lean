/- Where there is no solution, the causes lead into a cycle with a negative weight. Conditions: none. -/
import Derived.Test.YtkkbnbgdhpkfhaaP3
import Derived.Test.YtkkbnbgdhpkfhaaF10
set_option linter.unusedVariables false
set_option linter.unusedSimpArgs false
namespace Go.Proofs.Ytkkbnbgdhpkfhaa.A
open Go

def Bd0 (N : Nat) (x : List Int) : Prop := ∀ v, v < N → -(N : Int) * 9007199254740992 ≤ fn x v ∧ fn x v ≤ 0
structure PI (N : Nat) (l : List Con) (s : RS) (r now : Nat) (ts rd : Nat → Nat) : Prop where
  len : s.x.length = N ∧ s.fr.length = N
  par : ∀ v, v < N → (fn s.fr v = -1 ∧ fn s.x v = 0 ∧ rd v = 0) ∨ ∃ (e : Nat) (c : Con), fn s.fr v = (e : Int) ∧ l[e]? = some c ∧ c.j = v ∧ fn s.x c.i + c.w ≤ fn s.x v ∧ (ts v ≤ ts c.i → fn s.x c.i + c.w < fn s.x v) ∧ rd v ≤ rd c.i + 1
  rdle : ∀ v, rd v ≤ r
  tsle : ∀ v, ts v ≤ now
  last : s.last = -1 ∨ (0 ≤ s.last ∧ s.last.toNat < N ∧ rd s.last.toNat = r)
def KK (l : List Con) (x : List Int) (rd : Nat → Nat) (q : Nat → Nat) : Prop := ∀ e c, l[e]? = some c → fn x c.j ≤ fn x c.i + c.w ∨ q e ≤ rd c.i
theorem pi_step {N : Nat} {l : List Con} {s : RS} {r now i : Nat} {ts rd : Nat → Nat} {c : Con} (hg : Good N l) (h : PI N l s r now ts rd) (hb : Bd0 N s.x) (hbd : Bd N s.x) (hc : l[i]? = some c) (hr : 1 ≤ r)
    (hk : KK l s.x rd (fun e => if e < i then r else r - 1)) :
    ∃ now' ts' rd', PI N l (relStep N s i c).1 r now' ts' rd' ∧ KK l (relStep N s i c).1.x rd' (fun e => if e < i + 1 then r else r - 1) ∧
      ((relStep N s i c).2 = false → Bd0 N (relStep N s i c).1.x) ∧ ((relStep N s i c).2 = true → 0 ≤ (relStep N s i c).1.last ∧ fn (relStep N s i c).1.x (relStep N s i c).1.last.toNat < -(N : Int) * 9007199254740992) := by
  have hN := hg.1.2
  have hcl : c ∈ l := List.mem_of_getElem? hc
  have ⟨⟨ha, hj⟩, hw⟩ := hg.inn c hcl
  have hcb := (hg.2.2 c hcl).2.1.1
  have hxn : fn s.x c.i ≠ NONE := by have := (hb c.i ha).2; rw [NONE_eq]; omega
  rw [relStep_eq hN hbd (hg.inn c hcl)]
  by_cases hlt : fn s.x c.i + c.w < fn s.x c.j
  · rw [if_pos ⟨hxn, hlt⟩]
    have hgx : ∀ k, fn (s.x.set c.j (fn s.x c.i + c.w)) k = if k = c.j then fn s.x c.i + c.w else fn s.x k := fun k => fn_set _ _ _ _ (by rw [h.len.1]; exact hj)
    have hgf : ∀ k, fn (s.fr.set c.j (i : Int)) k = if k = c.j then (i : Int) else fn s.fr k := fun k => fn_set _ _ _ _ (by rw [h.len.2]; exact hj)
    have hki : r - 1 ≤ rd c.i := by
      rcases hk i c hc with e | e
      · omega
      · simpa using e
    refine ⟨now + 1, fun v => if v = c.j then now + 1 else ts v, fun v => if v = c.j then r else rd v, ⟨⟨by simpa using h.len.1, by simpa using h.len.2⟩, ?_, ?_, ?_, ?_⟩, ?_, ?_, ?_⟩
    · intro v hv
      simp only []
      rw [hgx, hgf]
      by_cases e : v = c.j
      · right
        refine ⟨i, c, by rw [if_pos e], hc, e.symm, ?_, ?_, ?_⟩
        · rw [if_pos e, hgx]; split
          · rename_i e2; rw [← e2] at hlt; omega
          · omega
        · intro hts
          rw [if_pos e, hgx]
          rw [if_pos e] at hts
          by_cases e2 : c.i = c.j
          · rw [if_pos e2]; rw [← e2] at hlt; omega
          · rw [if_neg e2] at hts
            have := h.tsle c.i; omega
        · rw [if_pos e]
          split
          · omega
          · omega
      · rcases h.par v hv with ⟨p1, p2, p3⟩ | ⟨e', c', p1, p2, p3, p4, p5, p6⟩
        · left
          rw [if_neg e, if_neg e, if_neg e]
          exact ⟨p1, p2, p3⟩
        · right
          refine ⟨e', c', by rw [if_neg e]; exact p1, p2, p3, ?_, ?_, ?_⟩
          · rw [if_neg e, hgx]; split
            · rename_i e2; rw [e2] at p4; omega
            · exact p4
          · intro hts
            rw [if_neg e, hgx]
            rw [if_neg e] at hts
            by_cases e2 : c'.i = c.j
            · rw [if_pos e2]; rw [e2] at p4; omega
            · rw [if_neg e2]; rw [if_neg e2] at hts; exact p5 hts
          · rw [if_neg e]
            split
            · have := h.rdle v; omega
            · exact p6
    · intro v; split
      · exact Nat.le_refl _
      · exact h.rdle v
    · intro v; split
      · exact Nat.le_refl _
      · have := h.tsle v; omega
    · right
      exact ⟨hcb, hj, by simp⟩
    · intro e' c' he'
      have hcl' : c' ∈ l := List.mem_of_getElem? he'
      simp only []
      rw [hgx, hgx]
      by_cases e2 : c'.i = c.j
      · right; rw [if_pos e2]; split <;> omega
      · rw [if_neg e2, if_neg e2]
        by_cases e3 : e' = i
        · subst e3
          rw [hc] at he'; cases he'
          left; rw [if_pos rfl]; omega
        · rcases hk e' c' he' with q | q
          · left; split
            · rename_i e4; rw [e4] at q; omega
            · exact q
          · right
            simp only [] at q
            by_cases e5 : e' < i
            · rw [if_pos e5] at q; rw [if_pos (by omega)]; exact q
            · rw [if_neg e5] at q; rw [if_neg (by omega)]; exact q
    · intro hf v hv
      simp only [decide_eq_false_iff_not] at hf
      simp only []
      rw [hgx]; split
      · have := (hb c.i ha).2; have := (hb c.j hj).2; omega
      · exact hb v hv
    · intro hf
      simp only [decide_eq_true_eq] at hf
      refine ⟨hcb, ?_⟩
      simp only []
      rw [hgx, if_pos rfl]; exact hf
  · rw [if_neg (fun q => hlt q.2)]
    refine ⟨now, ts, rd, h, fun e' c' he' => ?_, fun _ => hb, fun q => by cases q⟩
    by_cases e3 : e' = i
    · subst e3
      rw [hc] at he'; cases he'
      left; simp only []; omega
    · rcases hk e' c' he' with q | q
      · exact Or.inl q
      · right
        simp only [] at q ⊢
        by_cases e5 : e' < i
        · rw [if_pos e5] at q; rw [if_pos (by omega)]; exact q
        · rw [if_neg e5] at q; rw [if_neg (by omega)]; exact q
theorem pi_in {N : Nat} {l : List Con} (hg : Good N l) {r : Nat} (hr : 1 ≤ r) : ∀ (cs : List Con) (i : Nat) (s : RS) (now : Nat) (ts rd : Nat → Nat), l.drop i = cs → PI N l s r now ts rd → Bd0 N s.x → Bd N s.x → KK l s.x rd (fun e => if e < i then r else r - 1) →
    ∃ now' ts' rd', PI N l (relIn N cs i s).1 r now' ts' rd' ∧ ((relIn N cs i s).2 = false → Bd0 N (relIn N cs i s).1.x ∧ KK l (relIn N cs i s).1.x rd' (fun _ => r)) ∧
      ((relIn N cs i s).2 = true → 0 ≤ (relIn N cs i s).1.last ∧ fn (relIn N cs i s).1.x (relIn N cs i s).1.last.toNat < -(N : Int) * 9007199254740992)
  | [], i, s, now, ts, rd, hd, h, hb, hbd, hk => by
    refine ⟨now, ts, rd, h, fun _ => ⟨hb, fun e c he => ?_⟩, fun q => by cases q⟩
    have hi : l.length ≤ i := by have := congrArg List.length hd; simp at this; omega
    have he' := (List.getElem?_eq_some_iff.1 he).1
    rcases hk e c he with q | q
    · exact Or.inl q
    · right; simp only [] at q; rw [if_pos (by omega)] at q; exact q
  | c :: cs, i, s, now, ts, rd, hd, h, hb, hbd, hk => by
    have hc : l[i]? = some c := by
      have : (l.drop i)[0]? = some c := by rw [hd]; rfl
      simpa using this
    have hd' : l.drop (i + 1) = cs := by
      rw [← List.drop_drop, hd]; rfl
    have hcl : c ∈ l := List.mem_of_getElem? hc
    obtain ⟨now', ts', rd', h1, h2, h3, h4⟩ := pi_step hg h hb hbd hc hr hk
    have hok := relStep_ok (i := i) hg.1.2 hbd (hg.inn c hcl) (hg.2.2 c hcl).2.1.1
    unfold relIn
    split
    · rename_i hf
      exact ⟨now', ts', rd', h1, (by intro e; cases e), fun _ => h4 hf⟩
    · rename_i hf
      have hf' : (relStep N s i c).2 = false := by simpa using hf
      exact pi_in hg hr cs (i + 1) _ now' ts' rd' hd' h1 (h3 hf') (hok.bd hf') h2
theorem pi_out {N : Nat} {l : List Con} (hg : Good N l) : ∀ (f r : Nat) (s : RS) (now : Nat) (ts rd : Nat → Nat), r + f = N + 1 → PI N l s r now ts rd → Bd0 N s.x → Bd N s.x → KK l s.x rd (fun _ => r) →
    ∃ r' now' ts' rd', PI N l (relOut N l f s) r' now' ts' rd' ∧ (0 ≤ (relOut N l f s).last → fn (relOut N l f s).x (relOut N l f s).last.toNat < -(N : Int) * 9007199254740992 ∨ r' = N + 1)
  | 0, r, s, now, ts, rd, hr, h, hb, hbd, hk => ⟨r, now, ts, rd, h, fun _ => Or.inr (by omega)⟩
  | f + 1, r, s, now, ts, rd, hr, h, hb, hbd, hk => by
    have h' : PI N l { s with last := -1 } (r + 1) now ts rd := ⟨h.len, h.par, fun v => by have := h.rdle v; omega, h.tsle, Or.inl rfl⟩
    have hk' : KK l ({ s with last := -1 } : RS).x rd (fun e => if e < 0 then r + 1 else r + 1 - 1) := fun e c he => by
      rcases hk e c he with q | q
      · exact Or.inl q
      · right; simpa using q
    obtain ⟨now', ts', rd', h1, h2, h3⟩ := pi_in hg (r := r + 1) (by omega) l 0 { s with last := -1 } now ts rd rfl h' hb hbd hk'
    have hok := relIn_ok (i := 0) (s := { s with last := -1 }) hg.1.2 hbd hg.inn (fun c hc => (hg.2.2 c hc).2.1.1)
    unfold relOut
    split
    · rename_i hq
      refine ⟨r + 1, now', ts', rd', h1, fun hl => ?_⟩
      rcases hq with q | q
      · exact Or.inl (h3 q).2
      · omega
    · rename_i hq
      have hf : (relIn N l 0 { s with last := -1 }).2 = false := by
        cases e : (relIn N l 0 { s with last := -1 }).2 with
        | false => rfl
        | true => exact absurd (Or.inl e) hq
      obtain ⟨b1, b2⟩ := h2 hf
      exact pi_out hg f (r + 1) _ now' ts' rd' (by omega) h1 b1 (hok.bd hf) b2
theorem pigeon : ∀ (N : Nat) (f : Nat → Nat), (∀ k, k ≤ N → f k < N) → ∃ s t, s < t ∧ t ≤ N ∧ f s = f t
  | 0, f, h => by have := h 0 (Nat.le_refl _); omega
  | N + 1, f, h => by
    by_cases hs : ∃ s, s < N + 1 ∧ f s = f (N + 1)
    · obtain ⟨s, h1, h2⟩ := hs
      exact ⟨s, N + 1, h1, Nat.le_refl _, h2⟩
    · have hne : ∀ s, s < N + 1 → f s ≠ f (N + 1) := fun s h1 h2 => hs ⟨s, h1, h2⟩
      have hv := h (N + 1) (Nat.le_refl _)
      obtain ⟨s, t, h1, h2, h3⟩ := pigeon N (fun k => if f k = N then f (N + 1) else f k) (fun k hk => by
        have h4 := h k (by omega)
        have h5 := hne k (by omega)
        split <;> omega)
      refine ⟨s, t, h1, by omega, ?_⟩
      have h5 := hne s (by omega)
      have h6 := hne t (by omega)
      split at h3 <;> split at h3 <;> omega
theorem least {P : Nat → Prop} : ∀ (n : Nat), 1 ≤ n → P n → ∃ L, (1 ≤ L ∧ L ≤ n) ∧ P L ∧ ∀ j, 0 < j → j < L → ¬ P j := by
  intro n
  induction n using Nat.strongRecOn with
  | _ n ih =>
    intro h1 hn
    by_cases h : ∃ m, 1 ≤ m ∧ m < n ∧ P m
    · obtain ⟨m, a, b, c⟩ := h
      obtain ⟨L, q1, q2, q3⟩ := ih m b a c
      exact ⟨L, ⟨q1.1, by omega⟩, q2, q3⟩
    · exact ⟨n, ⟨h1, Nat.le_refl _⟩, hn, fun j h2 h3 h4 => h ⟨j, h2, h3, h4⟩⟩
def conAt (l : List Con) (fr : List Int) (last : Int) (k : Nat) : Con := l.getD (frAt fr (backN l fr k last)).toNat default
def sumW (l : List Con) (fr : List Int) (last : Int) (s : Nat) : Nat → Int
  | 0 => 0
  | k + 1 => sumW l fr last s k + (conAt l fr last (s + k)).w
theorem cyc_ok {N : Nat} {l : List Con} (hg : Good N l) (hlast : 0 ≤ (solveF N l).last) :
    ∃ L, CycOK l (solveF N l).fr N (solveF N l).last L ∧ L ≤ N ∧ (∀ k, conAt l (solveF N l).fr (solveF N l).last k ∈ l ∧ (conAt l (solveF N l).fr (solveF N l).last k).b = backN l (solveF N l).fr k (solveF N l).last) ∧
      sumW l (solveF N l).fr (solveF N l).last N L < 0 := by
  obtain ⟨r, now, ts, rd, h, hend⟩ : ∃ r' now' ts' rd', PI N l (solveF N l) r' now' ts' rd' ∧ (0 ≤ (solveF N l).last → fn (solveF N l).x (solveF N l).last.toNat < -(N : Int) * 9007199254740992 ∨ r' = N + 1) := by
    have := pi_out hg (N + 1) 0 ⟨List.replicate N 0, List.replicate N (-1), -1⟩ 0 (fun _ => 0) (fun _ => 0) (by omega)
      ⟨⟨by simp, by simp⟩, fun v hv => Or.inl ⟨fn_rep _ _ _ hv, fn_rep _ _ _ hv, rfl⟩, fun _ => Nat.le_refl _, fun _ => Nat.le_refl _, Or.inl rfl⟩
      (fun v hv => by simp only []; rw [fn_rep _ _ _ hv]; omega) (Bd.zero N) (fun e c he => Or.inr (Nat.le_refl _))
    simpa [solveF, relaxF] using this
  have hend := hend hlast
  generalize solveF N l = S at *
  generalize hz : S.last = z at *
  have hz0 : z.toNat < N ∧ rd z.toNat = r := by
    rcases h.last with e | ⟨_, e⟩
    · omega
    · rw [hz] at e; exact e
  -- one step back
  have stepb : ∀ k (e : Nat) (c : Con), fn S.fr (backN l S.fr k z).toNat = (e : Int) → l[e]? = some c → conAt l S.fr z k = c ∧ backN l S.fr (k + 1) z = c.a := fun k e c h1 h2 => by
    have h3 : frAt S.fr (backN l S.fr k z) = (e : Int) := h1
    have h4 : conAt l S.fr z k = c := by
      unfold conAt; rw [h3, Int.toNat_natCast, List.getD_eq_getElem?_getD, h2]; rfl
    refine ⟨h4, ?_⟩
    show (l.getD (frAt S.fr (backN l S.fr k z)).toNat default).a = c.a
    rw [← h4]; rfl
  have fr0 : ∀ t, t ≤ N → (0 ≤ backN l S.fr t z ∧ (backN l S.fr t z).toNat < N) ∧ (fn S.x (backN l S.fr t z).toNat - (t : Int) * 9007199254740992 ≤ fn S.x z.toNat) ∧ r ≤ rd (backN l S.fr t z).toNat + t ∧ fn S.fr (backN l S.fr t z).toNat ≠ -1 := by
    have root : ∀ t, t ≤ N → (0 ≤ backN l S.fr t z ∧ (backN l S.fr t z).toNat < N) → (fn S.x (backN l S.fr t z).toNat - (t : Int) * 9007199254740992 ≤ fn S.x z.toNat) → r ≤ rd (backN l S.fr t z).toNat + t → fn S.fr (backN l S.fr t z).toNat ≠ -1 := by
      intro t ht h1 h2 h3 h4
      rcases h.par _ h1.2 with ⟨p1, p2, p3⟩ | ⟨e, c, p1, _⟩
      · rcases hend with q | q
        · omega
        · omega
      · omega
    intro t
    induction t with
    | zero =>
      intro _
      have a1 : (0 ≤ backN l S.fr 0 z ∧ (backN l S.fr 0 z).toNat < N) := ⟨hlast, hz0.1⟩
      have a2 : fn S.x (backN l S.fr 0 z).toNat - ((0 : Nat) : Int) * 9007199254740992 ≤ fn S.x z.toNat := by show fn S.x z.toNat - _ ≤ _; omega
      have a3 : r ≤ rd (backN l S.fr 0 z).toNat + 0 := by show r ≤ rd z.toNat + 0; omega
      exact ⟨a1, a2, a3, root 0 (by omega) a1 a2 a3⟩
    | succ t ih =>
      intro ht
      obtain ⟨a1, a2, a3, a4⟩ := ih (by omega)
      rcases h.par _ a1.2 with ⟨p1, _⟩ | ⟨e, c, p1, p2, p3, p4, p5, p6⟩
      · exact absurd p1 a4
      · obtain ⟨s1, s2⟩ := stepb t e c p1 p2
        have hcl : c ∈ l := List.mem_of_getElem? p2
        have hw := (hg.inn c hcl)
        have ha := (hg.2.2 c hcl).1
        have b1 : (0 ≤ backN l S.fr (t + 1) z ∧ (backN l S.fr (t + 1) z).toNat < N) := by rw [s2]; omega
        have b2 : fn S.x (backN l S.fr (t + 1) z).toNat - ((t + 1 : Nat) : Int) * 9007199254740992 ≤ fn S.x z.toNat := by
          rw [s2]; show fn S.x c.i - _ ≤ _
          omega
        have b3 : r ≤ rd (backN l S.fr (t + 1) z).toNat + (t + 1) := by
          rw [s2]; show r ≤ rd c.i + (t + 1)
          omega
        exact ⟨b1, b2, b3, root (t + 1) ht b1 b2 b3⟩
  have same : ∀ s t d, backN l S.fr s z = backN l S.fr t z → backN l S.fr (s + d) z = backN l S.fr (t + d) z := by
    intro s t d he
    induction d with
    | zero => exact he
    | succ d ih =>
      show (l.getD (S.fr.getD (backN l S.fr (s + d) z).toNat 0).toNat default).a = (l.getD (S.fr.getD (backN l S.fr (t + d) z).toNat 0).toNat default).a
      rw [ih]
  obtain ⟨s, t, hst, htN, hbs⟩ := pigeon N (fun k => (backN l S.fr k z).toNat) (fun k hk => (fr0 k hk).1.2)
  have hbs' : backN l S.fr s z = backN l S.fr t z := by
    have := (fr0 s (by omega)).1.1
    have := (fr0 t htN).1.1
    omega
  have all : ∀ k, (0 ≤ backN l S.fr k z ∧ (backN l S.fr k z).toNat < N) ∧ fn S.fr (backN l S.fr k z).toNat ≠ -1 := by
    intro k
    induction k using Nat.strongRecOn with
    | _ k ih =>
      by_cases hk : k ≤ N
      · have := fr0 k hk; exact ⟨this.1, this.2.2.2⟩
      · have e := same s t (k - t) hbs'
        rw [show t + (k - t) = k by omega] at e
        rw [← e]
        exact ih (s + (k - t)) (by omega)
  have step : ∀ k, ∃ (e : Nat) (c : Con), frAt S.fr (backN l S.fr k z) = (e : Int) ∧ l[e]? = some c ∧ conAt l S.fr z k = c ∧ c.b = backN l S.fr k z ∧ backN l S.fr (k + 1) z = c.a ∧ fn S.x c.i + c.w ≤ fn S.x c.j ∧ (ts c.j ≤ ts c.i → fn S.x c.i + c.w < fn S.x c.j) := fun k => by
    obtain ⟨a1, a2⟩ := all k
    rcases h.par _ a1.2 with ⟨p1, _⟩ | ⟨e, c, p1, p2, p3, p4, p5, p6⟩
    · exact absurd p1 a2
    · obtain ⟨s1, s2⟩ := stepb k e c p1 p2
      have hcl : c ∈ l := List.mem_of_getElem? p2
      have hb := (hg.2.2 c hcl).2.1
      refine ⟨e, c, p1, p2, s1, ?_, s2, ?_, ?_⟩
      · have : c.b.toNat = (backN l S.fr k z).toNat := p3
        omega
      · rw [p3]; exact p4
      · rw [p3]; exact p5
  have hp : backN l S.fr (N + (t - s)) z = backN l S.fr N z := by
    have e := same s t (N - s) hbs'
    rw [show s + (N - s) = N by omega, show t + (N - s) = N + (t - s) by omega] at e
    exact e.symm
  obtain ⟨L, hL1, hL2, hL3⟩ := least (P := fun p => backN l S.fr (N + p) z = backN l S.fr N z) (t - s) (by omega) hp
  refine ⟨L, ⟨⟨hL1.1, by have := hg.1; omega⟩, fun k _ => ?_, hL2, fun j h1 h2 => hL3 j h1 h2⟩, by omega, fun k => ?_, ?_⟩
  · obtain ⟨a1, a2⟩ := all k
    obtain ⟨e, c, p1, p2, _⟩ := step k
    have := (List.getElem?_eq_some_iff.1 p2).1
    rw [p1]
    omega
  · obtain ⟨e, c, p1, p2, p3, p4, _⟩ := step k
    rw [p3]
    exact ⟨List.mem_of_getElem? p2, p4⟩
  · have tel : ∀ k, sumW l S.fr z N k + fn S.x (backN l S.fr (N + k) z).toNat ≤ fn S.x (backN l S.fr N z).toNat ∧
        (sumW l S.fr z N k + fn S.x (backN l S.fr (N + k) z).toNat < fn S.x (backN l S.fr N z).toNat ∨ ts (backN l S.fr (N + k) z).toNat + k ≤ ts (backN l S.fr N z).toNat) := by
      intro k
      induction k with
      | zero => exact ⟨by simp [sumW], Or.inr (by simp)⟩
      | succ k ih =>
        obtain ⟨e, c, p1, p2, p3, p4, p5, p6, p7⟩ := step (N + k)
        have e1 : c.j = (backN l S.fr (N + k) z).toNat := by unfold Con.j; rw [p4]
        have e2 : c.i = (backN l S.fr (N + (k + 1)) z).toNat := by unfold Con.i; rw [← p5]; rfl
        rw [e1, e2] at p6 p7
        unfold sumW
        rw [p3]
        obtain ⟨i1, i2⟩ := ih
        refine ⟨by omega, ?_⟩
        rcases i2 with i2 | i2
        · left; omega
        · by_cases q : ts (backN l S.fr (N + k) z).toNat ≤ ts (backN l S.fr (N + (k + 1)) z).toNat
          · left; have := p7 q; omega
          · right; omega
    obtain ⟨t1, t2⟩ := tel L
    rw [hL2] at t1 t2
    omega
end Go.Proofs.Ytkkbnbgdhpkfhaa.A
