/- relax finds the greatest solution. Conditions: none. -/
import Derived.Test.YtkkbnbgdhpkfhaaP2
set_option linter.unusedVariables false
set_option linter.unusedSimpArgs false
namespace Go.Proofs.Ytkkbnbgdhpkfhaa.A
open Go
abbrev fn (x : List Int) (k : Nat) : Int := x.getD k 0
theorem fn_set (x : List Int) (i k : Nat) (v : Int) (hi : i < x.length) : fn (x.set i v) k = if k = i then v else fn x k := by
  unfold fn
  rw [List.getD_eq_getElem?_getD, List.getElem?_set, List.getD_eq_getElem?_getD]
  by_cases h : i = k
  · subst h; simp [hi]
  · rw [if_neg h, if_neg (by omega)]
def fin (x : List Int) (k : Nat) : Bool := decide (fn x k ≠ NONE)
structure Bd (N : Nat) (x : List Int) : Prop where
  len : x.length = N
  bd : ∀ k, k < N → fn x k = NONE ∨ (-(N : Int) * 9007199254740992 ≤ fn x k ∧ fn x k ≤ (cnt (fin x) N : Int) * 9007199254740992)
theorem Bd.le {N : Nat} {x : List Int} (h : Bd N x) (hN : N ≤ 160) : ∀ k, k < N → fn x k ≤ NONE := fun k hk => by
  have := cnt_le (fin x) N
  rw [NONE_eq]
  rcases h.bd k hk with e | e
  · rw [e, NONE_eq]; omega
  · omega
structure StepOK (N : Nat) (cs : List Con) (s : RS) (r : RS × Bool) : Prop where
  le : ∀ k, k < N → fn r.1.x k ≤ fn s.x k
  ge : ∀ y : Nat → Int, Sat cs y → (∀ k, k < N → y k ≤ fn s.x k) → ∀ k, k < N → y k ≤ fn r.1.x k
  brk : r.2 = true → (∃ k, k < N ∧ fn r.1.x k < -(N : Int) * 9007199254740992) ∧ 0 ≤ r.1.last
  bd : r.2 = false → Bd N r.1.x
  con : r.2 = false → ∀ c ∈ cs, fn s.x c.i = NONE ∨ fn r.1.x c.j ≤ fn s.x c.i + c.w
  last : (r.1.last = s.last ∧ r.1.x = s.x) ∨ 0 ≤ r.1.last
theorem wrap_id {v : Int} (h1 : -9223372036854775808 ≤ v) (h2 : v ≤ 9223372036854775807) : IntKind.i64.wrap v = v := by
  rw [IntKind.wrap_i64]; omega
theorem relStep_eq {N : Nat} {s : RS} {i : Nat} {c : Con} (hN : N ≤ 160) (hb : Bd N s.x) (hc : (c.i < N ∧ c.j < N) ∧ -9007199254740992 ≤ c.w ∧ c.w ≤ 9007199254740992) :
    relStep N s i c = if fn s.x c.i ≠ NONE ∧ fn s.x c.i + c.w < fn s.x c.j then
      (⟨s.x.set c.j (fn s.x c.i + c.w), s.fr.set c.j i, c.b⟩, decide (fn s.x c.i + c.w < -(N : Int) * 9007199254740992)) else (s, false) := by
  unfold relStep
  by_cases h : fn s.x c.i = NONE
  · rw [if_neg (by intro e; exact e.1 h), if_neg (by intro e; exact e.1 h)]
  · have h1 := hb.bd c.i hc.1.1
    have := cnt_le (fin s.x) N
    have e : IntKind.i64.wrap (s.x.getD c.a.toNat 0 + c.w) = fn s.x c.i + c.w := wrap_id (v := fn s.x c.i + c.w) (by omega) (by omega)
    rw [e]
theorem relStep_ok {N : Nat} {s : RS} {i : Nat} {c : Con} (hN : N ≤ 160) (hb : Bd N s.x) (hc : (c.i < N ∧ c.j < N) ∧ -9007199254740992 ≤ c.w ∧ c.w ≤ 9007199254740992) (hcb : 0 ≤ c.b) :
    StepOK N [c] s (relStep N s i c) := by
  have hlen := hb.len
  have ⟨⟨ha, hj⟩, hw⟩ := hc
  rw [relStep_eq hN hb hc]
  split
  · rename_i h
    have hget : ∀ k, fn (s.x.set c.j (fn s.x c.i + c.w)) k = if k = c.j then fn s.x c.i + c.w else fn s.x k := fun k => fn_set _ _ _ _ (by omega)
    refine ⟨?_, ?_, ?_, ?_, ?_, Or.inr hcb⟩
    · intro k hk; simp only []; rw [hget]; split
      · rename_i e; subst e; omega
      · omega
    · intro y hy hle k hk; simp only []; rw [hget]; split
      · rename_i e; subst e
        have h1 := hle c.i ha
        have h2 := hb.le hN c.i ha
        rcases hy c (by simp) with e | e
        · omega
        · omega
      · exact hle k hk
    · intro e; simp only [decide_eq_true_eq] at e
      refine ⟨⟨c.j, hj, ?_⟩, hcb⟩
      simp only []; rw [hget, if_pos rfl]; exact e
    · intro e; simp only [decide_eq_false_iff_not] at e
      refine ⟨by simp [hlen], ?_⟩
      intro k hk
      simp only []
      have hnn : fn s.x c.i + c.w ≠ NONE := by have := hb.le hN c.j hj; omega
      have hfin : ∀ k, fin s.x k = true → fin (s.x.set c.j (fn s.x c.i + c.w)) k = true := fun k hk => by
        unfold fin at hk ⊢
        rw [hget]; split
        · exact decide_eq_true hnn
        · exact hk
      rw [hget]; split
      · rename_i ek; subst ek
        right
        refine ⟨by omega, ?_⟩
        rcases hb.bd c.j hj with e1 | e1
        · have : cnt (fin s.x) N < cnt (fin (s.x.set c.j (fn s.x c.i + c.w))) N := cnt_lt (fun k _ => hfin k) ⟨c.j, hj, by unfold fin; rw [hget, if_pos rfl]; simpa using hnn, by unfold fin; simpa using e1⟩
          rcases hb.bd c.i ha with e2 | e2
          · exact absurd e2 h.1
          · omega
        · have := cnt_mono (n := N) (fun k _ => hfin k)
          omega
      · rcases hb.bd k hk with e1 | e1
        · exact Or.inl e1
        · have := cnt_mono (n := N) (fun k _ => hfin k)
          right; omega
    · intro e c' hc'
      simp only [List.mem_singleton] at hc'
      subst hc'
      right; simp only []; rw [hget, if_pos rfl]; omega
  · rename_i h
    refine ⟨fun _ _ => Int.le_refl _, fun y _ h => h, (by intro e; cases e), fun _ => hb, ?_, Or.inl ⟨rfl, rfl⟩⟩
    intro _ c' hc'
    simp only [List.mem_singleton] at hc'
    subst hc'
    simp only []
    by_cases e : fn s.x c'.i = NONE
    · exact Or.inl e
    · right; omega
theorem relIn_ok {N : Nat} (hN : N ≤ 160) : ∀ {cs : List Con} {i : Nat} {s : RS}, Bd N s.x → In N cs → (∀ c ∈ cs, 0 ≤ c.b) → StepOK N cs s (relIn N cs i s)
  | [], i, s, hb, _, _ => ⟨fun _ _ => Int.le_refl _, fun y _ h => h, (by intro e; cases e), fun _ => hb, (by intro _ c hc; cases hc), Or.inl ⟨rfl, rfl⟩⟩
  | c :: cs, i, s, hb, hin, h0 => by
    have h1 := relStep_ok (i := i) hN hb (hin c (by simp)) (h0 c (by simp))
    unfold relIn
    split
    · rename_i h
      refine ⟨h1.le, fun y hy => h1.ge y (fun c' hc' => hy c' (by simp at hc' ⊢; exact Or.inl hc')), fun _ => h1.brk h, (by intro e; cases e), (by intro e; cases e), h1.last⟩
    · rename_i h
      have hf : (relStep N s i c).2 = false := by simpa using h
      have h2 := relIn_ok hN (i := i + 1) (h1.bd hf) (fun c' hc' => hin c' (List.mem_cons_of_mem _ hc')) (fun c' hc' => h0 c' (List.mem_cons_of_mem _ hc'))
      refine ⟨fun k hk => Int.le_trans (h2.le k hk) (h1.le k hk), ?_, h2.brk, h2.bd, ?_, ?_⟩
      · intro y hy hle
        exact h2.ge y (fun c' hc' => hy c' (List.mem_cons_of_mem _ hc')) (h1.ge y (fun c' hc' => hy c' (by simp at hc' ⊢; exact Or.inl hc')) hle)
      · intro e c' hc'
        rcases List.mem_cons.1 hc' with e1 | e1
        · subst e1
          have ⟨⟨ha, hj⟩, hw⟩ := hin c' (by simp)
          have := h2.le c'.j hj
          rcases h1.con hf c' (by simp) with e2 | e2
          · exact Or.inl e2
          · right; omega
        · have ⟨⟨ha, hj⟩, hw⟩ := hin c' hc'
          have := h1.le c'.i ha
          have h3 := hb.le hN c'.i ha
          rcases h2.con e c' e1 with e2 | e2
          · left; omega
          · right; omega
      · rcases h2.last with ⟨e1, e2⟩ | e
        · rcases h1.last with ⟨e3, e4⟩ | e3
          · exact Or.inl ⟨e1.trans e3, e2.trans e4⟩
          · right; rw [e1]; exact e3
        · exact Or.inr e
theorem relOut_max {N : Nat} {l : List Con} {x0 z : Nat → Int} (hN : N ≤ 160) (hin : In N l) (h0 : ∀ c ∈ l, 0 ≤ c.b) (hx0 : ∀ k, k < N → x0 k ≤ NONE) (hz : IsMax N l x0 z) (hlow : ∀ k, k < N → -(N : Int) * 9007199254740992 ≤ z k) :
    ∀ (r : Nat) (s : RS), Bd N s.x → (∀ k, k < N → fn s.x k ≤ x0 k) → (∀ k, k < N → z k ≤ fn s.x k) → cnt (off (fn s.x) z) N + 1 ≤ r → (relOut N l r s).last < 0 ∧ Bd N (relOut N l r s).x ∧ ∀ k, k < N → fn (relOut N l r s).x k = z k
  | 0, s, _, _, _, h => by omega
  | r + 1, s, hb, hle, hge, hc => by
    have hs : Bd N ({ s with last := -1 } : RS).x := hb
    have h1 := relIn_ok (i := 0) hN hs hin h0
    unfold relOut
    generalize hq : relIn N l 0 { s with last := -1 } = q at *
    have hnb : q.2 = false := by
      cases e : q.2 with
      | false => rfl
      | true =>
        obtain ⟨⟨k, hk, h2⟩, _⟩ := h1.brk e
        have := h1.ge z hz.sat hge k hk
        have := hlow k hk
        omega
    have hz' := h1.ge z hz.sat hge
    have hle' : ∀ k, k < N → fn q.1.x k ≤ x0 k := fun k hk => Int.le_trans (h1.le k hk) (hle k hk)
    by_cases hl : q.1.last < 0
    · rw [if_pos (Or.inr hl)]
      refine ⟨hl, h1.bd hnb, fun k hk => ?_⟩
      rcases h1.last with ⟨_, e⟩ | e
      · have hsat : Sat l (fn q.1.x) := fun c hc => by
          have := h1.con hnb c hc
          simp only [] at e
          rw [e] at this ⊢; exact this
        have := hz.max _ hsat hle' k hk
        have := hz' k hk
        omega
      · omega
    · rw [if_neg (by simp [hnb]; omega)]
      by_cases hn : cnt (off (fn s.x) z) N = 0
      · exfalso
        have heq := cnt_zero hn
        have : ∀ k, k < N → fn s.x k = z k := fun k hk => by have := heq k hk; simpa [off] using this
        -- nothing can change
        have hun : ∀ (cs : List Con) (i : Nat), (∀ c ∈ cs, c ∈ l) → relIn N cs i { s with last := -1 } = ({ s with last := -1 }, false) := by
          intro cs
          induction cs with
          | nil => intro i _; rfl
          | cons c cs ih =>
            intro i hm
            have hcl := hm c (by simp)
            have ⟨⟨ha, hj⟩, hw⟩ := hin c hcl
            have e : relStep N { s with last := -1 } i c = ({ s with last := -1 }, false) := by
              rw [relStep_eq hN hs (hin c hcl)]
              rw [if_neg]
              intro ⟨h2, h3⟩
              simp only [] at h2 h3
              rw [this c.i ha] at h2 h3
              rw [this c.j hj] at h3
              rcases hz.sat c hcl with e | e
              · exact h2 e
              · omega
            unfold relIn
            rw [e]
            exact ih (i + 1) (fun c' hc' => hm c' (List.mem_cons_of_mem _ hc'))
        rw [hun l 0 (fun c hc => hc)] at hq
        rw [← hq] at hl
        simp at hl
      · have := hz.round hx0 hin hle hz' h1.le (h1.con hnb) hn
        exact relOut_max hN hin h0 hx0 hz hlow r q.1 (h1.bd hnb) hle' hz' (by omega)
theorem relOut_sat {N : Nat} {l : List Con} {x0 : Nat → Int} (hN : N ≤ 160) (hin : In N l) (h0 : ∀ c ∈ l, 0 ≤ c.b) :
    ∀ (r : Nat) (s : RS), 1 ≤ r → Bd N s.x → (∀ k, k < N → fn s.x k ≤ x0 k) → (relOut N l r s).last < 0 → Sat l (fn (relOut N l r s).x) ∧ ∀ k, k < N → fn (relOut N l r s).x k ≤ x0 k
  | 0, s, h, _, _, _ => by omega
  | r + 1, s, _, hb, hle, hlt => by
    have hs : Bd N ({ s with last := -1 } : RS).x := hb
    have h1 := relIn_ok (i := 0) hN hs hin h0
    unfold relOut at hlt ⊢
    generalize hq : relIn N l 0 { s with last := -1 } = q at *
    have hle' : ∀ k, k < N → fn q.1.x k ≤ x0 k := fun k hk => Int.le_trans (h1.le k hk) (hle k hk)
    by_cases hl : q.2 = true ∨ q.1.last < 0
    · rw [if_pos hl] at hlt ⊢
      have hnb : q.2 = false := by
        cases e : q.2 with
        | false => rfl
        | true => have := (h1.brk e).2; omega
      refine ⟨?_, hle'⟩
      rcases h1.last with ⟨_, e⟩ | e
      · intro c hc
        have := h1.con hnb c hc
        simp only [] at e
        rw [e] at this ⊢; exact this
      · omega
    · rw [if_neg hl] at hlt ⊢
      have hnb : q.2 = false := by
        cases e : q.2 with
        | false => rfl
        | true => exact absurd (Or.inl e) hl
      cases r with
      | zero =>
        unfold relOut at hlt
        exact absurd (Or.inr hlt) hl
      | succ r => exact relOut_sat hN hin h0 (r + 1) q.1 (by omega) (h1.bd hnb) hle' hlt

def Feas (N : Nat) (l : List Con) : Prop := ∃ y, Sat l y ∧ ∀ k, k < N → y k ≤ 0
theorem fn_rep (N : Nat) (v : Int) (k : Nat) (hk : k < N) : fn (List.replicate N v) k = v := by
  unfold fn; rw [List.getD_eq_getElem?_getD, List.getElem?_replicate, if_pos hk]; rfl
theorem Bd.zero (N : Nat) : Bd N (List.replicate N 0) := ⟨by simp, fun k hk => by
  right; rw [fn_rep _ _ _ hk]; omega⟩
theorem Bd.from (N : Nat) (a : Int) (ha : a.toNat < N) : Bd N (fromX N a) := ⟨by simp [fromX], fun k hk => by
  unfold fromX; rw [fn_set _ _ _ _ (by simpa using ha)]
  split
  · right; omega
  · left; exact fn_rep _ _ _ hk⟩
theorem solve_feas {N : Nat} {l : List Con} (h : Good N l) : (solveF N l).last < 0 ↔ Feas N l := by
  have hin := h.inn
  have h0 : ∀ c ∈ l, 0 ≤ c.b := fun c hc => (h.2.2 c hc).2.1.1
  have hN := h.1.2
  constructor
  · intro hl
    have := relOut_sat (x0 := fun _ => 0) hN hin h0 (N + 1) ⟨List.replicate N 0, List.replicate N (-1), -1⟩ (by omega) (Bd.zero N) (fun k hk => by simp only []; rw [fn_rep _ _ _ hk]; omega) (by simpa [solveF, relaxF] using hl)
    exact ⟨_, this.1, this.2⟩
  · intro hf
    obtain ⟨z, hz⟩ := exists_max (fun _ _ => by rw [NONE_eq]; omega) hin hf
    have := relOut_max hN hin h0 (fun _ _ => by rw [NONE_eq]; omega) hz (hz.low hin) (N + 1) ⟨List.replicate N 0, List.replicate N (-1), -1⟩ (Bd.zero N) (fun k hk => by simp only []; rw [fn_rep _ _ _ hk]; omega)
      (fun k hk => by simp only []; rw [fn_rep _ _ _ hk]; exact hz.le k hk) (by have := cnt_le (off (fn (List.replicate N 0)) z) N; simp only []; omega)
    simpa [solveF, relaxF] using this.1
theorem solve_max {N : Nat} {l : List Con} (h : Good N l) (hf : Feas N l) : IsMax N l (fun _ => 0) (fn (solveF N l).x) := by
  have hin := h.inn
  have h0 : ∀ c ∈ l, 0 ≤ c.b := fun c hc => (h.2.2 c hc).2.1.1
  have hN := h.1.2
  obtain ⟨z, hz⟩ := exists_max (fun _ _ => by rw [NONE_eq]; omega) hin hf
  have := relOut_max hN hin h0 (fun _ _ => by rw [NONE_eq]; omega) hz (hz.low hin) (N + 1) ⟨List.replicate N 0, List.replicate N (-1), -1⟩ (Bd.zero N) (fun k hk => by simp only []; rw [fn_rep _ _ _ hk]; omega)
    (fun k hk => by simp only []; rw [fn_rep _ _ _ hk]; exact hz.le k hk) (by have := cnt_le (off (fn (List.replicate N 0)) z) N; simp only []; omega)
  have he : ∀ k, k < N → fn (solveF N l).x k = z k := by simpa [solveF, relaxF] using this.2.2
  exact hz.congr hin he
theorem from_max {N : Nat} {l : List Con} (h : Good N l) (hf : Feas N l) (a : Int) (ha : a.toNat < N) : IsMax N l (fn (fromX N a)) (fn (fromF N l a)) ∧ Bd N (fromF N l a) := by
  have hin := h.inn
  have h0 : ∀ c ∈ l, 0 ≤ c.b := fun c hc => (h.2.2 c hc).2.1.1
  have hN := h.1.2
  have hs := solve_max h hf
  have hl := hs.low hin
  have hx0 := (Bd.from N a ha).le hN
  have hfx : ∀ k, k < N → fn (fromX N a) k = if k = a.toNat then 0 else NONE := fun k hk => by
    unfold fromX; rw [fn_set _ _ _ _ (by simpa using ha)]
    split
    · rfl
    · exact fn_rep _ _ _ hk
  -- the solution, shifted
  have hsh : Sat l (fun k => fn (solveF N l).x k - fn (solveF N l).x a.toNat) := fun c hc => by
    have ⟨⟨hi, hj⟩, hw⟩ := hin c hc
    have h1 := hs.le c.i hi
    have h2 := hs.le c.j hj
    rcases hs.sat c hc with e | e
    · rw [e, NONE_eq] at h1; omega
    · right; simp only []; omega
  have hshl : ∀ k, k < N → fn (solveF N l).x k - fn (solveF N l).x a.toNat ≤ fn (fromX N a) k := fun k hk => by
    rw [hfx k hk]
    have h1 := hs.le k hk
    have h2 := hl a.toNat ha
    split
    · rename_i e; subst e; omega
    · rw [NONE_eq]; omega
  obtain ⟨z, hz⟩ := exists_max hx0 hin ⟨_, hsh, hshl⟩
  have := relOut_max hN hin h0 hx0 hz (fun k hk => by
      have h1 := hz.max _ hsh hshl k hk
      have h2 := hl k hk
      have h3 := hs.le a.toNat ha
      omega) (N + 1) ⟨fromX N a, List.replicate N (-1), -1⟩ (Bd.from N a ha) (fun k hk => Int.le_refl _)
    hz.le (by have := cnt_le (off (fn (fromX N a)) z) N; simp only []; omega)
  have he : ∀ k, k < N → fn (fromF N l a) k = z k := by
    have hlen : (fromX N a).length = N := by simp [fromX]
    simpa [fromF, relaxF, hlen] using this.2.2
  refine ⟨hz.congr hin he, ?_⟩
  have hlen : (fromX N a).length = N := by simp [fromX]
  simpa [fromF, relaxF, hlen] using this.2.1
end Go.Proofs.Ytkkbnbgdhpkfhaa.A
