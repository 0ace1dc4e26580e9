/- The reference finds the same: rounds and Floyd-Warshall. Conditions: none. -/
import Derived.Test.YtkkbnbgdhpkfhaaP3
import Derived.Test.YtkkbnbgdhpkfhaaF18
set_option linter.unusedVariables false
set_option linter.unusedSimpArgs false
namespace Go.Proofs.Ytkkbnbgdhpkfhaa.A
open Go

/-! ### Solve -/
structure JOK (N R : Nat) (cs : List Con) (x : List Int) (s r : List Int × Bool) : Prop where
  len : r.1.length = N
  le : ∀ k, k < N → fn r.1 k ≤ fn s.1 k
  ge : ∀ y : Nat → Int, Sat cs y → (∀ k, k < N → y k ≤ fn x k) → (∀ k, k < N → y k ≤ fn s.1 k) → ∀ k, k < N → y k ≤ fn r.1 k
  con : ∀ c ∈ cs, fn r.1 c.j ≤ fn x c.i + c.w
  low : (∀ k, k < N → -((R : Int) + 1) * 9007199254740992 ≤ fn s.1 k) → ∀ k, k < N → -((R : Int) + 1) * 9007199254740992 ≤ fn r.1 k
  ch : r.2 = false → r.1 = s.1
theorem jacStep_eq {N R : Nat} {c : Con} {x : List Int} {s : List Int × Bool} (hR : R ≤ 200) (hc : (c.i < N ∧ c.j < N) ∧ -9007199254740992 ≤ c.w ∧ c.w ≤ 9007199254740992)
    (hx : ∀ k, k < N → -(R : Int) * 9007199254740992 ≤ fn x k ∧ fn x k ≤ 0) :
    jacStep x s c = if fn x c.i + c.w < fn s.1 c.j then (s.1.set c.j (fn x c.i + c.w), true) else s := by
  unfold jacStep
  have := hx c.i hc.1.1
  have e : IntKind.i64.wrap (x.getD c.a.toNat 0 + c.w) = fn x c.i + c.w := wrap_id (v := fn x c.i + c.w) (by omega) (by omega)
  rw [e]
theorem jac_ok {N R : Nat} (hR : R ≤ 200) {x : List Int} (hx : ∀ k, k < N → -(R : Int) * 9007199254740992 ≤ fn x k ∧ fn x k ≤ 0) :
    ∀ {cs : List Con} {s : List Int × Bool}, s.1.length = N → In N cs → JOK N R cs x s (cs.foldl (jacStep x) s)
  | [], s, hs, _ => ⟨hs, fun _ _ => Int.le_refl _, fun y _ _ h => h, (by intro c hc; cases hc), fun h => h, fun _ => rfl⟩
  | c :: cs, s, hs, hin => by
    have hcin := hin c (by simp)
    have ⟨⟨ha, hj⟩, hw⟩ := hcin
    rw [List.foldl_cons, jacStep_eq hR hcin hx]
    split
    · rename_i h
      have h2 := jac_ok hR hx (s := (s.1.set c.j (fn x c.i + c.w), true)) (by simpa using hs) (fun c' hc' => hin c' (List.mem_cons_of_mem _ hc'))
      have hget : ∀ k, fn (s.1.set c.j (fn x c.i + c.w)) k = if k = c.j then fn x c.i + c.w else fn s.1 k := fun k => fn_set _ _ _ _ (by omega)
      refine ⟨h2.len, fun k hk => ?_, fun y hy hyx hys => ?_, fun c' hc' => ?_, fun hl => ?_, fun hch => ?_⟩
      · refine Int.le_trans (h2.le k hk) ?_
        simp only []; rw [hget]; split
        · rename_i e; subst e; omega
        · omega
      · refine h2.ge y (fun c' hc' => hy c' (List.mem_cons_of_mem _ hc')) hyx (fun k hk => ?_)
        simp only []; rw [hget]; split
        · rename_i e; subst e
          have h1 := hyx c.i ha
          have h3 := hx c.i ha
          rcases hy c (by simp) with e | e
          · rw [e, NONE_eq] at h1; omega
          · omega
        · exact hys k hk
      · rcases List.mem_cons.1 hc' with e | e
        · subst e
          refine Int.le_trans (h2.le _ hj) ?_
          simp only []; rw [hget, if_pos rfl]; omega
        · exact h2.con c' e
      · refine h2.low (fun k hk => ?_)
        have h3 := hx c.i ha
        simp only []; rw [hget]; split
        · omega
        · exact hl k hk
      · exfalso
        have : ∀ (cs : List Con) (s : List Int × Bool), s.2 = true → (cs.foldl (jacStep x) s).2 = true := by
          intro cs
          induction cs with
          | nil => intro s h; exact h
          | cons c cs ih => intro s h; rw [List.foldl_cons]; exact ih _ (by unfold jacStep; split; rfl; exact h)
        rw [this cs _ rfl] at hch; cases hch
    · rename_i h
      have h2 := jac_ok hR hx (s := s) hs (fun c' hc' => hin c' (List.mem_cons_of_mem _ hc'))
      refine ⟨h2.len, h2.le, fun y hy => h2.ge y (fun c' hc' => hy c' (List.mem_cons_of_mem _ hc')), fun c' hc' => ?_, h2.low, h2.ch⟩
      rcases List.mem_cons.1 hc' with e | e
      · subst e
        have := h2.le _ hj
        omega
      · exact h2.con c' e
theorem jac_still {N R : Nat} (hR : R ≤ 200) {x : List Int} (hx : ∀ k, k < N → -(R : Int) * 9007199254740992 ≤ fn x k ∧ fn x k ≤ 0) :
    ∀ {cs : List Con}, In N cs → (∀ c ∈ cs, fn x c.j ≤ fn x c.i + c.w) → cs.foldl (jacStep x) (x, false) = (x, false)
  | [], _, _ => rfl
  | c :: cs, hin, h => by
    rw [List.foldl_cons, jacStep_eq hR (hin c (by simp)) hx, if_neg (by have := h c (by simp); simp only []; omega)]
    exact jac_still hR hx (fun c' hc' => hin c' (List.mem_cons_of_mem _ hc')) (fun c' hc' => h c' (List.mem_cons_of_mem _ hc'))
theorem jacGo_max {N : Nat} {l : List Con} {z : Nat → Int} (hin : In N l) (hz : IsMax N l (fun _ => 0) z) :
    ∀ (r R : Nat) (x : List Int), x.length = N → R + r ≤ 200 → (∀ k, k < N → -(R : Int) * 9007199254740992 ≤ fn x k ∧ fn x k ≤ 0) → (∀ k, k < N → z k ≤ fn x k) → cnt (off (fn x) z) N + 1 ≤ r →
      ∃ x', jacGo l r x = some x' ∧ x'.length = N ∧ ∀ k, k < N → fn x' k = z k
  | 0, R, x, _, _, _, _, h => by omega
  | r + 1, R, x, hlen, hR, hx, hge, hc => by
    have h1 := jac_ok (R := R) (by omega) hx (cs := l) (s := (x, false)) hlen hin
    unfold jacGo
    have hrd : l.foldl (jacStep x) (x, false) = jacRound l x := rfl
    rw [hrd] at h1
    have hx0 : ∀ k : Nat, k < N → (0 : Int) ≤ NONE := fun _ _ => by rw [NONE_eq]; omega
    have hge' := h1.ge z hz.sat hge hge
    by_cases hch : (jacRound l x).2 = true
    · rw [if_pos hch]
      by_cases hn : cnt (off (fn x) z) N = 0
      · exfalso
        have heq := cnt_zero hn
        have he : ∀ k, k < N → fn x k = z k := fun k hk => by have := heq k hk; simpa [off] using this
        have := jac_still (R := R) (by omega) hx hin (fun c hc => by
          have ⟨⟨ha, hj⟩, hw⟩ := hin c hc
          rw [he _ hj, he _ ha]
          rcases hz.sat c hc with e | e
          · have := hz.le _ ha; rw [e, NONE_eq] at this; omega
          · exact e)
        rw [hrd] at this
        rw [this] at hch; cases hch
      · have hlt := hz.round (x := fn x) (x' := fn (jacRound l x).1) hx0 hin (fun k hk => (hx k hk).2) hge' h1.le (fun c hc => Or.inr (h1.con c hc)) hn
        have hlow := h1.low (fun k hk => by have := (hx k hk).1; simp only []; omega)
        refine jacGo_max hin hz r (R + 1) (jacRound l x).1 h1.len (by omega) (fun k hk => ⟨?_, Int.le_trans (h1.le k hk) (hx k hk).2⟩) hge' (by omega)
        have := hlow k hk
        simpa using this
    · rw [if_neg hch]
      have e := h1.ch (by simpa using hch)
      refine ⟨x, rfl, hlen, fun k hk => ?_⟩
      have hs : Sat l (fn x) := fun c hc => by
        have := h1.con c hc
        rw [e] at this
        exact Or.inr this
      have := hz.max _ hs (fun k hk => (hx k hk).2) k hk
      have := hge k hk
      omega
theorem jacGo_sat {N : Nat} {l : List Con} (hin : In N l) :
    ∀ (r R : Nat) (x : List Int), x.length = N → R + r ≤ 200 → (∀ k, k < N → -(R : Int) * 9007199254740992 ≤ fn x k ∧ fn x k ≤ 0) → ∀ x', jacGo l r x = some x' → Sat l (fn x') ∧ ∀ k, k < N → fn x' k ≤ 0
  | 0, R, x, _, _, _, x', h => by unfold jacGo at h; cases h
  | r + 1, R, x, hlen, hR, hx, x', h => by
    have h1 := jac_ok (R := R) (by omega) hx (cs := l) (s := (x, false)) hlen hin
    have hrd : l.foldl (jacStep x) (x, false) = jacRound l x := rfl
    rw [hrd] at h1
    unfold jacGo at h
    split at h
    · have hlow := h1.low (fun k hk => by have := (hx k hk).1; simp only []; omega)
      refine jacGo_sat hin r (R + 1) _ h1.len (by omega) (fun k hk => ⟨?_, Int.le_trans (h1.le k hk) (hx k hk).2⟩) x' h
      have := hlow k hk
      simpa using this
    · rename_i hch
      cases h
      have e := h1.ch (by simpa using hch)
      exact ⟨fun c hc => by
        have := h1.con c hc
        rw [e] at this
        exact Or.inr this, fun k hk => (hx k hk).2⟩
theorem ext_fn {N : Nat} {x y : List Int} (hx : x.length = N) (hy : y.length = N) (h : ∀ k, k < N → fn x k = fn y k) : x = y := by
  apply List.ext_getElem?
  intro k
  by_cases hk : k < N
  · have := h k hk
    unfold fn at this
    rw [List.getD_eq_getElem?_getD, List.getD_eq_getElem?_getD, List.getElem?_eq_getElem (by omega), List.getElem?_eq_getElem (by omega)] at this
    rw [List.getElem?_eq_getElem (by omega), List.getElem?_eq_getElem (by omega)]
    simpa using this
  · rw [List.getElem?_eq_none (by omega), List.getElem?_eq_none (by omega)]
theorem solF_ref (n : Int) (l : List Con) : refSolF n l = solF n l := by
  unfold refSolF solF
  by_cases hq : checkF n l = 0
  · rw [if_neg (by simp [hq]), if_neg (by simp [hq])]
    obtain ⟨N, rfl, hg⟩ := check_ok hq
    rw [Int.toNat_natCast]
    have hin := hg.inn
    have hN := hg.1.2
    have h0 : ∀ k, k < N → -((0 : Nat) : Int) * 9007199254740992 ≤ fn (List.replicate N 0) k ∧ fn (List.replicate N 0) k ≤ 0 := fun k hk => by rw [fn_rep _ _ _ hk]; omega
    by_cases hf : Feas N l
    · have hz := solve_max hg hf
      obtain ⟨x', e, hl, he⟩ := jacGo_max hin hz (N + 1) 0 (List.replicate N 0) (by simp) (by omega) h0 (fun k hk => by rw [fn_rep _ _ _ hk]; exact hz.le k hk) (by have := cnt_le (off (fn (List.replicate N 0)) (fn (solveF N l).x)) N; omega)
      rw [e, if_pos ((solve_feas hg).2 hf)]
      simp only [Prod.mk.injEq, Option.some.injEq, and_true]
      exact ext_fn hl (by simp [solveF, (relaxF_len _ _).1]) he
    · rw [if_neg (fun h => hf ((solve_feas hg).1 h))]
      cases e : jacGo l (N + 1) (List.replicate N 0) with
      | none => rfl
      | some x' => exact absurd ⟨_, jacGo_sat hin (N + 1) 0 _ (by simp) (by omega) h0 x' e⟩ hf
  · rw [if_pos hq, if_pos hq]

/-! ### Walks -/
inductive Wk (l : List Con) (S : Nat → Bool) (i : Nat) : Nat → Nat → Prop where
  | refl : Wk l S i i 0
  | edge (c : Con) : c ∈ l → c.i = i → Wk l S i c.j 1
  | step (a r : Nat) (c : Con) : Wk l S i a r → S a = true → c ∈ l → c.i = a → Wk l S i c.j (r + 1)
theorem Wk.mono {l : List Con} {S S' : Nat → Bool} {i j r : Nat} (hS : ∀ k, S k = true → S' k = true) (h : Wk l S i j r) : Wk l S' i j r := by
  induction h with
  | refl => exact .refl
  | edge c h1 h2 => exact .edge c h1 h2
  | step a r c _ h1 h2 h3 ih => exact .step a r c ih (hS a h1) h2 h3
theorem Wk.avoid {l : List Con} {S : Nat → Bool} {i j r : Nat} (a : Nat) (h : Wk l S i j r) :
    (∃ r', Wk l (fun k => S k && decide (k ≠ a)) i j r') ∨ ∃ r', Wk l (fun k => S k && decide (k ≠ a)) i a r' := by
  induction h with
  | refl => exact Or.inl ⟨0, .refl⟩
  | edge c h1 h2 => exact Or.inl ⟨1, .edge c h1 h2⟩
  | step b r c _ h1 h2 h3 ih =>
    rcases ih with ⟨r', ih⟩ | ih
    · by_cases e : b = a
      · subst e; exact Or.inr ⟨r', ih⟩
      · exact Or.inl ⟨_, .step b r' c ih (by simp [h1, e]) h2 h3⟩
    · exact Or.inr ih
theorem Wk.short {l : List Con} {N i : Nat} : ∀ (n : Nat) {S : Nat → Bool} {j r : Nat}, (∀ k, S k = true → k < N) → cnt S N ≤ n → Wk l S i j r → ∃ r', r' ≤ n + 1 ∧ Wk l S i j r'
  | n, S, j, r, hS, hc, h => by
    cases h with
    | refl => exact ⟨0, by omega, .refl⟩
    | edge c h1 h2 => exact ⟨1, by omega, .edge c h1 h2⟩
    | step a r c h h1 h2 h3 =>
      have hlt : cnt (fun k => S k && decide (k ≠ a)) N < cnt S N := cnt_lt (fun k _ e => by simp at e; exact e.1) ⟨a, hS a h1, h1, by simp⟩
      obtain ⟨r1, hr1⟩ : ∃ r', Wk l (fun k => S k && decide (k ≠ a)) i a r' := by rcases h.avoid a with h | h <;> exact h
      obtain ⟨r2, hle, hr2⟩ := Wk.short (n - 1) (fun k e => hS k (by simp at e; exact e.1)) (by omega) hr1
      exact ⟨r2 + 1, by omega, .step a r2 c (hr2.mono (fun k e => by simp at e; exact e.1)) h1 h2 h3⟩
theorem Wk.trans {l : List Con} {S : Nat → Bool} {i a j r s : Nat} (h : Wk l S i a r) (ha : S a = true) (k : Wk l S a j s) : ∃ r', Wk l S i j r' := by
  induction k with
  | refl => exact ⟨r, h⟩
  | edge c h1 h2 => exact ⟨_, .step a r c h ha h1 h2⟩
  | step b s c _ h1 h2 h3 ih =>
    obtain ⟨r', ih⟩ := ih
    exact ⟨_, .step b r' c ih h1 h2 h3⟩

/-! ### Floyd-Warshall -/
/-- A solution of which some values are infinite. -/
def SatT (l : List Con) (T : Nat → Bool) (y : Nat → Int) : Prop := ∀ c ∈ l, T c.i = true ∨ (T c.j = false ∧ y c.j ≤ y c.i + c.w)
def Snd (N : Nat) (l : List Con) (D : Nat → Nat → Int) : Prop := ∀ T y, SatT l T y → ∀ i j, i < N → j < N → D i j ≠ NONE → T i = true ∨ (T j = false ∧ y j ≤ y i + D i j)
structure FI (N : Nat) (l : List Con) (K : Nat) (D : Nat → Nat → Int) : Prop where
  snd : Snd N l D
  top : ∀ i j, i < N → j < N → D i j ≤ NONE
  diag : ∀ i, i < N → D i i = 0
  con : ∀ c ∈ l, D c.i c.j ≤ c.w
  clo : ∀ k, k < K → ∀ i j, i < N → j < N → D i k ≠ NONE → D k j ≠ NONE → D i j ≤ D i k + D k j
  wlk : ∀ i j, i < N → j < N → D i j ≠ NONE → ∃ r, Wk l (fun v => decide (v < K)) i j r
section
variable {N : Nat} {l : List Con} {K : Nat} {D : Nat → Nat → Int}
theorem FI.walk (h : FI N l K D) (hN : N ≤ 160) (hin : In N l) (hK : K ≤ N) {i j r : Nat} (hi : i < N) (hr : r ≤ N + 1) (w : Wk l (fun v => decide (v < K)) i j r) : D i j ≤ (r : Int) * 9007199254740992 := by
  induction w with
  | refl => rw [h.diag i hi]; omega
  | edge c h1 h2 => have := h.con c h1; have := (hin c h1).2; rw [h2] at *; omega
  | step a r c w h1 h2 h3 ih =>
    have ih := ih (by omega)
    have hc := h.con c h2
    have hw := (hin c h2).2
    have haK : a < K := by simpa using h1
    rw [h3] at hc
    have := h.clo a haK i c.j hi (hin c h2).1.2 (by rw [NONE_eq]; omega) (by rw [NONE_eq]; omega)
    omega
theorem FI.high (h : FI N l K D) (hN : N ≤ 160) (hin : In N l) (hK : K ≤ N) {i j : Nat} (hi : i < N) (hj : j < N) (hne : D i j ≠ NONE) : D i j ≤ ((N : Int) + 1) * 9007199254740992 := by
  obtain ⟨r, hr⟩ := h.wlk i j hi hj hne
  have hS : ∀ k, decide (k < K) = true → k < N := fun k e => by simp at e; omega
  obtain ⟨r', hle, hr'⟩ := hr.short N hS (cnt_le _ N)
  have := h.walk hN hin hK hi hle hr'
  omega
theorem low_of (hg : Good N l) (hf : Feas N l) (hs : Snd N l D) {i j : Nat} (hi : i < N) (hj : j < N) (hne : D i j ≠ NONE) : -(N : Int) * 9007199254740992 ≤ D i j := by
  have hm := solve_max hg hf
  have hl := hm.low hg.inn
  have hT : SatT l (fun _ => false) (fn (solveF N l).x) := fun c hc => by
    have ⟨⟨ha, hb⟩, _⟩ := hg.inn c hc
    right; refine ⟨rfl, ?_⟩
    rcases hm.sat c hc with e | e
    · have := hm.le c.i ha; rw [e, NONE_eq] at this; omega
    · exact e
  rcases hs _ _ hT i j hi hj hne with e | ⟨_, e⟩
  · cases e
  · have := hl j hj; have := hm.le i hi; omega
theorem diag_of (hg : Good N l) (hf : Feas N l) (hs : Snd N l D) {i : Nat} (hi : i < N) (hne : D i i ≠ NONE) : 0 ≤ D i i := by
  have hm := solve_max hg hf
  have hT : SatT l (fun _ => false) (fn (solveF N l).x) := fun c hc => by
    have ⟨⟨ha, hb⟩, _⟩ := hg.inn c hc
    right; refine ⟨rfl, ?_⟩
    rcases hm.sat c hc with e | e
    · have := hm.le c.i ha; rw [e, NONE_eq] at this; omega
    · exact e
  rcases hs _ _ hT i i hi hi hne with e | ⟨_, e⟩
  · cases e
  · omega
def nw (D : Nat → Nat → Int) (K i j : Nat) : Int := if D i K ≠ NONE ∧ D K j ≠ NONE ∧ D i K + D K j < D i j then D i K + D K j else D i j
theorem FI.step (hg : Good N l) (hf : Feas N l) (h : FI N l K D) (hK : K < N) : FI N l (K + 1) (nw D K) := by
  have hN := hg.1.2
  have hin := hg.inn
  have cases : ∀ i j, nw D K i j = D i j ∨ (D i K ≠ NONE ∧ D K j ≠ NONE ∧ nw D K i j = D i K + D K j) := fun i j => by
    unfold nw; split
    · rename_i h; exact Or.inr ⟨h.1, h.2.1, rfl⟩
    · exact Or.inl rfl
  have le1 : ∀ i j, nw D K i j ≤ D i j := fun i j => by unfold nw; split <;> omega
  have le2 : ∀ i j, D i K ≠ NONE → D K j ≠ NONE → nw D K i j ≤ D i K + D K j := fun i j h1 h2 => by
    unfold nw; split
    · omega
    · rename_i h; have : ¬ D i K + D K j < D i j := fun h3 => h ⟨h1, h2, h3⟩
      omega
  have hh : ∀ i j, i < N → j < N → D i j ≠ NONE → D i j ≤ ((N : Int) + 1) * 9007199254740992 := fun i j hi hj => h.high hN hin (by omega) hi hj
  have hl : ∀ i j, i < N → j < N → D i j ≠ NONE → -(N : Int) * 9007199254740992 ≤ D i j := fun i j hi hj => low_of hg hf h.snd hi hj
  have dK := h.diag K hK
  have hn : NONE = 4611686018427387904 := rfl
  have snd' : Snd N l (nw D K) := fun T y hy i j hi hj hne => by
    rcases cases i j with e | ⟨e1, e2, e3⟩
    · rw [e] at hne ⊢; exact h.snd T y hy i j hi hj hne
    · rw [e3]
      rcases h.snd T y hy i K hi hK e1 with q | ⟨q1, q2⟩
      · exact Or.inl q
      · rcases h.snd T y hy K j hK hj e2 with p | ⟨p1, p2⟩
        · rw [p] at q1; cases q1
        · exact Or.inr ⟨p1, by omega⟩
  have colK : ∀ i, nw D K i K = D i K := fun i => by
    rcases cases i K with e | ⟨e1, e2, e3⟩
    · exact e
    · rw [e3, dK]; omega
  have rowK : ∀ j, nw D K K j = D K j := fun j => by
    rcases cases K j with e | ⟨e1, e2, e3⟩
    · exact e
    · rw [e3, dK]; omega
  refine ⟨snd', fun i j hi hj => Int.le_trans (le1 i j) (h.top i j hi hj), fun i hi => ?_, fun c hc => Int.le_trans (le1 _ _) (h.con c hc), ?_, ?_⟩
  · have h1 := le1 i i
    rw [h.diag i hi] at h1
    have := diag_of hg hf snd' hi (by omega)
    omega
  · intro k hk i j hi hj n1 n2
    by_cases e : k = K
    · subst e
      rw [colK] at n1 ⊢; rw [rowK] at n2 ⊢
      exact le2 i j n1 n2
    · have hk : k < K := by omega
      have hkN : k < N := by omega
      have l1 := le1 i j
      rcases cases i k with e1 | ⟨a1, a2, a3⟩
      · rcases cases k j with e2 | ⟨b1, b2, b3⟩
        · rw [e1] at n1 ⊢; rw [e2] at n2 ⊢
          exact Int.le_trans l1 (h.clo k hk i j hi hj n1 n2)
        · rw [e1] at n1 ⊢; rw [b3]
          have c1 := h.clo k hk i K hi hK n1 b1
          have := hh i k hi hkN n1
          have := hh k K hkN hK b1
          have := le2 i j (by omega) b2
          omega
      · rcases cases k j with e2 | ⟨b1, b2, b3⟩
        · rw [e2] at n2 ⊢; rw [a3]
          have c1 := h.clo k hk K j hK hj a2 n2
          have := hh K k hK hkN a2
          have := hh k j hkN hj n2
          have := le2 i j a1 (by omega)
          omega
        · rw [a3, b3]
          have c1 := h.clo k hk K K hK hK a2 b1
          have := le2 i j a1 b2
          omega
  · intro i j hi hj hne
    have up : ∀ v, decide (v < K) = true → decide (v < K + 1) = true := fun v e => by simp at e ⊢; omega
    rcases cases i j with e | ⟨e1, e2, e3⟩
    · rw [e] at hne
      obtain ⟨r, hr⟩ := h.wlk i j hi hj hne
      exact ⟨r, hr.mono up⟩
    · obtain ⟨r, hr⟩ := h.wlk i K hi hK e1
      obtain ⟨s, hs⟩ := h.wlk K j hK hj e2
      exact (hr.mono up).trans (by simp) (hs.mono up)
/-- A row at the end is the greatest solution from its variable. -/
theorem FI.row (hg : Good N l) (hf : Feas N l) (h : FI N l N D) {i : Nat} (hi : i < N) : ∀ j, j < N → D i j = fn (fromF N l i) j := by
  intro j hj
  have hN := hg.1.2
  have hin := hg.inn
  obtain ⟨hm, hb⟩ := from_max hg hf (i : Int) (by simpa using hi)
  have hn : NONE = 4611686018427387904 := rfl
  have hh : ∀ i j, i < N → j < N → D i j ≠ NONE → D i j ≤ ((N : Int) + 1) * 9007199254740992 := fun i j hi hj => h.high hN hin (by omega) hi hj
  have hfx : ∀ k, k < N → fn (fromX N (i : Int)) k = if k = i then 0 else NONE := fun k hk => by
    unfold fromX; rw [fn_set _ _ _ _ (by simpa using hi), Int.toNat_natCast]
    split
    · rfl
    · exact fn_rep _ _ _ hk
  have h1 : D i j ≤ fn (fromF N l i) j := by
    refine hm.max (fun k => D i k) (fun c hc => ?_) (fun k hk => ?_) j hj
    · have ⟨⟨ha, hb'⟩, hw⟩ := hin c hc
      by_cases e : D i c.i = NONE
      · exact Or.inl e
      · right
        have := h.con c hc
        have := h.clo c.i ha i c.j hi hb' e (by omega)
        simp only []; omega
    · rw [hfx k hk]; split
      · rename_i e; subst e; rw [h.diag k hk]; omega
      · exact h.top i k hi hk
  have h2 : fn (fromF N l i) j ≤ D i j := by
    by_cases e : D i j = NONE
    · rw [e]; exact hb.le hN j hj
    · have hc := cnt_le (fin (fromF N l i)) N
      have hT : SatT l (fun k => decide (fn (fromF N l i) k = NONE)) (fn (fromF N l i)) := fun c hc => by
        have ⟨⟨ha, hb'⟩, hw⟩ := hin c hc
        rcases hm.sat c hc with q | q
        · left; simpa using q
        · by_cases q2 : fn (fromF N l i) c.i = NONE
          · left; simpa using q2
          · right
            refine ⟨?_, q⟩
            rcases hb.bd c.i ha with p | p
            · exact absurd p q2
            · simp only [decide_eq_false_iff_not]; omega
      have hii := hm.le i hi
      rw [hfx i hi, if_pos rfl] at hii
      rcases h.snd _ _ hT i j hi hj e with q | ⟨_, q⟩
      · simp at q
        have : fn (fromF N l i) i = NONE := q
        omega
      · omega
  omega
end

/-! The program's steps -/
theorem fwStep_ent {N K i j : Nat} {M : List (List Int)} (hR : RowsN N M) (hi : i < N) (hj : j < N)
    (hw : ent M i K ≠ NONE → ent M K j ≠ NONE → IntKind.i64.wrap (ent M i K + ent M K j) = ent M i K + ent M K j) (a b : Nat) :
    ent (fwStep K i M j) a b = if a = i ∧ b = j then nw (ent M) K i j else ent M a b := by
  by_cases hc : ent M i K ≠ NONE ∧ ent M K j ≠ NONE ∧ IntKind.i64.wrap (ent M i K + ent M K j) < ent M i j
  · have e := hw hc.1 hc.2.1
    have h1 : fwStep K i M j = setE M i j (ent M i K + ent M K j) := by unfold fwStep; rw [if_pos hc, e]
    have h2 : nw (ent M) K i j = ent M i K + ent M K j := by unfold nw; rw [if_pos ⟨hc.1, hc.2.1, by rw [← e]; exact hc.2.2⟩]
    rw [h1, h2, ent_set (by rw [hR.1]; exact hi) (by rw [hR.2 i hi]; exact hj)]
  · have h1 : fwStep K i M j = M := by unfold fwStep; rw [if_neg hc]
    have h2 : nw (ent M) K i j = ent M i j := by unfold nw; rw [if_neg (fun h => hc ⟨h.1, h.2.1, by rw [hw h.1 h.2.1]; exact h.2.2⟩)]
    rw [h1, h2]
    split
    · rename_i e; rw [e.1, e.2]
    · rfl
theorem fwI_ent {N K : Nat} {M : List (List Int)} (hR : RowsN N M) (hK : K < N) (hd : ent M K K = 0)
    (hw : ∀ i j, i < N → j < N → ent M i K ≠ NONE → ent M K j ≠ NONE → IntKind.i64.wrap (ent M i K + ent M K j) = ent M i K + ent M K j) :
    ∀ a b, a < N → b < N → ent (fwI N M K) a b = nw (ent M) K a b := by
  have colK : ∀ i, nw (ent M) K i K = ent M i K := fun i => by unfold nw; rw [hd]; split <;> omega
  have rowK : ∀ j, nw (ent M) K K j = ent M K j := fun j => by unfold nw; rw [hd]; split <;> omega
  have inner : ∀ (i : Nat), i < N → ∀ M', RowsN N M' → (∀ a b, ent M' a b = if a < i ∧ b < N then nw (ent M) K a b else ent M a b) → ∀ e, e ≤ N →
      RowsN N ((List.range e).foldl (fwStep K i) M') ∧ ∀ a b, ent ((List.range e).foldl (fwStep K i) M') a b = if (a < i ∧ b < N) ∨ (a = i ∧ b < e) then nw (ent M) K a b else ent M a b := by
    intro i hi M' hR' hM' e
    induction e with
    | zero => intro _; refine ⟨hR', fun a b => ?_⟩; rw [List.range_zero, List.foldl_nil, hM']; simp
    | succ e ih =>
      intro he
      obtain ⟨hRe, hMe⟩ := ih (by omega)
      rw [range_fold]
      generalize (List.range e).foldl (fwStep K i) M' = M2 at *
      have e1 : ent M2 i K = ent M i K := by rw [hMe]; split; exact colK i; rfl
      have e2 : ent M2 K e = ent M K e := by rw [hMe]; split; exact rowK e; rfl
      have e3 : ent M2 i e = ent M i e := by rw [hMe, if_neg (by omega)]
      refine ⟨hRe.fw K i e, fun a b => ?_⟩
      rw [fwStep_ent hRe hi (by omega) (by rw [e1, e2]; exact hw i e hi (by omega)) a b]
      have e4 : nw (ent M2) K i e = nw (ent M) K i e := by unfold nw; rw [e1, e2, e3]
      rw [e4]
      by_cases h : a = i ∧ b = e
      · rw [if_pos h, if_pos (by omega), h.1, h.2]
      · rw [if_neg h, hMe]
        by_cases h2 : (a < i ∧ b < N) ∨ (a = i ∧ b < e)
        · rw [if_pos h2, if_pos (by omega)]
        · rw [if_neg h2, if_neg (by omega)]
  have mid : ∀ i, i ≤ N → RowsN N ((List.range i).foldl (fwJ N K) M) ∧ ∀ a b, ent ((List.range i).foldl (fwJ N K) M) a b = if a < i ∧ b < N then nw (ent M) K a b else ent M a b := by
    intro i
    induction i with
    | zero => intro _; refine ⟨hR, fun a b => ?_⟩; rw [List.range_zero, List.foldl_nil]; simp
    | succ i ih =>
      intro hi
      obtain ⟨hRi, hMi⟩ := ih (by omega)
      rw [range_fold]
      obtain ⟨h1, h2⟩ := inner i (by omega) _ hRi hMi N (Nat.le_refl _)
      refine ⟨h1, fun a b => ?_⟩
      show ent (List.foldl (fwStep K i) _ (List.range N)) a b = _
      rw [h2]
      by_cases h : (a < i ∧ b < N) ∨ (a = i ∧ b < N)
      · rw [if_pos h, if_pos (by omega)]
      · rw [if_neg h, if_neg (by omega)]
  intro a b ha hb
  show ent (List.foldl (fwJ N K) M (List.range N)) a b = _
  rw [(mid N (Nat.le_refl _)).2, if_pos ⟨ha, hb⟩]
theorem FI.congr {N : Nat} {l : List Con} {K : Nat} {D D' : Nat → Nat → Int} (hin : In N l) (hK : K ≤ N) (h : FI N l K D) (he : ∀ i j, i < N → j < N → D' i j = D i j) : FI N l K D' where
  snd := fun T y hy i j hi hj hne => by rw [he i j hi hj] at hne ⊢; exact h.snd T y hy i j hi hj hne
  top := fun i j hi hj => by rw [he i j hi hj]; exact h.top i j hi hj
  diag := fun i hi => by rw [he i i hi hi]; exact h.diag i hi
  con := fun c hc => by have := (hin c hc).1; rw [he _ _ this.1 this.2]; exact h.con c hc
  clo := fun k hk i j hi hj n1 n2 => by
    have : k < N := by omega
    rw [he i k hi this] at n1 ⊢; rw [he k j this hj] at n2 ⊢; rw [he i j hi hj]; exact h.clo k hk i j hi hj n1 n2
  wlk := fun i j hi hj hne => by rw [he i j hi hj] at hne; exact h.wlk i j hi hj hne
theorem fwAll_FI {N : Nat} {l : List Con} (hg : Good N l) (hf : Feas N l) {M : List (List Int)} (hR : RowsN N M) (h : FI N l 0 (ent M)) : ∀ K, K ≤ N → RowsN N ((List.range K).foldl (fwI N) M) ∧ FI N l K (ent ((List.range K).foldl (fwI N) M)) := by
  intro K
  have hN := hg.1.2
  have hin := hg.inn
  have hn : NONE = 4611686018427387904 := rfl
  induction K with
  | zero => intro _; exact ⟨hR, h⟩
  | succ K ih =>
    intro hK
    obtain ⟨hRK, hF⟩ := ih (by omega)
    rw [range_fold]
    generalize (List.range K).foldl (fwI N) M = M2 at *
    refine ⟨hRK.fwI K, (hF.step hg hf (by omega)).congr hin hK (fwI_ent hRK (by omega) (hF.diag K (by omega)) (fun i j hi hj n1 n2 => ?_))⟩
    have := hF.high hN hin (by omega) hi (by omega) n1
    have := hF.high hN hin (by omega) (by omega) hj n2
    have := low_of hg hf hF.snd hi (by omega) n1
    have := low_of hg hf hF.snd (by omega) hj n2
    exact wrap_id (by omega) (by omega)
structure FC (N : Nat) (l cs : List Con) (M : List (List Int)) : Prop where
  rows : RowsN N M
  snd : Snd N l (ent M)
  top : ∀ i j, i < N → j < N → ent M i j ≤ NONE
  diag : ∀ i, i < N → ent M i i ≤ 0
  con : ∀ c ∈ cs, ent M c.i c.j ≤ c.w
  wlk : ∀ i j, i < N → j < N → ent M i j ≠ NONE → ∃ r, Wk l (fun v => decide (v < 0)) i j r
theorem FC.fold {N : Nat} {l : List Con} (hin : In N l) : ∀ (ds : List Con) {cs : List Con} {M : List (List Int)}, (∀ c ∈ cs, c ∈ l) → (∀ c ∈ ds, c ∈ l) → FC N l cs M → FC N l (cs ++ ds) (ds.foldl conStep M)
  | [], cs, M, _, _, h => by simpa using h
  | c :: ds, cs, M, hcs, hds, h => by
    have hcl := hds c (by simp)
    have ⟨⟨ha, hb⟩, hw⟩ := hin c hcl
    have hent : ∀ i j, ent (conStep M c) i j = if i = c.i ∧ j = c.j ∧ c.w < ent M c.i c.j then c.w else ent M i j := fun i j => by
      unfold conStep
      by_cases h1 : c.w < ent M c.a.toNat c.b.toNat
      · rw [if_pos h1, ent_set (by rw [h.rows.1]; exact ha) (by rw [h.rows.2 _ ha]; exact hb)]
        by_cases h2 : i = c.i ∧ j = c.j
        · rw [if_pos h2, if_pos ⟨h2.1, h2.2, h1⟩]
        · rw [if_neg h2, if_neg (fun h3 => h2 ⟨h3.1, h3.2.1⟩)]
      · rw [if_neg h1, if_neg (fun h3 => h1 h3.2.2)]
    have hle : ∀ i j, ent (conStep M c) i j ≤ ent M i j := fun i j => by
      rw [hent]; split
      · rename_i e; rw [e.1, e.2.1]; omega
      · omega
    have h' : FC N l (cs ++ [c]) (conStep M c) := by
      refine ⟨h.rows.con c, fun T y hy i j hi hj hne => ?_, fun i j hi hj => Int.le_trans (hle i j) (h.top i j hi hj), fun i hi => Int.le_trans (hle i i) (h.diag i hi), fun c' hc' => ?_, fun i j hi hj hne => ?_⟩
      · rw [hent] at hne ⊢
        split
        · rename_i e; rw [e.1, e.2.1]; exact hy c hcl
        · rename_i e; rw [if_neg e] at hne; exact h.snd T y hy i j hi hj hne
      · rcases List.mem_append.1 hc' with q | q
        · exact Int.le_trans (hle _ _) (h.con c' q)
        · simp at q; subst q
          rw [hent]; split
          · omega
          · rename_i e
            have : ¬ c'.w < ent M c'.i c'.j := fun q => e ⟨rfl, rfl, q⟩
            omega
      · rw [hent] at hne
        by_cases e : i = c.i ∧ j = c.j ∧ c.w < ent M c.i c.j
        · rw [e.1, e.2.1]; exact ⟨1, .edge c hcl rfl⟩
        · rw [if_neg e] at hne; exact h.wlk i j hi hj hne
    have := FC.fold hin ds (cs := cs ++ [c]) (fun c' hc' => by
      rcases List.mem_append.1 hc' with q | q
      · exact hcs c' q
      · simp at q; subst q; exact hcl) (fun c' hc' => hds c' (List.mem_cons_of_mem _ hc')) h'
    simpa using this
theorem init_ent {N i j : Nat} (hi : i < N) (hj : j < N) : ent (initM N N) i j = if j = i then 0 else NONE := by
  unfold ent initM
  rw [List.getD_eq_getElem?_getD (l := List.map _ _), List.getElem?_map, List.getElem?_range hi]
  show fn ((List.replicate N NONE).set i 0) j = _
  rw [fn_set _ _ _ _ (by simpa using hi)]
  split
  · rfl
  · exact fn_rep _ _ _ hj
theorem FC.init (N : Nat) (l : List Con) : FC N l [] (initM N N) where
  rows := RowsN.init N
  snd := fun T y hy i j hi hj hne => by
    rw [init_ent hi hj] at hne ⊢
    split at hne
    · rename_i e; subst e; rw [if_pos rfl]
      cases T j
      · exact Or.inr ⟨rfl, by omega⟩
      · exact Or.inl rfl
    · exact absurd rfl hne
  top := fun i j hi hj => by rw [init_ent hi hj, NONE_eq]; split <;> omega
  diag := fun i hi => by rw [init_ent hi hi, if_pos rfl]; omega
  con := fun c hc => by cases hc
  wlk := fun i j hi hj hne => by
    rw [init_ent hi hj] at hne
    split at hne
    · rename_i e; subst e; exact ⟨0, .refl⟩
    · exact absurd rfl hne
theorem bounds_FI {N : Nat} {l : List Con} (hg : Good N l) (hf : Feas N l) : RowsN N (refBoundsM N l) ∧ FI N l N (ent (refBoundsM N l)) := by
  have hn : NONE = 4611686018427387904 := rfl
  have h := FC.fold hg.inn l (cs := []) (by intro c hc; cases hc) (fun c hc => hc) (FC.init N l)
  rw [List.nil_append] at h
  have h0 : FI N l 0 (ent (l.foldl conStep (initM N N))) := ⟨h.snd, h.top, fun i hi => by
    have h1 := h.diag i hi
    have := diag_of hg hf h.snd hi (by omega)
    omega, h.con, fun k hk => by omega, h.wlk⟩
  exact fwAll_FI hg hf h.rows h0 N (Nat.le_refl _)
theorem boundsM_get {N : Nat} {l : List Con} {i : Nat} (hi : i < N) : (boundsM N l).getD i [] = fromF N l i := by
  unfold boundsM
  rw [List.getD_eq_getElem?_getD, List.getElem?_map, List.getElem?_range hi]; rfl
theorem boundsM_ref {N : Nat} {l : List Con} (hg : Good N l) (hf : Feas N l) : refBoundsM N l = boundsM N l := by
  obtain ⟨hR, hF⟩ := bounds_FI hg hf
  have hl : (boundsM N l).length = N := by simp [boundsM]
  apply List.ext_getElem?
  intro i
  by_cases hi : i < N
  · have e1 : (refBoundsM N l)[i]? = some ((refBoundsM N l).getD i []) := by rw [List.getD_eq_getElem?_getD, List.getElem?_eq_getElem (by rw [hR.1]; exact hi)]; rfl
    have e2 : (boundsM N l)[i]? = some ((boundsM N l).getD i []) := by rw [List.getD_eq_getElem?_getD, List.getElem?_eq_getElem (by rw [hl]; exact hi)]; rfl
    rw [e1, e2, boundsM_get hi]
    congr 1
    exact ext_fn (hR.2 i hi) (from_max hg hf i (by simpa using hi)).2.len (fun k hk => hF.row hg hf hi k hk)
  · rw [List.getElem?_eq_none (by rw [hR.1]; omega), List.getElem?_eq_none (by rw [hl]; omega)]
theorem boundsF_ref (n : Int) (l : List Con) : refBoundsF n l = boundsF n l := by
  unfold refBoundsF boundsF
  rw [solF_ref]
  by_cases hq : checkF n l = 0
  · obtain ⟨N, rfl, hg⟩ := check_ok hq
    rw [if_neg (c := checkF (N : Int) l ≠ 0) (by simp [hq]), Int.toNat_natCast]
    by_cases hs : (solveF N l).last < 0
    · have e : (solF (N : Int) l).2 = 0 := by unfold solF; rw [if_neg (by simp [hq]), Int.toNat_natCast, if_pos hs]
      rw [if_pos hs, if_neg (by simp [e]), boundsM_ref hg ((solve_feas hg).1 hs)]
    · have e : (solF (N : Int) l).2 = 20 := by unfold solF; rw [if_neg (by simp [hq]), Int.toNat_natCast, if_neg hs]
      rw [if_neg hs, if_pos (by simp [e]), e]
  · have e : (solF n l).2 = checkF n l := by unfold solF; rw [if_pos hq]
    rw [e, if_pos hq, if_pos hq]
end Go.Proofs.Ytkkbnbgdhpkfhaa.A
