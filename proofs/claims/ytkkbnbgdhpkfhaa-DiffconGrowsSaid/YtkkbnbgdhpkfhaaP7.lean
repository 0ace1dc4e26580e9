/- One more constraint. Conditions: none. -/
import Derived.Test.YtkkbnbgdhpkfhaaP5
import Derived.Test.YtkkbnbgdhpkfhaaF26
set_option linter.unusedVariables false
set_option linter.unusedSimpArgs false
namespace Go.Proofs.Ytkkbnbgdhpkfhaa.A
open Go

section
variable {N : Nat} {l : List Con} {c : Con}
theorem Good.cons_left (h : Good N (l ++ [c])) : Good N l := ⟨h.1, by have := h.2.1; simp at this; omega, fun c' hc' => h.2.2 c' (by simp [hc'])⟩
theorem Feas.left (h : Feas N (l ++ [c])) : Feas N l := by
  obtain ⟨y, h1, h2⟩ := h
  exact ⟨y, fun c' hc' => h1 c' (by simp [hc']), h2⟩
/-- The least way by the new constraint. -/
def viaE (D : Nat → Nat → Int) (c : Con) (i j : Nat) : Int := if D i c.i ≠ NONE ∧ D c.j j ≠ NONE then min (D i j) (D i c.i + c.w + D c.j j) else D i j
structure Grow (N : Nat) (l : List Con) (c : Con) (D : Nat → Nat → Int) : Prop where
  fi : FI N l N D
  lo : ∀ i j, i < N → j < N → D i j ≠ NONE → -(N : Int) * 9007199254740992 ≤ D i j
  hi : ∀ i j, i < N → j < N → D i j ≠ NONE → D i j ≤ ((N : Int) + 1) * 9007199254740992
theorem grow_of (hg : Good N (l ++ [c])) (hf : Feas N l) : Grow N l c (ent (boundsM N l)) := by
  have hgl := hg.cons_left
  obtain ⟨hR, hF⟩ := bounds_FI hgl hf
  rw [boundsM_ref hgl hf] at hF
  exact ⟨hF, fun i j hi hj hne => low_of hgl hf hF.snd hi hj hne, fun i j hi hj hne => hF.high hgl.1.2 hgl.inn (Nat.le_refl _) hi hj hne⟩
theorem back_feas (hg : Good N (l ++ [c])) (hf : Feas N l) {D : Nat → Nat → Int} (h : Grow N l c D) : Feas N (l ++ [c]) ↔ ¬ (D c.j c.i ≠ NONE ∧ D c.j c.i + c.w < 0) := by
  have hgl := hg.cons_left
  have hN := hg.1
  have ⟨⟨ha, hb⟩, hw⟩ := hg.inn c (by simp)
  have hn : NONE = 4611686018427387904 := rfl
  constructor
  · rintro ⟨y, h1, h2⟩ ⟨h3, h4⟩
    have hT : SatT l (fun _ => false) y := fun c' hc' => by
      have ⟨⟨ha', hb'⟩, _⟩ := hgl.inn c' hc'
      rcases h1 c' (by simp [hc']) with e | e
      · have := h2 c'.i ha'; omega
      · exact Or.inr ⟨rfl, e⟩
    rcases h.fi.snd _ _ hT c.j c.i hb ha h3 with e | ⟨_, e⟩
    · cases e
    · rcases h1 c (by simp) with e2 | e2
      · have := h2 c.i ha; omega
      · omega
  · intro hno
    have hs := solve_max hgl hf
    have hz := fun k (hk : k < N) => solve_bd hgl hf hk
    have hzs := fun c' (hc' : c' ∈ l) => solve_sat hgl hf hc'
    generalize fn (solveF N l).x = z at *
    refine ⟨fun k => if D c.j k ≠ NONE then min (z k) (z c.i + c.w + D c.j k) else z k, fun c' hc' => ?_, fun k hk => ?_⟩
    · right
      simp only []
      rcases List.mem_append.1 hc' with q | q
      · have ⟨⟨ha', hb'⟩, hw'⟩ := hgl.inn c' q
        have e1 := hzs c' q
        by_cases e2 : D c.j c'.i = NONE
        · rw [if_neg (c := D c.j c'.i ≠ NONE) (by simpa using e2)]; split <;> omega
        · have e3 := h.fi.con c' q
          have e4 := h.hi _ _ hb ha' e2
          have e5 := h.fi.clo c'.i ha' c.j c'.j hb hb' e2 (by omega)
          have e6 : D c.j c'.j ≠ NONE := by omega
          rw [if_pos e2, if_pos e6]; omega
      · simp at q; subst q
        have e1 := h.fi.diag c'.j hb
        rw [if_pos (by rw [e1]; omega), e1]
        by_cases e2 : D c'.j c'.i = NONE
        · rw [if_neg (by simpa using e2)]; omega
        · have e3 : ¬ D c'.j c'.i + c'.w < 0 := fun q => hno ⟨e2, q⟩
          rw [if_pos e2]; omega
    · have := hz k hk
      simp only []
      split <;> omega
theorem via_row (hg : Good N (l ++ [c])) (hf' : Feas N (l ++ [c])) {D : Nat → Nat → Int} (h : Grow N l c D) {i : Nat} (hi : i < N) : ∀ j, j < N → viaE D c i j = fn (fromF N (l ++ [c]) i) j := by
  intro j hj
  have hgl := hg.cons_left
  have hf := hf'.left
  have hno := (back_feas hg hf h).1 hf'
  have hN := hg.1
  have ⟨⟨ha, hb⟩, hw⟩ := hg.inn c (by simp)
  have hn : NONE = 4611686018427387904 := rfl
  obtain ⟨hm, hbd⟩ := from_max hg hf' (i : Int) (by simpa using hi)
  have hfx : ∀ k, k < N → fn (fromX N (i : Int)) k = if k = i then 0 else NONE := fun k hk => by
    unfold fromX; rw [fn_set _ _ _ _ (by simpa using hi), Int.toNat_natCast]
    split
    · rfl
    · exact fn_rep _ _ _ hk
  have hle : ∀ k, viaE D c i k ≤ D i k := fun k => by unfold viaE; split <;> omega
  have hcases : ∀ k, viaE D c i k = D i k ∨ (D i c.i ≠ NONE ∧ D c.j k ≠ NONE ∧ viaE D c i k = D i c.i + c.w + D c.j k) := fun k => by
    unfold viaE; split
    · rename_i e
      by_cases q : D i k ≤ D i c.i + c.w + D c.j k
      · left; omega
      · right; exact ⟨e.1, e.2, by omega⟩
    · exact Or.inl rfl
  have hv2 : ∀ k, D i c.i ≠ NONE → D c.j k ≠ NONE → viaE D c i k ≤ D i c.i + c.w + D c.j k := fun k e1 e2 => by
    unfold viaE; rw [if_pos ⟨e1, e2⟩]; omega
  have h1 : viaE D c i j ≤ fn (fromF N (l ++ [c]) i) j := by
    refine hm.max (fun k => viaE D c i k) (fun c' hc' => ?_) (fun k hk => ?_) j hj
    · by_cases e0 : viaE D c i c'.i = NONE
      · exact Or.inl e0
      right
      simp only []
      rcases List.mem_append.1 hc' with q | q
      · have ⟨⟨ha', hb'⟩, hw'⟩ := hgl.inn c' q
        have e3 := h.fi.con c' q
        rcases hcases c'.i with e | ⟨e1, e2, e4⟩
        · rw [e] at e0 ⊢
          have := h.fi.clo c'.i ha' i c'.j hi hb' e0 (by omega)
          have := hle c'.j
          omega
        · have e5 := h.hi _ _ hb ha' e2
          have e6 := h.fi.clo c'.i ha' c.j c'.j hb hb' e2 (by omega)
          have := hv2 c'.j e1 (by omega)
          omega
      · simp at q; subst q
        have e1 : D i c'.i ≠ NONE := fun e => by
          rcases hcases c'.i with q | ⟨q, _⟩
          · exact e0 (q.trans e)
          · exact q e
        have e2 := h.fi.diag c'.j hb
        have e3 := hv2 c'.j e1 (by omega)
        rcases hcases c'.i with q | ⟨q1, q2, q3⟩
        · omega
        · have e4 : ¬ D c'.j c'.i + c'.w < 0 := fun q => hno ⟨q2, q⟩
          omega
    · rw [hfx k hk]
      have := hle k
      split
      · rename_i e; subst e; have := h.fi.diag k hk; omega
      · have := h.fi.top i k hi hk; omega
  have h2 : fn (fromF N (l ++ [c]) i) j ≤ viaE D c i j := by
    have hc := cnt_le (fin (fromF N (l ++ [c]) i)) N
    have hT : SatT (l ++ [c]) (fun k => decide (fn (fromF N (l ++ [c]) i) k = NONE)) (fn (fromF N (l ++ [c]) i)) := fun c' hc' => by
      have ⟨⟨ha', hb'⟩, hw'⟩ := hg.inn c' hc'
      rcases hm.sat c' hc' with q | q
      · left; simpa using q
      · by_cases q2 : fn (fromF N (l ++ [c]) i) c'.i = NONE
        · left; simpa using q2
        · right
          refine ⟨?_, q⟩
          rcases hbd.bd c'.i ha' with p | p
          · exact absurd p q2
          · simp only [decide_eq_false_iff_not]; omega
    have hTl : SatT l (fun k => decide (fn (fromF N (l ++ [c]) i) k = NONE)) (fn (fromF N (l ++ [c]) i)) := fun c' hc' => hT c' (by simp [hc'])
    have hii := hm.le i hi
    rw [hfx i hi, if_pos rfl] at hii
    have hiT : decide (fn (fromF N (l ++ [c]) i) i = NONE) ≠ true := by
      intro e
      have : fn (fromF N (l ++ [c]) i) i = NONE := of_decide_eq_true e
      omega
    have hdir : ∀ k, k < N → D i k ≠ NONE → decide (fn (fromF N (l ++ [c]) i) k = NONE) = false ∧ fn (fromF N (l ++ [c]) i) k ≤ D i k := fun k hk e => by
      rcases h.fi.snd _ _ hTl i k hi hk e with q | ⟨q1, q2⟩
      · exact absurd q hiT
      · exact ⟨q1, by omega⟩
    rcases hcases j with e | ⟨e1, e2, e3⟩
    · rw [e]
      by_cases e0 : D i j = NONE
      · rw [e0]; exact hbd.le hN.2 j hj
      · exact (hdir j hj e0).2
    · rw [e3]
      obtain ⟨q1, q2⟩ := hdir c.i ha e1
      rcases hT c (by simp) with q | ⟨q3, q4⟩
      · exact absurd (show decide (fn (fromF N (l ++ [c]) i) c.i = NONE) = true from q) (by rw [q1]; simp)
      · rcases h.fi.snd _ _ hTl c.j j hb hj e2 with q | ⟨_, q⟩
        · exact absurd (show decide (fn (fromF N (l ++ [c]) i) c.j = NONE) = true from q) (by rw [show decide (fn (fromF N (l ++ [c]) i) c.j = NONE) = false from q3]; simp)
        · omega
  omega
theorem bounds_valid (hg : Good N (l ++ [c])) (hf : Feas N l) : VM (boundsM N l) c := by
  have hgl := hg.cons_left
  have h := grow_of hg hf
  have hl : (boundsM N l).length = N := by simp [boundsM]
  have hc := hg.2.2 c (by simp)
  refine ⟨by rw [hl]; exact hg.1, fun k hk => ?_, fun k hk => ?_, fun i j hi hj => ?_, by rw [hl]; exact hc⟩
  · rw [hl] at hk ⊢
    rw [boundsM_get hk]
    exact (from_max hgl hf k (by simpa using hk)).2.len
  · rw [hl] at hk; exact h.fi.diag k hk
  · rw [hl] at hi hj
    by_cases e : ent (boundsM N l) i j = NONE
    · exact Or.inl e
    · right
      have := h.lo i j hi hj e
      have := h.hi i j hi hj e
      have := hg.1
      omega
/-- Add of the bounds are the bounds with one more constraint. -/
theorem add_bounds (hg : Good N (l ++ [c])) (hf : Feas N l) : addF (boundsM N l) c = boundsF N (l ++ [c]) := by
  have hgl := hg.cons_left
  have h := grow_of hg hf
  have hV := bounds_valid hg hf
  have hl : (boundsM N l).length = N := by simp [boundsM]
  have hN := hg.1
  have ⟨⟨ha, hb⟩, hw⟩ := hg.inn c (by simp)
  have hn : NONE = 4611686018427387904 := rfl
  have hchk : checkF N (l ++ [c]) = 0 := by
    unfold checkF
    rw [if_neg (by simp [withinF]; omega), if_neg (by have := hg.2.1; omega), if_pos]
    rw [List.all_eq_true]
    intro c' hc'
    have := hg.2.2 c' hc'
    simp [rightB, withinF]; omega
  have hbw : ent (boundsM N l) c.j c.i ≠ NONE → IntKind.i64.wrap (ent (boundsM N l) c.j c.i + c.w) = ent (boundsM N l) c.j c.i + c.w := fun e => by
    have := h.lo _ _ hb ha e
    have := h.hi _ _ hb ha e
    exact wrap_id (by omega) (by omega)
  have hback := back_feas hg hf h
  have hsf := solve_feas hg
  unfold addF boundsF
  rw [if_neg (by rw [valid_iff.2 hV]; simp), if_neg (c := checkF (N : Int) (l ++ [c]) ≠ 0) (by simp [hchk]), Int.toNat_natCast]
  by_cases hf' : Feas N (l ++ [c])
  · rw [if_pos (hsf.2 hf')]
    have hno := hback.1 hf'
    rw [if_neg (fun q => hno ⟨q.1, by have := hbw q.1; have q2 : IntKind.i64.wrap (ent (boundsM N l) c.j c.i + c.w) < 0 := q.2; omega⟩)]
    congr 1
    apply List.ext_getElem?
    intro i
    by_cases hi : i < N
    · have e1 : ((boundsM N l).map (addRow (boundsM N l) c))[i]? = some (addRow (boundsM N l) c (fromF N l i)) := by
        rw [List.getElem?_map]
        have : (boundsM N l)[i]? = some (fromF N l i) := by
          unfold boundsM; rw [List.getElem?_map, List.getElem?_range hi]; rfl
        rw [this]; rfl
      have e2 : (boundsM N (l ++ [c]))[i]? = some (fromF N (l ++ [c]) i) := by
        unfold boundsM; rw [List.getElem?_map, List.getElem?_range hi]; rfl
      rw [e1, e2]
      congr 1
      have hlen : (fromF N l i).length = N := (from_max hgl hf i (by simpa using hi)).2.len
      refine ext_fn (by unfold addRow; rw [addTo_len (Nat.le_refl _)]; exact hlen) (from_max hg hf' i (by simpa using hi)).2.len (fun j hj => ?_)
      rw [← via_row hg hf' h hi j hj]
      unfold addRow addTo
      rw [List.drop_length, List.append_nil, hlen]
      show ((List.range N).map _).getD j 0 = _
      rw [List.getD_eq_getElem?_getD, List.getElem?_map, List.getElem?_range hj]
      show addE _ _ _ j = _
      have hr : ∀ k, (fromF N l i).getD k 0 = ent (boundsM N l) i k := fun k => by unfold ent; rw [boundsM_get hi]
      unfold addE viaE
      rw [hr, hr]
      show (if ent (boundsM N l) i c.i ≠ NONE ∧ ent (boundsM N l) c.j j ≠ NONE then _ else _) = _
      by_cases q : ent (boundsM N l) i c.i ≠ NONE ∧ ent (boundsM N l) c.j j ≠ NONE
      · rw [if_pos q, if_pos q]
        have := h.lo _ _ hi ha q.1
        have := h.hi _ _ hi ha q.1
        have := h.lo _ _ hb hj q.2
        have := h.hi _ _ hb hj q.2
        show min _ (IntKind.i64.wrap (IntKind.i64.wrap (ent (boundsM N l) i c.i + c.w) + ent (boundsM N l) c.j j)) = _
        rw [wrap_id (v := ent (boundsM N l) i c.i + c.w) (by omega) (by omega), wrap_id (by omega) (by omega)]
      · rw [if_neg q, if_neg q]
    · rw [List.getElem?_eq_none (by rw [List.length_map, hl]; omega), List.getElem?_eq_none (by simp [boundsM]; omega)]
  · rw [if_neg (fun q => hf' (hsf.1 q))]
    have hyes : ent (boundsM N l) c.j c.i ≠ NONE ∧ ent (boundsM N l) c.j c.i + c.w < 0 := Classical.byContradiction fun q => hf' (hback.2 q)
    rw [if_pos ⟨hyes.1, show IntKind.i64.wrap (ent (boundsM N l) c.j c.i + c.w) < 0 by have := hbw hyes.1; have q2 := hyes.2; omega⟩]
end
end Go.Proofs.Ytkkbnbgdhpkfhaa.A
