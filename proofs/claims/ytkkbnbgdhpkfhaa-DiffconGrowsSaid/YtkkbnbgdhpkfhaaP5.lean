/- Tight attains a bound; no solution exceeds one. Conditions: none. -/
import Derived.Test.YtkkbnbgdhpkfhaaP4
import Derived.Test.YtkkbnbgdhpkfhaaF11
import Derived.Test.YtkkbnbgdhpkfhaaF13
set_option linter.unusedVariables false
set_option linter.unusedSimpArgs false
namespace Go.Proofs.Ytkkbnbgdhpkfhaa.A
open Go

theorem atMost_iff {a b w : Int} (ha : InI64 a) (hb : InI64 b) (hw : InI64 w) : atMostF a b w = decide (b - a ≤ w) := by
  unfold atMostF InI64 at *
  simp only [i64_wrap]
  rw [Bool.eq_iff_iff]
  split
  · simp; omega
  · split
    · simp; omega
    · simp; omega
theorem holds_iff {l : List Con} {x : List Int} (hl : ∀ c ∈ l, c.I64) (hx : ∀ z ∈ x, InI64 z) :
    holdsF l x = true ↔ ∀ c ∈ l, (0 ≤ c.a ∧ c.a < (x.length : Int)) ∧ (0 ≤ c.b ∧ c.b < (x.length : Int)) ∧ fn x c.j - fn x c.i ≤ c.w := by
  unfold holdsF
  rw [List.any_eq_not_all_not, Bool.not_not]
  simp only [Bool.not_not]
  rw [List.all_eq_true]
  constructor
  · intro h c hc
    have := h c hc
    unfold okF at this
    rw [atMost_iff (getD_i64 hx _) (getD_i64 hx _) (hl c hc).2.2] at this
    simp only [Bool.and_eq_true, decide_eq_true_eq, withinF] at this
    exact ⟨by omega, by omega, this.2⟩
  · intro h c hc
    have := h c hc
    unfold okF
    rw [atMost_iff (getD_i64 hx _) (getD_i64 hx _) (hl c hc).2.2]
    simp only [Bool.and_eq_true, decide_eq_true_eq, withinF]
    exact ⟨⟨by omega, by omega⟩, this.2.2⟩
theorem mem_i64 {x : List Int} (h : ∀ k, k < x.length → InI64 (fn x k)) : ∀ z ∈ x, InI64 z := fun z hz => by
  obtain ⟨k, hk, rfl⟩ := List.getElem_of_mem hz
  have := h k hk
  unfold fn at this
  rw [List.getD_eq_getElem?_getD, List.getElem?_eq_getElem hk] at this
  exact this
section
variable {N : Nat} {l : List Con}
theorem from_bd (hg : Good N l) (hf : Feas N l) {i : Int} (hi : i.toNat < N) {k : Nat} (hk : k < N) (hne : fn (fromF N l i) k ≠ NONE) :
    -(N : Int) * 9007199254740992 ≤ fn (fromF N l i) k ∧ fn (fromF N l i) k ≤ (N : Int) * 9007199254740992 := by
  have hX := (from_max hg hf i hi).2
  have := cnt_le (fin (fromF N l i)) N
  rcases hX.bd k hk with e | e
  · exact absurd e hne
  · omega
theorem solve_bd (hg : Good N l) (hf : Feas N l) {k : Nat} (hk : k < N) : -(N : Int) * 9007199254740992 ≤ fn (solveF N l).x k ∧ fn (solveF N l).x k ≤ 0 :=
  ⟨(solve_max hg hf).low hg.inn k hk, (solve_max hg hf).le k hk⟩
theorem solve_sat (hg : Good N l) (hf : Feas N l) {c : Con} (hc : c ∈ l) : fn (solveF N l).x c.j ≤ fn (solveF N l).x c.i + c.w := by
  have ⟨⟨ha, hb⟩, _⟩ := hg.inn c hc
  rcases (solve_max hg hf).sat c hc with e | e
  · have := (solve_bd hg hf ha).2; rw [e, NONE_eq] at this; omega
  · exact e
theorem up_ok (hg : Good N l) (hf : Feas N l) {i : Int} (hi : i.toNat < N) : ∀ (cs : List Con) (up : Int), (∀ c ∈ cs, c ∈ l) → 0 ≤ up → up ≤ (2 * (N : Int) + 1) * 9007199254740992 →
    (up ≤ cs.foldl (upStep (fromF N l i) (solveF N l).x) up ∧ cs.foldl (upStep (fromF N l i) (solveF N l).x) up ≤ (2 * (N : Int) + 1) * 9007199254740992) ∧
    ∀ c ∈ cs, fn (fromF N l i) c.i = NONE → fn (fromF N l i) c.j ≠ NONE → fn (fromF N l i) c.j - c.w - fn (solveF N l).x c.i ≤ cs.foldl (upStep (fromF N l i) (solveF N l).x) up
  | [], up, _, h0, h1 => ⟨⟨Int.le_refl _, h1⟩, fun c hc => by cases hc⟩
  | c :: cs, up, hcs, h0, h1 => by
    have hN := hg.1.2
    have hcl := hcs c (by simp)
    have ⟨⟨ha, hb⟩, hw⟩ := hg.inn c hcl
    have y := solve_bd hg hf ha
    rw [List.foldl_cons]
    by_cases hcond : fn (fromF N l i) c.i = NONE ∧ fn (fromF N l i) c.j ≠ NONE
    · have x := from_bd hg hf hi hb hcond.2
      have e : upStep (fromF N l i) (solveF N l).x up c = max up (fn (fromF N l i) c.j - c.w - fn (solveF N l).x c.i) := by
        unfold upStep
        rw [if_pos hcond]
        show max up (IntKind.i64.wrap (IntKind.i64.wrap (fn (fromF N l i) c.j - c.w) - fn (solveF N l).x c.i)) = _
        rw [wrap_id (v := fn (fromF N l i) c.j - c.w) (by omega) (by omega), wrap_id (by omega) (by omega)]
      rw [e]
      obtain ⟨⟨r1, r2⟩, r3⟩ := up_ok hg hf hi cs (max up (fn (fromF N l i) c.j - c.w - fn (solveF N l).x c.i)) (fun c' hc' => hcs c' (List.mem_cons_of_mem _ hc')) (by omega) (by omega)
      refine ⟨⟨by omega, r2⟩, fun c' hc' => ?_⟩
      rcases List.mem_cons.1 hc' with q | q
      · subst q; intro _ _; omega
      · exact r3 c' q
    · have e : upStep (fromF N l i) (solveF N l).x up c = up := by unfold upStep; rw [if_neg hcond]
      rw [e]
      obtain ⟨r1, r3⟩ := up_ok hg hf hi cs up (fun c' hc' => hcs c' (List.mem_cons_of_mem _ hc')) h0 h1
      refine ⟨r1, fun c' hc' => ?_⟩
      rcases List.mem_cons.1 hc' with q | q
      · subst q; intro q1 q2; exact absurd ⟨q1, q2⟩ hcond
      · exact r3 c' q
theorem tightX_len (N : Nat) (l : List Con) (i : Int) : (tightX N l i).length = N := by
  have hxl : (fromF N l i).length = N := by simp [fromF, (relaxF_len _ _).1, fromX]
  unfold tightX; rw [liftTo_length (by omega), hxl]
theorem upF_bd (hg : Good N l) (hf : Feas N l) {i : Int} (hi : i.toNat < N) : 0 ≤ upF (fromF N l i) (solveF N l).x l ∧ upF (fromF N l i) (solveF N l).x l ≤ (2 * (N : Int) + 1) * 9007199254740992 :=
  (up_ok hg hf hi l 0 (fun c hc => hc) (by omega) (by omega)).1
theorem tightX_get (hg : Good N l) (hf : Feas N l) {i : Int} (hi : i.toNat < N) {k : Nat} (hk : k < N) :
    fn (tightX N l i) k = if fn (fromF N l i) k = NONE then fn (solveF N l).x k + upF (fromF N l i) (solveF N l).x l else fn (fromF N l i) k := by
  have hN := hg.1.2
  have y := solve_bd hg hf hk
  have u := upF_bd hg hf hi
  have hxl : (fromF N l i).length = N := (from_max hg hf i hi).2.len
  unfold tightX liftTo
  rw [List.drop_eq_nil_of_le (by omega), List.append_nil]
  show ((List.range N).map (liftF _ _ _)).getD k 0 = _
  rw [List.getD_eq_getElem?_getD, List.getElem?_map, List.getElem?_range hk]
  show liftF _ _ _ k = _
  unfold liftF
  show (if fn (fromF N l i) k = NONE then IntKind.i64.wrap (fn (solveF N l).x k + _) else fn (fromF N l i) k) = _
  rw [wrap_id (by omega) (by omega)]
theorem tightX_sat (hg : Good N l) (hf : Feas N l) {i : Int} (hi : i.toNat < N) {c : Con} (hc : c ∈ l) : fn (tightX N l i) c.j - fn (tightX N l i) c.i ≤ c.w := by
  have hN := hg.1.2
  have ⟨⟨ha, hb⟩, hw⟩ := hg.inn c hc
  have hm := (from_max hg hf i hi).1
  have h1 := tightX_get hg hf hi ha
  have h2 := tightX_get hg hf hi hb
  have y := solve_sat hg hf hc
  have u := (up_ok hg hf hi l 0 (fun c hc => hc) (by omega) (by omega)).2 c hc
  rw [h1, h2]
  by_cases e1 : fn (fromF N l i) c.i = NONE
  · rw [if_pos e1]
    by_cases e2 : fn (fromF N l i) c.j = NONE
    · rw [if_pos e2]; omega
    · rw [if_neg e2]
      have := u e1 e2
      unfold upF; omega
  · rw [if_neg e1]
    have s : fn (fromF N l i) c.j ≤ fn (fromF N l i) c.i + c.w := by
      rcases hm.sat c hc with q | q
      · exact absurd q e1
      · exact q
    have x := from_bd hg hf hi ha e1
    have e2 : fn (fromF N l i) c.j ≠ NONE := by rw [NONE_eq]; omega
    rw [if_neg e2]; omega
theorem tightX_i64 (hg : Good N l) (hf : Feas N l) {i : Int} (hi : i.toNat < N) : ∀ z ∈ tightX N l i, InI64 z := mem_i64 fun k hk => by
  rw [tightX_len] at hk
  have hN := hg.1.2
  have y := solve_bd hg hf hk
  have u := upF_bd hg hf hi
  rw [tightX_get hg hf hi hk]
  unfold InI64
  split
  · omega
  · rename_i e
    have := from_bd hg hf hi hk e
    omega
theorem Good.i64 (hg : Good N l) : ∀ c ∈ l, c.I64 := fun c hc => by
  have := hg.2.2 c hc
  have := hg.1
  unfold Con.I64 InI64; omega
theorem tight_holds (hg : Good N l) (hf : Feas N l) {i : Int} (hi : i.toNat < N) : holdsF l (tightX N l i) = true := by
  rw [holds_iff hg.i64 (tightX_i64 hg hf hi)]
  intro c hc
  have := hg.2.2 c hc
  rw [tightX_len]
  exact ⟨this.1, this.2.1, tightX_sat hg hf hi hc⟩
theorem bounds_ent (hg : Good N l) (hf : Feas N l) {i j : Nat} (hi : i < N) : ent (boundsM N l) i j = fn (fromF N l i) j := by
  unfold ent fn; rw [boundsM_get hi]
theorem from_self (hg : Good N l) (hf : Feas N l) {i : Nat} (hi : i < N) : fn (fromF N l i) i = 0 := by
  obtain ⟨hR, hF⟩ := bounds_FI hg hf
  rw [← hF.row hg hf hi i hi]; exact hF.diag i hi
/-- No solution exceeds a bound. -/
theorem no_more (hg : Good N l) (hf : Feas N l) {i j : Nat} (hi : i < N) (hj : j < N) (hne : fn (fromF N l i) j ≠ NONE) {y : List Int} (hy : ∀ z ∈ y, InI64 z) (hyl : y.length = N) (hh : holdsF l y = true) :
    fn y j - fn y i ≤ fn (fromF N l i) j := by
  obtain ⟨hR, hF⟩ := bounds_FI hg hf
  have e := hF.row hg hf hi j hj
  rw [← e] at hne ⊢
  have h := (holds_iff hg.i64 hy).1 hh
  have hT : SatT l (fun _ => false) (fn y) := fun c hc => Or.inr ⟨rfl, by have := (h c hc).2.2; omega⟩
  rcases hF.snd _ _ hT i j hi hj hne with q | ⟨_, q⟩
  · cases q
  · omega
end
end Go.Proofs.Ytkkbnbgdhpkfhaa.A
