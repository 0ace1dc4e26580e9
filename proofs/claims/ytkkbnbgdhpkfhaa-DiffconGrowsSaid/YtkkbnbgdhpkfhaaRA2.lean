/- Rows with a matrix and a constraint as arguments. Conditions: none. -/
import Derived.Test.YtkkbnbgdhpkfhaaRA
set_option linter.unusedVariables false
namespace Go.Proofs.Ytkkbnbgdhpkfhaa.A
open Go Go.ChangeShapes Go.WideShapes Go.ChangeAt Go.RowKit

theorem cells32 : Try.prog.cellsOf 32 = 1 := by kernel_rfl
theorem bytes32 : Try.prog.bytesOf 32 = 24 := by kernel_rfl
theorem choose_list {α : Type} [Inhabited α] {n : Nat} {Q : Nat → α → Prop} (h : ∀ k, k < n → ∃ x, Q k x) : ∃ l : List α, l.length = n ∧ ∀ k, k < n → Q k (l.getD k default) := by
  induction n with
  | zero => exact ⟨[], rfl, fun k hk => by omega⟩
  | succ n ih =>
    obtain ⟨l, hl, hr⟩ := ih fun k hk => h k (by omega)
    obtain ⟨x, hx⟩ := h n (by omega)
    refine ⟨l ++ [x], by simp [hl], fun k hk => ?_⟩
    by_cases hkn : k < n
    · rw [List.getD_eq_getElem?_getD, List.getElem?_append_left (by omega), ← List.getD_eq_getElem?_getD]
      exact hr k hkn
    · have : k = n := by omega
      subst this
      rw [List.getD_eq_getElem?_getD, List.getElem?_append_right (by omega), hl]
      simpa using hx
/-- What stands for a slice's value over row i. -/
def avOf (v : Value) (i : Nat) : AV := match v with
  | .slice (some _) len _ => .slice i 0 len
  | _ => .nils
section
variable {H : Type} {enc : TypeId × Value → H} {w : World} {base : Nat} {spare : Nat → Bool} {held : Bool}
theorem int_argRow2 {v : Value} {d : DataW H} {ps : List MemPlace} (h : DataW.Trod enc Try.prog w base spare held 32 v d ps) (hv : v.cells = #[v]) :
    ∃ (l : List Int) (r : Addr × List AV), (∀ n ρ, ∀ (j : Nat) (c : AV), r.2[j]? = some c → ∃ v', w.cell? (r.1.add j) = some v' ∧ VR n ρ c v') ∧
      (∀ (rows : List (Addr × List AV)) (i : Nat), rows[i]? = some r → VR rows.length (roAddr rows) (avOf v i) v ∧ IntRow (roHeap rows) (avOf v i) l) ∧ (∀ c ∈ l, InI64 c) := by
  rcases open_plain (E := IntE) Try.underlying32 open_int3 h hv with rfl | ⟨a, len, cap, l, elems, rest, rfl, hcap, hll, hd, hel, hcell⟩
  · exact ⟨[], (⟨0, 0, none⟩, []), fun n ρ j c hj => by simp at hj, fun rows i hi => ⟨.nils, .nils⟩, fun c hc => by simp at hc⟩
  · rw [cells3] at hcell
    refine ⟨l, (a, l.flatMap (fun x => [AV.int .i64 x])), fun n ρ => ?_, fun rows i hi => ⟨roSlice hi hcap, ?_⟩, fun c hc => ?_⟩
    · refine roCells (l := l) (s := 1) (en := fun x => [AV.int .i64 x]) (fun _ => rfl) (by omega) fun m hm => ?_
      obtain ⟨cs, h1, h2⟩ := hcell m (by omega)
      exact ⟨cs, h1, by rw [h2.1]; exact .cons _ _ _ _ (.int _ _) .nil⟩
    · have := roRow (en := fun x => [AV.int .i64 x]) (s := 1) (l := l) (fun _ => rfl) hi
      rw [hll] at this; exact this
    · obtain ⟨m, hm⟩ := List.mem_iff_getElem?.1 hc
      have hlt := (List.getElem?_eq_some_iff.1 hm).1
      obtain ⟨cs, _, h2⟩ := hcell m (by omega)
      rw [List.getD_eq_getElem?_getD, hm] at h2
      exact h2.2
theorem mat_arg {v : Value} {d : DataW H} {ps : List MemPlace} (h : DataW.Trod enc Try.prog w base spare held 25 v d ps) (hv : v.cells = #[v]) :
    ∃ (m : List (List Int)) (rows : List (Addr × List AV)) (av : AV), HRel (roAddr rows) (roHeap rows) w ∧ VR rows.length (roAddr rows) av v ∧ Mat (roHeap rows) av m ∧ (∀ r ∈ m, ∀ z ∈ r, InI64 z) ∧
      (m = [] ∨ ∃ elems rest, d = .slice elems rest ∧ m.length = elems.length) := by
  rcases trod_slice_cells Try.underlying25 h hv with rfl | ⟨a, len, cap, elems, rest, n, ys, rfl, hl, hd, hel, hys, hc⟩
  · refine ⟨[], [], .nils, roHeap_rel fun i r hr => by simp at hr, .nils, ⟨⟨[], rfl, .nils, fun k hk => by simp at hk⟩⟩, fun r hr => by simp at hr, .inl rfl⟩
  · rw [cells32] at hc
    obtain ⟨L, hLl, hL⟩ := choose_list (α := Value × List Int × (Addr × List AV)) (n := len) (Q := fun k x => w.cell? (a.add k) = some x.1 ∧
        (∀ n ρ, ∀ (j : Nat) (c : AV), x.2.2.2[j]? = some c → ∃ v', w.cell? (x.2.2.1.add j) = some v' ∧ VR n ρ c v') ∧
        (∀ (rows : List (Addr × List AV)) (i : Nat), rows[i]? = some x.2.2 → VR rows.length (roAddr rows) (avOf x.1 i) x.1 ∧ IntRow (roHeap rows) (avOf x.1 i) x.2.1) ∧ (∀ c ∈ x.2.1, InI64 c)) (fun k hk => by
      obtain ⟨cs, h1, y, _, h2⟩ := hc k hk
      obtain ⟨_, h3, h4⟩ := World.cells?_some h1
      have h5 := h4 0 (by omega)
      rw [Nat.mul_one] at h5
      match cs, h3 with
      | [c0], _ =>
        have h6 : w.cell? (a.add k) = some c0 := by
          have : (a.add k).add 0 = a.add k := by unfold Addr.add; rfl
          rw [this] at h5; exact h5
        have hcell : c0.cells = #[c0] := by
          rcases DataW.trod_slice Try.underlying32 h2 with ⟨e, _⟩ | ⟨_, _, _, _, _, _, _, e, _⟩
          · simp at e; rw [e]; rfl
          · simp at e; rw [e]; rfl
        obtain ⟨l, r, g1, g2, g3⟩ := int_argRow2 (v := c0) (d := y.1) (ps := y.2) ⟨n, by rw [hcell]; exact h2⟩ hcell
        exact ⟨(c0, l, r), h6, g1, g2, g3⟩)
    have hrow : ∀ k, k < len → (((a, (List.range len).map fun k => avOf (L.getD k default).1 (k + 1)) : Addr × List AV) :: L.map (·.2.2))[k + 1]? = some (L.getD k default).2.2 := fun k hk => by
      rw [List.getElem?_cons_succ, List.getElem?_map, List.getD_eq_getElem?_getD, List.getElem?_eq_getElem (by omega)]; rfl
    generalize hR : (((a, (List.range len).map fun k => avOf (L.getD k default).1 (k + 1)) : Addr × List AV) :: L.map (·.2.2)) = rows at *
    have hr0 : rows[0]? = some (a, (List.range len).map fun k => avOf (L.getD k default).1 (k + 1)) := by rw [← hR]; rfl
    have hrl : rows.length = len + 1 := by rw [← hR]; simp [hLl]
    refine ⟨L.map (·.2.1), rows, .slice 0 0 len, roHeap_rel fun i r hr => ?_, roSlice hr0 hl, ⟨⟨(List.range len).map fun k => avOf (L.getD k default).1 (k + 1), by simp [hLl], ?_, fun k hk => ?_⟩⟩, fun r hr => ?_, .inr ⟨elems, rest, hd, by simp [hLl]; omega⟩⟩
    · match i with
      | 0 =>
        rw [hr0] at hr; cases hr
        intro j c hj
        have hjl : j < len := by have := (List.getElem?_eq_some_iff.1 hj).1; simpa using this
        rw [List.getElem?_map, List.getElem?_range hjl] at hj
        cases hj
        exact ⟨_, (hL j hjl).1, ((hL j hjl).2.2.1 rows (j + 1) (hrow j hjl)).1⟩
      | i + 1 =>
        have hil : i < len := by have := (List.getElem?_eq_some_iff.1 hr).1; omega
        rw [hrow i hil] at hr; cases hr
        exact (hL i hil).2.1 _ _
    · have hml : (L.map (·.2.1)).length = len := by simp [hLl]
      rw [hml]
      refine .row 0 0 len ((List.range len).map fun k => avOf (L.getD k default).1 (k + 1)) _ (by show 0 < rows.length; omega) (cells_of_ro (roHeap_get hr0)) (fits_of_ro (roHeap_get hr0)) (by simp) ?_
      rw [List.drop_zero, List.take_of_length_le (by simp)]
    · have hkl : k < len := by simpa [hLl] using hk
      have := ((hL k hkl).2.2.1 rows (k + 1) (hrow k hkl)).2
      rw [List.getD_eq_getElem?_getD, List.getElem?_map, List.getElem?_range hkl, List.getD_eq_getElem?_getD, List.getElem?_map, List.getElem?_eq_getElem (by omega)]
      rw [List.getD_eq_getElem?_getD, List.getElem?_eq_getElem (by omega)] at this
      simp only [Option.map_some, Option.getD_some]
      rw [List.getD_eq_getElem?_getD, List.getElem?_eq_getElem (by omega)]
      exact this
    · obtain ⟨x, hx, rfl⟩ := List.mem_map.1 hr
      obtain ⟨k, hk⟩ := List.mem_iff_getElem?.1 hx
      have hkl := (List.getElem?_eq_some_iff.1 hk).1
      have := (hL k (by omega)).2.2.2
      rw [List.getD_eq_getElem?_getD, hk] at this
      exact this
theorem con_arg {cs : Array Value} {d : DataW H} {ps : List MemPlace} (h : DataW.Trod enc Try.prog w base spare held 40 (.agg cs) d ps) (hs : cs.size = Try.prog.cellsOf 40) : ∃ c : Con, cs = #[.int .i64 c.a, .int .i64 c.b, .int .i64 c.w] ∧ c.I64 := by
  obtain ⟨fuel, hf⟩ := h
  obtain ⟨c, h1, h2⟩ := open_con fuel cs.toList (d, ps) (by simpa using hs) hf
  refine ⟨c, ?_, h2⟩
  cases cs; simp at h1; rw [h1]
end
end Go.Proofs.Ytkkbnbgdhpkfhaa.A
