/- From a row's arguments to the walk's heap. Conditions: none. -/
import Derived.Test.YteeakkakkjhgoaaA16
import Derived.WalkKit
import Derived.ProofKit
import Derived.OpenShut
import Derived.ShutString
import Derived.ChangeOld
import Derived.Below
import Derived.SizedLaws
set_option linter.unusedVariables false
set_option linter.unusedSimpArgs false
namespace Go.Proofs.Yteeakkakkjhgoaa.A
open Go Go.RowKit Go.ChangeShapes Go.WideShapes Go.ChangeAt

section
variable {H : Type} {enc : TypeId × Value → H} {P : Program} {w : World} {base : Nat} {spare : Nat → Bool} {held : Bool}
theorem trod_slice_cells {t e : TypeId} (ht : P.underlying t = some (.slice e)) {v : Value} {d : DataW H} {ps : List MemPlace} (h : DataW.Trod enc P w base spare held t v d ps) (hv : v.cells = #[v]) :
    (v = .slice none 0 0) ∨
    ∃ (a : Addr) (len cap : Nat) (elems rest : List (DataW H)) (n : Nat) (ys : List (DataW H × List MemPlace)), v = .slice (some a) len cap ∧ len ≤ cap ∧ d = .slice elems rest ∧ elems.length = len ∧ ys.length = len ∧
      ∀ m, m < len → ∃ cs, w.cells? base (a.add (m * P.cellsOf e)) (P.cellsOf e) = some cs ∧ ∃ y, ys[m]? = some y ∧ DataW.trod enc P w base spare held n e cs = some y := by
  obtain ⟨fuel, hf⟩ := h
  rw [hv] at hf
  rcases DataW.trod_slice ht hf with ⟨hc, _⟩ | ⟨a, len, cap, elems, rest, n, _, hc, hx, _, hl, _, hlen, hel, _, _⟩
  · left; simpa using hc
  · right
    refine ⟨a, len, cap, elems.map (·.1), rest.map (·.1), n, elems, by simpa using hc, hl, by simpa using (Prod.mk.inj hx).1, by simpa using hlen, hlen, fun m hm => ?_⟩
    have h1 := hel m hm
    rw [List.getElem?_eq_getElem (by omega), Option.bind_eq_some_iff] at h1
    obtain ⟨cs, h2, h3⟩ := h1
    exact ⟨cs, h2, elems[m], List.getElem?_eq_getElem (by omega), h3⟩
/-- Elements that the reader tells: a list of them. -/
theorem rows_list {α : Type} [Inhabited α] {E : α → List Value → Prop} {len : Nat} {R : Nat → List Value → Prop} (h : ∀ m, m < len → ∃ cs, R m cs ∧ ∃ c : α, E c cs) :
    ∃ l : List α, l.length = len ∧ ∀ m, m < len → ∃ cs, R m cs ∧ E (l.getD m default) cs := by
  induction len with
  | zero => exact ⟨[], rfl, fun m hm => by omega⟩
  | succ n ih =>
    obtain ⟨l, hl, hr⟩ := ih fun m hm => h m (by omega)
    obtain ⟨cs, h1, c, h2⟩ := h n (by omega)
    refine ⟨l ++ [c], by simp [hl], fun m hm => ?_⟩
    by_cases hmn : m < n
    · obtain ⟨cs', g1, g2⟩ := hr m hmn
      refine ⟨cs', g1, ?_⟩
      rw [List.getD_eq_getElem?_getD, List.getElem?_append_left (by omega), ← List.getD_eq_getElem?_getD]
      exact g2
    · have : m = n := by omega
      subst this
      refine ⟨cs, h1, ?_⟩
      rw [List.getD_eq_getElem?_getD, List.getElem?_append_right (by omega), hl]
      simpa using h2
/-- A slice of plain elements. -/
theorem open_plain {α : Type} [Inhabited α] {E : α → List Value → Prop} {t e : TypeId} (ht : P.underlying t = some (.slice e)) (hE : ∀ n cs y, cs.length = P.cellsOf e → DataW.trod enc P w base spare held n e cs = some y → ∃ c, E c cs)
    {v : Value} {d : DataW H} {ps : List MemPlace} (h : DataW.Trod enc P w base spare held t v d ps) (hv : v.cells = #[v]) :
    (v = .slice none 0 0) ∨ ∃ (a : Addr) (len cap : Nat) (l : List α) (elems rest : List (DataW H)), v = .slice (some a) len cap ∧ len ≤ cap ∧ l.length = len ∧ d = .slice elems rest ∧ elems.length = len ∧
      ∀ m, m < len → ∃ cs : List Value, (cs.length = P.cellsOf e ∧ ∀ j, j < P.cellsOf e → w.cell? (a.add (m * P.cellsOf e + j)) = cs[j]?) ∧ E (l.getD m default) cs := by
  rcases trod_slice_cells ht h hv with h0 | ⟨a, len, cap, elems, rest, n, ys, hv', hl, hd, hel, hys, hc⟩
  · exact .inl h0
  · right
    obtain ⟨l, hll, hlr⟩ := rows_list (R := fun m cs => cs.length = P.cellsOf e ∧ ∀ j, j < P.cellsOf e → w.cell? (a.add (m * P.cellsOf e + j)) = cs[j]?) (E := E) (len := len) (fun m hm => by
      obtain ⟨cs, h1, y, _, h2⟩ := hc m hm
      obtain ⟨_, h3, h4⟩ := World.cells?_some h1
      refine ⟨cs, ⟨h3, fun j hj => ?_⟩, hE n cs y h3 h2⟩
      rw [← add_add]; exact h4 j hj)
    exact ⟨a, len, cap, l, elems, rest, hv', hl, hll, hd, hel, hlr⟩
end

/-- Rows that are read only. -/
def roHeap (rows : List (Addr × List AV)) : AHeap := ⟨fun i => match rows[i]? with | some r => .ro r.2 | none => .dead, rows.length⟩
def roAddr (rows : List (Addr × List AV)) (i : Nat) : RI := match rows[i]? with | some r => ⟨r.1, 0, 0⟩ | none => ⟨⟨0, 0, none⟩, 0, 0⟩
theorem roHeap_next (rows : List (Addr × List AV)) : (roHeap rows).next = rows.length := rfl
theorem roHeap_get {rows : List (Addr × List AV)} {i : Nat} {r : Addr × List AV} (h : rows[i]? = some r) : (roHeap rows).get i = .ro r.2 := by simp [roHeap, h]
theorem ro_not_owned (rows : List (Addr × List AV)) (i : Nat) : ((roHeap rows).get i).owned = false := by
  simp only [roHeap]; split <;> rfl
theorem roHeap_rel {rows : List (Addr × List AV)} {w : World} (h : ∀ (i : Nat) (r : Addr × List AV), rows[i]? = some r → ∀ (j : Nat) (c : AV), r.2[j]? = some c → ∃ v, w.cell? (r.1.add j) = some v ∧ VR rows.length (roAddr rows) c v) :
    HRel (roAddr rows) (roHeap rows) w where
  row := fun i hi => by
    obtain ⟨r, hr⟩ : ∃ r, rows[i]? = some r := ⟨_, List.getElem?_eq_getElem hi⟩
    rw [roHeap_get hr]
    refine ⟨by simp [roAddr, hr], fun j c hj => ?_⟩
    have : (roAddr rows i).addr = r.1 := by simp [roAddr, hr]
    rw [this]
    exact h i r hr j c hj
  apart := fun i j _ _ _ ho _ => by rw [ro_not_owned] at ho; cases ho
  inside := fun i _ ho => by rw [ro_not_owned] at ho; cases ho
theorem ro_calls {P : Program} {f : FuncId} {args : List AV} {rows : List (Addr × List AV)} {R : AV → AHeap → Prop} (h : ACalls P f args (roHeap rows) R) {w : World} {cargs : Array Value}
    (hv : VRs rows.length (roAddr rows) args cargs.toList) (hh : HRel (roAddr rows) (roHeap rows) w) (hR : ∀ v σ', R v σ' → v = .bool true) :
    Calls P f cargs w fun e w' => e = .returned (.bool true) ∧ Below w.heap.size w w' :=
  (h.2 _ w cargs hv hh).mono fun e w' ⟨cv, v, ρ', σ', h1, h2, h3, h4, h5, h6, h7⟩ => by
    have hv' := hR _ _ h7
    subst hv'
    cases h2
    refine ⟨h1, h4.os, h4.tape, h4.output, h4.size, fun k hk => h4.same k hk ?_⟩
    rintro ⟨i, _, ho, _⟩
    rw [ro_not_owned] at ho; cases ho

/-- A slice's own value over its row. -/
theorem roSlice {rows : List (Addr × List AV)} {i len cap : Nat} {a : Addr} {cs : List AV} (h : rows[i]? = some (a, cs)) (hl : len ≤ cap) : VR rows.length (roAddr rows) (.slice i 0 len) (.slice (some a) len cap) := by
  refine .slice i 0 len cap a (List.getElem?_eq_some_iff.1 h).1 hl (.inr ⟨?_, fun hz => ?_⟩)
  · have e : (roAddr rows i).addr = a := by simp [roAddr, h]
    rw [e]; unfold Addr.add; rfl
  · exact absurd (by simp [roAddr, h]) hz
/-- A plain row's cells. -/
theorem roCells {α : Type} [Inhabited α] {en : α → List AV} {s n : Nat} {ρ : Nat → RI} {l : List α} {a : Addr} {w : World} (hs : ∀ x, (en x).length = s) (h0 : 0 < s)
    (h : ∀ m, m < l.length → ∃ cs : List Value, (cs.length = s ∧ ∀ j, j < s → w.cell? (a.add (m * s + j)) = cs[j]?) ∧ VRs n ρ (en (l.getD m default)) cs) :
    ∀ (j : Nat) (c : AV), (l.flatMap en)[j]? = some c → ∃ v, w.cell? (a.add j) = some v ∧ VR n ρ c v := by
  intro j c hj
  have hlt : j < l.length * s := by rw [← flatMap_length hs]; exact (List.getElem?_eq_some_iff.1 hj).1
  have hm : j / s < l.length := Nat.div_lt_of_lt_mul (by rw [Nat.mul_comm]; exact hlt)
  obtain ⟨cs, ⟨hcl, hcell⟩, hvr⟩ := h (j / s) hm
  have hjs : j = j / s * s + j % s := by rw [Nat.mul_comm]; exact (Nat.div_add_mod j s).symm
  have hr : j % s < s := Nat.mod_lt _ h0
  have h1 := flatMap_drop_take hs l (j / s) 1 (by omega)
  have h2 : (l.drop (j / s)).take 1 = [l[j / s]] := by rw [List.drop_eq_getElem_cons hm, List.take_succ_cons, List.take_zero]
  rw [h2, Nat.one_mul] at h1
  simp only [List.flatMap_cons, List.flatMap_nil, List.append_nil] at h1
  have h3 : (List.take s (List.drop (j / s * s) (l.flatMap en)))[j % s]? = (en l[j / s])[j % s]? := by rw [h1]
  rw [List.getElem?_take, if_pos hr, List.getElem?_drop, ← hjs, hj] at h3
  rw [List.getD_eq_getElem?_getD, List.getElem?_eq_getElem hm] at hvr
  obtain ⟨v, hv1, hv2⟩ := hvr.get (j % s) c h3.symm
  refine ⟨v, ?_, hv2⟩
  rw [hjs, hcell _ hr]; exact hv1
theorem roRow {α : Type} {en : α → List AV} {s : Nat} {rows : List (Addr × List AV)} {i : Nat} {a : Addr} {l : List α} (hs : ∀ x, (en x).length = s) (h : rows[i]? = some (a, l.flatMap en)) : RowOf en s (roHeap rows) (.slice i 0 l.length) l := by
  have hlen := flatMap_length hs l
  refine .row i 0 _ _ _ (List.getElem?_eq_some_iff.1 h).1 (cells_of_ro (roHeap_get h)) (fits_of_ro (roHeap_get h)) (by simp [hlen]) ?_
  rw [List.drop_zero, List.take_of_length_le (by simp [hlen])]
/-- An argument that is a slice of plain elements. -/
structure ArgRow {α : Type} (w : World) (v : Value) (en : α → List AV) (s : Nat) (l : List α) (r : Addr × List AV) : Prop where
  cells : ∀ n ρ, ∀ (j : Nat) (c : AV), r.2[j]? = some c → ∃ v', w.cell? (r.1.add j) = some v' ∧ VR n ρ c v'
  val : ∀ (rows : List (Addr × List AV)) (i : Nat), rows[i]? = some r → ∃ av, VR rows.length (roAddr rows) av v ∧ RowOf en s (roHeap rows) av l
theorem argRow {H : Type} {enc : TypeId × Value → H} {P : Program} {w : World} {base : Nat} {spare : Nat → Bool} {held : Bool} {α : Type} [Inhabited α] {E : α → List Value → Prop} {en : α → List AV} {s : Nat} {t e : TypeId}
    (ht : P.underlying t = some (.slice e)) (hc : P.cellsOf e = s) (h0 : 0 < s) (hs : ∀ x, (en x).length = s) (hEn : ∀ (c : α) (cs : List Value) n ρ, E c cs → VRs n ρ (en c) cs)
    (hE : ∀ n cs y, cs.length = P.cellsOf e → DataW.trod enc P w base spare held n e cs = some y → ∃ c, E c cs)
    {v : Value} {d : DataW H} {ps : List MemPlace} (h : DataW.Trod enc P w base spare held t v d ps) (hv : v.cells = #[v]) :
    ∃ (l : List α) (r : Addr × List AV), ArgRow w v en s l r ∧ (∀ c ∈ l, ∃ cs, E c cs) ∧ (l = [] ∨ ∃ elems rest, d = .slice elems rest ∧ l.length = elems.length) := by
  rcases open_plain ht hE h hv with rfl | ⟨a, len, cap, l, elems, rest, rfl, hcap, hll, hd, hel, hcell⟩
  · exact ⟨[], (⟨0, 0, none⟩, []), ⟨fun n ρ j c hj => by simp at hj, fun rows i hi => ⟨.nils, .nils, .nils⟩⟩, fun c hc => by simp at hc, .inl rfl⟩
  · subst hc
    refine ⟨l, (a, l.flatMap en), ⟨fun n ρ => ?_, fun rows i hi => ⟨.slice i 0 len, roSlice hi hcap, hll ▸ roRow hs hi⟩⟩, fun c hc => ?_, .inr ⟨elems, rest, hd, by omega⟩⟩
    · refine roCells hs h0 fun m hm => ?_
      obtain ⟨cs, h1, h2⟩ := hcell m (by omega)
      exact ⟨cs, h1, hEn _ _ n ρ h2⟩
    · obtain ⟨m, hm⟩ := List.mem_iff_getElem?.1 hc
      have hlt := (List.getElem?_eq_some_iff.1 hm).1
      obtain ⟨cs, _, h2⟩ := hcell m (by omega)
      rw [List.getD_eq_getElem?_getD, hm] at h2
      exact ⟨cs, h2⟩
end Go.Proofs.Yteeakkakkjhgoaa.A
