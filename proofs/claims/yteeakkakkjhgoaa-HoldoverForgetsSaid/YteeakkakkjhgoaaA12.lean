/- Slices that read as lists. Conditions: none. -/
import Derived.Test.YteeakkakkjhgoaaA11
set_option linter.unusedVariables false
set_option linter.unusedSimpArgs false
namespace Go.Proofs.Yteeakkakkjhgoaa.A
open Go Go.RowKit

/-- A slice value with n elements of s cells each: the cells. -/
inductive IsRow (σ : AHeap) (s : Nat) : AV → Nat → List AV → Prop where
  | nils : IsRow σ s .nils 0 []
  | slice0 : IsRow σ s .slice0 0 []
  | row (i off n : Nat) (cs cells : List AV) (hi : i < σ.next) (hc : σ.cells i = some cs) (hf : σ.fits i s = true) (hle : off + n * s ≤ cs.length) (he : cells = (cs.drop off).take (n * s)) : IsRow σ s (.slice i off n) n cells
/-- The row (its number) that a slice lies in. -/
def AV.ref : AV → Option Nat
  | .slice i _ _ => some i
  | .ptr i _ => some i
  | _ => none
def rowPtr : AV → Nat → Nat → AV
  | .slice i off _, k, s => .ptr i (off + k * s)
  | _, _, _ => .junk

def RowOf {α : Type} (enc : α → List AV) (s : Nat) (σ : AHeap) (v : AV) (l : List α) : Prop := IsRow σ s v l.length (l.flatMap enc)

theorem flatMap_drop_take {α : Type} {enc : α → List AV} {s : Nat} (hs : ∀ x, (enc x).length = s) : ∀ (l : List α) (k n : Nat), k + n ≤ l.length → ((l.flatMap enc).drop (k * s)).take (n * s) = ((l.drop k).take n).flatMap enc
  | l, 0, 0, _ => by simp
  | [], k, n, h => by simp at h; simp [h]
  | x :: l, 0, n + 1, h => by
    have ih := flatMap_drop_take hs l 0 n (by simp at h; omega)
    simp only [Nat.zero_mul, List.drop_zero] at ih ⊢
    simp only [List.flatMap_cons, List.take_succ_cons]
    rw [List.take_append, List.take_of_length_le (by rw [hs, Nat.add_mul]; omega), hs]
    congr 1
    rw [show (n + 1) * s - s = n * s by rw [Nat.add_mul]; omega]
    exact ih
  | x :: l, k + 1, n, h => by
    have ih := flatMap_drop_take hs l k n (by simp at h; omega)
    simp only [List.flatMap_cons, List.drop_succ_cons]
    rw [List.drop_append, List.drop_of_length_le (by rw [hs, Nat.add_mul]; omega), hs, List.nil_append]
    rw [show (k + 1) * s - s = k * s by rw [Nat.add_mul]; omega]
    exact ih
theorem flatMap_length {α : Type} {enc : α → List AV} {s : Nat} (hs : ∀ x, (enc x).length = s) (l : List α) : (l.flatMap enc).length = l.length * s := by
  induction l with
  | nil => simp
  | cons x l ih => simp only [List.flatMap_cons, List.length_append, List.length_cons, hs, ih, Nat.add_mul]; omega

section
variable {P : Program} {σ : AHeap} {α : Type} {enc : α → List AV} {s : Nat} {v : AV} {l : List α} {t e : TypeId}
theorem RowOf.len (h : RowOf enc s σ v l) (ht : tk P t = .slice e) : alen P t v = some (.int .i64 (l.length : Int)) := by
  unfold RowOf at h
  generalize hn : l.length = n at h
  generalize l.flatMap enc = cells at h
  cases h <;> simp [alen, ht, alenS]
theorem RowOf.iaddr (h : RowOf enc s σ v l) (ht : tk P t = .slice e) (he : sz P e = some s) (m : Nat) (hm : m < l.length) : aiaddr P t v (.int .i64 (m : Int)) = some (rowPtr v m s) := by
  unfold RowOf at h
  generalize hn : l.length = n at h hm
  generalize l.flatMap enc = cells at h
  cases h
  · omega
  · omega
  · simp [aiaddr, ht, he, hm, rowPtr]
theorem RowOf.iaddrZ (h : RowOf enc s σ v l) (ht : tk P t = .slice e) (he : sz P e = some s) (m : Int) (h0 : 0 ≤ m) (hm : m < (l.length : Int)) : aiaddr P t v (.int .i64 m) = some (rowPtr v m.toNat s) := by
  obtain ⟨k, rfl⟩ := Int.eq_ofNat_of_zero_le h0
  exact h.iaddr ht he k (by omega)
theorem RowOf.loadAgg [Inhabited α] (h : RowOf enc s σ v l) (hs : ∀ x, (enc x).length = s) (his : (tk P e).is = true) (hagg : (tk P e).agg = true) (he : sz P e = some s) (m : Nat) (hm : m < l.length) :
    aload P e (rowPtr v m s) σ = some (.agg (enc (l.getD m default))) := by
  unfold RowOf at h
  generalize hn : l.length = n at h
  generalize hcells : l.flatMap enc = cells at h
  cases h
  · omega
  · omega
  · rename_i i off cs hi hc hf hle hce
    have hlt : (m + 1) * s ≤ n * s := Nat.mul_le_mul_right _ (by omega)
    rw [Nat.add_mul] at hlt
    simp only [aload, rowPtr, hc, his, hagg, he, if_true]
    rw [if_pos (by omega)]
    congr 2
    have h1 := flatMap_drop_take hs l m 1 (by omega)
    rw [hcells, hce] at h1
    rw [List.drop_take, List.take_take, List.drop_drop, Nat.one_mul] at h1
    rw [show min s (n * s - m * s) = s by omega] at h1
    rw [h1, List.getD_eq_getElem?_getD, List.getElem?_eq_getElem (by omega)]
    have h2 : (l.drop m).take 1 = [l[m]] := by
      rw [List.drop_eq_getElem_cons (by omega), List.take_succ_cons, List.take_zero]
    rw [h2]; simp
theorem RowOf.load1 [Inhabited α] {en : α → AV} (h : RowOf (fun x => [en x]) 1 σ v l) (his : (tk P e).is = true) (hagg : (tk P e).agg = false) (m : Nat) (hm : m < l.length) :
    aload P e (rowPtr v m 1) σ = some (en (l.getD m default)) := by
  unfold RowOf at h
  generalize hn : l.length = n at h
  generalize hcells : l.flatMap (fun x => [en x]) = cells at h
  cases h
  · omega
  · omega
  · rename_i i off cs hi hc hf hle hce
    simp only [Nat.mul_one] at hle hce
    simp only [aload, rowPtr, hc, his, hagg, if_true, Nat.mul_one]
    rw [if_neg (by simp)]
    have hmap : l.flatMap (fun x => [en x]) = l.map en := by
      clear hn hcells hm
      induction l with
      | nil => rfl
      | cons x l ih => simp [ih]
    rw [hmap] at hcells
    have h1 : cells[m]? = some (en (l.getD m default)) := by
      rw [← hcells, List.getElem?_map, List.getElem?_eq_getElem (by omega), List.getD_eq_getElem?_getD, List.getElem?_eq_getElem (by omega)]; rfl
    rw [hce, List.getElem?_take, if_pos (by omega), List.getElem?_drop] at h1
    exact h1
theorem IsRow.alloc {n : Nat} {cells : List AV} (h : IsRow σ s v n cells) (o : AObj) : IsRow (σ.alloc o) s v n cells := by
  cases h
  · exact .nils
  · exact .slice0
  · rename_i i off cs hi hc hf hle hce
    refine .row i off n cs cells (by simp [AHeap.next_alloc]; omega) (by rw [cells_alloc_ne (by omega)]; exact hc) ?_ hle hce
    unfold AHeap.fits at hf ⊢
    rw [get_alloc_ne (by omega)]; exact hf
theorem IsRow.set {n : Nat} {cells : List AV} (h : IsRow σ s v n cells) {j : Nat} (hj : v.ref ≠ some j) (o : AObj) : IsRow (σ.set j o) s v n cells := by
  cases h
  · exact .nils
  · exact .slice0
  · rename_i i off cs hi hc hf hle hce
    have hne : i ≠ j := fun he => hj (by simp [AV.ref, he])
    refine .row i off n cs cells (by simpa [AHeap.next_set] using hi) (by rw [cells_set_ne hne]; exact hc) ?_ hle hce
    unfold AHeap.fits at hf ⊢
    rw [get_set_ne hne]; exact hf
theorem IsRow.freeze {n : Nat} {cells : List AV} (h : IsRow σ s v n cells) : IsRow σ.freeze s v n cells := by
  cases h
  · exact .nils
  · exact .slice0
  · rename_i i off cs hi hc hf hle hce
    refine .row i off n cs cells hi (by rw [cells_freeze]; exact hc) ?_ hle hce
    unfold AHeap.fits at hf ⊢
    show (match (σ.get i).freeze with | .ro _ => true | .own z _ => z == s | _ => false) = true
    cases hq : σ.get i <;> rw [hq] at hf <;> first | rfl | (cases hf)
theorem RowOf.alloc (h : RowOf enc s σ v l) (o : AObj) : RowOf enc s (σ.alloc o) v l := IsRow.alloc h o
theorem RowOf.set (h : RowOf enc s σ v l) {j : Nat} (hj : v.ref ≠ some j) (o : AObj) : RowOf enc s (σ.set j o) v l := IsRow.set h hj o
theorem RowOf.freeze (h : RowOf enc s σ v l) : RowOf enc s σ.freeze v l := IsRow.freeze h
theorem IsRow.rl {n : Nat} {cells : List AV} (h : IsRow σ s v n cells) : v.rl σ.next = true := by
  cases h <;> simp [AV.rl, *]
theorem RowOf.rl (h : RowOf enc s σ v l) : v.rl σ.next = true := IsRow.rl h
end

abbrev IntRow (σ : AHeap) (v : AV) (l : List Int) : Prop := RowOf (fun x => [AV.int .i64 x]) 1 σ v l
theorem ints_flat (l : List Int) : l.flatMap (fun x => [AV.int .i64 x]) = ints l := by
  unfold ints
  induction l with
  | nil => rfl
  | cons x l ih => simp [ih]
theorem IntRow.of_own {σ : AHeap} {i : Nat} {l : List Int} (hi : i < σ.next) (h : σ.get i = .own 1 (ints l)) : IntRow σ (.slice i 0 l.length) l := by
  refine .row i 0 _ (ints l) _ hi (cells_of_own h) (fits_of_own h) (by simp [ints_length]) ?_
  rw [ints_flat]; simp [ints_length]
  exact (List.take_of_length_le (by simp [ints_length])).symm

theorem slots {α : Type} {l : List α} [Inhabited α] {k : Nat} (h : k < l.length) : ∃ c, l[k]? = some c ∧ l.getD k default = c ∧ c ∈ l ∧ l.drop k = c :: l.drop (k + 1) :=
  ⟨l[k], by simp, by rw [List.getD_eq_getElem?_getD, List.getElem?_eq_getElem h]; rfl, List.getElem_mem h, List.drop_eq_getElem_cons h⟩
/-! ### Ends of rounds -/
def only (keep : List Nat) (t : T) : T := fun s => if keep.contains s = true then t s else .junk
theorem TSub.only {n : Nat} {t : T} {keep : List Nat} (h : ∀ s, s ∈ keep → (t s).rl n = true) : TSub n t (only keep t) := fun s => by
  unfold A.only
  split
  · rename_i hs; exact .inr ⟨rfl, h s (by simpa using hs)⟩
  · exact .inl rfl
theorem again_by {n0 : Nat} {I : Nat → T → AHeap → Prop} {m : Nat} {d : Hd I} {t' : T} {σ' : AHeap} (keep : List Nat) (σ : AHeap) (m' : Nat) (hlt : m' < m) (hn : n0 ≤ σ.next) (hs : Sub σ' σ) (hrl : ∀ s, s ∈ keep → (t' s).rl σ.next = true)
    (hI : I m' (only keep t') σ) : Again n0 I m d t' σ' := ⟨m', only keep t', σ, hlt, hn, hs, TSub.only hrl, hI⟩
theorem Sub.alloc {σ' σ : AHeap} (h : Sub σ' σ) (o : AObj) : Sub (σ'.alloc o) σ :=
  ⟨by have := h.le; simp only [AHeap.next_alloc]; omega, fun i hi => by
    rw [get_alloc_ne (by have := h.le; omega)]; exact h.rows i hi, h.wf⟩
theorem Sub.set {σ' σ : AHeap} (h : Sub σ' σ) {j : Nat} (hj : σ.next ≤ j) (o : AObj) : Sub (σ'.set j o) σ :=
  ⟨h.le, fun i hi => by rw [get_set_ne (by omega)]; exact h.rows i hi, h.wf⟩
def AObj.rl (n : Nat) : AObj → Bool
  | .ro cs | .own _ cs => AV.rls n cs
  | .amap m => m.all fun x => x.1.rl n && x.2.rl n
  | .dead => true
theorem WF_iff {σ : AHeap} : σ.WF ↔ ∀ i, i < σ.next → (σ.get i).rl σ.next = true := by
  constructor
  · intro h i hi
    have := h i hi
    cases ho : σ.get i <;> rw [ho] at this <;> first | rfl | exact this
  · intro h i hi
    have := h i hi
    cases ho : σ.get i <;> rw [ho] at this <;> first | trivial | exact this
theorem AObj.rl_mono {n n' : Nat} (h : n ≤ n') {o : AObj} (ho : o.rl n = true) : o.rl n' = true := by
  cases o with
  | dead => rfl
  | ro cs => exact AV.rls_mono h cs ho
  | own s cs => exact AV.rls_mono h cs ho
  | amap m =>
    simp only [AObj.rl, List.all_eq_true, Bool.and_eq_true] at ho ⊢
    exact fun x hx => ⟨AV.rl_mono h _ (ho x hx).1, AV.rl_mono h _ (ho x hx).2⟩
theorem WF.alloc {σ : AHeap} (h : σ.WF) {o : AObj} (ho : o.rl (σ.next + 1) = true) : (σ.alloc o).WF := by
  rw [WF_iff] at h ⊢
  intro i hi
  simp only [AHeap.next_alloc] at hi ⊢
  rw [AHeap.get_alloc]
  split
  · exact ho
  · exact AObj.rl_mono (by omega) (h i (by omega))
theorem WF.set {σ : AHeap} (h : σ.WF) (j : Nat) {o : AObj} (ho : o.rl σ.next = true) : (σ.set j o).WF := by
  rw [WF_iff] at h ⊢
  intro i hi
  simp only [AHeap.next_set] at hi ⊢
  rw [AHeap.get_set]
  split
  · exact ho
  · exact h i hi
theorem rl_ints {n s : Nat} {l : List Int} : (AObj.own s (ints l)).rl n = true := ints_rls
theorem rl_dead {n : Nat} : AObj.dead.rl n = true := rfl
theorem Sub.alloc2 {σ' σ : AHeap} (h : Sub σ' σ) (hn : σ'.next = σ.next) {o : AObj} (ho : o.rl (σ.next + 1) = true) : Sub (σ'.alloc o) (σ.alloc o) :=
  ⟨by simp only [AHeap.next_alloc]; omega, fun i hi => by
    rw [AHeap.get_alloc, AHeap.get_alloc, hn]
    split
    · exact .inr rfl
    · exact h.rows i (by simp only [AHeap.next_alloc] at hi; omega), WF.alloc h.wf ho⟩
theorem Sub.allocD {σ' σ : AHeap} (h : Sub σ' σ) (hn : σ'.next = σ.next) (o : AObj) : Sub (σ'.alloc o) (σ.alloc .dead) :=
  ⟨by simp only [AHeap.next_alloc]; omega, fun i hi => by
    rw [AHeap.get_alloc, AHeap.get_alloc, hn]
    split
    · exact .inl rfl
    · exact h.rows i (by simp only [AHeap.next_alloc] at hi; omega), WF.alloc h.wf rl_dead⟩
theorem Sub.set2 {σ' σ : AHeap} (h : Sub σ' σ) (j : Nat) {o : AObj} (ho : o.rl σ.next = true) : Sub (σ'.set j o) (σ.set j o) :=
  ⟨h.le, fun i hi => by
    rw [AHeap.get_set, AHeap.get_set]
    split
    · exact .inr rfl
    · exact h.rows i hi, WF.set h.wf j ho⟩
theorem Sub.kill {σ' σ : AHeap} (h : Sub σ' σ) (j : Nat) : Sub σ' (σ.set j .dead) :=
  ⟨h.le, fun i hi => by
    rw [AHeap.get_set]
    split
    · exact .inl rfl
    · exact h.rows i hi, WF.set h.wf j rl_dead⟩
theorem set_same {σ : AHeap} {i : Nat} {o : AObj} (h : σ.get i = o) : σ.set i o = σ := by
  unfold AHeap.set
  cases σ
  congr 1
  funext j; simp only [upd]
  split
  · rename_i hj; subst hj; exact h.symm
  · rfl
theorem rl_int {n : Nat} {k : IntKind} {z : Int} : (AV.int k z).rl n = true := rfl
theorem rl_bool {n : Nat} {b : Bool} : (AV.bool b).rl n = true := rfl

end Go.Proofs.Yteeakkakkjhgoaa.A
