/- Abstract values and heaps, and how they stand for the model's. Conditions: none. -/
import Derived.Tactics
import Derived.Below
import Derived.StillTail
import Derived.Deep.Quiet
import Derived.Laws.Cells
import Derived.Laws.AppendOwn
set_option linter.unusedVariables false
set_option linter.unusedSimpArgs false
namespace Go.Proofs.Yteeakkakkjhgoaa.A
open Go Go.RowKit

inductive AV where
  | int (k : IntKind) (n : Int)
  | bool (b : Bool)
  | str (s : ByteArray)
  | ptr (i off : Nat)
  | nilp
  | slice (i off len : Nat)
  | slice0
  | nils
  | map (i : Nat)
  | nilm
  | fn (f : Fn) (cap : List AV)
  | nilf
  | nili
  | agg (l : List AV)
  | tup (l : List AV)
  | junk
  deriving Inhabited

/-- A value of one cell. -/
def AV.sc : AV → Bool
  | .agg _ | .tup _ | .junk => false
  | _ => true

structure RI where
  addr : Addr
  sz : Nat
  ext : Nat

mutual
inductive VR (n : Nat) (ρ : Nat → RI) : AV → Value → Prop where
  | int (k : IntKind) (z : Int) : VR n ρ (.int k z) (.int k z)
  | bool (b : Bool) : VR n ρ (.bool b) (.bool b)
  | str (s : ByteArray) : VR n ρ (.str s) (.string s)
  | ptr (i off : Nat) (h : i < n) : VR n ρ (.ptr i off) (.pointer (some ((ρ i).addr.add off)))
  | nilp : VR n ρ .nilp (.pointer none)
  | slice (i off len c : Nat) (x : Addr) (h : i < n) (hl : len ≤ c)
      (hx : c = 0 ∨ (x = (ρ i).addr.add off ∧ ((ρ i).sz ≠ 0 → off + c * (ρ i).sz ≤ (ρ i).ext))) : VR n ρ (.slice i off len) (.slice (some x) len c)
  | slice0 (x : Addr) : VR n ρ .slice0 (.slice (some x) 0 0)
  | nils : VR n ρ .nils (.slice none 0 0)
  | map (i : Nat) (h : i < n) : VR n ρ (.map i) (.map (some (ρ i).addr.block))
  | nilm : VR n ρ .nilm (.map none)
  | fn (f : Fn) (l : List AV) (cs : Array Value) (h : VRs n ρ l cs.toList) : VR n ρ (.fn f l) (.func f #[] cs)
  | nilf : VR n ρ .nilf .nilFunc
  | nili : VR n ρ .nili .nilIface
  | agg (l : List AV) (cs : Array Value) (h : VRs n ρ l cs.toList) : VR n ρ (.agg l) (.agg cs)
  | tup (l : List AV) (cs : Array Value) (h : VRs n ρ l cs.toList) : VR n ρ (.tup l) (.tuple cs)
  | junk (v : Value) : VR n ρ .junk v
inductive VRs (n : Nat) (ρ : Nat → RI) : List AV → List Value → Prop where
  | nil : VRs n ρ [] []
  | cons (a : AV) (v : Value) (l : List AV) (vs : List Value) (h : VR n ρ a v) (t : VRs n ρ l vs) : VRs n ρ (a :: l) (v :: vs)
end

mutual
/-- All rows that are named lie below n. -/
def AV.rl (n : Nat) : AV → Bool
  | .ptr i _ | .slice i _ _ | .map i => decide (i < n)
  | .fn _ l | .agg l | .tup l => AV.rls n l
  | _ => true
def AV.rls (n : Nat) : List AV → Bool
  | [] => true
  | a :: l => AV.rl n a && AV.rls n l
end

theorem AV.rls_all (n : Nat) (l : List AV) : AV.rls n l = l.all (AV.rl n) := by
  induction l with
  | nil => rfl
  | cons a l ih => simp [AV.rls, ih]

section
variable {n : Nat} {ρ : Nat → RI}
mutual
theorem VR.mono {n' : Nat} {ρ' : Nat → RI} {a : AV} {v : Value} (h : VR n ρ a v) (hr : a.rl n' = true) (he : ∀ i, i < n' → ρ' i = ρ i) : VR n' ρ' a v := by
  match a, v, h with
  | _, _, .int k z => exact .int k z
  | _, _, .bool b => exact .bool b
  | _, _, .str s => exact .str s
  | _, _, .ptr i off h => 
    simp only [AV.rl, decide_eq_true_eq] at hr
    rw [← he i hr]; exact .ptr i off hr
  | _, _, .nilp => exact .nilp
  | _, _, .slice i off len c x h hl hx =>
    simp only [AV.rl, decide_eq_true_eq] at hr
    refine .slice i off len c x hr hl ?_
    rw [he i hr]; exact hx
  | _, _, .slice0 x => exact .slice0 x
  | _, _, .nils => exact .nils
  | _, _, .map i h =>
    simp only [AV.rl, decide_eq_true_eq] at hr
    rw [← he i hr]; exact .map i hr
  | _, _, .nilm => exact .nilm
  | _, _, .fn f l cs h => exact .fn f l cs (VRs.mono h (by simpa [AV.rl] using hr) he)
  | _, _, .nilf => exact .nilf
  | _, _, .nili => exact .nili
  | _, _, .agg l cs h => exact .agg l cs (VRs.mono h (by simpa [AV.rl] using hr) he)
  | _, _, .tup l cs h => exact .tup l cs (VRs.mono h (by simpa [AV.rl] using hr) he)
  | _, _, .junk v => exact .junk v
theorem VRs.mono {n' : Nat} {ρ' : Nat → RI} {a : List AV} {v : List Value} (h : VRs n ρ a v) (hr : AV.rls n' a = true) (he : ∀ i, i < n' → ρ' i = ρ i) : VRs n' ρ' a v := by
  match a, v, h with
  | _, _, .nil => exact .nil
  | _, _, .cons a v l vs h t =>
    simp only [AV.rls, Bool.and_eq_true] at hr
    exact .cons a v l vs (VR.mono h hr.1 he) (VRs.mono t hr.2 he)
end
mutual
theorem VR.rl {a : AV} {v : Value} (h : VR n ρ a v) : a.rl n = true := by
  match a, v, h with
  | _, _, .int k z => rfl
  | _, _, .bool b => rfl
  | _, _, .str s => rfl
  | _, _, .ptr i off h => simpa [AV.rl] using h
  | _, _, .nilp => rfl
  | _, _, .slice i off len c x h hl hx => simpa [AV.rl] using h
  | _, _, .slice0 x => rfl
  | _, _, .nils => rfl
  | _, _, .map i h => simpa [AV.rl] using h
  | _, _, .nilm => rfl
  | _, _, .fn f l cs h => simpa [AV.rl] using VRs.rls h
  | _, _, .nilf => rfl
  | _, _, .nili => rfl
  | _, _, .agg l cs h => simpa [AV.rl] using VRs.rls h
  | _, _, .tup l cs h => simpa [AV.rl] using VRs.rls h
  | _, _, .junk v => rfl
theorem VRs.rls {a : List AV} {v : List Value} (h : VRs n ρ a v) : AV.rls n a = true := by
  match a, v, h with
  | _, _, .nil => rfl
  | _, _, .cons a v l vs h t => simp [AV.rls, VR.rl h, VRs.rls t]
end
mutual
theorem AV.rl_mono {n' : Nat} (h : n ≤ n') (a : AV) (hr : a.rl n = true) : a.rl n' = true := by
  match a with
  | .ptr i _ | .slice i _ _ | .map i => simp only [AV.rl, decide_eq_true_eq] at *; omega
  | .fn _ l | .agg l | .tup l => simp only [AV.rl] at *; exact AV.rls_mono h l hr
  | .int .. | .bool _ | .str _ | .nilp | .slice0 | .nils | .nilm | .nilf | .nili | .junk => rfl
theorem AV.rls_mono {n' : Nat} (h : n ≤ n') (a : List AV) (hr : AV.rls n a = true) : AV.rls n' a = true := by
  match a with
  | [] => rfl
  | a :: l =>
    simp only [AV.rls, Bool.and_eq_true] at *
    exact ⟨AV.rl_mono h a hr.1, AV.rls_mono h l hr.2⟩
end
theorem VR.up {n' : Nat} {ρ' : Nat → RI} {a : AV} {v : Value} (h : VR n ρ a v) (hn : n ≤ n') (he : ∀ i, i < n → ρ' i = ρ i) : VR n' ρ' a v := by
  have h1 : VR n ρ' a v := h.mono h.rl he
  exact h1.mono (AV.rl_mono hn a h.rl) (fun i _ => rfl)
theorem VRs.up {n' : Nat} {ρ' : Nat → RI} {a : List AV} {v : List Value} (h : VRs n ρ a v) (hn : n ≤ n') (he : ∀ i, i < n → ρ' i = ρ i) : VRs n' ρ' a v := by
  have h1 : VRs n ρ' a v := h.mono h.rls he
  exact h1.mono (AV.rls_mono hn a h.rls) (fun i _ => rfl)
theorem VRs.length {a : List AV} {v : List Value} (h : VRs n ρ a v) : a.length = v.length := by
  match a, v, h with
  | _, _, .nil => rfl
  | _, _, .cons a v l vs h t => simp [VRs.length t]
theorem VRs.get {a : List AV} {v : List Value} (h : VRs n ρ a v) : ∀ (j : Nat) (x : AV), a[j]? = some x → ∃ y, v[j]? = some y ∧ VR n ρ x y := by
  match a, v, h with
  | _, _, .nil => intro j x hx; simp at hx
  | _, _, .cons a v l vs h t =>
    intro j x hx
    cases j with
    | zero => simp at hx; subst hx; exact ⟨v, by simp, h⟩
    | succ j => simp at hx; simpa using VRs.get t j x hx
theorem VRs.of_get : ∀ {a : List AV} {v : List Value}, a.length = v.length → (∀ (j : Nat) (x : AV) (y : Value), a[j]? = some x → v[j]? = some y → VR n ρ x y) → VRs n ρ a v
  | [], [], _, _ => .nil
  | [], _ :: _, h, _ => by simp at h
  | _ :: _, [], h, _ => by simp at h
  | a :: l, v :: vs, h, H => .cons _ _ _ _ (H 0 a v (by simp) (by simp)) (VRs.of_get (by simpa using h) (fun j x y hx hy => H (j + 1) x y (by simpa using hx) (by simpa using hy)))
theorem VRs.append {a b : List AV} {u v : List Value} (h : VRs n ρ a u) (k : VRs n ρ b v) : VRs n ρ (a ++ b) (u ++ v) := by
  match a, u, h with
  | _, _, .nil => exact k
  | _, _, .cons a v l vs h t => exact .cons _ _ _ _ h (VRs.append t k)
theorem VR.one {a : AV} {v : Value} (h : VR n ρ a v) (hs : a.sc = true) : v.oneCell' = true := by
  cases h <;> first | rfl | (simp [AV.sc] at hs)
theorem VR.cells_one {a : AV} {v : Value} (h : VR n ρ a v) (hs : a.sc = true) : v.cells = #[v] := by
  cases h <;> first | rfl | (simp [AV.sc] at hs)
end

/-! ### The heap -/
inductive AObj where
  | dead
  | ro (cells : List AV)
  | own (sz : Nat) (cells : List AV)
  | amap (es : List (AV × AV))
  deriving Inhabited

def AObj.owned : AObj → Bool
  | .own _ _ | .amap _ => true
  | _ => false
def AObj.live : AObj → Bool
  | .dead => false
  | .ro [] => false
  | _ => true
theorem AObj.live_of_owned {o : AObj} (h : o.owned = true) : o.live = true := by cases o <;> simp_all [AObj.owned, AObj.live]

structure AHeap where
  get : Nat → AObj
  next : Nat

def upd {α : Type} (f : Nat → α) (i : Nat) (v : α) : Nat → α := fun j => if j = i then v else f j
theorem upd_same {α : Type} (f : Nat → α) (i : Nat) (v : α) : upd f i v i = v := by simp [upd]
theorem upd_ne {α : Type} (f : Nat → α) {i j : Nat} (v : α) (h : j ≠ i) : upd f i v j = f j := by simp [upd, h]

def AHeap.alloc (σ : AHeap) (o : AObj) : AHeap := ⟨upd σ.get σ.next o, σ.next + 1⟩
def AHeap.set (σ : AHeap) (i : Nat) (o : AObj) : AHeap := ⟨upd σ.get i o, σ.next⟩
theorem AHeap.next_alloc (σ : AHeap) (o : AObj) : (σ.alloc o).next = σ.next + 1 := rfl
theorem AHeap.next_set (σ : AHeap) (i : Nat) (o : AObj) : (σ.set i o).next = σ.next := rfl
theorem AHeap.get_alloc (σ : AHeap) (o : AObj) (i : Nat) : (σ.alloc o).get i = if i = σ.next then o else σ.get i := rfl
theorem AHeap.get_set (σ : AHeap) (o : AObj) (i j : Nat) : (σ.set i o).get j = if j = i then o else σ.get j := rfl

/-- The map: what the entries hold, in their order. -/
def MRel (n : Nat) (ρ : Nat → RI) (m : List (AV × AV)) (es : Array MapEntry) : Prop :=
  m.length = es.size ∧ ∀ (j : Nat) (x : AV × AV), m[j]? = some x → ∃ e : MapEntry, es[j]? = some e ∧ VR n ρ x.1 e.key ∧ VR n ρ x.2 e.val

/-- When the entries came: ahead of the clock, no two at once. -/
def Born (es : Array MapEntry) (clock : Nat) : Prop := (∀ x ∈ es.toList, x.born < clock) ∧ (es.toList.map (·.born)).Nodup
theorem born_empty (clock : Nat) : Born #[] clock := ⟨by simp, by simp⟩
theorem born_push {es : Array MapEntry} {clock : Nat} (h : Born es clock) {e : MapEntry} (he : e.born = clock) : Born (es.push e) (clock + 1) := by
  obtain ⟨h1, h2⟩ := h
  refine ⟨fun x hx => ?_, ?_⟩
  · simp only [Array.toList_push, List.mem_append, List.mem_singleton] at hx
    rcases hx with hx | rfl
    · exact Nat.lt_succ_of_lt (h1 x hx)
    · omega
  · simp only [Array.toList_push, List.map_append, List.map_cons, List.map_nil]
    refine List.nodup_append.2 ⟨h2, by simp, fun a ha b hb => ?_⟩
    simp only [List.mem_singleton] at hb
    obtain ⟨x, hx, rfl⟩ := List.mem_map.1 ha
    have := h1 x hx
    omega
theorem born_modify {es : Array MapEntry} {clock : Nat} (h : Born es clock) (i : Nat) (f : MapEntry → MapEntry) (hb : ∀ e, (f e).born = e.born) : Born (es.modify i f) clock := by
  have hborn : (es.modify i f).toList.map (·.born) = es.toList.map (·.born) := by
    apply List.ext_getElem?
    intro j
    simp only [List.getElem?_map, Array.getElem?_toList, Array.getElem?_modify]
    by_cases hij : i = j
    · subst hij
      cases he : es[i]? with
      | none => simp
      | some e => simp [hb e]
    · simp [hij]
  obtain ⟨h1, h2⟩ := h
  refine ⟨fun x hx => ?_, hborn ▸ h2⟩
  have : x.born ∈ (es.modify i f).toList.map (·.born) := List.mem_map.2 ⟨x, hx, rfl⟩
  rw [hborn] at this
  obtain ⟨y, hy, e⟩ := List.mem_map.1 this
  rw [← e]; exact h1 y hy
theorem born_erase {es : Array MapEntry} {clock : Nat} (h : Born es clock) (i : Nat) : Born (es.toList.eraseIdx i).toArray clock := by
  have hs : (es.toList.eraseIdx i).Sublist es.toList := List.eraseIdx_sublist _ _
  obtain ⟨h1, h2⟩ := h
  exact ⟨fun x hx => h1 x (hs.subset (by simpa using hx)), by simpa using (hs.map _).nodup h2⟩

def ORel (n : Nat) (ρ : Nat → RI) (r : RI) (o : AObj) (w : World) : Prop :=
  match o with
  | .dead => True
  | .ro cells => r.sz = 0 ∧ ∀ (j : Nat) (c : AV), cells[j]? = some c → ∃ v, w.cell? (r.addr.add j) = some v ∧ VR n ρ c v
  | .own sz cells => sz = r.sz ∧ 0 < sz ∧ (∃ b, r.addr = ⟨b, 0, none⟩) ∧ ∃ cs t, w.heap[r.addr.block]? = some (.cells cs t (0, 0)) ∧ cs.size = r.ext ∧
      ∀ (j : Nat) (c : AV), cells[j]? = some c → ∃ v, cs[j]? = some v ∧ VR n ρ c v
  | .amap m => (∃ b, r.addr = ⟨b, 0, none⟩) ∧ ∃ es clock, w.heap[r.addr.block]? = some (.map es clock) ∧ MRel n ρ m es ∧ Born es clock

structure HRel (ρ : Nat → RI) (σ : AHeap) (w : World) : Prop where
  row : ∀ i, i < σ.next → ORel σ.next ρ (ρ i) (σ.get i) w
  apart : ∀ i j, i < σ.next → j < σ.next → i ≠ j → (σ.get i).owned = true → (σ.get j).live = true → (ρ i).addr.block ≠ (ρ j).addr.block
  inside : ∀ i, i < σ.next → (σ.get i).owned = true → (ρ i).addr.block < w.heap.size

def Owned (ρ : Nat → RI) (σ : AHeap) (b : Nat) : Prop := ∃ i, i < σ.next ∧ (σ.get i).owned = true ∧ (ρ i).addr.block = b

/-- What a piece of code may have done to memory. -/
structure Fr (ρ : Nat → RI) (σ : AHeap) (w : World) (ρ' : Nat → RI) (σ' : AHeap) (w' : World) : Prop where
  os : w'.os = w.os
  tape : w'.tape = w.tape
  output : w'.output = w.output
  size : w.heap.size ≤ w'.heap.size
  same : ∀ b, b < w.heap.size → ¬ Owned ρ σ b → w'.heap[b]? = w.heap[b]?
  own : ∀ b, Owned ρ' σ' b → Owned ρ σ b ∨ w.heap.size ≤ b

theorem Fr.refl (ρ : Nat → RI) (σ : AHeap) (w : World) : Fr ρ σ w ρ σ w := ⟨rfl, rfl, rfl, Nat.le_refl _, fun _ _ _ => rfl, fun _ h => .inl h⟩
theorem Fr.trans {ρ ρ1 ρ2 : Nat → RI} {σ σ1 σ2 : AHeap} {w w1 w2 : World} (h : Fr ρ σ w ρ1 σ1 w1) (k : Fr ρ1 σ1 w1 ρ2 σ2 w2) : Fr ρ σ w ρ2 σ2 w2 where
  os := k.os.trans h.os
  tape := k.tape.trans h.tape
  output := k.output.trans h.output
  size := Nat.le_trans h.size k.size
  same := fun b hb hn => by
    have hn1 : ¬ Owned ρ1 σ1 b := fun ho => by
      rcases h.own b ho with h1 | h1
      · exact hn h1
      · omega
    rw [k.same b (Nat.lt_of_lt_of_le hb h.size) hn1, h.same b hb hn]
  own := fun b ho => by
    rcases k.own b ho with h1 | h1
    · exact h.own b h1
    · right; have := h.size; omega

/-- Rows name rows that are there. -/
def AHeap.WF (σ : AHeap) : Prop := ∀ i, i < σ.next → match σ.get i with
  | .ro cs | .own _ cs => AV.rls σ.next cs = true
  | .amap m => m.all (fun x => x.1.rl σ.next && x.2.rl σ.next) = true
  | .dead => True

theorem rls_of_get {n : Nat} {l : List AV} (h : ∀ (j : Nat) (c : AV), l[j]? = some c → c.rl n = true) : AV.rls n l = true := by
  rw [AV.rls_all, List.all_eq_true]
  intro x hx
  obtain ⟨j, hj⟩ := List.mem_iff_getElem?.1 hx
  exact h j x hj

theorem HRel.wf {ρ : Nat → RI} {σ : AHeap} {w : World} (h : HRel ρ σ w) : σ.WF := by
  intro i hi
  have h1 := h.row i hi
  cases ho : σ.get i with
  | dead => trivial
  | ro cs => 
    rw [ho] at h1
    exact rls_of_get fun j c hj => let ⟨_, _, hv⟩ := h1.2 j c hj; hv.rl
  | own sz cs =>
    rw [ho] at h1
    obtain ⟨_, _, _, _, _, _, _, h2⟩ := h1
    exact rls_of_get fun j c hj => let ⟨_, _, hv⟩ := h2 j c hj; hv.rl
  | amap m =>
    rw [ho] at h1
    obtain ⟨_, es, clock, _, ⟨_, h2⟩, _⟩ := h1
    show m.all _ = true
    rw [List.all_eq_true]
    intro x hx
    obtain ⟨j, hj⟩ := List.mem_iff_getElem?.1 hx
    obtain ⟨e, _, h3, h4⟩ := h2 j x hj
    simp [h3.rl, h4.rl]

/-! ### Slots -/
abbrev T := Nat → AV
structure TRel (n : Nat) (ρ : Nat → RI) (N : Nat) (t : T) (a : Act) : Prop where
  defers : a.defers = []
  size : a.tmps.size = N
  slot : ∀ i, VR n ρ (t i) (a.tmps.getD i undef)

theorem TRel.up {n n' : Nat} {ρ ρ' : Nat → RI} {N : Nat} {t : T} {a : Act} (h : TRel n ρ N t a) (hn : n ≤ n') (he : ∀ i, i < n → ρ' i = ρ i) : TRel n' ρ' N t a :=
  ⟨h.defers, h.size, fun i => (h.slot i).up hn he⟩

theorem TRel.put {n : Nat} {ρ : Nat → RI} {N : Nat} {t : T} {a : Act} (h : TRel n ρ N t a) {d : Nat} (hd : d < N) {v : AV} {cv : Value} (hv : VR n ρ v cv) : TRel n ρ N (upd t d v) (a.put (some d) cv) := by
  refine ⟨h.defers, by simp [Act.put, h.size], fun i => ?_⟩
  simp only [Act.put, upd]
  by_cases hi : i = d
  · subst hi
    simp [Array.getD_eq_getD_getElem?, h.size, hd]
    exact hv
  · rw [if_neg hi]
    have h1 := h.slot i
    have : (a.tmps.setIfInBounds d cv).getD i undef = a.tmps.getD i undef := by
      simp [Array.getD_eq_getD_getElem?, Array.getElem?_setIfInBounds, Ne.symm hi]
    rw [this]; exact h1

/-- How constants stand. -/
def ofV : Value → AV
  | .int k n => .int k n
  | .bool b => .bool b
  | .string s => .str s
  | .pointer none => .nilp
  | .slice none 0 0 => .nils
  | .map none => .nilm
  | .nilFunc => .nilf
  | .nilIface => .nili
  | _ => .junk
theorem VR_ofV (n : Nat) (ρ : Nat → RI) (v : Value) : VR n ρ (ofV v) v := by
  unfold ofV
  split <;> first | constructor | exact .junk _
def ofC : Value → AV
  | .agg cs => .agg (cs.toList.map ofV)
  | v => ofV v
theorem VRs_map_ofV (n : Nat) (ρ : Nat → RI) : ∀ l : List Value, VRs n ρ (l.map ofV) l
  | [] => .nil
  | v :: l => .cons _ _ _ _ (VR_ofV n ρ v) (VRs_map_ofV n ρ l)
theorem VR_ofC (n : Nat) (ρ : Nat → RI) (v : Value) : VR n ρ (ofC v) v := by
  unfold ofC
  split
  · exact .agg _ _ (VRs_map_ofV _ _ _)
  · exact VR_ofV _ _ _

def aev (t : T) : Operand → AV
  | .tmp i => t i
  | .const v => ofC v
  | .global _ => .junk
  | .func f => .fn (.func f) []
theorem TRel.ev {n : Nat} {ρ : Nat → RI} {N : Nat} {t : T} {a : Act} (h : TRel n ρ N t a) (x : Operand) : VR n ρ (aev t x) (a.eval x) := by
  cases x with
  | tmp i => exact h.slot i
  | const v => exact VR_ofC _ _ _
  | global g => exact .junk _
  | func f => exact .fn _ _ _ .nil

end Go.Proofs.Yteeakkakkjhgoaa.A
