/- All operations that leave memory alone, in one function; and how memory changes. Conditions: none. -/
import Derived.Test.YteeakkakkjhgoaaAM1
import Derived.Laws.CopyRow
import Derived.Laws.OwnMore
set_option linter.unusedVariables false
set_option linter.unusedSimpArgs false
namespace Go.Proofs.Yteeakkakkjhgoaa.A
open Go Go.RowKit

def apick (p : Bool) (a b : AV) : AV := if p = true then a else b

/-- The length of a slice, an array, a string, a map. -/
def alenX (P : Program) (t : TypeId) (x : AV) (σ : AHeap) : Option AV :=
  match tk P t with
  | .map _ _ => alenM P t x σ
  | _ => alen P t x
def astill (P : Program) (op : Op) (ev : Operand → AV) (σ : AHeap) : Option AV :=
  match op with
  | .move x | .assign x => some (ev x)
  | .pick c a b => match ev c with
    | .bool p => some (apick p (ev a) (ev b))
    | _ => none
  | .load ty a => aload P ty (ev a) σ
  | .binOp op ty x y _ => abin P op ty (ev x) (ev y)
  | .unOp op _ x => aun op (ev x)
  | .convert s d x => aconv P s d (ev x)
  | .fieldAddr s x f => afaddr P s (ev x) f
  | .field s x f => afield P s (ev x) f
  | .indexAddr s x ix => aiaddr P s (ev x) (ev ix)
  | .index s x ix => aindex P s (ev x) (ev ix)
  | .slice t x lo hi mx => aslice P t (ev x) (lo.map ev) (hi.map ev) (mx.map ev) σ
  | .lookup t x k ok => alook P t (ev x) (ev k) ok σ
  | .extract x i => match ev x with
    | .tup l => l[i]?
    | _ => none
  | .nilCheck x => match ev x with
    | .ptr i o => some (.ptr i o)
    | .fn (.func f) l => some (.fn (.func f) l)
    | _ => none
  | .makeFunc fn first cap => if first.toList.isEmpty then some (.fn fn (cap.toList.map ev)) else none
  | .build t parts => abuild P t (parts.toList.map fun p => (p.1, ev p.2))
  | .call c => match c.callee with
    | .builtin .len => match c.argTypes.toList, c.args.toList with
      | [t], [x] => alenX P t (ev x) σ
      | _, _ => none
    | .builtin .max => amaxmin true (c.args.toList.map ev)
    | .builtin .min => amaxmin false (c.args.toList.map ev)
    | _ => none
  | _ => none

theorem evs {n : Nat} {ρ : Nat → RI} {N : Nat} {t : T} {a : Act} (h : TRel n ρ N t a) : ∀ l : List Operand, VRs n ρ (l.map (aev t)) (l.map a.eval)
  | [] => .nil
  | x :: l => .cons _ _ _ _ (h.ev x) (evs h l)

def isPure : Op → Bool
  | .load .. | .store .. | .lookup .. => false
  | .call { callee := .builtin .len, .. } => false
  | _ => true
theorem still_sound0 {P : Program} {o : Oper} {t : T} {σ : AHeap} {v : AV} (h : astill P o.op (aev t) σ = some v) {ρ : Nat → RI} {N : Nat} {a : Act} {w : World} (ht : TRel σ.next ρ N t a) (hh : HRel ρ σ w) :
    ∃ cv, VR σ.next ρ v cv ∧ ∀ w', (isPure o.op = true ∨ Below w.heap.size w w') → (execOp a.eval o).run P w' = .ok (.value cv) w' := by
  obtain ⟨dst, op, type, pos, after, guard⟩ := o
  simp only [] at h
  unfold execOp
  cases op <;> simp only [astill] at h
  case move x => cases h; exact ⟨_, ht.ev x, fun w' _ => by simp⟩
  case assign x => cases h; exact ⟨_, ht.ev x, fun w' _ => by simp⟩
  case pick c x y =>
    have hc := ht.ev c
    split at h
    · rename_i p hp
      rw [hp] at hc
      cases h
      refine ⟨if p = true then a.eval x else a.eval y, ?_, fun w' _ => ?_⟩
      · unfold apick
        cases p
        · exact ht.ev y
        · exact ht.ev x
      · cases hc' : a.eval c with
        | bool b => rw [hc'] at hc; cases hc; simp [asBool, hc']
        | _ => rw [hc'] at hc; cases hc
    · cases h
  case load ty x =>
    obtain ⟨cv, h1, h2⟩ := load_sound (P := P) h hh (ht.ev x)
    exact ⟨cv, h1, fun w' hb => by
      rcases hb with hb | hb
      · simp [isPure] at hb
      · simp [h2 w' hb]⟩
  case lookup ty x k ok =>
    obtain ⟨cv, h1, h2⟩ := look_sound (P := P) h hh (ht.ev x) (ht.ev k)
    exact ⟨cv, h1, fun w' hb => by
      rcases hb with hb | hb
      · simp [isPure] at hb
      · simp [h2 w' hb]⟩
  case binOp op ty x y yt =>
    obtain ⟨cv, h1, h2⟩ := bin_sound (P := P) h (ht.ev x) (ht.ev y) x y
    exact ⟨cv, h1, fun w' _ => by simp [(h2 w').1, (h2 w').2]⟩
  case unOp op ty x =>
    obtain ⟨cv, h1, h2⟩ := un_sound (P := P) h (ht.ev x)
    exact ⟨cv, h1, fun w' _ => by simp [h2 w']⟩
  case convert s d x =>
    obtain ⟨cv, h1, h2⟩ := conv_sound (P := P) h (ht.ev x)
    exact ⟨cv, h1, fun w' _ => by simp [h2 w']⟩
  case fieldAddr s x f =>
    obtain ⟨cv, h1, h2⟩ := faddr_sound (P := P) h (ht.ev x)
    exact ⟨cv, h1, fun w' _ => by simp [h2 w']⟩
  case field s x f =>
    obtain ⟨cv, h1, h2⟩ := field_sound (P := P) h (ht.ev x)
    exact ⟨cv, h1, fun w' _ => by simp [h2 w']⟩
  case indexAddr s x f =>
    obtain ⟨cv, h1, h2⟩ := iaddr_sound (P := P) h (ht.ev x) (ht.ev f)
    exact ⟨cv, h1, fun w' _ => by simp [h2 w']⟩
  case index s x f =>
    obtain ⟨cv, h1, h2⟩ := index_sound (P := P) h (ht.ev x) (ht.ev f)
    exact ⟨cv, h1, fun w' _ => by simp [h2 w']⟩
  case slice s x lo hi mx =>
    obtain ⟨cv, h1, h2⟩ := slice_sound (P := P) h hh (ht.ev x) (ht.evo lo) (ht.evo hi) (ht.evo mx)
    exact ⟨cv, h1, fun w' _ => by simp [h2 w']⟩
  case extract x i =>
    have hx := ht.ev x
    split at h
    · rename_i l hl
      rw [hl] at hx
      cases hx' : a.eval x with
      | tuple vs =>
        rw [hx'] at hx; cases hx
        rename_i hvs
        obtain ⟨y, hy, hr⟩ := hvs.get _ _ h
        have hy' : vs[i]? = some y := by simpa using hy
        exact ⟨y, hr, fun w' _ => by simp [Instr.extract, hx', hy']⟩
      | _ => rw [hx'] at hx; cases hx
    · cases h
  case nilCheck x =>
    have hx := ht.ev x
    split at h
    · rename_i i o hl
      rw [hl] at hx
      cases h
      cases hx' : a.eval x with
      | pointer p =>
        rw [hx'] at hx
        cases p with
        | none => cases hx
        | some p => exact ⟨_, hx, fun w' _ => by simp [hx']⟩
      | _ => rw [hx'] at hx; cases hx
    · rename_i f l hl
      rw [hl] at hx
      cases h
      cases hx' : a.eval x with
      | func ff first cap =>
        rw [hx'] at hx
        cases hx
        exact ⟨_, .fn _ _ _ (by assumption), fun w' _ => by simp [hx']⟩
      | _ => rw [hx'] at hx; cases hx
    · cases h
  case makeFunc fn first cap =>
    split at h
    · rename_i hf
      cases h
      have hf' : first = #[] := by simpa using hf
      subst hf'
      refine ⟨.func fn #[] (cap.map a.eval), .fn _ _ _ (by have := evs ht cap.toList; simpa using this), fun w' _ => by simp [Instr.makeFunc]⟩
    · cases h
  case build ty parts =>
    obtain ⟨cv, h1, h2⟩ := build_sound (P := P) (cps := parts.map fun (i, x) => (i, a.eval x)) h (by have := VP.of ht parts.toList; simpa using this)
    exact ⟨cv, h1, fun w' _ => by simp [h2 w']⟩
  case call c =>
    obtain ⟨callee, args, argTypes⟩ := c
    simp only [] at h
    split at h
    · split at h
      · rename_i ty x ht1 ha1
        have ha : args = #[x] := by rw [← Array.toArray_toList (xs := args), ha1]
        have hT : argTypes = #[ty] := by rw [← Array.toArray_toList (xs := argTypes), ht1]
        subst ha hT
        unfold alenX at h
        split at h
        · obtain ⟨cv, h1, h2⟩ := lenM_sound (P := P) (ty := type) h hh (ht.ev x)
          refine ⟨cv, h1, fun w' hb => ?_⟩
          rcases hb with hb | hb
          · simp [isPure] at hb
          · simp [resolve, invoke, builtin, h2 w' hb]
        · obtain ⟨cv, h1, h2⟩ := len_sound (P := P) (ty := type) h (ht.ev x)
          refine ⟨cv, h1, fun w' _ => ?_⟩
          simp [resolve, invoke, builtin, h2 w']
      · cases h
    · have he := evs ht args.toList
      generalize hl : args.toList.map (aev t) = l at h he
      cases l with
      | nil => simp only [amaxmin] at h; cases h
      | cons b l =>
        simp only [amaxmin] at h
        generalize hcl : args.toList.map a.eval = cl at he
        cases he
        rename_i cb cl hb hl'
        obtain ⟨cv, h1, h2⟩ := mxs_sound (P := P) h hb hl'
        refine ⟨cv, h1, fun w' _ => ?_⟩
        simp only [if_true] at h2
        simp [resolve, invoke, builtin, Builtin.max_, hcl, h2 w']
    · have he := evs ht args.toList
      generalize hl : args.toList.map (aev t) = l at h he
      cases l with
      | nil => simp only [amaxmin] at h; cases h
      | cons b l =>
        simp only [amaxmin] at h
        generalize hcl : args.toList.map a.eval = cl at he
        cases he
        rename_i cb cl hb hl'
        obtain ⟨cv, h1, h2⟩ := mxs_sound (P := P) h hb hl'
        refine ⟨cv, h1, fun w' _ => ?_⟩
        simp only [Bool.false_eq_true, if_false] at h2
        simp [resolve, invoke, builtin, Builtin.min_, hcl, h2 w']
    · cases h
  all_goals (cases h)

theorem still_sound {P : Program} {o : Oper} {t : T} {σ : AHeap} {v : AV} (h : astill P o.op (aev t) σ = some v) {ρ : Nat → RI} {N : Nat} {a : Act} {w : World} (ht : TRel σ.next ρ N t a) (hh : HRel ρ σ w) :
    ∃ cv, VR σ.next ρ v cv ∧ ∀ w', Below w.heap.size w w' → (execOp a.eval o).run P w' = .ok (.value cv) w' := by
  obtain ⟨cv, h1, h2⟩ := still_sound0 h ht hh
  exact ⟨cv, h1, fun w' hb => h2 w' (.inr hb)⟩

/-! ### How memory changes -/
theorem ORel.up {n n' : Nat} {ρ ρ' : Nat → RI} {r : RI} {o : AObj} {w w' : World} (h : ORel n ρ r o w) (hn : n ≤ n') (he : ∀ i, i < n → ρ' i = ρ i)
    (hw : o.live = true → w'.heap[r.addr.block]? = w.heap[r.addr.block]?) : ORel n' ρ' r o w' := by
  cases o with
  | dead => trivial
  | ro cells =>
    refine ⟨h.1, fun j c hj => ?_⟩
    have hlive : (AObj.ro cells).live = true := by
      cases cells with
      | nil => simp at hj
      | cons _ _ => rfl
    obtain ⟨v, hv, hr⟩ := h.2 j c hj
    refine ⟨v, ?_, hr.up hn he⟩
    rw [World.cell?_of_block (w := w)]
    · exact hv
    · have hb : (r.addr.add j).block = r.addr.block := by unfold Addr.add; split <;> rfl
      rw [hb]; exact hw hlive
  | own sz cells =>
    obtain ⟨h1, h2, h3, cs, t, h4, h5, h6⟩ := h
    refine ⟨h1, h2, h3, cs, t, by rw [hw rfl]; exact h4, h5, fun j c hj => ?_⟩
    obtain ⟨v, hv, hr⟩ := h6 j c hj
    exact ⟨v, hv, hr.up hn he⟩
  | amap m =>
    obtain ⟨h1, es, clock, h2, ⟨h3, h5⟩, hbo⟩ := h
    refine ⟨h1, es, clock, by rw [hw rfl]; exact h2, ⟨h3, fun j x hj => ?_⟩, hbo⟩
    obtain ⟨e, he', hk, hv⟩ := h5 j x hj
    exact ⟨e, he', hk.up hn he, hv.up hn he⟩

theorem HRel.live_lt {ρ : Nat → RI} {σ : AHeap} {w : World} (h : HRel ρ σ w) {i : Nat} (hi : i < σ.next) (ho : (σ.get i).owned = true) : (ρ i).addr.block < w.heap.size := h.inside i hi ho

/-- A live row's block is there. -/
theorem ORel.block_lt {n : Nat} {ρ : Nat → RI} {r : RI} {o : AObj} {w : World} (h : ORel n ρ r o w) (hl : o.live = true) : r.addr.block < w.heap.size := by
  cases o with
  | dead => cases hl
  | ro cells =>
    cases cells with
    | nil => cases hl
    | cons c cs =>
      obtain ⟨v, hv, _⟩ := h.2 0 c (by simp)
      have hb : (r.addr.add 0).block = r.addr.block := by unfold Addr.add; split <;> rfl
      have := World.block_lt_of_cell? w _ hv
      rwa [hb] at this
  | own sz cells =>
    obtain ⟨h1, h2, h3, cs, t, h4, _⟩ := h
    exact (Array.getElem?_eq_some_iff.1 h4).1
  | amap m =>
    obtain ⟨h1, es, clock, h2, _⟩ := h
    exact (Array.getElem?_eq_some_iff.1 h2).1

end Go.Proofs.Yteeakkakkjhgoaa.A
