/- The executor: regions, calls, code; its soundness. Conditions: none. -/
import Derived.Test.YteeakkakkjhgoaaAM2
set_option linter.unusedVariables false
set_option linter.unusedSimpArgs false
namespace Go.Proofs.Yteeakkakkjhgoaa.A
open Go Go.RowKit

def aeff (P : Program) (op : Op) (ev : Operand → AV) (σ : AHeap) : Option (AV × AHeap) :=
  match op with
  | .alloc e => aalloc P e σ
  | .box e x => abox (ev x) σ
  | .buildSlice t len parts => abuildSlice P t len (parts.toList.map fun p => (p.1, ev p.2)) σ
  | .makeSlice t l c => amake P t (ev l) (ev c) σ
  | .store t a x => astore P t (ev a) (ev x) σ
  | .makeMap t none => amakeMap t σ
  | .mapUpdate t x k y => aupdate P t (ev x) (ev k) (ev y) σ
  | .call c => match c.callee with
    | .builtin .delete => match c.argTypes.toList, c.args.toList with
      | [t, _], [x, k] => adelete P t (ev x) (ev k) σ
      | _, _ => none
    | .builtin .append => match c.argTypes.toList, c.args.toList with
      | [t1, t2], [d, x] => if t1 = t2 then aappend P t1 (ev d) (ev x) σ else none
      | _, _ => none
    | .builtin .copy => match c.argTypes.toList, c.args.toList with
      | [t1, t2], [d, x] => acopy P t1 (ev d) (ev x) σ
      | _, _ => none
    | _ => none
  | _ => none

theorem eff_sound {P : Program} {o : Oper} {t : T} {σ σ' : AHeap} {v : AV} (h : aeff P o.op (aev t) σ = some (v, σ')) {ρ : Nat → RI} {N : Nat} {a : Act} {w : World} (ht : TRel σ.next ρ N t a) (hh : HRel ρ σ w) :
    EffOk ρ σ w v σ' ((execOp a.eval o).run P w) := by
  obtain ⟨dst, op, type, pos, after, guard⟩ := o
  simp only [] at h
  unfold execOp
  cases op <;> simp only [aeff] at h
  case alloc e =>
    have := alloc_sound (P := P) h hh (f := Next.value) rfl
    simpa using this
  case box e x =>
    have := box_sound (P := P) (e := e) h hh (ht.ev x)
    simpa using this
  case buildSlice ty len parts =>
    have := buildSlice_sound (P := P) (cps := parts.map fun (i, x) => (i, a.eval x)) h hh (by have := VP.of ht parts.toList; simpa using this)
    simpa using this
  case makeSlice ty l c =>
    have := make_sound (P := P) h hh (ht.ev l) (ht.ev c)
    simpa using this
  case store ty x y =>
    have := store_sound (P := P) h hh (ht.ev x) (ht.ev y)
    simpa using this
  case makeMap ty r =>
    cases r with
    | some r => cases h
    | none =>
      obtain ⟨w', ρ', cv, h1, h2⟩ := makeMap_sound (P := P) h hh
      exact ⟨.value cv, w', ρ', cv, by simp [h1], .inl rfl, h2⟩
  case mapUpdate ty x k y =>
    obtain ⟨rfl, w', h1, h2, h3, h4⟩ := update_sound (P := P) h hh (ht.ev x) (ht.ev k) (ht.ev y)
    exact ⟨.skip, w', ρ, undef, by simp [h1], .inr ⟨rfl, rfl⟩, VR.tup [] #[] .nil, h2, h3, by omega, fun _ _ => rfl⟩
  case call c =>
    obtain ⟨callee, args, argTypes⟩ := c
    simp only [] at h
    split at h
    · split at h
      · rename_i t1 t2 x k ht1 ha1
        have ha : args = #[x, k] := by rw [← Array.toArray_toList (xs := args), ha1]
        have hT : argTypes = #[t1, t2] := by rw [← Array.toArray_toList (xs := argTypes), ht1]
        subst ha hT
        obtain ⟨rfl, w', h1, h2, h3, h4⟩ := delete_sound (P := P) (kt0 := t2) (ty := type) h hh (ht.ev x) (ht.ev k)
        exact ⟨.value (.tuple #[]), w', ρ, .tuple #[], by simp [resolve, invoke, builtin, h1], .inl rfl, VR.tup [] #[] .nil, h2, h3, by omega, fun _ _ => rfl⟩
      · cases h
    · split at h
      · rename_i t1 t2 d x ht1 ha1
        have ha : args = #[d, x] := by rw [← Array.toArray_toList (xs := args), ha1]
        have hT : argTypes = #[t1, t2] := by rw [← Array.toArray_toList (xs := argTypes), ht1]
        subst ha hT
        split at h
        · rename_i he
          subst he
          have := append_sound (P := P) (ty := type) h hh (ht.ev d) (ht.ev x)
          simpa [resolve, invoke, builtin] using this
        · cases h
      · cases h
    · split at h
      · rename_i t1 t2 d x ht1 ha1
        have ha : args = #[d, x] := by rw [← Array.toArray_toList (xs := args), ha1]
        have hT : argTypes = #[t1, t2] := by rw [← Array.toArray_toList (xs := argTypes), ht1]
        subst ha hT
        have := copy_sound (P := P) (t2 := t2) (ty := type) h hh (ht.ev d) (ht.ev x)
        simpa [resolve, invoke, builtin] using this
      · cases h
    · cases h
  all_goals (cases h)

/-! ### Calls -/
def callable (P : Program) (f : FuncId) : Bool :=
  match P.funcs[f]? with
  | some fn => fn.name != "runtime.NumGoroutine" && fn.body.isSome
  | none => false
theorem run_callFunc {P : Program} {f : FuncId} (h : callable P f = true) (args : Array Value) (w : World) : (callFunc f args).run P w = .ok (.enter f args) w := by
  unfold callable at h
  split at h
  · rename_i fn hf
    simp only [Bool.and_eq_true, bne_iff_ne, ne_eq] at h
    obtain ⟨b, hb⟩ := Option.isSome_iff_exists.1 h.2
    simp [callFunc, hf, h.1, hb]
  · cases h

def ACalls (P : Program) (f : FuncId) (args : List AV) (σ : AHeap) (R : AV → AHeap → Prop) : Prop :=
  callable P f = true ∧ ∀ (ρ : Nat → RI) (w : World) (cargs : Array Value), VRs σ.next ρ args cargs.toList → HRel ρ σ w →
    Calls P f cargs w fun e w' => ∃ cv v ρ' σ', e = .returned cv ∧ VR σ'.next ρ' v cv ∧ HRel ρ' σ' w' ∧ Fr ρ σ w ρ' σ' w' ∧ σ.next ≤ σ'.next ∧ (∀ i, i < σ.next → ρ' i = ρ i) ∧ R v σ'
theorem ACalls.mono {P : Program} {f : FuncId} {args : List AV} {σ : AHeap} {R R' : AV → AHeap → Prop} (h : ACalls P f args σ R) (hr : ∀ v σ', R v σ' → R' v σ') : ACalls P f args σ R' :=
  ⟨h.1, fun ρ w cargs hv hh => (h.2 ρ w cargs hv hh).mono fun e w' ⟨cv, v, ρ', σ', h1, h2, h3, h4, h5, h6, h7⟩ => ⟨cv, v, ρ', σ', h1, h2, h3, h4, h5, h6, hr _ _ h7⟩⟩

/-- What a call is of, and with what. -/
def acall (op : Op) (ev : Operand → AV) : Option (FuncId × List AV) :=
  match op with
  | .call c => match c.callee with
    | .value x => match ev x with
      | .fn (.func f) caps => some (f, c.args.toList.map ev ++ caps)
      | _ => none
    | _ => none
  | _ => none
theorem call_sound {P : Program} {o : Oper} {t : T} {f : FuncId} {args : List AV} (h : acall o.op (aev t) = some (f, args)) (hc : callable P f = true) {n : Nat} {ρ : Nat → RI} {N : Nat} {a : Act} (ht : TRel n ρ N t a) :
    ∃ cargs : Array Value, VRs n ρ args cargs.toList ∧ ∀ w, (execOp a.eval o).run P w = .ok (.enter f cargs) w := by
  obtain ⟨dst, op, type, pos, after, guard⟩ := o
  simp only [] at h
  unfold execOp
  cases op <;> simp only [acall] at h <;> first | (cases h; done) | skip
  rename_i c
  obtain ⟨callee, as, argTypes⟩ := c
  simp only [] at h
  split at h
  · rename_i x
    split at h
    · rename_i f' caps hf
      cases h
      have hx := ht.ev x
      rw [hf] at hx
      cases hx' : a.eval x with
      | func ff first cap =>
        rw [hx'] at hx
        cases hx
        rename_i hcap
        refine ⟨as.map a.eval ++ cap, ?_, fun w => ?_⟩
        · have := (evs ht as.toList).append hcap
          simpa using this
        · simp [resolve, Deferred.ofValue, hx', invoke, run_callFunc hc]
      | _ => rw [hx'] at hx; cases hx
    · cases h
  · cases h

/-! ### Steps -/
abbrev Orc := FuncId → List AV → Option AV
/-- Values that stand for just one value. -/
def AV.det1 : AV → Bool
  | .int _ _ | .bool _ | .str _ => true
  | _ => false
def AV.det : AV → Bool
  | .tup l => l.all AV.det1
  | a => a.det1
def conc1 : AV → Value
  | .int k n => .int k n
  | .bool b => .bool b
  | .str s => .string s
  | _ => undef
def conc : AV → Value
  | .tup l => .tuple (l.map conc1).toArray
  | a => conc1 a
theorem det1_conc {n : Nat} {ρ : Nat → RI} {v : AV} {c : Value} (h : VR n ρ v c) (hd : v.det1 = true) : c = conc1 v := by
  cases h <;> first | rfl | (simp [AV.det1] at hd)
theorem dets_conc {n : Nat} {ρ : Nat → RI} : ∀ {l : List AV} {vs : List Value}, VRs n ρ l vs → l.all AV.det1 = true → vs = l.map conc1
  | [], _, h, _ => by cases h; rfl
  | a :: l, _, h, hd => by
    cases h
    rename_i v vs hv ht
    simp only [List.all_cons, Bool.and_eq_true] at hd
    rw [List.map_cons, det1_conc hv hd.1, dets_conc ht hd.2]
theorem det_conc {n : Nat} {ρ : Nat → RI} {v : AV} {c : Value} (h : VR n ρ v c) (hd : v.det = true) : c = conc v := by
  cases h <;> first
    | rfl
    | (simp [AV.det, AV.det1] at hd; done)
    | skip
  rename_i l cs h
  simp only [AV.det] at hd
  have := dets_conc h hd
  simp only [conc]
  rw [← this]

def AObj.freeze : AObj → AObj
  | .own _ cs => .ro cs
  | .ro cs => .ro cs
  | _ => .dead
def AHeap.freeze (σ : AHeap) : AHeap := ⟨fun i => (σ.get i).freeze, σ.next⟩
def frz (ρ : Nat → RI) : Nat → RI := fun i => { ρ i with sz := 0 }
mutual
theorem VR.frz {n : Nat} {ρ : Nat → RI} {a : AV} {v : Value} (h : VR n ρ a v) : VR n (frz ρ) a v := by
  match a, v, h with
  | _, _, .int k z => exact .int k z
  | _, _, .bool b => exact .bool b
  | _, _, .str s => exact .str s
  | _, _, .ptr i off h => exact .ptr (ρ := A.frz ρ) i off h
  | _, _, .nilp => exact .nilp
  | _, _, .slice i off len c x h hl hx =>
    refine .slice i off len c x h hl ?_
    rcases hx with h0 | h0
    · exact .inl h0
    · exact .inr ⟨h0.1, fun hz => absurd rfl hz⟩
  | _, _, .slice0 x => exact .slice0 x
  | _, _, .nils => exact .nils
  | _, _, .map i h => exact .map (ρ := A.frz ρ) i h
  | _, _, .nilm => exact .nilm
  | _, _, .fn f l cs h => exact .fn f l cs (VRs.frz h)
  | _, _, .nilf => exact .nilf
  | _, _, .nili => exact .nili
  | _, _, .agg l cs h => exact .agg l cs (VRs.frz h)
  | _, _, .tup l cs h => exact .tup l cs (VRs.frz h)
  | _, _, .junk v => exact .junk v
theorem VRs.frz {n : Nat} {ρ : Nat → RI} {a : List AV} {v : List Value} (h : VRs n ρ a v) : VRs n (frz ρ) a v := by
  match a, v, h with
  | _, _, .nil => exact .nil
  | _, _, .cons a v l vs h t => exact .cons a v l vs (VR.frz h) (VRs.frz t)
end
theorem freeze_not_owned (o : AObj) : o.freeze.owned = false := by cases o <;> rfl
theorem HRel.freeze {ρ : Nat → RI} {σ : AHeap} {w : World} (h : HRel ρ σ w) : HRel (frz ρ) σ.freeze w where
  row := fun i hi => by
    have hr := h.row i hi
    show ORel σ.next (frz ρ) (frz ρ i) (σ.get i).freeze w
    cases ho : σ.get i with
    | dead => trivial
    | amap m => trivial
    | ro cs =>
      rw [ho] at hr
      exact ⟨rfl, fun j c hj => let ⟨v, hv, hvr⟩ := hr.2 j c hj; ⟨v, hv, hvr.frz⟩⟩
    | own s cs =>
      rw [ho] at hr
      obtain ⟨_, _, ⟨b, hb⟩, cc, t, hblk, _, hc⟩ := hr
      refine ⟨rfl, fun j c hj => ?_⟩
      obtain ⟨v, hv, hvr⟩ := hc j c hj
      refine ⟨v, ?_, hvr.frz⟩
      show w.cell? ((ρ i).addr.add j) = some v
      rw [hb] at hblk ⊢
      rw [add_zero']
      simp [World.cell?, hblk, hv]
  apart := fun i j _ _ _ ho _ => by
    have : (σ.get i).freeze.owned = true := ho
    rw [freeze_not_owned] at this; cases this
  inside := fun i _ ho => by
    have : (σ.get i).freeze.owned = true := ho
    rw [freeze_not_owned] at this; cases this
theorem cells_freeze (σ : AHeap) (i : Nat) : σ.freeze.cells i = σ.cells i := by
  show (match (σ.get i).freeze with | .ro cs | .own _ cs => some cs | _ => none) = (match (σ.get i) with | .ro cs | .own _ cs => some cs | _ => none)
  cases σ.get i <;> rfl

structure SOK (P : Program) (S : Orc) : Prop where
  ok : ∀ f args v, S f args = some v → v.det = true ∧ ∀ σ, ACalls P f args σ fun v' σ' => v' = v ∧ σ' = σ

inductive Step where
  | val (v : AV)
  | eff (v : AV) (σ : AHeap)
  | ora (f : FuncId) (args : List AV) (v : AV)
  | call (f : FuncId) (args : List AV)
  | bad
def Step.ofV : Option AV → Step
  | some v => .val v
  | none => .bad
def Step.ofE : Option (AV × AHeap) → Step
  | some (v, σ) => .eff v σ
  | none => .bad
def Step.ofO (f : FuncId) (args : List AV) : Option AV → Step
  | some v => .ora f args v
  | none => .call f args
def Step.ofC (S : Orc) : Option (FuncId × List AV) → Step
  | some (f, args) => .ofO f args (S f args)
  | none => .bad
def astep (P : Program) (S : Orc) (op : Op) (ev : Operand → AV) (σ : AHeap) : Step :=
  match op with
  | .alloc _ | .box _ _ | .buildSlice _ _ _ | .makeSlice _ _ _ | .store _ _ _ | .makeMap _ _ | .mapUpdate _ _ _ _ => .ofE (aeff P op ev σ)
  | .call c => match c.callee with
    | .builtin .append | .builtin .copy | .builtin .delete => .ofE (aeff P op ev σ)
    | .builtin _ => .ofV (astill P op ev σ)
    | .value _ => .ofC S (acall op ev)
    | .invoke _ _ => .bad
  | _ => .ofV (astill P op ev σ)

inductive GV where
  | yes | no | test (p : Bool) | bad
def agv (b : Bool) : AV → GV
  | .bool p => .test (p == b)
  | .tup [] => .no
  | _ => .bad
def aguard (t : T) : Option (Tmp × Bool) → GV
  | none => .yes
  | some (d, b) => agv b (t d)
/-- An argument that the walk's simp does not look into: a later argument's type hangs on it. -/
structure Hd {α : Type} (a : α) : Type where
def AG (g : GV) (x y : Unit → Prop) (_ : Hd (x, y) := ⟨⟩) : Prop :=
  match g with
  | .yes => x ()
  | .no => y ()
  | .test p => if p = true then x () else y ()
  | .bad => False
def aput (t : T) (d : Option Tmp) (v : AV) : T :=
  match d with
  | some d => upd t d v
  | none => t
/-- A call that the walk stops at. -/
def ACK (P : Program) (f : FuncId) (args : List AV) (σ : AHeap) (F : AV → AHeap → Prop) (_ : Hd F := ⟨⟩) : Prop := ACalls P f args σ F
def ACQ (P : Program) (f : FuncId) (args : List AV) (σ : AHeap) (F : AV → Prop) (_ : Hd F := ⟨⟩) : Prop := ∃ v, v.det = true ∧ ACalls P f args σ.freeze (fun v' _ => v' = v) ∧ F v
def AS (P : Program) (σ : AHeap) (s : Step) (F : AV → AHeap → Prop) (_ : Hd F := ⟨⟩) : Prop :=
  match s with
  | .val v => F v σ
  | .eff v σ' => F v σ'
  | .ora _ _ v => F v σ
  | .call f args => ACK P f args σ F
  | .bad => False
def ASq (P : Program) (σ : AHeap) (s : Step) (F : AV → Prop) (_ : Hd F := ⟨⟩) : Prop :=
  match s with
  | .val v => F v
  | .ora _ _ v => F v
  | .call f args => ACQ P f args σ F
  | _ => False
def ASs (s : Step) (F : AV → Prop) (_ : Hd F := ⟨⟩) : Prop :=
  match s with
  | .val v => F v
  | _ => False
/-- An operation, its guard by the slot that is asked. -/
structure SO where
  dst : Option Tmp
  op : Op
  g : Option (Tmp × Bool)
def AR (P : Program) (S : Orc) : List SO → T → AHeap → (T → AHeap → Prop) → Prop
  | [], t, σ, K => K t σ
  | o :: rest, t, σ, K => AG (aguard t o.g) (fun _ => AS P σ (astep P S o.op (aev t) σ) fun v σ' => AR P S rest (aput t o.dst v) σ' K) (fun _ => AR P S rest (aput t o.dst (.tup [])) σ K)
def ARq (P : Program) (S : Orc) : List SO → T → AHeap → (T → AHeap → Prop) → Prop
  | [], t, σ, K => K t σ
  | o :: rest, t, σ, K => AG (aguard t o.g) (fun _ => ASq P σ (astep P S o.op (aev t) σ) fun v => ARq P S rest (aput t o.dst v) σ K) (fun _ => ARq P S rest (aput t o.dst (.tup [])) σ K)
def ARs (P : Program) (S : Orc) : List SO → T → AHeap → (T → AHeap → Prop) → Prop
  | [], t, σ, K => K t σ
  | o :: rest, t, σ, K => AG (aguard t o.g) (fun _ => ASs (astep P S o.op (aev t) σ) fun v => ARs P S rest (aput t o.dst v) σ K) (fun _ => ARs P S rest (aput t o.dst (.tup [])) σ K)

/-- An order of a region's operations, with its forks. -/
inductive RT where
  | done
  | take (o : SO) (r : RT)
  | step (o : SO) (r : RT)
  | both (a b : RT)
  | bad
def ART (P : Program) (S : Orc) : RT → T → AHeap → (T → AHeap → Prop) → Prop
  | .done, t, σ, K => K t σ
  | .take o r, t, σ, K => AG (aguard t o.g) (fun _ => ASs (astep P S o.op (aev t) σ) fun v => ART P S r (aput t o.dst v) σ K) (fun _ => ART P S r (aput t o.dst (.tup [])) σ K)
  | .step o r, t, σ, K => AG (aguard t o.g) (fun _ => AS P σ (astep P S o.op (aev t) σ) fun v σ' => ART P S r (aput t o.dst v) σ' K) (fun _ => ART P S r (aput t o.dst (.tup [])) σ K)
  | .both a b, t, σ, K => ART P S a t σ K ∧ ART P S b t σ K
  | .bad, _, _, _ => False

theorem step_val {P : Program} {S : Orc} {op : Op} {ev : Operand → AV} {σ : AHeap} {v : AV} (h : astep P S op ev σ = .val v) : astill P op ev σ = some v := by
  have hV : ∀ o : Option AV, Step.ofV o = .val v → o = some v := fun o h => by cases o <;> simp_all [Step.ofV]
  have hE : ∀ o : Option (AV × AHeap), Step.ofE o ≠ .val v := fun o h => by cases o <;> simp_all [Step.ofE]
  have hC : ∀ o, Step.ofC S o ≠ .val v := fun o h => by
    cases o with
    | none => simp [Step.ofC] at h
    | some p => obtain ⟨f, args⟩ := p; simp only [Step.ofC] at h; cases hq : S f args <;> rw [hq] at h <;> simp [Step.ofO] at h
  unfold astep at h
  split at h
  all_goals first
    | exact absurd h (hE _)
    | exact hV _ h
    | skip
  split at h
  all_goals first
    | exact absurd h (hE _)
    | exact hV _ h
    | exact absurd h (hC _)
    | cases h
theorem step_eff {P : Program} {S : Orc} {op : Op} {ev : Operand → AV} {σ σ' : AHeap} {v : AV} (h : astep P S op ev σ = .eff v σ') : aeff P op ev σ = some (v, σ') := by
  have hV : ∀ o : Option AV, Step.ofV o ≠ .eff v σ' := fun o h => by cases o <;> simp_all [Step.ofV]
  have hE : ∀ o : Option (AV × AHeap), Step.ofE o = .eff v σ' → o = some (v, σ') := fun o h => by
    cases o with
    | none => simp [Step.ofE] at h
    | some p => obtain ⟨x, y⟩ := p; simp only [Step.ofE, Step.eff.injEq] at h; rw [h.1, h.2]
  have hC : ∀ o, Step.ofC S o ≠ .eff v σ' := fun o h => by
    cases o with
    | none => simp [Step.ofC] at h
    | some p => obtain ⟨f, args⟩ := p; simp only [Step.ofC] at h; cases hq : S f args <;> rw [hq] at h <;> simp [Step.ofO] at h
  unfold astep at h
  split at h
  all_goals first
    | exact hE _ h
    | exact absurd h (hV _)
    | skip
  split at h
  all_goals first
    | exact hE _ h
    | exact absurd h (hV _)
    | exact absurd h (hC _)
    | cases h
theorem step_call {P : Program} {S : Orc} {op : Op} {ev : Operand → AV} {σ : AHeap} {f : FuncId} {args : List AV} (h : astep P S op ev σ = .call f args ∨ ∃ v, astep P S op ev σ = .ora f args v) : acall op ev = some (f, args) ∧ (∀ v, astep P S op ev σ = .ora f args v → S f args = some v) := by
  have hV : ∀ o : Option AV, (Step.ofV o = .call f args ∨ ∃ v, Step.ofV o = .ora f args v) → False := fun o h => by cases o <;> simp_all [Step.ofV]
  have hE : ∀ o : Option (AV × AHeap), (Step.ofE o = .call f args ∨ ∃ v, Step.ofE o = .ora f args v) → False := fun o h => by cases o <;> simp_all [Step.ofE]
  have hC : ∀ o, (Step.ofC S o = .call f args ∨ ∃ v, Step.ofC S o = .ora f args v) → o = some (f, args) ∧ (∀ v, Step.ofC S o = .ora f args v → S f args = some v) := fun o h => by
    cases o with
    | none => simp [Step.ofC] at h
    | some p =>
      obtain ⟨f', args'⟩ := p
      simp only [Step.ofC] at h ⊢
      cases hq : S f' args' <;> rw [hq] at h <;> simp [Step.ofO] at h ⊢
      · exact h
      · exact ⟨h, fun hf ha => by subst hf ha; exact hq⟩
  unfold astep at h ⊢
  split at h
  all_goals first
    | exact (hE _ h).elim
    | exact (hV _ h).elim
    | skip
  split at h
  all_goals first
    | exact (hE _ h).elim
    | exact (hV _ h).elim
    | exact hC _ h
    | (simp at h)

end Go.Proofs.Yteeakkakkjhgoaa.A
