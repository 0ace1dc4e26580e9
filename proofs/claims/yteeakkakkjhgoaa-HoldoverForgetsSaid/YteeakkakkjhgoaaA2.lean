/- Operations that leave memory alone: what they yield, in abstract values. Conditions: none. -/
import Derived.Test.YteeakkakkjhgoaaA1
import Derived.Laws.StructEq
import Derived.Laws.Tables
import Derived.ChangeKeysEq
import Derived.IntWalk
set_option linter.unusedVariables false
set_option linter.unusedSimpArgs false
namespace Go.Proofs.Yteeakkakkjhgoaa.A
open Go Go.RowKit

/-! ### Types -/
inductive TK where
  | int (k : IntKind) | bool | str | slice (e : TypeId) | strct (fs : List (Nat × TypeId)) | arr (n : Nat) (e : TypeId) | map (k e : TypeId) | ptr (e : TypeId) | func | other | none
def tkOf : TypeDesc → TK
  | .int k => .int k
  | .bool => .bool
  | .string => .str
  | .slice e => .slice e
  | .struct fs => .strct (fs.toList.map fun f => (f.offset, f.type))
  | .array n e => .arr n e
  | .map k e => .map k e
  | .pointer e => .ptr e
  | .func _ _ _ => .func
  | _ => .other
def tk (P : Program) (t : TypeId) : TK :=
  match P.underlying t with
  | some d => tkOf d
  | none => .none
def sz (P : Program) (t : TypeId) : Option Nat := (P.info? t).map (·.size)
def byt (P : Program) (t : TypeId) : Option Nat := (P.info? t).map (·.bytes)
def zeroOf (P : Program) (t : TypeId) : Option (List AV) := (P.info? t).bind fun i => i.zero.map fun z => z.cells.toList.map ofV
def TK.agg : TK → Bool
  | .strct _ | .arr _ _ => true
  | _ => false
def TK.is : TK → Bool
  | .none => false
  | _ => true

theorem sz_some {P : Program} {t : TypeId} {s : Nat} (h : sz P t = some s) : ∃ i, P.info? t = some i ∧ i.size = s := by
  simpa [sz] using h
theorem run_sz {P : Program} {t : TypeId} {s : Nat} (h : sz P t = some s) (w : World) : (sizeOf t).run P w = .ok s w := by
  obtain ⟨i, hi, rfl⟩ := sz_some h
  simp [sizeOf, typeInfo, hi]
theorem tk_under {P : Program} {t : TypeId} (h : (tk P t).is = true) : ∃ d, P.underlying t = some d ∧ tk P t = tkOf d := by
  unfold tk at *
  split at h
  · rename_i d hd; exact ⟨d, hd, by simp [hd]⟩
  · cases h
theorem run_agg {P : Program} {t : TypeId} (h : (tk P t).is = true) (w : World) : (isAgg t).run P w = .ok (tk P t).agg w := by
  obtain ⟨d, hd, he⟩ := tk_under h
  rw [he]
  cases d <;> simp [isAgg, run_underlying hd, tkOf, TK.agg]

theorem add_add (a : Addr) (i j : Nat) : (a.add i).add j = a.add (i + j) := by
  unfold Addr.add
  by_cases hi : i = 0
  · subst hi; simp
  · by_cases hj : j = 0
    · subst hj; simp
    · simp [hi, hj, show i + j ≠ 0 by omega, Nat.add_assoc]

/-! ### Reading cells -/
def AHeap.cells (σ : AHeap) (i : Nat) : Option (List AV) :=
  match σ.get i with
  | .ro cs | .own _ cs => some cs
  | _ => none

theorem HRel.cell {ρ : Nat → RI} {σ : AHeap} {w : World} (h : HRel ρ σ w) {i : Nat} (hi : i < σ.next) {cs : List AV} (hc : σ.cells i = some cs) {j : Nat} {c : AV} (hj : cs[j]? = some c) :
    ∃ v, w.cell? ((ρ i).addr.add j) = some v ∧ VR σ.next ρ c v := by
  have h1 := h.row i hi
  unfold AHeap.cells at hc
  split at hc
  · rename_i cs' ho
    rw [ho] at h1
    cases hc
    exact h1.2 j c hj
  · rename_i z cs' ho
    rw [ho] at h1
    cases hc
    obtain ⟨_, _, ⟨b, hb⟩, cs2, ty, hblk, _, h2⟩ := h1
    obtain ⟨v, hv, hr⟩ := h2 j c hj
    refine ⟨v, ?_, hr⟩
    rw [hb] at hblk ⊢
    have : (⟨b, 0, none⟩ : Addr).add j = ⟨b, j, none⟩ := by unfold Addr.add; split <;> simp_all
    rw [this]
    simp [World.cell?, hblk, hv]
  · cases hc

theorem below_cell {w w' : World} (hb : Below w.heap.size w w') {a : Addr} {v : Value} (h : w.cell? a = some v) : w'.cell? a = some v :=
  (hb.cell (World.block_lt_of_cell? w a h)).trans h

/-- k cells from place j on. -/
theorem HRel.cellsAt {ρ : Nat → RI} {σ : AHeap} {w : World} (h : HRel ρ σ w) {i : Nat} (hi : i < σ.next) {cs : List AV} (hc : σ.cells i = some cs) (off : Nat) :
    ∀ (k : Nat), off + k ≤ cs.length → ∃ vs : List Value, vs.length = k ∧ VRs σ.next ρ ((cs.drop off).take k) vs ∧ ∀ j v, vs[j]? = some v → w.cell? ((ρ i).addr.add (off + j)) = some v
  | 0, _ => ⟨[], rfl, by simpa using VRs.nil, fun j v hj => by simp at hj⟩
  | k + 1, hk => by
    obtain ⟨vs, hl, hr, hcell⟩ := HRel.cellsAt h hi hc off k (by omega)
    have hlt : off + k < cs.length := by omega
    obtain ⟨v, hv, hvr⟩ := h.cell hi hc (j := off + k) (c := cs[off + k]) (by simp)
    refine ⟨vs ++ [v], by simp [hl], ?_, ?_⟩
    · have : (cs.drop off).take (k + 1) = (cs.drop off).take k ++ [cs[off + k]] := by
        rw [List.take_add_one, List.getElem?_drop, List.getElem?_eq_getElem hlt]; rfl
      rw [this]
      exact hr.append (.cons _ _ _ _ hvr .nil)
    · intro j u hj
      rw [List.getElem?_append] at hj
      split at hj
      · exact hcell j u hj
      · rename_i hge
        have hjk : j - vs.length = 0 := by
          rcases Nat.eq_zero_or_pos (j - vs.length) with h0 | h0
          · exact h0
          · rw [List.getElem?_eq_none (by simp; omega)] at hj; cases hj
        rw [hjk] at hj
        simp at hj
        subst hj
        have : j = k := by omega
        subst this
        exact hv

theorem run_loadCells_list' {P : Program} (w : World) (a : Addr) (cs : List Value) (h : ∀ j v, cs[j]? = some v → w.cell? (a.add j) = some v) :
    (loadCells a cs.length).run P w = .ok cs.toArray w := by
  have := run_loadCells_list (P := P) w a cs h
  exact this

def aload (P : Program) (ty : TypeId) (a : AV) (σ : AHeap) : Option AV :=
  match a with
  | .ptr i off =>
    match σ.cells i with
    | none => none
    | some cs =>
      if (tk P ty).is then
        if (tk P ty).agg then
          match sz P ty with
          | some k => if off + k ≤ cs.length then some (.agg ((cs.drop off).take k)) else none
          | none => none
        else cs[off]?
      else none
  | _ => none

theorem load_sound {P : Program} {ty : TypeId} {a : AV} {σ : AHeap} {v : AV} {ρ : Nat → RI} {w : World} {ca : Value} (h : aload P ty a σ = some v) (hh : HRel ρ σ w) (ha : VR σ.next ρ a ca) :
    ∃ cv, VR σ.next ρ v cv ∧ ∀ w', Below w.heap.size w w' → (Instr.loadAt ty ca).run P w' = .ok cv w' := by
  cases ha <;> simp only [aload] at h <;> try (cases h; done)
  rename_i i off hi
  split at h
  · cases h
  rename_i cs hcs
  split at h
  · rename_i his
    split at h
    · rename_i hagg
      split at h
      · rename_i k hk
        split at h
        · rename_i hle
          cases h
          obtain ⟨vs, hl, hr, hcell⟩ := hh.cellsAt hi hcs off k hle
          refine ⟨.agg vs.toArray, .agg _ _ (by simpa using hr), fun w' hb => ?_⟩
          have hl' := run_loadCells_list' (P := P) w' ((ρ i).addr.add off) vs (fun j v hj => by rw [add_add]; exact below_cell hb (hcell j v hj))
          rw [hl] at hl'
          simp [Instr.loadAt, Instr.sureAddr, loadVar, run_agg his, hagg, run_sz hk, hl']
        · cases h
      · cases h
    · rename_i hagg
      obtain ⟨cv, hcv, hr⟩ := hh.cell hi hcs h
      refine ⟨cv, hr, fun w' hb => ?_⟩
      have hagg' : (tk P ty).agg = false := by simpa using hagg
      simp [Instr.loadAt, Instr.sureAddr, loadVar, run_agg his, hagg', below_cell hb hcv]
  · cases h

/-! ### Arithmetic -/
def acmp (op : BinOp) (a b : Int) : Option AV :=
  match op with
  | .eql => some (.bool (decide (a = b)))
  | .neq => some (.bool (decide (a ≠ b)))
  | .lss => some (.bool (decide (a < b)))
  | .leq => some (.bool (decide (a ≤ b)))
  | .gtr => some (.bool (decide (b < a)))
  | .geq => some (.bool (decide (b ≤ a)))
  | _ => none
def abits (op : BinOp) (k : IntKind) (a b : Int) : Int :=
  match op with
  | .and => k.wrap (BitVec.ofInt k.bits a &&& BitVec.ofInt k.bits b).toNat
  | .or => k.wrap (BitVec.ofInt k.bits a ||| BitVec.ofInt k.bits b).toNat
  | .xor => k.wrap (BitVec.ofInt k.bits a ^^^ BitVec.ofInt k.bits b).toNat
  | _ => k.wrap (BitVec.ofInt k.bits a &&& ~~~ BitVec.ofInt k.bits b).toNat
def aint (op : BinOp) (k : IntKind) (a b : Int) : Option AV :=
  match op with
  | .add => some (.int k (k.wrap (a + b)))
  | .sub => some (.int k (k.wrap (a - b)))
  | .mul => some (.int k (k.wrap (a * b)))
  | .quo => if b = 0 then none else some (.int k (k.wrap (a.tdiv b)))
  | .rem => if b = 0 then none else some (.int k (a.tmod b))
  | .and | .or | .xor | .andNot => some (.int k (abits op k a b))
  | _ => acmp op a b
def ashift (op : BinOp) (k : IntKind) (a b : Int) : Option AV :=
  if b < 0 then none else
  match op with
  | .shl => some (.int k (k.wrap (a * 2 ^ (min b.toNat k.bits))))
  | _ => some (.int k (a.fdiv (2 ^ (min b.toNat k.bits))))
/-- '==' where one side may be nil, and on bools. -/
def aeq (P : Program) (ty : TypeId) (x y : AV) : Option Bool :=
  match tk P ty, x, y with
  | .bool, .bool a, .bool b => some (a == b)
  | .slice _, .nils, .nils => some true
  | .slice _, .slice _ _ _, .nils | .slice _, .slice0, .nils | .slice _, .nils, .slice _ _ _ | .slice _, .nils, .slice0 => some false
  | .ptr _, .nilp, .nilp => some true
  | .ptr _, .ptr _ _, .nilp | .ptr _, .nilp, .ptr _ _ => some false
  | .map _ _, .nilm, .nilm => some true
  | .map _ _, .map _, .nilm | .map _ _, .nilm, .map _ => some false
  | _, _, _ => none
/-- A struct of whole numbers and bools, its cells one behind the other: which of them are numbers. -/
def eqKindsL (P : Program) : Nat → List Field → Option (List Bool)
  | _, [] => some []
  | j, f :: fs =>
    if f.name ≠ "_" ∧ f.offset = j then
      match P.underlying f.type with
      | some (.int _) => (eqKindsL P (j + 1) fs).map (true :: ·)
      | some .bool => (eqKindsL P (j + 1) fs).map (false :: ·)
      | _ => none
    else none
def eqKinds (P : Program) (ty : TypeId) : Option (List Bool) :=
  match P.underlying ty with
  | some (.struct fs) => if P.stoodInHeld ty = false ∧ P.eqGuardType P.depth ty = false then eqKindsL P 0 fs.toList else none
  | _ => none
def sameCell : Bool → AV → AV → Option Bool
  | true, .int k a, .int k' b => if k = k' then some (decide (a = b)) else none
  | false, .bool a, .bool b => some (a == b)
  | _, _, _ => none
def sameCells : List Bool → List AV → List AV → Option Bool
  | [], [], [] => some true
  | i :: is, x :: xs, y :: ys =>
    match sameCell i x y, sameCells is xs ys with
    | some a, some b => some (a && b)
    | _, _ => none
  | _, _, _ => none
def aeqAgg (P : Program) (ty : TypeId) (x y : List AV) : Option Bool :=
  match eqKinds P ty with
  | some ks => sameCells ks x y
  | none => none
def abin (P : Program) (op : BinOp) (ty : TypeId) (x y : AV) : Option AV :=
  match x, y with
  | .int k a, .int k' b =>
    match op with
    | .shl | .shr => ashift op k a b
    | _ => if k = k' then aint op k a b else none
  | .agg a, .agg b =>
    match op with
    | .eql => (aeqAgg P ty a b).map .bool
    | .neq => (aeqAgg P ty a b).map fun r => .bool (!r)
    | _ => none
  | .str a, .str b =>
    match op with
    | .eql => some (.bool (a == b))
    | .neq => some (.bool (a != b))
    | _ => none
  | x, y =>
    match op with
    | .eql => (aeq P ty x y).map .bool
    | .neq => (aeq P ty x y).map fun r => .bool (!r)
    | _ => none

theorem guard_int {P : Program} (op : BinOp) (t : TypeId) (x y : Operand) (k k' : IntKind) (a b : Int) (w : World) : (eqGuard op t x y (.int k a) (.int k' b)).run P w = .ok () w := by
  cases op <;> simp [eqGuard]

theorem aint_sound {P : Program} {op : BinOp} {ty : TypeId} {k k' : IntKind} {a b : Int} {v : AV} (h : (match op with | .shl | .shr => ashift op k a b | _ => if k = k' then aint op k a b else none) = some v) (n : Nat) (ρ : Nat → RI) :
    ∃ cv, VR n ρ v cv ∧ ∀ w, (binOp op ty (.int k a) (.int k' b)).run P w = .ok cv w := by
  cases op <;> simp only [ashift, aint, acmp] at h <;> try (split at h <;> first | (cases h; done) | skip)
  all_goals first
    | (cases h; rename_i hb; subst hb; refine ⟨_, by constructor, fun w => ?_⟩; simp [binOp, Op.intArith, Op.intCmp, Op.intBits, abits]; done)
    | (split at h <;> first | (cases h; done) | skip; cases h; rename_i hb hk; subst hb; refine ⟨_, by constructor, fun w => ?_⟩; simp [binOp, Op.intDiv, hk]; done)
    | (cases h; rename_i hb; refine ⟨_, by constructor, fun w => ?_⟩; simp [binOp, Op.shift, hb]; done)
    | (cases h; rename_i hb; subst hb; refine ⟨_, by constructor, fun w => ?_⟩; simp [binOp, Op.intArith, Op.intCmp, Op.intBits, abits]; (first | done | rfl | (apply Bool.eq_iff_iff.2; simp)); done)
    | (split at h <;> cases h)

theorem sameCell_sound {P : Program} {n : Nat} {ρ : Nat → RI} {i : Bool} {x y : AV} {cx cy : Value} {r : Bool} (h : sameCell i x y = some r) (hx : VR n ρ x cx) (hy : VR n ρ y cy) (d : Nat) (t : TypeId)
    (ht : match P.underlying t with | some (.int _) => i = true | some .bool => i = false | _ => False) (w : World) :
    (Op.equalIn (d + 1) t cx cy).run P w = .ok r w := by
  cases i <;> cases hx <;> cases hy <;> simp only [sameCell] at h <;> try (cases h; done)
  · cases h
    cases hu : P.underlying t with
    | none => rw [hu] at ht; exact ht.elim
    | some dd =>
      rw [hu] at ht
      cases dd <;> first | exact ht.elim | (simp at ht; done) | skip
      rw [run_equalIn_bool' w d t _ _ hu]
  · split at h
    · rename_i hk
      cases h
      subst hk
      cases hu : P.underlying t with
      | none => rw [hu] at ht; exact ht.elim
      | some dd =>
        rw [hu] at ht
        cases dd <;> first | exact ht.elim | (simp at ht; done) | skip
        rw [run_equalIn_int w d t _ _ _ _ hu]
        congr 1
    · cases h

theorem eqFields_sound {P : Program} {n : Nat} {ρ : Nat → RI} {xs ys : Array Value} (d : Nat) (w : World) : ∀ (fs : List Field) (ks : List Bool) (j : Nat) (l1 l2 : List AV) (r : Bool),
    eqKindsL P j fs = some ks → VRs n ρ l1 (xs.toList.drop j) → VRs n ρ l2 (ys.toList.drop j) → sameCells ks l1 l2 = some r → (Op.eqFields (d + 1) xs ys fs).run P w = .ok r w
  | [], ks, j, l1, l2, r, hk, h1, h2, h => by
    simp only [eqKindsL] at hk
    cases hk
    cases l1 <;> cases l2 <;> simp only [sameCells] at h <;> cases h
    simp [Op.eqFields]
  | f :: fs, ks, j, l1, l2, r, hk, h1, h2, h => by
    simp only [eqKindsL] at hk
    split at hk
    · rename_i hf
      obtain ⟨hname, hoff⟩ := hf
      obtain ⟨i, ks', rfl, hks, hu, hna⟩ : ∃ i ks', ks = i :: ks' ∧ eqKindsL P (j + 1) fs = some ks' ∧ (match P.underlying f.type with | some (.int _) => i = true | some .bool => i = false | _ => False) ∧ ((tk P f.type).is = true ∧ (tk P f.type).agg = false) := by
        cases hu : P.underlying f.type with
        | none => rw [hu] at hk; cases hk
        | some dd =>
          rw [hu] at hk
          cases dd <;> first | (cases hk; done) | skip
          all_goals
            simp only [Option.map_eq_some_iff] at hk
            obtain ⟨ks', hk1, rfl⟩ := hk
            exact ⟨_, _, rfl, hk1, by simp, by simp [tk, hu, tkOf, TK.is, TK.agg]⟩
      cases l1 with
      | nil => simp only [sameCells] at h; cases h
      | cons x l1 =>
      cases l2 with
      | nil => simp only [sameCells] at h; cases h
      | cons y l2 =>
      simp only [sameCells] at h
      cases hs : sameCell i x y with
      | none => rw [hs] at h; cases h
      | some a =>
      cases hss : sameCells ks' l1 l2 with
      | none => rw [hs, hss] at h; cases h
      | some b =>
      rw [hs, hss] at h
      cases h
      have e1 : ∃ cx, xs[j]? = some cx ∧ VR n ρ x cx ∧ VRs n ρ l1 (xs.toList.drop (j + 1)) := by
        generalize hd : xs.toList.drop j = dd at h1
        cases h1 with
        | cons _ v _ vs hv ht =>
          have q1 : (xs.toList.drop j)[0]? = some v := by rw [hd]; rfl
          rw [List.getElem?_drop] at q1
          have q2 : xs.toList.drop (j + 1) = vs := by
            rw [← List.drop_drop, hd]; rfl
          exact ⟨v, by simpa using q1, hv, by rw [q2]; exact ht⟩
      have e2 : ∃ cx, ys[j]? = some cx ∧ VR n ρ y cx ∧ VRs n ρ l2 (ys.toList.drop (j + 1)) := by
        generalize hd : ys.toList.drop j = dd at h2
        cases h2 with
        | cons _ v _ vs hv ht =>
          have q1 : (ys.toList.drop j)[0]? = some v := by rw [hd]; rfl
          rw [List.getElem?_drop] at q1
          have q2 : ys.toList.drop (j + 1) = vs := by
            rw [← List.drop_drop, hd]; rfl
          exact ⟨v, by simpa using q1, hv, by rw [q2]; exact ht⟩
      obtain ⟨cx, hcx, hvx, hr1⟩ := e1
      obtain ⟨cy, hcy, hvy, hr2⟩ := e2
      have hc := sameCell_sound (P := P) hs hvx hvy d f.type hu w
      have ih := eqFields_sound d w fs ks' (j + 1) l1 l2 b hks hr1 hr2 hss
      simp only [Op.eqFields, hname, ne_eq, not_false_eq_true, if_true, Sem.run_bind, part, run_agg hna.1, hna.2, Result.andThen_ok, hoff, hcx, hcy, Sem.run_pure, hc, ih, Bool.false_eq_true, if_false, Sem.run_ite]
      cases a <;> simp
    · cases hk

theorem aeqAgg_sound {P : Program} {n : Nat} {ρ : Nat → RI} {ty : TypeId} {l1 l2 : List AV} {r : Bool} (h : aeqAgg P ty l1 l2 = some r) {xs ys : Array Value} (h1 : VRs n ρ l1 xs.toList) (h2 : VRs n ρ l2 ys.toList) (w : World) :
    (Op.equalIn 10000 ty (.agg xs) (.agg ys)).run P w = .ok r w ∧ P.eqGuardType P.depth ty = false := by
  unfold aeqAgg at h
  split at h
  · rename_i ks hks
    unfold eqKinds at hks
    split at hks
    · rename_i fs hfs
      split at hks
      · rename_i hc
        have hfo : P.fieldsOf ty = fs := by simp [Program.fieldsOf, hfs]
        refine ⟨?_, hc.2⟩
        rw [run_equalIn_struct w 9999 ty xs ys (by rw [hfo]; exact hfs) hc.1, hfo]
        exact eqFields_sound 9998 w fs.toList ks 0 l1 l2 r hks (by simpa using h1) (by simpa using h2) h
      · cases hks
    · cases hks
  · cases h

theorem aeq_sound {P : Program} {n : Nat} {ρ : Nat → RI} {ty : TypeId} {x y : AV} {r : Bool} (h : aeq P ty x y = some r) {cx cy : Value} (hx : VR n ρ x cx) (hy : VR n ρ y cy) (ox oy : Operand) (op : BinOp) (d : Nat) (w : World) :
    (Op.equalIn (d + 1) ty cx cy).run P w = .ok r w ∧ (eqGuard op ty ox oy cx cy).run P w = .ok () w ∧ binOp .eql ty cx cy = (do pure (.bool (← Op.equal ty cx cy))) ∧ binOp .neq ty cx cy = (do pure (.bool (!(← Op.equal ty cx cy)))) := by
  unfold aeq at h
  split at h
  all_goals first
    | (cases h; done)
    | (rename_i hk
       obtain ⟨dd, hd, he⟩ := tk_under (P := P) (t := ty) (by rw [hk]; rfl)
       rw [hk] at he
       cases dd <;> simp only [tkOf] at he <;> first | (cases he; done) | skip
       cases hx; cases hy; cases h
       refine ⟨by simp [Op.equalIn, run_underlying hd], by cases op <;> simp [eqGuard], rfl, rfl⟩)

theorem bin_sound {P : Program} {op : BinOp} {ty : TypeId} {x y : AV} {v : AV} (h : abin P op ty x y = some v) {n : Nat} {ρ : Nat → RI} {cx cy : Value} (hx : VR n ρ x cx) (hy : VR n ρ y cy) (ox oy : Operand) :
    ∃ cv, VR n ρ v cv ∧ ∀ w, (eqGuard op ty ox oy cx cy).run P w = .ok () w ∧ (binOp op ty cx cy).run P w = .ok cv w := by
  unfold abin at h
  split at h
  · cases hx; cases hy
    obtain ⟨cv, h1, h2⟩ := aint_sound (P := P) (ty := ty) h n ρ
    exact ⟨cv, h1, fun w => ⟨guard_int _ _ _ _ _ _ _ _ _, h2 w⟩⟩
  · cases hx; cases hy
    rename_i cx hx cy hy
    split at h
    · simp only [Option.map_eq_some_iff] at h
      obtain ⟨r, hr, rfl⟩ := h
      refine ⟨_, .bool r, fun w => ?_⟩
      obtain ⟨h1, h2⟩ := aeqAgg_sound hr hx hy w
      exact ⟨run_eqGuard_agg w _ _ _ _ _ _ h2, by rw [run_eql_struct, h1]; rfl⟩
    · simp only [Option.map_eq_some_iff] at h
      obtain ⟨r, hr, rfl⟩ := h
      refine ⟨_, .bool (!r), fun w => ?_⟩
      obtain ⟨h1, h2⟩ := aeqAgg_sound hr hx hy w
      exact ⟨run_eqGuard_agg w _ _ _ _ _ _ h2, by rw [run_neq_struct, h1]; rfl⟩
    · cases h
  · cases hx; cases hy
    split at h
    · cases h
      refine ⟨_, .bool _, fun w => ⟨by simp [eqGuard], by simp [binOp, Op.stringOp, beq_toListBytes]⟩⟩
    · cases h
      refine ⟨_, .bool _, fun w => ⟨by simp [eqGuard], by simp [binOp, Op.stringOp, bne, beq_toListBytes]⟩⟩
    · cases h
  · split at h
    · simp only [Option.map_eq_some_iff] at h
      obtain ⟨r, hr, rfl⟩ := h
      refine ⟨_, .bool r, fun w => ?_⟩
      obtain ⟨h1, h2, h3, h4⟩ := aeq_sound hr hx hy ox oy .eql 9999 w
      exact ⟨h2, by rw [h3]; simp only [Op.equal, Op.maxDepth, Sem.run_bind, h1, Result.andThen_ok, Sem.run_pure]⟩
    · simp only [Option.map_eq_some_iff] at h
      obtain ⟨r, hr, rfl⟩ := h
      refine ⟨_, .bool (!r), fun w => ?_⟩
      obtain ⟨h1, h2, h3, h4⟩ := aeq_sound hr hx hy ox oy .neq 9999 w
      exact ⟨h2, by rw [h4]; simp only [Op.equal, Op.maxDepth, Sem.run_bind, h1, Result.andThen_ok, Sem.run_pure]⟩
    · cases h

end Go.Proofs.Yteeakkakkjhgoaa.A
