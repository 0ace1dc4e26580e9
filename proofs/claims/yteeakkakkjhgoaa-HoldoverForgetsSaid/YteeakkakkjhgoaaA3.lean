/- The rest of the operations that leave memory alone, and all of them together. Conditions: none. -/
import Derived.Test.YteeakkakkjhgoaaA2
set_option linter.unusedVariables false
set_option linter.unusedSimpArgs false
namespace Go.Proofs.Yteeakkakkjhgoaa.A
open Go Go.RowKit

def aun (op : UnOp) (x : AV) : Option AV :=
  match op, x with
  | .neg, .int k n => some (.int k (k.wrap (0 - n)))
  | .not, .bool b => some (.bool (!b))
  | _, _ => none
theorem un_sound {P : Program} {op : UnOp} {x v : AV} (h : aun op x = some v) {n : Nat} {ρ : Nat → RI} {cx : Value} (hx : VR n ρ x cx) : ∃ cv, VR n ρ v cv ∧ ∀ w, (Op.unary op cx).run P w = .ok cv w := by
  unfold aun at h
  split at h
  · cases hx; cases h; exact ⟨_, .int _ _, fun w => by simp [Op.unary, Op.intArith]⟩
  · cases hx; cases h; exact ⟨_, .bool _, fun w => by simp [Op.unary]⟩
  · cases h

def aconv (P : Program) (src dst : TypeId) (x : AV) : Option AV :=
  if (tk P src).is then
    match tk P dst, x with
    | .int k, .int _ n => some (.int k (k.wrap n))
    | _, _ => none
  else none
theorem conv_sound {P : Program} {src dst : TypeId} {x v : AV} (h : aconv P src dst x = some v) {n : Nat} {ρ : Nat → RI} {cx : Value} (hx : VR n ρ x cx) : ∃ cv, VR n ρ v cv ∧ ∀ w, (convert src dst cx).run P w = .ok cv w := by
  unfold aconv at h
  split at h
  · rename_i his
    obtain ⟨d1, hd1, _⟩ := tk_under his
    split at h
    · rename_i k _ m hk
      obtain ⟨dd, hd, he⟩ := tk_under (P := P) (t := dst) (by rw [hk]; rfl)
      rw [hk] at he
      cases dd <;> simp only [tkOf] at he <;> first | (cases he; done) | skip
      cases he
      cases hx; cases h
      refine ⟨_, .int _ _, fun w => ?_⟩
      simp [convert, run_underlying hd1, run_underlying hd, Conv.intToInt]
    · cases h
  · cases h

/-- A part of a struct's cells. -/
def apart (P : Program) (t : TypeId) (cs : List AV) (off : Nat) : Option AV :=
  if (tk P t).is then
    if (tk P t).agg then
      match sz P t with
      | some k => if off + k ≤ cs.length then some (.agg ((cs.drop off).take k)) else none
      | none => none
    else cs[off]?
  else none
theorem VRs.drop {n : Nat} {ρ : Nat → RI} {l : List AV} {vs : List Value} (h : VRs n ρ l vs) (k : Nat) : VRs n ρ (l.drop k) (vs.drop k) :=
  VRs.of_get (by simp [h.length]) fun j x y hx hy => by
    rw [List.getElem?_drop] at hx hy
    obtain ⟨y', hy', hr⟩ := h.get _ _ hx
    rw [hy] at hy'; cases hy'; exact hr
theorem VRs.take {n : Nat} {ρ : Nat → RI} {l : List AV} {vs : List Value} (h : VRs n ρ l vs) (k : Nat) : VRs n ρ (l.take k) (vs.take k) :=
  VRs.of_get (by simp [h.length]) fun j x y hx hy => by
    rw [List.getElem?_take] at hx hy
    split at hx
    · rename_i hj
      rw [if_pos hj] at hy
      obtain ⟨y', hy', hr⟩ := h.get _ _ hx
      rw [hy] at hy'; cases hy'; exact hr
    · cases hx
theorem part_sound {P : Program} {t : TypeId} {cs : List AV} {off : Nat} {v : AV} (h : apart P t cs off = some v) {n : Nat} {ρ : Nat → RI} {xs : Array Value} (hx : VRs n ρ cs xs.toList) : ∃ cv, VR n ρ v cv ∧ ∀ w, (part t xs off).run P w = .ok cv w := by
  unfold apart at h
  split at h
  · rename_i his
    split at h
    · rename_i hagg
      split at h
      · rename_i k hk
        split at h
        · rename_i hle
          cases h
          refine ⟨.agg (xs.extract off (off + k)), .agg _ _ ?_, fun w => ?_⟩
          · have := (hx.drop off).take k
            have e : (xs.extract off (off + k)).toList = (xs.toList.drop off).take k := by simp
            rw [e]; exact this
          · simp [part, run_agg his, hagg, run_sz hk]
        · cases h
      · cases h
    · rename_i hagg
      have hagg' : (tk P t).agg = false := by simpa using hagg
      obtain ⟨y, hy, hr⟩ := hx.get _ _ h
      have hy' : xs[off]? = some y := by simpa using hy
      exact ⟨y, hr, fun w => by simp [part, run_agg his, hagg', hy']⟩
  · cases h

def afield (P : Program) (t : TypeId) (x : AV) (f : Nat) : Option AV :=
  match tk P t, x with
  | .strct fs, .agg cs =>
    match fs[f]? with
    | some (o, ft) => apart P ft cs o
    | none => none
  | _, _ => none
theorem strct_under {P : Program} {t : TypeId} {fs : List (Nat × TypeId)} (h : tk P t = .strct fs) : ∃ a : Array Field, P.underlying t = some (.struct a) ∧ fs = a.toList.map fun f => (f.offset, f.type) := by
  obtain ⟨dd, hd, he⟩ := tk_under (P := P) (t := t) (by rw [h]; rfl)
  rw [h] at he
  cases dd <;> simp only [tkOf] at he <;> first | (cases he; done) | skip
  cases he
  exact ⟨_, hd, rfl⟩
theorem field_sound {P : Program} {t : TypeId} {x v : AV} {f : Nat} (h : afield P t x f = some v) {n : Nat} {ρ : Nat → RI} {cx : Value} (hx : VR n ρ x cx) : ∃ cv, VR n ρ v cv ∧ ∀ w, (Instr.field t cx f).run P w = .ok cv w := by
  unfold afield at h
  split at h
  · rename_i fs cs hk
    cases hx
    rename_i xs hxs
    split at h
    · rename_i o ft hf
      obtain ⟨a, ha, rfl⟩ := strct_under hk
      simp only [List.getElem?_map, Option.map_eq_some_iff] at hf
      obtain ⟨fd, hfd, hfe⟩ := hf
      cases hfe
      have hfd' : a[f]? = some fd := by simpa using hfd
      obtain ⟨cv, hr, hrun⟩ := part_sound h hxs
      exact ⟨cv, hr, fun w => by simp [Instr.field, run_underlying ha, hfd', asAgg, hrun]⟩
    · cases h
  · cases h

/-- The address of a field; no field of size 0. -/
def afaddr (P : Program) (t : TypeId) (x : AV) (f : Nat) : Option AV :=
  match tk P t, x with
  | .strct fs, .ptr i off =>
    match fs[f]? with
    | some (o, ft) => match sz P ft with
      | some (_ + 1) => some (.ptr i (off + o))
      | _ => none
    | none => none
  | _, _ => none
theorem faddr_sound {P : Program} {t : TypeId} {x v : AV} {f : Nat} (h : afaddr P t x f = some v) {n : Nat} {ρ : Nat → RI} {cx : Value} (hx : VR n ρ x cx) : ∃ cv, VR n ρ v cv ∧ ∀ w, (Instr.fieldAt t cx f).run P w = .ok cv w := by
  unfold afaddr at h
  split at h
  · rename_i fs i off hk
    cases hx
    rename_i hi
    split at h
    · rename_i o ft hf
      obtain ⟨a, ha, rfl⟩ := strct_under hk
      simp only [List.getElem?_map, Option.map_eq_some_iff] at hf
      obtain ⟨fd, hfd, hfe⟩ := hf
      cases hfe
      have hfd' : a[f]? = some fd := by simpa using hfd
      split at h
      · rename_i s hs
        cases h
        refine ⟨_, .ptr _ _ hi, fun w => ?_⟩
        simp [Instr.fieldAt, run_underlying ha, hfd', Instr.sureAddr, fieldPlace, run_sz hs, add_add]
      · cases h
    · cases h
  · cases h

def aiaddr (P : Program) (t : TypeId) (x ix : AV) : Option AV :=
  match tk P t, x, ix with
  | .slice e, .slice i off len, .int _ m =>
    if 0 ≤ m ∧ m < (len : Int) then (sz P e).map fun s => .ptr i (off + m.toNat * s) else none
  | .arr len e, .ptr i off, .int _ m =>
    if 0 ≤ m ∧ m < (len : Int) then (sz P e).map fun s => .ptr i (off + m.toNat * s) else none
  | _, _, _ => none
theorem iaddr_sound {P : Program} {t : TypeId} {x ix v : AV} (h : aiaddr P t x ix = some v) {n : Nat} {ρ : Nat → RI} {cx ci : Value} (hx : VR n ρ x cx) (hi : VR n ρ ix ci) : ∃ cv, VR n ρ v cv ∧ ∀ w, (Instr.indexAt t cx ci).run P w = .ok cv w := by
  unfold aiaddr at h
  split at h
  · rename_i e i off len k m hk
    cases hi
    cases hx
    rename_i c x hi hx hl
    split at h
    · rename_i hm
      simp only [Option.map_eq_some_iff] at h
      obtain ⟨s, hs, rfl⟩ := h
      obtain ⟨dd, hd, he⟩ := tk_under (P := P) (t := t) (by rw [hk]; rfl)
      rw [hk] at he
      cases dd <;> simp only [tkOf] at he <;> first | (cases he; done) | skip
      cases he
      have hx' : x = (ρ i).addr.add off := by
        rcases hx with h0 | h0
        · omega
        · exact h0.1
      refine ⟨_, .ptr _ _ hi, fun w => ?_⟩
      simp [Instr.indexAt, asIntOf, run_underlying hd, hm, run_sz hs, hx', add_add]
    · cases h
  · rename_i len e i off k m hk
    cases hi
    cases hx
    rename_i hi
    split at h
    · rename_i hm
      simp only [Option.map_eq_some_iff] at h
      obtain ⟨s, hs, rfl⟩ := h
      obtain ⟨dd, hd, he⟩ := tk_under (P := P) (t := t) (by rw [hk]; rfl)
      rw [hk] at he
      cases dd <;> simp only [tkOf] at he <;> first | (cases he; done) | skip
      cases he
      refine ⟨_, .ptr _ _ hi, fun w => ?_⟩
      simp [Instr.indexAt, asIntOf, run_underlying hd, hm, run_sz hs, Instr.sureAddr, add_add]
    · cases h
  · cases h

def aindex (P : Program) (t : TypeId) (x ix : AV) : Option AV :=
  match tk P t, x, ix with
  | .arr len e, .agg cs, .int _ m =>
    if 0 ≤ m ∧ m < (len : Int) then
      match sz P e with
      | some s => apart P e cs (m.toNat * s)
      | none => none
    else none
  | .str, .str s, .int _ m =>
    match (if 0 ≤ m then s[m.toNat]? else none) with
    | some b => some (.int .u8 b.toNat)
    | none => none
  | _, _, _ => none
theorem index_sound {P : Program} {t : TypeId} {x ix v : AV} (h : aindex P t x ix = some v) {n : Nat} {ρ : Nat → RI} {cx ci : Value} (hx : VR n ρ x cx) (hi : VR n ρ ix ci) : ∃ cv, VR n ρ v cv ∧ ∀ w, (Instr.index t cx ci).run P w = .ok cv w := by
  unfold aindex at h
  split at h
  · rename_i len e cs k m hk
    cases hi
    cases hx
    rename_i xs hxs
    split at h
    · rename_i hm
      split at h
      · rename_i s hs
        obtain ⟨dd, hd, he⟩ := tk_under (P := P) (t := t) (by rw [hk]; rfl)
        rw [hk] at he
        cases dd <;> simp only [tkOf] at he <;> first | (cases he; done) | skip
        cases he
        obtain ⟨cv, hr, hrun⟩ := part_sound h hxs
        refine ⟨cv, hr, fun w => ?_⟩
        simp [Instr.index, asIntOf, run_underlying hd, hm, run_sz hs, hrun]
      · cases h
    · cases h
  · rename_i s k m hk
    cases hi
    cases hx
    split at h
    · rename_i b hb
      cases h
      obtain ⟨dd, hd, he⟩ := tk_under (P := P) (t := t) (by rw [hk]; rfl)
      rw [hk] at he
      cases dd <;> simp only [tkOf] at he <;> first | (cases he; done) | skip
      refine ⟨.int .u8 b.toNat, .int _ _, fun w => ?_⟩
      simp [Instr.index, asIntOf, run_underlying hd, hb]
    · cases h
  · cases h

/-- Bounds of a cut: none reads as 0 behind, as the length before. -/
def abnd (d : Int) : Option AV → Option Int
  | none => some d
  | some (.int _ m) => some m
  | _ => none
/-- The row's elements are s cells wide (or it is not the call's own). -/
def AHeap.fits (σ : AHeap) (i s : Nat) : Bool :=
  match σ.get i with
  | .ro _ => true
  | .own z _ => z == s
  | _ => false
/-- x[lo:hi], hi within the length; x[:0:0]. -/
def aslice (P : Program) (t : TypeId) (x : AV) (lo hi mx : Option AV) (σ : AHeap) : Option AV :=
  match tk P t, x with
  | .slice e, .slice i off len =>
    match mx with
    | none =>
      match abnd 0 lo, abnd len hi, sz P e with
      | some l, some h, some s =>
        if 0 ≤ l ∧ l ≤ h ∧ h ≤ (len : Int) ∧ σ.fits i s = true then some (.slice i (off + l.toNat * s) (h.toNat - l.toNat)) else none
      | _, _, _ => none
    | some (.int _ 0) =>
      match abnd 0 lo, hi, sz P e with
      | some 0, some (.int _ 0), some _ => some .slice0
      | _, _, _ => none
    | _ => none
  | .slice e, .nils =>
    match abnd 0 lo, abnd 0 hi, abnd 0 mx, sz P e with
    | some 0, some 0, some 0, some _ => if mx.isSome ∧ hi.isNone then none else some .nils
    | _, _, _, _ => none
  | .slice e, .slice0 =>
    match abnd 0 lo, abnd 0 hi, abnd 0 mx, sz P e with
    | some 0, some 0, some 0, some _ => if mx.isSome ∧ hi.isNone then none else some .slice0
    | _, _, _, _ => none
  | _, _ => none

/-- Values of optional bounds. -/
inductive VO (n : Nat) (ρ : Nat → RI) : Option AV → Option Value → Prop where
  | none : VO n ρ none none
  | some (a : AV) (v : Value) (h : VR n ρ a v) : VO n ρ (some a) (some v)
theorem TRel.evo {n : Nat} {ρ : Nat → RI} {N : Nat} {t : T} {a : Act} (h : TRel n ρ N t a) (x : Option Operand) : VO n ρ (x.map (aev t)) (x.map a.eval) := by
  cases x with
  | none => exact .none
  | some x => exact .some _ _ (h.ev x)

theorem bound_run {P : Program} (w : World) (k : IntKind) (m : Int) (y : Nat) (code : BoundsCode) (h : 0 ≤ m ∧ m ≤ y) : (Instr.sliceBound (.int k m) y code).run P w = .ok m.toNat w := by
  simp [Instr.sliceBound, asIntOf, h]

theorem sliceBounds_run {P : Program} {n : Nat} {ρ : Nat → RI} {lo hi : Option AV} {clo chi : Option Value} (hlo : VO n ρ lo clo) (hhi : VO n ρ hi chi) {len cap : Nat} {l h : Int} (hl : abnd 0 lo = some l) (hh : abnd len hi = some h)
    (h0 : 0 ≤ l ∧ l ≤ h ∧ h ≤ (len : Int)) (hc : len ≤ cap) (w : World) : (Instr.sliceBounds true len cap clo chi none).run P w = .ok (l.toNat, h.toNat, cap) w := by
  have e1 : ∀ (a : AV) (v : Value), VR n ρ a v → abnd 0 (some a) = some l → (Instr.sliceBound v h.toNat .sliceB).run P w = .ok l.toNat w := fun a v hv hl => by
    cases hv <;> simp only [abnd] at hl <;> first | (cases hl; done) | skip
    cases hl
    exact bound_run w _ _ _ _ (by omega)
  have e2 : ∀ (a : AV) (v : Value), VR n ρ a v → abnd len (some a) = some h → (Instr.sliceBound v cap .sliceAcap).run P w = .ok h.toNat w := fun a v hv hh => by
    cases hv <;> simp only [abnd] at hh <;> first | (cases hh; done) | skip
    cases hh
    exact bound_run w _ _ _ _ (by omega)
  cases hhi with
  | none =>
    simp only [abnd] at hh; cases hh
    simp only [Int.toNat_natCast] at e1 ⊢
    cases hlo with
    | none => simp only [abnd] at hl; cases hl; simp [Instr.sliceBounds]
    | some a v hv => simp [Instr.sliceBounds, e1 a v hv hl]
  | some b u hu =>
    cases hlo with
    | none => simp only [abnd] at hl; cases hl; simp [Instr.sliceBounds, e2 b u hu hh]
    | some a v hv => simp [Instr.sliceBounds, e1 a v hv hl, e2 b u hu hh]

theorem slice_sound {P : Program} {t : TypeId} {x : AV} {lo hi mx : Option AV} {σ : AHeap} {v : AV} (h : aslice P t x lo hi mx σ = some v) {ρ : Nat → RI} {w0 : World} (hh : HRel ρ σ w0) {cx : Value} (hx : VR σ.next ρ x cx)
    {clo chi cmx : Option Value} (hlo : VO σ.next ρ lo clo) (hhi : VO σ.next ρ hi chi) (hmx : VO σ.next ρ mx cmx) : ∃ cv, VR σ.next ρ v cv ∧ ∀ w, (Instr.sliceAt t cx clo chi cmx).run P w = .ok cv w := by
  unfold aslice at h
  have hslice : ∀ e, tk P t = .slice e → P.underlying t = some (.slice e) := fun e hk => by
    obtain ⟨dd, hd, he⟩ := tk_under (P := P) (t := t) (by rw [hk]; rfl)
    rw [hk] at he
    cases dd <;> simp only [tkOf] at he <;> first | (cases he; done) | skip
    cases he; exact hd
  split at h
  · rename_i e i off len hk
    have hd := hslice e hk
    cases hx
    rename_i c x hi' hx hl
    split at h
    · cases hmx
      split at h
      · rename_i l hb s hl' hh' hs
        split at h
        · rename_i hc
          cases h
          have hsb := fun w => sliceBounds_run (P := P) hlo hhi (len := len) (cap := c) hl' hh' ⟨hc.1, hc.2.1, hc.2.2.1⟩ hl w
          refine ⟨_, ?_, fun w => by simp only [Instr.sliceAt, Instr.slice, Sem.run_bind, run_underlying hd, Result.andThen_ok, hsb, run_sz hs, Sem.run_pure]; rfl⟩
          simp only [Option.map_some]
          have hrow := hh.row i hi'
          by_cases hcl : c = l.toNat
          · rw [if_pos hcl]
            refine .slice _ _ _ _ _ hi' (by omega) (.inl (by omega))
          · rw [if_neg hcl]
            refine .slice _ _ _ _ _ hi' (by omega) (.inr ?_)
            rcases hx with h0 | ⟨rfl, hx⟩
            · omega
            · refine ⟨by rw [add_add], fun hz => ?_⟩
              have hbound := hx hz
              have hzs : (ρ i).sz = s := by
                have h4 := hc.2.2.2
                unfold AHeap.fits at h4
                split at h4
                · rename_i ho; rw [ho] at hrow; exact absurd hrow.1 hz
                · rename_i z cs ho; rw [ho] at hrow; simp at h4; rw [← hrow.1, h4]
                · cases h4
              rw [hzs] at hbound ⊢
              have : l.toNat * s + (c - l.toNat) * s = c * s := by rw [← Nat.add_mul]; congr 1; omega
              omega
        · cases h
      · cases h
    · cases hmx
      rename_i k cv hv
      cases hv
      split at h
      · rename_i s hl' hs
        cases h
        cases hhi
        rename_i cv2 hv2
        cases hv2
        refine ⟨.slice (some x) 0 0, .slice0 x, fun w => ?_⟩
        have e0 : ∀ (y : Nat) (kk : IntKind) (code : BoundsCode) (w : World), (Instr.sliceBound (.int kk 0) y code).run P w = .ok 0 w := fun y kk code w => by have := bound_run (P := P) w kk 0 y code (by omega); simpa using this
        cases hlo with
        | none => simp [Instr.sliceAt, Instr.slice, run_underlying hd, Instr.sliceBounds, e0, run_sz hs]
        | some a v hv =>
          cases hv <;> simp only [abnd] at hl' <;> first | (cases hl'; done) | skip
          cases hl'
          simp [Instr.sliceAt, Instr.slice, run_underlying hd, Instr.sliceBounds, e0, run_sz hs]
      · cases h
    · cases h
  · rename_i e hk
    have hd := hslice e hk
    cases hx
    split at h
    · rename_i s hl' hh' hm' hs
      split at h
      · cases h
      · rename_i hne
        cases h
        refine ⟨_, .nils, fun w => ?_⟩
        have e0 : ∀ (y : Nat) (kk : IntKind) (code : BoundsCode) (w : World), (Instr.sliceBound (.int kk 0) y code).run P w = .ok 0 w := fun y kk code w => by have := bound_run (P := P) w kk 0 y code (by omega); simpa using this
        have f : ∀ (o : Option AV) (co : Option Value), VO σ.next ρ o co → abnd 0 o = some 0 → co = none ∨ ∃ kk, co = some (.int kk 0) := fun o co ho hb => by
          cases ho with
          | none => exact .inl rfl
          | some a v hv =>
            cases hv <;> simp only [abnd] at hb <;> first | (cases hb; done) | skip
            cases hb
            exact .inr ⟨_, rfl⟩
        rcases f _ _ hlo hl' with rfl | ⟨k1, rfl⟩ <;> rcases f _ _ hhi hh' with rfl | ⟨k2, rfl⟩ <;> rcases f _ _ hmx hm' with rfl | ⟨k3, rfl⟩
        all_goals first
          | (simp [Instr.sliceAt, Instr.slice, run_underlying hd, Instr.sliceBounds, e0, run_sz hs]; done)
          | (cases hmx; cases hhi; exact absurd ⟨rfl, rfl⟩ hne)
    · cases h
  · rename_i e hk
    have hd := hslice e hk
    cases hx
    rename_i x
    split at h
    · rename_i s hl' hh' hm' hs
      split at h
      · cases h
      · rename_i hne
        cases h
        refine ⟨_, .slice0 x, fun w => ?_⟩
        have e0 : ∀ (y : Nat) (kk : IntKind) (code : BoundsCode) (w : World), (Instr.sliceBound (.int kk 0) y code).run P w = .ok 0 w := fun y kk code w => by have := bound_run (P := P) w kk 0 y code (by omega); simpa using this
        have f : ∀ (o : Option AV) (co : Option Value), VO σ.next ρ o co → abnd 0 o = some 0 → co = none ∨ ∃ kk, co = some (.int kk 0) := fun o co ho hb => by
          cases ho with
          | none => exact .inl rfl
          | some a v hv =>
            cases hv <;> simp only [abnd] at hb <;> first | (cases hb; done) | skip
            cases hb
            exact .inr ⟨_, rfl⟩
        rcases f _ _ hlo hl' with rfl | ⟨k1, rfl⟩ <;> rcases f _ _ hhi hh' with rfl | ⟨k2, rfl⟩ <;> rcases f _ _ hmx hm' with rfl | ⟨k3, rfl⟩
        all_goals first
          | (simp [Instr.sliceAt, Instr.slice, run_underlying hd, Instr.sliceBounds, e0, run_sz hs]; done)
          | (cases hmx; cases hhi; exact absurd ⟨rfl, rfl⟩ hne)
    · cases h
  · cases h

def alenS : TK → Nat → Option AV
  | .slice _, n => some (.int .i64 n)
  | _, _ => none
def alen (P : Program) (t : TypeId) (x : AV) : Option AV :=
  match x with
  | .slice _ _ len => alenS (tk P t) len
  | .nils | .slice0 => alenS (tk P t) 0
  | .str s => match tk P t with
    | .str => some (.int .i64 s.size)
    | _ => none
  | _ => match tk P t with
    | .arr n _ => some (.int .i64 n)
    | _ => none
theorem len_sound {P : Program} {t ty : TypeId} {x v : AV} (h : alen P t x = some v) {n : Nat} {ρ : Nat → RI} {cx : Value} (hx : VR n ρ x cx) : ∃ cv, VR n ρ v cv ∧ ∀ w, (Builtin.len_ #[t] ty #[cx]).run P w = .ok cv w := by
  have hsl : ∀ e, tk P t = .slice e → P.underlying t = some (.slice e) := fun e hk => by
    obtain ⟨dd, hd, he⟩ := tk_under (P := P) (t := t) (by rw [hk]; rfl)
    rw [hk] at he
    cases dd <;> simp only [tkOf] at he <;> first | (cases he; done) | skip
    cases he; exact hd
  have hS : ∀ n, alenS (tk P t) n = some v → (∃ e, P.underlying t = some (.slice e)) ∧ v = .int .i64 n := fun n h => by
    cases hk : tk P t <;> rw [hk] at h <;> simp only [alenS] at h <;> first | (cases h; done) | skip
    cases h; exact ⟨⟨_, hsl _ hk⟩, rfl⟩
  unfold alen at h
  split at h
  · obtain ⟨⟨e, hd⟩, rfl⟩ := hS _ h; cases hx
    exact ⟨_, .int _ _, fun w => by simp [Builtin.len_, run_underlying hd, goInt]⟩
  · obtain ⟨⟨e, hd⟩, rfl⟩ := hS _ h; cases hx
    exact ⟨_, .int _ _, fun w => by simp [Builtin.len_, run_underlying hd, goInt]⟩
  · obtain ⟨⟨e, hd⟩, rfl⟩ := hS _ h; cases hx
    exact ⟨_, .int _ _, fun w => by simp [Builtin.len_, run_underlying hd, goInt]⟩
  · split at h
    · rename_i hk
      obtain ⟨dd, hd, he⟩ := tk_under (P := P) (t := t) (by rw [hk]; rfl)
      rw [hk] at he
      cases dd <;> simp only [tkOf] at he <;> first | (cases he; done) | skip
      cases hx; cases h
      exact ⟨_, .int _ _, fun w => by simp [Builtin.len_, run_underlying hd, goInt]⟩
    · cases h
  · split at h
    · rename_i hk
      obtain ⟨dd, hd, he⟩ := tk_under (P := P) (t := t) (by rw [hk]; rfl)
      rw [hk] at he
      cases dd <;> simp only [tkOf] at he <;> first | (cases he; done) | skip
      cases he; cases h
      exact ⟨_, .int _ _, fun w => by simp [Builtin.len_, run_underlying hd, goInt]⟩
    · cases h

def amx (isMax : Bool) : AV → AV → Option AV
  | .int k a, .int k' b => if k = k' then some (.int k (if isMax then max a b else min a b)) else none
  | _, _ => none
def amxs (isMax : Bool) : AV → List AV → Option AV
  | a, [] => some a
  | a, b :: l => match amx isMax a b with
    | some c => amxs isMax c l
    | none => none
def amaxmin (isMax : Bool) : List AV → Option AV
  | [] => none
  | a :: l => amxs isMax a l
theorem mx_sound {P : Program} {isMax : Bool} {x y v : AV} (h : amx isMax x y = some v) {n : Nat} {ρ : Nat → RI} {cx cy : Value} (hx : VR n ρ x cx) (hy : VR n ρ y cy) :
    ∃ cv, VR n ρ v cv ∧ ∀ w, (if isMax then Builtin.max2 cx cy else Builtin.min2 cx cy).run P w = .ok cv w := by
  unfold amx at h
  split at h
  · cases hx; cases hy
    split at h
    · cases h
      refine ⟨_, .int _ _, fun w => ?_⟩
      cases isMax
      · simp only [Bool.false_eq_true, if_false, Builtin.min2, Sem.run_pure]
        congr 2; rw [Int.min_def]; split <;> split <;> omega
      · simp only [if_true, Builtin.max2, Sem.run_pure]
        congr 2; rw [Int.max_def]; split <;> split <;> omega
    · cases h
  · cases h
theorem mxs_sound {P : Program} {isMax : Bool} {n : Nat} {ρ : Nat → RI} : ∀ {l : List AV} {x v : AV} {cx : Value} {cl : List Value}, amxs isMax x l = some v → VR n ρ x cx → VRs n ρ l cl →
    ∃ cv, VR n ρ v cv ∧ ∀ w, (cl.foldlM (if isMax then Builtin.max2 else Builtin.min2) cx).run P w = .ok cv w
  | [], x, v, cx, cl, h, hx, hl => by
    cases hl
    simp only [amxs] at h; cases h
    exact ⟨cx, hx, fun w => by simp⟩
  | b :: l, x, v, cx, cl, h, hx, hl => by
    cases hl
    rename_i cb cl hb hl
    simp only [amxs] at h
    split at h
    · rename_i c hc
      obtain ⟨cv1, h1, h2⟩ := mx_sound (P := P) hc hx hb
      obtain ⟨cv, h3, h4⟩ := mxs_sound h h1 hl
      refine ⟨cv, h3, fun w => ?_⟩
      cases isMax <;> simp only [Bool.false_eq_true, if_false, if_true, List.foldlM_cons, Sem.run_bind] at h2 h4 ⊢ <;> rw [h2 w] <;> exact h4 w
    · cases h

/-- Struct and array literals: parts laid over the zero cells. -/
def AV.cellsA : AV → Option (List AV)
  | .agg l => some l
  | a => if a.sc then some [a] else none
def afill (place : Nat → Option (Nat × Nat)) (cells : List AV) : List (Nat × AV) → Option (List AV)
  | [] => some cells
  | (i, v) :: rest =>
    match place i, v.cellsA with
    | some (off, s), some cs => if cs.length ≠ s ∨ off + cs.length > cells.length then none else afill place (cells.take off ++ cs ++ cells.drop (off + cs.length)) rest
    | _, _ => none
inductive VP (n : Nat) (ρ : Nat → RI) : List (Nat × AV) → List (Nat × Value) → Prop where
  | nil : VP n ρ [] []
  | cons (i : Nat) (a : AV) (v : Value) (l : List (Nat × AV)) (vs : List (Nat × Value)) (h : VR n ρ a v) (t : VP n ρ l vs) : VP n ρ ((i, a) :: l) ((i, v) :: vs)
theorem cellsA_sound {n : Nat} {ρ : Nat → RI} {a : AV} {v : Value} {l : List AV} (h : a.cellsA = some l) (hr : VR n ρ a v) : VRs n ρ l v.cells.toList := by
  cases hr <;> simp only [AV.cellsA, AV.sc, if_true, Bool.false_eq_true, if_false] at h <;> first | (cases h; done) | skip
  all_goals (cases h; first | assumption | (refine .cons _ _ _ _ ?_ .nil; constructor <;> assumption))
theorem foldl_set (cs : List Value) : ∀ (cells : Array Value) (off k : Nat), off + k + cs.length ≤ cells.size →
    ((cs.zipIdx k).foldl (fun acc (p : Value × Nat) => acc.setIfInBounds (off + p.2) p.1) cells).toList = cells.toList.take (off + k) ++ cs ++ cells.toList.drop (off + k + cs.length) := by
  induction cs with
  | nil => intro cells off k h; simp
  | cons c cs ih =>
    intro cells off k h
    simp only [List.length_cons] at h
    simp only [List.zipIdx_cons, List.foldl_cons]
    rw [ih _ off (k + 1) (by simp; omega)]
    apply List.ext_getElem?
    intro j
    simp only [Array.toList_setIfInBounds]
    have hlen : cells.toList.length = cells.size := by simp
    rcases Nat.lt_trichotomy j (off + k) with hj | hj | hj
    · rw [List.append_assoc, List.getElem?_append_left (by simp; omega), List.append_assoc, List.getElem?_append_left (by simp; omega)]
      rw [List.getElem?_take, if_pos (by omega), List.getElem?_take, if_pos hj, List.getElem?_set_ne (by omega)]
    · subst hj
      rw [List.append_assoc, List.getElem?_append_left (by simp; omega), List.append_assoc, List.getElem?_append_right (by simp; omega)]
      rw [List.getElem?_take, if_pos (by omega), List.getElem?_set_self (by simp; omega)]
      have : off + k - (List.take (off + k) cells.toList).length = 0 := by simp; omega
      rw [this]; rfl
    · have r1 : ∀ (A B : List Value) (m : Nat), A.length ≤ m → (A ++ B)[m]? = B[m - A.length]? := fun A B m h => List.getElem?_append_right h
      rw [List.append_assoc, List.append_assoc, r1 (List.take (off + (k + 1)) (cells.toList.set (off + k) c)) _ j (by simp; omega), r1 (List.take (off + k) cells.toList) _ j (by simp; omega)]
      have e1 : j - (List.take (off + (k + 1)) (cells.toList.set (off + k) c)).length = j - (off + k + 1) := by simp; omega
      have e2 : j - (List.take (off + k) cells.toList).length = (j - (off + k + 1)) + 1 := by simp; omega
      rw [e1, e2]
      simp only [List.cons_append, List.getElem?_cons_succ]
      by_cases hj2 : j - (off + k + 1) < cs.length
      · rw [List.getElem?_append_left hj2, List.getElem?_append_left hj2]
      · rw [List.getElem?_append_right (by omega), List.getElem?_append_right (by omega), List.getElem?_drop, List.getElem?_drop, List.getElem?_set_ne (by simp; omega)]
        congr 1
        simp; omega
theorem fill_sound {n : Nat} {ρ : Nat → RI} {place : Nat → Option (Nat × Nat)} : ∀ {ps : List (Nat × AV)} {cps : List (Nat × Value)} {cells r : List AV} {cc : Array Value}, afill place cells ps = some r → VP n ρ ps cps → VRs n ρ cells cc.toList →
    ∃ cr, Instr.fill place cc cps = some cr ∧ VRs n ρ r cr.toList
  | [], _, cells, r, cc, h, hp, hc => by
    cases hp
    simp only [afill] at h; cases h
    exact ⟨cc, rfl, hc⟩
  | (i, v) :: ps, _, cells, r, cc, h, hp, hc => by
    cases hp
    rename_i cv cvs hv hp
    simp only [afill] at h
    split at h
    · rename_i off s cs hpl hcs
      split at h
      · cases h
      · rename_i hb
        have hvs := cellsA_sound hcs hv
        have hl : cv.cells.size = cs.length := by have := hvs.length; simpa using this.symm
        have hlc : cells.length = cc.size := by have := hc.length; simpa using this
        have hs : cs.length = s := by omega
        have hfold := foldl_set cv.cells.toList cc off 0 (by simp; omega)
        have hnew : VRs n ρ (cells.take off ++ cs ++ cells.drop (off + cs.length)) (cv.cells.zipIdx.foldl (fun acc (p : Value × Nat) => acc.setIfInBounds (off + p.2) p.1) cc).toList := by
          have e : (cv.cells.zipIdx.foldl (fun acc (p : Value × Nat) => acc.setIfInBounds (off + p.2) p.1) cc) = ((cv.cells.toList.zipIdx 0).foldl (fun acc (p : Value × Nat) => acc.setIfInBounds (off + p.2) p.1) cc) := by
            rw [← Array.foldl_toList]; simp
          rw [e, hfold]
          simp only [Nat.add_zero, Array.length_toList]
          rw [hl]
          exact ((hc.take off).append hvs).append (hc.drop _)
        obtain ⟨cr, h1, h2⟩ := fill_sound h hp hnew
        refine ⟨cr, ?_, h2⟩
        simp only [Instr.fill, hpl]
        rw [if_neg (by simp; omega)]
        exact h1
    · cases h

def abuild (P : Program) (t : TypeId) (parts : List (Nat × AV)) : Option AV :=
  match tk P t, zeroOf P t with
  | .strct fs, some z =>
    match fs.mapM (fun (f : Nat × TypeId) => (sz P f.2).map fun s => (f.1, s)) with
    | some places => (afill (places[·]?) z parts).map .agg
    | none => none
  | .arr _ e, some z =>
    match sz P e with
    | some s => (afill (fun i => some (i * s, s)) z parts).map .agg
    | none => none
  | _, _ => none
theorem zero_run {P : Program} {t : TypeId} {z : List AV} (h : zeroOf P t = some z) (n : Nat) (ρ : Nat → RI) : ∃ cz, (∀ w, (zeroValue t).run P w = .ok cz w) ∧ VRs n ρ z cz.cells.toList := by
  unfold zeroOf at h
  simp only [Option.bind_eq_some_iff, Option.map_eq_some_iff] at h
  obtain ⟨i, hi, cz, hz, rfl⟩ := h
  exact ⟨cz, fun w => by simp [zeroValue, typeInfo, hi, hz], VRs_map_ofV _ _ _⟩
theorem VP.of {n : Nat} {ρ : Nat → RI} {N : Nat} {t : T} {a : Act} (h : TRel n ρ N t a) : ∀ ps : List (Nat × Operand), VP n ρ (ps.map fun p => (p.1, aev t p.2)) (ps.map fun p => (p.1, a.eval p.2))
  | [] => .nil
  | p :: ps => .cons _ _ _ _ _ (h.ev _) (VP.of h ps)
theorem run_places' {P : Program} (w : World) : ∀ (fs : List Field) (places : List (Nat × Nat)), (fs.map fun f => (f.offset, f.type)).mapM (fun (f : Nat × TypeId) => (sz P f.2).map fun s => (f.1, s)) = some places →
    (fs.mapM (fun f => do pure (f.offset, ← sizeOf f.type) : Field → Sem (Nat × Nat))).run P w = .ok places w
  | [], places, h => by simp at h; subst h; simp
  | f :: fs, places, h => by
    simp only [List.map_cons, List.mapM_cons, Option.bind_eq_bind, Option.bind_eq_some_iff, Option.pure_def, Option.some.injEq, Option.map_eq_some_iff] at h
    obtain ⟨p, ⟨s, hs, rfl⟩, ps, hps, rfl⟩ := h
    have ih := run_places' w fs ps hps
    simp only [List.mapM_cons, Sem.run_bind, run_sz hs, Result.andThen_ok, Sem.run_pure] at ih ⊢
    rw [ih]
    rfl
theorem build_sound {P : Program} {t : TypeId} {ps : List (Nat × AV)} {v : AV} (h : abuild P t ps = some v) {n : Nat} {ρ : Nat → RI} {cps : Array (Nat × Value)} (hp : VP n ρ ps cps.toList) : ∃ cv, VR n ρ v cv ∧ ∀ w, (Instr.build t cps).run P w = .ok cv w := by
  unfold abuild at h
  split at h
  · rename_i fs z hk hz
    split at h
    · rename_i places hpl
      simp only [Option.map_eq_some_iff] at h
      obtain ⟨r, hr, rfl⟩ := h
      obtain ⟨a, ha, rfl⟩ := strct_under hk
      obtain ⟨cz, hz1, hz2⟩ := zero_run hz n ρ
      obtain ⟨cr, h1, h2⟩ := fill_sound hr hp hz2
      refine ⟨.agg cr, .agg _ _ h2, fun w => ?_⟩
      have hrp := run_places' (P := P) w a.toList places hpl
      have e : (a.mapM (fun f => do pure (f.offset, ← sizeOf f.type) : Field → Sem (Nat × Nat))) = (do return (← a.toList.mapM (fun f => do pure (f.offset, ← sizeOf f.type) : Field → Sem (Nat × Nat))).toArray) := by
        rw [Array.mapM_eq_mapM_toList]; rfl
      simp only [Instr.build, Sem.run_bind, hz1, Result.andThen_ok, run_underlying ha, e, hrp, Sem.run_pure]
      have e2 : (fun x : Nat => (places.toArray)[x]?) = (fun x : Nat => places[x]?) := by funext x; simp
      simp only [e2, h1, Sem.run_pure]
    · cases h
  · rename_i len e z hk hz
    split at h
    · rename_i s hs
      simp only [Option.map_eq_some_iff] at h
      obtain ⟨r, hr, rfl⟩ := h
      obtain ⟨dd, hd, he⟩ := tk_under (P := P) (t := t) (by rw [hk]; rfl)
      rw [hk] at he
      cases dd <;> simp only [tkOf] at he <;> first | (cases he; done) | skip
      cases he
      obtain ⟨cz, hz1, hz2⟩ := zero_run hz n ρ
      obtain ⟨cr, h1, h2⟩ := fill_sound hr hp hz2
      refine ⟨.agg cr, .agg _ _ h2, fun w => ?_⟩
      simp only [Instr.build, Sem.run_bind, hz1, Result.andThen_ok, run_underlying hd, run_sz hs, h1, Sem.run_pure]
    · cases h
  · cases h

end Go.Proofs.Yteeakkakkjhgoaa.A
