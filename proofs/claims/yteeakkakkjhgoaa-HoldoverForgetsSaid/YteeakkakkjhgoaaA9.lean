/- Code by the executor; functions; loops. Conditions: none. -/
import Derived.Test.YteeakkakkjhgoaaA8
import Derived.Scope
import Derived.NoCompilerSame
import Derived.Test.YteeakkakkjhgoaaAH
set_option linter.unusedVariables false
set_option linter.unusedSimpArgs false
namespace Go.Proofs.Yteeakkakkjhgoaa.A
open Go Go.RowKit

structure St (n0 N : Nat) (ρ0 : Nat → RI) (σ0 : AHeap) (w0 : World) (ρ : Nat → RI) (t : T) (σ : AHeap) (a : Act) (w : World) : Prop where
  trel : TRel σ.next ρ N t a
  hrel : HRel ρ σ w
  fr : Fr ρ0 σ0 w0 ρ σ w
  agree : ∀ i, i < n0 → ρ i = ρ0 i
  le : n0 ≤ σ.next

/-! ### Code without what the walk does not look at -/
inductive SC where
  | skip
  | reg (ops : List SO)
  | regq (ops : List SO)
  | regs (hd tl : List SO)
  | rega (r : RT)
  | regh (r : HT)
  | seq (a b : SC)
  | cond (c : Operand) (a b : SC)
  | block (id : Nat) (a : SC)
  | loop (a : SC)
  | scope (a : SC)
  | exit (id : Nat)
  | ret

def stripO (ops : Array Oper) (o : Oper) : Option SO :=
  match o.guard with
  | none => some ⟨o.dst, o.op, none⟩
  | some (j, b) => match (ops[j]?).bind (·.dst) with
    | some d => some ⟨o.dst, o.op, some (d, b)⟩
    | none => none
def stripL (ops : Array Oper) : List Oper → Option (List SO)
  | [] => some []
  | o :: l => match stripO ops o, stripL ops l with
    | some s, some r => some (s :: r)
    | _, _ => none
def fitsO (N : Nat) (o : Oper) : Bool :=
  match o.dst with
  | some d => decide (d < N)
  | none => true
def isStill : Op → Bool
  | .move _ | .assign _ | .pick .. | .load .. | .binOp .. | .unOp .. | .convert .. | .fieldAddr .. | .field .. | .indexAddr .. | .index .. | .lookup .. | .slice .. | .extract .. | .nilCheck _ | .makeFunc .. | .build .. => true
  | .call { callee := .builtin .len, .. } | .call { callee := .builtin .max, .. } | .call { callee := .builtin .min, .. } => true
  | _ => false
def isQuiet (m : List FuncId) : Op → Bool
  | .call { callee := .value (.func f), .. } => !m.contains f
  | .call { callee := .value _, .. } => true
  | op => isStill op
def headLen (ops : List Oper) : Nat := (ops.takeWhile fun o => isStill o.op).length
def bothL : List RT → RT
  | [] => .bad
  | [r] => r
  | r :: rs => .both r (bothL rs)
def mkRT (ops : Array Oper) (sl : List SO) : Nat → Array Bool → RT
  | 0, listed => if (Region.ready .any ops listed).isEmpty then .done else .bad
  | n + 1, listed =>
    match (Region.ready .any ops listed).find? fun i => ((ops[i]?).map fun o => isStill o.op && isPure o.op).getD false && Region.free .any ops listed i with
    | some i => match sl[i]? with
      | some o => .take o (mkRT ops sl n (listed.setIfInBounds i true))
      | none => .bad
    | none => bothL ((Region.ready .any ops listed).map fun i => match sl[i]? with
      | some o => .step o (mkRT ops sl n (listed.setIfInBounds i true))
      | none => .bad)
/-- The same, off tables. -/
def mkRTt (T : RegionTabs) (pu : List Bool) (sl : List SO) : Nat → Array Bool → RT
  | 0, listed => if (T.ready listed).isEmpty then .done else .bad
  | n + 1, listed =>
    match (T.ready listed).find? fun i => pu.getD i false && T.free listed i with
    | some i => match sl[i]? with
      | some o => .take o (mkRTt T pu sl n (listed.setIfInBounds i true))
      | none => .bad
    | none => bothL ((T.ready listed).map fun i => match sl[i]? with
      | some o => .step o (mkRTt T pu sl n (listed.setIfInBounds i true))
      | none => .bad)
theorem mkRTt_eq (ops : Array Oper) (sl : List SO) : ∀ (n : Nat) (listed : Array Bool), mkRTt (RegionTabs.of .any ops) (ops.toList.map fun o => isStill o.op && isPure o.op) sl n listed = mkRT ops sl n listed
  | 0, listed => by simp only [mkRTt, mkRT, RegionTabs.ready_eq]
  | n + 1, listed => by
    simp only [mkRTt, mkRT, RegionTabs.ready_eq, RegionTabs.free_eq, mkRTt_eq ops sl n]
    have e : ∀ i, (ops.toList.map fun o => isStill o.op && isPure o.op).getD i false = ((ops[i]?).map fun o => isStill o.op && isPure o.op).getD false := fun i => by
      rw [List.getD_eq_getElem?_getD, List.getElem?_map, Array.getElem?_toList]
    simp only [e]
def noEnter (m : List FuncId) : Op → Bool
  | .call { callee := .builtin _, .. } => true
  | .call { callee := .value (.func f), .. } => m.contains f
  | .call _ => false
  | _ => true
def isLoad : Op → Bool
  | .load _ _ => true
  | _ => false
def hplan (ops : Array Oper) : Option Nat :=
  forceL (aftOf (RegionTabs.of .any ops)) fun a => zfin a (ops.toList.length - (ops.toList.reverse.takeWhile fun o => !isLoad o.op).length)
def htree (ops : Array Oper) (z : Nat) : IT :=
  forceL (aftOf (RegionTabs.of .any ops)) fun a => forceL (cfOf (RegionTabs.of .any ops)) fun c => mkI a c (ops.toList.map fun o => isStill o.op && isPure o.op) (ops.toList.map fun o => isLoad o.op) z ops.size 0
def stripR (m : List FuncId) (P : Program) (N : Nat) (ops : Array Oper) (draw : Bool) : Option SC :=
  if ops.toList.all (fitsO N) then
    match stripL ops ops.toList with
    | some l =>
      if draw = false then some (.reg l)
      else if P.follows .mixedOrders then
        if ops.toList.all (fun o => isQuiet m o.op) && Region.lexB .any ops then some (.regq l)
        else if Region.lexTailB .any ops (headLen ops.toList) then some (.regs (l.take (headLen ops.toList)) (l.drop (headLen ops.toList)))
        else if Region.noSelect ops && ops.toList.all (fun o => noEnter m o.op) && ops.toList.any (fun o => isLoad o.op) then
          match hplan ops with
          | some z => some (.regh (HT.of l (htree ops z)))
          | none => none
        else if Region.noSelect ops then some (.rega (mkRTt (RegionTabs.of .any ops) (ops.toList.map fun o => isStill o.op && isPure o.op) l ops.size (Array.replicate ops.size false)))
        else none
      else none
    | none => none
  else none
def strip (m : List FuncId) (P : Program) (N : Nat) : Code → Option SC
  | .skip => some .skip
  | .region _ ops draw => stripR m P N ops draw
  | .seq a b => match strip m P N a, strip m P N b with
    | some x, some y => some (.seq x y)
    | _, _ => none
  | .cond c a b => match strip m P N a, strip m P N b with
    | some x, some y => some (.cond c x y)
    | _, _ => none
  | .block id a => (strip m P N a).map (.block id)
  | .loop a => (strip m P N a).map .loop
  | .scope a => (strip m P N a).map .scope
  | .label _ => some .skip
  | .exit id => some (.exit id)
  | .ret => some .ret
  | _ => none

theorem guard_sound {ops : Array Oper} {o : Oper} {s : SO} (h : stripO ops o = some s) {n : Nat} {ρ : Nat → RI} {N : Nat} {t : T} {a : Act} (ht : TRel n ρ N t a) :
    s.dst = o.dst ∧ s.op = o.op ∧ match aguard t s.g with
      | .yes => Region.wanted o (yielded ops a.tmps) = true
      | .no => Region.wanted o (yielded ops a.tmps) = false
      | .test p => Region.wanted o (yielded ops a.tmps) = p
      | .bad => True := by
  unfold stripO at h
  split at h
  · rename_i hg
    cases h
    exact ⟨rfl, rfl, by simp [aguard, Region.wanted, hg]⟩
  · rename_i j b hg
    split at h
    · rename_i d hd
      cases h
      refine ⟨rfl, rfl, ?_⟩
      simp only [aguard]
      have hs := ht.slot d
      cases htd : t d with
      | bool p =>
        simp only [agv]
        rw [htd] at hs
        cases hv : a.tmps.getD d undef <;> rw [hv] at hs <;> cases hs
        have hget : a.tmps[d]? = some (.bool p) := by
          rw [Array.getD_eq_getD_getElem?] at hv
          cases hq : a.tmps[d]? with
          | none => rw [hq] at hv; simp [undef] at hv
          | some u => rw [hq] at hv; simp at hv; rw [hv]
        simp [Region.wanted, hg, yielded, hd, hget]
      | tup l =>
        cases l with
        | cons _ _ => simp only [agv]
        | nil =>
          simp only [agv]
          rw [htd] at hs
          have hget : ∀ q, a.tmps[d]? ≠ some (.bool q) := fun q hq => by
            rw [Array.getD_eq_getD_getElem?, hq] at hs
            simp at hs; cases hs
          have hy : yielded ops a.tmps j = none := by
            unfold yielded
            rw [hd]
            cases hq : a.tmps[d]? with
            | none => simp [hq]
            | some u =>
              cases u <;> simp [hq]
              rename_i q; exact absurd hq (hget q)
          simp [Region.wanted, hg, hy]
      | _ => simp only [agv]
    · cases h

theorem St.val {n0 N : Nat} {ρ0 ρ : Nat → RI} {σ0 σ : AHeap} {w0 w : World} {t : T} {a : Act} (h : St n0 N ρ0 σ0 w0 ρ t σ a w) {d : Option Tmp} (hd : ∀ x, d = some x → x < N) {v : AV} {cv : Value} (hv : VR σ.next ρ v cv) :
    St n0 N ρ0 σ0 w0 ρ (aput t d v) σ (a.put d cv) w := by
  cases d with
  | none => exact h
  | some d => exact ⟨h.trel.put (hd d rfl) hv, h.hrel, h.fr, h.agree, h.le⟩
theorem St.step {n0 N : Nat} {ρ0 ρ ρ' : Nat → RI} {σ0 σ σ' : AHeap} {w0 w w' : World} {t : T} {a : Act} (h : St n0 N ρ0 σ0 w0 ρ t σ a w) (hh : HRel ρ' σ' w') (hf : Fr ρ σ w ρ' σ' w') (hn : σ.next ≤ σ'.next) (he : ∀ i, i < σ.next → ρ' i = ρ i) :
    St n0 N ρ0 σ0 w0 ρ' t σ' a w' :=
  ⟨h.trel.up hn he, hh, h.fr.trans hf, fun i hi => by rw [he i (Nat.lt_of_lt_of_le hi h.le), h.agree i hi], Nat.le_trans h.le hn⟩

theorem fitsO_lt {N : Nat} {o : Oper} (h : fitsO N o = true) : ∀ x, o.dst = some x → x < N := by
  intro x hx
  unfold fitsO at h
  rw [hx] at h
  simpa using h

theorem AR_sound {P : Program} {S : Orc} (hS : SOK P S) {ops : Array Oper} {n0 N : Nat} {ρ0 : Nat → RI} {σ0 : AHeap} {w0 : World} {Q : Exit → Act → World → Prop} {K : T → AHeap → Prop}
    (hK : ∀ ρ t σ a w, St n0 N ρ0 σ0 w0 ρ t σ a w → K t σ → Q .normal a w) : ∀ (l : List Oper) (sl : List SO), stripL ops l = some sl → l.all (fitsO N) = true → ∀ (ρ : Nat → RI) (t : T) (σ : AHeap) (a : Act) (w : World),
      St n0 N ρ0 σ0 w0 ρ t σ a w → AR P S sl t σ K → wpList P ops Q l a w
  | [], sl, hl, _, ρ, t, σ, a, w, hst, h => by
    simp only [stripL] at hl; cases hl
    exact hK _ _ _ _ _ hst h
  | o :: l, sl, hl, hf, ρ, t, σ, a, w, hst, h => by
    simp only [stripL] at hl
    split at hl
    · rename_i s r hs hr
      cases hl
      simp only [List.all_cons, Bool.and_eq_true] at hf
      have hfit := fitsO_lt hf.1
      obtain ⟨hd, hop, hg⟩ := guard_sound hs hst.trel
      simp only [AR] at h
      rw [hd, hop] at h
      have hrec := AR_sound hS hK l r hr hf.2
      have skip : Region.wanted o (yielded ops a.tmps) = false → AR P S r (aput t o.dst (.tup [])) σ K → wpList P ops Q (o :: l) a w := fun hw hq => by
        unfold wpList
        rw [if_neg (by rw [hw]; simp)]
        exact hrec ρ _ σ _ w (hst.val hfit (VR.tup [] #[] .nil)) hq
      have go : Region.wanted o (yielded ops a.tmps) = true → AS P σ (astep P S o.op (aev t) σ) (fun v σ' => AR P S r (aput t o.dst v) σ' K) → wpList P ops Q (o :: l) a w := fun hw hq => by
        unfold wpList
        rw [if_pos hw]
        left
        have callcase : ∀ (f : FuncId) (args : List AV) (R : AV → AHeap → Prop), acall o.op (aev t) = some (f, args) → ACalls P f args σ R → (∀ v σ', R v σ' → AR P S r (aput t o.dst v) σ' K) → o.wp P a w (wpList P ops Q l) Q := fun f args R hc hcalls hR => by
          obtain ⟨cargs, hv, hrun⟩ := call_sound hc hcalls.1 hst.trel
          unfold Oper.wp
          rw [hrun, Oper.upon_enter]
          refine (hcalls.2 ρ w cargs hv hst.hrel).mono ?_
          rintro e w' ⟨cv, v, ρ', σ', rfl, h2, h3, h4, h5, h6, h7⟩
          exact hrec ρ' _ σ' _ w' ((hst.step h3 h4 h5 h6).val hfit h2) (hR _ _ h7)
        cases hstep : astep P S o.op (aev t) σ with
        | val v =>
          rw [hstep] at hq
          obtain ⟨cv, hcv, hrun⟩ := still_sound (step_val hstep) hst.trel hst.hrel
          unfold Oper.wp
          rw [hrun w (Below.refl _ _), Oper.upon_value]
          exact hrec ρ _ σ _ w (hst.val hfit hcv) hq
        | eff v σ' =>
          rw [hstep] at hq
          obtain ⟨x, w', ρ', cv, hrun, hr, hv, hh, hfr, hn, he⟩ := eff_sound (step_eff hstep) hst.trel hst.hrel
          unfold Oper.wp
          rw [hrun]
          have := hrec ρ' _ σ' _ w' ((hst.step hh hfr hn he).val hfit hv) hq
          rcases hr with rfl | ⟨rfl, rfl⟩
          · exact this
          · exact this
        | ora f args v =>
          rw [hstep] at hq
          obtain ⟨hc, hs⟩ := step_call (.inr ⟨v, hstep⟩)
          exact callcase f args _ hc ((hS.ok f args v (hs v hstep)).2 σ) (fun v' σ' ⟨h1, h2⟩ => by rw [h1, h2]; exact hq)
        | call f args =>
          rw [hstep] at hq
          obtain ⟨hc, _⟩ := step_call (.inl hstep)
          exact callcase f args _ hc hq (fun v' σ' h1 => h1)
        | bad => rw [hstep] at hq; exact hq.elim
      cases hgv : aguard t s.g with
      | yes => rw [hgv] at h hg; exact go hg h
      | no => rw [hgv] at h hg; exact skip hg h
      | test p =>
        rw [hgv] at h hg
        cases p
        · exact skip hg (by simpa [AG] using h)
        · exact go hg (by simpa [AG] using h)
      | bad => rw [hgv] at h; exact h.elim
    · cases hl

/-! ### Regions that draw their order -/
theorem frz_not_owned (ρ : Nat → RI) (σ : AHeap) (b : Nat) : ¬ Owned (frz ρ) σ.freeze b := by
  rintro ⟨i, _, ho, _⟩
  have : (σ.get i).freeze.owned = true := ho
  rw [freeze_not_owned] at this; cases this

theorem ARq_sound {P : Program} {S : Orc} (hS : SOK P S) {ops : Array Oper} {n0 N : Nat} {ρ0 : Nat → RI} {σ0 : AHeap} {w0 : World} {K : T → AHeap → Prop} {ρ : Nat → RI} {σ : AHeap} {w : World} (hh : HRel ρ σ w) :
    ∀ (l : List Oper) (sl : List SO), stripL ops l = some sl → l.all (fitsO N) = true → ∀ (t : T) (a : Act),
      TRel σ.next ρ N t a → ARq P S sl t σ K → wpQuiet P ops (fun w' => Below w.heap.size w w') (fun a' => ∃ t', TRel σ.next ρ N t' a' ∧ K t' σ) l a
  | [], sl, hl, _, t, a, ht, h => by
    simp only [stripL] at hl; cases hl
    exact ⟨t, ht, h⟩
  | o :: l, sl, hl, hf, t, a, ht, h => by
    simp only [stripL] at hl
    split at hl
    · rename_i s r hs hr
      cases hl
      simp only [List.all_cons, Bool.and_eq_true] at hf
      have hfit := fitsO_lt hf.1
      obtain ⟨hd, hop, hg⟩ := guard_sound hs ht
      simp only [ARq] at h
      rw [hd, hop] at h
      have hrec := ARq_sound (n0 := n0) (ρ0 := ρ0) (σ0 := σ0) (w0 := w0) (K := K) hS hh l r hr hf.2
      have hput : ∀ v cv, VR σ.next ρ v cv → TRel σ.next ρ N (aput t o.dst v) (a.put o.dst cv) := fun v cv hv => by
        cases hdd : o.dst with
        | none => exact ht
        | some d => exact ht.put (hfit d hdd) hv
      have skip : Region.wanted o (yielded ops a.tmps) = false → ARq P S r (aput t o.dst (.tup [])) σ K → wpQuiet P ops (fun w' => Below w.heap.size w w') (fun a' => ∃ t', TRel σ.next ρ N t' a' ∧ K t' σ) (o :: l) a := fun hw hq => by
        unfold wpQuiet
        rw [if_neg (by rw [hw]; simp)]
        exact hrec _ _ (hput _ _ (VR.tup [] #[] .nil)) hq
      have go : Region.wanted o (yielded ops a.tmps) = true → ASq P σ (astep P S o.op (aev t) σ) (fun v => ARq P S r (aput t o.dst v) σ K) → wpQuiet P ops (fun w' => Below w.heap.size w w') (fun a' => ∃ t', TRel σ.next ρ N t' a' ∧ K t' σ) (o :: l) a := fun hw hq => by
        unfold wpQuiet
        rw [if_pos hw]
        have callcase : ∀ (f : FuncId) (args : List AV) (v : AV), acall o.op (aev t) = some (f, args) → v.det = true → ACalls P f args σ.freeze (fun v' _ => v' = v) → ARq P S r (aput t o.dst v) σ K →
            o.quiet P a (fun w' => Below w.heap.size w w') (wpQuiet P ops (fun w' => Below w.heap.size w w') (fun a' => ∃ t', TRel σ.next ρ N t' a' ∧ K t' σ) l) := fun f args v hc hdet hcalls hR => by
          obtain ⟨cargs, hv, hrun⟩ := call_sound hc hcalls.1 ht
          have hvc : VR σ.next ρ v (conc v) := by
            cases v <;> first | (simp [AV.det, AV.det1] at hdet; done) | exact .int _ _ | exact .bool _ | exact .str _ | skip
            rename_i l
            refine .tup _ _ ?_
            simp only [AV.det] at hdet
            have : ∀ l : List AV, l.all AV.det1 = true → VRs σ.next ρ l (l.map conc1) := fun l hl => by
              induction l with
              | nil => exact .nil
              | cons x l ih =>
                simp only [List.all_cons, Bool.and_eq_true] at hl
                refine .cons _ _ _ _ ?_ (ih hl.2)
                cases x <;> first | (simp [AV.det1] at hl; done) | exact .int _ _ | exact .bool _ | exact .str _
            simpa using this l hdet
          refine ⟨conc v, fun w' hb => ?_, hrec _ _ (hput _ _ hvc) hR⟩
          unfold Oper.quietAt
          rw [hrun]
          refine ⟨rfl, ?_⟩
          refine (hcalls.2 (frz ρ) w' cargs hv.frz (hh.below hb).freeze).mono ?_
          rintro e w'' ⟨cv, v', ρ', σ', rfl, h2, h3, h4, h5, h6, rfl⟩
          refine ⟨by rw [det_conc h2 hdet], ?_⟩
          exact hb.trans ⟨h4.os, h4.tape, h4.output, h4.size, fun k hk => h4.same k (Nat.lt_of_lt_of_le hk hb.size) (frz_not_owned _ _ _)⟩
        cases hstep : astep P S o.op (aev t) σ with
        | val v =>
          rw [hstep] at hq
          obtain ⟨cv, hcv, hrun⟩ := still_sound (step_val hstep) ht hh
          refine ⟨cv, fun w' hb => ?_, hrec _ _ (hput _ _ hcv) hq⟩
          unfold Oper.quietAt
          rw [hrun w' hb]
          exact ⟨rfl, rfl⟩
        | eff v σ' => rw [hstep] at hq; exact hq.elim
        | ora f args v =>
          rw [hstep] at hq
          obtain ⟨hc, hs'⟩ := step_call (.inr ⟨v, hstep⟩)
          obtain ⟨h1, h2⟩ := hS.ok f args v (hs' v hstep)
          exact callcase f args v hc h1 ((h2 σ.freeze).mono fun _ _ h => h.1) hq
        | call f args =>
          rw [hstep] at hq
          obtain ⟨hc, _⟩ := step_call (.inl hstep)
          obtain ⟨v, h1, h2, h3⟩ := hq
          exact callcase f args v hc h1 h2 h3
        | bad => rw [hstep] at hq; exact hq.elim
      cases hgv : aguard t s.g with
      | yes => rw [hgv] at h hg; exact go hg h
      | no => rw [hgv] at h hg; exact skip hg h
      | test p =>
        rw [hgv] at h hg
        cases p
        · exact skip hg (by simpa [AG] using h)
        · exact go hg (by simpa [AG] using h)
      | bad => rw [hgv] at h; exact h.elim
    · cases hl

theorem ARs_sound {P : Program} {S : Orc} {ops : Array Oper} {N : Nat} {K : T → AHeap → Prop} {ρ : Nat → RI} {σ : AHeap} {w : World} (hh : HRel ρ σ w) :
    ∀ (l : List Oper) (sl : List SO), stripL ops l = some sl → l.all (fitsO N) = true → ∀ (t : T) (a : Act),
      TRel σ.next ρ N t a → ARs P S sl t σ K → wpStill P ops w (fun a' => ∃ t', TRel σ.next ρ N t' a' ∧ K t' σ) l a
  | [], sl, hl, _, t, a, ht, h => by
    simp only [stripL] at hl; cases hl
    exact ⟨t, ht, h⟩
  | o :: l, sl, hl, hf, t, a, ht, h => by
    simp only [stripL] at hl
    split at hl
    · rename_i s r hs hr
      cases hl
      simp only [List.all_cons, Bool.and_eq_true] at hf
      have hfit := fitsO_lt hf.1
      obtain ⟨hd, hop, hg⟩ := guard_sound hs ht
      simp only [ARs] at h
      rw [hd, hop] at h
      have hrec := ARs_sound (P := P) (S := S) (K := K) hh l r hr hf.2
      have hput : ∀ v cv, VR σ.next ρ v cv → TRel σ.next ρ N (aput t o.dst v) (a.put o.dst cv) := fun v cv hv => by
        cases hdd : o.dst with
        | none => exact ht
        | some d => exact ht.put (hfit d hdd) hv
      have skip : Region.wanted o (yielded ops a.tmps) = false → ARs P S r (aput t o.dst (.tup [])) σ K → wpStill P ops w (fun a' => ∃ t', TRel σ.next ρ N t' a' ∧ K t' σ) (o :: l) a := fun hw hq => by
        unfold wpStill
        rw [if_neg (by rw [hw]; simp)]
        exact hrec _ _ (hput _ _ (VR.tup [] #[] .nil)) hq
      have go : Region.wanted o (yielded ops a.tmps) = true → ASs (astep P S o.op (aev t) σ) (fun v => ARs P S r (aput t o.dst v) σ K) → wpStill P ops w (fun a' => ∃ t', TRel σ.next ρ N t' a' ∧ K t' σ) (o :: l) a := fun hw hq => by
        unfold wpStill
        rw [if_pos hw]
        cases hstep : astep P S o.op (aev t) σ with
        | val v =>
          rw [hstep] at hq
          obtain ⟨cv, hcv, hrun⟩ := still_sound (step_val hstep) ht hh
          unfold Oper.still
          rw [hrun w (Below.refl _ _)]
          exact ⟨rfl, hrec _ _ (hput _ _ hcv) hq⟩
        | eff v σ' => rw [hstep] at hq; exact hq.elim
        | ora f args v => rw [hstep] at hq; exact hq.elim
        | call f args => rw [hstep] at hq; exact hq.elim
        | bad => rw [hstep] at hq; exact hq.elim
      cases hgv : aguard t s.g with
      | yes => rw [hgv] at h hg; exact go hg h
      | no => rw [hgv] at h hg; exact skip hg h
      | test p =>
        rw [hgv] at h hg
        cases p
        · exact skip hg (by simpa [AG] using h)
        · exact go hg (by simpa [AG] using h)
      | bad => rw [hgv] at h; exact h.elim
    · cases hl

theorem stripL_split (ops : Array Oper) : ∀ (l : List Oper) (sl : List SO) (n : Nat), stripL ops l = some sl → stripL ops (l.take n) = some (sl.take n) ∧ stripL ops (l.drop n) = some (sl.drop n)
  | [], sl, n, h => by simp only [stripL] at h; cases h; simp [stripL]
  | o :: l, sl, n, h => by
    simp only [stripL] at h
    split at h
    · rename_i s r hs hr
      cases h
      cases n with
      | zero => simp [stripL, hs, hr]
      | succ n =>
        obtain ⟨h1, h2⟩ := stripL_split ops l r n hr
        simp [stripL, hs, h1, h2]
    · cases h

/-! ### Code -/
/-- What the code behind 'sc' does from slots t and memory σ on. -/
def AW (P : Program) (N n0 : Nat) (sc : SC) (t : T) (σ : AHeap) (Q : Exit → T → AHeap → Prop) : Prop :=
  ∀ m c, strip m P N c = some sc → ∀ (ρ0 : Nat → RI) (σ0 : AHeap) (w0 : World) (ρ : Nat → RI) (a : Act) (w : World), St n0 N ρ0 σ0 w0 ρ t σ a w →
    c.wp P (fun e a' w' => ∃ ρ' t' σ', St n0 N ρ0 σ0 w0 ρ' t' σ' a' w' ∧ Q e t' σ') a w

def seqK (F : T → AHeap → Prop) (Q : Exit → T → AHeap → Prop) : Exit → T → AHeap → Prop
  | .normal, t, σ => F t σ
  | e, t, σ => Q e t σ
def blockK (id : Nat) (Q : Exit → T → AHeap → Prop) : Exit → T → AHeap → Prop
  | .exit id', t, σ => if id' = id then Q .normal t σ else Q (.exit id') t σ
  | e, t, σ => Q e t σ
def noGotoK (Q : Exit → T → AHeap → Prop) : Exit → T → AHeap → Prop
  | .goto _, _, _ => False
  | e, t, σ => Q e t σ
def ACond (v : AV) (x y : Unit → Prop) (_ : Hd (x, y) := ⟨⟩) : Prop :=
  match v with
  | .bool p => if p = true then x () else y ()
  | _ => False

/-- A loop that the walk stops at. -/
def LPK (P : Program) (N n0 : Nat) (a : SC) (t : T) (σ : AHeap) (Q : Exit → T → AHeap → Prop) (_ : Hd (a, Q) := ⟨⟩) : Prop := AW P N n0 (.loop a) t σ Q
def AX (P : Program) (S : Orc) (N n0 : Nat) : SC → T → AHeap → (Exit → T → AHeap → Prop) → Prop
  | .skip, t, σ, Q => Q .normal t σ
  | .reg ops, t, σ, Q => AR P S ops t σ (Q .normal)
  | .regq ops, t, σ, Q => ARq P S ops t σ (Q .normal)
  | .regs hd tl, t, σ, Q => ARs P S hd t σ fun t σ => AR P S tl t σ (Q .normal)
  | .rega r, t, σ, Q => ART P S r t σ (Q .normal)
  | .regh r, t, σ, Q => AHT P S r (some []) t σ (Q .normal)
  | .seq a b, t, σ, Q => AX P S N n0 a t σ (seqK (fun t σ => AX P S N n0 b t σ Q) Q)
  | .cond c a b, t, σ, Q => ACond (aev t c) (fun _ => AX P S N n0 a t σ Q) (fun _ => AX P S N n0 b t σ Q)
  | .block id a, t, σ, Q => AX P S N n0 a t σ (blockK id Q)
  | .loop a, t, σ, Q => LPK P N n0 a t σ Q
  | .scope a, t, σ, Q => AX P S N n0 a t σ (noGotoK Q)
  | .exit id, t, σ, Q => Q (.exit id) t σ
  | .ret, t, σ, Q => Q .ret t σ

theorem St.drew {n0 N : Nat} {ρ0 ρ : Nat → RI} {σ0 σ : AHeap} {w0 w : World} {t : T} {a : Act} (h : St n0 N ρ0 σ0 w0 ρ t σ a w) : St n0 N ρ0 σ0 w0 ρ t σ a w.drew :=
  h.step (h.hrel.below ((Below.refl _ _).drew)) (Fr.below ((Below.refl _ _).drew)) (Nat.le_refl _) (fun _ _ => rfl)

theorem stripL_get (ops : Array Oper) : ∀ (l : List Oper) (sl : List SO), stripL ops l = some sl → ∀ (i : Nat) (s : SO), sl[i]? = some s → ∃ o : Oper, l[i]? = some o ∧ stripO ops o = some s
  | [], sl, h, i, s, hi => by simp only [stripL] at h; cases h; simp at hi
  | o :: l, sl, h, i, s, hi => by
    simp only [stripL] at h
    split at h
    · rename_i s' r hs hr
      cases h
      cases i with
      | zero => simp at hi; subst hi; exact ⟨o, by simp, hs⟩
      | succ i => simp at hi; simpa using stripL_get ops l r hr i s hi
    · cases h

theorem ART_bothL {P : Program} {S : Orc} {t : T} {σ : AHeap} {K : T → AHeap → Prop} : ∀ (l : List RT), ART P S (bothL l) t σ K → ∀ r ∈ l, ART P S r t σ K
  | [], h, r, hr => by cases hr
  | [x], h, r, hr => by simp at hr; subst hr; exact h
  | x :: y :: l, h, r, hr => by
    simp only [bothL, ART] at h
    rcases List.mem_cons.1 hr with rfl | hr
    · exact h.1
    · exact ART_bothL (y :: l) h.2 r hr

theorem ART_sound {P : Program} {S : Orc} (hS : SOK P S) {ops : Array Oper} {sl : List SO} (hsl : stripL ops ops.toList = some sl) (hns : Region.noSelect ops = true) {n0 N : Nat} (hf : ops.toList.all (fitsO N) = true)
    {ρ0 : Nat → RI} {σ0 : AHeap} {w0 : World} {Q : Exit → Act → World → Prop} {K : T → AHeap → Prop}
    (hpanic : ∀ c a w, ¬ Q (.panic c) a w) (hK : ∀ ρ t σ a w, St n0 N ρ0 σ0 w0 ρ t σ a w → K t σ → Q .normal a w) : ∀ (n : Nat) (listed : Array Bool) (ρ : Nat → RI) (t : T) (σ : AHeap) (a : Act) (w : World),
      St n0 N ρ0 σ0 w0 ρ t σ a w → ART P S (mkRT ops sl n listed) t σ K → wpAny P .any ops Q n listed a w
  | 0, listed, ρ, t, σ, a, w, hst, h => by
    simp only [mkRT] at h
    split at h
    · rename_i hr
      exact ⟨by simpa using hr, hK _ _ _ _ _ hst h⟩
    · exact h.elim
  | n + 1, listed, ρ, t, σ, a, w, hst, h => by
    have hrec := ART_sound hS hsl hns (n0 := n0) hf (ρ0 := ρ0) (σ0 := σ0) (w0 := w0) hpanic hK n
    have hfitI : ∀ (i : Nat) (o : Oper), ops.toList[i]? = some o → ∀ x, o.dst = some x → x < N := fun i o ho =>
      fitsO_lt ((List.all_eq_true.1 hf) o (List.mem_of_getElem? ho))
    simp only [mkRT] at h
    split at h
    · rename_i i hfind
      have hmem := List.mem_of_find?_eq_some hfind
      have hprop := List.find?_some hfind
      simp only [Bool.and_eq_true] at hprop
      split at h
      · rename_i s hs
        obtain ⟨o, ho, hstrip⟩ := stripL_get ops ops.toList sl hsl i s hs
        have hoi : ops[i]? = some o := by simpa using ho
        obtain ⟨hd, hop, hg⟩ := guard_sound hstrip hst.trel
        have hpure : isPure o.op = true := by
          have h1 := hprop.1
          rw [hoi] at h1
          simp only [Option.map_some, Option.getD_some, Bool.and_eq_true] at h1
          exact h1.2
        simp only [ART] at h
        rw [hd, hop] at h
        have hfit := hfitI i o ho
        have fin : ∀ (v : AV) (cv : Value), VR σ.next ρ v cv → Yields P ops o cv a → ART P S (mkRT ops sl n (listed.setIfInBounds i true)) (aput t o.dst v) σ K → wpAny P .any ops Q (n + 1) listed a w := fun v cv hv hy hq =>
          wpAny_take hoi hns hprop.2 (by simpa using hmem) (fun c a w hp => (hpanic _ _ _ hp).elim) hy (hrec _ ρ _ σ _ w (hst.val hfit hv) hq)
        have skip : Region.wanted o (yielded ops a.tmps) = false → ART P S (mkRT ops sl n (listed.setIfInBounds i true)) (aput t o.dst (.tup [])) σ K → wpAny P .any ops Q (n + 1) listed a w := fun hw hq =>
          fin (.tup []) undef (VR.tup [] #[] .nil) (.inr ⟨hw, rfl⟩) hq
        have go : Region.wanted o (yielded ops a.tmps) = true → ASs (astep P S o.op (aev t) σ) (fun v => ART P S (mkRT ops sl n (listed.setIfInBounds i true)) (aput t o.dst v) σ K) → wpAny P .any ops Q (n + 1) listed a w := fun hw hq => by
          cases hstep : astep P S o.op (aev t) σ with
          | val v =>
            rw [hstep] at hq
            obtain ⟨cv, hcv, hrun⟩ := still_sound0 (step_val hstep) hst.trel hst.hrel
            exact fin v cv hcv (.inl ⟨hw, fun w' => hrun w' (.inl hpure)⟩) hq
          | eff v σ' => rw [hstep] at hq; exact hq.elim
          | ora f args v => rw [hstep] at hq; exact hq.elim
          | call f args => rw [hstep] at hq; exact hq.elim
          | bad => rw [hstep] at hq; exact hq.elim
        cases hgv : aguard t s.g with
        | yes => rw [hgv] at h hg; exact go hg h
        | no => rw [hgv] at h hg; exact skip hg h
        | test p =>
          rw [hgv] at h hg
          cases p
          · exact skip hg (by simpa [AG] using h)
          · exact go hg (by simpa [AG] using h)
        | bad => rw [hgv] at h; exact h.elim
      · exact h.elim
    · rename_i hfind
      by_cases hne : Region.ready .any ops listed = []
      · rw [hne] at h
        simp only [List.map_nil, bothL, ART] at h
      · refine wpAny_all rfl hne (fun i hi => ?_)
        have hall := ART_bothL _ h _ (List.mem_map.2 ⟨i, hi, rfl⟩)
        split at hall
        · rename_i s hs
          obtain ⟨o, ho, hstrip⟩ := stripL_get ops ops.toList sl hsl i s hs
          have hoi : ops[i]? = some o := by simpa using ho
          obtain ⟨hd, hop, hg⟩ := guard_sound hstrip hst.trel
          simp only [ART] at hall
          rw [hd, hop] at hall
          have hfit := hfitI i o ho
          unfold wpOp
          rw [hoi]
          simp only []
          have skip : Region.wanted o (yielded ops a.tmps) = false → ART P S (mkRT ops sl n (listed.setIfInBounds i true)) (aput t o.dst (.tup [])) σ K →
              (if Region.wanted o (yielded ops a.tmps) then o.wp P a w (wpAny P .any ops Q n (listed.setIfInBounds i true)) Q ∨ (o.asks P a w ∧ LetsOut Q) else wpAny P .any ops Q n (listed.setIfInBounds i true) (a.put o.dst undef) w) := fun hw hq => by
            rw [if_neg (by rw [hw]; simp)]
            exact hrec _ ρ _ σ _ w (hst.val hfit (VR.tup [] #[] .nil)) hq
          have go : Region.wanted o (yielded ops a.tmps) = true → AS P σ (astep P S o.op (aev t) σ) (fun v σ' => ART P S (mkRT ops sl n (listed.setIfInBounds i true)) (aput t o.dst v) σ' K) →
              (if Region.wanted o (yielded ops a.tmps) then o.wp P a w (wpAny P .any ops Q n (listed.setIfInBounds i true)) Q ∨ (o.asks P a w ∧ LetsOut Q) else wpAny P .any ops Q n (listed.setIfInBounds i true) (a.put o.dst undef) w) := fun hw hq => by
            rw [if_pos hw]
            left
            have callcase : ∀ (f : FuncId) (args : List AV) (R : AV → AHeap → Prop), acall o.op (aev t) = some (f, args) → ACalls P f args σ R → (∀ v σ', R v σ' → ART P S (mkRT ops sl n (listed.setIfInBounds i true)) (aput t o.dst v) σ' K) → o.wp P a w (wpAny P .any ops Q n (listed.setIfInBounds i true)) Q := fun f args R hc hcalls hR => by
              obtain ⟨cargs, hv, hrun⟩ := call_sound hc hcalls.1 hst.trel
              unfold Oper.wp
              rw [hrun, Oper.upon_enter]
              refine (hcalls.2 ρ w cargs hv hst.hrel).mono ?_
              rintro e w' ⟨cv, v, ρ', σ', rfl, h2, h3, h4, h5, h6, h7⟩
              exact hrec _ ρ' _ σ' _ w' ((hst.step h3 h4 h5 h6).val hfit h2) (hR _ _ h7)
            cases hstep : astep P S o.op (aev t) σ with
            | val v =>
              rw [hstep] at hq
              obtain ⟨cv, hcv, hrun⟩ := still_sound (step_val hstep) hst.trel hst.hrel
              unfold Oper.wp
              rw [hrun w (Below.refl _ _), Oper.upon_value]
              exact hrec _ ρ _ σ _ w (hst.val hfit hcv) hq
            | eff v σ' =>
              rw [hstep] at hq
              obtain ⟨x, w', ρ', cv, hrun, hr, hv, hh, hfr, hn, he⟩ := eff_sound (step_eff hstep) hst.trel hst.hrel
              unfold Oper.wp
              rw [hrun]
              have := hrec _ ρ' _ σ' _ w' ((hst.step hh hfr hn he).val hfit hv) hq
              rcases hr with rfl | ⟨rfl, rfl⟩
              · exact this
              · exact this
            | ora f args v =>
              rw [hstep] at hq
              obtain ⟨hc, hs⟩ := step_call (.inr ⟨v, hstep⟩)
              exact callcase f args _ hc ((hS.ok f args v (hs v hstep)).2 σ) (fun v' σ' ⟨h1, h2⟩ => by rw [h1, h2]; exact hq)
            | call f args =>
              rw [hstep] at hq
              obtain ⟨hc, _⟩ := step_call (.inl hstep)
              exact callcase f args _ hc hq (fun v' σ' h1 => h1)
            | bad => rw [hstep] at hq; exact hq.elim
          cases hgv : aguard t s.g with
          | yes => rw [hgv] at hall hg; exact go hg hall
          | no => rw [hgv] at hall hg; exact skip hg hall
          | test p =>
            rw [hgv] at hall hg
            cases p
            · exact skip hg (by simpa [AG] using hall)
            · exact go hg (by simpa [AG] using hall)
          | bad => rw [hgv] at hall; exact hall.elim
        · exact hall.elim

theorem after_sub {ops : Array Oper} {z k : Nat} {o : Oper} (hz : ((aftOf (RegionTabs.of .any ops)).drop z).all (fun a => sub (2 ^ z - 1) a) = true) (hk : z ≤ k) (ho : ops[k]? = some o) {i : Nat} (hi : i < z) : ∃ e ∈ o.after, Region.binds .any e = true ∧ e.on = i := by
  have h1 : (aftOf (RegionTabs.of .any ops))[k]? = some (bits ((RegionTabs.of .any ops).after.getD k [])) := by
    unfold aftOf
    have hlt := (Array.getElem?_eq_some_iff.1 ho).1
    have hsz : (RegionTabs.of .any ops).after.size = ops.size := by simp [RegionTabs.of, Region.tabAfter]
    rw [List.getElem?_map, Array.getElem?_toList, Array.getD_eq_getD_getElem?, Array.getElem?_eq_getElem (by omega)]; rfl
  have h2 : sub (2 ^ z - 1) (bits ((RegionTabs.of .any ops).after.getD k [])) = true := by
    rw [List.all_eq_true] at hz
    refine hz _ (List.mem_iff_getElem?.2 ⟨k - z, ?_⟩)
    rw [List.getElem?_drop, show z + (k - z) = k by omega, h1]
  rw [sub_iff] at h2
  have h3 := h2 i (by rw [Nat.testBit_two_pow_sub_one]; simpa using hi)
  rw [bits_test, RegionTabs.after_at .any ops k o ho] at h3
  simp only [List.contains_eq_mem, List.mem_map, List.mem_filter, decide_eq_true_eq, Array.mem_toList_iff] at h3
  obtain ⟨e, ⟨he, hb⟩, hon⟩ := h3
  exact ⟨e, he, hb, hon⟩

theorem AHT_sound {P : Program} {S : Orc} {ops : Array Oper} {sl : List SO} (hsl : stripL ops ops.toList = some sl) (hns : Region.noSelect ops = true) {n0 N : Nat} (hf : ops.toList.all (fitsO N) = true) {z : Nat}
    (hz : ((aftOf (RegionTabs.of .any ops)).drop z).all (fun a => sub (2 ^ z - 1) a) = true)
    {ρ0 : Nat → RI} {σ0 : AHeap} {w0 : World} {Q : Exit → Act → World → Prop} {K : T → AHeap → Prop}
    (hpanic : ∀ c a w, ¬ Q (.panic c) a w) (hK : ∀ ρ t σ a w, St n0 N ρ0 σ0 w0 ρ t σ a w → K t σ → Q .normal a w) : ∀ (n : Nat) (listed : Array Bool) (L : Nat) (H : Option (List Nat)) (HC : List (Nat × Option Obj)) (ρ : Nat → RI) (t : T) (σ : AHeap) (a : Act) (w : World),
      MR ops.size listed L → St n0 N ρ0 σ0 w0 ρ t σ a w → HInv H HC ρ σ w → AHT P S (HT.of sl (mkI (aftOf (RegionTabs.of .any ops)) (cfOf (RegionTabs.of .any ops)) (ops.toList.map fun o => isStill o.op && isPure o.op) (ops.toList.map fun o => isLoad o.op) z n L)) H t σ K →
      wpAnyF P .any ops Q (fun i => Nat.ble z i) (SH HC) n listed a w := by
  have hsz : (RegionTabs.of .any ops).after.size = ops.size := by simp [RegionTabs.of, Region.tabAfter]
  intro n
  induction n with
  | zero =>
    intro listed L H HC ρ t σ a w hmr hst hinv h
    rw [mkI, mr_ready (T := RegionTabs.of .any ops) (by rw [hsz]; exact hmr), RegionTabs.ready_eq] at h
    split at h
    · rename_i hr
      exact ⟨by simpa using hr, hK _ _ _ _ _ hst (by simpa only [HT.of, AHT] using h)⟩
    · simp only [HT.of, AHT] at h
  | succ n hrec =>
    intro listed L H HC ρ t σ a w hmr hst hinv h
    have hfitI : ∀ (i : Nat) (o : Oper), ops.toList[i]? = some o → ∀ x, o.dst = some x → x < N := fun i o ho =>
      fitsO_lt ((List.all_eq_true.1 hf) o (List.mem_of_getElem? ho))
    have hmr' : MR (RegionTabs.of .any ops).after.size listed L := by rw [hsz]; exact hmr
    have hlt : ∀ i, i ∈ Region.ready .any ops listed → i < ops.size := fun i hi => by
      obtain ⟨_, o, ho, _⟩ := mem_ready.1 hi
      exact (Array.getElem?_eq_some_iff.1 ho).1
    rw [mkI, mr_ready hmr', RegionTabs.ready_eq] at h
    simp only [forceN_eq] at h
    split at h
    · rename_i i hfind
      have hmem := List.mem_of_find?_eq_some hfind
      have hil := hlt i hmem
      have hprop := List.find?_some hfind
      simp only [Bool.and_eq_true] at hprop
      rw [mr_free hmr' (by rw [hsz]; exact hil), RegionTabs.free_eq] at hprop
      obtain ⟨o, hoi⟩ : ∃ o, ops[i]? = some o := ⟨ops[i], Array.getElem?_eq_getElem hil⟩
      have ho : ops.toList[i]? = some o := by simpa using hoi
      have hpu : ∀ g : Oper → Bool, (ops.toList.map g).getD i false = g o := fun g => by
        rw [List.getD_eq_getElem?_getD, List.getElem?_map, ho]; rfl
      rw [hpu, hpu] at hprop
      rw [hpu] at h
      have hmrn := mr_set hmr hil
      have hfit := hfitI i o ho
      -- pure operations
      have pureC : isPure o.op = true → isStill o.op = true → (Nat.ble z i = true ∨ ∃ H', H = some H') → ∀ s, stripO ops o = some s → AG (aguard t s.g) (fun _ => ASs (astep P S s.op (aev t) σ) fun v => AHT P S (HT.of sl (mkI (aftOf (RegionTabs.of .any ops)) (cfOf (RegionTabs.of .any ops)) (ops.toList.map fun o => isStill o.op && isPure o.op) (ops.toList.map fun o => isLoad o.op) z n (Nat.lor L (2 ^ i)))) H (aput t s.dst v) σ K) (fun _ => AHT P S (HT.of sl (mkI (aftOf (RegionTabs.of .any ops)) (cfOf (RegionTabs.of .any ops)) (ops.toList.map fun o => isStill o.op && isPure o.op) (ops.toList.map fun o => isLoad o.op) z n (Nat.lor L (2 ^ i)))) H (aput t s.dst (.tup [])) σ K) →
          wpAnyF P .any ops Q (fun i => Nat.ble z i) (SH HC) (n + 1) listed a w := fun hpure _ hph s hstrip h => by
        obtain ⟨hd, hop, hg⟩ := guard_sound hstrip hst.trel
        rw [hd, hop] at h
        have hSi : Nat.ble z i = true ∨ SH HC w := by
          rcases hph with h1 | ⟨H', rfl⟩
          · exact .inl h1
          · exact .inr hinv.1
        have fin : ∀ (v : AV) (cv : Value), VR σ.next ρ v cv → YieldsIf P ops (fun _ => True) o cv a → AHT P S (HT.of sl (mkI (aftOf (RegionTabs.of .any ops)) (cfOf (RegionTabs.of .any ops)) (ops.toList.map fun o => isStill o.op && isPure o.op) (ops.toList.map fun o => isLoad o.op) z n (Nat.lor L (2 ^ i)))) H (aput t o.dst v) σ K → wpAnyF P .any ops Q (fun i => Nat.ble z i) (SH HC) (n + 1) listed a w := fun v cv hv hy hq =>
          wpAnyF_first hoi (Region.noSelect_spec hns) (fun c a w hp => (hpanic _ _ _ hp).elim) (S' := fun _ => True) (fun j oj hj hji hno w hw => ⟨trivial, by
              rcases hw with hw | hw
              · by_cases hiz : z ≤ i
                · exact .inl (by simpa using hiz)
                · obtain ⟨e, he, hb, hon⟩ := after_sub hz (by simpa using hw) hj (Nat.lt_of_not_le hiz)
                  exact absurd hon (hno e he hb)
              · exact .inr hw⟩) n listed a w (Region.free_spec hoi hprop.2) hmem hy trivial hSi
            (hrec _ _ H HC ρ _ σ _ w hmrn (hst.val hfit hv) hinv hq)
        have skip : Region.wanted o (yielded ops a.tmps) = false → AHT P S (HT.of sl (mkI (aftOf (RegionTabs.of .any ops)) (cfOf (RegionTabs.of .any ops)) (ops.toList.map fun o => isStill o.op && isPure o.op) (ops.toList.map fun o => isLoad o.op) z n (Nat.lor L (2 ^ i)))) H (aput t o.dst (.tup [])) σ K → wpAnyF P .any ops Q (fun i => Nat.ble z i) (SH HC) (n + 1) listed a w := fun hw hq =>
          fin (.tup []) undef (VR.tup [] #[] .nil) (.inr ⟨hw, rfl⟩) hq
        have go : Region.wanted o (yielded ops a.tmps) = true → ASs (astep P S o.op (aev t) σ) (fun v => AHT P S (HT.of sl (mkI (aftOf (RegionTabs.of .any ops)) (cfOf (RegionTabs.of .any ops)) (ops.toList.map fun o => isStill o.op && isPure o.op) (ops.toList.map fun o => isLoad o.op) z n (Nat.lor L (2 ^ i)))) H (aput t o.dst v) σ K) → wpAnyF P .any ops Q (fun i => Nat.ble z i) (SH HC) (n + 1) listed a w := fun hw hq => by
          cases hstep : astep P S o.op (aev t) σ with
          | val v =>
            rw [hstep] at hq
            obtain ⟨cv, hcv, hrun⟩ := still_sound0 (step_val hstep) hst.trel hst.hrel
            exact fin v cv hcv (.inl ⟨hw, fun w' _ => hrun w' (.inl hpure)⟩) hq
          | eff v σ' => rw [hstep] at hq; exact hq.elim
          | ora f args v => rw [hstep] at hq; exact hq.elim
          | call f args => rw [hstep] at hq; exact hq.elim
          | bad => rw [hstep] at hq; exact hq.elim
        cases hgv : aguard t s.g with
        | yes => rw [hgv] at h hg; exact go hg h
        | no => rw [hgv] at h hg; exact skip hg h
        | test p =>
          rw [hgv] at h hg
          cases p
          · exact skip hg (by simpa [AG] using h)
          · exact go hg (by simpa [AG] using h)
        | bad => rw [hgv] at h; exact h.elim
      obtain ⟨s, hs⟩ : ∃ s, sl[i]? = some s := by
        cases hs : sl[i]? with
        | some s => exact ⟨s, rfl⟩
        | none =>
          exfalso
          cases h1 : Nat.ble z i <;> cases h2 : (isStill o.op && isPure o.op) <;> simp only [h1, h2, cond_true, cond_false, HT.of, hs, AHT] at h
      obtain ⟨o', ho', hstrip⟩ := stripL_get ops ops.toList sl hsl i s hs
      rw [ho] at ho'; cases ho'
      cases h1 : Nat.ble z i with
      | true =>
        rw [h1] at h hprop
        simp only [cond_true, HT.of, hs, AHT, Bool.not_true, Bool.and_false, Bool.or_false, Bool.and_eq_true] at h hprop
        exact pureC hprop.1.2 hprop.1.1 (.inl h1) s hstrip h
      | false =>
        rw [h1] at h hprop
        cases h2 : (isStill o.op && isPure o.op) with
        | true =>
          rw [h2] at h
          simp only [Bool.and_eq_true] at h2
          simp only [cond_true, cond_false, HT.of, hs] at h
          cases H with
          | none => simp only [AHT] at h
          | some H =>
            simp only [AHT] at h
            exact pureC h2.2 h2.1 (.inr ⟨_, rfl⟩) s hstrip h
        | false =>
          rw [h2] at h hprop
          simp only [cond_false, HT.of, hs] at h
          obtain ⟨hd, hop, hg⟩ := guard_sound hstrip hst.trel
          rw [hop] at h
          split at h
          rotate_left
          · simp only [AHT] at h
          rename_i ty x hop'
          cases H with
          | none => simp only [AHT] at h
          | some H =>
            simp only [AHT] at h
            rw [hd, hop] at h
            have hSH : SH HC w := hinv.1
            have hno : ∀ j oj, ops[j]? = some oj → (∀ e ∈ oj.after, Region.binds .any e = true → e.on ≠ i) → ¬ Nat.ble z j = true := fun j oj hj hno hw => by
              have hiz : ¬ z ≤ i := fun hle => by have : Nat.ble z i = true := by simpa using hle
                                                  rw [this] at h1; cases h1
              obtain ⟨e, he, hb, hon⟩ := after_sub hz (by simpa using hw) hj (Nat.lt_of_not_le hiz)
              exact absurd hon (hno e he hb)
            have skip : Region.wanted o (yielded ops a.tmps) = false → AHT P S (HT.of sl (mkI (aftOf (RegionTabs.of .any ops)) (cfOf (RegionTabs.of .any ops)) (ops.toList.map fun o => isStill o.op && isPure o.op) (ops.toList.map fun o => isLoad o.op) z n (Nat.lor L (2 ^ i)))) (some H) (aput t o.dst (.tup [])) σ K → wpAnyF P .any ops Q (fun i => Nat.ble z i) (SH HC) (n + 1) listed a w := fun hw hq =>
              wpAnyF_first hoi (Region.noSelect_spec hns) (fun c a w hp => (hpanic _ _ _ hp).elim) (S' := SH HC) (v := undef) (fun j oj hj hji hn w hw => by
                  rcases hw with hw | hw
                  · exact absurd hw (hno j oj hj hn)
                  · exact ⟨hw, .inr hw⟩) n listed a w (Region.free_spec hoi hprop.2) hmem (.inr ⟨hw, rfl⟩) hSH (.inr hSH)
                (hrec _ _ (some H) HC ρ _ σ _ w hmrn (hst.val hfit (VR.tup [] #[] .nil)) hinv hq)
            have go : Region.wanted o (yielded ops a.tmps) = true → ASs (astep P S o.op (aev t) σ) (fun v => aholdP (aev t x) H fun H' => AHT P S (HT.of sl (mkI (aftOf (RegionTabs.of .any ops)) (cfOf (RegionTabs.of .any ops)) (ops.toList.map fun o => isStill o.op && isPure o.op) (ops.toList.map fun o => isLoad o.op) z n (Nat.lor L (2 ^ i)))) (some H') (aput t o.dst v) σ K) → wpAnyF P .any ops Q (fun i => Nat.ble z i) (SH HC) (n + 1) listed a w := fun hw hq => by
              cases hstep : astep P S o.op (aev t) σ with
              | val v =>
                rw [hstep] at hq
                simp only [ASs] at hq
                have hst1 := step_val hstep
                rw [hop'] at hst1
                simp only [astill] at hst1
                cases hx : aev t x <;> rw [hx] at hq hst1 <;> simp only [aholdP] at hq
                rename_i r off
                have hev := hst.trel.ev x
                rw [hx] at hev
                obtain ⟨hrn, cv, hcv, hrun⟩ := load_held (P := P) hst1 hst.hrel hev
                have hopo : o.op = .load ty x := hop'
                have hrun' : ∀ w', ((σ.get r).live = true → w.heap[(ρ r).addr.block]? = none ∨ w'.heap[(ρ r).addr.block]? = w.heap[(ρ r).addr.block]?) → (execOp a.eval o).run P w' = .ok (.value cv) w' := fun w' hw' => by
                  unfold execOp
                  simp [hopo, hrun w' hw']
                by_cases hlv : (σ.get r).live = true
                · have hcons : SH (((ρ r).addr.block, w.heap[(ρ r).addr.block]?) :: HC) w := fun x hx => by
                    rcases List.mem_cons.1 hx with rfl | hx
                    · exact .inr rfl
                    · exact hSH x hx
                  refine wpAnyF_mono (S := SH (((ρ r).addr.block, w.heap[(ρ r).addr.block]?) :: HC)) (fun w' hw' x hx => hw' x (List.mem_cons_of_mem _ hx)) _ _ _ _ ?_
                  refine wpAnyF_first hoi (Region.noSelect_spec hns) (fun c a w hp => (hpanic _ _ _ hp).elim) (S' := SH (((ρ r).addr.block, w.heap[(ρ r).addr.block]?) :: HC)) (v := cv) (fun j oj hj hji hn w hw => by
                    rcases hw with hw | hw
                    · exact absurd hw (hno j oj hj hn)
                    · exact ⟨hw, .inr hw⟩) n listed a w (Region.free_spec hoi hprop.2) hmem (.inl ⟨hw, fun w' hS => hrun' w' fun _ => hS _ List.mem_cons_self⟩) hcons (.inr hcons)
                    (hrec _ _ (some (r :: H)) _ ρ _ σ _ w hmrn (hst.val hfit hcv) ⟨hcons, fun x hx => ?_⟩ hq)
                  rcases List.mem_cons.1 hx with rfl | hx
                  · exact ⟨r, List.mem_cons_self, hrn, hlv, rfl⟩
                  · obtain ⟨i, hi, h3⟩ := hinv.2 x hx
                    exact ⟨i, List.mem_cons_of_mem _ hi, h3⟩
                · refine wpAnyF_first hoi (Region.noSelect_spec hns) (fun c a w hp => (hpanic _ _ _ hp).elim) (S' := SH HC) (v := cv) (fun j oj hj hji hn w hw => by
                    rcases hw with hw | hw
                    · exact absurd hw (hno j oj hj hn)
                    · exact ⟨hw, .inr hw⟩) n listed a w (Region.free_spec hoi hprop.2) hmem (.inl ⟨hw, fun w' hS => hrun' w' fun h => absurd h hlv⟩) hSH (.inr hSH)
                    (hrec _ _ (some (r :: H)) HC ρ _ σ _ w hmrn (hst.val hfit hcv) ⟨hSH, fun x hx => ?_⟩ hq)
                  obtain ⟨i, hi, h3⟩ := hinv.2 x hx
                  exact ⟨i, List.mem_cons_of_mem _ hi, h3⟩
              | eff v σ' => rw [hstep] at hq; exact hq.elim
              | ora f args v => rw [hstep] at hq; exact hq.elim
              | call f args => rw [hstep] at hq; exact hq.elim
              | bad => rw [hstep] at hq; exact hq.elim
            cases hgv : aguard t s.g with
            | yes => rw [hgv] at h hg; exact go hg h
            | no => rw [hgv] at h hg; exact skip hg h
            | test p =>
              rw [hgv] at h hg
              cases p
              · exact skip hg (by simpa [AG] using h)
              · exact go hg (by simpa [AG] using h)
            | bad => rw [hgv] at h; exact h.elim
    · rename_i hfind
      by_cases hne : Region.ready .any ops listed = []
      · rw [hne] at h
        simp only [List.map_nil, bothI, HT.of, AHT] at h
      · refine ⟨fun h0 => absurd h0 hne, fun i hi => ?_⟩
        have hil := hlt i hi
        have hall := AHT_bothI _ h _ (List.mem_map.2 ⟨i, hi, rfl⟩)
        have hmrn := mr_set hmr hil
        obtain ⟨o, hoi⟩ : ∃ o, ops[i]? = some o := ⟨ops[i], Array.getElem?_eq_getElem hil⟩
        have ho : ops.toList[i]? = some o := by simpa using hoi
        have hfit := hfitI i o ho
        obtain ⟨s, hs⟩ : ∃ s, sl[i]? = some s := by
          cases hs : sl[i]? with
          | some s => exact ⟨s, rfl⟩
          | none =>
            exfalso
            cases h1 : Nat.ble z i <;> simp only [h1, cond_true, cond_false, HT.of, hs, AHT] at hall
        obtain ⟨o', ho', hstrip⟩ := stripL_get ops ops.toList sl hsl i s hs
        rw [ho] at ho'; cases ho'
        obtain ⟨hd, hop, hg⟩ := guard_sound hstrip hst.trel
        unfold wpOp
        rw [hoi]
        simp only []
        cases h1 : Nat.ble z i with
        | true =>
          rw [h1] at hall
          simp only [cond_true, HT.of, hs, AHT] at hall
          rw [hd, hop] at hall
          have skip : Region.wanted o (yielded ops a.tmps) = false → AHT P S (HT.of sl (mkI (aftOf (RegionTabs.of .any ops)) (cfOf (RegionTabs.of .any ops)) (ops.toList.map fun o => isStill o.op && isPure o.op) (ops.toList.map fun o => isLoad o.op) z n (Nat.lor L (2 ^ i)))) none (aput t o.dst (.tup [])) σ K →
              (if Region.wanted o (yielded ops a.tmps) then o.wp P a w (fun a' w' => (true = true ∨ SH HC w') ∧ wpAnyF P .any ops Q (fun i => Nat.ble z i) (SH HC) n (listed.setIfInBounds i true) a' w') Q ∨ (o.asks P a w ∧ LetsOut Q) else (true = true ∨ SH HC w) ∧ wpAnyF P .any ops Q (fun i => Nat.ble z i) (SH HC) n (listed.setIfInBounds i true) (a.put o.dst undef) w) := fun hw hq => by
            rw [if_neg (by rw [hw]; simp)]
            exact ⟨.inl rfl, hrec _ _ none HC ρ _ σ _ w hmrn (hst.val hfit (VR.tup [] #[] .nil)) trivial hq⟩
          have go : Region.wanted o (yielded ops a.tmps) = true → AHE P (astep P S o.op (aev t) σ) σ (fun v σ' => AHT P S (HT.of sl (mkI (aftOf (RegionTabs.of .any ops)) (cfOf (RegionTabs.of .any ops)) (ops.toList.map fun o => isStill o.op && isPure o.op) (ops.toList.map fun o => isLoad o.op) z n (Nat.lor L (2 ^ i)))) none (aput t o.dst v) σ' K) →
              (if Region.wanted o (yielded ops a.tmps) then o.wp P a w (fun a' w' => (true = true ∨ SH HC w') ∧ wpAnyF P .any ops Q (fun i => Nat.ble z i) (SH HC) n (listed.setIfInBounds i true) a' w') Q ∨ (o.asks P a w ∧ LetsOut Q) else (true = true ∨ SH HC w) ∧ wpAnyF P .any ops Q (fun i => Nat.ble z i) (SH HC) n (listed.setIfInBounds i true) (a.put o.dst undef) w) := fun hw hq => by
            rw [if_pos hw]
            left
            cases hstep : astep P S o.op (aev t) σ with
            | val v =>
              rw [hstep] at hq
              obtain ⟨cv, hcv, hrun⟩ := still_sound (step_val hstep) hst.trel hst.hrel
              unfold Oper.wp
              rw [hrun w (Below.refl _ _), Oper.upon_value]
              exact ⟨.inl rfl, hrec _ _ none HC ρ _ σ _ w hmrn (hst.val hfit hcv) trivial hq⟩
            | eff v σ' =>
              rw [hstep] at hq
              obtain ⟨x, w', ρ', cv, hrun, hr, hv, hh, hfr, hn, he⟩ := eff_sound (step_eff hstep) hst.trel hst.hrel
              unfold Oper.wp
              rw [hrun]
              have := hrec _ _ none HC ρ' _ σ' _ w' hmrn ((hst.step hh hfr hn he).val hfit hv) trivial hq
              rcases hr with rfl | ⟨rfl, rfl⟩
              · exact ⟨.inl rfl, this⟩
              · exact ⟨.inl rfl, this⟩
            | ora f args v => rw [hstep] at hq; exact hq.elim
            | call f args =>
              rw [hstep] at hq
              simp only [AHE] at hq
              obtain ⟨hc, _⟩ := step_call (.inl hstep)
              obtain ⟨cargs, hv, hrun⟩ := call_sound hc hq.1 hst.trel
              unfold Oper.wp
              rw [hrun, Oper.upon_enter]
              refine (hq.2 ρ w cargs hv hst.hrel).mono ?_
              rintro e w' ⟨cv, v, ρ', σ', rfl, h2, h3, h4, h5, h6, h7⟩
              exact ⟨.inl rfl, hrec _ _ none HC ρ' _ σ' _ w' hmrn ((hst.step h3 h4 h5 h6).val hfit h2) trivial h7⟩
            | bad => rw [hstep] at hq; exact hq.elim
          cases hgv : aguard t s.g with
          | yes => rw [hgv] at hall hg; exact go hg hall
          | no => rw [hgv] at hall hg; exact skip hg hall
          | test p =>
            rw [hgv] at hall hg
            cases p
            · exact skip hg (by simpa [AG] using hall)
            · exact go hg (by simpa [AG] using hall)
          | bad => rw [hgv] at hall; exact hall.elim
        | false =>
          rw [h1] at hall
          simp only [cond_false, HT.of, hs] at hall
          cases H with
          | none => simp only [AHT] at hall
          | some H =>
          simp only [AHT] at hall
          rw [hd, hop] at hall
          have skip : Region.wanted o (yielded ops a.tmps) = false → AHT P S (HT.of sl (mkI (aftOf (RegionTabs.of .any ops)) (cfOf (RegionTabs.of .any ops)) (ops.toList.map fun o => isStill o.op && isPure o.op) (ops.toList.map fun o => isLoad o.op) z n (Nat.lor L (2 ^ i)))) (some H) (aput t o.dst (.tup [])) σ K →
              (if Region.wanted o (yielded ops a.tmps) then o.wp P a w (fun a' w' => (false = true ∨ SH HC w') ∧ wpAnyF P .any ops Q (fun i => Nat.ble z i) (SH HC) n (listed.setIfInBounds i true) a' w') Q ∨ (o.asks P a w ∧ LetsOut Q) else (false = true ∨ SH HC w) ∧ wpAnyF P .any ops Q (fun i => Nat.ble z i) (SH HC) n (listed.setIfInBounds i true) (a.put o.dst undef) w) := fun hw hq => by
            rw [if_neg (by rw [hw]; simp)]
            exact ⟨.inr hinv.1, hrec _ _ (some H) HC ρ _ σ _ w hmrn (hst.val hfit (VR.tup [] #[] .nil)) hinv hq⟩
          have go : Region.wanted o (yielded ops a.tmps) = true → AHS P (astep P S o.op (aev t) σ) (fun _ => astep P S o.op (aev t) (hold H σ)) σ H (fun v σ' => AHT P S (HT.of sl (mkI (aftOf (RegionTabs.of .any ops)) (cfOf (RegionTabs.of .any ops)) (ops.toList.map fun o => isStill o.op && isPure o.op) (ops.toList.map fun o => isLoad o.op) z n (Nat.lor L (2 ^ i)))) (some H) (aput t o.dst v) σ' K) →
              (if Region.wanted o (yielded ops a.tmps) then o.wp P a w (fun a' w' => (false = true ∨ SH HC w') ∧ wpAnyF P .any ops Q (fun i => Nat.ble z i) (SH HC) n (listed.setIfInBounds i true) a' w') Q ∨ (o.asks P a w ∧ LetsOut Q) else (false = true ∨ SH HC w) ∧ wpAnyF P .any ops Q (fun i => Nat.ble z i) (SH HC) n (listed.setIfInBounds i true) (a.put o.dst undef) w) := fun hw hq => by
            rw [if_pos hw]
            left
            cases hstep : astep P S o.op (aev t) σ with
            | val v =>
              rw [hstep] at hq
              obtain ⟨cv, hcv, hrun⟩ := still_sound (step_val hstep) hst.trel hst.hrel
              unfold Oper.wp
              rw [hrun w (Below.refl _ _), Oper.upon_value]
              exact ⟨.inr hinv.1, hrec _ _ (some H) HC ρ _ σ _ w hmrn (hst.val hfit hcv) hinv hq⟩
            | eff v σ' =>
              rw [hstep] at hq
              simp only [AHS] at hq
              obtain ⟨hok, hkeep, hq⟩ := hq
              obtain ⟨x, w', ρ', cv, hrun, hr, hv, hh, hfr, hn, he⟩ := eff_sound (step_eff hstep) hst.trel hst.hrel
              cases hstep2 : astep P S o.op (aev t) (hold H σ) with
              | eff v2 σ2 =>
                obtain ⟨x2, w2, ρ2, cv2, hrun2, _, _, _, hfr2, _, _⟩ := eff_sound (σ := hold H σ) (step_eff hstep2) (ρ := ρ) hst.trel (hold_hrel H hst.hrel)
                rw [hrun] at hrun2
                cases hrun2
                have hinv' : HInv (some H) HC ρ' σ' w' := by
                  refine ⟨fun y hy => ?_, fun y hy => ?_⟩
                  · obtain ⟨i, hi, hin, hlv, hb⟩ := hinv.2 y hy
                    rcases hinv.1 y hy with h3 | h3
                    · exact .inl h3
                    · by_cases hy0 : y.2 = none
                      · exact .inl hy0
                      · refine .inr ?_
                        rw [← h3]
                        refine hfr2.same y.1 ?_ ?_
                        · rcases Nat.lt_or_ge y.1 w.heap.size with h4 | h4
                          · exact h4
                          · rw [Array.getElem?_eq_none h4] at h3; exact absurd h3.symm hy0
                        · rw [hb]; exact hold_not_owned hst.hrel hin hi hlv
                  · obtain ⟨i, hi, hin, hlv, hb⟩ := hinv.2 y hy
                    exact ⟨i, hi, Nat.lt_of_lt_of_le hin hn, by rw [hkeep.get i hi]; exact hlv, by rw [he i hin]; exact hb⟩
                unfold Oper.wp
                rw [hrun]
                have := hrec _ _ (some H) HC ρ' _ σ' _ w' hmrn ((hst.step hh hfr hn he).val hfit hv) hinv' hq
                rcases hr with rfl | ⟨rfl, rfl⟩
                · exact ⟨.inr hinv'.1, this⟩
                · exact ⟨.inr hinv'.1, this⟩
              | val v => rw [hstep2] at hok; exact hok.elim
              | ora f args v => rw [hstep2] at hok; exact hok.elim
              | call f args => rw [hstep2] at hok; exact hok.elim
              | bad => rw [hstep2] at hok; exact hok.elim
            | ora f args v => rw [hstep] at hq; exact hq.elim
            | call f args =>
              rw [hstep] at hq
              simp only [AHS, ACH] at hq
              obtain ⟨hc, _⟩ := step_call (.inl hstep)
              obtain ⟨cargs, hv, hrun⟩ := call_sound hc hq.1 hst.trel
              unfold Oper.wp
              rw [hrun, Oper.upon_enter]
              refine (hq.2 ρ w cargs hv (hold_hrel H hst.hrel)).mono ?_
              rintro e w' ⟨cv, v, ρ', σ2, rfl, h2, h3, h4, h5, h6, h7⟩
              have h5 : σ.next ≤ σ2.next := h5
              have h6 : ∀ i, i < σ.next → ρ' i = ρ i := h6
              obtain ⟨g1, g2⟩ := unhold_hrel hst.hrel h3 h4 h5 h6
              have hinv' : HInv (some H) HC ρ' (unhold H σ σ2) w' := by
                refine ⟨fun y hy => ?_, fun y hy => ?_⟩
                · obtain ⟨i, hi, hin, hlv, hb⟩ := hinv.2 y hy
                  rcases hinv.1 y hy with h8 | h8
                  · exact .inl h8
                  · by_cases hy0 : y.2 = none
                    · exact .inl hy0
                    · refine .inr ?_
                      rw [← h8]
                      refine h4.same y.1 ?_ ?_
                      · rcases Nat.lt_or_ge y.1 w.heap.size with h9 | h9
                        · exact h9
                        · rw [Array.getElem?_eq_none h9] at h8; exact absurd h8.symm hy0
                      · rw [hb]; exact hold_not_owned hst.hrel hin hi hlv
                · obtain ⟨i, hi, hin, hlv, hb⟩ := hinv.2 y hy
                  exact ⟨i, hi, Nat.lt_of_lt_of_le hin h5, by rw [unhold_in hi hin]; exact hlv, by rw [h6 i hin]; exact hb⟩
              exact ⟨.inr hinv'.1, hrec _ _ (some H) HC ρ' _ (unhold H σ σ2) _ w' hmrn ((hst.step g1 g2 h5 h6).val hfit h2) hinv' h7⟩
            | bad => rw [hstep] at hq; exact hq.elim
          cases hgv : aguard t s.g with
          | yes => rw [hgv] at hall hg; exact go hg hall
          | no => rw [hgv] at hall hg; exact skip hg hall
          | test p =>
            rw [hgv] at hall hg
            cases p
            · exact skip hg (by simpa [AG] using hall)
            · exact go hg (by simpa [AG] using hall)
          | bad => rw [hgv] at hall; exact hall.elim

set_option maxHeartbeats 2000000 in
theorem AX_sound {P : Program} {S : Orc} (hS : SOK P S) {N n0 : Nat} : ∀ (sc : SC) (t : T) (σ : AHeap) (Q : Exit → T → AHeap → Prop), AX P S N n0 sc t σ Q → AW P N n0 sc t σ Q := by
  intro sc
  induction sc with
  | skip =>
    intro t σ Q h md c hc ρ0 σ0 w0 ρ a w hst
    cases c <;> simp only [strip] at hc <;> try (cases hc; done)
    all_goals first
      | exact wp_skip ⟨ρ, t, σ, hst, h⟩
      | exact wp_label ⟨ρ, t, σ, hst, h⟩
      | (exfalso; first
          | (unfold stripR at hc; (repeat' split at hc) <;> cases hc; done)
          | (split at hc <;> cases hc; done)
          | (simp at hc; done))
  | reg sl =>
    intro t σ Q h md c hc ρ0 σ0 w0 ρ a w hst
    cases c <;> simp only [strip] at hc <;> try (cases hc; done)
    case region id ops draw =>
      unfold stripR at hc
      split at hc
      · rename_i hfit
        split at hc
        · rename_i l hl
          split at hc
          · rename_i hdraw
            cases hc
            subst hdraw
            refine wp_region_list ?_
            exact AR_sound hS (n0 := n0) (N := N) (ρ0 := ρ0) (σ0 := σ0) (w0 := w0) (K := Q .normal) (fun ρ t σ a w hst hq => ⟨ρ, t, σ, hst, hq⟩) ops.toList sl hl hfit ρ t σ a w hst h
          · (repeat' split at hc) <;> cases hc
        · cases hc
      · cases hc
    all_goals (exfalso; first | (split at hc <;> cases hc; done) | (simp at hc; done))
  | regq sl =>
    intro t σ Q h md c hc ρ0 σ0 w0 ρ a w hst
    cases c <;> simp only [strip] at hc <;> try (cases hc; done)
    case region id ops draw =>
      unfold stripR at hc
      split at hc
      · rename_i hfit
        split at hc
        · rename_i l hl
          split at hc
          · cases hc
          · rename_i hdraw
            split at hc
            · rename_i hm
              split at hc
              · rename_i hq
                cases hc
                simp only [Bool.and_eq_true] at hq
                have hdr : draw = true := by simpa using hdraw
                subst hdr
                have hst' := hst.drew
                refine wp_region_quiet (C := fun w' => Below w.drew.heap.size w.drew w') hm hq.2 (Below.refl _ _) ?_
                have := ARq_sound (n0 := n0) (ρ0 := ρ0) (σ0 := σ0) (w0 := w0) (K := Q .normal) hS hst'.hrel ops.toList sl hl hfit t a hst'.trel h
                have mono : ∀ (l : List Oper) (a : Act) (F G : Act → Prop), (∀ a, F a → G a) → wpQuiet P ops (fun w' => Below w.drew.heap.size w.drew w') F l a → wpQuiet P ops (fun w' => Below w.drew.heap.size w.drew w') G l a := by
                  intro l
                  induction l with
                  | nil => intro a F G hFG h; exact hFG a h
                  | cons o l ih =>
                    intro a F G hFG h
                    unfold wpQuiet at h ⊢
                    split
                    · rename_i hw
                      rw [if_pos hw] at h
                      exact Oper.quiet_mono (fun a => ih a F G hFG) h
                    · rename_i hw
                      rw [if_neg hw] at h
                      exact ih _ F G hFG h
                refine mono _ _ _ _ ?_ this
                rintro a' ⟨t', ht', hq'⟩ w' hb
                refine ⟨ρ, t', σ, ⟨ht', hst'.hrel.below hb, hst'.fr.trans (Fr.below hb), hst'.agree, hst'.le⟩, hq'⟩
              · (repeat' split at hc) <;> cases hc
            · cases hc
        · cases hc
      · cases hc
    all_goals (exfalso; first | (split at hc <;> cases hc; done) | (simp at hc; done))
  | regs hd tl =>
    intro t σ Q h md c hc ρ0 σ0 w0 ρ a w hst
    cases c <;> simp only [strip] at hc <;> try (cases hc; done)
    case region id ops draw =>
      unfold stripR at hc
      split at hc
      · rename_i hfit
        split at hc
        · rename_i l hl
          split at hc
          · cases hc
          · rename_i hdraw
            split at hc
            · rename_i hm
              split at hc
              · cases hc
              · split at hc
                · rename_i hq
                  cases hc
                  have hdr : draw = true := by simpa using hdraw
                  subst hdr
                  have hst' := hst.drew
                  obtain ⟨hl1, hl2⟩ := stripL_split ops ops.toList l (headLen ops.toList) hl
                  have hops : ops = ops.toList.toArray := by simp
                  have hfit1 : (ops.toList.take (headLen ops.toList)).all (fitsO N) = true := by
                    rw [List.all_eq_true] at hfit ⊢
                    exact fun o ho => hfit o (List.mem_of_mem_take ho)
                  have hfit2 : (ops.toList.drop (headLen ops.toList)).all (fitsO N) = true := by
                    rw [List.all_eq_true] at hfit ⊢
                    exact fun o ho => hfit o (List.mem_of_mem_drop ho)
                  have hs := ARs_sound (P := P) (S := S) (K := fun t σ => AR P S (l.drop (headLen ops.toList)) t σ (Q .normal)) hst'.hrel _ _ hl1 hfit1 t a hst'.trel h
                  have key := wp_region_still_tail (P := P) (id := id) (Q := fun e a' w' => ∃ ρ' t' σ', St n0 N ρ0 σ0 w0 ρ' t' σ' a' w' ∧ Q e t' σ') (a := a) (w := w) (l := ops.toList) (headLen ops.toList) hm (by simpa using hq) (by
                    have mono : ∀ (l : List Oper) (a : Act) (F G : Act → Prop), (∀ a, F a → G a) → wpStill P ops.toList.toArray w.drew F l a → wpStill P ops.toList.toArray w.drew G l a := by
                      intro l
                      induction l with
                      | nil => intro a F G hFG h; exact hFG a h
                      | cons o l ih =>
                        intro a F G hFG h
                        unfold wpStill at h ⊢
                        split
                        · rename_i hw
                          rw [if_pos hw] at h
                          exact Oper.still_mono (fun a => ih a F G hFG) h
                        · rename_i hw
                          rw [if_neg hw] at h
                          exact ih _ F G hFG h
                    rw [← hops] at mono ⊢
                    refine mono _ _ _ _ ?_ hs
                    rintro a' ⟨t', ht', hq'⟩
                    exact AR_sound hS (n0 := n0) (N := N) (ρ0 := ρ0) (σ0 := σ0) (w0 := w0) (K := Q .normal) (fun ρ t σ a w hst hq => ⟨ρ, t, σ, hst, hq⟩) _ _ hl2 hfit2 ρ t' σ a' w.drew ⟨ht', hst'.hrel, hst'.fr, hst'.agree, hst'.le⟩ hq')
                  rw [← hops] at key
                  exact key
                · (repeat' split at hc) <;> cases hc
            · cases hc
        · cases hc
      · cases hc
    all_goals (exfalso; first | (split at hc <;> cases hc; done) | (simp at hc; done))
  | rega rt =>
    intro t σ Q h md c hc ρ0 σ0 w0 ρ a w hst
    cases c <;> simp only [strip] at hc <;> try (cases hc; done)
    case region id ops draw =>
      unfold stripR at hc
      split at hc
      · rename_i hfit
        split at hc
        · rename_i l hl
          split at hc
          · cases hc
          · rename_i hdraw
            split at hc
            · rename_i hm
              split at hc
              · cases hc
              · split at hc
                · cases hc
                · split at hc
                  · split at hc <;> cases hc
                  split at hc
                  · rename_i hns
                    cases hc
                    have hdr : draw = true := by simpa using hdraw
                    subst hdr
                    have hst' := hst.drew
                    have key := ART_sound hS hl hns (n0 := n0) hfit (ρ0 := ρ0) (σ0 := σ0) (w0 := w0) (K := Q .normal)
                      (Q := fun e a' w' => match e with | .panic _ => False | e => ∃ ρ' t' σ', St n0 N ρ0 σ0 w0 ρ' t' σ' a' w' ∧ Q e t' σ') (fun c a w h => h) (fun ρ t σ a w hst hq => ⟨ρ, t, σ, hst, hq⟩) ops.size (Array.replicate ops.size false) ρ t σ a w.drew hst' (by
        have h1 : ART P S (mkRTt (RegionTabs.of .any ops) (ops.toList.map fun o => isStill o.op && isPure o.op) l ops.size (Array.replicate ops.size false)) t σ (Q .normal) := h
        rwa [mkRTt_eq] at h1)
                    refine Code.wp_mono ?_ (wp_region_any hm key)
                    intro e a' w' hq
                    cases e with
                    | panic c => exact hq.elim
                    | _ => exact hq
                  · cases hc
            · cases hc
        · cases hc
      · cases hc
    all_goals (exfalso; first | (split at hc <;> cases hc; done) | (simp at hc; done))
  | regh rt =>
    intro t σ Q h md c hc ρ0 σ0 w0 ρ a w hst
    cases c <;> simp only [strip] at hc <;> try (cases hc; done)
    case region id ops draw =>
      unfold stripR at hc
      split at hc
      · rename_i hfit
        split at hc
        · rename_i l hl
          split at hc
          · cases hc
          · rename_i hdraw
            split at hc
            · rename_i hm
              split at hc
              · cases hc
              · split at hc
                · cases hc
                · split at hc
                  · rename_i hcond
                    simp only [Bool.and_eq_true] at hcond
                    have hns := hcond.1.1
                    split at hc
                    · rename_i z hz
                      cases hc
                      have hdr : draw = true := by simpa using hdraw
                      subst hdr
                      have hst' := hst.drew
                      have hz' : ((aftOf (RegionTabs.of .any ops)).drop z).all (fun a => sub (2 ^ z - 1) a) = true := by
                        unfold hplan zfin at hz
                        rw [forceL_eq] at hz
                        have := List.mem_of_mem_head? (by rw [hz]; exact rfl)
                        have := (List.mem_filter.1 this).2
                        simp only [Bool.and_eq_true] at this
                        exact this.2
                      have h1 : AHT P S (HT.of l (htree ops z)) (some []) t σ (Q .normal) := h
                      unfold htree at h1
                      rw [forceL_eq, forceL_eq] at h1
                      have key := AHT_sound hl hns (n0 := n0) hfit hz' (ρ0 := ρ0) (σ0 := σ0) (w0 := w0) (K := Q .normal)
                        (Q := fun e a' w' => match e with | .panic _ => False | e => ∃ ρ' t' σ', St n0 N ρ0 σ0 w0 ρ' t' σ' a' w' ∧ Q e t' σ') (fun c a w h => h) (fun ρ t σ a w hst hq => ⟨ρ, t, σ, hst, hq⟩) ops.size (Array.replicate ops.size false) 0 (some []) [] ρ t σ a w.drew (mr_zero _) hst' ⟨fun x hx => (by cases hx), fun x hx => (by cases hx)⟩ h1
                      refine Code.wp_mono ?_ (wp_region_any hm (wpAny_of_F _ _ _ _ key))
                      intro e a' w' hq
                      cases e with
                      | panic c => exact hq.elim
                      | _ => exact hq
                    · cases hc
                  · split at hc <;> cases hc
            · cases hc
        · cases hc
      · cases hc
    all_goals (exfalso; first | (split at hc <;> cases hc; done) | (simp at hc; done))
  | seq x y ihx ihy =>
    intro t σ Q h md c hc ρ0 σ0 w0 ρ a w hst
    cases c <;> simp only [strip] at hc <;> try (cases hc; done)
    case seq a1 b1 =>
      split at hc
      · rename_i x' y' hx hy
        cases hc
        refine wp_seq ?_
        refine Code.wp_mono ?_ (ihx t σ _ h md a1 hx ρ0 σ0 w0 ρ a w hst)
        rintro e a' w' ⟨ρ', t', σ', hst', hq⟩
        cases e with
        | normal => exact ihy t' σ' Q hq md b1 hy ρ0 σ0 w0 ρ' a' w' hst'
        | _ => exact ⟨ρ', t', σ', hst', hq⟩
      · cases hc
    all_goals (exfalso; first
      | (unfold stripR at hc; (repeat' split at hc) <;> cases hc; done)
      | (split at hc <;> cases hc; done) | (simp at hc; done))
  | cond o x y ihx ihy =>
    intro t σ Q h md c hc ρ0 σ0 w0 ρ a w hst
    cases c <;> simp only [strip] at hc <;> try (cases hc; done)
    case cond o' a1 b1 =>
      split at hc
      · rename_i x' y' hx hy
        cases hc
        have hev := hst.trel.ev o
        simp only [AX] at h
        cases hv : aev t o <;> rw [hv] at h hev <;> simp only [ACond] at h
        rename_i p
        cases hcv : a.eval o <;> rw [hcv] at hev <;> cases hev
        refine wp_cond_split hcv (fun hp => ?_) (fun hp => ?_)
        · rw [if_pos hp] at h
          exact ihx t σ Q h md a1 hx ρ0 σ0 w0 ρ a w hst
        · rw [if_neg (by rw [hp]; simp)] at h
          exact ihy t σ Q h md b1 hy ρ0 σ0 w0 ρ a w hst
      · cases hc
    all_goals (exfalso; first
      | (unfold stripR at hc; (repeat' split at hc) <;> cases hc; done)
      | (split at hc <;> cases hc; done) | (simp at hc; done))
  | block id x ih =>
    intro t σ Q h md c hc ρ0 σ0 w0 ρ a w hst
    cases c <;> simp only [strip] at hc <;> try (cases hc; done)
    case block id' a1 =>
      simp only [Option.map_eq_some_iff] at hc
      obtain ⟨x', hx, he⟩ := hc
      cases he
      refine wp_block ?_
      refine Code.wp_mono ?_ (ih t σ _ h md a1 hx ρ0 σ0 w0 ρ a w hst)
      rintro e a' w' ⟨ρ', t', σ', hst', hq⟩
      cases e with
      | exit i =>
        simp only [blockK, Exit.inBlock] at hq ⊢
        split
        · rename_i hi; rw [if_pos hi] at hq; exact ⟨ρ', t', σ', hst', hq⟩
        · rename_i hi; rw [if_neg hi] at hq; exact ⟨ρ', t', σ', hst', hq⟩
      | _ => exact ⟨ρ', t', σ', hst', hq⟩
    all_goals (exfalso; first
      | (unfold stripR at hc; (repeat' split at hc) <;> cases hc; done)
      | (split at hc <;> cases hc; done) | (simp at hc; done))
  | loop x ih =>
    intro t σ Q h
    exact h
  | scope x ih =>
    intro t σ Q h md c hc ρ0 σ0 w0 ρ a w hst
    cases c <;> simp only [strip] at hc <;> try (cases hc; done)
    case scope a1 =>
      simp only [Option.map_eq_some_iff] at hc
      obtain ⟨x', hx, he⟩ := hc
      cases he
      refine wp_scope_straight ?_
      refine Code.wp_mono ?_ (ih t σ _ h md a1 hx ρ0 σ0 w0 ρ a w hst)
      rintro e a' w' ⟨ρ', t', σ', hst', hq⟩
      cases e with
      | goto l => exact hq.elim
      | _ => exact ⟨ρ', t', σ', hst', hq⟩
    all_goals (exfalso; first
      | (unfold stripR at hc; (repeat' split at hc) <;> cases hc; done)
      | (split at hc <;> cases hc; done) | (simp at hc; done))
  | exit id =>
    intro t σ Q h md c hc ρ0 σ0 w0 ρ a w hst
    cases c <;> simp only [strip] at hc <;> try (cases hc; done)
    case exit id' =>
      cases hc
      exact wp_exit ⟨ρ, t, σ, hst, h⟩
    all_goals (exfalso; first
      | (unfold stripR at hc; (repeat' split at hc) <;> cases hc; done)
      | (split at hc <;> cases hc; done) | (simp at hc; done))
  | ret =>
    intro t σ Q h md c hc ρ0 σ0 w0 ρ a w hst
    cases c <;> simp only [strip] at hc <;> try (cases hc; done)
    all_goals first
      | exact wp_ret ⟨ρ, t, σ, hst, h⟩
      | (exfalso; first
          | (unfold stripR at hc; (repeat' split at hc) <;> cases hc; done)
          | (split at hc <;> cases hc; done)
          | (simp at hc; done))

end Go.Proofs.Yteeakkakkjhgoaa.A
