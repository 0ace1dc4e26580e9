/- Code by the executor; functions; loops. Conditions: none. -/
import Derived.Test.YtkkbnbgdhpkfhaaA8
import Derived.Scope
set_option linter.unusedVariables false
set_option linter.unusedSimpArgs false
namespace Go.Proofs.Ytkkbnbgdhpkfhaa.A
open Go Go.RowKit

structure St (n0 N : Nat) (ρ0 : Nat → RI) (σ0 : AHeap) (w0 : World) (ρ : Nat → RI) (t : T) (σ : AHeap) (a : Act) (w : World) : Prop where
  trel : TRel σ.next ρ N t a
  hrel : HRel ρ σ w
  fr : Fr ρ0 σ0 w0 ρ σ w
  agree : ∀ i, i < n0 → ρ i = ρ0 i
  le : n0 ≤ σ.next

/-! ### Code without what the walk does not look at -/
inductive SC where
  | skip
  | reg (ops : List SO)
  | regq (ops : List SO)
  | regs (hd tl : List SO)
  | rega (r : RT)
  | seq (a b : SC)
  | cond (c : Operand) (a b : SC)
  | block (id : Nat) (a : SC)
  | loop (a : SC)
  | scope (a : SC)
  | exit (id : Nat)
  | ret

def stripO (ops : Array Oper) (o : Oper) : Option SO :=
  match o.guard with
  | none => some ⟨o.dst, o.op, none⟩
  | some (j, b) => match (ops[j]?).bind (·.dst) with
    | some d => some ⟨o.dst, o.op, some (d, b)⟩
    | none => none
def stripL (ops : Array Oper) : List Oper → Option (List SO)
  | [] => some []
  | o :: l => match stripO ops o, stripL ops l with
    | some s, some r => some (s :: r)
    | _, _ => none
def fitsO (N : Nat) (o : Oper) : Bool :=
  match o.dst with
  | some d => decide (d < N)
  | none => true
def isStill : Op → Bool
  | .move _ | .assign _ | .pick .. | .load .. | .binOp .. | .unOp .. | .convert .. | .fieldAddr .. | .field .. | .indexAddr .. | .index .. | .slice .. | .extract .. | .nilCheck _ | .makeFunc .. | .build .. => true
  | .call { callee := .builtin .len, .. } | .call { callee := .builtin .max, .. } | .call { callee := .builtin .min, .. } => true
  | _ => false
def isQuiet : Op → Bool
  | .call { callee := .value _, .. } => true
  | op => isStill op
def headLen (ops : List Oper) : Nat := (ops.takeWhile fun o => isStill o.op).length
def bothL : List RT → RT
  | [] => .bad
  | [r] => r
  | r :: rs => .both r (bothL rs)
def mkRT (ops : Array Oper) (sl : List SO) : Nat → Array Bool → RT
  | 0, listed => if (Region.ready .any ops listed).isEmpty then .done else .bad
  | n + 1, listed =>
    match (Region.ready .any ops listed).find? fun i => ((ops[i]?).map fun o => isStill o.op && isPure o.op).getD false && Region.free .any ops listed i with
    | some i => match sl[i]? with
      | some o => .take o (mkRT ops sl n (listed.setIfInBounds i true))
      | none => .bad
    | none => bothL ((Region.ready .any ops listed).map fun i => match sl[i]? with
      | some o => .step o (mkRT ops sl n (listed.setIfInBounds i true))
      | none => .bad)
def stripR (P : Program) (N : Nat) (ops : Array Oper) (draw : Bool) : Option SC :=
  if ops.toList.all (fitsO N) then
    match stripL ops ops.toList with
    | some l =>
      if draw = false then some (.reg l)
      else if P.follows .mixedOrders then
        if ops.toList.all (fun o => isQuiet o.op) && Region.lexB .any ops then some (.regq l)
        else if Region.lexTailB .any ops (headLen ops.toList) then some (.regs (l.take (headLen ops.toList)) (l.drop (headLen ops.toList)))
        else if Region.noSelect ops then some (.rega (mkRT ops l ops.size (Array.replicate ops.size false)))
        else none
      else none
    | none => none
  else none
def strip (P : Program) (N : Nat) : Code → Option SC
  | .skip => some .skip
  | .region _ ops draw => stripR P N ops draw
  | .seq a b => match strip P N a, strip P N b with
    | some x, some y => some (.seq x y)
    | _, _ => none
  | .cond c a b => match strip P N a, strip P N b with
    | some x, some y => some (.cond c x y)
    | _, _ => none
  | .block id a => (strip P N a).map (.block id)
  | .loop a => (strip P N a).map .loop
  | .scope a => (strip P N a).map .scope
  | .label _ => some .skip
  | .exit id => some (.exit id)
  | .ret => some .ret
  | _ => none

theorem guard_sound {ops : Array Oper} {o : Oper} {s : SO} (h : stripO ops o = some s) {n : Nat} {ρ : Nat → RI} {N : Nat} {t : T} {a : Act} (ht : TRel n ρ N t a) :
    s.dst = o.dst ∧ s.op = o.op ∧ match aguard t s.g with
      | .yes => Region.wanted o (yielded ops a.tmps) = true
      | .no => Region.wanted o (yielded ops a.tmps) = false
      | .test p => Region.wanted o (yielded ops a.tmps) = p
      | .bad => True := by
  unfold stripO at h
  split at h
  · rename_i hg
    cases h
    exact ⟨rfl, rfl, by simp [aguard, Region.wanted, hg]⟩
  · rename_i j b hg
    split at h
    · rename_i d hd
      cases h
      refine ⟨rfl, rfl, ?_⟩
      simp only [aguard]
      have hs := ht.slot d
      cases htd : t d with
      | bool p =>
        simp only [agv]
        rw [htd] at hs
        cases hv : a.tmps.getD d undef <;> rw [hv] at hs <;> cases hs
        have hget : a.tmps[d]? = some (.bool p) := by
          rw [Array.getD_eq_getD_getElem?] at hv
          cases hq : a.tmps[d]? with
          | none => rw [hq] at hv; simp [undef] at hv
          | some u => rw [hq] at hv; simp at hv; rw [hv]
        simp [Region.wanted, hg, yielded, hd, hget]
      | tup l =>
        cases l with
        | cons _ _ => simp only [agv]
        | nil =>
          simp only [agv]
          rw [htd] at hs
          have hget : ∀ q, a.tmps[d]? ≠ some (.bool q) := fun q hq => by
            rw [Array.getD_eq_getD_getElem?, hq] at hs
            simp at hs; cases hs
          have hy : yielded ops a.tmps j = none := by
            unfold yielded
            rw [hd]
            cases hq : a.tmps[d]? with
            | none => simp [hq]
            | some u =>
              cases u <;> simp [hq]
              rename_i q; exact absurd hq (hget q)
          simp [Region.wanted, hg, hy]
      | _ => simp only [agv]
    · cases h

theorem St.val {n0 N : Nat} {ρ0 ρ : Nat → RI} {σ0 σ : AHeap} {w0 w : World} {t : T} {a : Act} (h : St n0 N ρ0 σ0 w0 ρ t σ a w) {d : Option Tmp} (hd : ∀ x, d = some x → x < N) {v : AV} {cv : Value} (hv : VR σ.next ρ v cv) :
    St n0 N ρ0 σ0 w0 ρ (aput t d v) σ (a.put d cv) w := by
  cases d with
  | none => exact h
  | some d => exact ⟨h.trel.put (hd d rfl) hv, h.hrel, h.fr, h.agree, h.le⟩
theorem St.step {n0 N : Nat} {ρ0 ρ ρ' : Nat → RI} {σ0 σ σ' : AHeap} {w0 w w' : World} {t : T} {a : Act} (h : St n0 N ρ0 σ0 w0 ρ t σ a w) (hh : HRel ρ' σ' w') (hf : Fr ρ σ w ρ' σ' w') (hn : σ.next ≤ σ'.next) (he : ∀ i, i < σ.next → ρ' i = ρ i) :
    St n0 N ρ0 σ0 w0 ρ' t σ' a w' :=
  ⟨h.trel.up hn he, hh, h.fr.trans hf, fun i hi => by rw [he i (Nat.lt_of_lt_of_le hi h.le), h.agree i hi], Nat.le_trans h.le hn⟩

theorem fitsO_lt {N : Nat} {o : Oper} (h : fitsO N o = true) : ∀ x, o.dst = some x → x < N := by
  intro x hx
  unfold fitsO at h
  rw [hx] at h
  simpa using h

theorem AR_sound {P : Program} {S : Orc} (hS : SOK P S) {ops : Array Oper} {n0 N : Nat} {ρ0 : Nat → RI} {σ0 : AHeap} {w0 : World} {Q : Exit → Act → World → Prop} {K : T → AHeap → Prop}
    (hK : ∀ ρ t σ a w, St n0 N ρ0 σ0 w0 ρ t σ a w → K t σ → Q .normal a w) : ∀ (l : List Oper) (sl : List SO), stripL ops l = some sl → l.all (fitsO N) = true → ∀ (ρ : Nat → RI) (t : T) (σ : AHeap) (a : Act) (w : World),
      St n0 N ρ0 σ0 w0 ρ t σ a w → AR P S sl t σ K → wpList P ops Q l a w
  | [], sl, hl, _, ρ, t, σ, a, w, hst, h => by
    simp only [stripL] at hl; cases hl
    exact hK _ _ _ _ _ hst h
  | o :: l, sl, hl, hf, ρ, t, σ, a, w, hst, h => by
    simp only [stripL] at hl
    split at hl
    · rename_i s r hs hr
      cases hl
      simp only [List.all_cons, Bool.and_eq_true] at hf
      have hfit := fitsO_lt hf.1
      obtain ⟨hd, hop, hg⟩ := guard_sound hs hst.trel
      simp only [AR] at h
      rw [hd, hop] at h
      have hrec := AR_sound hS hK l r hr hf.2
      have skip : Region.wanted o (yielded ops a.tmps) = false → AR P S r (aput t o.dst (.tup [])) σ K → wpList P ops Q (o :: l) a w := fun hw hq => by
        unfold wpList
        rw [if_neg (by rw [hw]; simp)]
        exact hrec ρ _ σ _ w (hst.val hfit (VR.tup [] #[] .nil)) hq
      have go : Region.wanted o (yielded ops a.tmps) = true → AS P σ (astep P S o.op (aev t) σ) (fun v σ' => AR P S r (aput t o.dst v) σ' K) → wpList P ops Q (o :: l) a w := fun hw hq => by
        unfold wpList
        rw [if_pos hw]
        left
        have callcase : ∀ (f : FuncId) (args : List AV) (R : AV → AHeap → Prop), acall o.op (aev t) = some (f, args) → ACalls P f args σ R → (∀ v σ', R v σ' → AR P S r (aput t o.dst v) σ' K) → o.wp P a w (wpList P ops Q l) Q := fun f args R hc hcalls hR => by
          obtain ⟨cargs, hv, hrun⟩ := call_sound hc hcalls.1 hst.trel
          unfold Oper.wp
          rw [hrun, Oper.upon_enter]
          refine (hcalls.2 ρ w cargs hv hst.hrel).mono ?_
          rintro e w' ⟨cv, v, ρ', σ', rfl, h2, h3, h4, h5, h6, h7⟩
          exact hrec ρ' _ σ' _ w' ((hst.step h3 h4 h5 h6).val hfit h2) (hR _ _ h7)
        cases hstep : astep P S o.op (aev t) σ with
        | val v =>
          rw [hstep] at hq
          obtain ⟨cv, hcv, hrun⟩ := still_sound (step_val hstep) hst.trel hst.hrel
          unfold Oper.wp
          rw [hrun w (Below.refl _ _), Oper.upon_value]
          exact hrec ρ _ σ _ w (hst.val hfit hcv) hq
        | eff v σ' =>
          rw [hstep] at hq
          obtain ⟨x, w', ρ', cv, hrun, hr, hv, hh, hfr, hn, he⟩ := eff_sound (step_eff hstep) hst.trel hst.hrel
          unfold Oper.wp
          rw [hrun]
          have := hrec ρ' _ σ' _ w' ((hst.step hh hfr hn he).val hfit hv) hq
          rcases hr with rfl | ⟨rfl, rfl⟩
          · exact this
          · exact this
        | ora f args v =>
          rw [hstep] at hq
          obtain ⟨hc, hs⟩ := step_call (.inr ⟨v, hstep⟩)
          exact callcase f args _ hc ((hS.ok f args v (hs v hstep)).2 σ) (fun v' σ' ⟨h1, h2⟩ => by rw [h1, h2]; exact hq)
        | call f args =>
          rw [hstep] at hq
          obtain ⟨hc, _⟩ := step_call (.inl hstep)
          exact callcase f args _ hc hq (fun v' σ' h1 => h1)
        | bad => rw [hstep] at hq; exact hq.elim
      cases hgv : aguard t s.g with
      | yes => rw [hgv] at h hg; exact go hg h
      | no => rw [hgv] at h hg; exact skip hg h
      | test p =>
        rw [hgv] at h hg
        cases p
        · exact skip hg (by simpa [AG] using h)
        · exact go hg (by simpa [AG] using h)
      | bad => rw [hgv] at h; exact h.elim
    · cases hl

/-! ### Regions that draw their order -/
theorem frz_not_owned (ρ : Nat → RI) (σ : AHeap) (b : Nat) : ¬ Owned (frz ρ) σ.freeze b := by
  rintro ⟨i, _, ho, _⟩
  have : (σ.get i).freeze.owned = true := ho
  rw [freeze_not_owned] at this; cases this

theorem ARq_sound {P : Program} {S : Orc} (hS : SOK P S) {ops : Array Oper} {n0 N : Nat} {ρ0 : Nat → RI} {σ0 : AHeap} {w0 : World} {K : T → AHeap → Prop} {ρ : Nat → RI} {σ : AHeap} {w : World} (hh : HRel ρ σ w) :
    ∀ (l : List Oper) (sl : List SO), stripL ops l = some sl → l.all (fitsO N) = true → ∀ (t : T) (a : Act),
      TRel σ.next ρ N t a → ARq P S sl t σ K → wpQuiet P ops (fun w' => Below w.heap.size w w') (fun a' => ∃ t', TRel σ.next ρ N t' a' ∧ K t' σ) l a
  | [], sl, hl, _, t, a, ht, h => by
    simp only [stripL] at hl; cases hl
    exact ⟨t, ht, h⟩
  | o :: l, sl, hl, hf, t, a, ht, h => by
    simp only [stripL] at hl
    split at hl
    · rename_i s r hs hr
      cases hl
      simp only [List.all_cons, Bool.and_eq_true] at hf
      have hfit := fitsO_lt hf.1
      obtain ⟨hd, hop, hg⟩ := guard_sound hs ht
      simp only [ARq] at h
      rw [hd, hop] at h
      have hrec := ARq_sound (n0 := n0) (ρ0 := ρ0) (σ0 := σ0) (w0 := w0) (K := K) hS hh l r hr hf.2
      have hput : ∀ v cv, VR σ.next ρ v cv → TRel σ.next ρ N (aput t o.dst v) (a.put o.dst cv) := fun v cv hv => by
        cases hdd : o.dst with
        | none => exact ht
        | some d => exact ht.put (hfit d hdd) hv
      have skip : Region.wanted o (yielded ops a.tmps) = false → ARq P S r (aput t o.dst (.tup [])) σ K → wpQuiet P ops (fun w' => Below w.heap.size w w') (fun a' => ∃ t', TRel σ.next ρ N t' a' ∧ K t' σ) (o :: l) a := fun hw hq => by
        unfold wpQuiet
        rw [if_neg (by rw [hw]; simp)]
        exact hrec _ _ (hput _ _ (VR.tup [] #[] .nil)) hq
      have go : Region.wanted o (yielded ops a.tmps) = true → ASq P σ (astep P S o.op (aev t) σ) (fun v => ARq P S r (aput t o.dst v) σ K) → wpQuiet P ops (fun w' => Below w.heap.size w w') (fun a' => ∃ t', TRel σ.next ρ N t' a' ∧ K t' σ) (o :: l) a := fun hw hq => by
        unfold wpQuiet
        rw [if_pos hw]
        have callcase : ∀ (f : FuncId) (args : List AV) (v : AV), acall o.op (aev t) = some (f, args) → v.det = true → ACalls P f args σ.freeze (fun v' _ => v' = v) → ARq P S r (aput t o.dst v) σ K →
            o.quiet P a (fun w' => Below w.heap.size w w') (wpQuiet P ops (fun w' => Below w.heap.size w w') (fun a' => ∃ t', TRel σ.next ρ N t' a' ∧ K t' σ) l) := fun f args v hc hdet hcalls hR => by
          obtain ⟨cargs, hv, hrun⟩ := call_sound hc hcalls.1 ht
          have hvc : VR σ.next ρ v (conc v) := by
            cases v <;> first | (simp [AV.det, AV.det1] at hdet; done) | exact .int _ _ | exact .bool _ | exact .str _ | skip
            rename_i l
            refine .tup _ _ ?_
            simp only [AV.det] at hdet
            have : ∀ l : List AV, l.all AV.det1 = true → VRs σ.next ρ l (l.map conc1) := fun l hl => by
              induction l with
              | nil => exact .nil
              | cons x l ih =>
                simp only [List.all_cons, Bool.and_eq_true] at hl
                refine .cons _ _ _ _ ?_ (ih hl.2)
                cases x <;> first | (simp [AV.det1] at hl; done) | exact .int _ _ | exact .bool _ | exact .str _
            simpa using this l hdet
          refine ⟨conc v, fun w' hb => ?_, hrec _ _ (hput _ _ hvc) hR⟩
          unfold Oper.quietAt
          rw [hrun]
          refine ⟨rfl, ?_⟩
          refine (hcalls.2 (frz ρ) w' cargs hv.frz (hh.below hb).freeze).mono ?_
          rintro e w'' ⟨cv, v', ρ', σ', rfl, h2, h3, h4, h5, h6, rfl⟩
          refine ⟨by rw [det_conc h2 hdet], ?_⟩
          exact hb.trans ⟨h4.os, h4.tape, h4.output, h4.size, fun k hk => h4.same k (Nat.lt_of_lt_of_le hk hb.size) (frz_not_owned _ _ _)⟩
        cases hstep : astep P S o.op (aev t) σ with
        | val v =>
          rw [hstep] at hq
          obtain ⟨cv, hcv, hrun⟩ := still_sound (step_val hstep) ht hh
          refine ⟨cv, fun w' hb => ?_, hrec _ _ (hput _ _ hcv) hq⟩
          unfold Oper.quietAt
          rw [hrun w' hb]
          exact ⟨rfl, rfl⟩
        | eff v σ' => rw [hstep] at hq; exact hq.elim
        | ora f args v =>
          rw [hstep] at hq
          obtain ⟨hc, hs'⟩ := step_call (.inr ⟨v, hstep⟩)
          obtain ⟨h1, h2⟩ := hS.ok f args v (hs' v hstep)
          exact callcase f args v hc h1 ((h2 σ.freeze).mono fun _ _ h => h.1) hq
        | call f args =>
          rw [hstep] at hq
          obtain ⟨hc, _⟩ := step_call (.inl hstep)
          obtain ⟨v, h1, h2, h3⟩ := hq
          exact callcase f args v hc h1 h2 h3
        | bad => rw [hstep] at hq; exact hq.elim
      cases hgv : aguard t s.g with
      | yes => rw [hgv] at h hg; exact go hg h
      | no => rw [hgv] at h hg; exact skip hg h
      | test p =>
        rw [hgv] at h hg
        cases p
        · exact skip hg (by simpa [AG] using h)
        · exact go hg (by simpa [AG] using h)
      | bad => rw [hgv] at h; exact h.elim
    · cases hl

theorem ARs_sound {P : Program} {S : Orc} {ops : Array Oper} {N : Nat} {K : T → AHeap → Prop} {ρ : Nat → RI} {σ : AHeap} {w : World} (hh : HRel ρ σ w) :
    ∀ (l : List Oper) (sl : List SO), stripL ops l = some sl → l.all (fitsO N) = true → ∀ (t : T) (a : Act),
      TRel σ.next ρ N t a → ARs P S sl t σ K → wpStill P ops w (fun a' => ∃ t', TRel σ.next ρ N t' a' ∧ K t' σ) l a
  | [], sl, hl, _, t, a, ht, h => by
    simp only [stripL] at hl; cases hl
    exact ⟨t, ht, h⟩
  | o :: l, sl, hl, hf, t, a, ht, h => by
    simp only [stripL] at hl
    split at hl
    · rename_i s r hs hr
      cases hl
      simp only [List.all_cons, Bool.and_eq_true] at hf
      have hfit := fitsO_lt hf.1
      obtain ⟨hd, hop, hg⟩ := guard_sound hs ht
      simp only [ARs] at h
      rw [hd, hop] at h
      have hrec := ARs_sound (P := P) (S := S) (K := K) hh l r hr hf.2
      have hput : ∀ v cv, VR σ.next ρ v cv → TRel σ.next ρ N (aput t o.dst v) (a.put o.dst cv) := fun v cv hv => by
        cases hdd : o.dst with
        | none => exact ht
        | some d => exact ht.put (hfit d hdd) hv
      have skip : Region.wanted o (yielded ops a.tmps) = false → ARs P S r (aput t o.dst (.tup [])) σ K → wpStill P ops w (fun a' => ∃ t', TRel σ.next ρ N t' a' ∧ K t' σ) (o :: l) a := fun hw hq => by
        unfold wpStill
        rw [if_neg (by rw [hw]; simp)]
        exact hrec _ _ (hput _ _ (VR.tup [] #[] .nil)) hq
      have go : Region.wanted o (yielded ops a.tmps) = true → ASs (astep P S o.op (aev t) σ) (fun v => ARs P S r (aput t o.dst v) σ K) → wpStill P ops w (fun a' => ∃ t', TRel σ.next ρ N t' a' ∧ K t' σ) (o :: l) a := fun hw hq => by
        unfold wpStill
        rw [if_pos hw]
        cases hstep : astep P S o.op (aev t) σ with
        | val v =>
          rw [hstep] at hq
          obtain ⟨cv, hcv, hrun⟩ := still_sound (step_val hstep) ht hh
          unfold Oper.still
          rw [hrun w (Below.refl _ _)]
          exact ⟨rfl, hrec _ _ (hput _ _ hcv) hq⟩
        | eff v σ' => rw [hstep] at hq; exact hq.elim
        | ora f args v => rw [hstep] at hq; exact hq.elim
        | call f args => rw [hstep] at hq; exact hq.elim
        | bad => rw [hstep] at hq; exact hq.elim
      cases hgv : aguard t s.g with
      | yes => rw [hgv] at h hg; exact go hg h
      | no => rw [hgv] at h hg; exact skip hg h
      | test p =>
        rw [hgv] at h hg
        cases p
        · exact skip hg (by simpa [AG] using h)
        · exact go hg (by simpa [AG] using h)
      | bad => rw [hgv] at h; exact h.elim
    · cases hl

theorem stripL_split (ops : Array Oper) : ∀ (l : List Oper) (sl : List SO) (n : Nat), stripL ops l = some sl → stripL ops (l.take n) = some (sl.take n) ∧ stripL ops (l.drop n) = some (sl.drop n)
  | [], sl, n, h => by simp only [stripL] at h; cases h; simp [stripL]
  | o :: l, sl, n, h => by
    simp only [stripL] at h
    split at h
    · rename_i s r hs hr
      cases h
      cases n with
      | zero => simp [stripL, hs, hr]
      | succ n =>
        obtain ⟨h1, h2⟩ := stripL_split ops l r n hr
        simp [stripL, hs, h1, h2]
    · cases h

/-! ### Code -/
/-- What the code behind 'sc' does from slots t and memory σ on. -/
def AW (P : Program) (N n0 : Nat) (sc : SC) (t : T) (σ : AHeap) (Q : Exit → T → AHeap → Prop) : Prop :=
  ∀ c, strip P N c = some sc → ∀ (ρ0 : Nat → RI) (σ0 : AHeap) (w0 : World) (ρ : Nat → RI) (a : Act) (w : World), St n0 N ρ0 σ0 w0 ρ t σ a w →
    c.wp P (fun e a' w' => ∃ ρ' t' σ', St n0 N ρ0 σ0 w0 ρ' t' σ' a' w' ∧ Q e t' σ') a w

def seqK (F : T → AHeap → Prop) (Q : Exit → T → AHeap → Prop) : Exit → T → AHeap → Prop
  | .normal, t, σ => F t σ
  | e, t, σ => Q e t σ
def blockK (id : Nat) (Q : Exit → T → AHeap → Prop) : Exit → T → AHeap → Prop
  | .exit id', t, σ => if id' = id then Q .normal t σ else Q (.exit id') t σ
  | e, t, σ => Q e t σ
def noGotoK (Q : Exit → T → AHeap → Prop) : Exit → T → AHeap → Prop
  | .goto _, _, _ => False
  | e, t, σ => Q e t σ
def ACond (v : AV) (x y : Unit → Prop) (_ : Hd (x, y) := ⟨⟩) : Prop :=
  match v with
  | .bool p => if p = true then x () else y ()
  | _ => False

/-- A loop that the walk stops at. -/
def LPK (P : Program) (N n0 : Nat) (a : SC) (t : T) (σ : AHeap) (Q : Exit → T → AHeap → Prop) (_ : Hd (a, Q) := ⟨⟩) : Prop := AW P N n0 (.loop a) t σ Q
def AX (P : Program) (S : Orc) (N n0 : Nat) : SC → T → AHeap → (Exit → T → AHeap → Prop) → Prop
  | .skip, t, σ, Q => Q .normal t σ
  | .reg ops, t, σ, Q => AR P S ops t σ (Q .normal)
  | .regq ops, t, σ, Q => ARq P S ops t σ (Q .normal)
  | .regs hd tl, t, σ, Q => ARs P S hd t σ fun t σ => AR P S tl t σ (Q .normal)
  | .rega r, t, σ, Q => ART P S r t σ (Q .normal)
  | .seq a b, t, σ, Q => AX P S N n0 a t σ (seqK (fun t σ => AX P S N n0 b t σ Q) Q)
  | .cond c a b, t, σ, Q => ACond (aev t c) (fun _ => AX P S N n0 a t σ Q) (fun _ => AX P S N n0 b t σ Q)
  | .block id a, t, σ, Q => AX P S N n0 a t σ (blockK id Q)
  | .loop a, t, σ, Q => LPK P N n0 a t σ Q
  | .scope a, t, σ, Q => AX P S N n0 a t σ (noGotoK Q)
  | .exit id, t, σ, Q => Q (.exit id) t σ
  | .ret, t, σ, Q => Q .ret t σ

theorem St.drew {n0 N : Nat} {ρ0 ρ : Nat → RI} {σ0 σ : AHeap} {w0 w : World} {t : T} {a : Act} (h : St n0 N ρ0 σ0 w0 ρ t σ a w) : St n0 N ρ0 σ0 w0 ρ t σ a w.drew :=
  h.step (h.hrel.below ((Below.refl _ _).drew)) (Fr.below ((Below.refl _ _).drew)) (Nat.le_refl _) (fun _ _ => rfl)

theorem stripL_get (ops : Array Oper) : ∀ (l : List Oper) (sl : List SO), stripL ops l = some sl → ∀ (i : Nat) (s : SO), sl[i]? = some s → ∃ o : Oper, l[i]? = some o ∧ stripO ops o = some s
  | [], sl, h, i, s, hi => by simp only [stripL] at h; cases h; simp at hi
  | o :: l, sl, h, i, s, hi => by
    simp only [stripL] at h
    split at h
    · rename_i s' r hs hr
      cases h
      cases i with
      | zero => simp at hi; subst hi; exact ⟨o, by simp, hs⟩
      | succ i => simp at hi; simpa using stripL_get ops l r hr i s hi
    · cases h

theorem ART_bothL {P : Program} {S : Orc} {t : T} {σ : AHeap} {K : T → AHeap → Prop} : ∀ (l : List RT), ART P S (bothL l) t σ K → ∀ r ∈ l, ART P S r t σ K
  | [], h, r, hr => by cases hr
  | [x], h, r, hr => by simp at hr; subst hr; exact h
  | x :: y :: l, h, r, hr => by
    simp only [bothL, ART] at h
    rcases List.mem_cons.1 hr with rfl | hr
    · exact h.1
    · exact ART_bothL (y :: l) h.2 r hr

theorem ART_sound {P : Program} {S : Orc} (hS : SOK P S) {ops : Array Oper} {sl : List SO} (hsl : stripL ops ops.toList = some sl) (hns : Region.noSelect ops = true) {n0 N : Nat} (hf : ops.toList.all (fitsO N) = true)
    {ρ0 : Nat → RI} {σ0 : AHeap} {w0 : World} {Q : Exit → Act → World → Prop} {K : T → AHeap → Prop}
    (hpanic : ∀ c a w, ¬ Q (.panic c) a w) (hK : ∀ ρ t σ a w, St n0 N ρ0 σ0 w0 ρ t σ a w → K t σ → Q .normal a w) : ∀ (n : Nat) (listed : Array Bool) (ρ : Nat → RI) (t : T) (σ : AHeap) (a : Act) (w : World),
      St n0 N ρ0 σ0 w0 ρ t σ a w → ART P S (mkRT ops sl n listed) t σ K → wpAny P .any ops Q n listed a w
  | 0, listed, ρ, t, σ, a, w, hst, h => by
    simp only [mkRT] at h
    split at h
    · rename_i hr
      exact ⟨by simpa using hr, hK _ _ _ _ _ hst h⟩
    · exact h.elim
  | n + 1, listed, ρ, t, σ, a, w, hst, h => by
    have hrec := ART_sound hS hsl hns (n0 := n0) hf (ρ0 := ρ0) (σ0 := σ0) (w0 := w0) hpanic hK n
    have hfitI : ∀ (i : Nat) (o : Oper), ops.toList[i]? = some o → ∀ x, o.dst = some x → x < N := fun i o ho =>
      fitsO_lt ((List.all_eq_true.1 hf) o (List.mem_of_getElem? ho))
    simp only [mkRT] at h
    split at h
    · rename_i i hfind
      have hmem := List.mem_of_find?_eq_some hfind
      have hprop := List.find?_some hfind
      simp only [Bool.and_eq_true] at hprop
      split at h
      · rename_i s hs
        obtain ⟨o, ho, hstrip⟩ := stripL_get ops ops.toList sl hsl i s hs
        have hoi : ops[i]? = some o := by simpa using ho
        obtain ⟨hd, hop, hg⟩ := guard_sound hstrip hst.trel
        have hpure : isPure o.op = true := by
          have h1 := hprop.1
          rw [hoi] at h1
          simp only [Option.map_some, Option.getD_some, Bool.and_eq_true] at h1
          exact h1.2
        simp only [ART] at h
        rw [hd, hop] at h
        have hfit := hfitI i o ho
        have fin : ∀ (v : AV) (cv : Value), VR σ.next ρ v cv → Yields P ops o cv a → ART P S (mkRT ops sl n (listed.setIfInBounds i true)) (aput t o.dst v) σ K → wpAny P .any ops Q (n + 1) listed a w := fun v cv hv hy hq =>
          wpAny_take hoi hns hprop.2 (by simpa using hmem) (fun c a w hp => (hpanic _ _ _ hp).elim) hy (hrec _ ρ _ σ _ w (hst.val hfit hv) hq)
        have skip : Region.wanted o (yielded ops a.tmps) = false → ART P S (mkRT ops sl n (listed.setIfInBounds i true)) (aput t o.dst (.tup [])) σ K → wpAny P .any ops Q (n + 1) listed a w := fun hw hq =>
          fin (.tup []) undef (VR.tup [] #[] .nil) (.inr ⟨hw, rfl⟩) hq
        have go : Region.wanted o (yielded ops a.tmps) = true → ASs (astep P S o.op (aev t) σ) (fun v => ART P S (mkRT ops sl n (listed.setIfInBounds i true)) (aput t o.dst v) σ K) → wpAny P .any ops Q (n + 1) listed a w := fun hw hq => by
          cases hstep : astep P S o.op (aev t) σ with
          | val v =>
            rw [hstep] at hq
            obtain ⟨cv, hcv, hrun⟩ := still_sound0 (step_val hstep) hst.trel hst.hrel
            exact fin v cv hcv (.inl ⟨hw, fun w' => hrun w' (.inl hpure)⟩) hq
          | eff v σ' => rw [hstep] at hq; exact hq.elim
          | ora f args v => rw [hstep] at hq; exact hq.elim
          | call f args => rw [hstep] at hq; exact hq.elim
          | bad => rw [hstep] at hq; exact hq.elim
        cases hgv : aguard t s.g with
        | yes => rw [hgv] at h hg; exact go hg h
        | no => rw [hgv] at h hg; exact skip hg h
        | test p =>
          rw [hgv] at h hg
          cases p
          · exact skip hg (by simpa [AG] using h)
          · exact go hg (by simpa [AG] using h)
        | bad => rw [hgv] at h; exact h.elim
      · exact h.elim
    · rename_i hfind
      by_cases hne : Region.ready .any ops listed = []
      · rw [hne] at h
        simp only [List.map_nil, bothL, ART] at h
      · refine wpAny_all rfl hne (fun i hi => ?_)
        have hall := ART_bothL _ h _ (List.mem_map.2 ⟨i, hi, rfl⟩)
        split at hall
        · rename_i s hs
          obtain ⟨o, ho, hstrip⟩ := stripL_get ops ops.toList sl hsl i s hs
          have hoi : ops[i]? = some o := by simpa using ho
          obtain ⟨hd, hop, hg⟩ := guard_sound hstrip hst.trel
          simp only [ART] at hall
          rw [hd, hop] at hall
          have hfit := hfitI i o ho
          unfold wpOp
          rw [hoi]
          simp only []
          have skip : Region.wanted o (yielded ops a.tmps) = false → ART P S (mkRT ops sl n (listed.setIfInBounds i true)) (aput t o.dst (.tup [])) σ K →
              (if Region.wanted o (yielded ops a.tmps) then o.wp P a w (wpAny P .any ops Q n (listed.setIfInBounds i true)) Q ∨ (o.asks P a w ∧ LetsOut Q) else wpAny P .any ops Q n (listed.setIfInBounds i true) (a.put o.dst undef) w) := fun hw hq => by
            rw [if_neg (by rw [hw]; simp)]
            exact hrec _ ρ _ σ _ w (hst.val hfit (VR.tup [] #[] .nil)) hq
          have go : Region.wanted o (yielded ops a.tmps) = true → AS P σ (astep P S o.op (aev t) σ) (fun v σ' => ART P S (mkRT ops sl n (listed.setIfInBounds i true)) (aput t o.dst v) σ' K) →
              (if Region.wanted o (yielded ops a.tmps) then o.wp P a w (wpAny P .any ops Q n (listed.setIfInBounds i true)) Q ∨ (o.asks P a w ∧ LetsOut Q) else wpAny P .any ops Q n (listed.setIfInBounds i true) (a.put o.dst undef) w) := fun hw hq => by
            rw [if_pos hw]
            left
            have callcase : ∀ (f : FuncId) (args : List AV) (R : AV → AHeap → Prop), acall o.op (aev t) = some (f, args) → ACalls P f args σ R → (∀ v σ', R v σ' → ART P S (mkRT ops sl n (listed.setIfInBounds i true)) (aput t o.dst v) σ' K) → o.wp P a w (wpAny P .any ops Q n (listed.setIfInBounds i true)) Q := fun f args R hc hcalls hR => by
              obtain ⟨cargs, hv, hrun⟩ := call_sound hc hcalls.1 hst.trel
              unfold Oper.wp
              rw [hrun, Oper.upon_enter]
              refine (hcalls.2 ρ w cargs hv hst.hrel).mono ?_
              rintro e w' ⟨cv, v, ρ', σ', rfl, h2, h3, h4, h5, h6, h7⟩
              exact hrec _ ρ' _ σ' _ w' ((hst.step h3 h4 h5 h6).val hfit h2) (hR _ _ h7)
            cases hstep : astep P S o.op (aev t) σ with
            | val v =>
              rw [hstep] at hq
              obtain ⟨cv, hcv, hrun⟩ := still_sound (step_val hstep) hst.trel hst.hrel
              unfold Oper.wp
              rw [hrun w (Below.refl _ _), Oper.upon_value]
              exact hrec _ ρ _ σ _ w (hst.val hfit hcv) hq
            | eff v σ' =>
              rw [hstep] at hq
              obtain ⟨x, w', ρ', cv, hrun, hr, hv, hh, hfr, hn, he⟩ := eff_sound (step_eff hstep) hst.trel hst.hrel
              unfold Oper.wp
              rw [hrun]
              have := hrec _ ρ' _ σ' _ w' ((hst.step hh hfr hn he).val hfit hv) hq
              rcases hr with rfl | ⟨rfl, rfl⟩
              · exact this
              · exact this
            | ora f args v =>
              rw [hstep] at hq
              obtain ⟨hc, hs⟩ := step_call (.inr ⟨v, hstep⟩)
              exact callcase f args _ hc ((hS.ok f args v (hs v hstep)).2 σ) (fun v' σ' ⟨h1, h2⟩ => by rw [h1, h2]; exact hq)
            | call f args =>
              rw [hstep] at hq
              obtain ⟨hc, _⟩ := step_call (.inl hstep)
              exact callcase f args _ hc hq (fun v' σ' h1 => h1)
            | bad => rw [hstep] at hq; exact hq.elim
          cases hgv : aguard t s.g with
          | yes => rw [hgv] at hall hg; exact go hg hall
          | no => rw [hgv] at hall hg; exact skip hg hall
          | test p =>
            rw [hgv] at hall hg
            cases p
            · exact skip hg (by simpa [AG] using hall)
            · exact go hg (by simpa [AG] using hall)
          | bad => rw [hgv] at hall; exact hall.elim
        · exact hall.elim

theorem AX_sound {P : Program} {S : Orc} (hS : SOK P S) {N n0 : Nat} : ∀ (sc : SC) (t : T) (σ : AHeap) (Q : Exit → T → AHeap → Prop), AX P S N n0 sc t σ Q → AW P N n0 sc t σ Q := by
  intro sc
  induction sc with
  | skip =>
    intro t σ Q h c hc ρ0 σ0 w0 ρ a w hst
    cases c <;> simp only [strip] at hc <;> try (cases hc; done)
    all_goals first
      | exact wp_skip ⟨ρ, t, σ, hst, h⟩
      | exact wp_label ⟨ρ, t, σ, hst, h⟩
      | (exfalso; first
          | (unfold stripR at hc; (repeat' split at hc) <;> cases hc; done)
          | (split at hc <;> cases hc; done)
          | (simp at hc; done))
  | reg sl =>
    intro t σ Q h c hc ρ0 σ0 w0 ρ a w hst
    cases c <;> simp only [strip] at hc <;> try (cases hc; done)
    case region id ops draw =>
      unfold stripR at hc
      split at hc
      · rename_i hfit
        split at hc
        · rename_i l hl
          split at hc
          · rename_i hdraw
            cases hc
            subst hdraw
            refine wp_region_list ?_
            exact AR_sound hS (n0 := n0) (N := N) (ρ0 := ρ0) (σ0 := σ0) (w0 := w0) (K := Q .normal) (fun ρ t σ a w hst hq => ⟨ρ, t, σ, hst, hq⟩) ops.toList sl hl hfit ρ t σ a w hst h
          · (repeat' split at hc) <;> cases hc
        · cases hc
      · cases hc
    all_goals (exfalso; first | (split at hc <;> cases hc; done) | (simp at hc; done))
  | regq sl =>
    intro t σ Q h c hc ρ0 σ0 w0 ρ a w hst
    cases c <;> simp only [strip] at hc <;> try (cases hc; done)
    case region id ops draw =>
      unfold stripR at hc
      split at hc
      · rename_i hfit
        split at hc
        · rename_i l hl
          split at hc
          · cases hc
          · rename_i hdraw
            split at hc
            · rename_i hm
              split at hc
              · rename_i hq
                cases hc
                simp only [Bool.and_eq_true] at hq
                have hdr : draw = true := by simpa using hdraw
                subst hdr
                have hst' := hst.drew
                refine wp_region_quiet (C := fun w' => Below w.drew.heap.size w.drew w') hm hq.2 (Below.refl _ _) ?_
                have := ARq_sound (n0 := n0) (ρ0 := ρ0) (σ0 := σ0) (w0 := w0) (K := Q .normal) hS hst'.hrel ops.toList sl hl hfit t a hst'.trel h
                have mono : ∀ (l : List Oper) (a : Act) (F G : Act → Prop), (∀ a, F a → G a) → wpQuiet P ops (fun w' => Below w.drew.heap.size w.drew w') F l a → wpQuiet P ops (fun w' => Below w.drew.heap.size w.drew w') G l a := by
                  intro l
                  induction l with
                  | nil => intro a F G hFG h; exact hFG a h
                  | cons o l ih =>
                    intro a F G hFG h
                    unfold wpQuiet at h ⊢
                    split
                    · rename_i hw
                      rw [if_pos hw] at h
                      exact Oper.quiet_mono (fun a => ih a F G hFG) h
                    · rename_i hw
                      rw [if_neg hw] at h
                      exact ih _ F G hFG h
                refine mono _ _ _ _ ?_ this
                rintro a' ⟨t', ht', hq'⟩ w' hb
                refine ⟨ρ, t', σ, ⟨ht', hst'.hrel.below hb, hst'.fr.trans (Fr.below hb), hst'.agree, hst'.le⟩, hq'⟩
              · (repeat' split at hc) <;> cases hc
            · cases hc
        · cases hc
      · cases hc
    all_goals (exfalso; first | (split at hc <;> cases hc; done) | (simp at hc; done))
  | regs hd tl =>
    intro t σ Q h c hc ρ0 σ0 w0 ρ a w hst
    cases c <;> simp only [strip] at hc <;> try (cases hc; done)
    case region id ops draw =>
      unfold stripR at hc
      split at hc
      · rename_i hfit
        split at hc
        · rename_i l hl
          split at hc
          · cases hc
          · rename_i hdraw
            split at hc
            · rename_i hm
              split at hc
              · cases hc
              · split at hc
                · rename_i hq
                  cases hc
                  have hdr : draw = true := by simpa using hdraw
                  subst hdr
                  have hst' := hst.drew
                  obtain ⟨hl1, hl2⟩ := stripL_split ops ops.toList l (headLen ops.toList) hl
                  have hops : ops = ops.toList.toArray := by simp
                  have hfit1 : (ops.toList.take (headLen ops.toList)).all (fitsO N) = true := by
                    rw [List.all_eq_true] at hfit ⊢
                    exact fun o ho => hfit o (List.mem_of_mem_take ho)
                  have hfit2 : (ops.toList.drop (headLen ops.toList)).all (fitsO N) = true := by
                    rw [List.all_eq_true] at hfit ⊢
                    exact fun o ho => hfit o (List.mem_of_mem_drop ho)
                  have hs := ARs_sound (P := P) (S := S) (K := fun t σ => AR P S (l.drop (headLen ops.toList)) t σ (Q .normal)) hst'.hrel _ _ hl1 hfit1 t a hst'.trel h
                  have key := wp_region_still_tail (P := P) (id := id) (Q := fun e a' w' => ∃ ρ' t' σ', St n0 N ρ0 σ0 w0 ρ' t' σ' a' w' ∧ Q e t' σ') (a := a) (w := w) (l := ops.toList) (headLen ops.toList) hm (by simpa using hq) (by
                    have mono : ∀ (l : List Oper) (a : Act) (F G : Act → Prop), (∀ a, F a → G a) → wpStill P ops.toList.toArray w.drew F l a → wpStill P ops.toList.toArray w.drew G l a := by
                      intro l
                      induction l with
                      | nil => intro a F G hFG h; exact hFG a h
                      | cons o l ih =>
                        intro a F G hFG h
                        unfold wpStill at h ⊢
                        split
                        · rename_i hw
                          rw [if_pos hw] at h
                          exact Oper.still_mono (fun a => ih a F G hFG) h
                        · rename_i hw
                          rw [if_neg hw] at h
                          exact ih _ F G hFG h
                    rw [← hops] at mono ⊢
                    refine mono _ _ _ _ ?_ hs
                    rintro a' ⟨t', ht', hq'⟩
                    exact AR_sound hS (n0 := n0) (N := N) (ρ0 := ρ0) (σ0 := σ0) (w0 := w0) (K := Q .normal) (fun ρ t σ a w hst hq => ⟨ρ, t, σ, hst, hq⟩) _ _ hl2 hfit2 ρ t' σ a' w.drew ⟨ht', hst'.hrel, hst'.fr, hst'.agree, hst'.le⟩ hq')
                  rw [← hops] at key
                  exact key
                · split at hc <;> cases hc
            · cases hc
        · cases hc
      · cases hc
    all_goals (exfalso; first | (split at hc <;> cases hc; done) | (simp at hc; done))
  | rega rt =>
    intro t σ Q h c hc ρ0 σ0 w0 ρ a w hst
    cases c <;> simp only [strip] at hc <;> try (cases hc; done)
    case region id ops draw =>
      unfold stripR at hc
      split at hc
      · rename_i hfit
        split at hc
        · rename_i l hl
          split at hc
          · cases hc
          · rename_i hdraw
            split at hc
            · rename_i hm
              split at hc
              · cases hc
              · split at hc
                · cases hc
                · split at hc
                  · rename_i hns
                    cases hc
                    have hdr : draw = true := by simpa using hdraw
                    subst hdr
                    have hst' := hst.drew
                    have key := ART_sound hS hl hns (n0 := n0) hfit (ρ0 := ρ0) (σ0 := σ0) (w0 := w0) (K := Q .normal)
                      (Q := fun e a' w' => match e with | .panic _ => False | e => ∃ ρ' t' σ', St n0 N ρ0 σ0 w0 ρ' t' σ' a' w' ∧ Q e t' σ') (fun c a w h => h) (fun ρ t σ a w hst hq => ⟨ρ, t, σ, hst, hq⟩) ops.size (Array.replicate ops.size false) ρ t σ a w.drew hst' h
                    refine Code.wp_mono ?_ (wp_region_any hm key)
                    intro e a' w' hq
                    cases e with
                    | panic c => exact hq.elim
                    | _ => exact hq
                  · cases hc
            · cases hc
        · cases hc
      · cases hc
    all_goals (exfalso; first | (split at hc <;> cases hc; done) | (simp at hc; done))
  | seq x y ihx ihy =>
    intro t σ Q h c hc ρ0 σ0 w0 ρ a w hst
    cases c <;> simp only [strip] at hc <;> try (cases hc; done)
    case seq a1 b1 =>
      split at hc
      · rename_i x' y' hx hy
        cases hc
        refine wp_seq ?_
        refine Code.wp_mono ?_ (ihx t σ _ h a1 hx ρ0 σ0 w0 ρ a w hst)
        rintro e a' w' ⟨ρ', t', σ', hst', hq⟩
        cases e with
        | normal => exact ihy t' σ' Q hq b1 hy ρ0 σ0 w0 ρ' a' w' hst'
        | _ => exact ⟨ρ', t', σ', hst', hq⟩
      · cases hc
    all_goals (exfalso; first
      | (unfold stripR at hc; (repeat' split at hc) <;> cases hc; done)
      | (split at hc <;> cases hc; done) | (simp at hc; done))
  | cond o x y ihx ihy =>
    intro t σ Q h c hc ρ0 σ0 w0 ρ a w hst
    cases c <;> simp only [strip] at hc <;> try (cases hc; done)
    case cond o' a1 b1 =>
      split at hc
      · rename_i x' y' hx hy
        cases hc
        have hev := hst.trel.ev o
        simp only [AX] at h
        cases hv : aev t o <;> rw [hv] at h hev <;> simp only [ACond] at h
        rename_i p
        cases hcv : a.eval o <;> rw [hcv] at hev <;> cases hev
        refine wp_cond_split hcv (fun hp => ?_) (fun hp => ?_)
        · rw [if_pos hp] at h
          exact ihx t σ Q h a1 hx ρ0 σ0 w0 ρ a w hst
        · rw [if_neg (by rw [hp]; simp)] at h
          exact ihy t σ Q h b1 hy ρ0 σ0 w0 ρ a w hst
      · cases hc
    all_goals (exfalso; first
      | (unfold stripR at hc; (repeat' split at hc) <;> cases hc; done)
      | (split at hc <;> cases hc; done) | (simp at hc; done))
  | block id x ih =>
    intro t σ Q h c hc ρ0 σ0 w0 ρ a w hst
    cases c <;> simp only [strip] at hc <;> try (cases hc; done)
    case block id' a1 =>
      simp only [Option.map_eq_some_iff] at hc
      obtain ⟨x', hx, he⟩ := hc
      cases he
      refine wp_block ?_
      refine Code.wp_mono ?_ (ih t σ _ h a1 hx ρ0 σ0 w0 ρ a w hst)
      rintro e a' w' ⟨ρ', t', σ', hst', hq⟩
      cases e with
      | exit i =>
        simp only [blockK, Exit.inBlock] at hq ⊢
        split
        · rename_i hi; rw [if_pos hi] at hq; exact ⟨ρ', t', σ', hst', hq⟩
        · rename_i hi; rw [if_neg hi] at hq; exact ⟨ρ', t', σ', hst', hq⟩
      | _ => exact ⟨ρ', t', σ', hst', hq⟩
    all_goals (exfalso; first
      | (unfold stripR at hc; (repeat' split at hc) <;> cases hc; done)
      | (split at hc <;> cases hc; done) | (simp at hc; done))
  | loop x ih =>
    intro t σ Q h
    exact h
  | scope x ih =>
    intro t σ Q h c hc ρ0 σ0 w0 ρ a w hst
    cases c <;> simp only [strip] at hc <;> try (cases hc; done)
    case scope a1 =>
      simp only [Option.map_eq_some_iff] at hc
      obtain ⟨x', hx, he⟩ := hc
      cases he
      refine wp_scope_straight ?_
      refine Code.wp_mono ?_ (ih t σ _ h a1 hx ρ0 σ0 w0 ρ a w hst)
      rintro e a' w' ⟨ρ', t', σ', hst', hq⟩
      cases e with
      | goto l => exact hq.elim
      | _ => exact ⟨ρ', t', σ', hst', hq⟩
    all_goals (exfalso; first
      | (unfold stripR at hc; (repeat' split at hc) <;> cases hc; done)
      | (split at hc <;> cases hc; done) | (simp at hc; done))
  | exit id =>
    intro t σ Q h c hc ρ0 σ0 w0 ρ a w hst
    cases c <;> simp only [strip] at hc <;> try (cases hc; done)
    case exit id' =>
      cases hc
      exact wp_exit ⟨ρ, t, σ, hst, h⟩
    all_goals (exfalso; first
      | (unfold stripR at hc; (repeat' split at hc) <;> cases hc; done)
      | (split at hc <;> cases hc; done) | (simp at hc; done))
  | ret =>
    intro t σ Q h c hc ρ0 σ0 w0 ρ a w hst
    cases c <;> simp only [strip] at hc <;> try (cases hc; done)
    all_goals first
      | exact wp_ret ⟨ρ, t, σ, hst, h⟩
      | (exfalso; first
          | (unfold stripR at hc; (repeat' split at hc) <;> cases hc; done)
          | (split at hc <;> cases hc; done)
          | (simp at hc; done))

end Go.Proofs.Ytkkbnbgdhpkfhaa.A
