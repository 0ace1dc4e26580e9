/- Functions, loops, forgetting. Conditions: none. -/
import Derived.Test.YteeakkakkjhgoaaA9
set_option linter.unusedVariables false
set_option linter.unusedSimpArgs false
namespace Go.Proofs.Yteeakkakkjhgoaa.A
open Go Go.RowKit

/-! ### Forgetting -/
structure Sub (σ' σ : AHeap) : Prop where
  le : σ.next ≤ σ'.next
  rows : ∀ i, i < σ.next → σ.get i = .dead ∨ σ.get i = σ'.get i
  wf : σ.WF
def TSub (n : Nat) (t' t : T) : Prop := ∀ s, t s = .junk ∨ (t s = t' s ∧ (t s).rl n = true)

theorem Sub.refl {σ : AHeap} (h : σ.WF) : Sub σ σ := ⟨Nat.le_refl _, fun _ _ => .inr rfl, h⟩

theorem HRel.sub {ρ : Nat → RI} {σ' σ : AHeap} {w : World} (h : HRel ρ σ' w) (hs : Sub σ' σ) : HRel ρ σ w where
  row := fun i hi => by
    rcases hs.rows i hi with h0 | h0
    · rw [h0]; trivial
    · have hr := h.row i (Nat.lt_of_lt_of_le hi hs.le)
      have hwf := hs.wf i hi
      rw [← h0] at hr
      cases ho : σ.get i with
      | dead => trivial
      | ro cs =>
        rw [ho] at hr hwf
        refine ⟨hr.1, fun j c hj => ?_⟩
        obtain ⟨v, hv, hvr⟩ := hr.2 j c hj
        exact ⟨v, hv, hvr.mono (by have hq : AV.rls σ.next cs = true := hwf; rw [AV.rls_all, List.all_eq_true] at hq; exact hq c (List.mem_of_getElem? hj)) (fun _ _ => rfl)⟩
      | own s cs =>
        rw [ho] at hr hwf
        obtain ⟨h1, h2, h3, cc, t, h4, h5, h6⟩ := hr
        refine ⟨h1, h2, h3, cc, t, h4, h5, fun j c hj => ?_⟩
        obtain ⟨v, hv, hvr⟩ := h6 j c hj
        exact ⟨v, hv, hvr.mono (by have hq : AV.rls σ.next cs = true := hwf; rw [AV.rls_all, List.all_eq_true] at hq; exact hq c (List.mem_of_getElem? hj)) (fun _ _ => rfl)⟩
      | amap m =>
        rw [ho] at hr hwf
        obtain ⟨h1, es, clock, h2, ⟨h3, h5⟩, hbo⟩ := hr
        refine ⟨h1, es, clock, h2, ⟨h3, fun j x hj => ?_⟩, hbo⟩
        obtain ⟨e, he, hk, hv⟩ := h5 j x hj
        have hx := (List.all_eq_true.1 hwf) x (List.mem_of_getElem? hj)
        simp only [Bool.and_eq_true] at hx
        exact ⟨e, he, hk.mono hx.1 (fun _ _ => rfl), hv.mono hx.2 (fun _ _ => rfl)⟩
  apart := fun i j hi hj hij ho hl => by
    have h1 : σ.get i = σ'.get i := (hs.rows i hi).resolve_left (fun h0 => by rw [h0] at ho; cases ho)
    have h2 : σ.get j = σ'.get j := (hs.rows j hj).resolve_left (fun h0 => by rw [h0] at hl; cases hl)
    exact h.apart i j (Nat.lt_of_lt_of_le hi hs.le) (Nat.lt_of_lt_of_le hj hs.le) hij (by rw [← h1]; exact ho) (by rw [← h2]; exact hl)
  inside := fun i hi ho => by
    have h1 : σ.get i = σ'.get i := (hs.rows i hi).resolve_left (fun h0 => by rw [h0] at ho; cases ho)
    exact h.inside i (Nat.lt_of_lt_of_le hi hs.le) (by rw [← h1]; exact ho)

theorem Owned.sub {ρ : Nat → RI} {σ' σ : AHeap} (hs : Sub σ' σ) {b : Nat} (h : Owned ρ σ b) : Owned ρ σ' b := by
  obtain ⟨i, hi, ho, hb⟩ := h
  have h1 : σ.get i = σ'.get i := (hs.rows i hi).resolve_left (fun h0 => by rw [h0] at ho; cases ho)
  exact ⟨i, Nat.lt_of_lt_of_le hi hs.le, by rw [← h1]; exact ho, hb⟩
theorem Fr.sub {ρ0 ρ : Nat → RI} {σ0 σ' σ : AHeap} {w0 w : World} (h : Fr ρ0 σ0 w0 ρ σ' w) (hs : Sub σ' σ) : Fr ρ0 σ0 w0 ρ σ w :=
  ⟨h.os, h.tape, h.output, h.size, h.same, fun b hb => h.own b (hb.sub hs)⟩

theorem St.sub {n0 N : Nat} {ρ0 ρ : Nat → RI} {σ0 σ' σ : AHeap} {w0 w : World} {t' t : T} {a : Act} (h : St n0 N ρ0 σ0 w0 ρ t' σ' a w) (hs : Sub σ' σ) (ht : TSub σ.next t' t) (hn : n0 ≤ σ.next) : St n0 N ρ0 σ0 w0 ρ t σ a w where
  trel := ⟨h.trel.defers, h.trel.size, fun i => by
    rcases ht i with h0 | ⟨h0, h1⟩
    · rw [h0]; exact .junk _
    · have h2 := h.trel.slot i
      rw [← h0] at h2
      exact h2.mono h1 (fun _ _ => rfl)⟩
  hrel := h.hrel.sub hs
  fr := h.fr.sub hs
  agree := h.agree
  le := hn

theorem AW.sub {P : Program} {N n0 : Nat} {sc : SC} {t' t : T} {σ' σ : AHeap} {Q : Exit → T → AHeap → Prop} (hs : Sub σ' σ) (ht : TSub σ.next t' t) (hn : n0 ≤ σ.next) (h : AW P N n0 sc t σ Q) : AW P N n0 sc t' σ' Q :=
  fun m c hc ρ0 σ0 w0 ρ a w hst => h m c hc ρ0 σ0 w0 ρ a w (hst.sub hs ht hn)
theorem AW.mono {P : Program} {N n0 : Nat} {sc : SC} {t : T} {σ : AHeap} {Q Q' : Exit → T → AHeap → Prop} (h : AW P N n0 sc t σ Q) (hq : ∀ e t σ, Q e t σ → Q' e t σ) : AW P N n0 sc t σ Q' :=
  fun m c hc ρ0 σ0 w0 ρ a w hst => Code.wp_mono (fun e a' w' ⟨ρ', t', σ', h1, h2⟩ => ⟨ρ', t', σ', h1, hq _ _ _ h2⟩) (h m c hc ρ0 σ0 w0 ρ a w hst)
/-- Rows name rows that are there. -/
theorem AW.wf {P : Program} {N n0 : Nat} {sc : SC} {t : T} {σ : AHeap} {Q : Exit → T → AHeap → Prop} (h : σ.WF → n0 ≤ σ.next → AW P N n0 sc t σ Q) : AW P N n0 sc t σ Q :=
  fun m c hc ρ0 σ0 w0 ρ a w hst => h hst.hrel.wf hst.le m c hc ρ0 σ0 w0 ρ a w hst

/-! ### Loops -/
theorem wp_loop_idx {P : Program} {c : Code} {Q : Exit → Act → World → Prop} (I : Nat → Act → World → Prop)
    (round : ∀ m a w, I m a w → c.wp P (Exit.then (fun a' w' => ∃ m', m' < m ∧ I m' a' w') Q) a w) : ∀ m a w, I m a w → (Code.loop c).wp P Q a w := by
  intro m a w hI b k cs
  have key : ∀ m a w, I m a w → ∃ e a' w', Q e a' w' ∧ Arrives P (lone (b.at a (.code c :: .inLoop c :: k)) cs w) b k cs e a' w' := by
    intro m
    induction m using Nat.strongRecOn with
    | _ m ih =>
      intro a w hI
      obtain ⟨e, a₁, w₁, hq, harr⟩ := round m a w hI b (.inLoop c :: k) cs
      cases e with
      | normal =>
        obtain ⟨m', hlt, hI₁⟩ := hq
        obtain ⟨e₂, a₂, w₂, hq₂, harr₂⟩ := ih m' hlt a₁ w₁ hI₁
        exact ⟨e₂, a₂, w₂, hq₂, .of_steps (Steps.trans harr (.one step_inLoop)) harr₂⟩
      | exit id => exact ⟨_, a₁, w₁, hq, .pass (x := .inLoop c) rfl (fun _ _ => .inl (by simp)) harr⟩
      | goto l => exact ⟨_, a₁, w₁, hq, .pass (x := .inLoop c) rfl (fun _ _ => .inl (by simp)) harr⟩
      | ret => exact ⟨_, a₁, w₁, hq, .pass (x := .inLoop c) rfl (fun _ _ => .inl (by simp)) harr⟩
      | panic ch => exact ⟨_, a₁, w₁, hq, .pass (x := .inLoop c) rfl (fun _ _ => .inl (by simp)) harr⟩
      | outgrown => exact ⟨_, a₁, w₁, hq, .pass (x := .inLoop c) rfl (fun _ _ => .inl (by simp)) harr⟩
  obtain ⟨e, a', w', hq, harr⟩ := key m a w hI
  exact ⟨e, a', w', hq, .of_steps (.one step_loop) harr⟩

/-- The next round's state, after forgetting. -/
def Again (n0 : Nat) (I : Nat → T → AHeap → Prop) (m : Nat) (_ : Hd I) (t' : T) (σ' : AHeap) : Prop :=
  ∃ m' t σ, m' < m ∧ n0 ≤ σ.next ∧ Sub σ' σ ∧ TSub σ.next t' t ∧ I m' t σ

theorem AW.loop {P : Program} {S : Orc} (hS : SOK P S) {N n0 : Nat} {body : SC} {Q : Exit → T → AHeap → Prop} (I : Nat → T → AHeap → Prop)
    (round : ∀ m t σ, I m t σ → n0 ≤ σ.next → σ.WF → AX P S N n0 body t σ (seqK (Again n0 I m ⟨⟩) Q)) {m : Nat} {t : T} {σ : AHeap} (h : I m t σ) : AW P N n0 (.loop body) t σ Q := by
  intro md c hc ρ0 σ0 w0 ρ a w hst
  cases c <;> simp only [strip] at hc <;> try (cases hc; done)
  case loop c' =>
    simp only [Option.map_eq_some_iff] at hc
    obtain ⟨b', hb, he⟩ := hc
    cases he
    refine wp_loop_idx (fun m a w => ∃ ρ t σ, St n0 N ρ0 σ0 w0 ρ t σ a w ∧ I m t σ) ?_ m a w ⟨ρ, t, σ, hst, h⟩
    rintro m a w ⟨ρ, t, σ, hst, hI⟩
    have hx := AX_sound hS _ _ _ _ (round m t σ hI hst.le hst.hrel.wf) md c' hb ρ0 σ0 w0 ρ a w hst
    refine Code.wp_mono ?_ hx
    rintro e a' w' ⟨ρ', t', σ', hst', hq⟩
    cases e with
    | normal =>
      obtain ⟨m', t2, σ2, hlt, hn, hs, ht, hI'⟩ := hq
      exact ⟨m', hlt, ρ', t2, σ2, hst'.sub hs ht hn, hI'⟩
    | _ => exact ⟨ρ', t', σ', hst', hq⟩
  all_goals (exfalso; first
    | (unfold stripR at hc; (repeat' split at hc) <;> cases hc; done)
    | (split at hc <;> cases hc; done) | (simp at hc; done))

/-! ### Functions -/
structure FOK (P : Program) (f : FuncId) (N : Nat) (sc : SC) (res : List Nat) : Prop where
  ok : ∃ m fn c, P.funcs[f]? = some fn ∧ fn.ntmps = N ∧ fn.body = some c ∧ strip m P N c = some sc ∧ fn.results = (res.map ResultVar.tmp).toArray ∧ callable P f = true ∧ res.length ≤ 3
def argT (args : List AV) : T := fun i => args.getD i .junk
def aret (res : List Nat) (t : T) : AV :=
  match res with
  | [r] => t r
  | l => .tup (l.map t)
/-- The end of a function: what is no longer of use is forgotten. -/
def retK (n0 : Nat) (res : List Nat) (R : AV → AHeap → Prop) (_ : Hd R) : Exit → T → AHeap → Prop
  | .normal, t, σ' => ∃ σ, n0 ≤ σ.next ∧ Sub σ' σ ∧ (aret res t).rl σ.next = true ∧ R (aret res t) σ
  | .ret, t, σ' => ∃ σ, n0 ≤ σ.next ∧ Sub σ' σ ∧ (aret res t).rl σ.next = true ∧ R (aret res t) σ
  | _, _, _ => False

def cret (res : List Nat) (tmps : Array Value) : Value :=
  match res with
  | [r] => tmps.getD r undef
  | l => .tuple (l.map fun r => tmps.getD r undef).toArray
theorem run_results {P : Program} {fn : Func} {res : List Nat} (hl : res.length ≤ 3) (h : fn.results = (res.map ResultVar.tmp).toArray) (tmps : Array Value) (w : World) :
    (results fn tmps).run P w = .ok (cret res tmps) w := by
  match res, hl with
  | [], _ => simpa [cret] using results_none (by simpa using h) tmps P w
  | [r], _ => simpa [cret] using results_tmp (by simpa using h) tmps P w
  | [r, s], _ => simpa [cret] using results_tmp2 (by simpa using h) tmps P w
  | [r, s, u], _ => simp [results, h, cret]

theorem argT_rel {n : Nat} {ρ : Nat → RI} : ∀ (args : List AV) (cargs : List Value) (k : Nat), VRs n ρ args cargs → ∀ i, VR n ρ (argT args i) ((cargs ++ List.replicate k undef).getD i undef) := by
  intro args cargs k h i
  unfold argT
  rw [List.getD_eq_getElem?_getD, List.getD_eq_getElem?_getD]
  cases hi : args[i]? with
  | none => exact .junk _
  | some x =>
    obtain ⟨y, hy, hr⟩ := h.get i x hi
    have hlt : i < cargs.length := (List.getElem?_eq_some_iff.1 hy).1
    rw [List.getElem?_append_left hlt, hy]
    exact hr

theorem acalls_of {P : Program} {S : Orc} (hS : SOK P S) {f : FuncId} {N : Nat} {sc : SC} {res : List Nat} (hf : FOK P f N sc res) {args : List AV} (hargs : args.length ≤ N) {σ : AHeap} {R : AV → AHeap → Prop}
    (h : σ.WF → AV.rls σ.next args = true → AX P S N σ.next sc (argT args) σ (retK σ.next res R ⟨⟩)) : ACalls P f args σ R := by
  obtain ⟨md, fn, c, hfn, hN, hb, hs, hres, hcall, hrl3⟩ := hf.ok
  refine ⟨hcall, fun ρ w cargs hv hh => ?_⟩
  refine calls_of_wp hfn hb ?_
  have hlen : cargs.size = args.length := by have := hv.length; simpa using this.symm
  have hst : St σ.next N ρ σ w ρ (argT args) σ { tmps := cargs ++ Array.replicate (fn.ntmps - cargs.size) undef, defers := [] } w := by
    refine ⟨⟨rfl, by simp; omega, fun i => ?_⟩, hh, Fr.refl _ _ _, fun _ _ => rfl, Nat.le_refl _⟩
    have := argT_rel args cargs.toList (fn.ntmps - cargs.size) hv i
    rw [List.getD_eq_getElem?_getD] at this
    rw [Array.getD_eq_getD_getElem?]
    simpa [← Array.getElem?_toList] using this
  refine Code.wp_mono ?_ (AX_sound hS _ _ _ _ (h hh.wf hv.rls) md c hs ρ σ w ρ _ w hst)
  rintro e a' w' ⟨ρ', t', σ', hst', hq⟩
  have fin : (∃ σ2, σ.next ≤ σ2.next ∧ Sub σ' σ2 ∧ (aret res t').rl σ2.next = true ∧ R (aret res t') σ2) → a'.defers = [] ∧ ∃ v, (results fn a'.tmps).run P w' = .ok v w' ∧
      ∃ cv v' ρ2 σ2, Ending.returned v = .returned cv ∧ VR σ2.next ρ2 v' cv ∧ HRel ρ2 σ2 w' ∧ Fr ρ σ w ρ2 σ2 w' ∧ σ.next ≤ σ2.next ∧ (∀ i, i < σ.next → ρ2 i = ρ i) ∧ R v' σ2 := by
    rintro ⟨σ2, hn, hsub, hrl, hR⟩
    refine ⟨hst'.trel.defers, _, run_results hrl3 hres a'.tmps w', _, aret res t', ρ', σ2, rfl, ?_, hst'.hrel.sub hsub, hst'.fr.sub hsub, hn, hst'.agree, hR⟩
    have hv' : VR σ'.next ρ' (aret res t') (cret res a'.tmps) := by
      have hall : ∀ l : List Nat, VRs σ'.next ρ' (l.map t') (l.map fun r => a'.tmps.getD r undef) := by
        intro l
        induction l with
        | nil => exact .nil
        | cons r l ih => exact .cons _ _ _ _ (hst'.trel.slot r) ih
      match res with
      | [] => exact .tup _ _ (by simpa using hall [])
      | [r] => exact hst'.trel.slot r
      | r :: s :: l => exact .tup _ _ (by simpa using hall (r :: s :: l))
    exact hv'.mono hrl (fun _ _ => rfl)
  cases e with
  | normal => exact fin hq
  | ret => exact fin hq
  | exit id => exact hq.elim
  | goto l => exact hq.elim
  | panic ch => exact hq.elim
  | outgrown => exact hq.elim

/-! ### Rules for the walk -/
section
variable {P : Program} {S : Orc} {N n0 : Nat} {t : T} {σ : AHeap} {Q : Exit → T → AHeap → Prop} {K : T → AHeap → Prop} {rest : List SO}
theorem AX_skip : AX P S N n0 .skip t σ Q = Q .normal t σ := rfl
theorem AX_reg {ops : List SO} : AX P S N n0 (.reg ops) t σ Q = AR P S ops t σ (Q .normal) := rfl
theorem AX_regq {ops : List SO} : AX P S N n0 (.regq ops) t σ Q = ARq P S ops t σ (Q .normal) := rfl
theorem AX_regs {hd tl : List SO} : AX P S N n0 (.regs hd tl) t σ Q = ARs P S hd t σ fun t σ => AR P S tl t σ (Q .normal) := rfl
theorem AX_seq {a b : SC} : AX P S N n0 (.seq a b) t σ Q = AX P S N n0 a t σ (seqK (fun t σ => AX P S N n0 b t σ Q) Q) := rfl
theorem AX_cond {c : Operand} {a b : SC} : AX P S N n0 (.cond c a b) t σ Q = ACond (aev t c) (fun _ => AX P S N n0 a t σ Q) (fun _ => AX P S N n0 b t σ Q) := rfl
theorem AX_block {id : Nat} {a : SC} : AX P S N n0 (.block id a) t σ Q = AX P S N n0 a t σ (blockK id Q) := rfl
theorem AX_loop {a : SC} : AX P S N n0 (.loop a) t σ Q = LPK P N n0 a t σ Q := rfl
theorem AX_scope {a : SC} : AX P S N n0 (.scope a) t σ Q = AX P S N n0 a t σ (noGotoK Q) := rfl
theorem noGotoK_normal : noGotoK Q .normal t σ = Q .normal t σ := rfl
theorem noGotoK_ret : noGotoK Q .ret t σ = Q .ret t σ := rfl
theorem noGotoK_exit {id : Nat} : noGotoK Q (.exit id) t σ = Q (.exit id) t σ := rfl
theorem AX_exit {id : Nat} : AX P S N n0 (.exit id) t σ Q = Q (.exit id) t σ := rfl
theorem AX_ret : AX P S N n0 .ret t σ Q = Q .ret t σ := rfl
theorem AX_regh {r : HT} : AX P S N n0 (.regh r) t σ Q = AHT P S r (some []) t σ (Q .normal) := rfl
theorem AHT_done {H : Option (List Nat)} : AHT P S .done H t σ K = K t σ := rfl
theorem AHT_take_s {H : List Nat} {d : Tmp} {op : Op} {g : Option (Tmp × Bool)} {r : HT} : AHT P S (.take (⟨some d, op, g⟩ : SO) r) (some H) t σ K = AG (aguard t g) (fun _ => ASs (astep P S op (aev t) σ) fun v => AHT P S r (some H) (upd t d v) σ K) (fun _ => AHT P S r (some H) (upd t d (.tup [])) σ K) := rfl
theorem AHT_takf_s {H : Option (List Nat)} {d : Tmp} {op : Op} {g : Option (Tmp × Bool)} {r : HT} : AHT P S (.takf (⟨some d, op, g⟩ : SO) r) H t σ K = AG (aguard t g) (fun _ => ASs (astep P S op (aev t) σ) fun v => AHT P S r H (upd t d v) σ K) (fun _ => AHT P S r H (upd t d (.tup [])) σ K) := rfl
theorem AHT_load_s {H : List Nat} {d : Tmp} {op : Op} {x : Operand} {g : Option (Tmp × Bool)} {r : HT} : AHT P S (.load (⟨some d, op, g⟩ : SO) x r) (some H) t σ K = AG (aguard t g) (fun _ => ASs (astep P S op (aev t) σ) fun v => aholdP (aev t x) H fun H' => AHT P S r (some H') (upd t d v) σ K) (fun _ => AHT P S r (some H) (upd t d (.tup [])) σ K) := rfl
theorem AHT_step_s {H : List Nat} {d : Tmp} {op : Op} {g : Option (Tmp × Bool)} {r : HT} : AHT P S (.step (⟨some d, op, g⟩ : SO) r) (some H) t σ K = AG (aguard t g) (fun _ => AHS P (astep P S op (aev t) σ) (fun _ => astep P S op (aev t) (hold H σ)) σ H fun v σ' => AHT P S r (some H) (upd t d v) σ' K) (fun _ => AHT P S r (some H) (upd t d (.tup [])) σ K) := rfl
theorem AHT_step_n {H : List Nat} {op : Op} {g : Option (Tmp × Bool)} {r : HT} : AHT P S (.step (⟨none, op, g⟩ : SO) r) (some H) t σ K = AG (aguard t g) (fun _ => AHS P (astep P S op (aev t) σ) (fun _ => astep P S op (aev t) (hold H σ)) σ H fun v σ' => AHT P S r (some H) t σ' K) (fun _ => AHT P S r (some H) t σ K) := rfl
theorem AHT_fin_s {H : Option (List Nat)} {d : Tmp} {op : Op} {g : Option (Tmp × Bool)} {r : HT} : AHT P S (.fin (⟨some d, op, g⟩ : SO) r) H t σ K = AG (aguard t g) (fun _ => AHE P (astep P S op (aev t) σ) σ fun v σ' => AHT P S r none (upd t d v) σ' K) (fun _ => AHT P S r none (upd t d (.tup [])) σ K) := by cases H <;> rfl
theorem AHT_fin_n {H : Option (List Nat)} {op : Op} {g : Option (Tmp × Bool)} {r : HT} : AHT P S (.fin (⟨none, op, g⟩ : SO) r) H t σ K = AG (aguard t g) (fun _ => AHE P (astep P S op (aev t) σ) σ fun v σ' => AHT P S r none t σ' K) (fun _ => AHT P S r none t σ K) := by cases H <;> rfl
theorem AHT_both {H : Option (List Nat)} {a b : HT} : AHT P S (.both a b) H t σ K = (AHT P S a H t σ K ∧ AHT P S b H t σ K) := by cases H <;> rfl
theorem AHS_val {v : AV} {s2 : Unit → Step} {H : List Nat} {F : AV → AHeap → Prop} : AHS P (.val v) s2 σ H F = F v σ := rfl
theorem AHS_eff {v : AV} {σ' : AHeap} {s2 : Unit → Step} {H : List Nat} {F : AV → AHeap → Prop} : AHS P (.eff v σ') s2 σ H F = (AOk (s2 ()) ∧ AKeep σ σ' H ∧ F v σ') := rfl
theorem AHE_val {v : AV} {F : AV → AHeap → Prop} : AHE P (.val v) σ F = F v σ := rfl
theorem AHE_eff {v : AV} {σ' : AHeap} {F : AV → AHeap → Prop} : AHE P (.eff v σ') σ F = F v σ' := rfl
theorem AHS_call {f : FuncId} {args : List AV} {s2 : Unit → Step} {H : List Nat} {F : AV → AHeap → Prop} : AHS P (.call f args) s2 σ H F = ACH P f args H σ F := rfl
theorem AHE_call {f : FuncId} {args : List AV} {F : AV → AHeap → Prop} : AHE P (.call f args) σ F = ACK P f args σ F := rfl
theorem AOk_eff {v : AV} : AOk (.eff v σ) = True := rfl
theorem AKeep_nil {σ' : AHeap} : AKeep σ σ' [] = True := rfl
theorem AKeep_cons {σ' : AHeap} {i : Nat} {H : List Nat} : AKeep σ σ' (i :: H) = (σ'.get i = σ.get i ∧ AKeep σ σ' H) := rfl
theorem aholdP_ptr {i o : Nat} {H : List Nat} {F : List Nat → Prop} : aholdP (.ptr i o) H F = F (i :: H) := rfl
theorem AX_rega {r : RT} : AX P S N n0 (.rega r) t σ Q = ART P S r t σ (Q .normal) := rfl
theorem ART_done : ART P S .done t σ K = K t σ := rfl
theorem ART_take_s {d : Tmp} {op : Op} {g : Option (Tmp × Bool)} {r : RT} : ART P S (.take (⟨some d, op, g⟩ : SO) r) t σ K = AG (aguard t g) (fun _ => ASs (astep P S op (aev t) σ) fun v => ART P S r (upd t d v) σ K) (fun _ => ART P S r (upd t d (.tup [])) σ K) := rfl
theorem ART_take_n {op : Op} {g : Option (Tmp × Bool)} {r : RT} : ART P S (.take (⟨none, op, g⟩ : SO) r) t σ K = AG (aguard t g) (fun _ => ASs (astep P S op (aev t) σ) fun v => ART P S r t σ K) (fun _ => ART P S r t σ K) := rfl
theorem ART_step_s {d : Tmp} {op : Op} {g : Option (Tmp × Bool)} {r : RT} : ART P S (.step (⟨some d, op, g⟩ : SO) r) t σ K = AG (aguard t g) (fun _ => AS P σ (astep P S op (aev t) σ) fun v σ' => ART P S r (upd t d v) σ' K) (fun _ => ART P S r (upd t d (.tup [])) σ K) := rfl
theorem ART_step_n {op : Op} {g : Option (Tmp × Bool)} {r : RT} : ART P S (.step (⟨none, op, g⟩ : SO) r) t σ K = AG (aguard t g) (fun _ => AS P σ (astep P S op (aev t) σ) fun v σ' => ART P S r t σ' K) (fun _ => ART P S r t σ K) := rfl
theorem ART_both {a b : RT} : ART P S (.both a b) t σ K = (ART P S a t σ K ∧ ART P S b t σ K) := rfl
theorem AR_nil : AR P S [] t σ K = K t σ := rfl
theorem AR_cons_s {d : Tmp} {op : Op} {g : Option (Tmp × Bool)} : AR P S ((⟨some d, op, g⟩ : SO) :: rest) t σ K = AG (aguard t g) (fun _ => AS P σ (astep P S op (aev t) σ) fun v σ' => AR P S rest (upd t d v) σ' K) (fun _ => AR P S rest (upd t d (.tup [])) σ K) := rfl
theorem AR_cons_n {op : Op} {g : Option (Tmp × Bool)} : AR P S ((⟨none, op, g⟩ : SO) :: rest) t σ K = AG (aguard t g) (fun _ => AS P σ (astep P S op (aev t) σ) fun v σ' => AR P S rest t σ' K) (fun _ => AR P S rest t σ K) := rfl
theorem ARq_nil : ARq P S [] t σ K = K t σ := rfl
theorem ARq_cons_s {d : Tmp} {op : Op} {g : Option (Tmp × Bool)} : ARq P S ((⟨some d, op, g⟩ : SO) :: rest) t σ K = AG (aguard t g) (fun _ => ASq P σ (astep P S op (aev t) σ) fun v => ARq P S rest (upd t d v) σ K) (fun _ => ARq P S rest (upd t d (.tup [])) σ K) := rfl
theorem ARq_cons_n {op : Op} {g : Option (Tmp × Bool)} : ARq P S ((⟨none, op, g⟩ : SO) :: rest) t σ K = AG (aguard t g) (fun _ => ASq P σ (astep P S op (aev t) σ) fun v => ARq P S rest t σ K) (fun _ => ARq P S rest t σ K) := rfl
theorem ARs_nil : ARs P S [] t σ K = K t σ := rfl
theorem ARs_cons_s {d : Tmp} {op : Op} {g : Option (Tmp × Bool)} : ARs P S ((⟨some d, op, g⟩ : SO) :: rest) t σ K = AG (aguard t g) (fun _ => ASs (astep P S op (aev t) σ) fun v => ARs P S rest (upd t d v) σ K) (fun _ => ARs P S rest (upd t d (.tup [])) σ K) := rfl
theorem ARs_cons_n {op : Op} {g : Option (Tmp × Bool)} : ARs P S ((⟨none, op, g⟩ : SO) :: rest) t σ K = AG (aguard t g) (fun _ => ASs (astep P S op (aev t) σ) fun v => ARs P S rest t σ K) (fun _ => ARs P S rest t σ K) := rfl
theorem AG_yes {x y : Unit → Prop} {d : Hd (x, y)} : AG .yes x y d = x () := rfl
theorem AG_no {x y : Unit → Prop} {d : Hd (x, y)} : AG .no x y d = y () := rfl
theorem AG_tt {x y : Unit → Prop} {d : Hd (x, y)} : AG (.test true) x y d = x () := by simp [AG]
theorem AG_tf {x y : Unit → Prop} {d : Hd (x, y)} : AG (.test false) x y d = y () := by simp [AG]
theorem AS_val {v : AV} {F : AV → AHeap → Prop} {d : Hd F} : AS P σ (.val v) F d = F v σ := rfl
theorem AS_eff {v : AV} {σ' : AHeap} {F : AV → AHeap → Prop} {d : Hd F} : AS P σ (.eff v σ') F d = F v σ' := rfl
theorem AS_ora {f : FuncId} {args : List AV} {v : AV} {F : AV → AHeap → Prop} {d : Hd F} : AS P σ (.ora f args v) F d = F v σ := rfl
theorem AS_call {f : FuncId} {args : List AV} {F : AV → AHeap → Prop} {d : Hd F} : AS P σ (.call f args) F d = ACK P f args σ F d := rfl
theorem ASq_call {f : FuncId} {args : List AV} {F : AV → Prop} {d : Hd F} : ASq P σ (.call f args) F d = ACQ P f args σ F d := rfl
theorem ASq_val {v : AV} {F : AV → Prop} {d : Hd F} : ASq P σ (.val v) F d = F v := rfl
theorem ASq_ora {f : FuncId} {args : List AV} {v : AV} {F : AV → Prop} {d : Hd F} : ASq P σ (.ora f args v) F d = F v := rfl
theorem ASs_val {v : AV} {F : AV → Prop} {d : Hd F} : ASs (.val v) F d = F v := rfl
theorem seqK_normal {F : T → AHeap → Prop} : seqK F Q .normal t σ = F t σ := rfl
theorem seqK_ret {F : T → AHeap → Prop} : seqK F Q .ret t σ = Q .ret t σ := rfl
theorem seqK_exit {F : T → AHeap → Prop} {id : Nat} : seqK F Q (.exit id) t σ = Q (.exit id) t σ := rfl
theorem blockK_normal {id : Nat} : blockK id Q .normal t σ = Q .normal t σ := rfl
theorem blockK_ret {id : Nat} : blockK id Q .ret t σ = Q .ret t σ := rfl
theorem blockK_exit {id id' : Nat} : blockK id Q (.exit id') t σ = if id' = id then Q .normal t σ else Q (.exit id') t σ := rfl
theorem aguard_none : aguard t none = .yes := rfl
theorem aguard_some {d : Tmp} {b : Bool} : aguard t (some (d, b)) = agv b (t d) := rfl
theorem agv_true {p : Bool} : agv true (.bool p) = .test p := by simp [agv]
theorem agv_tup {p : Bool} : agv p (.tup []) = .no := rfl
theorem agv_false {p : Bool} : agv false (.bool p) = .test (!p) := by simp [agv]
theorem aput_some {d : Tmp} {v : AV} : aput t (some d) v = upd t d v := rfl
theorem aput_none {v : AV} : aput t none v = t := rfl
theorem aev_tmp {i : Tmp} : aev t (.tmp i) = t i := rfl
theorem aev_const {v : Value} : aev t (.const v) = ofC v := rfl
theorem aev_func {f : FuncId} : aev t (.func f) = .fn (.func f) [] := rfl
theorem ofV_val {v : AV} : Step.ofV (some v) = .val v := rfl
theorem ofE_eff {v : AV} {σ : AHeap} : Step.ofE (some (v, σ)) = .eff v σ := rfl
end
end Go.Proofs.Yteeakkakkjhgoaa.A
