/- Regions in any order whose loads come first. Conditions: none. -/
import Derived.Test.YteeakkakkjhgoaaA8
import Derived.Test.YteeakkakkjhgoaaAT
import Derived.OrdersHeld
set_option linter.unusedVariables false
set_option linter.unusedSimpArgs false
namespace Go.Proofs.Yteeakkakkjhgoaa.A
open Go Go.RowKit

section
variable {P : Program} {ops : Array Oper} {Q : Exit → Act → World → Prop} {md : Region.Mode} {S S' : World → Prop} {fine : Nat → Bool}
/-- Whatever order is picked, and S holds behind every operation that is not fine. -/
def wpAnyF (P : Program) (md : Region.Mode) (ops : Array Oper) (Q : Exit → Act → World → Prop) (fine : Nat → Bool) (S : World → Prop) : Nat → Array Bool → Act → World → Prop
  | 0, listed, a, w => Region.ready md ops listed = [] ∧ Q .normal a w
  | fuel + 1, listed, a, w =>
    (Region.ready md ops listed = [] → Q .normal a w) ∧
    ∀ i ∈ Region.ready md ops listed, wpOp P ops Q i (fun a' w' => (fine i = true ∨ S w') ∧ wpAnyF P md ops Q fine S fuel (listed.setIfInBounds i true) a' w') a w
theorem wpAny_of_F : ∀ (fuel : Nat) (listed : Array Bool) (a : Act) (w : World), wpAnyF P md ops Q fine S fuel listed a w → wpAny P md ops Q fuel listed a w
  | 0, _, _, _, h => h
  | fuel + 1, _, _, _, h => ⟨h.1, fun i hi => wpOp_mono (fun a' w' h' => wpAny_of_F fuel _ a' w' h'.2) (h.2 i hi)⟩
theorem wpAnyF_mono (hS : ∀ w, S w → S' w) : ∀ (fuel : Nat) (listed : Array Bool) (a : Act) (w : World), wpAnyF P md ops Q fine S fuel listed a w → wpAnyF P md ops Q fine S' fuel listed a w
  | 0, _, _, _, h => h
  | fuel + 1, _, _, _, h => ⟨h.1, fun i hi => wpOp_mono (fun a' w' h' => ⟨h'.1.imp id (hS w'), wpAnyF_mono hS fuel _ a' w' h'.2⟩) (h.2 i hi)⟩
theorem wpAnyF_first {i : Nat} {oi : Oper} {v : Value} (hi : ops[i]? = some oi) (hsel : ∀ (j : Nat) (o : Oper) cs b, ops[j]? = some o → o.op ≠ .select cs b)
    (hQ : ∀ c a w, Q (.panic c) (a.put oi.dst v) w → Q (.panic c) a w)
    (hk : ∀ j oj, ops[j]? = some oj → j ≠ i → (∀ e ∈ oj.after, Region.binds md e = true → e.on ≠ i) → ∀ w, (fine j = true ∨ S w) → S' w ∧ (fine i = true ∨ S w)) :
    ∀ (fuel : Nat) (listed : Array Bool) (a : Act) (w : World),
      (∀ j oj, ops[j]? = some oj → j ≠ i → listed.getD j true = false → (∀ e ∈ oj.after, Region.binds md e = true → e.on ≠ i) → oi.apart ops oj = true) →
      i ∈ Region.ready md ops listed → YieldsIf P ops S' oi v a → S' w → (fine i = true ∨ S w) →
      wpAnyF P md ops Q fine S fuel (listed.setIfInBounds i true) (a.put oi.dst v) w → wpAnyF P md ops Q fine S (fuel + 1) listed a w := by
  intro fuel
  induction fuel with
  | zero =>
    intro listed a w _ hr hy hS hSi H
    refine ⟨fun h => (by rw [h] at hr; cases hr), fun j hj => ?_⟩
    by_cases hji : j = i
    · subst hji; exact hy.wpOp hi hS ⟨hSi, H⟩
    · have := ready_mono hj hji
      rw [H.1] at this
      cases this
  | succ fuel ih =>
    intro listed a w hfree hr hy hS hSi H
    refine ⟨fun h => (by rw [h] at hr; cases hr), fun j hj => ?_⟩
    by_cases hji : j = i
    · subst hji; exact hy.wpOp hi hS ⟨hSi, H⟩
    · have h1 := H.2 j (ready_mono hj hji)
      obtain ⟨hjun, oj, hoj, hall⟩ := mem_ready.1 hj
      have hnot : ∀ e ∈ oj.after, Region.binds md e = true → e.on ≠ i := fun e he hb heq => by
        have h1 := hall e he hb
        have h0 := (mem_ready.1 hr).1
        rw [heq] at h1
        rcases Nat.lt_or_ge i listed.size with h' | h'
        · simp [h'] at h0 h1; rw [h0] at h1; cases h1
        · simp [Array.getElem?_eq_none h'] at h1
      have h2 := wpOp_putIf hoj (hfree j oj hoj hji hjun hnot) (fun cs b => hsel i oi cs b hi) (fun cs b => hsel j oj cs b hoj) hQ hy h1
      have hfree' : ∀ k ok, ops[k]? = some ok → k ≠ i → (listed.setIfInBounds j true).getD k true = false →
          (∀ e ∈ ok.after, Region.binds md e = true → e.on ≠ i) → oi.apart ops ok = true := fun k ok hk hki hun hno => by
        refine hfree k ok hk hki ?_ hno
        by_cases hjk : j = k
        · subst hjk; exact hjun
        · rw [getD_set_ne true hjk] at hun; exact hun
      refine wpOp_mono (fun a' w' h3 => ⟨h3.2.1, ?_⟩) h2
      obtain ⟨k1, k2⟩ := hk j oj hoj hji hnot w' h3.2.1
      refine ih (listed.setIfInBounds j true) a' w' hfree' (ready_mono hr (Ne.symm hji)) h3.1 k1 k2 ?_
      rw [Array.setIfInBounds_comm _ _ hji]
      exact h3.2.2
end

/-! ### Memory of which some rows are not to be touched -/
def hold (H : List Nat) (σ : AHeap) : AHeap := ⟨fun j => if H.contains j then .dead else σ.get j, σ.next⟩
theorem next_hold (H : List Nat) (σ : AHeap) : (hold H σ).next = σ.next := rfl
theorem get_hold_nil (σ : AHeap) (j : Nat) : (hold [] σ).get j = σ.get j := rfl
theorem get_hold_ne (H : List Nat) (σ : AHeap) {i j : Nat} (h : j ≠ i) : (hold (i :: H) σ).get j = (hold H σ).get j := by
  show (if (i :: H).contains j then AObj.dead else σ.get j) = if H.contains j then AObj.dead else σ.get j
  rw [List.contains_cons]; simp [h]
theorem cells_hold_nil (σ : AHeap) (j : Nat) : (hold [] σ).cells j = σ.cells j := rfl
theorem cells_hold_ne (H : List Nat) (σ : AHeap) {i j : Nat} (h : j ≠ i) : (hold (i :: H) σ).cells j = (hold H σ).cells j := by
  unfold AHeap.cells; rw [get_hold_ne H σ h]
theorem hold_hrel {ρ : Nat → RI} {σ : AHeap} {w : World} (H : List Nat) (h : HRel ρ σ w) : HRel ρ (hold H σ) w where
  row := fun i hi => by
    show ORel σ.next ρ (ρ i) (if H.contains i then .dead else σ.get i) w
    split
    · trivial
    · exact h.row i hi
  apart := fun i j hi hj hij ho hl => by
    have e : ∀ k, ((hold H σ).get k).live = true → (hold H σ).get k = σ.get k := fun k hk => by
      show (if H.contains k then .dead else σ.get k) = σ.get k
      have hk' : (if H.contains k then AObj.dead else σ.get k).live = true := hk
      split at hk'
      · cases hk'
      · rename_i hc; rw [if_neg hc]
    have e1 := e i (AObj.live_of_owned ho)
    have e2 := e j hl
    rw [e1] at ho; rw [e2] at hl
    exact h.apart i j hi hj hij ho hl
  inside := fun i hi ho => by
    have ho' : (if H.contains i then AObj.dead else σ.get i).owned = true := ho
    split at ho'
    · cases ho'
    · exact h.inside i hi ho'
theorem hold_not_owned {ρ : Nat → RI} {σ : AHeap} {w : World} {H : List Nat} (h : HRel ρ σ w) {i : Nat} (hi : i < σ.next) (hm : i ∈ H) (hl : (σ.get i).live = true) : ¬ Owned ρ (hold H σ) (ρ i).addr.block := by
  rintro ⟨j, hj, ho, hb⟩
  have ho' : (if H.contains j then AObj.dead else σ.get j).owned = true := ho
  split at ho'
  · cases ho'
  · rename_i hc
    have hji : j ≠ i := fun e => by subst e; exact hc (by simpa using hm)
    exact h.apart j i hj hi hji ho' hl hb

def AKeep (σ σ' : AHeap) : List Nat → Prop
  | [] => True
  | i :: H => σ'.get i = σ.get i ∧ AKeep σ σ' H
theorem AKeep.get {σ σ' : AHeap} : ∀ {H : List Nat}, AKeep σ σ' H → ∀ i ∈ H, σ'.get i = σ.get i
  | [], _, i, hi => by cases hi
  | x :: H, h, i, hi => by
    rcases List.mem_cons.1 hi with rfl | hi
    · exact h.1
    · exact h.2.get i hi
def AOk : Step → Prop
  | .eff _ _ => True
  | _ => False
/-- Memory behind a call that did not see the held rows. -/
def unhold (H : List Nat) (σ σ2 : AHeap) : AHeap := ⟨fun j => if H.contains j = true ∧ j < σ.next then σ.get j else match σ2.get j with
  | .ro (c :: cs) => if j < σ.next ∧ (σ.get j).live = true then .ro (c :: cs) else .dead
  | o => o, σ2.next⟩
theorem unhold_in {H : List Nat} {σ σ2 : AHeap} {j : Nat} (h : j ∈ H) (hj : j < σ.next) : (unhold H σ σ2).get j = σ.get j := by
  show (if H.contains j = true ∧ j < σ.next then σ.get j else _) = _
  rw [if_pos ⟨by simpa using h, hj⟩]
theorem unhold_out {H : List Nat} {σ σ2 : AHeap} {j : Nat} (h : ¬ (j ∈ H ∧ j < σ.next)) : (unhold H σ σ2).get j = match σ2.get j with
  | .ro (c :: cs) => if j < σ.next ∧ (σ.get j).live = true then .ro (c :: cs) else .dead
  | o => o := by
  show (if H.contains j = true ∧ j < σ.next then σ.get j else _) = _
  rw [if_neg (by simpa using h)]
theorem unhold_cases {H : List Nat} {σ σ2 : AHeap} {j : Nat} (h : ¬ (j ∈ H ∧ j < σ.next)) : (unhold H σ σ2).get j = .dead ∨ ((unhold H σ σ2).get j = σ2.get j ∧ ((σ2.get j).live = true → (σ2.get j).owned = true ∨ (j < σ.next ∧ (σ.get j).live = true))) := by
  rw [unhold_out h]
  cases ho : σ2.get j with
  | dead => exact .inl rfl
  | own s cs => exact .inr ⟨rfl, fun _ => .inl rfl⟩
  | amap m => exact .inr ⟨rfl, fun _ => .inl rfl⟩
  | ro cs =>
    cases cs with
    | nil => exact .inr ⟨rfl, fun h => by cases h⟩
    | cons c cs =>
      by_cases hc : j < σ.next ∧ (σ.get j).live = true
      · exact .inr ⟨by simp only []; rw [if_pos hc], fun _ => .inr hc⟩
      · exact .inl (by simp only []; rw [if_neg hc])
theorem unhold_own {H : List Nat} {σ σ2 : AHeap} {j : Nat} (h : j ∉ H) (ho : (σ2.get j).owned = true) : (unhold H σ σ2).get j = σ2.get j := by
  rw [unhold_out (fun q => h q.1)]
  cases hq : σ2.get j <;> rw [hq] at ho <;> first | rfl | cases ho
theorem unhold_same {H : List Nat} {σ σ2 : AHeap} {j : Nat} (hj : j < σ.next) (h : j ∉ H → σ2.get j = σ.get j) : (unhold H σ σ2).get j = σ.get j := by
  by_cases hm : j ∈ H
  · exact unhold_in hm hj
  · rw [unhold_out (fun q => hm q.1), h hm]
    cases hq : σ.get j with
    | ro cs =>
      cases cs with
      | nil => rfl
      | cons c cs => simp only []; rw [if_pos ⟨hj, rfl⟩]
    | _ => rfl
theorem hold_get_not {H : List Nat} {σ : AHeap} {j : Nat} (h : j ∉ H) : (hold H σ).get j = σ.get j := by
  show (if H.contains j then AObj.dead else σ.get j) = _
  rw [if_neg (by simpa using h)]
theorem hold_owned {ρ : Nat → RI} {H : List Nat} {σ : AHeap} {b : Nat} (h : Owned ρ (hold H σ) b) : ∃ i, i ∉ H ∧ i < σ.next ∧ (σ.get i).owned = true ∧ (ρ i).addr.block = b := by
  obtain ⟨i, hi, ho, hb⟩ := h
  have hm : i ∉ H := fun hm => by
    have : (hold H σ).get i = .dead := by
      show (if H.contains i then AObj.dead else σ.get i) = _
      rw [if_pos (by simpa using hm)]
    rw [this] at ho; cases ho
  rw [hold_get_not hm] at ho
  exact ⟨i, hm, hi, ho, hb⟩
theorem unhold_hrel {ρ ρ' : Nat → RI} {H : List Nat} {σ σ2 : AHeap} {w w' : World} (h : HRel ρ σ w) (h2 : HRel ρ' σ2 w') (hf : Fr ρ (hold H σ) w ρ' σ2 w') (hn : σ.next ≤ σ2.next) (he : ∀ i, i < σ.next → ρ' i = ρ i) :
    HRel ρ' (unhold H σ σ2) w' ∧ Fr ρ σ w ρ' (unhold H σ σ2) w' := by
  -- what an owned row of the new memory lies in
  have hown : ∀ i, i < σ2.next → (σ2.get i).owned = true → (∃ k, k ∉ H ∧ k < σ.next ∧ (σ.get k).owned = true ∧ (ρ k).addr.block = (ρ' i).addr.block) ∨ w.heap.size ≤ (ρ' i).addr.block := fun i hi ho => by
    rcases hf.own _ ⟨i, hi, ho, rfl⟩ with q | q
    · exact .inl (hold_owned q)
    · exact .inr q
  refine ⟨⟨fun i hi => ?_, fun i j hi hj hij hoi hlj => ?_, fun i hi ho => ?_⟩, ⟨hf.os, hf.tape, hf.output, hf.size, fun b hb hno => ?_, fun b hb => ?_⟩⟩
  · have hi : i < σ2.next := hi
    by_cases hm : i ∈ H ∧ i < σ.next
    · rw [unhold_in hm.1 hm.2]
      show ORel σ2.next ρ' (ρ' i) (σ.get i) w'
      rw [he i hm.2]
      refine (h.row i hm.2).up hn he (fun hl => ?_)
      have hblt := (h.row i hm.2).block_lt hl
      exact hf.same _ hblt (hold_not_owned h hm.2 hm.1 hl)
    · show ORel σ2.next ρ' (ρ' i) ((unhold H σ σ2).get i) w'
      rcases unhold_cases (σ := σ) (σ2 := σ2) hm with q | ⟨q, _⟩
      · rw [q]; trivial
      · rw [q]; exact h2.row i hi
  · have hi : i < σ2.next := hi
    have hj : j < σ2.next := hj
    by_cases hmi : i ∈ H ∧ i < σ.next
    · rw [unhold_in hmi.1 hmi.2] at hoi
      rw [he i hmi.2]
      by_cases hmj : j ∈ H ∧ j < σ.next
      · rw [unhold_in hmj.1 hmj.2] at hlj
        rw [he j hmj.2]
        exact h.apart i j hmi.2 hmj.2 hij hoi hlj
      · rcases unhold_cases (σ := σ) (σ2 := σ2) hmj with q | ⟨q, q2⟩
        · rw [q] at hlj; cases hlj
        · rw [q] at hlj
          rcases q2 hlj with q3 | q3
          · rcases hown j hj q3 with ⟨k, k1, k2, k3, k4⟩ | q4
            · rw [← k4]
              exact h.apart i k hmi.2 k2 (fun e => k1 (e ▸ hmi.1)) hoi (AObj.live_of_owned k3)
            · have := h.inside i hmi.2 hoi
              omega
          · rw [he j q3.1]
            exact h.apart i j hmi.2 q3.1 hij hoi q3.2
    · rcases unhold_cases (σ := σ) (σ2 := σ2) hmi with q | ⟨q, _⟩
      · rw [q] at hoi; cases hoi
      · rw [q] at hoi
        by_cases hmj : j ∈ H ∧ j < σ.next
        · rw [unhold_in hmj.1 hmj.2] at hlj
          rw [he j hmj.2]
          rcases hown i hi hoi with ⟨k, k1, k2, k3, k4⟩ | q4
          · rw [← k4]
            exact h.apart k j k2 hmj.2 (fun e => k1 (e ▸ hmj.1)) k3 hlj
          · have := (h.row j hmj.2).block_lt hlj
            omega
        · rcases unhold_cases (σ := σ) (σ2 := σ2) hmj with q3 | ⟨q3, _⟩
          · rw [q3] at hlj; cases hlj
          · rw [q3] at hlj
            exact h2.apart i j hi hj hij hoi hlj
  · have hi : i < σ2.next := hi
    by_cases hm : i ∈ H ∧ i < σ.next
    · rw [unhold_in hm.1 hm.2] at ho
      rw [he i hm.2]
      exact Nat.lt_of_lt_of_le (h.inside i hm.2 ho) hf.size
    · rcases unhold_cases (σ := σ) (σ2 := σ2) hm with q | ⟨q, _⟩
      · rw [q] at ho; cases ho
      · rw [q] at ho; exact h2.inside i hi ho
  · refine hf.same b hb fun hq => hno ?_
    obtain ⟨i, _, hi, ho, hb⟩ := hold_owned hq
    exact ⟨i, hi, ho, hb⟩
  · obtain ⟨i, hi, ho, hb⟩ := hb
    have hi : i < σ2.next := hi
    by_cases hm : i ∈ H ∧ i < σ.next
    · rw [unhold_in hm.1 hm.2] at ho
      rw [he i hm.2] at hb
      exact .inl ⟨i, hm.2, ho, hb⟩
    · rcases unhold_cases (σ := σ) (σ2 := σ2) hm with q | ⟨q, _⟩
      · rw [q] at ho; cases ho
      · rw [q] at ho
        rcases hown i hi ho with ⟨k, _, k2, k3, k4⟩ | q4
        · exact .inl ⟨k, k2, k3, k4.trans hb⟩
        · exact .inr (hb ▸ q4)
/-- A call behind loads that were taken ahead. -/
def ACH (P : Program) (f : FuncId) (args : List AV) (H : List Nat) (σ : AHeap) (F : AV → AHeap → Prop) (_ : Hd F := ⟨⟩) : Prop := ACalls P f args (hold H σ) fun v σ2 => F v (unhold H σ σ2)
def AHS (P : Program) (s : Step) (s2 : Unit → Step) (σ : AHeap) (H : List Nat) (F : AV → AHeap → Prop) (_ : Hd (s2, F) := ⟨⟩) : Prop :=
  match s with
  | .val v => F v σ
  | .eff v σ' => AOk (s2 ()) ∧ AKeep σ σ' H ∧ F v σ'
  | .call f args => ACH P f args H σ F
  | _ => False
def AHE (P : Program) (s : Step) (σ : AHeap) (F : AV → AHeap → Prop) (_ : Hd F := ⟨⟩) : Prop :=
  match s with
  | .val v => F v σ
  | .eff v σ' => F v σ'
  | .call f args => ACK P f args σ F
  | _ => False
def aholdP (v : AV) (H : List Nat) (F : List Nat → Prop) (_ : Hd F := ⟨⟩) : Prop :=
  match v with
  | .ptr i _ => F (i :: H)
  | _ => False
/-- An order of a region's operations, with its forks: loads that come first, operations behind all loads. -/
inductive HT where
  | done
  | take (o : SO) (r : HT)
  | takf (o : SO) (r : HT)
  | load (o : SO) (x : Operand) (r : HT)
  | step (o : SO) (r : HT)
  | fin (o : SO) (r : HT)
  | both (a b : HT)
  | bad
def AHT (P : Program) (S : Orc) : HT → Option (List Nat) → T → AHeap → (T → AHeap → Prop) → Prop
  | .done, H, t, σ, K => K t σ
  | .take o r, some H, t, σ, K => AG (aguard t o.g) (fun _ => ASs (astep P S o.op (aev t) σ) fun v => AHT P S r (some H) (aput t o.dst v) σ K) (fun _ => AHT P S r (some H) (aput t o.dst (.tup [])) σ K)
  | .takf o r, H, t, σ, K => AG (aguard t o.g) (fun _ => ASs (astep P S o.op (aev t) σ) fun v => AHT P S r H (aput t o.dst v) σ K) (fun _ => AHT P S r H (aput t o.dst (.tup [])) σ K)
  | .load o x r, some H, t, σ, K => AG (aguard t o.g) (fun _ => ASs (astep P S o.op (aev t) σ) fun v => aholdP (aev t x) H fun H' => AHT P S r (some H') (aput t o.dst v) σ K) (fun _ => AHT P S r (some H) (aput t o.dst (.tup [])) σ K)
  | .step o r, some H, t, σ, K => AG (aguard t o.g) (fun _ => AHS P (astep P S o.op (aev t) σ) (fun _ => astep P S o.op (aev t) (hold H σ)) σ H fun v σ' => AHT P S r (some H) (aput t o.dst v) σ' K) (fun _ => AHT P S r (some H) (aput t o.dst (.tup [])) σ K)
  | .fin o r, H, t, σ, K => AG (aguard t o.g) (fun _ => AHE P (astep P S o.op (aev t) σ) σ fun v σ' => AHT P S r none (aput t o.dst v) σ' K) (fun _ => AHT P S r none (aput t o.dst (.tup [])) σ K)
  | .both a b, H, t, σ, K => AHT P S a H t σ K ∧ AHT P S b H t σ K
  | _, _, _, _, _ => False
def HT.of (sl : List SO) : IT → HT
  | .done => .done
  | .take i r => match sl[i]? with
    | some o => .take o (HT.of sl r)
    | none => .bad
  | .takf i r => match sl[i]? with
    | some o => .takf o (HT.of sl r)
    | none => .bad
  | .load i r => match sl[i]? with
    | some o => match o.op with
      | .load _ x => .load o x (HT.of sl r)
      | _ => .bad
    | none => .bad
  | .step i r => match sl[i]? with
    | some o => .step o (HT.of sl r)
    | none => .bad
  | .fin i r => match sl[i]? with
    | some o => .fin o (HT.of sl r)
    | none => .bad
  | .both a b => .both (HT.of sl a) (HT.of sl b)
  | .bad => .bad
theorem AHT_bothI {P : Program} {S : Orc} {sl : List SO} {H : Option (List Nat)} {t : T} {σ : AHeap} {K : T → AHeap → Prop} : ∀ (l : List IT), AHT P S (HT.of sl (bothI l)) H t σ K → ∀ r ∈ l, AHT P S (HT.of sl r) H t σ K
  | [], h, r, hr => by cases hr
  | [x], h, r, hr => by simp at hr; subst hr; exact h
  | x :: y :: l, h, r, hr => by
    simp only [bothI, HT.of, AHT] at h
    rcases List.mem_cons.1 hr with rfl | hr
    · exact h.1
    · exact AHT_bothI (y :: l) h.2 r hr
/-- The blocks that are held are as they were. -/
def SH (HC : List (Nat × Option Obj)) (w : World) : Prop := ∀ x ∈ HC, x.2 = none ∨ w.heap[x.1]? = x.2
def HInv (H : Option (List Nat)) (HC : List (Nat × Option Obj)) (ρ : Nat → RI) (σ : AHeap) (w : World) : Prop :=
  match H with
  | none => True
  | some H => SH HC w ∧ ∀ x ∈ HC, ∃ i ∈ H, i < σ.next ∧ (σ.get i).live = true ∧ x.1 = (ρ i).addr.block
theorem cell_block {w w' : World} {a : Addr} {v : Value} (h : w.cell? a = some v) (hb : w.heap[a.block]? = none ∨ w'.heap[a.block]? = w.heap[a.block]?) : w'.cell? a = some v := by
  have hlt := World.block_lt_of_cell? w a h
  rcases hb with hb | hb
  · rw [Array.getElem?_eq_none_iff] at hb; omega
  · unfold World.cell? at h ⊢; rw [hb]; exact h
theorem add_blk (a : Addr) (k : Nat) : (a.add k).block = a.block := by unfold Addr.add; split <;> rfl
theorem load_held {P : Program} {ty : TypeId} {i off : Nat} {σ : AHeap} {v : AV} {ρ : Nat → RI} {w : World} {ca : Value} (h : aload P ty (.ptr i off) σ = some v) (hh : HRel ρ σ w) (ha : VR σ.next ρ (.ptr i off) ca) :
    i < σ.next ∧ ∃ cv, VR σ.next ρ v cv ∧ ∀ w', ((σ.get i).live = true → w.heap[(ρ i).addr.block]? = none ∨ w'.heap[(ρ i).addr.block]? = w.heap[(ρ i).addr.block]?) → (Instr.loadAt ty ca).run P w' = .ok cv w' := by
  cases ha; rename_i hi
  refine ⟨hi, ?_⟩
  simp only [aload] at h
  split at h
  · cases h
  rename_i cs hcs
  have hlive : (σ.get i).live = true ∨ cs = [] := by
    unfold AHeap.cells at hcs
    cases ho : σ.get i with
    | dead => rw [ho] at hcs; cases hcs
    | amap m => rw [ho] at hcs; cases hcs
    | own s c => exact .inl rfl
    | ro c =>
      rw [ho] at hcs
      cases hcs
      cases cs with
      | nil => exact .inr rfl
      | cons x l => exact .inl rfl
  split at h
  · rename_i his
    split at h
    · rename_i hagg
      split at h
      · rename_i k hk
        split at h
        · rename_i hle
          cases h
          obtain ⟨vs, hl, hr, hcell⟩ := hh.cellsAt hi hcs off k hle
          refine ⟨.agg vs.toArray, .agg _ _ (by simpa using hr), fun w' hb => ?_⟩
          have hl' := run_loadCells_list' (P := P) w' ((ρ i).addr.add off) vs (fun j v hj => by
            rw [add_add]
            refine cell_block (hcell j v hj) ?_
            rw [add_blk]
            rcases hlive with hl | rfl
            · exact hb hl
            · have := (List.getElem?_eq_some_iff.1 hj).1
              simp at hle; omega)
          rw [hl] at hl'
          simp [Instr.loadAt, Instr.sureAddr, loadVar, run_agg his, hagg, run_sz hk, hl']
        · cases h
      · cases h
    · rename_i hagg
      obtain ⟨cv, hcv, hr⟩ := hh.cell hi hcs h
      refine ⟨cv, hr, fun w' hb => ?_⟩
      have hagg' : (tk P ty).agg = false := by simpa using hagg
      have hb' : w.heap[((ρ i).addr.add off).block]? = none ∨ w'.heap[((ρ i).addr.add off).block]? = w.heap[((ρ i).addr.add off).block]? := by
        rw [add_blk]
        rcases hlive with hl | rfl
        · exact hb hl
        · cases h
      simp [Instr.loadAt, Instr.sureAddr, loadVar, run_agg his, hagg', cell_block hcv hb']
  · cases h
end Go.Proofs.Yteeakkakkjhgoaa.A
