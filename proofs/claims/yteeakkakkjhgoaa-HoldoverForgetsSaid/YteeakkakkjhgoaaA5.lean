/- Operations that make or write memory. Conditions: none. -/
import Derived.Test.YteeakkakkjhgoaaA4
import Derived.Laws.MakeOwn
set_option linter.unusedVariables false
set_option linter.unusedSimpArgs false
namespace Go.Proofs.Yteeakkakkjhgoaa.A
open Go Go.RowKit

theorem HRel.below {ρ : Nat → RI} {σ : AHeap} {w w1 : World} (h : HRel ρ σ w) (hB : Below w.heap.size w w1) : HRel ρ σ w1 where
  row := fun i hi => (h.row i hi).up (Nat.le_refl _) (fun _ _ => rfl) (fun hl => hB.block _ ((h.row i hi).block_lt hl))
  apart := h.apart
  inside := fun i hi ho => Nat.lt_of_lt_of_le (h.inside i hi ho) hB.size
theorem Fr.below {ρ : Nat → RI} {σ : AHeap} {w w1 : World} (hB : Below w.heap.size w w1) : Fr ρ σ w ρ σ w1 :=
  ⟨hB.os, hB.tape, hB.output, hB.size, fun b hb _ => hB.block b hb, fun _ h => .inl h⟩

theorem HRel.fresh {ρ : Nat → RI} {σ : AHeap} {w w1 : World} (h : HRel ρ σ w) (hB : Below w.heap.size w w1) (o : AObj) (r : RI) (hge : w.heap.size ≤ r.addr.block) (hlt : r.addr.block < w1.heap.size)
    (ho : ORel (σ.next + 1) (upd ρ σ.next r) r o w1) : HRel (upd ρ σ.next r) (σ.alloc o) w1 ∧ Fr ρ σ w (upd ρ σ.next r) (σ.alloc o) w1 := by
  have hold : ∀ i, i < σ.next → upd ρ σ.next r i = ρ i := fun i hi => upd_ne _ _ (by omega)
  refine ⟨⟨fun i hi => ?_, fun i j hi hj hij hoi hlj => ?_, fun i hi hoi => ?_⟩, ⟨hB.os, hB.tape, hB.output, hB.size, fun b hb _ => hB.block b hb, fun b hb => ?_⟩⟩
  · simp only [AHeap.next_alloc] at hi
    rw [AHeap.get_alloc]
    by_cases hin : i = σ.next
    · rw [if_pos hin, hin, upd_same]; exact ho
    · rw [if_neg hin, hold i (by omega)]
      exact (h.row i (by omega)).up (by simp [AHeap.next_alloc]) hold (fun hl => hB.block _ ((h.row i (by omega)).block_lt hl))
  · simp only [AHeap.next_alloc] at hi hj
    rw [AHeap.get_alloc] at hoi hlj
    by_cases hin : i = σ.next
    · have hjn : j ≠ σ.next := by omega
      rw [if_neg hjn] at hlj
      rw [hin, upd_same, hold j (by omega)]
      have := (h.row j (by omega)).block_lt hlj
      omega
    · rw [if_neg hin] at hoi
      rw [hold i (by omega)]
      by_cases hjn : j = σ.next
      · rw [hjn, upd_same]
        have := h.inside i (by omega) hoi
        omega
      · rw [if_neg hjn] at hlj
        rw [hold j (by omega)]
        exact h.apart i j (by omega) (by omega) hij hoi hlj
  · simp only [AHeap.next_alloc] at hi
    rw [AHeap.get_alloc] at hoi
    by_cases hin : i = σ.next
    · rw [hin, upd_same]; exact hlt
    · rw [if_neg hin] at hoi
      rw [hold i (by omega)]
      exact Nat.lt_of_lt_of_le (h.inside i (by omega) hoi) hB.size
  · obtain ⟨i, hi, hoi, hb⟩ := hb
    simp only [AHeap.next_alloc] at hi
    rw [AHeap.get_alloc] at hoi
    by_cases hin : i = σ.next
    · right; rw [hin, upd_same] at hb; omega
    · left
      rw [if_neg hin] at hoi
      rw [hold i (by omega)] at hb
      exact ⟨i, by omega, hoi, hb⟩

theorem HRel.kill {ρ : Nat → RI} {σ : AHeap} {w : World} (h : HRel ρ σ w) (i : Nat) : HRel ρ (σ.set i .dead) w ∧ Fr ρ σ w ρ (σ.set i .dead) w := by
  refine ⟨⟨fun j hj => ?_, fun j k hj hk hjk hoj hlk => ?_, fun j hj hoj => ?_⟩, ⟨rfl, rfl, rfl, Nat.le_refl _, fun _ _ _ => rfl, fun b hb => ?_⟩⟩
  · rw [AHeap.get_set]
    split
    · trivial
    · exact h.row j hj
  · rw [AHeap.get_set] at hoj hlk
    split at hoj
    · cases hoj
    · split at hlk
      · cases hlk
      · exact h.apart j k hj hk hjk hoj hlk
  · rw [AHeap.get_set] at hoj
    split at hoj
    · cases hoj
    · exact h.inside j hj hoj
  · obtain ⟨j, hj, hoj, hb⟩ := hb
    rw [AHeap.get_set] at hoj
    split at hoj
    · cases hoj
    · exact .inl ⟨j, hj, hoj, hb⟩

/-- A row of the call's own gets a new number. -/
theorem HRel.mv {ρ : Nat → RI} {σ : AHeap} {w : World} (h : HRel ρ σ w) {i : Nat} (hi : i < σ.next) (hown : (σ.get i).owned = true) :
    HRel (upd ρ σ.next (ρ i)) ((σ.set i .dead).alloc (σ.get i)) w ∧ Fr ρ σ w (upd ρ σ.next (ρ i)) ((σ.set i .dead).alloc (σ.get i)) w := by
  have hold : ∀ j, j < σ.next → upd ρ σ.next (ρ i) j = ρ j := fun j hj => upd_ne _ _ (by omega)
  have hlv := AObj.live_of_owned hown
  have hget : ∀ j, ((σ.set i .dead).alloc (σ.get i)).get j = if j = σ.next then σ.get i else if j = i then .dead else σ.get j := fun j => rfl
  refine ⟨⟨fun j hj => ?_, fun j k hj hk hjk hoj hlk => ?_, fun j hj hoj => ?_⟩, ⟨rfl, rfl, rfl, Nat.le_refl _, fun _ _ _ => rfl, fun b hb => ?_⟩⟩
  · simp only [AHeap.next_alloc, AHeap.next_set] at hj
    rw [hget]
    by_cases hjn : j = σ.next
    · rw [if_pos hjn, hjn, upd_same]
      exact (h.row i hi).up (by simp [AHeap.next_alloc, AHeap.next_set]) hold (fun _ => rfl)
    · rw [if_neg hjn, hold j (by omega)]
      split
      · trivial
      · exact (h.row j (by omega)).up (by simp [AHeap.next_alloc, AHeap.next_set]) hold (fun _ => rfl)
  · simp only [AHeap.next_alloc, AHeap.next_set] at hj hk
    rw [hget] at hoj hlk
    by_cases hjn : j = σ.next
    · have hkn : k ≠ σ.next := by omega
      rw [if_neg hkn] at hlk
      rw [hjn, upd_same, hold k (by omega)]
      split at hlk
      · cases hlk
      · rename_i hki
        exact h.apart i k hi (by omega) (Ne.symm hki) hown hlk
    · rw [if_neg hjn] at hoj
      split at hoj
      · cases hoj
      · rename_i hji
        rw [hold j (by omega)]
        by_cases hkn : k = σ.next
        · rw [hkn, upd_same]
          exact h.apart j i (by omega) hi hji hoj hlv
        · rw [if_neg hkn] at hlk
          split at hlk
          · cases hlk
          · rw [hold k (by omega)]
            exact h.apart j k (by omega) (by omega) hjk hoj hlk
  · simp only [AHeap.next_alloc, AHeap.next_set] at hj
    rw [hget] at hoj
    by_cases hjn : j = σ.next
    · rw [hjn, upd_same]; exact h.inside i hi hown
    · rw [if_neg hjn] at hoj
      rw [hold j (by omega)]
      split at hoj
      · cases hoj
      · exact h.inside j (by omega) hoj
  · obtain ⟨j, hj, hoj, hb⟩ := hb
    simp only [AHeap.next_alloc, AHeap.next_set] at hj
    rw [hget] at hoj
    by_cases hjn : j = σ.next
    · rw [hjn, upd_same] at hb
      exact .inl ⟨i, hi, hown, hb⟩
    · rw [if_neg hjn] at hoj
      rw [hold j (by omega)] at hb
      split at hoj
      · cases hoj
      · exact .inl ⟨j, by omega, hoj, hb⟩

/-- A row of the call's own is written. -/
theorem HRel.write {ρ : Nat → RI} {σ : AHeap} {w w1 : World} (h : HRel ρ σ w) {i : Nat} (hi : i < σ.next) (hown : (σ.get i).owned = true) (o : AObj) (hown' : o.owned = true)
    (hos : w1.os = w.os) (htape : w1.tape = w.tape) (hout : w1.output = w.output) (hsize : w1.heap.size = w.heap.size) (hother : ∀ b, b ≠ (ρ i).addr.block → w1.heap[b]? = w.heap[b]?)
    (ho : ORel σ.next ρ (ρ i) o w1) : HRel ρ (σ.set i o) w1 ∧ Fr ρ σ w ρ (σ.set i o) w1 := by
  have hlv := AObj.live_of_owned hown
  refine ⟨⟨fun j hj => ?_, fun j k hj hk hjk hoj hlk => ?_, fun j hj hoj => ?_⟩, ⟨hos, htape, hout, by omega, fun b hb hn => ?_, fun b hb => ?_⟩⟩
  · rw [AHeap.get_set]
    simp only [AHeap.next_set] at hj ⊢
    split
    · rename_i hji; subst hji; exact ho
    · rename_i hji
      refine (h.row j hj).up (Nat.le_refl _) (fun _ _ => rfl) (fun hl => hother _ (fun he => ?_))
      exact h.apart i j hi hj (Ne.symm hji) hown hl he.symm
  · simp only [AHeap.next_set] at hj hk
    rw [AHeap.get_set] at hoj hlk
    have ej : (σ.get j).owned = true := by
      split at hoj
      · rename_i hji; subst hji; exact hown
      · exact hoj
    have ek : (σ.get k).live = true := by
      split at hlk
      · rename_i hki; subst hki; exact hlv
      · exact hlk
    exact h.apart j k hj hk hjk ej ek
  · simp only [AHeap.next_set] at hj
    rw [AHeap.get_set] at hoj
    rw [hsize]
    split at hoj
    · rename_i hji; subst hji; exact h.inside j hj hown
    · exact h.inside j hj hoj
  · exact hother b (fun he => hn ⟨i, hi, hown, he.symm⟩)
  · obtain ⟨j, hj, hoj, hb⟩ := hb
    simp only [AHeap.next_set] at hj
    rw [AHeap.get_set] at hoj
    left
    split at hoj
    · rename_i hji; subst hji; exact ⟨j, hj, hown, hb⟩
    · exact ⟨j, hj, hoj, hb⟩

/-! ### The operations -/
def EffOk (ρ : Nat → RI) (σ : AHeap) (w : World) (v : AV) (σ' : AHeap) (run : Result Next) : Prop :=
  ∃ r w' ρ' cv, run = .ok r w' ∧ (r = .value cv ∨ (r = .skip ∧ cv = undef)) ∧ VR σ'.next ρ' v cv ∧ HRel ρ' σ' w' ∧ Fr ρ σ w ρ' σ' w' ∧ σ.next ≤ σ'.next ∧ ∀ i, i < σ.next → ρ' i = ρ i

/-- A new block of cells. -/
theorem EffOk.new {ρ : Nat → RI} {σ : AHeap} {w w1 : World} (h : HRel ρ σ w) (hB : Below w.heap.size w w1) (cs : Array Value) (t : TypeId) (hblk : w1.heap[w.heap.size]? = some (.cells cs t (0, 0))) (s : Nat) (hs : 0 < s)
    (cells : List AV) (hc : ∀ (j : Nat) (c : AV), cells[j]? = some c → ∃ v, cs[j]? = some v ∧ VR σ.next ρ c v) (v : AV) (cv : Value) (run : Result Next) (hrun : run = .ok (.value cv) w1)
    (hv : VR (σ.next + 1) (upd ρ σ.next ⟨⟨w.heap.size, 0, none⟩, s, cs.size⟩) v cv) : EffOk ρ σ w v (σ.alloc (.own s cells)) run := by
  have hold : ∀ i, i < σ.next → upd ρ σ.next ⟨⟨w.heap.size, 0, none⟩, s, cs.size⟩ i = ρ i := fun i hi => upd_ne _ _ (by omega)
  have hlt := (Array.getElem?_eq_some_iff.1 hblk).1
  obtain ⟨h1, h2⟩ := h.fresh hB (.own s cells) ⟨⟨w.heap.size, 0, none⟩, s, cs.size⟩ (Nat.le_refl _) hlt ⟨rfl, hs, ⟨_, rfl⟩, cs, t, hblk, rfl, fun j c hj => by
    obtain ⟨u, hu, hr⟩ := hc j c hj
    exact ⟨u, hu, hr.up (by omega) hold⟩⟩
  exact ⟨_, _, _, _, hrun, .inl rfl, hv, h1, h2, by simp [AHeap.next_alloc], hold⟩

def aalloc (P : Program) (e : TypeId) (σ : AHeap) : Option (AV × AHeap) :=
  match zeroOf P e, sz P e with
  | some z, some (s + 1) => some (.ptr σ.next 0, σ.alloc (.own (s + 1) z))
  | _, _ => none
theorem alloc_sound {P : Program} {e : TypeId} {σ σ' : AHeap} {v : AV} (h : aalloc P e σ = some (v, σ')) {ρ : Nat → RI} {w : World} (hh : HRel ρ σ w) {f : Value → Next} (hf : f = Next.value) :
    EffOk ρ σ w v σ' (((Instr.alloc e true (.tuple #[])).run P w).andThen fun x w' => .ok (f x) w') := by
  subst hf
  unfold aalloc at h
  split at h
  · rename_i z s hz hs
    cases h
    obtain ⟨cz, hz1, hz2⟩ := zero_run hz σ.next ρ
    refine EffOk.new hh (w1 := w.alloc (.cells cz.cells e)) ((Below.refl _ _).alloc (Nat.le_refl _) _) cz.cells e (heap_alloc_new w _) (s + 1) (by omega) z (fun j c hj => by simpa using hz2.get j c hj) _ (.pointer (some ⟨w.heap.size, 0, none⟩)) _ ?_ ?_
    · simp [Instr.alloc, hz1, newVar, newRow]
    · have := VR.ptr (n := σ.next + 1) (ρ := upd ρ σ.next ⟨⟨w.heap.size, 0, none⟩, s + 1, cz.cells.size⟩) σ.next 0 (by omega)
      rw [upd_same] at this
      exact this
  · cases h

end Go.Proofs.Yteeakkakkjhgoaa.A
