/- Trees of orders, by masks of bits. Conditions: none. -/
import Derived.NoCompilerSame
set_option linter.unusedVariables false
set_option linter.unusedSimpArgs false
namespace Go.Proofs.Yteeakkakkjhgoaa.A
open Go

inductive IT where
  | done
  | take (i : Nat) (r : IT)
  | takf (i : Nat) (r : IT)
  | load (i : Nat) (r : IT)
  | step (i : Nat) (r : IT)
  | fin (i : Nat) (r : IT)
  | both (a b : IT)
  | bad
def bothI : List IT → IT
  | [] => .bad
  | [r] => r
  | r :: rs => .both r (bothI rs)
/-- A number, brought to its end before it is used. -/
def forceN {α : Type} (n : Nat) (k : Nat → α) : α := match n with
  | 0 => k 0
  | m + 1 => k (m + 1)
theorem forceN_eq {α : Type} (n : Nat) (k : Nat → α) : forceN n k = k n := by cases n <;> rfl
def forceL {α : Type} : List Nat → (List Nat → α) → α
  | [], k => k []
  | x :: l, k => forceN x fun x' => forceL l fun l' => k (x' :: l')
theorem forceL_eq {α : Type} : ∀ (l : List Nat) (k : List Nat → α), forceL l k = k l
  | [], k => rfl
  | x :: l, k => by rw [forceL, forceN_eq, forceL_eq l]
def bits : List Nat → Nat
  | [] => 0
  | i :: l => Nat.lor (2 ^ i) (bits l)
theorem bits_test : ∀ (l : List Nat) (j : Nat), (bits l).testBit j = l.contains j
  | [], j => by simp [bits]
  | i :: l, j => by
    show (2 ^ i ||| bits l).testBit j = _
    rw [Nat.testBit_or, bits_test l j, Nat.testBit_two_pow, List.contains_cons]
    congr 1
    rw [Bool.eq_iff_iff]; simp; exact eq_comm
def sub (a L : Nat) : Bool := Nat.land a L == a
theorem sub_iff (a L : Nat) : sub a L = true ↔ ∀ j, a.testBit j = true → L.testBit j = true := by
  unfold sub
  rw [beq_iff_eq]
  show a &&& L = a ↔ _
  constructor
  · intro h j hj
    rw [← h, Nat.testBit_and, Bool.and_eq_true] at hj
    exact hj.2
  · intro h
    apply Nat.eq_of_testBit_eq
    intro j
    rw [Nat.testBit_and]
    cases hj : a.testBit j with
    | false => rfl
    | true => rw [h j hj]; rfl
theorem sub_bits (l : List Nat) (L : Nat) : sub (bits l) L = l.all fun j => L.testBit j := by
  rw [Bool.eq_iff_iff, sub_iff, List.all_eq_true]
  constructor
  · intro h j hj
    exact h j (by rw [bits_test]; simpa using hj)
  · intro h j hj
    rw [bits_test] at hj
    exact h j (by simpa using hj)
def mrdy : List Nat → Nat → Nat → List Nat
  | [], _, _ => []
  | a :: r, i, L => if (!Nat.testBit L i && sub a L) = true then i :: mrdy r (i + 1) L else mrdy r (i + 1) L
/-- The least place behind the loads from where on everything waits for all that stands ahead of it. -/
def zfin (aft : List Nat) (lo : Nat) : Option Nat :=
  ((List.range (aft.length + 1)).filter fun z => Nat.ble lo z && (aft.drop z).all fun a => sub (2 ^ z - 1) a).head?
def mkI (aft cf : List Nat) (pu ld : List Bool) (z : Nat) : Nat → Nat → IT
  | 0, L => if (mrdy aft 0 L).isEmpty then .done else .bad
  | n + 1, L =>
    match (mrdy aft 0 L).find? fun i => (pu.getD i false || (ld.getD i false && !Nat.ble z i)) && sub (cf.getD i 0) L with
    | some i => (bif Nat.ble z i then IT.takf i else bif pu.getD i false then IT.take i else IT.load i) (forceN (Nat.lor L (2 ^ i)) (mkI aft cf pu ld z n))
    | none => bothI ((mrdy aft 0 L).map fun i => (bif Nat.ble z i then IT.fin i else IT.step i) (forceN (Nat.lor L (2 ^ i)) (mkI aft cf pu ld z n)))
/-- What is listed, as bits. -/
def MR (n : Nat) (listed : Array Bool) (L : Nat) : Prop := listed.size = n ∧ ∀ j, L.testBit j = listed.getD j false
def aftOf (T : RegionTabs) : List Nat := T.after.toList.map bits
def cfOf (T : RegionTabs) : List Nat := (List.range T.after.size).map fun i => bits ((List.range T.after.size).filter fun j => !(j == i || (T.after.getD j []).contains i || T.apart i j))
theorem mrdy_filter (L : Nat) : ∀ (l : List (List Nat)) (i : Nat), mrdy (l.map bits) i L = (List.range' i l.length).filter fun j => !L.testBit j && ((l[j - i]?).map (·.all fun on => L.testBit on)).getD false
  | [], i => rfl
  | a :: l, i => by
    rw [List.map_cons, mrdy, List.length_cons, List.range'_succ, List.filter_cons]
    have e1 : (!L.testBit i && (((a :: l)[i - i]?).map (·.all fun on => L.testBit on)).getD false) = (!Nat.testBit L i && sub (bits a) L) := by
      rw [Nat.sub_self, sub_bits]; rfl
    have e2 : (List.range' (i + 1) l.length).filter (fun j => !L.testBit j && (((a :: l)[j - i]?).map (·.all fun on => L.testBit on)).getD false) = mrdy (l.map bits) (i + 1) L := by
      rw [mrdy_filter L l (i + 1)]
      apply List.filter_congr
      intro j hj
      have := (List.mem_range'_1.1 hj).1
      rw [show j - i = (j - (i + 1)) + 1 by omega, List.getElem?_cons_succ]
    rw [e1, e2]
theorem mr_ready {T : RegionTabs} {listed : Array Bool} {L : Nat} (h : MR T.after.size listed L) : mrdy (aftOf T) 0 L = T.ready listed := by
  unfold aftOf RegionTabs.ready
  rw [mrdy_filter, Array.length_toList, ← List.range_eq_range']
  apply List.filter_congr
  intro j hj
  have hj' := List.mem_range.1 hj
  rw [Nat.sub_zero, Array.getElem?_toList, h.2 j]
  have e : listed.getD j false = listed.getD j true := by
    rw [Array.getD_eq_getD_getElem?, Array.getD_eq_getD_getElem?, Array.getElem?_eq_getElem (by rw [h.1]; exact hj')]; rfl
  rw [e]
  congr 1
  cases T.after[j]? with
  | none => rfl
  | some l =>
    simp only [Option.map_some, Option.getD_some]
    congr 1
    funext on
    exact h.2 on
theorem mr_free {T : RegionTabs} {listed : Array Bool} {L : Nat} (h : MR T.after.size listed L) {i : Nat} (hi : i < T.after.size) : sub ((cfOf T).getD i 0) L = T.free listed i := by
  unfold cfOf RegionTabs.free
  rw [List.getD_eq_getElem?_getD, List.getElem?_map, List.getElem?_range hi]
  simp only [Option.map_some, Option.getD_some, hi, decide_true, Bool.true_and]
  rw [sub_bits, List.all_filter]
  rw [Bool.eq_iff_iff, List.all_eq_true, List.all_eq_true]
  have e : ∀ j, j < T.after.size → L.testBit j = listed.getD j true := fun j hj => by
    rw [h.2 j, Array.getD_eq_getD_getElem?, Array.getD_eq_getD_getElem?, Array.getElem?_eq_getElem (by rw [h.1]; exact hj)]; rfl
  constructor
  · intro h1 j hj
    have h2 := h1 j hj
    have hj' := List.mem_range.1 hj
    rw [e j hj'] at h2
    cases q1 : j == i <;> cases q2 : listed.getD j true <;> cases q3 : (T.after.getD j []).contains i <;> cases q4 : T.apart i j <;> simp_all
  · intro h1 j hj
    have h2 := h1 j hj
    have hj' := List.mem_range.1 hj
    rw [e j hj']
    cases q1 : j == i <;> cases q2 : listed.getD j true <;> cases q3 : (T.after.getD j []).contains i <;> cases q4 : T.apart i j <;> simp_all
theorem mr_set {n : Nat} {listed : Array Bool} {L i : Nat} (h : MR n listed L) (hi : i < n) : MR n (listed.setIfInBounds i true) (Nat.lor L (2 ^ i)) := by
  refine ⟨by simp [h.1], fun j => ?_⟩
  show (L ||| 2 ^ i).testBit j = _
  rw [Nat.testBit_or, Nat.testBit_two_pow, h.2 j, Array.getD_eq_getD_getElem?, Array.getD_eq_getD_getElem?, Array.getElem?_setIfInBounds]
  by_cases e : i = j
  · subst e; simp [h.1, hi]
  · simp [e]
theorem mr_zero (n : Nat) : MR n (Array.replicate n false) 0 := ⟨by simp, fun j => by
  rw [Array.getD_eq_getD_getElem?, Array.getElem?_replicate]
  split <;> simp⟩
end Go.Proofs.Yteeakkakkjhgoaa.A
