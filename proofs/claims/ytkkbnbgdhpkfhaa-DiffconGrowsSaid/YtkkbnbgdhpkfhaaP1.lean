/- What diffcon computes, as plain functions. Conditions: none. -/
import Derived.Test.YtkkbnbgdhpkfhaaF2
namespace Go.Proofs.Ytkkbnbgdhpkfhaa.A
open Go
def NONE : Int := 4611686018427387904
structure RS where
  x : List Int
  fr : List Int
  last : Int
  deriving DecidableEq
def relStep (n : Nat) (s : RS) (i : Nat) (c : Con) : RS × Bool :=
  if s.x.getD c.a.toNat 0 ≠ NONE ∧ IntKind.i64.wrap (s.x.getD c.a.toNat 0 + c.w) < s.x.getD c.b.toNat 0 then
    (⟨s.x.set c.b.toNat (IntKind.i64.wrap (s.x.getD c.a.toNat 0 + c.w)), s.fr.set c.b.toNat i, c.b⟩, decide (IntKind.i64.wrap (s.x.getD c.a.toNat 0 + c.w) < -(n : Int) * 9007199254740992))
  else (s, false)
def relIn (n : Nat) : List Con → Nat → RS → RS × Bool
  | [], _, s => (s, false)
  | c :: cs, i, s => if (relStep n s i c).2 = true then ((relStep n s i c).1, true) else relIn n cs (i + 1) (relStep n s i c).1
def relOut (n : Nat) (l : List Con) : Nat → RS → RS
  | 0, s => s
  | r + 1, s =>
    if (relIn n l 0 { s with last := -1 }).2 = true ∨ (relIn n l 0 { s with last := -1 }).1.last < 0 then (relIn n l 0 { s with last := -1 }).1
    else relOut n l r (relIn n l 0 { s with last := -1 }).1
def relaxF (l : List Con) (x : List Int) : RS := relOut x.length l (x.length + 1) ⟨x, List.replicate x.length (-1), -1⟩
theorem relStep_len (n : Nat) (s : RS) (i : Nat) (c : Con) : (relStep n s i c).1.x.length = s.x.length ∧ (relStep n s i c).1.fr.length = s.fr.length := by
  unfold relStep; split <;> simp
theorem relIn_len (n : Nat) : ∀ (l : List Con) (i : Nat) (s : RS), (relIn n l i s).1.x.length = s.x.length ∧ (relIn n l i s).1.fr.length = s.fr.length
  | [], _, s => ⟨rfl, rfl⟩
  | c :: cs, i, s => by
    have h := relStep_len n s i c
    unfold relIn; split
    · exact h
    · have k := relIn_len n cs (i + 1) (relStep n s i c).1
      omega
theorem relOut_len (n : Nat) (l : List Con) : ∀ (r : Nat) (s : RS), (relOut n l r s).x.length = s.x.length ∧ (relOut n l r s).fr.length = s.fr.length
  | 0, s => ⟨rfl, rfl⟩
  | r + 1, s => by
    have h := relIn_len n l 0 { s with last := -1 }
    simp only [] at h
    unfold relOut; split
    · exact h
    · have k := relOut_len n l r (relIn n l 0 { s with last := -1 }).1
      omega
theorem relaxF_len (l : List Con) (x : List Int) : (relaxF l x).x.length = x.length ∧ (relaxF l x).fr.length = x.length := by
  have := relOut_len x.length l (x.length + 1) ⟨x, List.replicate x.length (-1), -1⟩
  simpa [relaxF] using this
end Go.Proofs.Ytkkbnbgdhpkfhaa.A
