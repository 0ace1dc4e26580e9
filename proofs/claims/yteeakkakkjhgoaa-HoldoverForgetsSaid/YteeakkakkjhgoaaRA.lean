/- What the rows of this seat share: the arguments' elements. Conditions: none. -/
import Derived.Test.YteeakkakkjhgoaaRows
import Derived.Test.YteeakkakkjhgoaaA17
import Derived.Test.YteeakkakkjhgoaaH8
set_option linter.unusedVariables false
namespace Go.Proofs.Yteeakkakkjhgoaa.A
open Go Go.ChangeShapes Go.WideShapes Go.ChangeAt Go.RowKit
open Go.ChangeMaps (open_string shut_string)

def HCf.I64 (c : HCf) : Prop := InI64 c.base ∧ InI64 c.drift ∧ InI64 c.aging ∧ InI64 c.limit
structure HOp where
  kind : Int
  tm : Int
  ppb : Int
  deriving Inhabited, DecidableEq
def HOp.enc (c : HOp) : List AV := [.int .u8 c.kind, .int .i64 c.tm, .int .i64 c.ppb]
def HOp.I64 (c : HOp) : Prop := (0 ≤ c.kind ∧ c.kind ≤ 255) ∧ InI64 c.tm ∧ InI64 c.ppb
theorem HOp.enc_len (c : HOp) : c.enc.length = 3 := rfl
theorem own : ownKnob Try.prog.godebug = none := by kernel_rfl
theorem laidOut : laidOutB Try.prog = true := by kernel_rfl
theorem cells23 : Try.prog.cellsOf 23 = 4 := by kernel_rfl
theorem cells41 : Try.prog.cellsOf 41 = 3 := by kernel_rfl
theorem cells3 : Try.prog.cellsOf 3 = 1 := by kernel_rfl
theorem cells5 : Try.prog.cellsOf 5 = 1 := by kernel_rfl
theorem bytes41 : Try.prog.bytesOf 41 = 24 := by kernel_rfl
theorem bytes3 : Try.prog.bytesOf 3 = 8 := by kernel_rfl
section
variable {H : Type} {enc : TypeId × Value → H} {w : World} {base : Nat} {spare : Nat → Bool} {held : Bool}
def OpE (c : HOp) (cs : List Value) : Prop := cs = [.int .u8 c.kind, .int .i64 c.tm, .int .i64 c.ppb] ∧ c.I64
def IntE (z : Int) (cs : List Value) : Prop := cs = [.int .i64 z] ∧ InI64 z
theorem wf64 {z : Int} (h : (Lit.int .i64 z).wf = true) : InI64 z := bounds_i64 h
theorem open_int3 (n : Nat) (cs : List Value) (y : DataW H × List MemPlace) (hl : cs.length = Try.prog.cellsOf 3) (h : DataW.trod enc Try.prog w base spare held n 3 cs = some y) : ∃ z, IntE z cs := by
  obtain ⟨z, e, _, hw⟩ := DataW.trod_int Try.underlying3 h
  exact ⟨z, e, wf64 hw⟩
theorem open_op (n : Nat) (cs : List Value) (y : DataW H × List MemPlace) (hl : cs.length = Try.prog.cellsOf 41) (h : DataW.trod enc Try.prog w base spare held n 41 cs = some y) : ∃ c, OpE c cs := by
  obtain ⟨xs, m, _, _, hcl, hxl, hf⟩ := DataW.trod_struct Try.underlying41 h
  rw [cells41] at hl
  match cs, hl with
  | [c0, c1, c2], _ =>
    have hx3 : xs.length = 3 := hxl
    have f0 := hf 0 _ rfl
    have f1 := hf 1 _ rfl
    have f2 := hf 2 _ rfl
    rw [List.getElem?_eq_getElem (by omega)] at f0 f1 f2
    have g0 : DataW.trod enc Try.prog w base spare held m 5 [c0] = some xs[0] := by rw [← f0]; simp [cells5]
    have g1 : DataW.trod enc Try.prog w base spare held m 3 [c1] = some xs[1] := by rw [← f1]; simp [cells3]
    have g2 : DataW.trod enc Try.prog w base spare held m 3 [c2] = some xs[2] := by rw [← f2]; simp [cells3]
    obtain ⟨z0, e0, _, w0⟩ := DataW.trod_int Try.underlying5 g0
    obtain ⟨z1, e1, w1⟩ := open_int3 m _ _ (by rw [cells3]; rfl) g1
    obtain ⟨z2, e2, w2⟩ := open_int3 m _ _ (by rw [cells3]; rfl) g2
    simp only [List.cons.injEq, and_true] at e0 e1 e2
    subst e0 e1 e2
    exact ⟨⟨z0, z1, z2⟩, rfl, bounds_u8 w0, w1, w2⟩
theorem open_conf (n : Nat) (cs : List Value) (y : DataW H × List MemPlace) (hl : cs.length = Try.prog.cellsOf 23) (h : DataW.trod enc Try.prog w base spare held n 23 cs = some y) : ∃ c : HCf, cs = [.int .i64 c.base, .int .i64 c.drift, .int .i64 c.aging, .int .i64 c.limit] ∧ c.I64 := by
  obtain ⟨xs, m, _, _, hcl, hxl, hf⟩ := DataW.trod_struct Try.underlying23 h
  rw [cells23] at hl
  match cs, hl with
  | [c0, c1, c2, c3], _ =>
    have hx3 : xs.length = 4 := hxl
    have f0 := hf 0 _ rfl
    have f1 := hf 1 _ rfl
    have f2 := hf 2 _ rfl
    have f3 := hf 3 _ rfl
    rw [List.getElem?_eq_getElem (by omega)] at f0 f1 f2 f3
    have g0 : DataW.trod enc Try.prog w base spare held m 3 [c0] = some xs[0] := by rw [← f0]; simp [cells3]
    have g1 : DataW.trod enc Try.prog w base spare held m 3 [c1] = some xs[1] := by rw [← f1]; simp [cells3]
    have g2 : DataW.trod enc Try.prog w base spare held m 3 [c2] = some xs[2] := by rw [← f2]; simp [cells3]
    have g3 : DataW.trod enc Try.prog w base spare held m 3 [c3] = some xs[3] := by rw [← f3]; simp [cells3]
    obtain ⟨z0, e0, w0⟩ := open_int3 m _ _ (by rw [cells3]; rfl) g0
    obtain ⟨z1, e1, w1⟩ := open_int3 m _ _ (by rw [cells3]; rfl) g1
    obtain ⟨z2, e2, w2⟩ := open_int3 m _ _ (by rw [cells3]; rfl) g2
    obtain ⟨z3, e3, w3⟩ := open_int3 m _ _ (by rw [cells3]; rfl) g3
    simp only [List.cons.injEq, and_true] at e0 e1 e2 e3
    subst e0 e1 e2 e3
    exact ⟨⟨z0, z1, z2, z3⟩, rfl, w0, w1, w2, w3⟩
theorem conf_arg {cs : Array Value} {d : DataW H} {ps : List MemPlace} (h : DataW.Trod enc Try.prog w base spare held 23 (.agg cs) d ps) (hs : cs.size = Try.prog.cellsOf 23) : ∃ c : HCf, cs = #[.int .i64 c.base, .int .i64 c.drift, .int .i64 c.aging, .int .i64 c.limit] ∧ c.I64 := by
  obtain ⟨fuel, hf⟩ := h
  obtain ⟨c, h1, h2⟩ := open_conf fuel cs.toList (d, ps) (by simpa using hs) hf
  refine ⟨c, ?_, h2⟩
  cases cs; simp at h1; rw [h1]
theorem op_argRow {v : Value} {d : DataW H} {ps : List MemPlace} (h : DataW.Trod enc Try.prog w base spare held 32 v d ps) (hv : v.cells = #[v]) :
    ∃ (l : List HOp) (r : Addr × List AV), ArgRow w v HOp.enc 3 l r ∧ (∀ c ∈ l, c.I64) ∧ (l = [] ∨ ∃ elems rest, d = .slice elems rest ∧ l.length = elems.length) := by
  obtain ⟨l, r, h1, h2, h3⟩ := argRow (E := OpE) (en := HOp.enc) Try.underlying32 cells41 (by omega) HOp.enc_len (fun c cs n ρ hE => by
    rw [hE.1]; exact .cons _ _ _ _ (.int _ _) (.cons _ _ _ _ (.int _ _) (.cons _ _ _ _ (.int _ _) .nil))) (open_op (held := held)) h hv
  exact ⟨l, r, h1, fun c hc => let ⟨_, hE⟩ := h2 c hc; hE.2, h3⟩
theorem int_argRow {v : Value} {d : DataW H} {ps : List MemPlace} (h : DataW.Trod enc Try.prog w base spare held 45 v d ps) (hv : v.cells = #[v]) :
    ∃ (l : List Int) (r : Addr × List AV), ArgRow w v (fun x => [AV.int .i64 x]) 1 l r ∧ (∀ c ∈ l, InI64 c) ∧ (l = [] ∨ ∃ elems rest, d = .slice elems rest ∧ l.length = elems.length) := by
  obtain ⟨l, r, h1, h2, h3⟩ := argRow (E := IntE) (en := fun x => [AV.int .i64 x]) Try.underlying45 cells3 (by omega) (fun _ => rfl) (fun c cs n ρ hE => by
    rw [hE.1]; exact .cons _ _ _ _ (.int _ _) .nil) (open_int3 (held := held)) h hv
  exact ⟨l, r, h1, fun c hc => let ⟨_, hE⟩ := h2 c hc; hE.2, h3⟩
end
theorem len_of_sized {H : Type} {ts : List TypeId} {ds : List (DataW H)} {α : Type} {l : List α} {d : DataW H} (hsz : (DataW.weightsEach Try.prog ts ds).all (· ≤ reachBytes) = true) {j : Nat} {t e : TypeId} {b : Nat}
    (ht : ts[j]? = some t) (hd : ds[j]? = some d) (hu : Try.prog.underlying t = some (.slice e)) (hb : Try.prog.bytesOf e = b) (h : l = [] ∨ ∃ elems rest, d = .slice elems rest ∧ l.length = elems.length) : l.length * b ≤ 140737488351232 := by
  rcases h with rfl | ⟨elems, rest, rfl, hl⟩
  · simp
  · have h1 := sized_slice hsz ht hd hu
    rw [hb, Nat.add_mul] at h1
    have h2 : reachBytes = 140737488351232 := by decide
    rw [hl]; omega
end Go.Proofs.Yteeakkakkjhgoaa.A
