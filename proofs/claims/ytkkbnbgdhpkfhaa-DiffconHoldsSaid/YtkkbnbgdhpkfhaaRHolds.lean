/- The row of DiffconHolds. Conditions: none. -/
import Derived.Test.YtkkbnbgdhpkfhaaRA
set_option linter.unusedVariables false
namespace Go.Proofs.Ytkkbnbgdhpkfhaa.A
open Go Go.ChangeShapes Go.WideShapes Go.ChangeAt Go.RowKit
open Go.ChangeMaps (open_string shut_string)

set_option maxRecDepth 100000 in
theorem liftedHolds (os : Os) (started : os.Started) (H : Type) (enc : TypeId × Value → H) :
    ReturnsInHanded {} Try.checked os 5 .any (Rows.diffconHoldsSpec.pre6 enc Try.prog Try.f5 Rows.diffconHoldsRow.domain false) (Rows.diffconHoldsSpec.post enc Try.prog Try.f5 false true false false) := by
  refine returnsInHanded_of_change_sized (C := Try.checked) own started (by kernel_rfl) Try.func5
    (ChangeSpec.witness6 (enc := enc) (C := Try.checked) false ⟨#[], #[.slice none 0 0, .slice none 0 0], []⟩ 8 (by kernel_rfl) (by kernel_rfl) (by kernel_rfl) (by kernel_rfl)) ?_
  intro W base args ds gs before hval0 hW hcnd hsz0 _
  have hsz : (DataW.weightsEach Try.prog (Try.f5.params.toList ++ Rows.diffconHoldsSpec.plain.varTypes Try.prog) (ds ++ gs)).all (· ≤ reachBytes) = true := hsz0
  have hval : ∀ (j : Nat) t v, Try.f5.params[j]? = some t → args[j]? = some v → Value.okWide Try.prog W .any base t v := hval0
  have hW' := hW
  obtain ⟨p, q, hA0, hV, rfl, hfz, hnd⟩ := hW
  have hA : DataW.TrodAll enc Try.prog W 0 (fun _ => true) true Try.f5.params.toList args.toList ds p := hA0
  rw [Try.params5] at hA hval hsz
  obtain ⟨v0, vs0, d0, ds0, p0, q0, hargs, rfl, rfl, h0, r0⟩ := trodAll_cons hA
  obtain ⟨v1, vs1, d1, ds1, p1, q1, rfl, rfl, rfl, h1, r1⟩ := trodAll_cons r0
  obtain ⟨rfl, rfl, rfl⟩ := trodAll_nil r1
  obtain rfl : args = #[v0, v1] := by cases args; simp_all
  obtain ⟨rfl, rfl⟩ := trodVars_none hV
  obtain ⟨a0, len0, cap0, rfl⟩ := okWide_slice Try.underlying22 (hval 0 22 v0 rfl rfl)
  obtain ⟨a1, len1, cap1, rfl⟩ := okWide_slice Try.underlying32 (hval 1 32 v1 rfl rfl)
  have lt0 : ∀ x ∈ p0, x.block < W.heap.size := by obtain ⟨m, hm⟩ := h0; exact DataW.trod_lt m _ _ _ hm
  have lt1 : ∀ x ∈ p1, x.block < W.heap.size := by obtain ⟨m, hm⟩ := h1; exact DataW.trod_lt m _ _ _ hm
  obtain ⟨l, ra, ha, hl64, hll⟩ := con_argRow h0 rfl
  obtain ⟨x, rb, hb, hx64, hxl⟩ := int_argRow h1 rfl
  have y0 := len_of_sized hsz (j := 0) (t := 22) rfl rfl Try.underlying22 bytes40 hll
  have y1 := len_of_sized hsz (j := 1) (t := 32) rfl rfl Try.underlying32 bytes3 hxl
  clear hA0 hval0 hsz0 hsz
  obtain ⟨va, va1, va2⟩ := ha.val [ra, rb] 0 rfl
  obtain ⟨vb, vb1, vb2⟩ := hb.val [ra, rb] 1 rfl
  have hrel : HRel (roAddr [ra, rb]) (roHeap [ra, rb]) W := roHeap_rel fun i r hr => by
    match i with
    | 0 => simp at hr; subst hr; exact ha.cells _ _
    | 1 => simp at hr; subst hr; exact hb.cells _ _
    | i + 2 => simp at hr
  have hcalls := ro_calls (lawHolds_calls va vb l x (roHeap [ra, rb]) (by omega) (by omega) va2 vb2 hl64 hx64) (w := W) (cargs := #[.slice a0 len0 cap0, .slice a1 len1 cap1]) (.cons _ _ _ _ va1 (.cons _ _ _ _ vb1 .nil)) hrel (fun v σ' h => h.1)
  refine hcalls.mono fun e W' ⟨he, bel⟩ => ?_
  subst he
  exact ⟨_, rfl, _, _, _, [], _, [], hW', trodAll_mk1 (shut_bool Try.underlying4 _), (trodAll_cons_mk (Below.trod laidOut (by kernel_rfl) (of_decide_eq_true (by kernel_rfl)) h0 bel lt0) (trodAll_cons_mk (Below.trod laidOut (by kernel_rfl) (of_decide_eq_true (by kernel_rfl)) h1 bel lt1) trodAll_mk0)), rfl, bel.frame _, fun h => by cases h⟩
theorem holds_over : Rows.diffconHoldsRow.holds Try.pinned (OpenSpec.ofChange Rows.diffconHoldsSpec) :=
  OpenClaim.holds_of_wide 5 Try.f5 rfl rfl rfl rfl rfl rfl rfl ⟨rfl, rfl, rfl, rfl, rfl⟩ rfl rfl rfl rfl rfl (by kernel_rfl) Try.func5 (by kernel_rfl)
    (of_decide_eq_true (by kernel_rfl)) (by unfold Func.isWrapper; first | (rw [if_pos (by decide +kernel)]; kernel_rfl) | (rw [if_neg (by decide +kernel)]; exact ⟨rfl, rfl⟩))
    (fun os started H enc _ => liftedHolds os started H enc)
end Go.Proofs.Ytkkbnbgdhpkfhaa.A
namespace Go.Proofs.Ytkkbnbgdhpkfhaa
theorem diffconHolds_proved : Rows.DiffconHoldsSaid := A.holds_over
#print axioms diffconHolds_proved
end Go.Proofs.Ytkkbnbgdhpkfhaa
