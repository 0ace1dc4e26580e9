/- The row of HoldoverForgets. Conditions: none. -/
import Derived.Test.YteeakkakkjhgoaaRA
import Derived.Test.YteeakkakkjhgoaaH11
set_option linter.unusedVariables false
namespace Go.Proofs.Yteeakkakkjhgoaa.A
open Go Go.ChangeShapes Go.WideShapes Go.ChangeAt Go.RowKit
open Go.ChangeMaps (open_string shut_string)

set_option maxRecDepth 100000 in
theorem liftedHoldoverForgets (os : Os) (started : os.Started) (H : Type) (enc : TypeId × Value → H) :
    ReturnsInHanded {} Try.checked os 7 .any (Rows.holdoverForgetsSpec.pre6 enc Try.prog Try.f7 Rows.holdoverForgetsRow.domain false) (Rows.holdoverForgetsSpec.post enc Try.prog Try.f7 false true false false) := by
  refine returnsInHanded_of_change_sized (C := Try.checked) own started (by kernel_rfl) Try.func7
    (ChangeSpec.witness6 (enc := enc) (C := Try.checked) false ⟨#[], #[.agg #[.int .i64 0, .int .i64 0, .int .i64 0, .int .i64 0], .slice none 0 0], []⟩ 8 (by kernel_rfl) (by kernel_rfl) (by kernel_rfl) (by kernel_rfl)) ?_
  intro W base args ds gs before hval0 hW hcnd hsz0 _
  have hsz : (DataW.weightsEach Try.prog (Try.f7.params.toList ++ Rows.holdoverForgetsSpec.plain.varTypes Try.prog) (ds ++ gs)).all (· ≤ reachBytes) = true := hsz0
  have hval : ∀ (j : Nat) t v, Try.f7.params[j]? = some t → args[j]? = some v → Value.okWide Try.prog W .any base t v := hval0
  have hW' := hW
  obtain ⟨p, q, hA0, hV, rfl, hfz, hnd⟩ := hW
  have hA : DataW.TrodAll enc Try.prog W 0 (fun _ => true) true Try.f7.params.toList args.toList ds p := hA0
  rw [Try.params7] at hA hval hsz
  obtain ⟨v0, vs0, d0, ds0, p0, q0, hargs, rfl, rfl, h0, r0⟩ := trodAll_cons hA
  obtain ⟨v1, vs1, d1, ds1, p1, q1, rfl, rfl, rfl, h1, r1⟩ := trodAll_cons r0
  obtain ⟨rfl, rfl, rfl⟩ := trodAll_nil r1
  obtain rfl : args = #[v0, v1] := by cases args; simp_all
  obtain ⟨rfl, rfl⟩ := trodVars_none hV
  have lt0 : ∀ x ∈ p0, x.block < W.heap.size := by obtain ⟨m, hm⟩ := h0; exact DataW.trod_lt m _ _ _ hm
  obtain ⟨cs0, rfl, hsz0⟩ := okWide_struct Try.underlying23 (hval 0 23 v0 rfl rfl)
  obtain ⟨c0, rfl, hc0⟩ := conf_arg h0 hsz0
  obtain ⟨a1, len1, cap1, rfl⟩ := okWide_slice Try.underlying45 (hval 1 45 v1 rfl rfl)
  have lt1 : ∀ x ∈ p1, x.block < W.heap.size := by obtain ⟨m, hm⟩ := h1; exact DataW.trod_lt m _ _ _ hm
  obtain ⟨l1, ra1, ha1, hi1, hl1⟩ := int_argRow h1 rfl
  have y1 := len_of_sized hsz (j := 1) (t := 45) rfl rfl Try.underlying45 bytes3 hl1
  clear hA0 hval0 hsz0 hsz
  obtain ⟨va1, vb1, vc1⟩ := ha1.val [ra1] 0 rfl
  have hrel : HRel (roAddr [ra1]) (roHeap [ra1]) W := roHeap_rel fun i r hr => by
    match i with
    | 0 => simp at hr; subst hr; exact ha1.cells _ _
    | i + 1 => simp at hr
  have hcalls := ro_calls (forgetsLaw c0 hc0 va1 l1 (by omega) vc1 hi1) (w := W) (cargs := #[.agg #[.int .i64 c0.base, .int .i64 c0.drift, .int .i64 c0.aging, .int .i64 c0.limit], .slice a1 len1 cap1]) (.cons _ _ _ _ (.agg _ _ (.cons _ _ _ _ (.int _ _) (.cons _ _ _ _ (.int _ _) (.cons _ _ _ _ (.int _ _) (.cons _ _ _ _ (.int _ _) .nil))))) (.cons _ _ _ _ vb1 .nil)) hrel (fun v σ' h => h)
  refine hcalls.mono fun e W' ⟨he, bel⟩ => ?_
  subst he
  exact ⟨_, rfl, _, _, _, [], _, [], hW', trodAll_mk1 (shut_bool Try.underlying4 _), (trodAll_cons_mk (Below.trod laidOut (by kernel_rfl) (of_decide_eq_true (by kernel_rfl)) h0 bel lt0) (trodAll_cons_mk (Below.trod laidOut (by kernel_rfl) (of_decide_eq_true (by kernel_rfl)) h1 bel lt1) trodAll_mk0)), rfl, bel.frame _, fun h => by cases h⟩
theorem overHoldoverForgets : Rows.holdoverForgetsRow.holds Try.pinned (OpenSpec.ofChange Rows.holdoverForgetsSpec) :=
  OpenClaim.holds_of_wide 7 Try.f7 rfl rfl rfl rfl rfl rfl rfl ⟨rfl, rfl, rfl, rfl, rfl⟩ rfl rfl rfl rfl rfl (by kernel_rfl) Try.func7 (by kernel_rfl)
    (of_decide_eq_true (by kernel_rfl)) (by unfold Func.isWrapper; first | (rw [if_pos (by decide +kernel)]; kernel_rfl) | (rw [if_neg (by decide +kernel)]; exact ⟨rfl, rfl⟩))
    (fun os started H enc _ => liftedHoldoverForgets os started H enc)
end Go.Proofs.Yteeakkakkjhgoaa.A
namespace Go.Proofs.Yteeakkakkjhgoaa
theorem holdoverForgets_proved : Rows.HoldoverForgetsSaid := A.overHoldoverForgets
#print axioms holdoverForgets_proved
end Go.Proofs.Yteeakkakkjhgoaa
