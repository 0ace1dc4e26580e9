/- The specification's insert. Conditions: none. -/
import Derived.Test.YthiaegigndlnpaaG8
set_option linter.unusedVariables false
set_option linter.unusedSimpArgs false
namespace Go.Proofs.Ythiaegigndlnpaa.A
open Go Go.RowKit

theorem take_while_at {α : Type} {p : α → Bool} : ∀ {l : List α} {k : Nat}, k ≤ l.length → (∀ c ∈ l.take k, p c = true) → (k = l.length ∨ ∃ c, l[k]? = some c ∧ p c = false) → l.takeWhile p = l.take k ∧ l.dropWhile p = l.drop k
  | [], k, _, _, _ => by simp
  | a :: l, 0, _, _, h => by
    rcases h with h | ⟨c, hc, hp⟩
    · simp at h
    · simp at hc; subst hc; simp [hp]
  | a :: l, k + 1, hk, h, h2 => by
    have ha : p a = true := h a (by simp)
    obtain ⟨e1, e2⟩ := take_while_at (p := p) (l := l) (k := k) (by simpa using hk) (fun c hc => h c (by simp [hc])) (by simpa using h2)
    rw [List.takeWhile_cons, List.dropWhile_cons, ha]
    simp [e1, e2]
theorem get_hold_not {H : List Nat} {σ : AHeap} {j : Nat} (h : j ∉ H) : (hold H σ).get j = σ.get j := by
  unfold hold
  simp [h]
theorem FC.ext {σ0 σ σ' : AHeap} [h : Ext σ σ'] {v : AV} {x : List Cli} (k : FC σ0 σ v x) : FC σ0 σ' v x := by
  cases k with
  | nil => exact .nil
  | mk q x hq ho => exact .mk q x ⟨hq.1, Nat.lt_of_lt_of_le hq.2 h.le⟩ (by rw [h.same q hq.2]; exact ho)
theorem FC.base {σ0 σ1 σ : AHeap} (hle : σ0.next ≤ σ1.next) {v : AV} {x : List Cli} (h : FC σ1 σ v x) : FC σ0 σ v x := by
  cases h with
  | nil => exact .nil
  | mk q x hq ho => exact .mk q x ⟨by omega, hq.2⟩ ho
theorem src_one {σ : AHeap} {q : Nat} {x : Cli} (h : σ.get q = .own 5 x.enc) : Src σ (.slice q 0 1) [x] := by
  have := src_slice (σ := σ) (i := q) (l := [x]) (by simpa using h) (a := 0) (b := 1) (by omega) (by simp)
  simpa using this
/-- Slices of the clients' row. -/
theorem RB.cut {σ : AHeap} {r i : Nat} {L : Lim} (h : RB σ r i L) {sl : AV} (hsl : σ.get r = .own 7 (rowV sl L.conf L.now)) {k : Nat} (hk : k ≤ L.cl.length) :
    ∃ u1 u2, (∀ τ : AHeap, τ.fits i 5 = σ.fits i 5 → aslice Try.prog 50 sl none (some (.int .i64 (k : Int))) none τ = some u1) ∧ (∀ τ : AHeap, τ.fits i 5 = σ.fits i 5 → aslice Try.prog 50 sl (some (.int .i64 (k : Int))) none none τ = some u2) ∧ Src σ u1 (L.cl.take k) ∧ Src σ u2 (L.cl.drop k) ∧
      (∀ j off n, u1 = .slice j off n → j = i ∧ i < σ.next ∧ i ≠ r) ∧ (∀ j off n, u2 = .slice j off n → j = i ∧ i < σ.next ∧ i ≠ r) := by
  obtain ⟨sl2, h1, h2⟩ := h.ex
  rw [hsl] at h1
  have e : sl = sl2 := by simpa [rowV, Conf.enc] using h1
  subst e
  rcases h2 with ⟨hs, hcl, _⟩ | ⟨rfl, hi, hir, hio⟩
  · rw [hcl] at hk ⊢
    have hk0 : k = 0 := by simpa using hk
    subst hk0
    rcases hs with rfl | rfl
    · exact ⟨.nils, .nils, fun τ _ => by simp [aslice, tk50, abnd, sz59], fun τ _ => by simp [aslice, tk50, abnd, sz59], rfl, rfl, fun _ _ _ e => (by cases e), fun _ _ _ e => (by cases e)⟩
    · exact ⟨.slice0, .slice0, fun τ _ => by simp [aslice, tk50, abnd, sz59], fun τ _ => by simp [aslice, tk50, abnd, sz59], rfl, rfl, fun _ _ _ e => (by cases e), fun _ _ _ e => (by cases e)⟩
  · refine ⟨.slice i 0 k, .slice i (k * 5) (L.cl.length - k), fun τ hf => ?_, fun τ hf => ?_, ?_, ?_, fun _ _ _ e => (by cases e; exact ⟨rfl, hi, hir⟩), fun _ _ _ e => (by cases e; exact ⟨rfl, hi, hir⟩)⟩
    · have hfit := fits_of_own (s := 5) hio
      simp [aslice, tk50, abnd, sz59, hf, hfit]; omega
    · have hfit := fits_of_own (s := 5) hio
      simp [aslice, tk50, abnd, sz59, hf, hfit]; omega
    · simpa using src_slice hio (a := 0) (b := k) (by omega) hk
    · have := src_slice hio (a := k) (b := L.cl.length) hk (by omega)
      rw [List.take_of_length_le (by simp)] at this
      exact this
theorem RB.il {σ : AHeap} {r i : Nat} {L : Lim} (h : RB σ r i L) : i < σ.next := by
  obtain ⟨sl, _, h2⟩ := h.ex
  rcases h2 with ⟨_, _, rfl⟩ | ⟨_, hi, _⟩
  · exact h.rl
  · exact hi
theorem ins_tail {σ0 σ : AHeap} {v1 u2 : AV} {q : Nat} {a b : List Cli} {x : Cli} {H : List Nat} (h0 : σ0.next ≤ σ.next) (hF : FC σ0 σ v1 a) (hq : σ.get q = .own 5 x.enc) (hqH : q ∉ H) (hu : Src σ u2 b)
    (huH : ∀ j off n, u2 = .slice j off n → j < σ0.next ∧ j ∉ H) (hH : ∀ j ∈ H, j < σ0.next) (hl : a.length + b.length ≤ 900) (hwf : σ.WF) :
    ∃ v2 v3 σb σc τb τc, aappend Try.prog 50 v1 (.slice q 0 1) σ = some (v2, σb) ∧ aappend Try.prog 50 v1 (.slice q 0 1) (hold H σ) = some (v2, τb) ∧ aappend Try.prog 50 v2 u2 σb = some (v3, σc) ∧ aappend Try.prog 50 v2 u2 (hold H σb) = some (v3, τc) ∧
      FC σ0 σc v3 (a ++ x :: b) ∧ σc.WF ∧ σ.next ≤ σc.next ∧ (∀ j, j < σ0.next → σb.get j = σ.get j) ∧ (∀ j, j < σ0.next → σc.get j = σ.get j) := by
  have hs := src_one hq
  obtain ⟨v2, σb, p1, p2, p3, p4, p5, p6⟩ := hF.push h0 hs (by simp; omega) hwf
  have hnot : ∀ j, σ0.next ≤ j → j ∉ H := fun j hj hm => by have := hH j hm; omega
  obtain ⟨τb, p7⟩ := p6 (hold H σ) rfl (hs.of_get fun i2 off n e => by cases e; exact get_hold_not hqH) (fun j hj => get_hold_not (hnot j hj))
  have hu3 : Src σb u2 b := hu.of_get fun i2 off n e => p5 i2 (huH i2 off n e).1
  obtain ⟨v3, σc, u1, u2', u3, u4, u5, u6⟩ := p2.push (Nat.le_trans h0 p4) hu3 (by simp; omega) p3
  obtain ⟨τc, u7⟩ := u6 (hold H σb) rfl (hu3.of_get fun i2 off n e => get_hold_not (huH i2 off n e).2) (fun j hj => get_hold_not (hnot j hj))
  refine ⟨v2, v3, σb, σc, τb, τc, p1, p7, u1, u7, ?_, u3, Nat.le_trans p4 u4, p5, fun j hj => (u5 j hj).trans (p5 j hj)⟩
  rw [List.append_assoc] at u2'
  exact u2'
theorem bs0 (σ : AHeap) : abuildSlice Try.prog 50 0 [] σ = some (.slice0, σ) := by simp [abuildSlice, tk50, sz59, ze59, afill]
theorem bs1 (x : Cli) (σ : AHeap) : abuildSlice Try.prog 50 1 [(0, .agg x.enc)] σ = some (.slice σ.next 0 1, σ.alloc (.own 5 x.enc)) := by
  simp [abuildSlice, tk50, sz59, ze59, afill, AV.cellsA, Cli.enc]
theorem box_cli (x : Cli) (σ : AHeap) : abox (.agg x.enc) σ = some (.ptr σ.next 0, σ.alloc (.own 5 x.enc)) := rfl
theorem load_cli (x : Cli) (σ : AHeap) (i : Nat) (h : σ.cells i = some x.enc) : aload Try.prog 59 (.ptr i 0) σ = some (.agg x.enc) := by
  simp [aload, h, tk59, sz59, Cli.enc, TK.is, TK.agg]
theorem store_sl {σ : AHeap} {r : Nat} {sl v : AV} {c : Conf} {n : Int} (h : σ.get r = .own 7 (rowV sl c n)) (hv : v.sc = true) : astore Try.prog 50 (.ptr r 5) v σ = some (.junk, σ.set r (.own 7 (rowV v c n))) := by
  have hcv : v.cellsA = some [v] := by cases v <;> simp [AV.sc] at hv <;> rfl
  simp only [astore, h, hcv, sz50]
  simp [hv, rowV, Conf.enc, splice]
theorem FC.rb {σ0 σ : AHeap} {r : Nat} {c : Conf} {n : Int} {v : AV} {x : List Cli} (h : FC σ0 σ v x) (hr : r < σ0.next) (hle : σ0.next ≤ σ.next) (hok : LOK ⟨c, n, x⟩) : ∃ i', (i' = r ∨ σ0.next ≤ i') ∧ RB (σ.set r (.own 7 (rowV v c n))) r i' ⟨c, n, x⟩ := by
  cases h with
  | nil => exact ⟨r, .inl rfl, hok, by simp only [AHeap.next_set]; omega, _, get_set_self rfl, .inl ⟨.inr rfl, rfl, rfl⟩⟩
  | mk q x hq ho =>
    refine ⟨q, .inr hq.1, hok, by simp only [AHeap.next_set]; omega, _, get_set_self rfl, .inr ⟨rfl, by simp only [AHeap.next_set]; omega, by omega, ?_⟩⟩
    rw [get_set_ne (by omega)]
    exact ho
theorem insert_calls (σ : AHeap) (r i : Nat) (L : Lim) (h : RB σ r i L) (x : Cli) (hok : LOK { L with cl := insC x L.cl }) : ACalls Try.prog 26 [.ptr r 0, .agg x.enc] σ (fun v σ' => Chg [r] σ σ' ∧ ∃ i', (i' = r ∨ σ.next ≤ i') ∧ RB σ' r i' { L with cl := insC x L.cl }) := by
  refine acalls_of S0_ok k26 (by simp) (fun hwf hrl => ?_)
  unfold c26
  obtain ⟨sl, hg, hc, hrow⟩ := h.row
  have hr := h.rl
  have hl64 := h.ok.l64
  have hlen := hrow.len (P := Try.prog) tk50
  simp -dsimp -implicitDefEqProofs (disch := (first | omega | (simp -implicitDefEqProofs only [nx]; done) | (simp -implicitDefEqProofs only [nx]; omega))) only [↓sd, su, ofC, ofV, argT, List.getD_cons_zero, List.getD_cons_succ, List.getElem?_cons_zero, List.getElem?_cons_succ, List.map_cons, List.map_nil, List.nil_append, List.cons_append, List.append_nil, Option.map_some, Option.map_none, ob, alenX, alenM, alook, amakeMap, aupdate, adelete, abin, aint, acmp, aun, aconv, aloadO, apart, afield, afaddr, aiaddrS, aiaddrA, aindex, aslice, abnd, alenS, amaxmin, amxs, amx, aalloc, abuildSlice, amake, astore, aappend, acopy, asrcO, afill, AV.cellsA, AV.sc, TK.is, TK.agg, List.length_cons, List.length_nil, List.all_cons, List.all_nil, mb, beq_self_eq_true, List.length_set, Int.zero_sub, List.set_cons_zero, List.set_cons_succ, List.take_zero, List.drop_zero, List.take_succ_cons, List.drop_succ_cons, or_false, false_or, or_true, true_or, or_self, gt_iff_lt, ge_iff_le, Nat.lt_irrefl, Nat.reduceGT, Int.reduceLT, Int.reduceLE, Int.reduceNeg, Int.reduceEq, Nat.not_lt_zero, List.replicate_succ, List.replicate_zero, List.flatten_cons, List.flatten_nil, List.length_replicate, Nat.le_refl, Nat.sub_zero, cast0, cast1, Int.cast_ofNat_Int, Int.toNat_natCast, Bool.not_not, Bool.true_and, Bool.and_true, Bool.false_and, Bool.and_false, Bool.or_true, Bool.true_or, Bool.or_false, Bool.false_or, decide_true, decide_false, Bool.not_true, Bool.not_false, beq_iff_eq, Bool.not_eq_true', decide_eq_true_eq, decide_eq_false_iff_not, if_true, if_false, ite_true, ite_false, reduceCtorEq, Bool.false_eq_true, ne_eq, not_false_eq_true, not_true_eq_false, true_and, and_true, and_self, false_and, and_false, Nat.reduceAdd, Nat.reduceSub, Nat.reduceMul, Nat.reduceLT, Nat.reduceLeDiff, Nat.reduceEqDiff, Nat.reduceBEq, Int.reduceToNat, Nat.add_zero, Nat.zero_add, Nat.mul_one, Nat.one_mul, tb, S0, box_cli]
  have hc1 : (σ.alloc (.own 5 x.enc)).cells r = some (rowV sl L.conf L.now) := by rw [cells_alloc_ne (by omega)]; exact hc
  have hb1 : (σ.alloc (.own 5 x.enc)).cells σ.next = some x.enc := cells_alloc_self rfl
  have hE1 : Ext σ (σ.alloc (.own 5 x.enc)) := inferInstance
  have hrow1 : CliRow (σ.alloc (.own 5 x.enc)) sl L.cl := hrow.ext
  have hwf1 : (σ.alloc (.own 5 x.enc)).WF := WF.alloc hwf (by simpa using encs_rl (σ.next + 1) 5 [x])
  have hn1 : (σ.alloc (.own 5 x.enc)).next = σ.next + 1 := rfl
  generalize (σ.alloc (.own 5 x.enc)) = σ1 at *
  refine loop_by (AW.loop S0_ok (fun m t σ' => ∃ (k : Nat), m = L.cl.length - k ∧ k ≤ L.cl.length ∧ σ' = σ1 ∧ t 0 = .ptr r 0 ∧ t 3 = .ptr σ.next 0 ∧ t 4 = .int .i64 (k : Int) ∧ ∀ c ∈ L.cl.take k, decide (c.id < x.id) = true) ?_ (m := L.cl.length - 0) ?_)
  · rintro m t σ' ⟨k, rfl, hk, rfl, h0, h3, h4, hall⟩ hle' hwf'
    by_cases hlt : (k : Int) < (L.cl.length : Int)
    · have k1 : k < L.cl.length := by omega
      obtain ⟨c, hck, hcd, hmem, hdr⟩ := slots (l := L.cl) k1
      obtain ⟨ad, ⟨f0, g0⟩, _⟩ := hrow1.fld k k1
      rw [hcd] at g0
      have hb2 : σ'.cells σ.next = some [.int .i64 x.id, .int .i64 x.last, .int .i64 x.level, .bool x.kissed, .int .i64 x.kiss] := hb1
      have fb := fadr59 0 0 (by simp) σ.next 0
      by_cases hp : c.id < x.id
      · simp -dsimp -implicitDefEqProofs (disch := (first | omega | (simp -implicitDefEqProofs only [nx]; done) | (simp -implicitDefEqProofs only [nx]; omega))) only [↓sd, su, ofC, ofV, argT, List.getD_cons_zero, List.getD_cons_succ, List.getElem?_cons_zero, List.getElem?_cons_succ, List.map_cons, List.map_nil, List.nil_append, List.cons_append, List.append_nil, Option.map_some, Option.map_none, ob, alenX, alenM, alook, amakeMap, aupdate, adelete, abin, aint, acmp, aun, aconv, aloadO, apart, afield, aiaddrS, aiaddrA, aindex, aslice, abnd, alenS, amaxmin, amxs, amx, aalloc, abox, abuildSlice, amake, astore, aappend, acopy, asrcO, afill, AV.cellsA, AV.sc, TK.is, TK.agg, List.length_cons, List.length_nil, List.all_cons, List.all_nil, mb, beq_self_eq_true, List.length_set, Int.zero_sub, List.set_cons_zero, List.set_cons_succ, List.take_zero, List.drop_zero, List.take_succ_cons, List.drop_succ_cons, or_false, false_or, or_true, true_or, or_self, gt_iff_lt, ge_iff_le, Nat.lt_irrefl, Nat.reduceGT, Int.reduceLT, Int.reduceLE, Int.reduceNeg, Int.reduceEq, Nat.not_lt_zero, List.replicate_succ, List.replicate_zero, List.flatten_cons, List.flatten_nil, List.length_replicate, Nat.le_refl, Nat.sub_zero, cast0, cast1, Int.cast_ofNat_Int, Int.toNat_natCast, Bool.not_not, Bool.true_and, Bool.and_true, Bool.false_and, Bool.and_false, Bool.or_true, Bool.true_or, Bool.or_false, Bool.false_or, decide_true, decide_false, Bool.not_true, Bool.not_false, beq_iff_eq, Bool.not_eq_true', decide_eq_true_eq, decide_eq_false_iff_not, if_true, if_false, ite_true, ite_false, reduceCtorEq, Bool.false_eq_true, ne_eq, not_false_eq_true, not_true_eq_false, true_and, and_true, and_self, false_and, and_false, Nat.reduceAdd, Nat.reduceSub, Nat.reduceMul, Nat.reduceLT, Nat.reduceLeDiff, Nat.reduceEqDiff, Nat.reduceBEq, Int.reduceToNat, Nat.add_zero, Nat.zero_add, Nat.mul_one, Nat.one_mul, tb, hlt, h0, h3, h4, hc1, hb2, hlen, ad, f0, g0, fb, hp, rowV, Conf.enc, fa1, w64]
        refine again_by [0, 3, 4] σ' (L.cl.length - (k + 1)) (by omega) (by omega) (Sub.refl hwf') ?_ ?_
        · simp (disch := (first | omega | (simp -implicitDefEqProofs only [nx]; done) | (simp -implicitDefEqProofs only [nx]; omega))) only [only, List.mem_cons, List.not_mem_nil, forall_eq_or_imp, forall_eq, List.contains_cons, List.contains_nil, Nat.reduceBEq, rl_int, rl_bool, AV.rl, AV.rls, ↓sd, su, ofC, ofV, argT, Option.map_some, Option.map_none, lb, nb, Nat.reduceGT, Int.reduceLT, Int.reduceLE, Int.reduceNeg, Int.reduceEq, decide_true, decide_false, decide_eq_true_eq, decide_eq_false_iff_not, if_true, if_false, ite_true, ite_false, reduceCtorEq, ne_eq, Nat.reduceAdd, Nat.reduceSub, Nat.reduceMul, Nat.reduceLT, Nat.reduceLeDiff, Nat.reduceEqDiff, Nat.reduceBEq, Int.reduceToNat, h0, h3, h4]
          refine ⟨?_, ?_⟩ <;> first | omega | (simp only [decide_eq_true_eq]; omega)
        · refine ⟨k + 1, rfl, by omega, rfl, ?_, ?_, ?_, ?_⟩
          · simp (disch := (first | omega | (simp -implicitDefEqProofs only [nx]; done) | (simp -implicitDefEqProofs only [nx]; omega))) only [only, List.mem_cons, List.not_mem_nil, forall_eq_or_imp, forall_eq, List.contains_cons, List.contains_nil, Nat.reduceBEq, rl_int, rl_bool, AV.rl, AV.rls, ↓sd, su, ofC, ofV, argT, Option.map_some, Option.map_none, lb, nb, Nat.reduceGT, Int.reduceLT, Int.reduceLE, Int.reduceNeg, Int.reduceEq, decide_true, decide_false, decide_eq_true_eq, decide_eq_false_iff_not, if_true, if_false, ite_true, ite_false, reduceCtorEq, ne_eq, Nat.reduceAdd, Nat.reduceSub, Nat.reduceMul, Nat.reduceLT, Nat.reduceLeDiff, Nat.reduceEqDiff, Nat.reduceBEq, Int.reduceToNat, h0]
          · simp (disch := (first | omega | (simp -implicitDefEqProofs only [nx]; done) | (simp -implicitDefEqProofs only [nx]; omega))) only [only, List.mem_cons, List.not_mem_nil, forall_eq_or_imp, forall_eq, List.contains_cons, List.contains_nil, Nat.reduceBEq, rl_int, rl_bool, AV.rl, AV.rls, ↓sd, su, ofC, ofV, argT, Option.map_some, Option.map_none, lb, nb, Nat.reduceGT, Int.reduceLT, Int.reduceLE, Int.reduceNeg, Int.reduceEq, decide_true, decide_false, decide_eq_true_eq, decide_eq_false_iff_not, if_true, if_false, ite_true, ite_false, reduceCtorEq, ne_eq, Nat.reduceAdd, Nat.reduceSub, Nat.reduceMul, Nat.reduceLT, Nat.reduceLeDiff, Nat.reduceEqDiff, Nat.reduceBEq, Int.reduceToNat, h3]
          · simp (disch := (first | omega | (simp -implicitDefEqProofs only [nx]; done) | (simp -implicitDefEqProofs only [nx]; omega))) only [only, List.mem_cons, List.not_mem_nil, forall_eq_or_imp, forall_eq, List.contains_cons, List.contains_nil, Nat.reduceBEq, rl_int, rl_bool, AV.rl, AV.rls, ↓sd, su, ofC, ofV, argT, Option.map_some, Option.map_none, lb, nb, Nat.reduceGT, Int.reduceLT, Int.reduceLE, Int.reduceNeg, Int.reduceEq, decide_true, decide_false, decide_eq_true_eq, decide_eq_false_iff_not, if_true, if_false, ite_true, ite_false, reduceCtorEq, ne_eq, Nat.reduceAdd, Nat.reduceSub, Nat.reduceMul, Nat.reduceLT, Nat.reduceLeDiff, Nat.reduceEqDiff, Nat.reduceBEq, Int.reduceToNat, h4, Int.natCast_add]
          · intro d hd
            rw [List.take_add_one, hck] at hd
            rcases List.mem_append.1 hd with hd | hd
            · exact hall d hd
            · have : d = c := by simpa using hd
              subst this
              simpa using hp
      · have hil := h.il
        obtain ⟨u1, u2, cu1, cu2, su1, su2, ru1, ru2⟩ := h.cut hg hk
        have cs1 := cu1 σ' (hE1.fits hil)
        have cs2 := cu2 σ' (hE1.fits hil)
        have ti1 : ∀ j off n, u1 = .slice j off n → j < σ.next ∧ j ≠ r := fun j off n e => by have := ru1 j off n e; omega
        have ti2 : ∀ j off n, u2 = .slice j off n → j < σ.next ∧ j ≠ r := fun j off n e => by have := ru2 j off n e; omega
        have s1 : Src σ' u1 (L.cl.take k) := su1.of_get fun j off n e => hE1.same j (ti1 j off n e).1
        have s2 : Src σ' u2 (L.cl.drop k) := su2.of_get fun j off n e => hE1.same j (ti2 j off n e).1
        have tw : L.cl.takeWhile (fun c => decide (c.id < x.id)) = L.cl.take k ∧ L.cl.dropWhile (fun c => decide (c.id < x.id)) = L.cl.drop k := take_while_at hk hall (.inr ⟨c, hck, by simpa using hp⟩)
        have hins : insC x L.cl = L.cl.take k ++ x :: L.cl.drop k := by unfold insC; rw [tw.1, tw.2]
        rw [hins] at hok ⊢
        have hgr : σ'.get r = .own 7 (rowV sl L.conf L.now) := (hE1.same r hr).trans hg
        have hmem : ∀ j ∈ [r, σ.next, r], j < σ'.next := fun j hj => by simp at hj; omega
        have hnm : ∀ j, j < σ.next → j ≠ r → j ∉ [r, σ.next, r] := fun j h1 h2 hj => by simp at hj; omega
        have hnm2 : ∀ j, σ'.next ≤ j → j ∉ [r, σ.next, r] := fun j h1 hj => by simp at hj; omega
        have hlk : (L.cl.take k).length + (L.cl.drop k).length ≤ 900 := by simp; omega
        have hx2 : (AObj.own 5 x.enc).rl (σ'.next + 1) = true := by simpa using encs_rl (σ'.next + 1) 5 [x]
        -- the first order
        obtain ⟨v1, σ2, a1, a2, a3, a4, a5, a6⟩ := (FC.nil (σ0 := σ') (σ := σ')).push (Nat.le_refl _) s1 (by simp; omega) hwf'
        rw [List.nil_append] at a2
        obtain ⟨τ2, a7⟩ := a6 (hold [r, σ.next, r] σ') rfl (s1.of_get fun j off n e => get_hold_not (hnm j (ti1 j off n e).1 (ti1 j off n e).2)) (fun j hj => get_hold_not (hnm2 j hj))
        have s2a : Src (σ2.alloc (.own 5 x.enc)) u2 (L.cl.drop k) := s2.of_get fun j off n e => by
          have := (ti2 j off n e).1
          rw [get_alloc_ne (by omega), a5 j (by omega)]
        have hx3 : (AObj.own 5 x.enc).rl (σ2.next + 1) = true := by simpa using encs_rl (σ2.next + 1) 5 [x]
        obtain ⟨w2, w3, σb, σc, τb, τc, b1, b2, b3, b4, b5, b6, b7, b8, b9⟩ := ins_tail (σ0 := σ') (σ := σ2.alloc (.own 5 x.enc)) (H := [r, σ.next, r]) (x := x) (by first | omega | (simp only [AHeap.next_alloc, AHeap.next_set]; omega) | (simp only [AHeap.next_alloc, AHeap.next_set] at *; omega)) a2.ext (get_alloc_self rfl) (hnm2 _ a4) s2a
          (fun j off n e => ⟨by have := (ti2 j off n e).1; omega, hnm j (ti2 j off n e).1 (ti2 j off n e).2⟩) hmem hlk (WF.alloc a3 hx3)
        -- the others
        have e2 : Ext σ' (σ'.alloc (.own 5 x.enc)) := inferInstance
        have n2 : (σ'.alloc (.own 5 x.enc)).next = σ'.next + 1 := rfl
        have s1b : Src (σ'.alloc (.own 5 x.enc)) u1 (L.cl.take k) := s1.of_get fun j off n e => e2.same j (by have := (ti1 j off n e).1; omega)
        obtain ⟨y1, ρ2, d1, d2, d3, d4, d5, d6⟩ := (FC.nil (σ0 := σ'.alloc (.own 5 x.enc)) (σ := σ'.alloc (.own 5 x.enc))).push (Nat.le_refl _) s1b (by simp; omega) (WF.alloc hwf' hx2)
        rw [List.nil_append] at d2
        obtain ⟨π2, d7⟩ := d6 (hold [r, σ.next, r] (σ'.alloc (.own 5 x.enc))) rfl (s1b.of_get fun j off n e => get_hold_not (hnm j (ti1 j off n e).1 (ti1 j off n e).2)) (fun j hj => get_hold_not (hnm2 j (by omega)))
        have s2b : Src ρ2 u2 (L.cl.drop k) := s2.of_get fun j off n e => by
          have := (ti2 j off n e).1
          rw [d5 j (by omega), e2.same j (by omega)]
        obtain ⟨z2, z3, ρb, ρc, πb, πc, f1, f2, f3, f4, f5, f6, f7, f8, f9⟩ := ins_tail (σ0 := σ'.alloc (.own 5 x.enc)) (σ := ρ2) (H := [r, σ.next, r]) (x := x) (q := σ'.next) d4 d2 (by rw [d5 _ (by omega)]; exact get_alloc_self rfl) (hnm2 _ (Nat.le_refl _)) s2b
          (fun j off n e => ⟨by have := (ti2 j off n e).1; omega, hnm j (ti2 j off n e).1 (ti2 j off n e).2⟩) (fun j hj => by have := hmem j hj; omega) hlk d3
        have c1 : σ2.get r = σ'.get r := a5 r (by omega)
        have c2 : σ2.get σ.next = σ'.get σ.next := a5 _ (by omega)
        have c3 : σb.get r = σ'.get r := by rw [b8 r (by omega), get_alloc_ne (by omega), c1]
        have c4 : σb.get σ.next = σ'.get σ.next := by rw [b8 _ (by omega), get_alloc_ne (by omega), c2]
        have c5 : σc.get r = σ'.get r := by rw [b9 r (by omega), get_alloc_ne (by omega), c1]
        have c6 : σc.get σ.next = σ'.get σ.next := by rw [b9 _ (by omega), get_alloc_ne (by omega), c2]
        have g1 : ρ2.get r = σ'.get r := by rw [d5 r (by omega), e2.same r (by omega)]
        have g2 : ρ2.get σ.next = σ'.get σ.next := by rw [d5 _ (by omega), e2.same _ (by omega)]
        have g3 : ρb.get r = σ'.get r := (f8 r (by omega)).trans g1
        have g4 : ρb.get σ.next = σ'.get σ.next := (f8 _ (by omega)).trans g2
        have g5 : ρc.get r = σ'.get r := (f9 r (by omega)).trans g1
        have g6 : ρc.get σ.next = σ'.get σ.next := (f9 _ (by omega)).trans g2
        have hstA := store_sl (σ := σc) (c5.trans hgr) b5.own.2
        have hstB := store_sl (σ := ρc) (g5.trans hgr) f5.own.2
        have hld := load_cli x σ' σ.next hb1
        simp -dsimp -implicitDefEqProofs (disch := (first | omega | (simp -implicitDefEqProofs only [nx]; done) | (simp -implicitDefEqProofs only [nx]; omega))) only [↓sd, su, ofC, ofV, argT, List.getD_cons_zero, List.getD_cons_succ, List.getElem?_cons_zero, List.getElem?_cons_succ, List.map_cons, List.map_nil, List.nil_append, List.cons_append, List.append_nil, Option.map_some, Option.map_none, ob, alenX, alenM, alook, amakeMap, aupdate, adelete, abin, aint, acmp, aun, aconv, aloadO, apart, afield, aiaddrS, aiaddrA, aindex, abnd, alenS, amaxmin, amxs, amx, aalloc, abox, amake, acopy, asrcO, afill, AV.cellsA, AV.sc, TK.is, TK.agg, List.length_cons, List.length_nil, List.all_cons, List.all_nil, mb, beq_self_eq_true, List.length_set, Int.zero_sub, List.set_cons_zero, List.set_cons_succ, List.take_zero, List.drop_zero, List.take_succ_cons, List.drop_succ_cons, or_false, false_or, or_true, true_or, or_self, gt_iff_lt, ge_iff_le, Nat.lt_irrefl, Nat.reduceGT, Int.reduceLT, Int.reduceLE, Int.reduceNeg, Int.reduceEq, Nat.not_lt_zero, List.replicate_succ, List.replicate_zero, List.flatten_cons, List.flatten_nil, List.length_replicate, Nat.le_refl, Nat.sub_zero, cast0, cast1, Int.cast_ofNat_Int, Int.toNat_natCast, Bool.not_not, Bool.true_and, Bool.and_true, Bool.false_and, Bool.and_false, Bool.or_true, Bool.true_or, Bool.or_false, Bool.false_or, decide_true, decide_false, Bool.not_true, Bool.not_false, beq_iff_eq, Bool.not_eq_true', decide_eq_true_eq, decide_eq_false_iff_not, if_true, if_false, ite_true, ite_false, reduceCtorEq, Bool.false_eq_true, ne_eq, not_false_eq_true, not_true_eq_false, true_and, and_true, and_self, false_and, and_false, Nat.reduceAdd, Nat.reduceSub, Nat.reduceMul, Nat.reduceLT, Nat.reduceLeDiff, Nat.reduceEqDiff, Nat.reduceBEq, Int.reduceToNat, Nat.add_zero, Nat.zero_add, Nat.mul_one, Nat.one_mul, tb, hlt, hb2, hlen, ad, f0, g0, fb, hp, w64, h0, h3, h4, hc1, cs1, cs2, hld, rowV, Conf.enc, fa1, bs0, bs1, a1, a7, b1, b2, b3, b4, d1, d7, f1, f2, f3, f4, c1, c2, c3, c4, c5, c6, g1, g2, g3, g4, g5, g6, hstA, hstB]
        have finA : Chg [r] σ (σc.set r (.own 7 (rowV w3 L.conf L.now))) := ⟨by simp only [AHeap.next_set]; simp only [AHeap.next_alloc] at b7; omega, fun j hj hn => by
          have hjr : j ≠ r := fun e => hn (by simp [e])
          rw [get_set_ne hjr, b9 j (by omega), get_alloc_ne (by omega), a5 j (by omega), hE1.same j hj]⟩
        have finB : Chg [r] σ (ρc.set r (.own 7 (rowV z3 L.conf L.now))) := ⟨by simp only [AHeap.next_set]; omega, fun j hj hn => by
          have hjr : j ≠ r := fun e => hn (by simp [e])
          rw [get_set_ne hjr, f9 j (by omega), d5 j (by omega), e2.same j (by omega), hE1.same j hj]⟩
        obtain ⟨iA, hiA, hRA⟩ := b5.rb (σ0 := σ') (r := r) (by omega) (by simp only [AHeap.next_alloc] at b7; omega) hok
        obtain ⟨iB, hiB, hRB⟩ := (f5.base (σ0 := σ') (by omega)).rb (r := r) (by omega) (by omega) hok
        have wfA := WF.set b6 r (rowV_rl b5.own.1 L.conf L.now)
        have wfB := WF.set f6 r (rowV_rl f5.own.1 L.conf L.now)
        first | refine ⟨⟨?_, ?_⟩, ?_⟩ | refine ⟨?_, ?_, ?_⟩ | refine ⟨?_, ?_⟩
        all_goals first
          | exact normal_pure (σ := σc.set r (.own 7 (rowV w3 L.conf L.now))) finA.le (Sub.refl wfA) rfl ⟨finA, iA, by omega, hRA⟩
          | exact normal_pure (σ := ρc.set r (.own 7 (rowV z3 L.conf L.now))) finB.le (Sub.refl wfB) rfl ⟨finB, iB, by omega, hRB⟩
    · have hil := h.il
      obtain ⟨u1, u2, cu1, cu2, su1, su2, ru1, ru2⟩ := h.cut hg hk
      have cs1 := cu1 σ' (hE1.fits hil)
      have cs2 := cu2 σ' (hE1.fits hil)
      have ti1 : ∀ j off n, u1 = .slice j off n → j < σ.next ∧ j ≠ r := fun j off n e => by have := ru1 j off n e; omega
      have ti2 : ∀ j off n, u2 = .slice j off n → j < σ.next ∧ j ≠ r := fun j off n e => by have := ru2 j off n e; omega
      have s1 : Src σ' u1 (L.cl.take k) := su1.of_get fun j off n e => hE1.same j (ti1 j off n e).1
      have s2 : Src σ' u2 (L.cl.drop k) := su2.of_get fun j off n e => hE1.same j (ti2 j off n e).1
      have tw : L.cl.takeWhile (fun c => decide (c.id < x.id)) = L.cl.take k ∧ L.cl.dropWhile (fun c => decide (c.id < x.id)) = L.cl.drop k := take_while_at hk hall (.inl (by omega))
      have hins : insC x L.cl = L.cl.take k ++ x :: L.cl.drop k := by unfold insC; rw [tw.1, tw.2]
      rw [hins] at hok ⊢
      have hgr : σ'.get r = .own 7 (rowV sl L.conf L.now) := (hE1.same r hr).trans hg
      have hmem : ∀ j ∈ [r, σ.next, r], j < σ'.next := fun j hj => by simp at hj; omega
      have hnm : ∀ j, j < σ.next → j ≠ r → j ∉ [r, σ.next, r] := fun j h1 h2 hj => by simp at hj; omega
      have hnm2 : ∀ j, σ'.next ≤ j → j ∉ [r, σ.next, r] := fun j h1 hj => by simp at hj; omega
      have hlk : (L.cl.take k).length + (L.cl.drop k).length ≤ 900 := by simp; omega
      have hx2 : (AObj.own 5 x.enc).rl (σ'.next + 1) = true := by simpa using encs_rl (σ'.next + 1) 5 [x]
      -- the first order
      obtain ⟨v1, σ2, a1, a2, a3, a4, a5, a6⟩ := (FC.nil (σ0 := σ') (σ := σ')).push (Nat.le_refl _) s1 (by simp; omega) hwf'
      rw [List.nil_append] at a2
      obtain ⟨τ2, a7⟩ := a6 (hold [r, σ.next, r] σ') rfl (s1.of_get fun j off n e => get_hold_not (hnm j (ti1 j off n e).1 (ti1 j off n e).2)) (fun j hj => get_hold_not (hnm2 j hj))
      have s2a : Src (σ2.alloc (.own 5 x.enc)) u2 (L.cl.drop k) := s2.of_get fun j off n e => by
        have := (ti2 j off n e).1
        rw [get_alloc_ne (by omega), a5 j (by omega)]
      have hx3 : (AObj.own 5 x.enc).rl (σ2.next + 1) = true := by simpa using encs_rl (σ2.next + 1) 5 [x]
      obtain ⟨w2, w3, σb, σc, τb, τc, b1, b2, b3, b4, b5, b6, b7, b8, b9⟩ := ins_tail (σ0 := σ') (σ := σ2.alloc (.own 5 x.enc)) (H := [r, σ.next, r]) (x := x) (by first | omega | (simp only [AHeap.next_alloc, AHeap.next_set]; omega) | (simp only [AHeap.next_alloc, AHeap.next_set] at *; omega)) a2.ext (get_alloc_self rfl) (hnm2 _ a4) s2a
        (fun j off n e => ⟨by have := (ti2 j off n e).1; omega, hnm j (ti2 j off n e).1 (ti2 j off n e).2⟩) hmem hlk (WF.alloc a3 hx3)
      -- the others
      have e2 : Ext σ' (σ'.alloc (.own 5 x.enc)) := inferInstance
      have n2 : (σ'.alloc (.own 5 x.enc)).next = σ'.next + 1 := rfl
      have s1b : Src (σ'.alloc (.own 5 x.enc)) u1 (L.cl.take k) := s1.of_get fun j off n e => e2.same j (by have := (ti1 j off n e).1; omega)
      obtain ⟨y1, ρ2, d1, d2, d3, d4, d5, d6⟩ := (FC.nil (σ0 := σ'.alloc (.own 5 x.enc)) (σ := σ'.alloc (.own 5 x.enc))).push (Nat.le_refl _) s1b (by simp; omega) (WF.alloc hwf' hx2)
      rw [List.nil_append] at d2
      obtain ⟨π2, d7⟩ := d6 (hold [r, σ.next, r] (σ'.alloc (.own 5 x.enc))) rfl (s1b.of_get fun j off n e => get_hold_not (hnm j (ti1 j off n e).1 (ti1 j off n e).2)) (fun j hj => get_hold_not (hnm2 j (by omega)))
      have s2b : Src ρ2 u2 (L.cl.drop k) := s2.of_get fun j off n e => by
        have := (ti2 j off n e).1
        rw [d5 j (by omega), e2.same j (by omega)]
      obtain ⟨z2, z3, ρb, ρc, πb, πc, f1, f2, f3, f4, f5, f6, f7, f8, f9⟩ := ins_tail (σ0 := σ'.alloc (.own 5 x.enc)) (σ := ρ2) (H := [r, σ.next, r]) (x := x) (q := σ'.next) d4 d2 (by rw [d5 _ (by omega)]; exact get_alloc_self rfl) (hnm2 _ (Nat.le_refl _)) s2b
        (fun j off n e => ⟨by have := (ti2 j off n e).1; omega, hnm j (ti2 j off n e).1 (ti2 j off n e).2⟩) (fun j hj => by have := hmem j hj; omega) hlk d3
      have c1 : σ2.get r = σ'.get r := a5 r (by omega)
      have c2 : σ2.get σ.next = σ'.get σ.next := a5 _ (by omega)
      have c3 : σb.get r = σ'.get r := by rw [b8 r (by omega), get_alloc_ne (by omega), c1]
      have c4 : σb.get σ.next = σ'.get σ.next := by rw [b8 _ (by omega), get_alloc_ne (by omega), c2]
      have c5 : σc.get r = σ'.get r := by rw [b9 r (by omega), get_alloc_ne (by omega), c1]
      have c6 : σc.get σ.next = σ'.get σ.next := by rw [b9 _ (by omega), get_alloc_ne (by omega), c2]
      have g1 : ρ2.get r = σ'.get r := by rw [d5 r (by omega), e2.same r (by omega)]
      have g2 : ρ2.get σ.next = σ'.get σ.next := by rw [d5 _ (by omega), e2.same _ (by omega)]
      have g3 : ρb.get r = σ'.get r := (f8 r (by omega)).trans g1
      have g4 : ρb.get σ.next = σ'.get σ.next := (f8 _ (by omega)).trans g2
      have g5 : ρc.get r = σ'.get r := (f9 r (by omega)).trans g1
      have g6 : ρc.get σ.next = σ'.get σ.next := (f9 _ (by omega)).trans g2
      have hstA := store_sl (σ := σc) (c5.trans hgr) b5.own.2
      have hstB := store_sl (σ := ρc) (g5.trans hgr) f5.own.2
      have hld := load_cli x σ' σ.next hb1
      simp -dsimp -implicitDefEqProofs (disch := (first | omega | (simp -implicitDefEqProofs only [nx]; done) | (simp -implicitDefEqProofs only [nx]; omega))) only [↓sd, su, ofC, ofV, argT, List.getD_cons_zero, List.getD_cons_succ, List.getElem?_cons_zero, List.getElem?_cons_succ, List.map_cons, List.map_nil, List.nil_append, List.cons_append, List.append_nil, Option.map_some, Option.map_none, ob, alenX, alenM, alook, amakeMap, aupdate, adelete, abin, aint, acmp, aun, aconv, aloadO, apart, afield, aiaddrS, aiaddrA, aindex, abnd, alenS, amaxmin, amxs, amx, aalloc, abox, amake, acopy, asrcO, afill, AV.cellsA, AV.sc, TK.is, TK.agg, List.length_cons, List.length_nil, List.all_cons, List.all_nil, mb, beq_self_eq_true, List.length_set, Int.zero_sub, List.set_cons_zero, List.set_cons_succ, List.take_zero, List.drop_zero, List.take_succ_cons, List.drop_succ_cons, or_false, false_or, or_true, true_or, or_self, gt_iff_lt, ge_iff_le, Nat.lt_irrefl, Nat.reduceGT, Int.reduceLT, Int.reduceLE, Int.reduceNeg, Int.reduceEq, Nat.not_lt_zero, List.replicate_succ, List.replicate_zero, List.flatten_cons, List.flatten_nil, List.length_replicate, Nat.le_refl, Nat.sub_zero, cast0, cast1, Int.cast_ofNat_Int, Int.toNat_natCast, Bool.not_not, Bool.true_and, Bool.and_true, Bool.false_and, Bool.and_false, Bool.or_true, Bool.true_or, Bool.or_false, Bool.false_or, decide_true, decide_false, Bool.not_true, Bool.not_false, beq_iff_eq, Bool.not_eq_true', decide_eq_true_eq, decide_eq_false_iff_not, if_true, if_false, ite_true, ite_false, reduceCtorEq, Bool.false_eq_true, ne_eq, not_false_eq_true, not_true_eq_false, true_and, and_true, and_self, false_and, and_false, Nat.reduceAdd, Nat.reduceSub, Nat.reduceMul, Nat.reduceLT, Nat.reduceLeDiff, Nat.reduceEqDiff, Nat.reduceBEq, Int.reduceToNat, Nat.add_zero, Nat.zero_add, Nat.mul_one, Nat.one_mul, tb, hlt, hlen, w64, h0, h3, h4, hc1, cs1, cs2, hld, rowV, Conf.enc, fa1, bs0, bs1, a1, a7, b1, b2, b3, b4, d1, d7, f1, f2, f3, f4, c1, c2, c3, c4, c5, c6, g1, g2, g3, g4, g5, g6, hstA, hstB]
      have finA : Chg [r] σ (σc.set r (.own 7 (rowV w3 L.conf L.now))) := ⟨by simp only [AHeap.next_set]; simp only [AHeap.next_alloc] at b7; omega, fun j hj hn => by
        have hjr : j ≠ r := fun e => hn (by simp [e])
        rw [get_set_ne hjr, b9 j (by omega), get_alloc_ne (by omega), a5 j (by omega), hE1.same j hj]⟩
      have finB : Chg [r] σ (ρc.set r (.own 7 (rowV z3 L.conf L.now))) := ⟨by simp only [AHeap.next_set]; omega, fun j hj hn => by
        have hjr : j ≠ r := fun e => hn (by simp [e])
        rw [get_set_ne hjr, f9 j (by omega), d5 j (by omega), e2.same j (by omega), hE1.same j hj]⟩
      obtain ⟨iA, hiA, hRA⟩ := b5.rb (σ0 := σ') (r := r) (by omega) (by simp only [AHeap.next_alloc] at b7; omega) hok
      obtain ⟨iB, hiB, hRB⟩ := (f5.base (σ0 := σ') (by omega)).rb (r := r) (by omega) (by omega) hok
      have wfA := WF.set b6 r (rowV_rl b5.own.1 L.conf L.now)
      have wfB := WF.set f6 r (rowV_rl f5.own.1 L.conf L.now)
      first | refine ⟨⟨?_, ?_⟩, ?_⟩ | refine ⟨?_, ?_, ?_⟩ | refine ⟨?_, ?_⟩
      all_goals first
        | exact normal_pure (σ := σc.set r (.own 7 (rowV w3 L.conf L.now))) finA.le (Sub.refl wfA) rfl ⟨finA, iA, by omega, hRA⟩
        | exact normal_pure (σ := ρc.set r (.own 7 (rowV z3 L.conf L.now))) finB.le (Sub.refl wfB) rfl ⟨finB, iB, by omega, hRB⟩
  · refine ⟨0, rfl, Nat.zero_le _, rfl, ?_, ?_, ?_, fun c hc => by simp at hc⟩
    all_goals (simp -dsimp -implicitDefEqProofs (disch := (first | omega | (simp -implicitDefEqProofs only [nx]; done) | (simp -implicitDefEqProofs only [nx]; omega))) only [↓sd, su, ofC, ofV, argT, Option.map_some, Option.map_none, lb, ob, alenX, alenM, alook, amakeMap, aupdate, adelete, abin, aint, acmp, aun, aconv, aloadO, apart, afield, afaddr, aiaddrS, aiaddrA, aindex, aslice, abnd, alenS, amaxmin, amxs, amx, aalloc, abox, abuildSlice, amake, astore, aappend, acopy, asrcO, afill, AV.cellsA, AV.sc, TK.is, TK.agg, mb, nb, Nat.reduceGT, Int.reduceLT, Int.reduceLE, Int.reduceNeg, Int.reduceEq, decide_true, decide_false, decide_eq_true_eq, decide_eq_false_iff_not, if_true, if_false, ite_true, ite_false, reduceCtorEq, ne_eq, Nat.reduceAdd, Nat.reduceSub, Nat.reduceMul, Nat.reduceLT, Nat.reduceLeDiff, Nat.reduceEqDiff, Nat.reduceBEq, Int.reduceToNat, tb] <;> rfl)
end Go.Proofs.Ythiaegigndlnpaa.A
