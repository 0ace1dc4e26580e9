/- Maps whose keys are whole numbers: look-up and length. Conditions: none. -/
import Derived.Test.YteeakkakkjhgoaaA3
import Derived.MapKept
set_option linter.unusedVariables false
set_option linter.unusedSimpArgs false
namespace Go.Proofs.Yteeakkakkjhgoaa.A
open Go Go.RowKit

def mkeys (k : IntKind) (m : List (AV × AV)) : Bool := m.all fun x => match x.1 with
  | .int k' _ => decide (k' = k)
  | _ => false
def mfind (z : Int) : List (AV × AV) → Nat → Option (Nat × AV)
  | [], _ => none
  | x :: m, i => match x.1 with
    | .int _ y => if z = y then some (i, x.2) else mfind z m (i + 1)
    | _ => mfind z m (i + 1)
theorem find_sound {n : Nat} {ρ : Nat → RI} {k : IntKind} {z : Int} : ∀ {m : List (AV × AV)} {es : List MapEntry} {i : Nat}, mkeys k m = true → m.length = es.length →
    (∀ (j : Nat) (x : AV × AV), m[j]? = some x → ∃ e : MapEntry, es[j]? = some e ∧ VR n ρ x.1 e.key ∧ VR n ρ x.2 e.val) →
    match mfind z m i with
    | some (j, v) => ∃ (q : Nat) (e : MapEntry), j = i + q ∧ es[q]? = some e ∧ e.key = .int k z ∧ VR n ρ v e.val ∧ Instr.findNow (.int k) (.int k z) es i = some (some (j, e.val))
    | none => Instr.findNow (.int k) (.int k z) es i = some none
  | [], es, i, _, hl, _ => by
    have : es = [] := List.eq_nil_of_length_eq_zero hl.symm
    subst this
    rfl
  | x :: m, [], i, _, hl, _ => by simp at hl
  | x :: m, e :: es, i, hk, hl, h => by
    obtain ⟨e', h1, h2, h3⟩ := h 0 x rfl
    simp at h1; subst h1
    have hk' : mkeys k m = true := by
      unfold mkeys at hk ⊢; simp at hk ⊢; exact fun a b hm => hk.2 a b hm
    have hx : ∃ y, x.1 = .int k y := by
      unfold mkeys at hk
      simp only [List.all_cons, Bool.and_eq_true] at hk
      have := hk.1
      split at this
      · rename_i k' y hy
        have : k' = k := by simpa using this
        subst this
        exact ⟨y, hy⟩
      · cases this
    obtain ⟨y, hy⟩ := hx
    rw [hy] at h2
    have hek : e.key = .int k y := by cases hq : e.key <;> rw [hq] at h2 <;> cases h2 <;> rfl
    have ih := find_sound (z := z) (m := m) (es := es) (i := i + 1) hk' (by simpa using hl) (fun j x hj => h (j + 1) x hj)
    by_cases e1 : z = y
    · have hf : mfind z (x :: m) i = some (i, x.2) := by simp [mfind, hy, e1]
      rw [hf]
      exact ⟨0, e, rfl, rfl, by rw [hek, e1], h3, by simp [Instr.findNow, Instr.sameNow, hek, e1]⟩
    · have hf : mfind z (x :: m) i = mfind z m (i + 1) := by simp [mfind, hy, e1]
      have hg : Instr.findNow (.int k) (.int k z) (e :: es) i = Instr.findNow (.int k) (.int k z) es (i + 1) := by
        have hb : (z == y) = false := by simpa using e1
        simp [Instr.findNow, Instr.sameNow, hek, hb]
      rw [hf, hg]
      cases hm : mfind z m (i + 1) with
      | none => rw [hm] at ih; exact ih
      | some p =>
        obtain ⟨j, v⟩ := p
        rw [hm] at ih
        obtain ⟨q, e', a, b, c, d, f⟩ := ih
        exact ⟨q + 1, e', by omega, by simpa using b, c, d, f⟩
/-- The zero of a type, as one value. -/
def zeroV (P : Program) (t : TypeId) : Option AV :=
  match P.info? t with
  | some i => match i.zero with
    | some (.agg cs) => some (.agg (cs.toList.map ofV))
    | some v => some (ofV v)
    | none => none
  | none => none
def alook (P : Program) (t : TypeId) (x k : AV) (commaOk : Bool) (σ : AHeap) : Option AV :=
  match tk P t, x, k with
  | .map kt e, .map i, .int kk z =>
    match σ.get i, tk P kt with
    | .amap m, .int kk' =>
      if kk' = kk ∧ mkeys kk m = true then
        match mfind z m 0 with
        | some (_, v) => some (if commaOk = true then .tup [v, .bool true] else v)
        | none => match zeroV P e with
          | some v => some (if commaOk = true then .tup [v, .bool false] else v)
          | none => none
      else none
    | _, _ => none
  | _, _, _ => none
theorem zeroV_run {P : Program} {t : TypeId} {v : AV} (h : zeroV P t = some v) (n : Nat) (ρ : Nat → RI) : ∃ cz, (∀ w, (zeroValue t).run P w = .ok cz w) ∧ VR n ρ v cz := by
  unfold zeroV at h
  split at h
  · rename_i i hi
    split at h
    · rename_i cs hz
      cases h
      exact ⟨.agg cs, fun w => by simp [zeroValue, typeInfo, hi, hz], .agg _ _ (VRs_map_ofV _ _ _)⟩
    · rename_i z hz hne
      cases h
      exact ⟨z, fun w => by simp [zeroValue, typeInfo, hi, hne], VR_ofV _ _ _⟩
    · cases h
  · cases h
theorem map_under {P : Program} {t kt e : TypeId} (h : tk P t = .map kt e) : P.underlying t = some (.map kt e) := by
  obtain ⟨d, hd, he⟩ := tk_under (P := P) (t := t) (by rw [h]; rfl)
  rw [h] at he
  cases d <;> simp [tkOf] at he
  obtain ⟨rfl, rfl⟩ := he
  exact hd
theorem int_under {P : Program} {t : TypeId} {k : IntKind} (h : tk P t = .int k) : P.underlying t = some (.int k) := by
  obtain ⟨d, hd, he⟩ := tk_under (P := P) (t := t) (by rw [h]; rfl)
  rw [h] at he
  cases d <;> simp [tkOf] at he
  subst he
  exact hd
theorem below_heap {w w' : World} (hb : Below w.heap.size w w') {b : Nat} {o : Obj} (h : w.heap[b]? = some o) : w'.heap[b]? = some o := by
  rw [hb.block b (Array.getElem?_eq_some_iff.1 h).1]; exact h
theorem look_sound {P : Program} {t : TypeId} {x k v : AV} {ok : Bool} {σ : AHeap} (h : alook P t x k ok σ = some v) {ρ : Nat → RI} {w : World} (hh : HRel ρ σ w) {cx ck : Value} (hx : VR σ.next ρ x cx) (hk : VR σ.next ρ k ck) :
    ∃ cv, VR σ.next ρ v cv ∧ ∀ w', Below w.heap.size w w' → (Instr.lookup t cx ck ok).run P w' = .ok cv w' := by
  unfold alook at h
  split at h
  · rename_i kt e i kk z ht
    cases hx; cases hk
    rename_i hi
    have hu := map_under ht
    split at h
    · rename_i m kk' ho hkt
      split at h
      · rename_i hc
        obtain ⟨rfl, hmk⟩ := hc
        have hr := hh.row i hi
        rw [ho] at hr
        obtain ⟨_, es, clock, hblk, ⟨hlen, hrel⟩, _⟩ := hr
        have hku := int_under hkt
        have hf := find_sound (z := z) (i := 0) hmk (es := es.toList) (by simpa using hlen) (fun j x hj => by
          obtain ⟨e, h1, h2⟩ := hrel j x hj
          exact ⟨e, by simpa using h1, h2⟩)
        have hck : ∀ w', (Instr.checkKey es.isEmpty 10000 kt (.int kk' z)).run P w' = .ok () w' := fun w' => MapKept.run_checkKey hku (by simp [MapKept.IsKey]) _ _
        cases hm : mfind z m 0 with
        | some p =>
          obtain ⟨j, u⟩ := p
          rw [hm] at hf h
          obtain ⟨q, en, _, _, _, hv, hfn⟩ := hf
          have hfk : ∀ w', (Instr.findKey kt (.int kk' z) es.toList).run P w' = .ok (some (j, en.val)) w' := fun w' => MapKept.run_findKey hku hfn
          simp only [Option.some.injEq] at h
          subst h
          refine ⟨if ok = true then .tuple #[en.val, .bool true] else en.val, ?_, fun w' hb => ?_⟩
          · cases ok
            · exact hv
            · exact .tup _ _ (.cons _ _ _ _ hv (.cons _ _ _ _ (.bool _) .nil))
          · have hg := MapKept.run_getObj_map (P := P) (below_heap hb hblk)
            cases ok <;> simp [Instr.lookup, run_underlying hu, hg, hck w', hfk w']
        | none =>
          rw [hm] at hf h
          have hfk : ∀ w', (Instr.findKey kt (.int kk' z) es.toList).run P w' = .ok none w' := fun w' => MapKept.run_findKey hku hf
          simp only [] at h
          split at h
          · rename_i u hz
            obtain ⟨cz, hz1, hz2⟩ := zeroV_run hz σ.next ρ
            simp only [Option.some.injEq] at h
            subst h
            refine ⟨if ok = true then .tuple #[cz, .bool false] else cz, ?_, fun w' hb => ?_⟩
            · cases ok
              · exact hz2
              · exact .tup _ _ (.cons _ _ _ _ hz2 (.cons _ _ _ _ (.bool _) .nil))
            · have hg := MapKept.run_getObj_map (P := P) (below_heap hb hblk)
              cases ok <;> simp [Instr.lookup, run_underlying hu, hg, hck w', hfk w', hz1 w']
          · cases h
      · cases h
    · cases h
  · cases h
/-- The length of a map. -/
def alenM (P : Program) (t : TypeId) (x : AV) (σ : AHeap) : Option AV :=
  match tk P t, x with
  | .map _ _, .map i => match σ.get i with
    | .amap m => some (.int .i64 (m.length : Int))
    | _ => none
  | .map _ _, .nilm => some (.int .i64 0)
  | _, _ => none
theorem lenM_sound {P : Program} {t ty : TypeId} {x v : AV} {σ : AHeap} (h : alenM P t x σ = some v) {ρ : Nat → RI} {w : World} (hh : HRel ρ σ w) {cx : Value} (hx : VR σ.next ρ x cx) :
    ∃ cv, VR σ.next ρ v cv ∧ ∀ w', Below w.heap.size w w' → (Builtin.len_ #[t] ty #[cx]).run P w' = .ok cv w' := by
  unfold alenM at h
  split at h
  · rename_i kt e i ht
    cases hx
    rename_i hi
    split at h
    · rename_i m ho
      cases h
      have hr := hh.row i hi
      rw [ho] at hr
      obtain ⟨_, es, clock, hblk, ⟨hlen, hrel⟩, _⟩ := hr
      refine ⟨.int .i64 es.size, by rw [← hlen]; exact .int _ _, fun w' hb => ?_⟩
      simp [Builtin.len_, run_underlying (map_under ht), MapKept.run_getObj_map (below_heap hb hblk), goInt]
    · cases h
  · rename_i kt e ht
    cases hx
    cases h
    exact ⟨.int .i64 0, .int _ _, fun w' _ => by simp [Builtin.len_, run_underlying (map_under ht), goInt]⟩
  · cases h
end Go.Proofs.Yteeakkakkjhgoaa.A
