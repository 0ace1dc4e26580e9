/- Maps whose keys are whole numbers: make, store, delete. Conditions: none. -/
import Derived.Test.YteeakkakkjhgoaaA7
import Derived.Carry
set_option linter.unusedVariables false
set_option linter.unusedSimpArgs false
namespace Go.Proofs.Yteeakkakkjhgoaa.A
open Go Go.RowKit

/-- The map behind a store. -/
def mput (k : IntKind) (z : Int) (v : AV) (m : List (AV × AV)) : List (AV × AV) :=
  match mfind z m 0 with
  | some (j, _) => m.set j (.int k z, v)
  | none => m ++ [(.int k z, v)]
def mdel (z : Int) (m : List (AV × AV)) : List (AV × AV) :=
  match mfind z m 0 with
  | some (j, _) => m.eraseIdx j
  | none => m
def amakeMap (t : TypeId) (σ : AHeap) : Option (AV × AHeap) := some (.map σ.next, σ.alloc (.amap []))
def aupdate (P : Program) (t : TypeId) (x k v : AV) (σ : AHeap) : Option (AV × AHeap) :=
  match tk P t, x, k with
  | .map kt e, .map i, .int kk z =>
    match σ.get i, tk P kt with
    | .amap m, .int kk' => if kk' = kk ∧ mkeys kk m = true then some (.tup [], σ.set i (.amap (mput kk z v m))) else none
    | _, _ => none
  | _, _, _ => none
def adelete (P : Program) (t : TypeId) (x k : AV) (σ : AHeap) : Option (AV × AHeap) :=
  match tk P t, x, k with
  | .map kt e, .map i, .int kk z =>
    match σ.get i, tk P kt with
    | .amap m, .int kk' => if kk' = kk ∧ mkeys kk m = true then some (.tup [], σ.set i (.amap (mdel z m))) else none
    | _, _ => none
  | _, _, _ => none
theorem makeMap_sound {P : Program} {t : TypeId} {σ σ' : AHeap} {v : AV} (h : amakeMap t σ = some (v, σ')) {ρ : Nat → RI} {w : World} (hh : HRel ρ σ w) :
    ∃ w' ρ' cv, (Instr.makeMap t none).run P w = .ok cv w' ∧ VR σ'.next ρ' v cv ∧ HRel ρ' σ' w' ∧ Fr ρ σ w ρ' σ' w' ∧ σ.next ≤ σ'.next ∧ ∀ i, i < σ.next → ρ' i = ρ i := by
  unfold amakeMap at h
  cases h
  have hB : Below w.heap.size w (w.alloc (.map #[] 0)) := (Below.refl _ w).alloc (Nat.le_refl _) _
  have hblk : (w.alloc (.map #[] 0)).heap[w.heap.size]? = some (.map #[] 0) := (MapKept.heap_alloc w _).1
  have hold : ∀ i, i < σ.next → upd ρ σ.next ⟨⟨w.heap.size, 0, none⟩, 1, 0⟩ i = ρ i := fun i hi => upd_ne _ _ (by omega)
  obtain ⟨h1, h2⟩ := hh.fresh hB (.amap []) ⟨⟨w.heap.size, 0, none⟩, 1, 0⟩ (Nat.le_refl _) (Array.getElem?_eq_some_iff.1 hblk).1 ⟨⟨_, rfl⟩, #[], 0, hblk, ⟨rfl, fun j x hj => by simp at hj⟩, born_empty _⟩
  refine ⟨_, _, .map (some w.heap.size), run_makeMap t w, ?_, h1, h2, by simp [AHeap.next_alloc], hold⟩
  have := VR.map (n := σ.next + 1) (ρ := upd ρ σ.next ⟨⟨w.heap.size, 0, none⟩, 1, 0⟩) σ.next (by omega)
  rw [upd_same] at this
  exact this
theorem update_sound {P : Program} {t : TypeId} {x k u v : AV} {σ σ' : AHeap} (h : aupdate P t x k u σ = some (v, σ')) {ρ : Nat → RI} {w : World} (hh : HRel ρ σ w) {cx ck cu : Value} (hx : VR σ.next ρ x cx) (hk : VR σ.next ρ k ck) (hu : VR σ.next ρ u cu) :
    v = .tup [] ∧ ∃ w', (Instr.mapUpdate t cx ck cu).run P w = .ok () w' ∧ HRel ρ σ' w' ∧ Fr ρ σ w ρ σ' w' ∧ σ'.next = σ.next := by
  unfold aupdate at h
  split at h
  · rename_i kt e i kk z ht
    cases hx; cases hk
    rename_i hi
    have hut := map_under ht
    split at h
    · rename_i m kk' ho hkt
      split at h
      · rename_i hc
        obtain ⟨rfl, hmk⟩ := hc
        cases h
        refine ⟨rfl, ?_⟩
        have hown : (σ.get i).owned = true := by rw [ho]; rfl
        have hr := hh.row i hi
        rw [ho] at hr
        obtain ⟨hb, es, clock, hblk, ⟨hlen, hrel⟩, hbo⟩ := hr
        have hku := int_under hkt
        have hf := find_sound (z := z) (i := 0) hmk (es := es.toList) (by simpa using hlen) (fun j x hj => by
          obtain ⟨e, h1, h2⟩ := hrel j x hj
          exact ⟨e, by simpa using h1, h2⟩)
        have hck : (Instr.checkKey false 10000 kt (.int kk' z)).run P w = .ok () w := MapKept.run_checkKey hku (by simp [MapKept.IsKey]) _ _
        have hg := MapKept.run_getObj_map (P := P) hblk
        cases hm : mfind z m 0 with
        | some p =>
          obtain ⟨j, y⟩ := p
          rw [hm] at hf
          obtain ⟨q, en, hjq, hen, hkey, _, hfn⟩ := hf
          obtain rfl : j = q := by omega
          have hen' : es[j]? = some en := by simpa using hen
          have hfk : (Instr.findKey kt (.int kk' z) es.toList).run P w = .ok (some (j, en.val)) w := MapKept.run_findKey hku hfn
          have hks : (Instr.keyThatStays (((es[j]?).map (·.key)).getD (.int kk' z)) (.int kk' z)).run P w = .ok (.int kk' z) w := by
            rw [hen']; simp [hkey, Instr.keyThatStays, Instr.sameBits]
          have hso := MapKept.run_setObj_map (P := P) (.map (es.modify j fun e => { e with key := .int kk' z, val := cu }) clock) hblk
          obtain ⟨hs1, hs2⟩ := MapKept.heap_set (o' := .map (es.modify j fun e => { e with key := .int kk' z, val := cu }) clock) hblk
          have hmp : mput kk' z u m = m.set j (.int kk' z, u) := by simp [mput, hm]
          rw [hmp]
          obtain ⟨h1, h2⟩ := hh.write (w1 := { w with heap := w.heap.setIfInBounds (ρ i).addr.block (.map (es.modify j fun e => { e with key := .int kk' z, val := cu }) clock) }) hi hown (.amap (m.set j (.int kk' z, u))) rfl rfl rfl rfl (by simp) (fun b hb => hs2 b hb)
            ⟨hb, _, _, hs1, ⟨by simpa using hlen, fun a x ha => by
              rw [List.getElem?_set] at ha
              have hsz : j < es.size := (Array.getElem?_eq_some_iff.1 hen').1
              by_cases hja : j = a
              · subst hja
                rw [if_pos rfl, if_pos (by omega)] at ha
                cases ha
                exact ⟨{ en with key := .int kk' z, val := cu }, by simp [Array.getElem?_modify, hen'], .int _ _, hu⟩
              · rw [if_neg hja] at ha
                obtain ⟨e', g1, g2⟩ := hrel a x ha
                exact ⟨e', by simp [Array.getElem?_modify, hja, g1], g2⟩⟩, born_modify hbo _ _ (fun _ => rfl)⟩
          refine ⟨_, ?_, h1, h2, rfl⟩
          simp [Instr.mapUpdate, run_underlying hut, hg, hck, hfk, hks, hso]
        | none =>
          rw [hm] at hf
          have hfk : (Instr.findKey kt (.int kk' z) es.toList).run P w = .ok none w := MapKept.run_findKey hku hf
          have hso := MapKept.run_setObj_map (P := P) (.map (es.push { key := .int kk' z, val := cu, born := clock }) (clock + 1)) hblk
          obtain ⟨hs1, hs2⟩ := MapKept.heap_set (o' := .map (es.push { key := .int kk' z, val := cu, born := clock }) (clock + 1)) hblk
          have hmp : mput kk' z u m = m ++ [(.int kk' z, u)] := by simp [mput, hm]
          rw [hmp]
          obtain ⟨h1, h2⟩ := hh.write (w1 := { w with heap := w.heap.setIfInBounds (ρ i).addr.block (.map (es.push { key := .int kk' z, val := cu, born := clock }) (clock + 1)) }) hi hown (.amap (m ++ [(.int kk' z, u)])) rfl rfl rfl rfl (by simp) (fun b hb => hs2 b hb)
            ⟨hb, _, _, hs1, ⟨by simp [hlen], fun a x ha => by
              by_cases hal : a < m.length
              · rw [List.getElem?_append_left hal] at ha
                obtain ⟨e', g1, g2⟩ := hrel a x ha
                exact ⟨e', by rw [Array.getElem?_push]; rw [if_neg (by omega)]; exact g1, g2⟩
              · have hae : a = m.length := by
                  have := (List.getElem?_eq_some_iff.1 ha).1; simp at this; omega
                subst hae
                rw [List.getElem?_append_right (Nat.le_refl _)] at ha
                simp at ha; subst ha
                exact ⟨_, by rw [Array.getElem?_push, if_pos hlen], .int _ _, hu⟩⟩, born_push hbo rfl⟩
          refine ⟨_, ?_, h1, h2, rfl⟩
          simp [Instr.mapUpdate, run_underlying hut, hg, hck, hfk, hso]
      · cases h
    · cases h
  · cases h
theorem delete_sound {P : Program} {t kt0 ty : TypeId} {x k v : AV} {σ σ' : AHeap} (h : adelete P t x k σ = some (v, σ')) {ρ : Nat → RI} {w : World} (hh : HRel ρ σ w) {cx ck : Value} (hx : VR σ.next ρ x cx) (hk : VR σ.next ρ k ck) :
    v = .tup [] ∧ ∃ w', (Builtin.delete_ #[t, kt0] ty #[cx, ck]).run P w = .ok (.tuple #[]) w' ∧ HRel ρ σ' w' ∧ Fr ρ σ w ρ σ' w' ∧ σ'.next = σ.next := by
  unfold adelete at h
  split at h
  · rename_i kt e i kk z ht
    cases hx; cases hk
    rename_i hi
    have hut := map_under ht
    split at h
    · rename_i m kk' ho hkt
      split at h
      · rename_i hc
        obtain ⟨rfl, hmk⟩ := hc
        cases h
        refine ⟨rfl, ?_⟩
        have hown : (σ.get i).owned = true := by rw [ho]; rfl
        have hr := hh.row i hi
        rw [ho] at hr
        obtain ⟨hb, es, clock, hblk, ⟨hlen, hrel⟩, hbo⟩ := hr
        have hku := int_under hkt
        have hf := find_sound (z := z) (i := 0) hmk (es := es.toList) (by simpa using hlen) (fun j x hj => by
          obtain ⟨e, h1, h2⟩ := hrel j x hj
          exact ⟨e, by simpa using h1, h2⟩)
        have hck : (Instr.checkKey es.isEmpty 10000 kt (.int kk' z)).run P w = .ok () w := MapKept.run_checkKey hku (by simp [MapKept.IsKey]) _ _
        have hg := MapKept.run_getObj_map (P := P) hblk
        cases hm : mfind z m 0 with
        | some p =>
          obtain ⟨j, y⟩ := p
          rw [hm] at hf
          obtain ⟨q, en, hjq, hen, hkey, _, hfn⟩ := hf
          obtain rfl : j = q := by omega
          have hen' : es[j]? = some en := by simpa using hen
          have hsz : j < es.size := (Array.getElem?_eq_some_iff.1 hen').1
          have hfk : (Instr.findKey kt (.int kk' z) es.toList).run P w = .ok (some (j, en.val)) w := MapKept.run_findKey hku hfn
          have hso := MapKept.run_setObj_map (P := P) (.map (es.eraseIdxIfInBounds j) clock) hblk
          obtain ⟨hs1, hs2⟩ := MapKept.heap_set (o' := .map (es.eraseIdxIfInBounds j) clock) hblk
          have hmp : mdel z m = m.eraseIdx j := by simp [mdel, hm]
          rw [hmp]
          have hes : es.eraseIdxIfInBounds j = (es.toList.eraseIdx j).toArray := by
            unfold Array.eraseIdxIfInBounds
            rw [dif_pos hsz]
            apply Array.ext'
            simp
          obtain ⟨h1, h2⟩ := hh.write (w1 := { w with heap := w.heap.setIfInBounds (ρ i).addr.block (.map (es.eraseIdxIfInBounds j) clock) }) hi hown (.amap (m.eraseIdx j)) rfl rfl rfl rfl (by simp) (fun b hb => hs2 b hb)
            ⟨hb, _, _, hs1, ⟨by rw [hes]; simp [List.length_eraseIdx, hlen], fun a x ha => by
              rw [hes]
              rw [List.getElem?_eraseIdx] at ha
              simp only [List.getElem?_toArray]
              rw [List.getElem?_eraseIdx]
              split at ha
              · rename_i hlt
                rw [if_pos hlt]
                obtain ⟨e', g1, g2⟩ := hrel a x ha
                exact ⟨e', by simpa using g1, g2⟩
              · rename_i hlt
                rw [if_neg hlt]
                obtain ⟨e', g1, g2⟩ := hrel (a + 1) x ha
                exact ⟨e', by simpa using g1, g2⟩⟩, by rw [hes]; exact born_erase hbo j⟩
          refine ⟨_, ?_, h1, h2, rfl⟩
          simp [Builtin.delete_, run_underlying hut, hg, hck, hfk, hso]
        | none =>
          rw [hm] at hf
          have hfk : (Instr.findKey kt (.int kk' z) es.toList).run P w = .ok none w := MapKept.run_findKey hku hf
          have hso := MapKept.run_setObj_map (P := P) (.map es clock) hblk
          obtain ⟨hs1, hs2⟩ := MapKept.heap_set (o' := .map es clock) hblk
          have hmp : mdel z m = m := by simp [mdel, hm]
          rw [hmp]
          obtain ⟨h1, h2⟩ := hh.write (w1 := { w with heap := w.heap.setIfInBounds (ρ i).addr.block (.map es clock) }) hi hown (.amap m) rfl rfl rfl rfl (by simp) (fun b hb => hs2 b hb)
            ⟨hb, _, _, hs1, ⟨hlen, fun a x ha => hrel a x ha⟩, hbo⟩
          refine ⟨_, ?_, h1, h2, rfl⟩
          simp [Builtin.delete_, run_underlying hut, hg, hck, hfk, hso]
      · cases h
    · cases h
  · cases h
end Go.Proofs.Yteeakkakkjhgoaa.A
