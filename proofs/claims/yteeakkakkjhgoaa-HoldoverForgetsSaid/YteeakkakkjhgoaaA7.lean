/- append; and all operations that make or write memory in one function. Conditions: none. -/
import Derived.Test.YteeakkakkjhgoaaA6
set_option linter.unusedVariables false
set_option linter.unusedSimpArgs false
namespace Go.Proofs.Yteeakkakkjhgoaa.A
open Go Go.RowKit

def aappend (P : Program) (t : TypeId) (d x : AV) (σ : AHeap) : Option (AV × AHeap) :=
  match tk P t with
  | .slice e =>
    match sz P e, byt P e, zeroOf P e with
    | some (s + 1), some by_, some z =>
      match asrc σ (s + 1) x with
      | some (m, l) =>
        if z.length = s + 1 then
        match d with
        | .nils => if m = 0 then some (.nils, σ) else if m * by_ ≤ 140737488355328 ∧ m ≤ 140737488355328 then some (.slice σ.next 0 m, σ.alloc (.own (s + 1) l)) else none
        | .slice0 => if m = 0 then some (.slice0, σ) else if m * by_ ≤ 140737488355328 ∧ m ≤ 140737488355328 then some (.slice σ.next 0 m, σ.alloc (.own (s + 1) l)) else none
        | .slice i 0 n =>
          match σ.get i with
          | .own q cs => if q = s + 1 ∧ n * (s + 1) ≤ cs.length ∧ (n + m) * by_ ≤ 140737488355328 ∧ n + m ≤ 140737488355328 then some (.slice σ.next 0 (n + m), (σ.set i .dead).alloc (.own (s + 1) (cs.take (n * (s + 1)) ++ l))) else none
          | _ => none
        | _ => none
        else none
      | none => none
    | _, _, _ => none
  | _ => none

theorem run_append_empty {P : Program} (w : World) (t ty e : TypeId) (i : TypeInfo) (ht : P.underlying t = some (.slice e)) (hi : P.info? e = some i) (b : Option Addr) (n c : Nat) (hnc : n ≤ c) (x : Value) (hx : x = .slice none 0 0 ∨ ∃ ad c', x = .slice (some ad) 0 c') :
    (Builtin.append_ #[t, t] ty #[.slice b n c, x]).run P w = .ok (.slice b n c) w := by
  have hz : (Builtin.lenOf x).run P w = .ok 0 w ∧ (Builtin.firstCells i.size 0 x).run P w = .ok #[] w := by
    rcases hx with rfl | ⟨ad, c', rfl⟩
    · simp [Builtin.lenOf, Builtin.firstCells]
    · simp [Builtin.lenOf, Builtin.firstCells, loadCells, loadCellsFrom]
  cases b with
  | none => simp [Builtin.append_, run_underlying ht, sizeOf, typeInfo, hi, hz.1, hnc, hz.2]
  | some a => simp [Builtin.append_, run_underlying ht, sizeOf, typeInfo, hi, hz.1, hnc, hz.2, storeCells]

theorem EffOk.pre {ρ : Nat → RI} {σ σ1 σ' : AHeap} {w : World} {v : AV} {run : Result Next} (hf : Fr ρ σ w ρ σ1 w) (hn : σ1.next = σ.next) (h : EffOk ρ σ1 w v σ' run) : EffOk ρ σ w v σ' run := by
  obtain ⟨r, w', ρ', cv, h1, h2, h3, h4, h5, h6, h7⟩ := h
  exact ⟨r, w', ρ', cv, h1, h2, h3, h4, hf.trans h5, by omega, fun i hi => h7 i (by omega)⟩

theorem take_get {α : Type} {l : List α} {k j : Nat} {c : α} (h : (l.take k)[j]? = some c) : l[j]? = some c ∧ j < k := by
  rw [List.getElem?_take] at h
  split at h
  · exact ⟨h, by assumption⟩
  · cases h

/-- The row of the call's own under a new number, its cells those that are known to lie there now. -/
theorem EffOk.moved {ρ : Nat → RI} {σ : AHeap} {w w1 : World} (hh : HRel ρ σ w) {i : Nat} (hi : i < σ.next) {s : Nat} {cs : List AV} (ho : σ.get i = .own s cs) (cells : List AV)
    (hos : w1.os = w.os) (htape : w1.tape = w.tape) (hout : w1.output = w.output) (hsize : w1.heap.size = w.heap.size) (hother : ∀ b, b ≠ (ρ i).addr.block → w1.heap[b]? = w.heap[b]?)
    (hrow : ORel σ.next ρ (ρ i) (.own s cells) w1) (n : Nat) (cv : Value) (hv : VR (σ.next + 1) (upd ρ σ.next (ρ i)) (.slice σ.next 0 n) cv) (run : Result Next) (hrun : run = .ok (.value cv) w1) :
    EffOk ρ σ w (.slice σ.next 0 n) ((σ.set i .dead).alloc (.own s cells)) run := by
  have hown : (σ.get i).owned = true := by rw [ho]; rfl
  obtain ⟨h1, h2⟩ := hh.write hi hown (.own s cells) rfl hos htape hout hsize hother hrow
  have hg : (σ.set i (.own s cells)).get i = .own s cells := by rw [AHeap.get_set, if_pos rfl]
  obtain ⟨h3, h4⟩ := h1.mv (i := i) hi (by rw [hg]; rfl)
  have he : ((σ.set i (.own s cells)).set i .dead).alloc ((σ.set i (.own s cells)).get i) = (σ.set i .dead).alloc (.own s cells) := by
    rw [hg]
    unfold AHeap.alloc AHeap.set
    congr 1
    funext j
    simp only [upd]
    split
    · rfl
    · split <;> rfl
  rw [he] at h3 h4
  exact ⟨_, w1, _, _, hrun, .inl rfl, hv, h3, h2.trans h4, by simp [AHeap.next_alloc, AHeap.next_set], fun j hj => upd_ne _ _ (by omega)⟩

theorem run_append_room2 {P : Program} (w : World) (t ty e t2 : TypeId) (i : TypeInfo) (ht : P.underlying t = some (.slice e)) (hi : P.info? e = some i)
    (g sLen sCap : Nat) (cur : Array Value) (hg : w.heap[g]? = some (.cells cur t2 (0, 0)))
    (a : Addr) (m c : Nat) (news : List Value) (hl : news.length = m * i.size) (hnews : ∀ j u, news[j]? = some u → w.cell? (a.add j) = some u) (h1 : ∀ u ∈ news, u.oneCell' = true)
    (hroom : sLen + m ≤ sCap) (hfit : sLen * i.size + news.length ≤ cur.size) :
    (Builtin.append_ #[t, t] ty #[.slice (some ⟨g, 0, none⟩) sLen sCap, .slice (some a) m c]).run P w =
      .ok (.slice (some ⟨g, 0, none⟩) (sLen + m) sCap) (w.setRow g (cur.toList.take (sLen * i.size) ++ news ++ cur.toList.drop (sLen * i.size + news.length)).toArray) := by
  have hf := run_firstCells_some (P := P) w i.size m a m c news hl hnews
  have hst := run_storeCells_at P g (sLen * i.size) t2 news 0 cur w hg (by simpa using hfit) h1
  simp only [Nat.add_zero] at hst
  simp [Builtin.append_, run_underlying ht, sizeOf, typeInfo, hi, Builtin.lenOf, hroom, hf, Addr.add_lit, hst]

theorem append_sound {P : Program} {t ty : TypeId} {d x v : AV} {σ σ' : AHeap} (h : aappend P t d x σ = some (v, σ')) {ρ : Nat → RI} {w : World} (hh : HRel ρ σ w) {cd cx : Value} (hd : VR σ.next ρ d cd) (hx : VR σ.next ρ x cx) :
    EffOk ρ σ w v σ' (((Builtin.append_ #[t, t] ty #[cd, cx]).run P w).andThen fun x w' => .ok (.value x) w') := by
  unfold aappend at h
  split at h
  · rename_i e hk
    have ht := slice_under hk
    split at h
    · rename_i s by_ z hs hby hz
      replace hs : sz P e = some (s + 1) := hs
      obtain ⟨info, hinfo, hsi⟩ := sz_some hs
      have hbi : info.bytes = by_ := by simpa [byt, hinfo] using hby
      obtain ⟨cz, hz1, hz2⟩ := zero_run (P := P) hz σ.next ρ
      have hzi : info.zero = some cz := by
        have q := hz1 w
        simp only [zeroValue, typeInfo, Sem.run_bind, run_program, Result.andThen_ok, hinfo, Sem.run_pure] at q
        cases hzz : info.zero with
        | none => rw [hzz] at q; cases q
        | some u => rw [hzz] at q; cases q; rfl
      split at h
      · rename_i m l hsrc
        split at h
        · rename_i hzl
          have hczs : cz.cells.size = s + 1 := by have := hz2.length; rw [hzl] at this; simpa using this.symm
          obtain ⟨vs, hvs, hll, hsc, hcx⟩ := asrc_sound (P := P) hh hsrc hx
          have hvl : vs.length = m * info.size := by rw [hsi, ← hll, hvs.length]
          have hempty : m = 0 → (cx = .slice none 0 0 ∨ ∃ ad c', cx = .slice (some ad) 0 c') := fun hm => by
            subst hm
            rcases hcx with ⟨_, h0⟩ | ⟨ad, c, h0, _⟩
            · exact .inl h0
            · exact .inr ⟨ad, c, h0⟩
          have hsome : m ≠ 0 → ∃ ad c, cx = .slice (some ad) m c ∧ ∀ j v, vs[j]? = some v → w.cell? (ad.add j) = some v := fun hm => by
            rcases hcx with ⟨h0, _⟩ | h0
            · exact absurd h0 hm
            · exact h0
          have hzc : ∀ k, (Builtin.zeroCells cz.cells k).size = k * (s + 1) := fun k => by rw [size_zeroCells, hczs]
          have hB : ∀ o : Obj, Below w.heap.size w (w.drew.alloc o) := fun o => ((Below.refl w.heap.size w).drew).alloc (Nat.le_refl _) o
          split at h
          · cases hd
            split at h
            · rename_i hm
              cases h
              rw [run_append_empty w t ty e info ht hinfo none 0 0 (Nat.le_refl _) cx (hempty hm)]
              exact ⟨_, w, ρ, _, rfl, .inl rfl, .nils, hh, Fr.refl _ _ _, Nat.le_refl _, fun _ _ => rfl⟩
            · rename_i hm
              split at h
              · rename_i hb
                cases h
                obtain ⟨ad, c, rfl, hcell⟩ := hsome hm
                rw [run_append_nil (P := P) w t ty e info cz ht hinfo hzi ad m c vs hvl hcell (by omega) (by omega) (by rw [hbi]; omega)]
                have hge := grownCap_ge w m 0 e
                refine EffOk.new hh (hB _) _ e (heap_alloc_new w.drew _) (s + 1) (by omega) l (fun j c hj => ?_) _ _ _ rfl (newSlice _ _ _ _ _ _ _ hge ?_)
                · obtain ⟨u, hu, hr⟩ := hvs.get j c hj
                  refine ⟨u, ?_, hr⟩
                  rw [Array.getElem?_append, if_pos (by simpa using (List.getElem?_eq_some_iff.1 hu).1)]
                  simpa using hu
                · simp only [Array.size_append, List.size_toArray, hzc, hvl, hsi]
                  rw [← Nat.add_mul]
                  exact Nat.mul_le_mul_right _ (by omega)
              · cases h
          · cases hd
            rename_i bx
            split at h
            · rename_i hm
              cases h
              rw [run_append_empty w t ty e info ht hinfo (some bx) 0 0 (Nat.le_refl _) cx (hempty hm)]
              exact ⟨_, w, ρ, _, rfl, .inl rfl, .slice0 _, hh, Fr.refl _ _ _, Nat.le_refl _, fun _ _ => rfl⟩
            · rename_i hm
              split at h
              · rename_i hb
                cases h
                obtain ⟨ad, c, rfl, hcell⟩ := hsome hm
                have hrun := run_append_grow (P := P) w t ty e info cz ht hinfo hzi bx 0 0 [] (by simp) (fun j v hj => by simp at hj) ad m c vs hvl hcell (by omega) (by simp only [Nat.zero_add]; omega) (growslice_fits (by omega) (by rw [hbi]; simp only [Nat.zero_add]; omega))
                rw [hrun]
                have hge := grownCap_ge w (0 + m) 0 e
                simp only [Nat.zero_add, Array.empty_append] at hge ⊢
                refine EffOk.new hh (hB _) _ e (heap_alloc_new w.drew _) (s + 1) (by omega) l (fun j c hj => ?_) _ _ _ rfl (newSlice _ _ _ _ _ _ _ hge ?_)
                · obtain ⟨u, hu, hr⟩ := hvs.get j c hj
                  refine ⟨u, ?_, hr⟩
                  rw [Array.getElem?_append, if_pos (by simpa using (List.getElem?_eq_some_iff.1 hu).1)]
                  simpa using hu
                · simp only [Array.size_append, List.size_toArray, hzc, hvl, hsi]
                  have e0 : (#[] : Array Value).size = 0 := rfl
                  rw [← Nat.add_mul]
                  exact Nat.mul_le_mul_right _ (by omega)
              · cases h
          · rename_i i n
            cases hd
            rename_i c ad hi hx' hl
            split at h
            · rename_i q cs ho
              split at h
              · rename_i hc
                obtain ⟨rfl, hnl, hb, hnm⟩ := hc
                cases h
                have hrow := hh.row i hi
                rw [ho] at hrow
                obtain ⟨hsz, hpos, ⟨b, hba⟩, cc, ty2, hblk, hext, hcells⟩ := hrow
                have hcl : cs.length ≤ cc.size := by
                  rcases Nat.lt_or_ge cc.size cs.length with hlt | hge
                  · obtain ⟨u, hu, _⟩ := hcells cc.size cs[cc.size] (by simp)
                    simp at hu
                  · exact hge
                have hn0 : n * (s + 1) = 0 ∨ 0 < n := by
                  rcases Nat.eq_zero_or_pos n with h0 | h0
                  · left; rw [h0]; simp
                  · exact .inr h0
                by_cases hm : m = 0
                · rw [run_append_empty w t ty e info ht hinfo (some ad) n c hl cx (hempty hm)]
                  have hl0 : l = [] := List.eq_nil_of_length_eq_zero (by rw [hll, hm]; simp)
                  subst hl0
                  refine EffOk.moved hh hi ho _ rfl rfl rfl rfl (fun _ _ => rfl) ⟨hsz, hpos, ⟨b, hba⟩, cc, ty2, hblk, hext, fun j c hj => ?_⟩ (n + m) (.slice (some ad) n c) ?_ _ rfl
                  · rw [List.append_nil] at hj
                    exact hcells j c (take_get hj).1
                  · rw [hm]
                    refine .slice _ _ _ _ _ (by omega) hl ?_
                    rw [upd_same]
                    exact hx'
                · obtain ⟨sd, c2, rfl, hcell⟩ := hsome hm
                  have hnews : ∀ u ∈ vs, u.oneCell' = true := hvs.one_all hsc
                  by_cases hroom : n + m ≤ c
                  · have hc0 : c ≠ 0 := by omega
                    obtain ⟨rfl, hxt⟩ : ad = (ρ i).addr.add 0 ∧ _ := by
                      rcases hx' with h0 | h0
                      · exact absurd h0 hc0
                      · exact h0
                    have hext' := hxt (by omega)
                    rw [hba] at hblk
                    have hfit : n * info.size + vs.length ≤ cc.size := by
                      rw [hvl, hsi, ← Nat.add_mul, hext]
                      have : (n + m) * (s + 1) ≤ c * (s + 1) := Nat.mul_le_mul_right _ hroom
                      rw [← hsz] at hext'
                      omega
                    have hrun := run_append_room2 (P := P) w t ty e ty2 info ht hinfo b n c cc hblk sd m c2 vs hvl hcell hnews hroom hfit
                    have had : (ρ i).addr.add 0 = ⟨b, 0, none⟩ := by rw [hba]; rfl
                    rw [had, hrun]
                    have hblk2 := setRow_heap w b cc ((cc.toList.take (n * info.size) ++ vs ++ cc.toList.drop (n * info.size + vs.length)).toArray) ty2 (0, 0) hblk
                    refine EffOk.moved hh hi ho _ (w1 := w.setRow b ((cc.toList.take (n * info.size) ++ vs ++ cc.toList.drop (n * info.size + vs.length)).toArray)) rfl rfl rfl (by simp) (fun k hk => setRow_other w b k _ (by rw [hba] at hk; exact hk)) ⟨hsz, hpos, ⟨b, hba⟩, _, ty2, by rw [hba]; exact hblk2, ?_, fun j c hj => ?_⟩ (n + m) _ ?_ _ rfl
                    · have := hvs.length
                      simp only [List.size_toArray, List.length_append, List.length_take, List.length_drop, Array.length_toList]
                      omega
                    · have hlt : (cs.take (n * (s + 1))).length = n * (s + 1) := by simp; omega
                      by_cases hj2 : j < n * (s + 1)
                      · rw [List.getElem?_append_left (by omega)] at hj
                        obtain ⟨u, hu, hr⟩ := hcells j c (take_get hj).1
                        refine ⟨u, ?_, hr⟩
                        rw [hsi]
                        simp only [List.getElem?_toArray, List.append_assoc]
                        rw [List.getElem?_append_left (by simp; omega), List.getElem?_take, if_pos hj2]
                        simpa using hu
                      · rw [List.getElem?_append_right (by omega), hlt] at hj
                        obtain ⟨u, hu, hr⟩ := hvs.get _ _ hj
                        refine ⟨u, ?_, hr⟩
                        rw [hsi]
                        have hlt3 : (cc.toList.take (n * (s + 1))).length = n * (s + 1) := by simp; omega
                        simp only [List.getElem?_toArray, List.append_assoc]
                        rw [List.getElem?_append_right (by omega), hlt3, List.getElem?_append_left (List.getElem?_eq_some_iff.1 hu).1]
                        exact hu
                    · refine .slice _ _ _ _ _ (by omega) hroom (.inr ?_)
                      rw [upd_same, hba]
                      refine ⟨rfl, fun hz => ?_⟩
                      omega
                  · have holds : ∃ olds : List Value, VRs σ.next ρ (cs.take (n * (s + 1))) olds ∧ ∀ j v, olds[j]? = some v → w.cell? (ad.add j) = some v := by
                      have hcs : σ.cells i = some cs := by unfold AHeap.cells; rw [ho]
                      obtain ⟨vs2, hl2, hr2, hc2⟩ := hh.cellsAt hi hcs 0 (n * (s + 1)) (by omega)
                      refine ⟨vs2, by simpa using hr2, fun j v hj => ?_⟩
                      have hjlt : j < n * (s + 1) := by rw [← hl2]; exact (List.getElem?_eq_some_iff.1 hj).1
                      rcases hx' with h0 | ⟨rfl, _⟩
                      · have hn00 : n = 0 := by omega
                        rw [hn00] at hjlt; omega
                      · rw [add_add]; exact hc2 j v hj
                    obtain ⟨olds, hor, hoc⟩ := holds
                    have hol : olds.length = n * info.size := by rw [← hor.length, hsi]; simp; omega
                    have hrun := run_append_grow (P := P) w t ty e info cz ht hinfo hzi ad n c olds hol hoc sd m c2 vs hvl hcell (by omega) (by omega) (growslice_fits (by omega) (by rw [hbi]; omega))
                    rw [hrun]
                    have hge := grownCap_ge w (n + m) c e
                    obtain ⟨hk1, hk2⟩ := hh.kill i
                    refine EffOk.pre hk2 rfl ?_
                    refine EffOk.new hk1 (hB _) _ e (heap_alloc_new w.drew _) (s + 1) (by omega) _ (fun j c hj => ?_) _ _ _ rfl (newSlice _ _ _ _ _ _ _ hge ?_)
                    · have hall := hor.append hvs
                      obtain ⟨u, hu, hr⟩ := hall.get j c hj
                      refine ⟨u, ?_, hr⟩
                      have hlt : j < (olds ++ vs).length := (List.getElem?_eq_some_iff.1 hu).1
                      rw [Array.getElem?_append, if_pos (by simpa using hlt)]
                      simpa using hu
                    · simp only [Array.size_append, List.size_toArray, hzc, hvl, hol, hsi]
                      rw [← Nat.add_mul, ← Nat.add_mul]
                      exact Nat.mul_le_mul_right _ (by omega)
              · cases h
            · cases h
          · cases h
        · cases h
      · cases h
    · cases h
  · cases h

end Go.Proofs.Yteeakkakkjhgoaa.A
