/- Operations that make or write memory: box, literals, make, store, append, copy. Conditions: none. -/
import Derived.Test.YteeakkakkjhgoaaA5
set_option linter.unusedVariables false
set_option linter.unusedSimpArgs false
namespace Go.Proofs.Yteeakkakkjhgoaa.A
open Go Go.RowKit

theorem newPtr (n : Nat) (ρ : Nat → RI) (b s x : Nat) : VR (n + 1) (upd ρ n ⟨⟨b, 0, none⟩, s, x⟩) (.ptr n 0) (.pointer (some ⟨b, 0, none⟩)) := by
  have := VR.ptr (n := n + 1) (ρ := upd ρ n ⟨⟨b, 0, none⟩, s, x⟩) n 0 (by omega)
  rw [upd_same] at this
  exact this
theorem newSlice (n : Nat) (ρ : Nat → RI) (b s x len c : Nat) (hl : len ≤ c) (hc : c * s ≤ x) : VR (n + 1) (upd ρ n ⟨⟨b, 0, none⟩, s, x⟩) (.slice n 0 len) (.slice (some ⟨b, 0, none⟩) len c) := by
  refine .slice _ _ _ _ _ (by omega) hl (.inr ?_)
  rw [upd_same]
  exact ⟨rfl, fun _ => by simp only []; omega⟩

def abox (v : AV) (σ : AHeap) : Option (AV × AHeap) :=
  match v.cellsA with
  | some (c :: cs) => some (.ptr σ.next 0, σ.alloc (.own (cs.length + 1) (c :: cs)))
  | _ => none
theorem box_sound {P : Program} {e : TypeId} {x v : AV} {σ σ' : AHeap} (h : abox x σ = some (v, σ')) {ρ : Nat → RI} {w : World} (hh : HRel ρ σ w) {cx : Value} (hx : VR σ.next ρ x cx) :
    EffOk ρ σ w v σ' (((Instr.box e cx).run P w).andThen fun x w' => .ok (.value x) w') := by
  unfold abox at h
  split at h
  · rename_i c cs hc
    cases h
    have hvs := cellsA_sound hc hx
    refine EffOk.new hh (w1 := w.alloc (.cells cx.cells e)) ((Below.refl _ _).alloc (Nat.le_refl _) _) cx.cells e (heap_alloc_new w _) (cs.length + 1) (by omega) _ (fun j c hj => by simpa using hvs.get j c hj) _ (.pointer (some ⟨w.heap.size, 0, none⟩)) _ ?_ (newPtr _ _ _ _ _)
    simp [Instr.box, newVar, newRow]
  · cases h

def abuildSlice (P : Program) (t : TypeId) (len : Nat) (parts : List (Nat × AV)) (σ : AHeap) : Option (AV × AHeap) :=
  match tk P t with
  | .slice e =>
    match sz P e, zeroOf P e with
    | some (s + 1), some z =>
      if z.length = s + 1 ∧ len * (s + 1) ≤ 16777216 then
        match afill (fun i => some (i * (s + 1), s + 1)) (List.replicate len z).flatten parts with
        | some cs => if len = 0 then some (.slice0, σ) else some (.slice σ.next 0 len, σ.alloc (.own (s + 1) cs))
        | none => none
      else none
    | _, _ => none
  | _ => none
theorem slice_under {P : Program} {t e : TypeId} (hk : tk P t = .slice e) : P.underlying t = some (.slice e) := by
  obtain ⟨dd, hd, he⟩ := tk_under (P := P) (t := t) (by rw [hk]; rfl)
  rw [hk] at he
  cases dd <;> simp only [tkOf] at he <;> first | (cases he; done) | skip
  cases he; exact hd
theorem flatten_replicate_get {α : Type} [Inhabited α] (z : Array α) (s : Nat) (hz : z.size = s + 1) (len : Nat) : ((Array.range (len * (s + 1))).map (fun i => z[i % z.size]!)).toList = (List.replicate len z.toList).flatten := by
  induction len with
  | zero => simp
  | succ len ih =>
    rw [List.replicate_succ', List.flatten_append, ← ih]
    simp only [List.flatten_cons, List.flatten_nil, List.append_nil]
    apply List.ext_getElem?
    intro j
    simp only [Array.toList_map, Array.toList_range, List.getElem?_map]
    by_cases hj : j < len * (s + 1)
    · rw [List.getElem?_append_left (by simpa using hj)]
      simp [hj, show j < (len + 1) * (s + 1) by rw [Nat.add_mul]; omega]
    · rw [List.getElem?_append_right (by simp; omega)]
      simp only [List.length_map, List.length_range]
      by_cases hj2 : j - len * (s + 1) < s + 1
      · have hlt : j < (len + 1) * (s + 1) := by rw [Nat.add_mul]; omega
        have hm : j % z.size = j - len * (s + 1) := by
          rw [hz]
          have : j = (j - len * (s + 1)) + (s + 1) * len := by rw [Nat.mul_comm (s + 1) len]; omega
          rw [this, Nat.add_mul_mod_self_left, Nat.mod_eq_of_lt hj2]
          omega
        simp only [List.getElem?_range hlt, Option.map_some, hm]
        have hlt2 : j - len * (s + 1) < z.size := by omega
        rw [Array.getElem?_toList, Array.getElem?_eq_getElem hlt2, getElem!_pos z _ hlt2]
      · have hge : ¬ j < (len + 1) * (s + 1) := by rw [Nat.add_mul]; omega
        rw [List.getElem?_eq_none (by simp; omega), List.getElem?_eq_none (by simp; omega)]
        rfl
theorem VRs.replicate {n : Nat} {ρ : Nat → RI} {l : List AV} {vs : List Value} (h : VRs n ρ l vs) : ∀ k, VRs n ρ (List.replicate k l).flatten (List.replicate k vs).flatten
  | 0 => .nil
  | k + 1 => by
    rw [List.replicate_succ, List.replicate_succ, List.flatten_cons, List.flatten_cons]
    exact h.append (VRs.replicate h k)
theorem buildSlice_sound {P : Program} {t : TypeId} {len : Nat} {ps : List (Nat × AV)} {v : AV} {σ σ' : AHeap} (h : abuildSlice P t len ps σ = some (v, σ')) {ρ : Nat → RI} {w : World} (hh : HRel ρ σ w) {cps : Array (Nat × Value)} (hp : VP σ.next ρ ps cps.toList) :
    EffOk ρ σ w v σ' (((Instr.buildSlice t len cps).run P w).andThen fun x w' => .ok (.value x) w') := by
  unfold abuildSlice at h
  split at h
  · rename_i e hk
    have hd := slice_under hk
    split at h
    · rename_i s z hs hz
      replace hs : sz P e = some (s + 1) := hs
      split at h
      · rename_i hc
        obtain ⟨hzl, hlim⟩ := hc
        obtain ⟨cz, hz1, hz2⟩ := zero_run (P := P) hz σ.next ρ
        have hczs : cz.cells.size = s + 1 := by have := hz2.length; rw [hzl] at this; simpa using this.symm
        split at h
        · rename_i cs hcs
          have hrep := hz2.replicate len
          rw [← flatten_replicate_get cz.cells s hczs len] at hrep
          obtain ⟨cr, h1, h2⟩ := fill_sound hcs hp hrep
          have hrun : (Instr.buildSlice t len cps).run P w = .ok (.slice (some ⟨w.heap.size, 0, none⟩) len len) (w.alloc (.cells cr e)) := by
            simp only [Instr.buildSlice, Sem.run_bind, run_underlying hd, Result.andThen_ok, run_sz hs, Sem.run_ite, Sem.run_pure]
            rw [if_neg (by omega)]
            by_cases h0 : len * (s + 1) = 0
            · rw [if_pos h0]
              have e1 : (Array.range (len * (s + 1))).map (fun i => (#[] : Array Value)[i % (#[] : Array Value).size]!) = (Array.range (len * (s + 1))).map (fun i => cz.cells[i % cz.cells.size]!) := by rw [h0]; simp
              rw [e1, h1]
              simp [newRow]
            · rw [if_neg h0]
              simp only [hz1, Result.andThen_ok, h1]
              simp [newRow]
          rw [hrun]
          split at h
          · rename_i h0
            cases h
            subst h0
            have hB : Below w.heap.size w (w.alloc (.cells cr e)) := (Below.refl _ _).alloc (Nat.le_refl _) _
            exact ⟨_, _, ρ, _, rfl, .inl rfl, .slice0 _, hh.below hB, Fr.below hB, Nat.le_refl _, fun _ _ => rfl⟩
          · rename_i h0
            cases h
            have hcr : cr.size = len * (s + 1) := by
              have q1 : ∀ (pl : Nat → Option (Nat × Nat)) (ps : List (Nat × Value)) (a b : Array Value), Instr.fill pl a ps = some b → b.size = a.size := by
                intro pl ps
                induction ps with
                | nil => intro a b hab; simp only [Instr.fill] at hab; cases hab; rfl
                | cons p ps ih =>
                  intro a b hab
                  obtain ⟨i, v⟩ := p
                  simp only [Instr.fill] at hab
                  split at hab
                  · cases hab
                  · split at hab
                    · cases hab
                    · rw [ih _ _ hab]
                      have q2 : ∀ (l : List (Value × Nat)) (o : Nat) (a : Array Value), (l.foldl (fun cs (p : Value × Nat) => cs.setIfInBounds (o + p.2) p.1) a).size = a.size := by
                        intro l o
                        induction l with
                        | nil => intro a; rfl
                        | cons x l ih2 => intro a; simp only [List.foldl_cons]; rw [ih2]; simp
                      rw [← Array.foldl_toList]
                      exact q2 _ _ _
              rw [q1 _ _ _ _ h1]; simp
            refine EffOk.new hh ((Below.refl _ _).alloc (Nat.le_refl _) _) cr e (heap_alloc_new w _) (s + 1) (by omega) cs (fun j c hj => by simpa using h2.get j c hj) _ _ _ rfl (newSlice _ _ _ _ _ _ _ (Nat.le_refl _) (by omega))
        · cases h
      · cases h
    · cases h
  · cases h

def amake (P : Program) (t : TypeId) (l c : AV) (σ : AHeap) : Option (AV × AHeap) :=
  match tk P t, l, c with
  | .slice e, .int _ n, .int _ m =>
    match sz P e, byt P e, zeroOf P e with
    | some (s + 1), some by_, some z =>
      if z.length = s + 1 ∧ n = m ∧ 0 ≤ n ∧ n ≤ 281474976710656 ∧ (by_ : Int) * n ≤ 281474976710656 then some (.slice σ.next 0 n.toNat, σ.alloc (.own (s + 1) (List.replicate n.toNat z).flatten)) else none
    | _, _, _ => none
  | _, _, _ => none
theorem make_sound {P : Program} {t : TypeId} {l c v : AV} {σ σ' : AHeap} (h : amake P t l c σ = some (v, σ')) {ρ : Nat → RI} {w : World} (hh : HRel ρ σ w) {cl cc : Value} (hl : VR σ.next ρ l cl) (hc : VR σ.next ρ c cc) :
    EffOk ρ σ w v σ' (((Instr.makeSlice t cl cc).run P w).andThen fun x w' => .ok (.value x) w') := by
  unfold amake at h
  split at h
  · rename_i e k n k' m hk
    have hd := slice_under hk
    cases hl; cases hc
    split at h
    · rename_i s by_ z hs hby hz
      replace hs : sz P e = some (s + 1) := hs
      split at h
      · rename_i hcond
        obtain ⟨hzl, rfl, h0, h48, hb⟩ := hcond
        cases h
        obtain ⟨i, hi, hsi⟩ := sz_some hs
        have hbi : i.bytes = by_ := by simpa [byt, hi] using hby
        obtain ⟨cz, hz1, hz2⟩ := zero_run (P := P) hz σ.next ρ
        have hczs : cz.cells.size = s + 1 := by have := hz2.length; rw [hzl] at this; simpa using this.symm
        have hzi : i.zero = some cz := by
          unfold zeroOf at hz
          have q := hz1 w
          simp only [zeroValue, typeInfo, Sem.run_bind, run_program, Result.andThen_ok, hi, Sem.run_pure] at q
          cases hzz : i.zero with
          | none => rw [hzz] at q; cases q
          | some u => rw [hzz] at q; cases q; rfl
        have hr := run_make (P := P) w t e i cz hd hi hzi k k' n n h0 (Int.le_refl _) (by rw [hbi]; exact hb) (by omega)
        rw [hr]
        have hcells : (madeCells cz.cells (n.toNat * i.size)).toList = (List.replicate n.toNat cz.cells.toList).flatten := by
          rw [hsi]
          exact flatten_replicate_get cz.cells s hczs n.toNat
        have hrep := hz2.replicate n.toNat
        rw [← hcells] at hrep
        refine EffOk.new hh ((Below.refl _ _).alloc (Nat.le_refl _) _) (madeCells cz.cells (n.toNat * i.size)) e (heap_alloc_new w _) (s + 1) (by omega) _ (fun j c hj => by simpa using hrep.get j c hj) _ _ _ rfl (newSlice _ _ _ _ _ _ _ (Nat.le_refl _) ?_)
        have : (madeCells cz.cells (n.toNat * i.size)).size = n.toNat * (s + 1) := by rw [hsi]; simp [madeCells]
        omega
      · cases h
    · cases h
  · cases h

/-- Cells laid over others. -/
def splice (cs : List AV) (off : Nat) (vs : List AV) : List AV := cs.take off ++ vs ++ cs.drop (off + vs.length)
def astore (P : Program) (t : TypeId) (a v : AV) (σ : AHeap) : Option (AV × AHeap) :=
  match a with
  | .ptr i off =>
    match σ.get i, v.cellsA with
    | .own s cs, some vs => if sz P t = some vs.length ∧ off + vs.length ≤ cs.length ∧ vs.all AV.sc = true then some (.junk, σ.set i (.own s (splice cs off vs))) else none
    | _, _ => none
  | _ => none

theorem VRs.splice {n : Nat} {ρ : Nat → RI} {cs vs : List AV} {cc cv : List Value} (hc : ∀ (j : Nat) (c : AV), cs[j]? = some c → ∃ u, cc[j]? = some u ∧ VR n ρ c u) (hv : VRs n ρ vs cv) (off : Nat) (hle : off + vs.length ≤ cs.length) (hcc : cs.length ≤ cc.length) :
    ∀ (j : Nat) (c : AV), (A.splice cs off vs)[j]? = some c → ∃ u, (cc.take off ++ cv ++ cc.drop (off + cv.length))[j]? = some u ∧ VR n ρ c u := by
  intro j c hj
  unfold A.splice at hj
  have hl := hv.length
  rw [List.append_assoc] at hj ⊢
  by_cases h1 : j < off
  · rw [List.getElem?_append_left (by simp; omega), List.getElem?_take, if_pos h1] at hj
    rw [List.getElem?_append_left (by simp; omega), List.getElem?_take, if_pos h1]
    exact hc j c hj
  · have e1 : (List.take off cs).length = off := by simp; omega
    have e2 : (List.take off cc).length = off := by simp; omega
    rw [List.getElem?_append_right (by omega), e1] at hj
    rw [List.getElem?_append_right (by omega), e2]
    by_cases h2 : j - off < vs.length
    · rw [List.getElem?_append_left h2] at hj
      rw [List.getElem?_append_left (by omega)]
      exact hv.get _ _ hj
    · rw [List.getElem?_append_right (by omega), List.getElem?_drop] at hj
      rw [List.getElem?_append_right (by omega), List.getElem?_drop]
      obtain ⟨u, hu, hr⟩ := hc _ _ hj
      refine ⟨u, ?_, hr⟩
      rw [← hu]; congr 1; omega

theorem VRs.one_all {n : Nat} {ρ : Nat → RI} {l : List AV} {vs : List Value} (h : VRs n ρ l vs) (hs : l.all AV.sc = true) : ∀ u ∈ vs, u.oneCell' = true := by
  intro u hu
  obtain ⟨j, hj⟩ := List.mem_iff_getElem?.1 hu
  have hlt : j < l.length := by
    rw [h.length]
    exact (List.getElem?_eq_some_iff.1 hj).1
  obtain ⟨y, hy, hr⟩ := h.get j l[j] (by simp)
  rw [hj] at hy; cases hy
  exact hr.one ((List.all_eq_true.1 hs) _ (List.getElem_mem hlt))

theorem add_zero' (b off : Nat) : (⟨b, 0, none⟩ : Addr).add off = ⟨b, off, none⟩ := by unfold Addr.add; split <;> simp_all

/-- Writing into a row of the call's own. -/
theorem row_write {P : Program} {ρ : Nat → RI} {σ : AHeap} {w : World} (hh : HRel ρ σ w) {i : Nat} (hi : i < σ.next) {s : Nat} {cs : List AV} (ho : σ.get i = .own s cs) {vs : List AV} {cv : List Value} (hv : VRs σ.next ρ vs cv) (hsc : vs.all AV.sc = true) (off : Nat)
    (hle : off + vs.length ≤ cs.length) : ∃ w1, (storeCells ((ρ i).addr.add off) cv).run P w = .ok () w1 ∧ HRel ρ (σ.set i (.own s (splice cs off vs))) w1 ∧ Fr ρ σ w ρ (σ.set i (.own s (splice cs off vs))) w1 := by
  have hrow := hh.row i hi
  rw [ho] at hrow
  obtain ⟨h1, h2, ⟨b, hb⟩, cc, t, hblk, hsize, hcells⟩ := hrow
  have hlen : cs.length ≤ cc.size := by
    rcases Nat.lt_or_ge cc.size cs.length with hlt | hge
    · obtain ⟨u, hu, _⟩ := hcells cc.size cs[cc.size] (by simp)
      simp at hu
    · exact hge
  have hone := hv.one_all hsc
  rw [hb] at hblk
  have hst := run_storeCells_at P b off t cv 0 cc w hblk (by have := hv.length; simp only [Nat.add_zero]; omega) hone
  simp only [Nat.add_zero] at hst
  refine ⟨_, by rw [hb, add_zero']; exact hst, ?_⟩
  have hblk' := setRow_heap w b cc ((cc.toList.take off ++ cv ++ cc.toList.drop (off + cv.length)).toArray) t (0, 0) hblk
  refine hh.write hi (by rw [ho]; rfl) _ rfl rfl rfl rfl (by simp) (fun k hk => setRow_other w b k _ (by rw [hb] at hk; exact hk)) ?_
  refine ⟨h1, h2, ⟨b, hb⟩, _, t, by rw [hb]; exact hblk', ?_, fun j c hj => ?_⟩
  · have := hv.length
    simp only [List.size_toArray, List.length_append, List.length_take, List.length_drop, Array.length_toList]
    omega
  · have := VRs.splice (cc := cc.toList) (fun j c hj => by simpa using hcells j c hj) hv off hle (by simpa using hlen) j c hj
    simpa using this

theorem store_sound {P : Program} {t : TypeId} {a x v : AV} {σ σ' : AHeap} (h : astore P t a x σ = some (v, σ')) {ρ : Nat → RI} {w : World} (hh : HRel ρ σ w) {ca cx : Value} (ha : VR σ.next ρ a ca) (hx : VR σ.next ρ x cx) :
    EffOk ρ σ w v σ' (((Instr.storeAt t ca cx).run P w).andThen fun x w' => .ok .skip w') := by
  unfold astore at h
  split at h
  · rename_i i off
    cases ha
    rename_i hi
    split at h
    · rename_i s cs vs ho hvs
      split at h
      · rename_i hc
        cases h
        have hv := cellsA_sound hvs hx
        obtain ⟨w1, h1, h2, h3⟩ := row_write (P := P) hh hi ho hv hc.2.2 off hc.2.1
        have hsz : cx.cells.size = vs.length := by have := hv.length; simpa using this.symm
        refine ⟨.skip, w1, ρ, undef, ?_, .inr ⟨rfl, rfl⟩, .junk _, h2, h3, Nat.le_refl _, fun _ _ => rfl⟩
        simp [Instr.storeAt, Instr.sureAddr, storeVar, run_sz hc.1, hsz, h1]
      · cases h
    · cases h
  · cases h

/-- The cells that a slice names. -/
def asrc (σ : AHeap) (s : Nat) (x : AV) : Option (Nat × List AV) :=
  match x with
  | .slice i off m =>
    match σ.cells i with
    | some cs => if off + m * s ≤ cs.length ∧ ((cs.drop off).take (m * s)).all AV.sc = true ∧ σ.fits i s = true then some (m, (cs.drop off).take (m * s)) else none
    | none => none
  | .nils | .slice0 => some (0, [])
  | _ => none
theorem asrc_sound {P : Program} {ρ : Nat → RI} {σ : AHeap} {w : World} (hh : HRel ρ σ w) {s m : Nat} {x : AV} {l : List AV} (h : asrc σ s x = some (m, l)) {cx : Value} (hx : VR σ.next ρ x cx) :
    ∃ vs : List Value, VRs σ.next ρ l vs ∧ l.length = m * s ∧ l.all AV.sc = true ∧ ((m = 0 ∧ cx = .slice none 0 0) ∨ ∃ ad c, cx = .slice (some ad) m c ∧ ∀ j v, vs[j]? = some v → w.cell? (ad.add j) = some v) := by
  unfold asrc at h
  split at h
  · rename_i i off m'
    cases hx
    rename_i c ad hi hx hl
    split at h
    · rename_i cs hcs
      split at h
      · rename_i hc
        cases h
        obtain ⟨vs, hvl, hvr, hvc⟩ := hh.cellsAt hi hcs off _ hc.1
        refine ⟨vs, hvr, by simp; omega, hc.2.1, .inr ⟨_, _, rfl, fun j v hj => ?_⟩⟩
        have hjlt : j < m * s := by rw [← hvl]; exact (List.getElem?_eq_some_iff.1 hj).1
        rcases hx with h0 | ⟨rfl, _⟩
        · have hm0 : m = 0 := by omega
          rw [hm0] at hjlt; omega
        · rw [add_add]; exact hvc j v hj
      · cases h
    · cases h
  · cases hx; cases h
    exact ⟨[], .nil, by simp, rfl, .inl ⟨rfl, rfl⟩⟩
  · cases hx; cases h
    exact ⟨[], .nil, by simp, rfl, .inr ⟨_, _, rfl, fun j v hj => by simp at hj⟩⟩
  · cases h

def acopy (P : Program) (t : TypeId) (d x : AV) (σ : AHeap) : Option (AV × AHeap) :=
  match tk P t with
  | .slice e =>
    match sz P e with
    | some s =>
      match asrc σ s x, d with
      | some (m, l), .slice i off n =>
        match σ.get i with
        | .own z cs => if z = s ∧ off + n * s ≤ cs.length then some (.int .i64 (min m n : Nat), σ.set i (.own z (splice cs off (l.take (min m n * s))))) else none
        | _ => none
      | some _, .nils | some _, .slice0 => some (.int .i64 0, σ)
      | _, _ => none
    | none => none
  | _ => none
theorem copy_sound {P : Program} {t t2 ty : TypeId} {d x v : AV} {σ σ' : AHeap} (h : acopy P t d x σ = some (v, σ')) {ρ : Nat → RI} {w : World} (hh : HRel ρ σ w) {cd cx : Value} (hd : VR σ.next ρ d cd) (hx : VR σ.next ρ x cx) :
    EffOk ρ σ w v σ' (((Builtin.copy_ #[t, t2] ty #[cd, cx]).run P w).andThen fun x w' => .ok (.value x) w') := by
  unfold acopy at h
  split at h
  · rename_i e hk
    have hdd := slice_under hk
    split at h
    · rename_i s hs
      have hlen : ∀ (m : Nat) (l : List AV), asrc σ s x = some (m, l) → (Builtin.lenOf cx).run P w = .ok m w ∧ ∀ n, n ≤ m → ∃ vs : List Value, (Builtin.firstCells s n cx).run P w = .ok vs.toArray w ∧ VRs σ.next ρ (l.take (n * s)) vs ∧ l.length = m * s ∧ l.all AV.sc = true := by
        intro m l hsrc
        obtain ⟨vs, h1, h2, h3, h4⟩ := asrc_sound (P := P) hh hsrc hx
        rcases h4 with ⟨rfl, rfl⟩ | ⟨ad, c, rfl, hcell⟩
        · refine ⟨by simp [Builtin.lenOf], fun n hn => ?_⟩
          have : n = 0 := by omega
          subst this
          exact ⟨[], by simp [Builtin.firstCells], by simpa using VRs.nil, h2, h3⟩
        · refine ⟨by simp [Builtin.lenOf], fun n hn => ⟨vs.take (n * s), ?_, h1.take _, h2, h3⟩⟩
          refine run_firstCells_some w s n ad m c (vs.take (n * s)) ?_ (fun j v hj => ?_)
          · rw [List.length_take, ← h1.length, h2]
            have : n * s ≤ m * s := Nat.mul_le_mul_right _ hn
            omega
          · rw [List.getElem?_take] at hj
            split at hj
            · exact hcell j v hj
            · cases hj
      split at h
      · rename_i m l i off n hsrc
        cases hd
        rename_i c ad hi hx' hl
        obtain ⟨hlo, hfc⟩ := hlen m l hsrc
        split at h
        · rename_i z cs ho
          split at h
          · rename_i hc
            obtain ⟨rfl, hle⟩ := hc
            cases h
            obtain ⟨vs, hf, hvs, hll, hsc⟩ := hfc (min m n) (by omega)
            have hlt : (l.take (min m n * z)).length = min m n * z := by
              have : min m n * z ≤ m * z := Nat.mul_le_mul_right _ (by omega)
              simp; omega
            have hmn : min m n * z ≤ n * z := Nat.mul_le_mul_right _ (by omega)
            obtain ⟨w1, g1, g2, g3⟩ := row_write (P := P) hh hi ho hvs (by rw [List.all_eq_true] at hsc ⊢; exact fun q hq => hsc q (List.mem_of_mem_take hq)) off (by omega)
            have hrow := hh.row i hi
            rw [ho] at hrow
            have hst : (storeCells ad vs).run P w = .ok () w1 := by
              rcases hx' with h0 | ⟨rfl, _⟩
              · have hn0 : n = 0 := by omega
                subst hn0
                have hv0 : vs = [] := by
                  have := hvs.length; rw [hlt] at this
                  exact List.eq_nil_of_length_eq_zero (by simpa using this.symm)
                subst hv0
                simp only [storeCells, Sem.run_pure] at g1 ⊢
                exact g1
              · exact g1
            refine ⟨_, w1, ρ, _, ?_, .inl rfl, .int _ _, g2, g3, Nat.le_refl _, fun _ _ => rfl⟩
            simp only [Builtin.copy_, List.getElem?_toArray, List.getElem?_cons_zero, List.getElem?_cons_succ, Sem.run_bind, run_underlying hdd, Result.andThen_ok, run_sz hs, hlo]
            have hf' := hf
            have e : Nat.min m n = min m n := rfl
            simp only [e, hf, Result.andThen_ok]
            simp [hst, goInt]
          · cases h
        · cases h
      · rename_i l hsrc
        cases hd; cases h
        obtain ⟨hlo, hfc⟩ := hlen l.1 l.2 hsrc
        obtain ⟨vs, hf, hvs, hll, hsc⟩ := hfc 0 (by omega)
        refine ⟨_, w, ρ, _, ?_, .inl rfl, .int _ _, hh, Fr.refl _ _ _, Nat.le_refl _, fun _ _ => rfl⟩
        simp only [Builtin.copy_, List.getElem?_toArray, List.getElem?_cons_zero, List.getElem?_cons_succ, Sem.run_bind, run_underlying hdd, Result.andThen_ok, run_sz hs, hlo]
        have e : Nat.min l.1 0 = 0 := Nat.min_eq_right (by omega)
        simp only [e, hf, Result.andThen_ok]
        simp [goInt]
      · rename_i l hsrc
        cases hd; cases h
        rename_i ad
        obtain ⟨hlo, hfc⟩ := hlen l.1 l.2 hsrc
        obtain ⟨vs, hf, hvs, hll, hsc⟩ := hfc 0 (by omega)
        have hv0 : vs = [] := by
          have := hvs.length
          exact List.eq_nil_of_length_eq_zero (by simpa using this.symm)
        subst hv0
        refine ⟨_, w, ρ, _, ?_, .inl rfl, .int _ _, hh, Fr.refl _ _ _, Nat.le_refl _, fun _ _ => rfl⟩
        simp only [Builtin.copy_, List.getElem?_toArray, List.getElem?_cons_zero, List.getElem?_cons_succ, Sem.run_bind, run_underlying hdd, Result.andThen_ok, run_sz hs, hlo]
        have e : Nat.min l.1 0 = 0 := Nat.min_eq_right (by omega)
        simp only [e, hf, Result.andThen_ok]
        simp [goInt, storeCells]
      · cases h
    · cases h
  · cases h

end Go.Proofs.Yteeakkakkjhgoaa.A
