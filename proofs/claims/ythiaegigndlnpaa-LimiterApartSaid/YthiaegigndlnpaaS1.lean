/- slices.Sorted(maps.Keys(m)) over the walk's memory. Conditions: none. -/
import Derived.Test.YthiaegigndlnpaaG2
import Derived.Test.YthiaegigndlnpaaShelf
set_option linter.unusedVariables false
set_option linter.unusedSimpArgs false
namespace Go.Proofs.Ythiaegigndlnpaa.A
open Go Go.RowKit Go.Maps Go.Sort Go.Shelf

theorem sortsA (m : Nat) : AnyZI.SortsIn Try.prog Try.sortedA_ren Fence.wide m :=
  ⟨fun blk off cap ss W hH hblk hsz => callsIn_wide.2 (AnyM.slices_Sort_int Try.sortA blk off cap ss W hH hblk hsz),
   fun p cap W => callsIn_wide.2 (AnyM.slices_Sort_int_none Try.sortA p cap W)⟩
theorem insert_perm {H : Type} (x : Lit × DataW H) : ∀ l : List (Lit × DataW H), (DataW.insert x l).Perm (x :: l)
  | [] => .refl _
  | y :: r => by
    unfold DataW.insert
    split
    · exact .refl _
    · exact ((insert_perm x r).cons y).trans (.swap x y r)
theorem foldr_insert_perm {H : Type} : ∀ l : List (Lit × DataW H), (l.foldr DataW.insert []).Perm l
  | [] => .refl _
  | x :: l => (insert_perm x _).trans ((foldr_insert_perm l).cons x)
/-- What a walk's map of whole numbers says to the library's contracts. -/
theorem owns_map {P : Program} {k : TypeId} (hk : P.underlying k = some (.int .i64)) {n : Nat} {ρ : Nat → RI} {w : World} {b : Nat} {m : List Cli} {es : Array MapEntry} {clock : Nat}
    (hb : w.heap[b]? = some (.map es clock)) (hm : MRel n ρ (m.map Cli.ent) es) (hbo : Born es clock) (hu : Uniq m) (hwf : ∀ c ∈ m, -9223372036854775808 ≤ c.id ∧ c.id ≤ 9223372036854775807) (hl : m.length ≤ 64) :
    ∃ D : DataW Unit, w.ownsMap P k (fun _ => some (.nil, [])) b 64 D ∧ (intKeys D).Perm (m.map Cli.id) ∧ Maps.size D ≤ 64 := by
  obtain ⟨hlen, hrel⟩ := hm
  have hlen : m.length = es.size := by simpa using hlen
  have hat : ∀ (j : Nat) (c : Cli), m[j]? = some c → ∃ e : MapEntry, es[j]? = some e ∧ e.key = .int .i64 c.id := fun j c hc => by
    obtain ⟨e, h1, h2, _⟩ := hrel j c.ent (by rw [List.getElem?_map, hc]; rfl)
    refine ⟨e, h1, ?_⟩
    have h2 : VR n ρ (.int .i64 c.id) e.key := h2
    generalize e.key = q at h2
    cases h2; rfl
  have hkeys : es.toList.map (·.key) = m.map (fun c => Value.int .i64 c.id) := by
    apply List.ext_getElem?
    intro j
    rw [List.getElem?_map, List.getElem?_map]
    cases hj : m[j]? with
    | none =>
      have : es.toList[j]? = none := by
        rw [List.getElem?_eq_none_iff] at hj ⊢
        simpa [← hlen] using hj
      rw [this]; rfl
    | some c =>
      obtain ⟨e, h1, h2⟩ := hat j c hj
      have h1 : es.toList[j]? = some e := by simpa using h1
      rw [h1]; simp [h2]
  have hrd : ∀ x ∈ es.toList, ∃ c ∈ m, x.key = .int .i64 c.id ∧ Go.WideElems.rd (H := Unit) P k (fun _ => some (.nil, [])) x = some (.int .i64 c.id, .nil) := fun x hx => by
    have : x.key ∈ es.toList.map (·.key) := List.mem_map.2 ⟨x, hx, rfl⟩
    rw [hkeys] at this
    obtain ⟨c, hc, hce⟩ := List.mem_map.1 this
    refine ⟨c, hc, hce.symm, ?_⟩
    have hw : (Lit.int .i64 c.id).wf = true := by
      have := hwf c hc
      have e1 : IntKind.i64.min = -9223372036854775808 := by decide
      have e2 : IntKind.i64.max = 9223372036854775807 := by decide
      show (decide (IntKind.i64.min ≤ c.id) && decide (c.id ≤ IntKind.i64.max)) = true
      rw [e1, e2]
      simpa using this
    unfold Go.WideElems.rd
    have hko : keyOf P k x.key = some (.int .i64 c.id) := by rw [← hce]; simp [keyOf, hk, mapKey, hw]
    rw [hko]; rfl
  refine ⟨.map ((es.toList.map (Go.WideElems.rg P k (fun _ => some (.nil, [])))).foldr DataW.insert []), ⟨es, clock, hb, ⟨?_, ?_, fun x hx => ?_⟩, by omega, rfl⟩, ?_, ?_⟩
  · unfold maxLen; omega
  · refine ⟨hbo.1, hbo.2, ?_⟩
    rw [hkeys]
    refine List.pairwise_map.2 (hu.imp fun {a b} h q => h ?_)
    simpa using q
  · obtain ⟨c, _, _, h⟩ := hrd x hx
    exact ⟨_, h⟩
  · have hp := foldr_insert_perm (H := Unit) (es.toList.map (Go.WideElems.rg P k (fun _ => some (.nil, []))))
    show (List.map _ _).Perm _
    refine (hp.map _).trans ?_
    rw [List.map_map]
    have e : es.toList.map ((fun p : Lit × DataW Unit => Go.intOf p.1) ∘ Go.WideElems.rg P k (fun _ => some (.nil, []))) = (es.toList.map (·.key)).map (fun v => match v with | .int _ z => z | _ => 0) := by
      rw [List.map_map]
      apply List.map_congr_left
      intro x hx
      obtain ⟨c, _, h1, h2⟩ := hrd x hx
      simp only [Function.comp]
      rw [Go.WideElems.rg_of h2, h1]; rfl
    rw [e, hkeys, List.map_map]
    exact .refl _
  · have hp := (foldr_insert_perm (H := Unit) (es.toList.map (Go.WideElems.rg P k (fun _ => some (.nil, []))))).length_eq
    show List.length _ ≤ 64
    rw [hp]; simp; omega
theorem sorted_calls (σ : AHeap) (bx mp : Nat) (m : List Cli) (hbx : bx < σ.next) (hb : σ.get bx = .own 1 [.map mp]) (hmp : mp < σ.next) (hm : σ.get mp = .amap (m.map Cli.ent)) (hu : Uniq m)
    (hwf : ∀ c ∈ m, -9223372036854775808 ≤ c.id ∧ c.id ≤ 9223372036854775807) (hl : m.length ≤ 64) :
    ACalls Try.prog 27 [.fn (.func 33) [.ptr bx 0]] σ (fun r σ' => Ext σ σ' ∧ OInts σ σ' r ((m.map Cli.id).mergeSort leI)) := by
  refine ⟨by kernel_rfl, fun ρ w cargs hv hh => ?_⟩
  have hrb := hh.row bx hbx
  rw [hb] at hrb
  obtain ⟨hsz, _, ⟨B, hB⟩, cs, t, hcs, hext, hcell⟩ := hrb
  obtain ⟨cv, hcv, hvr⟩ := hcell 0 _ rfl
  have hrm := hh.row mp hmp
  rw [hm] at hrm
  obtain ⟨⟨M, hM⟩, es, clock, hes, hmrel, hbo⟩ := hrm
  have hcv2 : cv = .map (some M) := by
    cases hvr with
    | map i h => rw [hM]
  subst hcv2
  rw [hB] at hcs
  rw [hM] at hes
  have hargs : cargs = #[.func (.func 33) #[] #[.pointer (some ⟨B, 0, none⟩)]] := by
    obtain ⟨cl⟩ := cargs
    cases hv with
    | cons a v l vs h t =>
      cases t
      cases h with
      | fn f l cs2 h2 =>
        obtain ⟨cl2⟩ := cs2
        cases h2 with
        | cons a2 v2 l2 vs2 h3 t3 =>
          cases t3
          cases h3 with
          | ptr i off hi => rw [hB]; rfl
  subst hargs
  obtain ⟨D, hD, hperm, hsize⟩ := owns_map (P := Try.prog) (k := 3) Try.underlying3 hes hmrel hbo hu hwf hl
  have hBlt : B < w.heap.size := (Array.getElem?_eq_some_iff.1 hcs).1
  have hBc : w.cell? ⟨B, 0, none⟩ = some (.map (some M)) := by
    simp [World.cell?, hcs, hcv]
  have hseq : SeqGives Fence.wide 2 Try.prog 33 #[.pointer (some ⟨B, 0, none⟩)] encZ (fun ss => ss.Perm (intKeys D)) (Maps.size D) w :=
    AnyZI.keys_gives (ρ := Try.keysA_ren) { Try.keysA with } Fence.wide _ trivial rfl (by omega) B M 64 D _ hBlt hBc hD
  have cS := AnyZI.sorted_in Try.sortedA Fence.wide 5 trivial trivial trivial trivial rfl (by omega) (sortsA _) (enters_of Try.func32 (by kernel_rfl) rfl) 33 #[.pointer (some ⟨B, 0, none⟩)] trivial (enters_of Try.func33 (by kernel_rfl) rfl) _ _ (by unfold maxLen; omega) (by omega) _ hseq
  change CallsIn _ _ Try.prog 27 _ _ _ at cS
  refine (callsIn_wide.1 cS).mono ?_
  rintro e w' ⟨v, ss, rfl, hS, hrow, hnil, hbel⟩
  have hsort : ss.mergeSort leI = (m.map Cli.id).mergeSort leI := mergeSort_of_perm_i (hS.trans hperm)
  have hlen2 : ss.length = ((m.map Cli.id).mergeSort leI).length := by rw [← hsort, List.length_mergeSort]
  rcases hrow.2 with ⟨rfl, hz⟩ | ⟨g, cap, cur, rfl, hbase, hg, r1, r2, r3, r4⟩
  · refine ⟨_, .nils, ρ, σ, rfl, .nils, hh.below hbel, Fr.below hbel, Nat.le_refl _, fun _ _ => rfl, Ext.refl _, ?_⟩
    rw [List.eq_nil_of_length_eq_zero (l := (m.map Cli.id).mergeSort leI) (by omega)]
    exact .nil
  · have hglt := (Array.getElem?_eq_some_iff.1 hg).1
    obtain ⟨h1, h2⟩ := hh.fresh hbel (.own 1 (ints ((m.map Cli.id).mergeSort leI))) ⟨⟨g, 0, none⟩, 1, cur.size⟩ hbase hglt ⟨rfl, by decide, ⟨_, rfl⟩, cur, 3, hg, rfl, fun j c hj => by
      unfold ints at hj
      rw [List.getElem?_map] at hj
      cases hz : ((m.map Cli.id).mergeSort leI)[j]? with
      | none => rw [hz] at hj; cases hj
      | some z =>
        rw [hz] at hj
        cases hj
        refine ⟨.int .i64 z, ?_, .int _ _⟩
        have hj2 : (cur.toList.take (ss.length * 1))[j]? = some (encZ z) := by
          rw [r4, List.getElem?_map, show (ss.mergeSort fun x y => decide (x ≤ y)) = (m.map Cli.id).mergeSort leI from hsort, hz]; rfl
        rw [List.getElem?_take] at hj2
        split at hj2
        · simpa using hj2
        · cases hj2⟩
    refine ⟨_, .slice σ.next 0 ss.length, _, _, rfl, newSlice _ _ _ _ _ _ _ r1 (by omega), h1, h2, by simp only [AHeap.next_alloc]; omega, fun i hi => upd_ne _ _ (by omega), inferInstance, ?_⟩
    rw [hlen2]
    exact .mk σ.next _ ⟨Nat.le_refl _, by simp only [AHeap.next_alloc]; omega⟩ (get_alloc_self rfl)
end Go.Proofs.Ythiaegigndlnpaa.A
