/- slices.Sort over the walk's memory. Conditions: none. -/
import Derived.Test.YteeakkakkjhgoaaH2
import Derived.Test.YteeakkakkjhgoaaShelf
import Derived.Lib.SlKeysI
import Derived.Shelf.SortM.SortNone
set_option linter.unusedVariables false
set_option linter.unusedSimpArgs false
namespace Go.Proofs.Yteeakkakkjhgoaa.A
open Go Go.RowKit Go.Maps Go.Sort Go.Shelf

/-- A row of the call's own is written, and memory grows. -/
theorem HRel.writeGrow {ρ : Nat → RI} {σ : AHeap} {w w1 : World} (h : HRel ρ σ w) {i : Nat} (hi : i < σ.next) (hown : (σ.get i).owned = true) (o : AObj) (hown' : o.owned = true)
    (hos : w1.os = w.os) (htape : w1.tape = w.tape) (hout : w1.output = w.output) (hsize : w.heap.size ≤ w1.heap.size) (hother : ∀ b, b < w.heap.size → b ≠ (ρ i).addr.block → w1.heap[b]? = w.heap[b]?)
    (ho : ORel σ.next ρ (ρ i) o w1) : HRel ρ (σ.set i o) w1 ∧ Fr ρ σ w ρ (σ.set i o) w1 := by
  have hlv := AObj.live_of_owned hown
  refine ⟨⟨fun j hj => ?_, fun j k hj hk hjk hoj hlk => ?_, fun j hj hoj => ?_⟩, ⟨hos, htape, hout, hsize, fun b hb hn => ?_, fun b hb => ?_⟩⟩
  · rw [AHeap.get_set]
    simp only [AHeap.next_set] at hj ⊢
    split
    · rename_i hji; subst hji; exact ho
    · rename_i hji
      refine (h.row j hj).up (Nat.le_refl _) (fun _ _ => rfl) (fun hl => hother _ ((h.row j hj).block_lt hl) (fun he => ?_))
      exact h.apart i j hi hj (Ne.symm hji) hown hl he.symm
  · simp only [AHeap.next_set] at hj hk
    rw [AHeap.get_set] at hoj hlk
    have ej : (σ.get j).owned = true := by
      split at hoj
      · rename_i hji; subst hji; exact hown
      · exact hoj
    have ek : (σ.get k).live = true := by
      split at hlk
      · rename_i hki; subst hki; exact hlv
      · exact hlk
    exact h.apart j k hj hk hjk ej ek
  · simp only [AHeap.next_set] at hj
    rw [AHeap.get_set] at hoj
    refine Nat.lt_of_lt_of_le ?_ hsize
    split at hoj
    · rename_i hji; subst hji; exact h.inside j hj hown
    · exact h.inside j hj hoj
  · exact hother b hb (fun he => hn ⟨i, hi, hown, he.symm⟩)
  · obtain ⟨j, hj, hoj, hb⟩ := hb
    simp only [AHeap.next_set] at hj
    rw [AHeap.get_set] at hoj
    left
    split at hoj
    · rename_i hji; subst hji; exact ⟨j, hj, hown, hb⟩
    · exact ⟨j, hj, hoj, hb⟩
theorem sort_calls (σ : AHeap) (q : Nat) (z : List Int) (hq : q < σ.next) (hz : σ.get q = .own 1 (ints z)) (hl : z.length ≤ 1000) :
    ACalls Try.prog 29 [.slice q 0 z.length] σ (fun r σ' => r = .tup [] ∧ σ' = σ.set q (.own 1 (ints (z.mergeSort leI)))) := by
  refine ⟨by kernel_rfl, fun ρ w cargs hv hh => ?_⟩
  have hr := hh.row q hq
  rw [hz] at hr
  obtain ⟨hsz, _, ⟨B, hB⟩, cs, t, hcs, hext, hcell⟩ := hr
  rw [hB] at hcs
  have hBlt : B < w.heap.size := (Array.getElem?_eq_some_iff.1 hcs).1
  have htake : cs.toList.take z.length = z.map encZ := by
    apply List.ext_getElem?
    intro j
    rw [List.getElem?_take, List.getElem?_map]
    split
    · rename_i hj
      have hzj : z[j]? = some z[j] := List.getElem?_eq_getElem hj
      rw [hzj]
      obtain ⟨v, h1, h2⟩ := hcell j (.int .i64 z[j]) (by unfold ints; rw [List.getElem?_map, hzj]; rfl)
      cases h2
      simpa using h1
    · rename_i hj
      rw [List.getElem?_eq_none (by omega)]; rfl
  have hcsl : z.length ≤ cs.size := by
    have := congrArg List.length htake
    simp at this
    omega
  have hargs : ∃ c x, cargs = #[.slice (some x) z.length c] ∧ (x = ⟨B, 0, none⟩ ∨ z.length = 0) := by
    obtain ⟨cl⟩ := cargs
    cases hv with
    | cons a v l vs h t =>
      cases t
      cases h with
      | slice i off len c x hi hl hx =>
        refine ⟨c, x, rfl, ?_⟩
        rcases hx with rfl | ⟨hx, _⟩
        · exact .inr (by omega)
        · rw [hB] at hx; exact .inl (by rw [hx]; rfl)
  obtain ⟨c, x, rfl, hx⟩ := hargs
  have hlen2 : (z.mergeSort leI).length = z.length := List.length_mergeSort z
  by_cases h0 : z.length = 0
  · have hz0 : z = [] := List.eq_nil_of_length_eq_zero h0
    subst hz0
    have cS := AnyM.slices_Sort_int_none Try.sortA (some x) c w
    change Calls Try.prog 29 _ _ _ at cS
    refine cS.mono ?_
    rintro e w' ⟨rfl, rfl⟩
    have e2 : σ.set q (.own 1 (ints (([] : List Int).mergeSort leI))) = σ := set_same (by rw [hz]; simp)
    exact ⟨_, .tup [], ρ, σ, rfl, .tup [] #[] .nil, hh, Fr.refl _ _ _, Nat.le_refl _, fun _ _ => rfl, rfl, e2.symm⟩
  · have hx : x = ⟨B, 0, none⟩ := hx.resolve_right h0
    subst hx
    have hH : Holds encZ w B 0 z.toArray := holds_of_block_i hcs htake
    have cS := AnyM.slices_Sort_int Try.sortA B 0 c z w hH hBlt (by omega)
    change Calls Try.prog 29 _ _ _ at cS
    refine cS.mono ?_
    rintro e w' ⟨rfl, n, os, rfl⟩
    have hg := grownBy_sorted_i (w := w) (g := B) (n := n) (os := os) (z.mergeSort leI).toArray
    have hb := heap_sorted_i (n := n) (os := os) (z.mergeSort leI).toArray hcs
    have ht := take_putCells_i cs (z.mergeSort leI) (by omega)
    rw [hlen2] at ht
    obtain ⟨h1, h2⟩ := hh.writeGrow hq (by rw [hz]; rfl) (.own 1 (ints (z.mergeSort leI))) rfl hg.os hg.tape hg.output hg.size (fun b hb hne => hg.block b hb (by rw [hB] at hne; simpa using hne)) ⟨hsz, by omega, ⟨B, hB⟩, _, _, by rw [hB]; exact hb, by rw [← hext]; simp [putCells], fun j v hj => by
      unfold ints at hj
      rw [List.getElem?_map] at hj
      cases hzj : (z.mergeSort leI)[j]? with
      | none => rw [hzj] at hj; cases hj
      | some y =>
        rw [hzj] at hj
        cases hj
        refine ⟨.int .i64 y, ?_, .int _ _⟩
        have hj2 : ((putCells encZ 0 (z.mergeSort leI).toArray cs).toList.take z.length)[j]? = some (encZ y) := by
          rw [ht, List.getElem?_map, hzj]; rfl
        rw [List.getElem?_take] at hj2
        split at hj2
        · simpa using hj2
        · cases hj2⟩
    exact ⟨_, .tup [], ρ, _, rfl, .tup [] #[] .nil, h1, h2, Nat.le_refl _, fun _ _ => rfl, rfl, rfl⟩
end Go.Proofs.Yteeakkakkjhgoaa.A
