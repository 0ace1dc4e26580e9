/- Greatest solutions of difference constraints: plain mathematics. Conditions: none. -/
import Derived.Test.YtkkbnbgdhpkfhaaF5
set_option linter.unusedVariables false
set_option linter.unusedSimpArgs false
namespace Go.Proofs.Ytkkbnbgdhpkfhaa.A
open Go
abbrev Con.i (c : Con) : Nat := c.a.toNat
abbrev Con.j (c : Con) : Nat := c.b.toNat
theorem NONE_eq : NONE = 4611686018427387904 := rfl

theorem int_max {P : Int → Prop} {M : Int} (hb : ∀ v, P v → v ≤ M) : ∀ (n : Nat) (v : Int), P v → (M - v).toNat ≤ n → ∃ v, P v ∧ ∀ u, P u → u ≤ v
  | 0, v, hv, hn => ⟨v, hv, fun u hu => by have := hb u hu; have := hb v hv; omega⟩
  | n + 1, v, hv, hn => by
    by_cases h : ∃ u, P u ∧ v < u
    · obtain ⟨u, hu, hlt⟩ := h
      exact int_max hb n u hu (by have := hb u hu; omega)
    · exact ⟨v, hv, fun u hu => by
        by_cases hlt : v < u
        · exact absurd ⟨u, hu, hlt⟩ h
        · omega⟩

def Sat (l : List Con) (y : Nat → Int) : Prop := ∀ c ∈ l, y c.i = NONE ∨ y c.j ≤ y c.i + c.w
def In (N : Nat) (l : List Con) : Prop := ∀ c ∈ l, (c.i < N ∧ c.j < N) ∧ -9007199254740992 ≤ c.w ∧ c.w ≤ 9007199254740992
theorem Good.inn {N : Nat} {l : List Con} (h : Good N l) : In N l := fun c hc => by
  have := h.2.2 c hc
  unfold Con.i Con.j; omega
structure IsMax (N : Nat) (l : List Con) (x0 z : Nat → Int) : Prop where
  sat : Sat l z
  le : ∀ k, k < N → z k ≤ x0 k
  max : ∀ y, Sat l y → (∀ k, k < N → y k ≤ x0 k) → ∀ k, k < N → y k ≤ z k

theorem exists_max {N : Nat} {l : List Con} {x0 : Nat → Int} (hx0 : ∀ k, k < N → x0 k ≤ NONE) (hl : In N l)
    (hne : ∃ y, Sat l y ∧ ∀ k, k < N → y k ≤ x0 k) : ∃ z, IsMax N l x0 z := by
  obtain ⟨y0, hy0, hy0'⟩ := hne
  have key : ∀ k, k < N → ∃ v, (∃ y, (Sat l y ∧ ∀ k, k < N → y k ≤ x0 k) ∧ y k = v) ∧ ∀ u, (∃ y, (Sat l y ∧ ∀ k, k < N → y k ≤ x0 k) ∧ y k = u) → u ≤ v := fun k hk =>
    int_max (P := fun v => ∃ y, (Sat l y ∧ ∀ k, k < N → y k ≤ x0 k) ∧ y k = v) (M := x0 k) (fun v ⟨y, hy, e⟩ => e ▸ hy.2 k hk) _ (y0 k) ⟨y0, ⟨hy0, hy0'⟩, rfl⟩ (Nat.le_refl _)
  refine ⟨fun k => if h : k < N then Classical.choose (key k h) else 0, ?_, ?_, ?_⟩
  · intro c hc
    have ⟨⟨ha, hb⟩, _⟩ := hl c hc
    obtain ⟨⟨y, hy, hyb⟩, _⟩ := Classical.choose_spec (key c.j hb)
    obtain ⟨⟨y2, hy2, hya⟩, hup⟩ := Classical.choose_spec (key c.i ha)
    simp only [ha, hb, dif_pos]
    rw [← hyb]
    have h1 := hup _ ⟨y, hy, rfl⟩
    have h2 := hx0 c.i ha
    have h3 := hy2.2 c.i ha
    rcases hy.1 c hc with h | h
    · left; rw [h] at h1; rw [← hya] at h1 ⊢; omega
    · right; omega
  · intro k hk
    obtain ⟨⟨y, hy, e⟩, _⟩ := Classical.choose_spec (key k hk)
    simp only [hk, dif_pos]
    rw [← e]; exact hy.2 k hk
  · intro y hy hle k hk
    simp only [hk, dif_pos]
    exact (Classical.choose_spec (key k hk)).2 _ ⟨y, ⟨hy, hle⟩, rfl⟩
theorem IsMax.unique {N : Nat} {l : List Con} {x0 z z' : Nat → Int} (h : IsMax N l x0 z) (h' : IsMax N l x0 z') : ∀ k, k < N → z k = z' k := fun k hk => by
  have := h.max z' h'.sat h'.le k hk
  have := h'.max z h.sat h.le k hk
  omega
theorem IsMax.congr {N : Nat} {l : List Con} {x0 z z' : Nat → Int} (h : IsMax N l x0 z) (hl : In N l) (he : ∀ k, k < N → z' k = z k) : IsMax N l x0 z' where
  sat := fun c hc => by
    have ⟨⟨ha, hb⟩, _⟩ := hl c hc
    rw [he _ ha, he _ hb]; exact h.sat c hc
  le := fun k hk => by rw [he k hk]; exact h.le k hk
  max := fun y hy hle k hk => by rw [he k hk]; exact h.max y hy hle k hk
theorem IsMax.raise {N : Nat} {l : List Con} {x0 z : Nat → Int} (h : IsMax N l x0 z) (hx0 : ∀ k, k < N → x0 k ≤ NONE) (hl : In N l) (U : Nat → Bool)
    (h1 : ∀ k, k < N → U k = true → z k < x0 k) (h2 : ∀ c ∈ l, U c.i = false → U c.j = true → z c.i ≠ NONE → z c.j + 1 ≤ z c.i + c.w) : ∀ k, k < N → U k = false := by
  intro k hk
  cases hu : U k with
  | false => rfl
  | true =>
    have hs : Sat l (fun k => if U k = true then z k + 1 else z k) := fun c hc => by
      have ⟨⟨ha, hb⟩, _⟩ := hl c hc
      have hs := h.sat c hc
      have h3 := hx0 c.i ha
      cases ea : U c.i with
      | true =>
        have h4 := h1 c.i ha ea
        rcases hs with hs | hs
        · omega
        · cases eb : U c.j <;> simp [ea, eb] <;> omega
      | false =>
        rcases hs with hs | hs
        · left; simp [ea, hs]
        · cases eb : U c.j with
          | false => right; simp [ea, eb]; omega
          | true =>
            by_cases hn : z c.i = NONE
            · left; simp [ea, hn]
            · have := h2 c hc ea eb hn
              right; simp [ea, eb]; omega
    have := h.max _ hs (fun k hk => by
      cases e : U k with
      | false => simp [e]; exact h.le k hk
      | true => have := h1 k hk e; simp [e]; omega) k hk
    simp [hu] at this
    omega

def cnt (p : Nat → Bool) : Nat → Nat
  | 0 => 0
  | n + 1 => cnt p n + (if p n = true then 1 else 0)
theorem cnt_le (p : Nat → Bool) : ∀ n, cnt p n ≤ n
  | 0 => Nat.le_refl _
  | n + 1 => by have := cnt_le p n; unfold cnt; split <;> omega
theorem cnt_mono {p q : Nat → Bool} : ∀ {n : Nat}, (∀ k, k < n → p k = true → q k = true) → cnt p n ≤ cnt q n
  | 0, _ => Nat.le_refl _
  | n + 1, h => by
    have h1 := cnt_mono (n := n) (fun k hk => h k (by omega))
    have h2 := h n (by omega)
    unfold cnt
    cases hp : p n with
    | false => rw [if_neg (by simp)]; omega
    | true => rw [h2 hp]; omega
theorem cnt_lt {p q : Nat → Bool} : ∀ {n : Nat}, (∀ k, k < n → p k = true → q k = true) → (∃ k, k < n ∧ q k = true ∧ p k = false) → cnt p n < cnt q n
  | 0, _, ⟨k, hk, _⟩ => by omega
  | n + 1, h, ⟨k, hk, hq, hp⟩ => by
    have h2 := h n (by omega)
    unfold cnt
    by_cases e : k = n
    · subst e
      have h1 := cnt_mono (n := k) (fun j hj => h j (by omega))
      simp [hq, hp]; omega
    · have h1 := cnt_lt (n := n) (fun j hj => h j (by omega)) ⟨k, by omega, hq, hp⟩
      cases hpn : p n with
      | false => rw [if_neg (by simp)]; omega
      | true => rw [h2 hpn]; omega
theorem cnt_zero {p : Nat → Bool} : ∀ {n : Nat}, cnt p n = 0 → ∀ k, k < n → p k = false
  | 0, _, k, hk => by omega
  | n + 1, h, k, hk => by
    unfold cnt at h
    by_cases e : k = n
    · subst e
      cases hp : p k with
      | false => rfl
      | true => simp [hp] at h
    · exact cnt_zero (n := n) (by omega) k (by omega)

def off (x z : Nat → Int) (k : Nat) : Bool := decide (x k ≠ z k)
/-- A round settles one more variable. -/
theorem IsMax.round {N : Nat} {l : List Con} {x0 z x x' : Nat → Int} (h : IsMax N l x0 z) (hx0 : ∀ k, k < N → x0 k ≤ NONE) (hl : In N l)
    (hx : ∀ k, k < N → x k ≤ x0 k) (hz : ∀ k, k < N → z k ≤ x' k) (hd : ∀ k, k < N → x' k ≤ x k)
    (hr : ∀ c ∈ l, x c.i = NONE ∨ x' c.j ≤ x c.i + c.w) (hne : cnt (off x z) N ≠ 0) : cnt (off x' z) N < cnt (off x z) N := by
  refine cnt_lt (fun k hk e => ?_) ?_
  · have := hz k hk
    have := hd k hk
    simp [off] at e ⊢; omega
  · by_cases hc : ∃ k, k < N ∧ off x z k = true ∧ off x' z k = false
    · exact hc
    · exfalso
      apply hne
      have hU := h.raise hx0 hl (fun k => off x z k) (fun k hk e => by
        have := hz k hk
        have := hd k hk
        have := hx k hk
        simp [off] at e; omega) (fun c hcm ea eb hn => by
        have ⟨⟨ha, hb⟩, _⟩ := hl c hcm
        have hb' : off x' z c.j = true := by
          cases e : off x' z c.j with
          | true => rfl
          | false => exact absurd ⟨c.j, hb, eb, e⟩ hc
        have hz' := hz c.j hb
        simp [off] at ea eb hb'
        rcases hr c hcm with e | e
        · omega
        · omega)
      have : cnt (off x z) N ≤ cnt (fun _ => false) N := cnt_mono fun k hk e => by rw [hU k hk] at e; cases e
      have z0 : ∀ n, cnt (fun _ => false) n = 0 := fun n => by
        induction n with
        | zero => rfl
        | succ n ih => unfold cnt; simp [ih]
      rw [z0] at this; omega

/-- The greatest solution without positive numbers is not below -N·2^53. -/
theorem IsMax.low {N : Nat} {l : List Con} {z : Nat → Int} (h : IsMax N l (fun _ => 0) z) (hl : In N l) : ∀ k, k < N → -(N : Int) * 9007199254740992 ≤ z k := by
  have step : ∀ t : Nat, t ≤ N → cnt (fun k => decide (z k < -(t : Int) * 9007199254740992)) N ≤ N - t := by
    intro t
    induction t with
    | zero => intro _; have := cnt_le (fun k => decide (z k < -((0 : Nat) : Int) * 9007199254740992)) N; omega
    | succ t ih =>
      intro ht
      have ih := ih (by omega)
      by_cases h0 : cnt (fun k => decide (z k < -(t : Int) * 9007199254740992)) N = 0
      · have := cnt_mono (n := N) (p := fun k => decide (z k < -((t + 1 : Nat) : Int) * 9007199254740992)) (q := fun k => decide (z k < -(t : Int) * 9007199254740992)) (fun k hk e => by
          simp at e ⊢; omega)
        omega
      · have : cnt (fun k => decide (z k < -((t + 1 : Nat) : Int) * 9007199254740992)) N < cnt (fun k => decide (z k < -(t : Int) * 9007199254740992)) N := by
          refine cnt_lt (fun k hk e => by simp at e ⊢; omega) ?_
          by_cases hc : ∃ k, k < N ∧ decide (z k < -(t : Int) * 9007199254740992) = true ∧ decide (z k < -((t + 1 : Nat) : Int) * 9007199254740992) = false
          · exact hc
          · exfalso
            apply h0
            have hU := h.raise (fun _ _ => by rw [NONE_eq]; omega) hl (fun k => decide (z k < -(t : Int) * 9007199254740992)) (fun k hk e => by simp at e; omega) (fun c hcm ea eb hn => by
              have ⟨⟨ha, hb⟩, hw⟩ := hl c hcm
              have hb' : decide (z c.j < -((t + 1 : Nat) : Int) * 9007199254740992) = true := by
                cases e : decide (z c.j < -((t + 1 : Nat) : Int) * 9007199254740992) with
                | true => rfl
                | false => exact absurd ⟨c.j, hb, eb, e⟩ hc
              simp at ea eb hb'
              omega)
            have : cnt (fun k => decide (z k < -(t : Int) * 9007199254740992)) N ≤ cnt (fun _ => false) N := cnt_mono fun k hk e => by rw [hU k hk] at e; cases e
            have z0 : ∀ n, cnt (fun _ => false) n = 0 := fun n => by
              induction n with
              | zero => rfl
              | succ n ih => unfold cnt; simp [ih]
            rw [z0] at this; omega
        omega
  intro k hk
  have := cnt_zero (n := N) (p := fun k => decide (z k < -(N : Int) * 9007199254740992)) (by have := step N (Nat.le_refl _); omega) k hk
  simp at this; omega
end Go.Proofs.Ytkkbnbgdhpkfhaa.A
