/- Rules by which the walk computes. Conditions: none. -/
import Derived.Test.YteeakkakkjhgoaaA10
set_option linter.unusedVariables false
set_option linter.unusedSimpArgs false
namespace Go.Proofs.Yteeakkakkjhgoaa.A
open Go Go.RowKit

section
variable {P : Program} {S : Orc} {N n0 : Nat} {t t' : T} {σ σ' : AHeap} {Q : Exit → T → AHeap → Prop} {K : T → AHeap → Prop} {ev : Operand → AV}
/-! ### Steps -/
def apk : AV → AV → AV → Option AV
  | .bool p, a, b => some (apick p a b)
  | _, _, _ => none
def anilc : AV → Option AV
  | .ptr i o => some (.ptr i o)
  | .fn (.func f) l => some (.fn (.func f) l)
  | _ => none
def aextr (i : Nat) : AV → Option AV
  | .tup l => l[i]?
  | _ => none
def acl : AV → List AV → Option (FuncId × List AV)
  | .fn (.func f) caps, args => some (f, args ++ caps)
  | _, _ => none
theorem st_move {x : Operand} : astep P S (.move x) ev σ = .val (ev x) := rfl
theorem st_assign {x : Operand} : astep P S (.assign x) ev σ = .val (ev x) := rfl
theorem st_pick {c a b : Operand} : astep P S (.pick c a b) ev σ = .ofV (apk (ev c) (ev a) (ev b)) := by
  show Step.ofV (astill P (.pick c a b) ev σ) = _
  simp only [astill]
  cases ev c <;> rfl
theorem st_load {ty : TypeId} {a : Operand} : astep P S (.load ty a) ev σ = .ofV (aload P ty (ev a) σ) := rfl
theorem st_bin {op : BinOp} {ty yt : TypeId} {x y : Operand} : astep P S (.binOp op ty x y yt) ev σ = .ofV (abin P op ty (ev x) (ev y)) := rfl
theorem st_un {op : UnOp} {ty : TypeId} {x : Operand} : astep P S (.unOp op ty x) ev σ = .ofV (aun op (ev x)) := rfl
theorem st_conv {s d : TypeId} {x : Operand} : astep P S (.convert s d x) ev σ = .ofV (aconv P s d (ev x)) := rfl
theorem st_faddr {s : TypeId} {x : Operand} {f : Nat} : astep P S (.fieldAddr s x f) ev σ = .ofV (afaddr P s (ev x) f) := rfl
theorem st_field {s : TypeId} {x : Operand} {f : Nat} : astep P S (.field s x f) ev σ = .ofV (afield P s (ev x) f) := rfl
theorem st_iaddr {s : TypeId} {x i : Operand} : astep P S (.indexAddr s x i) ev σ = .ofV (aiaddr P s (ev x) (ev i)) := rfl
theorem st_index {s : TypeId} {x i : Operand} : astep P S (.index s x i) ev σ = .ofV (aindex P s (ev x) (ev i)) := rfl
theorem st_slice {ty : TypeId} {x : Operand} {lo hi mx : Option Operand} : astep P S (.slice ty x lo hi mx) ev σ = .ofV (aslice P ty (ev x) (lo.map ev) (hi.map ev) (mx.map ev) σ) := rfl
theorem st_extract {x : Operand} {i : Nat} : astep P S (.extract x i) ev σ = .ofV (aextr i (ev x)) := by
  show Step.ofV (astill P (.extract x i) ev σ) = _
  simp only [astill]
  cases ev x <;> rfl
theorem st_nilc {x : Operand} : astep P S (.nilCheck x) ev σ = .ofV (anilc (ev x)) := by
  show Step.ofV (astill P (.nilCheck x) ev σ) = _
  simp only [astill]
  congr 1
theorem st_mkfn {fn : Fn} {cap : Array Operand} : astep P S (.makeFunc fn #[] cap) ev σ = .val (.fn fn (cap.toList.map ev)) := rfl
theorem st_build {ty : TypeId} {parts : Array (Nat × Operand)} : astep P S (.build ty parts) ev σ = .ofV (abuild P ty (parts.toList.map fun p => (p.1, ev p.2))) := rfl
theorem st_makeMap {ty : TypeId} : astep P S (.makeMap ty none) ev σ = .ofE (amakeMap ty σ) := rfl
theorem st_mapUpdate {ty : TypeId} {x k y : Operand} : astep P S (.mapUpdate ty x k y) ev σ = .ofE (aupdate P ty (ev x) (ev k) (ev y) σ) := rfl
theorem st_delete {ty kt : TypeId} {x k : Operand} : astep P S (.call { callee := .builtin .delete, args := #[x, k], argTypes := #[ty, kt] }) ev σ = .ofE (adelete P ty (ev x) (ev k) σ) := rfl
theorem st_lookup {ty : TypeId} {x k : Operand} {ok : Bool} : astep P S (.lookup ty x k ok) ev σ = .ofV (alook P ty (ev x) (ev k) ok σ) := rfl
theorem st_len {ty : TypeId} {x : Operand} : astep P S (.call { callee := .builtin .len, args := #[x], argTypes := #[ty] }) ev σ = .ofV (alenX P ty (ev x) σ) := rfl
theorem st_max {args : Array Operand} {ats : Array TypeId} : astep P S (.call { callee := .builtin .max, args := args, argTypes := ats }) ev σ = .ofV (amaxmin true (args.toList.map ev)) := rfl
theorem st_min {args : Array Operand} {ats : Array TypeId} : astep P S (.call { callee := .builtin .min, args := args, argTypes := ats }) ev σ = .ofV (amaxmin false (args.toList.map ev)) := rfl
theorem st_alloc {e : TypeId} : astep P S (.alloc e) ev σ = .ofE (aalloc P e σ) := rfl
theorem st_box {e : TypeId} {x : Operand} : astep P S (.box e x) ev σ = .ofE (abox (ev x) σ) := rfl
theorem st_bslice {ty : TypeId} {len : Nat} {parts : Array (Nat × Operand)} : astep P S (.buildSlice ty len parts) ev σ = .ofE (abuildSlice P ty len (parts.toList.map fun p => (p.1, ev p.2)) σ) := rfl
theorem st_make {ty : TypeId} {l c : Operand} : astep P S (.makeSlice ty l c) ev σ = .ofE (amake P ty (ev l) (ev c) σ) := rfl
theorem st_store {ty : TypeId} {a x : Operand} : astep P S (.store ty a x) ev σ = .ofE (astore P ty (ev a) (ev x) σ) := rfl
theorem st_append {t1 : TypeId} {d x : Operand} : astep P S (.call { callee := .builtin .append, args := #[d, x], argTypes := #[t1, t1] }) ev σ = .ofE (aappend P t1 (ev d) (ev x) σ) := by
  show Step.ofE (aeff P _ ev σ) = _
  simp [aeff]
theorem st_copy {t1 t2 : TypeId} {d x : Operand} : astep P S (.call { callee := .builtin .copy, args := #[d, x], argTypes := #[t1, t2] }) ev σ = .ofE (acopy P t1 (ev d) (ev x) σ) := rfl
theorem st_call {f : Operand} {args : Array Operand} {ats : Array TypeId} : astep P S (.call { callee := .value f, args := args, argTypes := ats }) ev σ = .ofC S (acl (ev f) (args.toList.map ev)) := by
  show Step.ofC S (acall _ ev) = _
  simp only [acall]
  congr 1
  cases ev f <;> first | rfl | skip
  rename_i g l
  cases g <;> rfl
theorem ofC_some {f : FuncId} {args : List AV} : Step.ofC S (some (f, args)) = .ofO f args (S f args) := rfl
theorem ofO_some {f : FuncId} {args : List AV} {v : AV} : Step.ofO f args (some v) = .ora f args v := rfl
theorem ofO_none {f : FuncId} {args : List AV} : Step.ofO f args none = .call f args := rfl
theorem acl_fn {f : FuncId} {caps args : List AV} : acl (.fn (.func f) caps) args = some (f, args ++ caps) := rfl
theorem apk_bool {p : Bool} {a b : AV} : apk (.bool p) a b = some (apick p a b) := rfl
theorem apick_true {a b : AV} : apick true a b = a := rfl
theorem apick_false {a b : AV} : apick false a b = b := rfl
theorem apick_bool {p q r : Bool} : apick p (.bool q) (.bool r) = .bool (if p = true then q else r) := by unfold apick; split <;> rfl
theorem anilc_ptr {i o : Nat} : anilc (.ptr i o) = some (.ptr i o) := rfl
theorem anilc_fn {f : FuncId} {l : List AV} : anilc (.fn (.func f) l) = some (.fn (.func f) l) := rfl
theorem aextr_tup {i : Nat} {l : List AV} : aextr i (.tup l) = l[i]? := rfl

/-! ### Ways -/
theorem AG_dec {c : Prop} [Decidable c] {x y : Unit → Prop} (hx : c → x ()) (hy : ¬ c → y ()) {d : Hd (x, y)} : AG (.test (decide c)) x y d := by
  by_cases h : c
  · simpa [AG, h] using hx h
  · simpa [AG, h] using hy h
theorem AG_ndec {c : Prop} [Decidable c] {x y : Unit → Prop} (hx : ¬ c → x ()) (hy : c → y ()) {d : Hd (x, y)} : AG (.test (!decide c)) x y d := by
  by_cases h : c
  · simpa [AG, h] using hy h
  · simpa [AG, h] using hx h
theorem AG_split {p : Bool} {x y : Unit → Prop} (hx : p = true → x ()) (hy : p = false → y ()) {d : Hd (x, y)} : AG (.test p) x y d := by
  cases p
  · simpa [AG] using hy rfl
  · simpa [AG] using hx rfl
theorem ACond_true {x y : Unit → Prop} {d : Hd (x, y)} : ACond (.bool true) x y d = x () := by simp [ACond]
theorem ACond_false {x y : Unit → Prop} {d : Hd (x, y)} : ACond (.bool false) x y d = y () := by simp [ACond]
theorem ACond_dec {c : Prop} [Decidable c] {x y : Unit → Prop} (hx : c → x ()) (hy : ¬ c → y ()) {d : Hd (x, y)} : ACond (.bool (decide c)) x y d := by
  by_cases h : c
  · simpa [ACond, h] using hx h
  · simpa [ACond, h] using hy h
theorem ACond_ndec {c : Prop} [Decidable c] {x y : Unit → Prop} (hx : ¬ c → x ()) (hy : c → y ()) {d : Hd (x, y)} : ACond (.bool (!decide c)) x y d := by
  by_cases h : c
  · simpa [ACond, h] using hy h
  · simpa [ACond, h] using hx h
theorem ACond_split {p : Bool} {x y : Unit → Prop} (hx : p = true → x ()) (hy : p = false → y ()) {d : Hd (x, y)} : ACond (.bool p) x y d := by
  cases p
  · simpa [ACond] using hy rfl
  · simpa [ACond] using hx rfl
theorem ofV_none : Step.ofV none = .bad := rfl
theorem ofE_none : Step.ofE none = .bad := rfl
theorem AS_bad {F : AV → AHeap → Prop} {d : Hd F} : AS P σ .bad F d = False := rfl
theorem ASq_bad {F : AV → Prop} {d : Hd F} : ASq P σ .bad F d = False := rfl
theorem ASs_bad {F : AV → Prop} {d : Hd F} : ASs .bad F d = False := rfl
theorem ret_pure {res : List Nat} {R : AV → AHeap → Prop} (hn : n0 ≤ σ.next) (hs : Sub σ' σ) (hrl : (aret res t).rl σ.next = true) (h : R (aret res t) σ) : retK n0 res R ⟨⟩ .ret t σ' := ⟨σ, hn, hs, hrl, h⟩
theorem normal_pure {res : List Nat} {R : AV → AHeap → Prop} (hn : n0 ≤ σ.next) (hs : Sub σ' σ) (hrl : (aret res t).rl σ.next = true) (h : R (aret res t) σ) : retK n0 res R ⟨⟩ .normal t σ' := ⟨σ, hn, hs, hrl, h⟩
theorem call_by {f : FuncId} {args : List AV} {R F : AV → AHeap → Prop} {d : Hd F} (h : ACalls P f args σ R) (hr : ∀ v σ', R v σ' → F v σ') : ACK P f args σ F d := h.mono hr
theorem call_quiet {f : FuncId} {args : List AV} {R : AV → AHeap → Prop} {F : AV → Prop} {d : Hd F} (v : AV) (hv : v.det = true) (h : ACalls P f args σ.freeze R) (hr : ∀ v' σ', R v' σ' → v' = v) (hF : F v) : ACQ P f args σ F d := ⟨v, hv, h.mono hr, hF⟩
theorem loop_by {a : SC} {d : Hd (a, Q)} (h : AW P N n0 (.loop a) t σ Q) : LPK P N n0 a t σ Q d := h
theorem aret_one {r : Nat} : aret [r] t = t r := rfl
theorem aret_two {r s : Nat} : aret [r, s] t = .tup [t r, t s] := rfl
theorem aret_three {r s u : Nat} : aret [r, s, u] t = .tup [t r, t s, t u] := rfl
theorem aret_nil : aret [] t = .tup [] := rfl

/-! ### Operations by the form of their operands -/
theorem alen_slice {ty : TypeId} {i off len : Nat} : alen P ty (.slice i off len) = alenS (tk P ty) len := rfl
theorem alen_nils {ty : TypeId} : alen P ty .nils = alenS (tk P ty) 0 := rfl
theorem alen_slice0 {ty : TypeId} : alen P ty .slice0 = alenS (tk P ty) 0 := rfl
def aiaddrS (P : Program) : TK → Nat → Nat → Nat → Int → Option AV
  | .slice e, i, off, len, m => if 0 ≤ m ∧ m < (len : Int) then (sz P e).map fun s => .ptr i (off + m.toNat * s) else none
  | _, _, _, _, _ => none
theorem aiaddr_slice {ty : TypeId} {i off len : Nat} {k : IntKind} {m : Int} : aiaddr P ty (.slice i off len) (.int k m) = aiaddrS P (tk P ty) i off len m := by
  unfold aiaddr; cases hk : tk P ty <;> rfl
def aiaddrA (P : Program) : TK → Nat → Nat → Int → Option AV
  | .arr len e, i, off, m => if 0 ≤ m ∧ m < (len : Int) then (sz P e).map fun s => .ptr i (off + m.toNat * s) else none
  | _, _, _, _ => none
theorem aiaddr_ptr {ty : TypeId} {i off : Nat} {k : IntKind} {m : Int} : aiaddr P ty (.ptr i off) (.int k m) = aiaddrA P (tk P ty) i off m := by
  unfold aiaddr; cases hk : tk P ty <;> rfl
def aloadO (P : Program) (ty : TypeId) (off : Nat) : Option (List AV) → Option AV
  | some cs =>
    if (tk P ty).is then
      if (tk P ty).agg then
        match sz P ty with
        | some k => if off + k ≤ cs.length then some (.agg ((cs.drop off).take k)) else none
        | none => none
      else cs[off]?
    else none
  | none => none
theorem aload_ptr {ty : TypeId} {i off : Nat} : aload P ty (.ptr i off) σ = aloadO P ty off (σ.cells i) := by
  unfold aload aloadO; simp only []; cases σ.cells i <;> rfl
def asrcO (off m s : Nat) (fits : Bool) : Option (List AV) → Option (Nat × List AV)
  | some cs => if off + m * s ≤ cs.length ∧ ((cs.drop off).take (m * s)).all AV.sc = true ∧ fits = true then some (m, (cs.drop off).take (m * s)) else none
  | none => none
theorem asrc_slice {i off m s : Nat} : asrc σ s (.slice i off m) = asrcO off m s (σ.fits i s) (σ.cells i) := by
  unfold asrc asrcO; simp only []; cases σ.cells i <;> rfl
theorem asrc_nils {s : Nat} : asrc σ s .nils = some (0, []) := rfl
theorem asrc_slice0 {s : Nat} : asrc σ s .slice0 = some (0, []) := rfl

/-! ### Memory -/
theorem cells_alloc_self {s : Nat} {cs : List AV} {i : Nat} (h : i = σ.next) : (σ.alloc (.own s cs)).cells i = some cs := by
  unfold AHeap.cells; rw [AHeap.get_alloc, if_pos h]
theorem cells_alloc_ne {o : AObj} {i : Nat} (h : i ≠ σ.next) : (σ.alloc o).cells i = σ.cells i := by
  unfold AHeap.cells; rw [AHeap.get_alloc, if_neg h]
theorem cells_set_self {s : Nat} {cs : List AV} {i j : Nat} (h : j = i) : (σ.set i (.own s cs)).cells j = some cs := by
  unfold AHeap.cells; rw [AHeap.get_set, if_pos h]
theorem cells_set_ne {o : AObj} {i j : Nat} (h : j ≠ i) : (σ.set i o).cells j = σ.cells j := by
  unfold AHeap.cells; rw [AHeap.get_set, if_neg h]
theorem get_alloc_self {o : AObj} {i : Nat} (h : i = σ.next) : (σ.alloc o).get i = o := by rw [AHeap.get_alloc, if_pos h]
theorem get_alloc_ne {o : AObj} {i : Nat} (h : i ≠ σ.next) : (σ.alloc o).get i = σ.get i := by rw [AHeap.get_alloc, if_neg h]
theorem get_set_self {o : AObj} {i j : Nat} (h : j = i) : (σ.set i o).get j = o := by rw [AHeap.get_set, if_pos h]
theorem get_set_ne {o : AObj} {i j : Nat} (h : j ≠ i) : (σ.set i o).get j = σ.get j := by rw [AHeap.get_set, if_neg h]
theorem set_set {o o' : AObj} {i : Nat} : (σ.set i o).set i o' = σ.set i o' := by
  unfold AHeap.set; congr 1; funext j; simp only [upd]; split <;> rfl
theorem alloc_set {o o' : AObj} {i : Nat} (h : i = σ.next) : (σ.alloc o).set i o' = σ.alloc o' := by
  subst h
  unfold AHeap.set AHeap.alloc; simp only []
  congr 1; funext j; simp only [upd]; split <;> rfl
theorem alloc_set_ne {o o' : AObj} {i : Nat} (h : i ≠ σ.next) : (σ.alloc o).set i o' = (σ.set i o').alloc o := by
  unfold AHeap.set AHeap.alloc; simp only []
  congr 1; funext j; simp only [upd]
  split
  · rename_i hj; rw [if_neg (by omega)]
  · rfl
theorem cells_of_own {i s : Nat} {cs : List AV} (h : σ.get i = .own s cs) : σ.cells i = some cs := by unfold AHeap.cells; rw [h]
theorem cells_of_ro {i : Nat} {cs : List AV} (h : σ.get i = .ro cs) : σ.cells i = some cs := by unfold AHeap.cells; rw [h]
theorem fits_of_own {i s : Nat} {cs : List AV} (h : σ.get i = .own s cs) : σ.fits i s = true := by unfold AHeap.fits; rw [h]; simp
theorem fits_of_ro {i s : Nat} {cs : List AV} (h : σ.get i = .ro cs) : σ.fits i s = true := by unfold AHeap.fits; rw [h]
theorem fits_alloc_ne {o : AObj} {i s : Nat} (h : i ≠ σ.next) : (σ.alloc o).fits i s = σ.fits i s := by unfold AHeap.fits; rw [get_alloc_ne h]
theorem fits_set_ne {o : AObj} {i j s : Nat} (h : j ≠ i) : (σ.set i o).fits j s = σ.fits j s := by unfold AHeap.fits; rw [get_set_ne h]
theorem fits_alloc_self {z s i : Nat} {cs : List AV} (h : i = σ.next) : (σ.alloc (.own z cs)).fits i s = (z == s) := by unfold AHeap.fits; rw [get_alloc_self h]
theorem fits_set_self {z s i j : Nat} {cs : List AV} (h : j = i) : (σ.set i (.own z cs)).fits j s = (z == s) := by unfold AHeap.fits; rw [get_set_self h]
theorem splice_one {cs : List AV} {off : Nat} {v : AV} (h : off < cs.length) : splice cs off [v] = cs.set off v := by
  unfold splice
  simp only [List.length_cons, List.length_nil, Nat.zero_add]
  rw [List.set_eq_take_append_cons_drop, if_pos h]
  simp
theorem splice_all {cs vs : List AV} (h : cs.length = vs.length) : splice cs 0 vs = vs := by
  unfold splice; simp [h]

theorem splice_nil {cs : List AV} : splice cs 0 [] = cs := by simp [splice]
theorem splice_c0 {c v : AV} {cs vs : List AV} : splice (c :: cs) 0 (v :: vs) = v :: splice cs 0 vs := by simp [splice]
theorem splice_cs {c : AV} {cs vs : List AV} {k : Nat} : splice (c :: cs) (k + 1) vs = c :: splice cs k vs := by
  unfold splice
  rw [show k + 1 + vs.length = (k + vs.length) + 1 by omega]
  simp

/-! ### Whole numbers -/
theorem cast0 : ((0 : Nat) : Int) = 0 := rfl
theorem cast1 : ((1 : Nat) : Int) = 1 := rfl
theorem w64 {x : Int} (h : -9223372036854775808 ≤ x ∧ x ≤ 9223372036854775807) : IntKind.i64.wrap x = x := IntWalk.i64_in x h

/-! ### Rows that read as lists -/
def ints (l : List Int) : List AV := l.map (AV.int .i64)
theorem ints_get {l : List Int} {k : Nat} (h : k < l.length) : (ints l)[k]? = some (.int .i64 (l.getD k 0)) := by
  unfold ints
  rw [List.getElem?_map, List.getElem?_eq_getElem h, List.getD_eq_getElem?_getD, List.getElem?_eq_getElem h]; rfl
theorem ints_length {l : List Int} : (ints l).length = l.length := by simp [ints]
theorem splice_ints {l : List Int} {k : Nat} {v : Int} (h : k < l.length) : splice (ints l) k [.int .i64 v] = ints (l.set k v) := by
  rw [splice_one (by rw [ints_length]; exact h)]; simp [ints, List.map_set]
theorem ints_set {l : List Int} {k : Nat} {v : Int} : (ints l).set k (.int .i64 v) = ints (l.set k v) := by simp [ints, List.map_set]
theorem ints_sc {l : List Int} : (ints l).all AV.sc = true := by simp [ints, AV.sc]
theorem ints_rls {l : List Int} {n : Nat} : AV.rls n (ints l) = true := by rw [AV.rls_all]; simp [ints, AV.rl]
theorem ints_append {l m : List Int} : ints l ++ ints m = ints (l ++ m) := by simp [ints]
theorem ints_take {l : List Int} {k : Nat} : (ints l).take k = ints (l.take k) := by simp [ints]
theorem ints_drop {l : List Int} {k : Nat} : (ints l).drop k = ints (l.drop k) := by simp [ints]
theorem ints_cons {l : List Int} {k : Int} : AV.int .i64 k :: ints l = ints (k :: l) := by simp [ints]
theorem zrow {k : Nat} {z : Int} : (List.replicate k [AV.int .i64 z]).flatten = ints (List.replicate k z) := by
  unfold ints
  induction k with
  | zero => rfl
  | succ k ih => simp [List.replicate_succ, ih]
def isplice (l : List Int) (off : Nat) (m : List Int) : List Int := l.take off ++ m ++ l.drop (off + m.length)
theorem splice_intss {l m : List Int} {off : Nat} : splice (ints l) off (ints m) = ints (isplice l off m) := by
  simp [splice, isplice, ints]
theorem getD_set_same {l : List Int} {k : Nat} {v d : Int} (h : k < l.length) : (l.set k v).getD k d = v := by
  rw [List.getD_eq_getElem?_getD, List.getElem?_set_self h]; rfl
theorem ints_nil : ([] : List AV) = ints [] := rfl
end
end Go.Proofs.Yteeakkakkjhgoaa.A
