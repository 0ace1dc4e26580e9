/- Arithmetic of 64 bits: shifts, masks, the 128-bit product. Conditions: none. -/
import Derived.Test.YteeakkakkjhgoaaA12
set_option linter.unusedVariables false
namespace Go.Proofs.Yteeakkakkjhgoaa.A
open Go Go.RowKit
theorem ints_gets {l : List Int} {k : Nat} {v : Int} (h : k < l.length) : (ints (l.set k v))[k]? = some (.int .i64 v) := by
  rw [ints_get (by simpa using h), getD_set_same h]
theorem shr32 (a : Int) : ashift .shr .u64 a 32 = some (.int .u64 (a / 4294967296)) := by
  unfold ashift
  simp [IntKind.bits]
  rw [Int.fdiv_eq_ediv_of_nonneg _ (by omega)]
theorem and32 {a : Int} (h : 0 ≤ a ∧ a < 18446744073709551616) : abits .and .u64 a 4294967295 = a % 4294967296 := by
  unfold abits
  obtain ⟨n, rfl⟩ := Int.eq_ofNat_of_zero_le h.1
  show IntKind.u64.wrap (((BitVec.ofInt 64 (n : Int) &&& BitVec.ofInt 64 4294967295).toNat : Nat) : Int) = _
  have e1 : (BitVec.ofInt 64 (n : Int) &&& BitVec.ofInt 64 4294967295).toNat = n % 4294967296 := by
    rw [BitVec.toNat_and]
    have : (BitVec.ofInt 64 (n : Int)).toNat = n := by
      rw [BitVec.toNat_ofInt]; omega
    rw [this]
    have e2 : (BitVec.ofInt 64 4294967295).toNat = 2 ^ 32 - 1 := by decide
    rw [e2, Nat.and_two_pow_sub_one_eq_mod]
  rw [e1]
  rw [IntWalk.u64_in _ (by omega)]
  omega
theorem wu64 {x : Int} (h : 0 ≤ x ∧ x ≤ 18446744073709551615) : IntKind.u64.wrap x = x := IntWalk.u64_in x h
theorem mulHi (x y : Int) (hx : 0 ≤ x) (hy : 0 ≤ y) (hx2 : x < 18446744073709551616) (hy2 : y < 18446744073709551616) :
    (x / 4294967296) * (y / 4294967296) + ((x / 4294967296) * (y % 4294967296) + (x % 4294967296) * (y % 4294967296) / 4294967296) / 4294967296 +
      (((x / 4294967296) * (y % 4294967296) + (x % 4294967296) * (y % 4294967296) / 4294967296) % 4294967296 + (x % 4294967296) * (y / 4294967296)) / 4294967296 = x * y / 18446744073709551616 := by
  generalize h1 : x / 4294967296 = x1
  generalize h0 : x % 4294967296 = x0
  generalize g1 : y / 4294967296 = y1
  generalize g0 : y % 4294967296 = y0
  have ex : x = x1 * 4294967296 + x0 := by omega
  have ey : y = y1 * 4294967296 + y0 := by omega
  have e : x * y = 18446744073709551616 * (x1 * y1) + 4294967296 * (x1 * y0 + x0 * y1) + x0 * y0 := by
    rw [ex, ey]; grind
  have b0 : 0 ≤ x0 * y0 := Int.mul_nonneg (by omega) (by omega)
  rw [e]
  generalize x1 * y1 = a at *
  generalize x1 * y0 = b at *
  generalize x0 * y1 = c at *
  generalize x0 * y0 = d at *
  omega
theorem mul_bd {a b : Int} (ha : 0 ≤ a ∧ a ≤ 4294967295) (hb : 0 ≤ b ∧ b ≤ 4294967295) : 0 ≤ a * b ∧ a * b ≤ 18446744065119617025 := by
  refine ⟨Int.mul_nonneg ha.1 hb.1, ?_⟩
  have := Int.mul_le_mul ha.2 hb.2 hb.1 (by omega)
  omega
theorem u64_mod (x : Int) : IntKind.u64.wrap x = x % 18446744073709551616 := by
  show Int.emod x _ = _
  rfl
end Go.Proofs.Yteeakkakkjhgoaa.A
