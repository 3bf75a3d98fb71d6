/- Plain laws of whole numbers that wrap. -/
import Derived.Test.YtcenagdeejbmgaaAEzd
namespace Go.AEX
open Go Go.AE
set_option linter.unusedVariables false

theorem iwrap_u64 (n : Int) : iwrap .u64 n = n % 18446744073709551616 := by simp [iwrap, IntKind.wrap, IntKind.bits, IntKind.signed]
theorem iwrap_u32 (n : Int) : iwrap .u32 n = n % 4294967296 := by simp [iwrap, IntKind.wrap, IntKind.bits, IntKind.signed]
theorem iwrap_u8 (n : Int) : iwrap .u8 n = n % 256 := by simp [iwrap, IntKind.wrap, IntKind.bits, IntKind.signed]
theorem iwrap_i64 (n : Int) : iwrap .i64 n = if 9223372036854775808 ≤ n % 18446744073709551616 then n % 18446744073709551616 - 18446744073709551616 else n % 18446744073709551616 := by simp [iwrap, IntKind.wrap, IntKind.bits, IntKind.signed]
theorem iwrap_i64_in {n : Int} (h : -9223372036854775808 ≤ n ∧ n ≤ 9223372036854775807) : iwrap .i64 n = n := by rw [iwrap_i64]; omega
/-- In the range of 64 bits without a sign. -/
def U64 (n : Int) : Prop := 0 ≤ n ∧ n < 18446744073709551616
theorem U64.wrap (n : Int) : U64 (iwrap .u64 n) := by rw [iwrap_u64]; unfold U64; omega
theorem iwrap_u64_in {n : Int} (h : U64 n) : iwrap .u64 n = n := by rw [iwrap_u64]; unfold U64 at h; omega
theorem quo_shr {x : Int} (h : U64 x) (k : Int) {d : Int} (hd : d = 2 ^ min k.toNat 64) : iwrap .u64 (x.tdiv d) = ishr .u64 x k := by
  unfold U64 at h
  have hp : 0 < d := by rw [hd]; exact Int.pow_pos (by decide)
  have h1 : x.tdiv d = x / d := Int.tdiv_eq_ediv_of_nonneg h.1
  have h2 : ishr .u64 x k = x / d := by
    show x.fdiv (2 ^ min k.toNat 64) = _
    rw [← hd, Int.fdiv_eq_ediv_of_nonneg _ (by omega)]
  rw [h1, h2, iwrap_u64]
  have h3 : 0 ≤ x / d := Int.ediv_nonneg h.1 (by omega)
  have h4 : x / d ≤ x := Int.ediv_le_self _ h.1
  omega
theorem U64.bits (op : BinOp) (x y : Int) : U64 (ibits op .u64 x y) := by
  unfold ibits; cases op <;> exact U64.wrap _
theorem iv_len (k : IntKind) (l : List Int) : (iv k l).length = l.length := by simp [iv]
theorem iv_get {k : IntKind} {l : List Int} {i : Nat} {z : Int} (h : l[i]? = some z) : (iv k l)[i]? = some [.int k z] := by simp [iv, h]
theorem iv_hasI {k : IntKind} {l : List Int} {i : Nat} (h : i < l.length) : hasI k (iv k l) i 0 :=
  ⟨[.int k l[i]], l[i], iv_get (by simp [h]), by simp⟩
theorem iv_rint {k : IntKind} {l : List Int} {i : Nat} (h : i < l.length) : rint (iv k l) i 0 = l[i] := by
  simp [rint, List.getD_eq_getElem?_getD, iv, h]
theorem iv_sub {k : IntKind} {l : List Int} {i n : Nat} : sub (iv k l) i n = iv k ((l.drop i).take n) := by simp [sub, iv, List.map_take, List.map_drop]
theorem and_mask32 {x : Int} (h : U64 x) : ibits .and .u64 x 4294967295 = x % 4294967296 := by
  obtain ⟨h0, h1⟩ := h
  obtain ⟨n, rfl⟩ := Int.eq_ofNat_of_zero_le h0
  show iwrap .u64 ((BitVec.ofInt 64 (n : Int) &&& BitVec.ofInt 64 ((4294967295 : Nat) : Int)).toNat : Int) = _
  rw [BitVec.ofInt_natCast, BitVec.ofInt_natCast, BitVec.toNat_and, BitVec.toNat_ofNat, BitVec.toNat_ofNat, Nat.mod_eq_of_lt (show n < 2 ^ 64 by omega), Nat.mod_eq_of_lt (show 4294967295 < 2 ^ 64 by omega),
    show 4294967295 = 2 ^ 32 - 1 by decide, Nat.and_two_pow_sub_one_eq_mod, iwrap_u64]
  omega
theorem shr_u64 {x : Int} (h : U64 x) : ishr .u64 x 32 = x / 4294967296 := by
  show x.fdiv (2 ^ min (Int.toNat 32) 64) = _
  rw [show (2 : Int) ^ min (Int.toNat 32) 64 = 4294967296 by decide, Int.fdiv_eq_ediv_of_nonneg _ (by omega)]
/-- Of a product the upper half, by halves. -/
theorem mul_halves {x y : Int} (hx : U64 x) (hy : U64 y) : ∃ p q r s : Int, p = x % 4294967296 * (y % 4294967296) ∧ q = x / 4294967296 * (y % 4294967296) ∧ r = x % 4294967296 * (y / 4294967296) ∧ s = x / 4294967296 * (y / 4294967296) ∧
    x * y = s * 18446744073709551616 + (q + r) * 4294967296 + p ∧ 0 ≤ p ∧ p ≤ 18446744065119617025 ∧ 0 ≤ q ∧ q ≤ 18446744065119617025 ∧ 0 ≤ r ∧ r ≤ 18446744065119617025 ∧ 0 ≤ s ∧ s ≤ 18446744065119617025 := by
  unfold U64 at hx hy
  have hx0 : 0 ≤ x % 4294967296 ∧ x % 4294967296 ≤ 4294967295 := by omega
  have hx1 : 0 ≤ x / 4294967296 ∧ x / 4294967296 ≤ 4294967295 := by omega
  have hy0 : 0 ≤ y % 4294967296 ∧ y % 4294967296 ≤ 4294967295 := by omega
  have hy1 : 0 ≤ y / 4294967296 ∧ y / 4294967296 ≤ 4294967295 := by omega
  have hxe : x = x / 4294967296 * 4294967296 + x % 4294967296 := by omega
  have hye : y = y / 4294967296 * 4294967296 + y % 4294967296 := by omega
  generalize x % 4294967296 = x0 at *
  generalize x / 4294967296 = x1 at *
  generalize y % 4294967296 = y0 at *
  generalize y / 4294967296 = y1 at *
  have bd : ∀ a b : Int, 0 ≤ a ∧ a ≤ 4294967295 → 0 ≤ b ∧ b ≤ 4294967295 → 0 ≤ a * b ∧ a * b ≤ 18446744065119617025 := fun a b ha hb =>
    ⟨Int.mul_nonneg ha.1 hb.1, by have := Int.mul_le_mul ha.2 hb.2 hb.1 (by decide); exact this⟩
  refine ⟨_, _, _, _, rfl, rfl, rfl, rfl, ?_, (bd _ _ hx0 hy0).1, (bd _ _ hx0 hy0).2, (bd _ _ hx1 hy0).1, (bd _ _ hx1 hy0).2, (bd _ _ hx0 hy1).1, (bd _ _ hx0 hy1).2, (bd _ _ hx1 hy1).1, (bd _ _ hx1 hy1).2⟩
  rw [hxe, hye]
  rw [Int.add_mul, Int.mul_add, Int.mul_add]
  have e1 : x1 * 4294967296 * (y1 * 4294967296) = x1 * y1 * 18446744073709551616 := by
    rw [Int.mul_assoc, Int.mul_left_comm 4294967296 y1, ← Int.mul_assoc]
    rfl
  have e2 : x1 * 4294967296 * y0 = x1 * y0 * 4294967296 := by rw [Int.mul_assoc, Int.mul_comm 4294967296 y0, ← Int.mul_assoc]
  have e3 : x0 * (y1 * 4294967296) = x0 * y1 * 4294967296 := by rw [Int.mul_assoc]
  rw [e1, e2, e3]; omega
/-- A mask of low bits. -/
theorem and_i64 (x : Int) {k : Nat} (hk : k < 2 ^ 63) : ∃ n : Nat, ibits .and .i64 x (k : Int) = (n : Int) ∧ n ≤ k := by
  refine ⟨(BitVec.ofInt 64 x &&& BitVec.ofInt 64 (k : Int)).toNat, ?_, ?_⟩
  · show iwrap .i64 ((BitVec.ofInt 64 x &&& BitVec.ofInt 64 (k : Int)).toNat : Int) = _
    have : (BitVec.ofInt 64 x &&& BitVec.ofInt 64 (k : Int)).toNat ≤ k := by
      rw [BitVec.toNat_and, BitVec.ofInt_natCast, BitVec.toNat_ofNat, Nat.mod_eq_of_lt (by omega)]
      exact Nat.and_le_right
    exact iwrap_i64_in (by omega)
  · rw [BitVec.toNat_and, BitVec.ofInt_natCast, BitVec.toNat_ofNat, Nat.mod_eq_of_lt (by omega)]
    exact Nat.and_le_right
end Go.AEX
