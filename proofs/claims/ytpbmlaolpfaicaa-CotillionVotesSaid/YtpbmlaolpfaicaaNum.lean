/- Plain laws of whole numbers that wrap. -/
import Derived.Test.YtpbmlaolpfaicaaAEzg
namespace Go.AEX
open Go Go.AE
set_option linter.unusedVariables false

theorem iwrap_u64 (n : Int) : iwrap .u64 n = n % 18446744073709551616 := by simp [iwrap, IntKind.wrap, IntKind.bits, IntKind.signed]
theorem iwrap_u32 (n : Int) : iwrap .u32 n = n % 4294967296 := by simp [iwrap, IntKind.wrap, IntKind.bits, IntKind.signed]
theorem iwrap_u8 (n : Int) : iwrap .u8 n = n % 256 := by simp [iwrap, IntKind.wrap, IntKind.bits, IntKind.signed]
theorem iwrap_i64 (n : Int) : iwrap .i64 n = if 9223372036854775808 ≤ n % 18446744073709551616 then n % 18446744073709551616 - 18446744073709551616 else n % 18446744073709551616 := by simp [iwrap, IntKind.wrap, IntKind.bits, IntKind.signed]
theorem iwrap_i64_in {n : Int} (h : -9223372036854775808 ≤ n ∧ n ≤ 9223372036854775807) : iwrap .i64 n = n := by rw [iwrap_i64]; omega
def U64 (n : Int) : Prop := 0 ≤ n ∧ n < 18446744073709551616
theorem U64.wrap (n : Int) : U64 (iwrap .u64 n) := by rw [iwrap_u64]; unfold U64; omega
theorem U64.bits (op : BinOp) (x y : Int) : U64 (ibits op .u64 x y) := by
  unfold ibits; cases op <;> exact U64.wrap _
theorem iv_len (k : IntKind) (l : List Int) : (iv k l).length = l.length := by simp [iv]
theorem iv_get {k : IntKind} {l : List Int} {i : Nat} {z : Int} (h : l[i]? = some z) : (iv k l)[i]? = some [.int k z] := by simp [iv, h]
theorem iv_hasI {k : IntKind} {l : List Int} {i : Nat} (h : i < l.length) : hasI k (iv k l) i 0 :=
  ⟨[.int k l[i]], l[i], iv_get (by simp [h]), by simp⟩
theorem iv_rint {k : IntKind} {l : List Int} {i : Nat} (h : i < l.length) : rint (iv k l) i 0 = l[i] := by
  simp [rint, List.getD_eq_getElem?_getD, iv, h]
theorem iv_sub {k : IntKind} {l : List Int} {i n : Nat} : sub (iv k l) i n = iv k ((l.drop i).take n) := by simp [sub, iv, List.map_take, List.map_drop]
theorem and_i64 (x : Int) {k : Nat} (hk : k < 2 ^ 63) : ∃ n : Nat, ibits .and .i64 x (k : Int) = (n : Int) ∧ n ≤ k := by
  refine ⟨(BitVec.ofInt 64 x &&& BitVec.ofInt 64 (k : Int)).toNat, ?_, ?_⟩
  · show iwrap .i64 ((BitVec.ofInt 64 x &&& BitVec.ofInt 64 (k : Int)).toNat : Int) = _
    have : (BitVec.ofInt 64 x &&& BitVec.ofInt 64 (k : Int)).toNat ≤ k := by
      rw [BitVec.toNat_and, BitVec.ofInt_natCast, BitVec.toNat_ofNat, Nat.mod_eq_of_lt (by omega)]
      exact Nat.and_le_right
    exact iwrap_i64_in (by omega)
  · rw [BitVec.toNat_and, BitVec.ofInt_natCast, BitVec.toNat_ofNat, Nat.mod_eq_of_lt (by omega)]
    exact Nat.and_le_right
end Go.AEX
