/- Words for evaluations. -/
import Derived.Test.YtpggjeeoknjnjaaBytes
namespace Go.AEX
open Go Go.AE
theorem addi_nat (k i : Nat) : addi k (i : Int) = k + i := rfl
theorem inc64 {i : Nat} (h : i < 1000000000000) : iwrap .i64 ((i : Int) + 1) = ((i + 1 : Nat) : Int) := by rw [iwrap_i64_in (by omega)]; rfl
theorem max_add (n k : Nat) : max (n + k) n = n + k := by omega
theorem sub_bytes_all (s : List UInt8) : sub (AE.bytes s) 0 s.length = AE.bytes s := by rw [bytes_sub]; simp
theorem bytes_app (s t : List UInt8) : AE.bytes s ++ AE.bytes t = AE.bytes (s ++ t) := by simp [AE.bytes]
theorem byte_one (b : UInt8) : [[AV.int .u8 (b.toNat : Int)]] = AE.bytes [b] := rfl
theorem sub_all (xs : List (List AV)) : sub xs 0 xs.length = xs := by simp [sub]
theorem seqb_self (s : List UInt8) : seqb s s = true := by simp [seqb]
attribute [go_sem] bne_self_eq_false seqb_self addi_nat Nat.zero_add Int.toNat_natCast max_add bytes_len sub_bytes_all sub_all bytes_app
end Go.AEX
