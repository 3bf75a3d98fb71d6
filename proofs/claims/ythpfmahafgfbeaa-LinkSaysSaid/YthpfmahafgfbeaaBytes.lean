/- Plain laws of rows of bytes. -/
import Derived.Test.YthpfmahafgfbeaaNum
namespace Go.AEX
open Go Go.AE
set_option linter.unusedVariables false
set_option linter.unusedSimpArgs false

theorem bytes_len (s : List UInt8) : (AE.bytes s).length = s.length := by simp [AE.bytes]
theorem bytes_get {s : List UInt8} {i : Nat} (h : i < s.length) : (AE.bytes s)[i]? = some [.int .u8 s[i].toNat] := by simp [AE.bytes, h]
theorem bytes_hasI {s : List UInt8} {i : Nat} (h : i < s.length) : hasI .u8 (AE.bytes s) i 0 := ⟨_, _, bytes_get h, by simp; rfl⟩
theorem bytes_rint {s : List UInt8} {i : Nat} (h : i < s.length) : rint (AE.bytes s) i 0 = (s[i].toNat : Int) := by
  simp [rint, List.getD_eq_getElem?_getD, bytes_get h]
theorem bytes_inR {s : List UInt8} {i : Nat} (h : i < s.length) : inR (AE.bytes s) i 0 1 := ⟨_, bytes_get h, by simp⟩
theorem bytes_rput {s : List UInt8} {i : Nat} (h : i < s.length) (b : UInt8) : rput (AE.bytes s) i 0 [.int .u8 b.toNat] = AE.bytes (s.set i b) := by
  unfold rput AE.bytes
  apply List.ext_getElem?
  intro j
  rw [List.getElem?_modify, List.getElem?_map, List.getElem?_map, List.getElem?_set]
  by_cases hj : i = j
  · subst hj; simp [h]
  · simp [hj]
theorem bytes_sub (s : List UInt8) (i n : Nat) : sub (AE.bytes s) i n = AE.bytes ((s.drop i).take n) := by simp [sub, AE.bytes, List.map_take, List.map_drop]
theorem bytes_to (s : List UInt8) : toBytes (AE.bytes s) = s := by
  unfold toBytes AE.bytes
  rw [List.map_map]
  conv => rhs; rw [← List.map_id s]
  apply List.map_congr_left
  intro b _
  simp
theorem bytes_all (s : List UInt8) : allU8 (AE.bytes s) := by
  intro x hx
  simp only [AE.bytes, List.mem_map] at hx
  obtain ⟨b, _, rfl⟩ := hx
  exact ⟨_, rfl⟩
theorem wf_u8 {c : Int} (hc : (Lit.int .u8 c).wf = true) : ∃ b : UInt8, c = (b.toNat : Int) := by
  simp [Lit.wf, IntKind.min, IntKind.max, IntKind.bits, IntKind.signed] at hc
  refine ⟨UInt8.ofNat c.toNat, ?_⟩
  rw [UInt8.toNat_ofNat']; omega
theorem xor_u8 (a b : UInt8) : ibits .xor .u8 (a.toNat : Int) (b.toNat : Int) = ((a ^^^ b).toNat : Int) := by
  have ha := a.toNat_lt
  have hb := b.toNat_lt
  show iwrap .u8 ((BitVec.ofInt 8 (a.toNat : Int) ^^^ BitVec.ofInt 8 (b.toNat : Int)).toNat : Int) = _
  have e : (BitVec.ofInt 8 (a.toNat : Int) ^^^ BitVec.ofInt 8 (b.toNat : Int)).toNat = (a ^^^ b).toNat := by
    rw [BitVec.ofInt_natCast, BitVec.ofInt_natCast, UInt8.toNat_xor, BitVec.toNat_xor, BitVec.toNat_ofNat, BitVec.toNat_ofNat, Nat.mod_eq_of_lt (by omega), Nat.mod_eq_of_lt (by omega)]
  rw [e, iwrap_u8]
  have := (a ^^^ b).toNat_lt
  omega
end Go.AEX
