/- Num, Bytes, Com. -/
import Derived.Test.YthdkobfafncpcaaDoorAEzg
/- Plain laws of whole numbers that wrap. -/
namespace Go.AEX
open Go Go.AE
set_option linter.unusedVariables false

theorem iwrap_u64 (n : Int) : iwrap .u64 n = n % 18446744073709551616 := by simp [iwrap, IntKind.wrap, IntKind.bits, IntKind.signed]
theorem iwrap_u32 (n : Int) : iwrap .u32 n = n % 4294967296 := by simp [iwrap, IntKind.wrap, IntKind.bits, IntKind.signed]
theorem iwrap_u8 (n : Int) : iwrap .u8 n = n % 256 := by simp [iwrap, IntKind.wrap, IntKind.bits, IntKind.signed]
theorem iwrap_i64 (n : Int) : iwrap .i64 n = if 9223372036854775808 ≤ n % 18446744073709551616 then n % 18446744073709551616 - 18446744073709551616 else n % 18446744073709551616 := by simp [iwrap, IntKind.wrap, IntKind.bits, IntKind.signed]
theorem iwrap_i64_in {n : Int} (h : -9223372036854775808 ≤ n ∧ n ≤ 9223372036854775807) : iwrap .i64 n = n := by rw [iwrap_i64]; omega
def U64 (n : Int) : Prop := 0 ≤ n ∧ n < 18446744073709551616
theorem U64.wrap (n : Int) : U64 (iwrap .u64 n) := by rw [iwrap_u64]; unfold U64; omega
theorem U64.bits (op : BinOp) (x y : Int) : U64 (ibits op .u64 x y) := by
  unfold ibits; cases op <;> exact U64.wrap _
theorem iv_len (k : IntKind) (l : List Int) : (iv k l).length = l.length := by simp [iv]
theorem iv_get {k : IntKind} {l : List Int} {i : Nat} {z : Int} (h : l[i]? = some z) : (iv k l)[i]? = some [.int k z] := by simp [iv, h]
theorem iv_hasI {k : IntKind} {l : List Int} {i : Nat} (h : i < l.length) : hasI k (iv k l) i 0 :=
  ⟨[.int k l[i]], l[i], iv_get (by simp [h]), by simp⟩
theorem iv_rint {k : IntKind} {l : List Int} {i : Nat} (h : i < l.length) : rint (iv k l) i 0 = l[i] := by
  simp [rint, List.getD_eq_getElem?_getD, iv, h]
theorem iv_sub {k : IntKind} {l : List Int} {i n : Nat} : sub (iv k l) i n = iv k ((l.drop i).take n) := by simp [sub, iv, List.map_take, List.map_drop]
end Go.AEX

/- Plain laws of rows of bytes. -/
namespace Go.AEX
open Go Go.AE
set_option linter.unusedVariables false
set_option linter.unusedSimpArgs false

theorem bytes_len (s : List UInt8) : (AE.bytes s).length = s.length := by simp [AE.bytes]
theorem bytes_sub (s : List UInt8) (i n : Nat) : sub (AE.bytes s) i n = AE.bytes ((s.drop i).take n) := by simp [sub, AE.bytes, List.map_take, List.map_drop]
end Go.AEX

/- Words for evaluations. -/
namespace Go.AEX
open Go Go.AE
theorem inc64 {i : Nat} (h : i < 1000000000000) : iwrap .i64 ((i : Int) + 1) = ((i + 1 : Nat) : Int) := by rw [iwrap_i64_in (by omega)]; rfl
theorem max_add (n k : Nat) : max (n + k) n = n + k := by omega
theorem sub_bytes_all (s : List UInt8) : sub (AE.bytes s) 0 s.length = AE.bytes s := by rw [bytes_sub]; simp
theorem bytes_app (s t : List UInt8) : AE.bytes s ++ AE.bytes t = AE.bytes (s ++ t) := by simp [AE.bytes]
theorem sub_all (xs : List (List AV)) : sub xs 0 xs.length = xs := by simp [sub]
theorem ssub_take (s : List UInt8) (k : Nat) : ssub s 0 k = s.take k := by simp [ssub]
theorem ssub_drop (s : List UInt8) (k : Nat) : ssub s k s.length = s.drop k := by unfold ssub; rw [List.take_of_length_le (by simp)]
theorem seqb_cons (c : UInt8) (s : List UInt8) : seqb (c :: s) [] = false := rfl
theorem seqb_nil : seqb [] [] = true := rfl
theorem seqb_self (s : List UInt8) : seqb s s = true := by simp [seqb]
attribute [go_sem] if_true if_false List.length_replicate seqb_cons seqb_nil ssub_take ssub_drop Nat.le_refl bne_self_eq_false seqb_self addi Int.cast_ofNat_Int Int.natCast_zero Int.natCast_one Nat.zero_add Int.toNat_natCast max_add bytes_len sub_bytes_all sub_all bytes_app
/-! rows told one by one -/
def rintL : List AV → Nat → Int
  | [], _ => 0
  | a :: r, j => match j with | 0 => (match a with | .int _ n => n | _ => 0) | j + 1 => rintL r j
def rboolL : List AV → Nat → Bool
  | [], _ => false
  | a :: r, j => match j with | 0 => (match a with | .bool b => b | .bsym b => b | _ => false) | j + 1 => rboolL r j
def rstrL : List AV → Nat → List UInt8
  | [], _ => []
  | a :: r, j => match j with | 0 => (match a with | .str s => s | _ => []) | j + 1 => rstrL r j
def hasIL (k : IntKind) : List AV → Nat → Bool
  | [], _ => false
  | a :: r, j => match j with | 0 => (match a with | .int k' _ => kd k k' | _ => false) | j + 1 => hasIL k r j
def hasBL : List AV → Nat → Bool
  | [], _ => false
  | a :: r, j => match j with | 0 => (match a with | .bool _ | .bsym _ => true | _ => false) | j + 1 => hasBL r j
def hasSL : List AV → Nat → Bool
  | [], _ => false
  | a :: r, j => match j with | 0 => (match a with | .str _ => true | _ => false) | j + 1 => hasSL r j
theorem rint_0 (x : List AV) (xs : List (List AV)) (j : Nat) : rint (x :: xs) 0 j = rintL x j := by
  unfold rint
  simp only [List.getD_cons_zero]
  induction x generalizing j with
  | nil => simp [rintL]
  | cons a r ih => cases j with | zero => cases a <;> simp [rintL] | succ j => simpa [rintL] using ih j
theorem rbool_0 (x : List AV) (xs : List (List AV)) (j : Nat) : rbool (x :: xs) 0 j = rboolL x j := by
  unfold rbool
  simp only [List.getD_cons_zero]
  induction x generalizing j with
  | nil => simp [rboolL]
  | cons a r ih => cases j with | zero => cases a <;> simp [rboolL] | succ j => simpa [rboolL] using ih j
theorem rstr_0 (x : List AV) (xs : List (List AV)) (j : Nat) : rstr (x :: xs) 0 j = rstrL x j := by
  unfold rstr
  simp only [List.getD_cons_zero]
  induction x generalizing j with
  | nil => simp [rstrL]
  | cons a r ih => cases j with | zero => cases a <;> simp [rstrL] | succ j => simpa [rstrL] using ih j
theorem rint_s (x : List AV) (xs : List (List AV)) (i j : Nat) : rint (x :: xs) (i + 1) j = rint xs i j := by simp [rint]
theorem rbool_s (x : List AV) (xs : List (List AV)) (i j : Nat) : rbool (x :: xs) (i + 1) j = rbool xs i j := by simp [rbool]
theorem rstr_s (x : List AV) (xs : List (List AV)) (i j : Nat) : rstr (x :: xs) (i + 1) j = rstr xs i j := by simp [rstr]
theorem hasI_s (k : IntKind) (x : List AV) (xs : List (List AV)) (i j : Nat) : hasI k (x :: xs) (i + 1) j = hasI k xs i j := by simp [hasI]
theorem hasB_s (x : List AV) (xs : List (List AV)) (i j : Nat) : hasB (x :: xs) (i + 1) j = hasB xs i j := by simp [hasB]
theorem hasS_s (x : List AV) (xs : List (List AV)) (i j : Nat) : hasS (x :: xs) (i + 1) j = hasS xs i j := by simp [hasS]
theorem hasI_0 (k : IntKind) (x : List AV) (xs : List (List AV)) (j : Nat) : hasI k (x :: xs) 0 j = (hasIL k x j = true) := by
  unfold hasI
  simp only [List.getElem?_cons_zero, Option.some.injEq, exists_and_left, exists_eq_left']
  induction x generalizing j with
  | nil => simp [hasIL]
  | cons a r ih => cases j with
    | zero =>
      cases a
      case int k' n =>
        simp [hasIL, kd]
        exact ⟨fun h => h.symm, fun h => h.symm⟩
      all_goals simp [hasIL]
    | succ j => simpa [hasIL] using ih j
theorem hasB_0 (x : List AV) (xs : List (List AV)) (j : Nat) : hasB (x :: xs) 0 j = (hasBL x j = true) := by
  unfold hasB
  simp only [List.getElem?_cons_zero, Option.some.injEq, exists_and_left, exists_eq_left']
  induction x generalizing j with
  | nil => simp [hasBL]
  | cons a r ih => cases j with | zero => cases a <;> simp [hasBL] | succ j => simpa [hasBL] using ih j
theorem hasS_0 (x : List AV) (xs : List (List AV)) (j : Nat) : hasS (x :: xs) 0 j = (hasSL x j = true) := by
  unfold hasS
  simp only [List.getElem?_cons_zero, Option.some.injEq, exists_and_left, exists_eq_left']
  induction x generalizing j with
  | nil => simp [hasSL]
  | cons a r ih => cases j with | zero => cases a <;> simp [hasSL] | succ j => simpa [hasSL] using ih j
attribute [go_sem] rint_0 rbool_0 rstr_0 rint_s rbool_s rstr_s hasI_s hasB_s hasS_s hasI_0 hasB_0 hasS_0 rintL rboolL rstrL hasIL hasBL hasSL
/-! rows of texts -/
theorem svl_len (l : List (List UInt8)) : (sv l).length = l.length := by simp [sv]
theorem svl_app (l k : List (List UInt8)) : sv l ++ sv k = sv (l ++ k) := by simp [sv]
theorem svl_sub (l : List (List UInt8)) : sub (sv l) 0 l.length = sv l := by have := sub_all (sv l); rwa [svl_len] at this
attribute [go_sem] svl_len svl_app svl_sub
end Go.AEX
