/- Turned to this seat by turn.py: WWire.lean Wire2.lean Wire3.lean WireS.lean Wire4.lean WireP.lean WireT.lean. -/
import Derived.Test.YthpfmahafgfbeaaCom
import Derived.Test.YthpfmahafgfbeaaHSum
import Derived.Test.YthpfmahafgfbeaaAEzj
import Derived.Test.YthpfmahafgfbeaaAEsa
namespace Go.AEX
open Go Go.AE Go.Proofs
set_option maxRecDepth 100000
set_option linter.unusedVariables false
set_option linter.unusedSimpArgs false

def numB (n : Nat) : List UInt8 := if 127 < n then UInt8.ofNat (128 + n % 128) :: numB (n / 128) else [UInt8.ofNat n]
termination_by n
theorem numB_more {n : Nat} (h : 127 < n) : numB n = UInt8.ofNat (128 + n % 128) :: numB (n / 128) := by rw [numB, if_pos h]
theorem numB_last {n : Nat} (h : n ≤ 127) : numB n = [UInt8.ofNat n] := by rw [numB, if_neg (by omega)]
theorem numB_len : ∀ (k n : Nat), n < 128 ^ (k + 1) → (numB n).length ≤ k + 1
  | 0, n, h => by rw [numB_last (by simp at h; omega)]; simp
  | k + 1, n, h => by
    by_cases h1 : 127 < n
    · rw [numB_more h1]
      have := numB_len k (n / 128) (by rw [Nat.pow_succ] at h; exact Nat.div_lt_of_lt_mul (by rw [Nat.mul_comm]; exact h))
      simp; exact this
    · rw [numB_last (by omega)]; simp
theorem numB_len10 {n : Nat} (h : n < 18446744073709551616) : (numB n).length ≤ 10 := numB_len 9 n (Nat.lt_of_lt_of_le h (by decide))
theorem toBytes_one (k : IntKind) (n : Int) : toBytes [[.int k n]] = [UInt8.ofNat n.toNat] := rfl
theorem all_one (n : Int) : allU8 [[.int .u8 n]] := by intro x hx; simp at hx; exact ⟨n, hx⟩
theorem rlow (n : Nat) (h : n < 18446744073709551616) : UInt8.ofNat (iwrap .u8 (iwrap .u64 (128 + (n : Int).tmod 128))).toNat = UInt8.ofNat (128 + n % 128) := by
  rw [iwrap_u64, iwrap_u8, Int.tmod_eq_emod_of_nonneg (by omega)]
  congr 1; omega
theorem rdiv (n : Nat) (h : n < 18446744073709551616) : iwrap .u64 ((n : Int).tdiv 128) = ((n / 128 : Nat) : Int) := by
  rw [iwrap_u64, Int.tdiv_eq_ediv_of_nonneg (by omega)]; omega
theorem rlast (n : Nat) (h : n ≤ 127) : UInt8.ofNat (iwrap .u8 (n : Int)).toNat = UInt8.ofNat n := by
  rw [iwrap_u8]; congr 1; omega
theorem rNum_spec (N : Nat) (hN : N < 18446744073709551616) : Tri Try.prog 63 [.int .u64 (N : Nat)] [] (fun v m => v = .str (numB N) ∧ m = []) := by
  refine (Tri.enter (rl := r63) (code := c63) (by kernel_rfl) Try.func63 rfl c63_ok (by kernel_rfl) (by kernel_rfl) ?_)
  refine run_ok 4000 _ _ _ _ ?_
  simp (maxSteps := 10000000) only [go_sem, c63, r63]
  refine sem_rounds (fun x : Nat × Nat × List UInt8 => x.1 ≤ 10 ∧ x.2.1 * 128 ^ x.1 ≤ N ∧ x.2.2 ++ numB x.2.1 = numB N ∧ x.2.2.length = x.1) (fun x => [(0, .int .u64 (x.2.1 : Nat)), (3, .str x.2.2), (4, .int .i64 (x.1 : Nat))]) (fun x => []) (fun x => 10 - x.1) (0, N, []) [] ⟨by simp, by simp, by simp, rfl⟩ ?_ ?_
  · simp only [Emb, go_sem]
  rintro ⟨i, n, s⟩ ⟨h1, h2, h3, h4⟩
  simp only at h1 h2 h3 h4
  have hn : n < 18446744073709551616 := Nat.lt_of_le_of_lt (Nat.le_trans (Nat.le_mul_of_pos_right _ (Nat.pow_pos (by decide))) h2) hN
  refine run_ok 4000 _ _ _ _ ?_
  simp (maxSteps := 10000000) only [go_sem]
  refine ⟨fun hi => ⟨fun hm => ?_, fun hm => ?_⟩, fun hi => ?_⟩
  · have hm : 127 < n := by omega
    rw [toBytes_one, rlow n hn, rdiv n hn]
    refine ⟨all_one _, by simp; omega, (i + 1, n / 128, s ++ [UInt8.ofNat (128 + n % 128)]), by simp only; omega, ⟨by simp only; omega, ?_, ?_, by simp [h4]⟩, [], ?_⟩
    · simp only
      refine Nat.le_trans ?_ h2
      rw [Nat.pow_succ, Nat.mul_comm (128 ^ i) 128, ← Nat.mul_assoc]
      exact Nat.mul_le_mul_right _ (Nat.div_mul_le_self _ _)
    · simp only; rw [← h3, numB_more hm]; simp
    · simp only [Emb, go_sem]
      rw [iwrap_i64_in (by omega)]
      simp
  · refine run_ok 4000 _ _ _ _ ?_
    simp (maxSteps := 10000000) only [go_sem]
    rw [toBytes_one, rlast n (by omega)]
    refine ⟨all_one _, by simp; omega, ?_⟩
    rw [← h3, numB_last (by omega)]
  · refine run_ok 4000 _ _ _ _ ?_
    simp (maxSteps := 10000000) only [go_sem]
    have : i = 10 := by omega
    subst this
    have : n ≤ 127 := by
      have : n * 128 ^ 10 < 18446744073709551616 := Nat.lt_of_le_of_lt h2 hN
      have : n * 1180591620717411303424 < 18446744073709551616 := this
      omega
    rw [toBytes_one, rlast n (by omega)]
    refine ⟨all_one _, by simp; omega, ?_⟩
    rw [← h3, numB_last (by omega)]
theorem or128 (n : Nat) : ibits .or .u8 (iwrap .u8 (n : Int)) 128 = ((UInt8.ofNat (128 + n % 128)).toNat : Int) := by
  have e : iwrap .u8 (n : Int) = ((n % 256 : Nat) : Int) := by rw [iwrap_u8]; omega
  have key : ∀ x : Nat, x < 256 → ibits .or .u8 (x : Int) 128 = ((128 + x % 128 : Nat) : Int) := by decide +kernel
  rw [e, key _ (by omega), UInt8.toNat_ofNat']; omega
theorem byte_last (n : Nat) (h : n ≤ 127) : iwrap .u8 (n : Int) = ((UInt8.ofNat n).toNat : Int) := by
  rw [iwrap_u8, UInt8.toNat_ofNat']; omega
theorem shr7 (n : Nat) (h : n < 18446744073709551616) : ishr .u64 (n : Int) 7 = ((n / 128 : Nat) : Int) := by
  show (n : Int).fdiv (2 ^ min (Int.toNat 7) 64) = _
  rw [show (2 : Int) ^ min (Int.toNat 7) 64 = 128 by decide, Int.fdiv_eq_ediv_of_nonneg _ (by omega)]; omega
def outM (s : List UInt8) : Mem := [.box [.sl 1 0 s.length s.length false], .row 1 (AE.bytes s)]
def outM2 (s : List UInt8) : Mem := [.box [.sl 2 0 s.length s.length false], .gone, .row 1 (AE.bytes s)]
attribute [go_sem] outM outM2
def numsB (l : List Nat) : List UInt8 := (l.map numB).flatten
def nv (l : List Nat) : List (List AV) := l.map fun (n : Nat) => [AV.int .u64 (n : Int)]
theorem nv_len (l : List Nat) : (nv l).length = l.length := by simp [nv]
theorem nv_get {l : List Nat} {i : Nat} (h : i < l.length) : (nv l)[i]? = some [.int .u64 (l[i] : Nat)] := by simp [nv, h]
theorem nv_hasI {l : List Nat} {i : Nat} (h : i < l.length) : hasI .u64 (nv l) i 0 := ⟨_, _, nv_get h, by simp; rfl⟩
theorem nv_rint {l : List Nat} {i : Nat} (h : i < l.length) : rint (nv l) i 0 = (l[i] : Nat) := by simp [rint, List.getD_eq_getElem?_getD, nv_get h]
theorem numsB_take (l : List Nat) (i : Nat) (h : i < l.length) : numsB (l.take (i + 1)) = numsB (l.take i) ++ numB l[i] := by
  unfold numsB; rw [List.take_succ_eq_append_getElem h, List.map_append, List.flatten_append]; simp
theorem numsB_len (l : List Nat) (h : ∀ n ∈ l, n < 18446744073709551616) : (numsB l).length ≤ 10 * l.length := by
  induction l with
  | nil => simp [numsB]
  | cons n l ih =>
    have := ih fun m hm => h m (by simp [hm])
    have := numB_len10 (h n (by simp))
    simp only [numsB, List.map_cons, List.flatten_cons, List.length_append, List.length_cons] at *
    omega
theorem wNum_spec (l : List Nat) (tight : Bool) (s : List UInt8) (hl : ∀ n ∈ l, n < 18446744073709551616) (hs : s.length + 10 * l.length ≤ 1000000) :
    Tri Try.prog 70 [.pbox 0 0, .vsl 1 (nv l) tight] (outM s) (fun v m => v = .pbox 0 0 ∧ m = outM2 (s ++ numsB l)) := by
  unfold outM outM2
  refine (Tri.enter (rl := r70) (code := c70) (by kernel_rfl) Try.func70 rfl c70_ok (by kernel_rfl) (by kernel_rfl) ?_)
  refine run_ok 4000 _ _ _ _ ?_
  simp (maxSteps := 10000000) only [go_sem, c70, r70]
  refine sem_move 1 rfl ?_
  simp only [go_sem]
  refine sem_rounds (fun i : Nat => i ≤ l.length) (fun i => [(0, .pbox 0 0), (7, .vsl 1 (nv l) tight), (8, .int .i64 l.length), (9, .int .i64 i)]) (fun i => [.box [.sl 2 0 (s ++ numsB (l.take i)).length (s ++ numsB (l.take i)).length false], .gone, .row 1 (AE.bytes (s ++ numsB (l.take i)))]) (fun i => l.length - i) 0 [0, 1, 2] (Nat.zero_le _) ?_ ?_
  · simp only [Emb, go_sem]; simp [nv_len, numsB]
  intro i hi
  refine run_ok 4000 _ _ _ _ ?_
  simp (maxSteps := 10000000) only [go_sem]
  refine ⟨fun hlt => ?_, fun hge => ?_⟩
  · have hlt : i < l.length := by omega
    rw [nv_rint hlt, nv_len]
    refine ⟨by constructor <;> omega, nv_hasI hlt, ?_⟩
    have hN := hl _ (List.getElem_mem hlt)
    have hT := numsB_len (l.take i) fun n hn => hl n (List.mem_of_mem_take hn)
    have hT2 : (l.take i).length ≤ l.length - 1 := by simp; omega
    have hB := numB_len10 hN
    generalize hS : s ++ numsB (l.take i) = S
    have hSl : S.length + 10 ≤ 1000000 := by rw [← hS, List.length_append]; omega
    refine sem_rounds (fun x : Nat × List UInt8 => x.1 ≤ l[i] ∧ x.2 ++ numB x.1 = S ++ numB l[i]) (fun x => [(0, .pbox 0 0), (7, .vsl 1 (nv l) tight), (8, .int .i64 l.length), (9, .int .i64 i), (6, .int .u64 (x.1 : Nat))]) (fun x => [.box [.sl 2 0 x.2.length x.2.length false], .gone, .row 1 (AE.bytes x.2)]) (fun x => x.1) (l[i], S) [0, 1, 2] ⟨Nat.le_refl _, rfl⟩ ?_ ?_
    · simp only [Emb, go_sem]
    rintro ⟨n, x⟩ ⟨h1, h2⟩
    simp only at h1 h2
    have hx : x.length + (numB n).length ≤ 1000000 := by have := congrArg List.length h2; simp only [List.length_append] at this; omega
    refine run_ok 4000 _ _ _ _ ?_
    simp (maxSteps := 10000000) only [go_sem]
    refine ⟨fun hm => ?_, fun hm => ?_⟩
    · have hm : 127 < n := by omega
      rw [numB_more hm] at hx
      simp only [List.length_cons] at hx
      refine ⟨by unfold small; omega, (n / 128, x ++ [UInt8.ofNat (128 + n % 128)]), by simp only; omega, ⟨by simp only; omega, by simp only; rw [← h2, numB_more hm]; simp⟩, [0, 1, 3], ?_⟩
      simp only [Emb, go_sem, or128, byte_one, shr7 n (by omega)]
      simp
    · refine run_ok 4000 _ _ _ _ ?_
      simp (maxSteps := 10000000) only [go_sem]
      refine ⟨by unfold small; omega, i + 1, by omega, by omega, [0, 1, 3], ?_⟩
      rw [numB_last (by omega)] at h2
      simp only [Emb, go_sem, byte_last n (by omega), byte_one, inc64 (show i < 1000000000000 by omega), numsB_take l i hlt]
      rw [h2, ← hS]
      have := congrArg List.length h2
      simp at this
      simp [this, ← hS, Nat.add_assoc]
  · refine run_ok 4000 _ _ _ _ ?_
    simp (maxSteps := 10000000) only [go_sem]
    rw [List.take_of_length_le (by omega)]
def inM (s : List UInt8) (e : Int) : Mem := [.box [.str s, .int .i64 e]]
attribute [go_sem] inM
theorem open_spec (s : List UInt8) : Tri Try.prog 48 [.str s] [] (fun v m => v = .pbox 0 0 ∧ m = inM s 0) := by
  refine (Tri.enter (rl := r48) (code := c48) (by kernel_rfl) Try.func48 rfl c48_ok (by kernel_rfl) (by kernel_rfl) ?_)
  refine run_ok 4000 _ _ _ _ ?_
  simp (maxSteps := 10000000) only [go_sem, c48, r48]
theorem err_spec (s : List UInt8) (e : Int) : Tri Try.prog 50 [.pbox 0 0] (inM s e) (fun v m => v = .int .i64 e ∧ m = inM s e) := by
  refine (Tri.enter (rl := r50) (code := c50) (by kernel_rfl) Try.func50 rfl c50_ok (by kernel_rfl) (by kernel_rfl) ?_)
  refine run_ok 4000 _ _ _ _ ?_
  simp (maxSteps := 10000000) only [go_sem, c50, r50]
def failF (x : List UInt8 × Int) (e : Int) : List UInt8 × Int := if x.2 = 0 ∧ e ≠ 0 then ([], e) else x
theorem fail_spec (s : List UInt8) (e f : Int) : Tri Try.prog 82 [.pbox 0 0, .int .i64 f] (inM s e) (fun v m => v = .tup [] ∧ m = inM (failF (s, e) f).1 (failF (s, e) f).2) := by
  refine (Tri.enter (rl := r82) (code := c82) (by kernel_rfl) Try.func82 rfl c82_ok (by kernel_rfl) (by kernel_rfl) ?_)
  refine run_ok 4000 _ _ _ _ ?_
  simp (maxSteps := 10000000) only [go_sem, c82, r82]
  refine ⟨fun h1 => ⟨fun h2 => ?_, fun h2 => ?_⟩, fun h1 => ?_⟩
  · have h1 : e = 0 := by simpa using h1
    have h2 : f ≠ 0 := by simpa using h2
    simp [failF, h1, h2]
  · have h2 : f = 0 := by simpa using h2
    simp [failF, h2]
  · have h1 : e ≠ 0 := by simpa using h1
    simp [failF, h1]
def rawF (x : List UInt8 × Int) (n : Int) : (List UInt8 × Int) × List UInt8 := if x.2 ≠ 0 ∨ n ≤ 0 then (x, []) else if n > (x.1.length : Int) then (([], 1), []) else ((x.1.drop n.toNat, 0), x.1.take n.toNat)
theorem raw_spec (s : List UInt8) (e n : Int) : Tri Try.prog 83 [.pbox 0 0, .int .i64 n] (inM s e) (fun v m => v = .str (rawF (s, e) n).2 ∧ m = inM (rawF (s, e) n).1.1 (rawF (s, e) n).1.2) := by
  refine (Tri.enter (rl := r83) (code := c83) (by kernel_rfl) Try.func83 rfl c83_ok (by kernel_rfl) (by kernel_rfl) ?_)
  refine run_ok 4000 _ _ _ _ ?_
  simp (maxSteps := 10000000) only [go_sem, c83, r83]
  refine ⟨fun h1 => ?_, fun h1 => ⟨fun h2 => ?_, fun h2 => ⟨fun h3 => ?_, fun h3 => ⟨⟨by omega, by omega⟩, ⟨by omega, by omega⟩, ?_⟩⟩⟩⟩
  · have h1 : e ≠ 0 := by simpa using h1
    simp [rawF, h1]
  · simp [rawF, h2]
  · have h1 : e = 0 := by simpa using h1
    subst h1
    refine sem_call rfl rfl (((fail_spec s 0 1).embed [0] rfl (by repeat' first | exact trivial | rfl | (simp only [go_sem]; done) | constructor) rfl (by first | rfl | simp only [go_sem]) rfl (by simp)).mono ?_)
    rintro _ _ ⟨_, _, ⟨rfl, rfl⟩, rfl, rfl⟩
    refine run_ok 4000 _ _ _ _ ?_
    simp (maxSteps := 10000000) only [go_sem]
    simp [failF, rawF, h2]
    rw [if_pos (by omega)]
    simp
  · have h1 : e = 0 := by simpa using h1
    subst h1
    simp [rawF, h2]
    rw [if_neg (by omega)]
    simp
def tk : Nat → Nat → List UInt8 → Nat × List UInt8 × Int
  | _, _, [] => (0, [], 1)
  | k, n, c :: s => if (c.toNat = 0 ∧ 0 < k) ∨ (k = 9 ∧ 1 < c.toNat) then (0, [], 2) else
      if c.toNat < 128 then (n + c.toNat % 128 * 128 ^ k, s, 0) else tk (k + 1) (n + c.toNat % 128 * 128 ^ k) s
def numI (x : List UInt8 × Int) : Nat × List UInt8 × Int := if x.2 ≠ 0 then (0, x.1, x.2) else tk 0 0 x.1
theorem rfl_len1 : (0 : Int) < 1 := by decide
theorem pow128 (k : Nat) : 128 ^ k = 2 ^ (7 * k) := by rw [Nat.pow_mul]
theorem num_bits {n C k : Nat} (hn : n < 128 ^ k) (hk : k ≤ 9) (hC : C < 256) (h9 : k = 9 → C ≤ 1) : n + C % 128 * 128 ^ k < 18446744073709551616 ∧
    ibits .or .u64 (n : Int) (ishl .u64 (iwrap .u64 (ibits .and .u8 (C : Int) 127)) ((7 * k : Nat) : Int)) = ((n + C % 128 * 128 ^ k : Nat) : Int) := by
  have e1 : ibits .and .u8 (C : Int) 127 = ((C % 128 : Nat) : Int) := by
    have key : ∀ x : Nat, x < 256 → ibits .and .u8 (x : Int) 127 = ((x % 128 : Nat) : Int) := by decide +kernel
    exact key C hC
  have hx : C % 128 * 128 ^ k + 128 ^ k ≤ 18446744073709551616 := by
    by_cases h : k = 9
    · have hc1 : C % 128 ≤ 1 := by have := h9 h; omega
      subst h
      have e : (128 : Nat) ^ 9 = 9223372036854775808 := by decide
      rw [e]
      have h3 : C % 128 * 9223372036854775808 ≤ 1 * 9223372036854775808 := Nat.mul_le_mul_right _ hc1
      exact Nat.le_trans (Nat.add_le_add_right h3 _) (by decide)
    · have h2 : 128 ^ k ≤ 72057594037927936 := Nat.le_trans (Nat.pow_le_pow_right (by decide) (show k ≤ 8 by omega)) (by decide)
      have h3 : C % 128 * 128 ^ k ≤ 127 * 72057594037927936 := Nat.mul_le_mul (by omega) h2
      omega
  have hp : 0 < 128 ^ k := Nat.pow_pos (by decide)
  refine ⟨by omega, ?_⟩
  have e2 : iwrap .u64 ((C % 128 : Nat) : Int) = ((C % 128 : Nat) : Int) := by rw [iwrap_u64]; omega
  have e3 : ishl .u64 ((C % 128 : Nat) : Int) ((7 * k : Nat) : Int) = ((C % 128 * 128 ^ k : Nat) : Int) := by
    show iwrap .u64 (((C % 128 : Nat) : Int) * 2 ^ min (((7 * k : Nat) : Int).toNat) 64) = _
    rw [Int.toNat_natCast, Nat.min_eq_left (by omega), pow128, iwrap_u64]
    rw [pow128] at hx
    push_cast at hx ⊢
    exact Int.emod_eq_of_lt (Int.mul_nonneg (by omega) (Int.le_of_lt (Int.pow_pos (by decide)))) (by
      have : ((C % 128 * 2 ^ (7 * k) : Nat) : Int) < 18446744073709551616 := by have : 0 < 2 ^ (7 * k) := Nat.pow_pos (by decide); omega
      push_cast at this; exact this)
  rw [e1, e2, e3]
  show iwrap .u64 ((BitVec.ofInt 64 (n : Int) ||| BitVec.ofInt 64 ((C % 128 * 128 ^ k : Nat) : Int)).toNat : Int) = _
  rw [BitVec.ofInt_natCast, BitVec.ofInt_natCast, BitVec.toNat_or, BitVec.toNat_ofNat, BitVec.toNat_ofNat, Nat.mod_eq_of_lt (show n < 2 ^ 64 by omega), Nat.mod_eq_of_lt (show C % 128 * 128 ^ k < 2 ^ 64 by omega)]
  rw [pow128] at hn ⊢
  have h5 := Nat.two_pow_add_eq_or_of_lt hn (C % 128)
  rw [Nat.mul_comm (C % 128), Nat.or_comm, ← h5, iwrap_u64]
  rw [pow128] at hx
  rw [Nat.mul_comm (C % 128)] at hx
  omega
theorem inum_spec (s : List UInt8) (e : Int) : Tri Try.prog 81 [.pbox 0 0] (inM s e) (fun v m => v = .int .u64 ((numI (s, e)).1 : Nat) ∧ m = inM (numI (s, e)).2.1 (numI (s, e)).2.2) := by
  by_cases he : e = 0
  · subst he
    have hnum : numI (s, 0) = tk 0 0 s := by simp [numI]
    rw [hnum]
    refine Tri.post ?_
    refine (Tri.enter (rl := r81) (code := c81) (by kernel_rfl) Try.func81 rfl c81_ok (by kernel_rfl) (by kernel_rfl) ?_)
    refine run_ok 4000 _ _ _ _ ?_
    simp (maxSteps := 10000000) only [go_sem, c81, r81]
    refine sem_rounds (fun x : Nat × Nat × List UInt8 => x.1 ≤ 9 ∧ x.2.1 < 128 ^ x.1 ∧ tk x.1 x.2.1 x.2.2 = tk 0 0 s) (fun x => [(0, .pbox 0 0), (3, .int .u64 (x.2.1 : Nat)), (4, .int .i64 (7 * x.1 : Nat))])
      (fun x => [.box [.str x.2.2, .int .i64 0]]) (fun x => 10 - x.1) (0, 0, s) [0] ⟨by simp, by simp, rfl⟩ ?_ ?_
    · simp only [Emb, go_sem, Nat.mul_zero]
    rintro ⟨k, n, r⟩ ⟨h1, h2, h3⟩
    simp only at h1 h2 h3
    refine run_ok 4000 _ _ _ _ ?_
    simp (maxSteps := 10000000) only [go_sem]
    cases r with
    | nil =>
      have htk : tk 0 0 s = (0, [], 1) := by rw [← h3]; rfl
      have hr : rawF ([], 0) 1 = (([], 1), []) := by decide
      skip
      refine sem_call rfl rfl (((raw_spec [] 0 1).embed [0] rfl (by repeat' first | exact trivial | rfl | (simp only [go_sem]; done) | constructor) rfl (by first | rfl | simp only [go_sem]) rfl (by simp)).mono ?_)
      rintro _ _ ⟨_, _, ⟨rfl, rfl⟩, rfl, rfl⟩
      refine run_ok 4000 _ _ _ _ ?_
      simp (maxSteps := 10000000) only [go_sem, hr]
      refine ⟨_, _, .sub [0] ?_ .done, rfl, rfl⟩
      simp only [EmbV, go_sem, htk, Int.natCast_zero]
    | cons c r =>
      have hr : rawF (c :: r, 0) 1 = ((r, 0), [c]) := by simp [rawF]; omega
      have hs : sget [c] 0 = (c.toNat : Int) := by simp [sget]
      have hc256 := c.toNat_lt
      generalize hc : c.toNat = C at *
      simp only [tk, hc] at h3
      have hw : iwrap .i64 (((7 * k : Nat) : Int) + 7) = ((7 * (k + 1) : Nat) : Int) := by rw [iwrap_i64_in (by omega)]; omega
      by_cases c0 : C = 0
      · have f1 : ((C : Int) == 0) = true := by simp [c0]
        by_cases k0 : 0 < k
        · have f2 : ((7 * k : Nat) : Int) > 0 := by omega
          rw [if_pos (.inl ⟨c0, k0⟩)] at h3
          skip
          refine sem_call rfl rfl (((raw_spec (c :: r) 0 1).embed [0] rfl (by repeat' first | exact trivial | rfl | (simp only [go_sem]; done) | constructor) rfl (by first | rfl | simp only [go_sem]) rfl (by simp)).mono ?_)
          rintro _ _ ⟨_, _, ⟨rfl, rfl⟩, rfl, rfl⟩
          refine run_ok 4000 _ _ _ _ ?_
          simp (maxSteps := 10000000) only [go_sem, hr, hs, f1, f2, rfl_len1]
          refine sem_call rfl rfl (((fail_spec r 0 2).embed [0] rfl (by repeat' first | exact trivial | rfl | (simp only [go_sem]; done) | constructor) rfl (by first | rfl | simp only [go_sem]) rfl (by simp)).mono ?_)
          rintro _ _ ⟨_, _, ⟨rfl, rfl⟩, rfl, rfl⟩
          refine run_ok 4000 _ _ _ _ ?_
          simp (maxSteps := 10000000) only [go_sem, hr, hs, f1, f2, rfl_len1]
          refine ⟨_, _, .sub [0] ?_ .done, rfl, rfl⟩
          simp only [EmbV, go_sem, ← h3, failF, Int.natCast_zero]
          all_goals simp
        · have f2 : ¬ ((7 * k : Nat) : Int) > 0 := by omega
          have f3 : (((7 * k : Nat) : Int) == 63) = false := by simp; omega
          rw [if_neg (by omega)] at h3
          obtain ⟨hb, hor⟩ := num_bits (C := C) h2 h1 (by omega) (by omega)
          skip
          refine sem_call rfl rfl (((raw_spec (c :: r) 0 1).embed [0] rfl (by repeat' first | exact trivial | rfl | (simp only [go_sem]; done) | constructor) rfl (by first | rfl | simp only [go_sem]) rfl (by simp)).mono ?_)
          rintro _ _ ⟨_, _, ⟨rfl, rfl⟩, rfl, rfl⟩
          refine run_ok 4000 _ _ _ _ ?_
          simp (maxSteps := 10000000) only [go_sem, hr, hs, f1, f2, f3, hor, hw, rfl_len1]
          refine ⟨by omega, fun hlt => ?_, fun hge => ?_⟩
          · rw [if_pos (by omega)] at h3
            refine ⟨_, _, .sub [0] ?_ .done, rfl, rfl⟩
            simp only [EmbV, go_sem, ← h3]
          · rw [if_neg (by omega)] at h3
            refine ⟨(k + 1, n + C % 128 * 128 ^ k, r), by simp only; omega, ⟨by simp only; omega, ?_, h3⟩, [0], ?_⟩
            · simp only
              rw [Nat.pow_succ]
              have hp : 0 < 128 ^ k := Nat.pow_pos (by decide)
              have : C % 128 * 128 ^ k ≤ 127 * 128 ^ k := Nat.mul_le_mul_right _ (by omega)
              omega
            · simp only [Emb, go_sem]
      · have f1 : ((C : Int) == 0) = false := by simp [c0]
        by_cases k9 : k = 9
        · have f3 : (((7 * k : Nat) : Int) == 63) = true := by simp [k9]
          by_cases c1 : 1 < C
          · have f4 : (C : Int) > 1 := by omega
            rw [if_pos (.inr ⟨k9, c1⟩)] at h3
            skip
            refine sem_call rfl rfl (((raw_spec (c :: r) 0 1).embed [0] rfl (by repeat' first | exact trivial | rfl | (simp only [go_sem]; done) | constructor) rfl (by first | rfl | simp only [go_sem]) rfl (by simp)).mono ?_)
            rintro _ _ ⟨_, _, ⟨rfl, rfl⟩, rfl, rfl⟩
            refine run_ok 4000 _ _ _ _ ?_
            simp (maxSteps := 10000000) only [go_sem, hr, hs, f1, f3, f4, rfl_len1]
            refine sem_call rfl rfl (((fail_spec r 0 2).embed [0] rfl (by repeat' first | exact trivial | rfl | (simp only [go_sem]; done) | constructor) rfl (by first | rfl | simp only [go_sem]) rfl (by simp)).mono ?_)
            rintro _ _ ⟨_, _, ⟨rfl, rfl⟩, rfl, rfl⟩
            refine run_ok 4000 _ _ _ _ ?_
            simp (maxSteps := 10000000) only [go_sem, hr, hs, f1, f3, f4, rfl_len1]
            refine ⟨_, _, .sub [0] ?_ .done, rfl, rfl⟩
            simp only [EmbV, go_sem, ← h3, failF, Int.natCast_zero]
            all_goals simp
          · have f4 : ¬ (C : Int) > 1 := by omega
            rw [if_neg (by omega)] at h3
            obtain ⟨hb, hor⟩ := num_bits (C := C) h2 h1 (by omega) (by omega)
            skip
            refine sem_call rfl rfl (((raw_spec (c :: r) 0 1).embed [0] rfl (by repeat' first | exact trivial | rfl | (simp only [go_sem]; done) | constructor) rfl (by first | rfl | simp only [go_sem]) rfl (by simp)).mono ?_)
            rintro _ _ ⟨_, _, ⟨rfl, rfl⟩, rfl, rfl⟩
            refine run_ok 4000 _ _ _ _ ?_
            simp (maxSteps := 10000000) only [go_sem, hr, hs, f1, f3, f4, hor, hw, rfl_len1]
            refine ⟨by omega, fun hlt => ?_, fun hge => ?_⟩
            · rw [if_pos (by omega)] at h3
              refine ⟨_, _, .sub [0] ?_ .done, rfl, rfl⟩
              simp only [EmbV, go_sem, ← h3]
            · rw [if_neg (by omega)] at h3
              refine ⟨(k + 1, n + C % 128 * 128 ^ k, r), by simp only; omega, ⟨by simp only; omega, ?_, h3⟩, [0], ?_⟩
              · simp only
                rw [Nat.pow_succ]
                have hp : 0 < 128 ^ k := Nat.pow_pos (by decide)
                have : C % 128 * 128 ^ k ≤ 127 * 128 ^ k := Nat.mul_le_mul_right _ (by omega)
                omega
              · simp only [Emb, go_sem]
        · have f3 : (((7 * k : Nat) : Int) == 63) = false := by simp; omega
          rw [if_neg (by omega)] at h3
          obtain ⟨hb, hor⟩ := num_bits (C := C) h2 h1 (by omega) (by omega)
          skip
          refine sem_call rfl rfl (((raw_spec (c :: r) 0 1).embed [0] rfl (by repeat' first | exact trivial | rfl | (simp only [go_sem]; done) | constructor) rfl (by first | rfl | simp only [go_sem]) rfl (by simp)).mono ?_)
          rintro _ _ ⟨_, _, ⟨rfl, rfl⟩, rfl, rfl⟩
          refine run_ok 4000 _ _ _ _ ?_
          simp (maxSteps := 10000000) only [go_sem, hr, hs, f1, f3, hor, hw, rfl_len1]
          refine ⟨by omega, fun hlt => ?_, fun hge => ?_⟩
          · rw [if_pos (by omega)] at h3
            refine ⟨_, _, .sub [0] ?_ .done, rfl, rfl⟩
            simp only [EmbV, go_sem, ← h3]
          · rw [if_neg (by omega)] at h3
            refine ⟨(k + 1, n + C % 128 * 128 ^ k, r), by simp only; omega, ⟨by simp only; omega, ?_, h3⟩, [0], ?_⟩
            · simp only
              rw [Nat.pow_succ]
              have hp : 0 < 128 ^ k := Nat.pow_pos (by decide)
              have : C % 128 * 128 ^ k ≤ 127 * 128 ^ k := Nat.mul_le_mul_right _ (by omega)
              omega
            · simp only [Emb, go_sem]
  · skip
    have hnum : numI (s, e) = (0, s, e) := by simp [numI, he]
    rw [hnum]
    have he' : (e != 0) = true := by simp [he]
    have hr : rawF (s, e) 1 = ((s, e), []) := by simp [rawF, he]
    refine Tri.post ?_
    refine (Tri.enter (rl := r81) (code := c81) (by kernel_rfl) Try.func81 rfl c81_ok (by kernel_rfl) (by kernel_rfl) ?_)
    refine run_ok 4000 _ _ _ _ ?_
    simp (maxSteps := 10000000) only [go_sem, c81, r81]
    refine sem_rounds (fun x : Unit => True) (fun x => [(0, .pbox 0 0), (3, .int .u64 0), (4, .int .i64 0)])
      (fun x => [.box [.str s, .int .i64 e]]) (fun x => 0) () [0] trivial ?_ ?_
    · simp only [Emb, go_sem]
    rintro _ _
    skip
    refine run_ok 4000 _ _ _ _ ?_
    simp (maxSteps := 10000000) only [go_sem, he', hr]
    refine sem_call rfl rfl (((raw_spec s e 1).embed [0] rfl (by repeat' first | exact trivial | rfl | (simp only [go_sem]; done) | constructor) rfl (by first | rfl | simp only [go_sem]) rfl (by simp)).mono ?_)
    rintro _ _ ⟨_, _, ⟨rfl, rfl⟩, rfl, rfl⟩
    refine run_ok 4000 _ _ _ _ ?_
    simp (maxSteps := 10000000) only [go_sem, he', hr]
    refine ⟨_, _, .sub [0] ?_ .done, rfl, rfl⟩
    simp only [EmbV, go_sem, Int.natCast_zero]
def sg (n : Nat) : Int := if n % 2 = 0 then (n / 2 : Nat) else -((n / 2 : Nat) : Int) - 1
theorem otext_spec (s : List UInt8) : Tri Try.prog 74 [.pbox 0 0] (outM s) (fun v m => v = .str s ∧ m = outM s) := by
  skip
  refine (Tri.enter (rl := r74) (code := c74) (by kernel_rfl) Try.func74 rfl c74_ok (by kernel_rfl) (by kernel_rfl) ?_)
  refine run_ok 4000 _ _ _ _ ?_
  simp (maxSteps := 10000000) only [go_sem, c74, r74, bytes_to]
  exact bytes_all s
def word4 (n : Int) : List UInt8 := [UInt8.ofNat (n % 256).toNat, UInt8.ofNat (n / 256 % 256).toNat, UInt8.ofNat (n / 65536 % 256).toNat, UInt8.ofNat (n / 16777216 % 256).toNat]
theorem word_spec (n : Int) (h : 0 ≤ n ∧ n < 4294967296) : Tri Try.prog 79 [.int .u32 n] [] (fun v m => v = .str (word4 n) ∧ m = []) := by
  have h8 : ishr .u32 n 8 = n / 256 := by
    show n.fdiv (2 ^ min (Int.toNat 8) 32) = _
    rw [show (2 : Int) ^ min (Int.toNat 8) 32 = 256 by decide, Int.fdiv_eq_ediv_of_nonneg _ (by omega)]
  have h16 : ishr .u32 n 16 = n / 65536 := by
    show n.fdiv (2 ^ min (Int.toNat 16) 32) = _
    rw [show (2 : Int) ^ min (Int.toNat 16) 32 = 65536 by decide, Int.fdiv_eq_ediv_of_nonneg _ (by omega)]
  have h24 : ishr .u32 n 24 = n / 16777216 := by
    show n.fdiv (2 ^ min (Int.toNat 24) 32) = _
    rw [show (2 : Int) ^ min (Int.toNat 24) 32 = 16777216 by decide, Int.fdiv_eq_ediv_of_nonneg _ (by omega)]
  have hb : ∀ x : Int, UInt8.ofNat (iwrap .u8 x).toNat = UInt8.ofNat (x % 256).toNat := fun x => by rw [iwrap_u8]
  skip
  refine (Tri.enter (rl := r79) (code := c79) (by kernel_rfl) Try.func79 rfl c79_ok (by kernel_rfl) (by kernel_rfl) ?_)
  refine run_ok 4000 _ _ _ _ ?_
  simp (maxSteps := 10000000) only [go_sem, c79, r79, h8, h16, h24]
  refine ⟨fun x hx => ?_, ?_⟩
  · simp only [List.mem_cons, List.not_mem_nil, or_false] at hx
    rcases hx with rfl | rfl | rfl | rfl <;> exact ⟨_, rfl⟩
  · simp [toBytes, word4, hb]
def CRC (s : List UInt8) : Int := inv32 (crcF (inv32 0) s)
theorem crc_u32 (s : List UInt8) : 0 ≤ CRC s ∧ CRC s < 4294967296 := by
  have h : ∀ x, 0 ≤ inv32 x ∧ inv32 x < 4294967296 := fun x => by
    show 0 ≤ iwrap .u32 _ ∧ iwrap .u32 _ < 4294967296
    rw [iwrap_u32]; omega
  exact h _
theorem crc2_spec (v s : List UInt8) (tight : Bool) (hv : v.length ≤ 1000000) (hs : s.length ≤ 1000000) : Tri Try.prog 80 [.vsl 1 [[.str v], [.str s]] tight] [] (fun x m => x = .int .u32 (CRC (v ++ s)) ∧ m = []) := by
  have h := crc_spec [v, s] tight (by simp) (by intro x hx; simp at hx; rcases hx with rfl | rfl <;> assumption)
  have e : crcL (inv32 0) [v, s] = crcF (inv32 0) (v ++ s) := by simp [crcL, crcF]
  rw [e] at h
  exact h
def sealB (s : List UInt8) : List UInt8 := 7 :: (word4 (CRC (7 :: s)) ++ s)
theorem seal_spec (s : List UInt8) (hs : s.length ≤ 1000000) : Tri Try.prog 73 [.str s] [] (fun v m => v = .str (sealB s) ∧ m = []) := by
  have h7 : toBytes [[AV.int .u8 7]] = [7] := rfl
  skip
  refine (Tri.enter (rl := r73) (code := c73) (by kernel_rfl) Try.func73 rfl c73_ok (by kernel_rfl) (by kernel_rfl) ?_)
  refine run_ok 4000 _ _ _ _ ?_
  simp (maxSteps := 10000000) only [go_sem, c73, r73, h7]
  refine ⟨all_one 7, ?_⟩
  refine sem_call rfl rfl (((crc2_spec [7] s true (by simp) hs).embed [] rfl trivial rfl rfl rfl (by simp)).mono ?_)
  rintro _ _ ⟨_, _, ⟨rfl, rfl⟩, rfl, rfl⟩
  refine run_ok 4000 _ _ _ _ ?_
  simp (maxSteps := 10000000) only [go_sem, h7]
  have hc := crc_u32 (7 :: s)
  refine sem_call rfl rfl (((word_spec (CRC (7 :: s)) hc).embed [] rfl trivial rfl rfl rfl (by simp)).mono ?_)
  rintro _ _ ⟨_, _, ⟨rfl, rfl⟩, rfl, rfl⟩
  refine run_ok 4000 _ _ _ _ ?_
  simp (maxSteps := 10000000) only [go_sem, h7]
  have hl : (word4 (CRC (7 :: s))).length = 4 := rfl
  exact ⟨by omega, by omega, rfl⟩
def unsealF (s : List UInt8) : List UInt8 × Int := if s.length < 5 then ([], 1) else if s.getD 0 0 ≠ 7 then ([], 6) else if sealB (s.drop 5) ≠ s then ([], 5) else (s.drop 5, 0)
theorem five {s : List UInt8} (h : 5 ≤ s.length) : ∃ a b c d f r, s = a :: b :: c :: d :: f :: r := by
  match s, h with
  | a :: b :: c :: d :: f :: r, _ => exact ⟨a, b, c, d, f, r, rfl⟩
theorem seqb_iff (x y : List UInt8) : seqb x y = decide (x = y) := by
  simp only [seqb]; by_cases h : x = y <;> simp [h]
theorem unsealF_long (a b c d f : UInt8) (r : List UInt8) : unsealF (a :: b :: c :: d :: f :: r) = if a ≠ 7 then ([], 6) else if [b, c, d, f] ≠ word4 (CRC (7 :: r)) then ([], 5) else (r, 0) := by
  unfold unsealF
  rw [if_neg (by simp)]
  simp only [List.getD_cons_zero, List.drop_succ_cons, List.drop_zero]
  by_cases ha : a = 7
  · subst ha
    simp only [ne_eq, not_true, if_false]
    have : (sealB r = 7 :: b :: c :: d :: f :: r) ↔ ([b, c, d, f] = word4 (CRC (7 :: r))) := by
      simp only [sealB, word4, List.cons_append, List.nil_append, List.cons.injEq, true_and, and_true]
      constructor
      · rintro ⟨h1, h2, h3, h4⟩; exact ⟨h1.symm, h2.symm, h3.symm, h4.symm⟩
      · rintro ⟨h1, h2, h3, h4⟩; exact ⟨h1.symm, h2.symm, h3.symm, h4.symm⟩
    simp only [this]
  · simp only [ne_eq, ha, not_false_eq_true, if_true]
theorem unseal_spec (s : List UInt8) (hs : s.length ≤ 1000000) : Tri Try.prog 47 [.str s] [] (fun v m => v = .tup [.str (unsealF s).1, .int .i64 (unsealF s).2] ∧ m = []) := by
  by_cases h5 : s.length < 5
  · have h5' : (s.length : Int) < 5 := by omega
    have hu : unsealF s = ([], 1) := by unfold unsealF; rw [if_pos h5]
    skip
    refine (Tri.enter (rl := r47) (code := c47) (by kernel_rfl) Try.func47 rfl c47_ok (by kernel_rfl) (by kernel_rfl) ?_)
    refine run_ok 4000 _ _ _ _ ?_
    simp (maxSteps := 10000000) only [go_sem, c47, r47, h5', hu]
  · obtain ⟨a, b, c, d, f, r, rfl⟩ := five (show 5 ≤ s.length by omega)
    have hlen : ((a :: b :: c :: d :: f :: r).length : Int) = r.length + 5 := by simp only [List.length_cons]; omega
    have hsg : sget (a :: b :: c :: d :: f :: r) 0 = (a.toNat : Int) := rfl
    have h15 : ssub (a :: b :: c :: d :: f :: r) 1 5 = [b, c, d, f] := rfl
    have h01 : List.take 1 (a :: b :: c :: d :: f :: r) = [a] := rfl
    have h5r : List.drop 5 (a :: b :: c :: d :: f :: r) = r := rfl
    have hu := unsealF_long a b c d f r
    simp only [List.length_cons] at hs
    generalize hS : a :: b :: c :: d :: f :: r = S at *
    have h5' : ¬ (S.length : Int) < 5 := by omega
    have h0' : (0 : Int) < (S.length : Int) := by omega
    have h1' : (1 : Int) ≤ (S.length : Int) := by omega
    have h5'' : (5 : Int) ≤ (S.length : Int) := by omega
    by_cases ha : a = 7
    · subst ha
      have hne : ((((7 : UInt8).toNat : Nat) : Int) != 7) = false := rfl
      have hc := crc_u32 (7 :: r)
      rw [if_neg (by simp)] at hu
      skip
      refine (Tri.enter (rl := r47) (code := c47) (by kernel_rfl) Try.func47 rfl c47_ok (by kernel_rfl) (by kernel_rfl) ?_)
      refine run_ok 4000 _ _ _ _ ?_
      simp (maxSteps := 10000000) only [go_sem, c47, r47, h5', h0', h1', h5'', hsg, hne, h15, h01, h5r]
      refine sem_drawG l47_0_ok (by kernel_rfl) ?_
      intro KK hKK
      simp (maxSteps := 10000000) only [go_sem, l47_0, h5', h0', h1', h5'', hsg, hne, h15, h01, h5r]
      refine TriZ.of (((crc2_spec [7] r true (by simp) (by omega)).embed [] rfl (by repeat' first | exact trivial | rfl | (simp only [go_sem]; done) | constructor) rfl (by first | rfl | simp only [go_sem]) rfl (by simp)).mono ?_)
      rintro _ _ ⟨_, _, ⟨rfl, rfl⟩, rfl, rfl⟩
      simp (maxSteps := 10000000) only [go_sem, h5', h0', h1', h5'', hsg, hne, h15, h01, h5r]
      have hwd : seqb [b, c, d, f] (word4 (CRC (7 :: r))) = decide ([b, c, d, f] = word4 (CRC (7 :: r))) := seqb_iff _ _
      by_cases hq : [b, c, d, f] = word4 (CRC (7 :: r))
      · rw [if_neg (by simp [hq])] at hu
        have hse : seqb [b, c, d, f] (word4 (CRC (7 :: r))) = true := by rw [hwd]; exact decide_eq_true hq
        skip
        refine TriZ.of (((word_spec (CRC (7 :: r)) hc).embed [] rfl (by repeat' first | exact trivial | rfl | (simp only [go_sem]; done) | constructor) rfl (by first | rfl | simp only [go_sem]) rfl (by simp)).mono ?_)
        rintro _ _ ⟨_, _, ⟨rfl, rfl⟩, rfl, rfl⟩
        simp (maxSteps := 10000000) only [go_sem, h5', h0', h1', h5'', hsg, hne, h15, h01, h5r, hse, hu]
        subst hKK
        simp (maxSteps := 10000000) only [go_sem, h5', h0', h1', h5'', hsg, hne, h15, h01, h5r, hse, hu]
      · rw [if_pos hq] at hu
        have hse : seqb [b, c, d, f] (word4 (CRC (7 :: r))) = false := by rw [hwd]; exact decide_eq_false hq
        skip
        refine TriZ.of (((word_spec (CRC (7 :: r)) hc).embed [] rfl (by repeat' first | exact trivial | rfl | (simp only [go_sem]; done) | constructor) rfl (by first | rfl | simp only [go_sem]) rfl (by simp)).mono ?_)
        rintro _ _ ⟨_, _, ⟨rfl, rfl⟩, rfl, rfl⟩
        simp (maxSteps := 10000000) only [go_sem, h5', h0', h1', h5'', hsg, hne, h15, h01, h5r, hse, hu]
        subst hKK
        simp (maxSteps := 10000000) only [go_sem, h5', h0', h1', h5'', hsg, hne, h15, h01, h5r, hse, hu]
    · have hne : ((a.toNat : Int) != 7) = true := by
        have : a.toNat ≠ 7 := fun h => ha (UInt8.toNat_inj.1 h)
        simp; omega
      rw [if_pos ha] at hu
      skip
      refine (Tri.enter (rl := r47) (code := c47) (by kernel_rfl) Try.func47 rfl c47_ok (by kernel_rfl) (by kernel_rfl) ?_)
      refine run_ok 4000 _ _ _ _ ?_
      simp (maxSteps := 10000000) only [go_sem, c47, r47, h5', h0', hsg, hne, hu]
theorem unseal_seal (s : List UInt8) : unsealF (sealB s) = (s, 0) := by
  obtain ⟨b, c, d, f, hw⟩ : ∃ b c d f, word4 (CRC (7 :: s)) = [b, c, d, f] := ⟨_, _, _, _, rfl⟩
  have : sealB s = 7 :: b :: c :: d :: f :: s := by unfold sealB; rw [hw]; rfl
  rw [this, unsealF_long, hw]
  simp
theorem sealB_len (s : List UInt8) : (sealB s).length = s.length + 5 := by simp [sealB, word4]
theorem tk_err : ∀ (s : List UInt8) (k n : Nat), (tk k n s).2.2 ≠ 0 → (tk k n s).1 = 0
  | [], k, n, h => rfl
  | c :: s, k, n, h => by
    simp only [tk] at h ⊢
    split
    · rfl
    · rename_i hb
      rw [if_neg hb] at h
      split
      · rename_i hlt; rw [if_pos hlt] at h; simp at h
      · rename_i hge; rw [if_neg hge] at h; exact tk_err s _ _ h
theorem rseal_spec (s : List UInt8) (hs : s.length ≤ 1000) : Tri Try.prog 35 [.str s] [] (fun v m => v = .str (sealB s) ∧ m = []) := by
  have hc := crc_u32 (7 :: s)
  have hcr : iwrap .u32 (4294967295 - refF 4294967295 (7 :: s)) = CRC (7 :: s) := (crc_whole (7 :: s)).symm
  skip
  refine (Tri.enter (rl := r35) (code := c35) (by kernel_rfl) Try.func35 rfl c35_ok (by kernel_rfl) (by kernel_rfl) ?_)
  refine run_ok 4000 _ _ _ _ ?_
  simp (maxSteps := 10000000) only [go_sem, c35, r35, hcr]
  refine ⟨by simp; omega, ?_⟩
  refine sem_call rfl rfl (((rCrc_spec (7 :: s) (by simp; omega)).embed [] rfl trivial rfl rfl rfl (by simp)).mono ?_)
  rintro _ _ ⟨_, _, ⟨rfl, rfl⟩, rfl, rfl⟩
  refine run_ok 4000 _ _ _ _ ?_
  simp (maxSteps := 10000000) only [go_sem, hcr]
  have hsb : sealB s = 7 :: (word4 (CRC (7 :: s)) ++ s) := rfl
  rw [hsb]
  generalize CRC (7 :: s) = n at *
  have d : ∀ z : Int, n.tdiv z = n / z := fun z => Int.tdiv_eq_ediv_of_nonneg hc.1
  have e1 : iwrap .u8 (n.tmod 256) = n % 256 := by rw [Int.tmod_eq_emod_of_nonneg hc.1, iwrap_u8]; omega
  have e2 : iwrap .u8 ((iwrap .u32 (n.tdiv 256)).tmod 256) = n / 256 % 256 := by rw [d, iwrap_u32, Int.tmod_eq_emod_of_nonneg (by omega), iwrap_u8]; omega
  have e3 : iwrap .u8 ((iwrap .u32 (n.tdiv 65536)).tmod 256) = n / 65536 % 256 := by rw [d, iwrap_u32, Int.tmod_eq_emod_of_nonneg (by omega), iwrap_u8]; omega
  have e4 : iwrap .u8 (iwrap .u32 (n.tdiv 16777216)) = n / 16777216 % 256 := by rw [d, iwrap_u32, iwrap_u8]; omega
  rw [e1, e2, e3, e4]
  have hw : toBytes [[.int .u8 (n % 256)], [.int .u8 (n / 256 % 256)], [.int .u8 (n / 65536 % 256)], [.int .u8 (n / 16777216 % 256)]] = word4 n := rfl
  have hl : (word4 n).length = 4 := rfl
  rw [hw, hl]
  refine ⟨fun x hx => ?_, by omega, by omega, rfl⟩
  simp only [List.mem_cons, List.not_mem_nil, or_false] at hx
  rcases hx with rfl | rfl | rfl | rfl <;> exact ⟨_, rfl⟩
theorem runseal_spec (s : List UInt8) (hs : s.length ≤ 1000) : Tri Try.prog 25 [.str s] [] (fun v m => v = .tup [.str (unsealF s).1, .int .i64 (unsealF s).2] ∧ m = []) := by
  by_cases h5 : s.length < 5
  · have h5' : (s.length : Int) < 5 := by omega
    have hu : unsealF s = ([], 1) := by unfold unsealF; rw [if_pos h5]
    skip
    refine (Tri.enter (rl := r25) (code := c25) (by kernel_rfl) Try.func25 rfl c25_ok (by kernel_rfl) (by kernel_rfl) ?_)
    refine run_ok 4000 _ _ _ _ ?_
    simp (maxSteps := 10000000) only [go_sem, c25, r25, h5', hu]
  · obtain ⟨a, b, c, d, f, r, hS⟩ := five (show 5 ≤ s.length by omega)
    have hsg : sget s 0 = (a.toNat : Int) := by rw [hS]; rfl
    have hg0 : s.getD 0 0 = a := by rw [hS]; rfl
    have h5' : ¬ (s.length : Int) < 5 := by omega
    have h0' : (0 : Int) < (s.length : Int) := by omega
    have h5'' : (5 : Int) ≤ (s.length : Int) := by omega
    by_cases ha : a = 7
    · have hne : ((a.toNat : Int) != 7) = false := by rw [ha]; rfl
      have hsq := seqb_iff (sealB (s.drop 5)) s
      by_cases hq : sealB (s.drop 5) = s
      · have hu : unsealF s = (s.drop 5, 0) := by unfold unsealF; rw [if_neg h5, hg0, if_neg (by simp [ha]), if_neg (by simp [hq])]
        have hse : seqb (sealB (s.drop 5)) s = true := by rw [hsq]; exact decide_eq_true hq
        skip
        refine (Tri.enter (rl := r25) (code := c25) (by kernel_rfl) Try.func25 rfl c25_ok (by kernel_rfl) (by kernel_rfl) ?_)
        refine run_ok 4000 _ _ _ _ ?_
        simp (maxSteps := 10000000) only [go_sem, c25, r25, h5', h0', h5'', hsg, hne, hu, hse]
        refine sem_call rfl rfl (((rseal_spec (s.drop 5) (by simp; omega)).embed [] rfl trivial rfl rfl rfl (by simp)).mono ?_)
        rintro _ _ ⟨_, _, ⟨rfl, rfl⟩, rfl, rfl⟩
        refine run_ok 4000 _ _ _ _ ?_
        simp (maxSteps := 10000000) only [go_sem, h5', h0', h5'', hsg, hne, hu, hse]
      · have hu : unsealF s = ([], 5) := by unfold unsealF; rw [if_neg h5, hg0, if_neg (by simp [ha]), if_pos hq]
        have hse : seqb (sealB (s.drop 5)) s = false := by rw [hsq]; exact decide_eq_false hq
        skip
        refine (Tri.enter (rl := r25) (code := c25) (by kernel_rfl) Try.func25 rfl c25_ok (by kernel_rfl) (by kernel_rfl) ?_)
        refine run_ok 4000 _ _ _ _ ?_
        simp (maxSteps := 10000000) only [go_sem, c25, r25, h5', h0', h5'', hsg, hne, hu, hse]
        refine sem_call rfl rfl (((rseal_spec (s.drop 5) (by simp; omega)).embed [] rfl trivial rfl rfl rfl (by simp)).mono ?_)
        rintro _ _ ⟨_, _, ⟨rfl, rfl⟩, rfl, rfl⟩
        refine run_ok 4000 _ _ _ _ ?_
        simp (maxSteps := 10000000) only [go_sem, h5', h0', h5'', hsg, hne, hu, hse]
    · have hne : ((a.toNat : Int) != 7) = true := by
        have : a.toNat ≠ 7 := fun h => ha (UInt8.toNat_inj.1 h)
        simp; omega
      have hu : unsealF s = ([], 6) := by unfold unsealF; rw [if_neg h5, hg0, if_pos ha]
      skip
      refine (Tri.enter (rl := r25) (code := c25) (by kernel_rfl) Try.func25 rfl c25_ok (by kernel_rfl) (by kernel_rfl) ?_)
      refine run_ok 4000 _ _ _ _ ?_
      simp (maxSteps := 10000000) only [go_sem, c25, r25, h5', h0', hsg, hne, hu]
theorem ofNat_byte {a b : Int} (ha : 0 ≤ a ∧ a < 256) (hb : 0 ≤ b ∧ b < 256) (h : UInt8.ofNat a.toNat = UInt8.ofNat b.toNat) : a = b := by
  have := congrArg UInt8.toNat h
  rw [UInt8.toNat_ofNat', UInt8.toNat_ofNat'] at this
  omega
theorem word4_inj {a b : Int} (ha : 0 ≤ a ∧ a < 4294967296) (hb : 0 ≤ b ∧ b < 4294967296) (h : word4 a = word4 b) : a = b := by
  simp only [word4, List.cons.injEq, and_true] at h
  obtain ⟨h1, h2, h3, h4⟩ := h
  have e1 := ofNat_byte (by omega) (by omega) h1
  have e2 := ofNat_byte (by omega) (by omega) h2
  have e3 := ofNat_byte (by omega) (by omega) h3
  have e4 := ofNat_byte (by omega) (by omega) h4
  omega
theorem CRC_tell (s : List UInt8) (i : Nat) (hi : i < s.length) (b : UInt8) (hb : b ≠ s[i]) : CRC (s.set i b) ≠ CRC s := by
  intro h
  unfold CRC at h
  rw [show inv32 0 = w32 4294967295#32 by decide] at h
  obtain ⟨x, hx⟩ := crcF_g (s.set i b) 4294967295#32
  obtain ⟨y, hy⟩ := crcF_g s 4294967295#32
  rw [hx, hy] at h
  have := inv32_inj h
  subst this
  exact crc_tell s i hi b hb _ (hx.trans hy.symm)
theorem bent (S : List UInt8) (j : Nat) (hj : j < (sealB S).length) (b : UInt8) (hb : b ≠ (sealB S)[j]) :
    (unsealF ((sealB S).set j b)).1 = [] ∧ ((unsealF ((sealB S).set j b)).2 = 5 ∨ (j = 0 ∧ (unsealF ((sealB S).set j b)).2 = 6)) := by
  obtain ⟨a1, a2, a3, a4, hw⟩ : ∃ b c d f, word4 (CRC (7 :: S)) = [b, c, d, f] := ⟨_, _, _, _, rfl⟩
  have hs : sealB S = 7 :: a1 :: a2 :: a3 :: a4 :: S := by unfold sealB; rw [hw]; rfl
  generalize sealB S = D at *
  subst hs
  match j, hj, hb with
  | 0, _, hb =>
    have hb : b ≠ 7 := hb
    simp only [List.set_cons_zero]
    rw [unsealF_long, if_pos hb]
    simp
  | 1, _, hb =>
    have hb : b ≠ a1 := hb
    simp only [List.set_cons_zero, List.set_cons_succ]
    rw [unsealF_long, if_neg (by simp), hw, if_pos (by simp [hb])]
    exact ⟨rfl, .inl rfl⟩
  | 2, _, hb =>
    have hb : b ≠ a2 := hb
    simp only [List.set_cons_zero, List.set_cons_succ]
    rw [unsealF_long, if_neg (by simp), hw, if_pos (by simp [hb])]
    exact ⟨rfl, .inl rfl⟩
  | 3, _, hb =>
    have hb : b ≠ a3 := hb
    simp only [List.set_cons_zero, List.set_cons_succ]
    rw [unsealF_long, if_neg (by simp), hw, if_pos (by simp [hb])]
    exact ⟨rfl, .inl rfl⟩
  | 4, _, hb =>
    have hb : b ≠ a4 := hb
    simp only [List.set_cons_zero, List.set_cons_succ]
    rw [unsealF_long, if_neg (by simp), hw, if_pos (by simp [hb])]
    exact ⟨rfl, .inl rfl⟩
  | j + 5, hj, hb =>
    have hj : j < S.length := by simp only [List.length_cons] at hj; omega
    have hb : b ≠ S[j] := by simpa using hb
    simp only [List.set_cons_succ]
    have ht := CRC_tell (7 :: S) (j + 1) (by simp; omega) b (by simpa using hb)
    rw [List.set_cons_succ] at ht
    have hne : [a1, a2, a3, a4] ≠ word4 (CRC (7 :: S.set j b)) := fun h => ht (word4_inj (crc_u32 _) (crc_u32 _) (by rw [hw, ← h]))
    rw [unsealF_long, if_neg (by simp), if_pos hne]
    exact ⟨rfl, .inl rfl⟩
theorem xor_ne {a b : UInt8} (h : b ≠ 0) : a ^^^ b ≠ a := by
  intro h'
  apply h
  have : a ^^^ (a ^^^ b) = a ^^^ a := by rw [h']
  simpa [← UInt8.xor_assoc] using this
def zg (k : Int) : Nat := if 0 ≤ k then (2 * k).toNat else (-2 * k - 1).toNat
def I64 (k : Int) : Prop := -9223372036854775808 ≤ k ∧ k ≤ 9223372036854775807
theorem tk_put : ∀ (m k n : Nat) (r : List UInt8), k ≤ 9 → (0 < k → 0 < m) → m * 128 ^ k < 18446744073709551616 → tk k n (numB m ++ r) = (n + m * 128 ^ k, r, 0)
  | m, k, n, r, hk, hm, hb => by
    by_cases h : 127 < m
    · have hk9 : k ≠ 9 := by
        rintro rfl
        have : 128 * 128 ^ 9 ≤ m * 128 ^ 9 := Nat.mul_le_mul_right _ h
        have e : (128 : Nat) * 128 ^ 9 = 1180591620717411303424 := by decide
        rw [e] at this
        exact absurd (Nat.lt_of_le_of_lt this hb) (by decide)
      have hc : (UInt8.ofNat (128 + m % 128)).toNat = 128 + m % 128 := by rw [UInt8.toNat_ofNat']; omega
      rw [numB_more h, List.cons_append, tk, hc, if_neg (by omega), if_neg (by omega), tk_put (m / 128) (k + 1) _ r (by omega) (fun _ => by omega) (by
        rw [Nat.pow_succ]
        have : m / 128 * (128 ^ k * 128) = m / 128 * 128 * 128 ^ k := by rw [Nat.mul_comm (128 ^ k), ← Nat.mul_assoc]
        rw [this]
        exact Nat.lt_of_le_of_lt (Nat.mul_le_mul_right _ (Nat.div_mul_le_self m 128)) hb)]
      congr 1
      rw [Nat.pow_succ, Nat.mul_comm (128 ^ k), ← Nat.mul_assoc, Nat.add_assoc, ← Nat.add_mul]
      congr 2
      omega
    · have hc : (UInt8.ofNat m).toNat = m := by rw [UInt8.toNat_ofNat']; omega
      rw [numB_last (by omega), List.cons_append, List.nil_append, tk, hc]
      have h9 : ¬ (k = 9 ∧ 1 < m) := by
        rintro ⟨rfl, h1⟩
        have : 2 * 128 ^ 9 ≤ m * 128 ^ 9 := Nat.mul_le_mul_right _ h1
        have e : (2 : Nat) * 128 ^ 9 = 18446744073709551616 := by decide
        rw [e] at this
        exact absurd (Nat.lt_of_le_of_lt this hb) (by decide)
      rw [if_neg (by omega), if_pos (by omega), Nat.mod_eq_of_lt (by omega)]
termination_by m => m
theorem numI_put (m : Nat) (r : List UInt8) (h : m < 18446744073709551616) : numI (numB m ++ r, 0) = (m, r, 0) := by
  have := tk_put m 0 0 r (by omega) (by omega) (by simpa using h)
  simpa [numI] using this
def posN (n : Int) : Nat := (max n 0).toNat
theorem posN_cvt {n : Int} (h : I64 n) : iwrap .u64 (if 0 > n then 0 else n) = (posN n : Int) := by unfold posN I64 at *; rw [iwrap_u64]; split <;> omega
theorem posN_lt {n : Int} (h : I64 n) : posN n < 18446744073709551616 := by unfold posN I64 at *; omega
theorem ocount_spec (l : List Int) (tight : Bool) (s : List UInt8) (hl : ∀ n ∈ l, I64 n) (hs : s.length + 10 * l.length ≤ 1000000) :
    Tri Try.prog 71 [.pbox 0 0, .vsl 1 (iv .i64 l) tight] (outM s) (fun v m => v = .pbox 0 0 ∧ m = outM2 (s ++ numsB (l.map posN))) := by
  unfold outM outM2
  refine Tri.post ?_
  refine (Tri.enter (rl := r71) (code := c71) (by kernel_rfl) Try.func71 rfl c71_ok (by kernel_rfl) (by kernel_rfl) ?_)
  refine run_ok 4000 _ _ _ _ ?_
  simp (maxSteps := 10000000) only [go_sem, c71, r71]
  refine sem_move 1 rfl ?_
  simp (maxSteps := 10000000) only [go_sem]
  refine sem_rounds (fun i : Nat => i ≤ l.length) (fun i => [(0, .pbox 0 0), (7, .vsl 1 (iv .i64 l) tight), (8, .int .i64 l.length), (9, .int .i64 (i : Nat))])
    (fun i => [.box [.sl 2 0 (s ++ numsB ((l.take i).map posN)).length (s ++ numsB ((l.take i).map posN)).length false], .gone, .row 1 (AE.bytes (s ++ numsB ((l.take i).map posN)))]) (fun i => l.length - i) 0 [0, 1, 2] (Nat.zero_le _) ?_ ?_
  · simp only [Emb, go_sem, iv_len]; simp [numsB]
  intro i hi
  refine run_ok 4000 _ _ _ _ ?_
  simp (maxSteps := 10000000) only [go_sem]
  refine ⟨fun hlt => ?_, fun hge => ?_⟩
  · have hlt : i < l.length := by omega
    have hin : (i : Int) < (l.length : Int) := by omega
    have h64 := hl _ (List.getElem_mem hlt)
    have hz := posN_cvt h64
    have hlen : (numsB ((l.take i).map posN)).length ≤ 10 * i := by
      have := numsB_len ((l.take i).map posN) (by intro n hn; obtain ⟨k, hk, rfl⟩ := List.mem_map.1 hn; exact posN_lt (hl k (List.mem_of_mem_take hk)))
      rw [List.length_map, List.length_take] at this; omega
    have hnext : (s ++ numsB ((l.take i).map posN)) ++ numsB [posN l[i]] = s ++ numsB ((l.take (i + 1)).map posN) := by
      rw [List.take_succ_eq_append_getElem hlt, List.map_append, List.append_assoc]
      simp [numsB]
    have hcall := wNum_spec [posN l[i]] true (s ++ numsB ((l.take i).map posN)) (by intro n hn; simp at hn; rw [hn]; exact posN_lt h64) (by rw [List.length_append]; simp only [List.length_cons, List.length_nil]; omega)
    rw [hnext] at hcall
    skip
    simp (maxSteps := 10000000) only [go_sem, iv_len, iv_rint hlt, iv_hasI hlt, hin, hz, Int.natCast_nonneg, inc64 (show i < 1000000000000 by omega)]
    refine sem_call rfl rfl (((hcall).embed [0, 2] rfl (by repeat' first | exact trivial | rfl | (simp only [go_sem]; done) | constructor) rfl (by first | rfl | simp only [go_sem]) rfl (by simp)).mono ?_)
    rintro _ _ ⟨_, _, ⟨rfl, rfl⟩, rfl, rfl⟩
    refine run_ok 4000 _ _ _ _ ?_
    simp (maxSteps := 10000000) only [go_sem, iv_len, iv_rint hlt, iv_hasI hlt, hin, hz, Int.natCast_nonneg, inc64 (show i < 1000000000000 by omega)]
    refine ⟨i + 1, by omega, hlt, [0, 1, 3], ?_⟩
    simp only [Emb, go_sem]
  · have ht : l.take i = l := List.take_of_length_le (by omega)
    skip
    refine run_ok 4000 _ _ _ _ ?_
    simp (maxSteps := 10000000) only [go_sem, ht]
    refine ⟨_, _, .sub [0, 1, 2] ?_ .done, rfl, rfl⟩
    simp only [EmbV, go_sem, ht]
def strB (s : List UInt8) : List UInt8 := numB s.length ++ s
def strsB (l : List (List UInt8)) : List UInt8 := (l.map strB).flatten
theorem strsB_take {l : List (List UInt8)} {i : Nat} (h : i < l.length) : strsB (l.take (i + 1)) = strsB (l.take i) ++ strB l[i] := by
  unfold strsB; rw [List.take_succ_eq_append_getElem h, List.map_append, List.flatten_append]; simp
theorem strsB_len (l : List (List UInt8)) (i : Nat) : (strsB (l.take i)).length ≤ (strsB l).length := by
  have : strsB l = strsB (l.take i) ++ strsB (l.drop i) := by
    unfold strsB; rw [← List.flatten_append, ← List.map_append, List.take_append_drop]
  rw [this, List.length_append]; omega
theorem ostr_spec (l : List (List UInt8)) (tight : Bool) (s : List UInt8) (hl : l.length ≤ 100000) (hs : s.length + (strsB l).length ≤ 900000) :
    Tri Try.prog 72 [.pbox 0 0, .vsl 1 (sv l) tight] (outM s) (fun v m => v = .pbox 0 0 ∧ m = outM2 (s ++ strsB l)) := by
  unfold outM outM2
  refine Tri.post ?_
  refine (Tri.enter (rl := r72) (code := c72) (by kernel_rfl) Try.func72 rfl c72_ok (by kernel_rfl) (by kernel_rfl) ?_)
  refine run_ok 4000 _ _ _ _ ?_
  simp (maxSteps := 10000000) only [go_sem, c72, r72]
  refine sem_move 1 rfl ?_
  simp (maxSteps := 10000000) only [go_sem]
  refine sem_rounds (fun i : Nat => i ≤ l.length) (fun i => [(0, .pbox 0 0), (7, .vsl 1 (sv l) tight), (8, .int .i64 l.length), (9, .int .i64 (i : Nat))])
    (fun i => [.box [.sl 2 0 (s ++ strsB (l.take i)).length (s ++ strsB (l.take i)).length false], .gone, .row 1 (AE.bytes (s ++ strsB (l.take i)))]) (fun i => l.length - i) 0 [0, 1, 2] (Nat.zero_le _) ?_ ?_
  · simp only [Emb, go_sem]; simp [strsB]
  intro i hi
  refine run_ok 4000 _ _ _ _ ?_
  simp (maxSteps := 10000000) only [go_sem]
  refine ⟨fun hlt => ?_, fun hge => ?_⟩
  · have hlt : i < l.length := by omega
    have hin : (i : Int) < (l.length : Int) := by omega
    have hnx := strsB_take hlt
    have hb1 := strsB_len l i
    have hb2 := strsB_len l (i + 1)
    rw [hnx, List.length_append] at hb2
    have hb3 : (strB l[i]).length = (numB l[i].length).length + l[i].length := by simp [strB]
    have hpos : posN (l[i].length : Int) = l[i].length := by unfold posN; omega
    have hcall := ocount_spec [(l[i].length : Int)] true (s ++ strsB (l.take i)) (by intro n hn; simp at hn; rw [hn]; unfold I64; omega) (by rw [List.length_append]; simp only [List.length_cons, List.length_nil]; omega)
    have e1 : s ++ strsB (l.take i) ++ numsB (List.map posN [(l[i].length : Int)]) = s ++ strsB (l.take i) ++ numB l[i].length := by simp [numsB, hpos]
    have e2 : s ++ strsB (l.take i) ++ numB l[i].length ++ l[i] = s ++ strsB (l.take (i + 1)) := by rw [hnx]; simp [strB]
    have hle : (s ++ strsB (l.take i) ++ numB l[i].length).length + l[i].length ≤ 900000 := by rw [List.length_append, List.length_append]; omega
    rw [e1] at hcall
    have e3 := congrArg List.length e2
    rw [List.length_append] at e3
    generalize s ++ strsB (l.take i) ++ numB l[i].length = S at *
    skip
    simp (maxSteps := 10000000) only [go_sem, svl_hasS hlt, svl_rstr hlt, hin, Int.natCast_nonneg, inc64 (show i < 1000000000000 by omega), e2]
    refine sem_call rfl rfl (((hcall).embed [0, 2] rfl (by repeat' first | exact trivial | rfl | (simp only [go_sem]; done) | constructor) rfl (by first | rfl | simp only [go_sem]) rfl (by simp)).mono ?_)
    rintro _ _ ⟨_, _, ⟨rfl, rfl⟩, rfl, rfl⟩
    refine run_ok 4000 _ _ _ _ ?_
    simp (maxSteps := 10000000) only [go_sem, svl_hasS hlt, svl_rstr hlt, hin, Int.natCast_nonneg, inc64 (show i < 1000000000000 by omega), e2]
    refine ⟨by unfold small; omega, i + 1, by omega, hlt, [0, 1, 4], ?_⟩
    simp only [Emb, go_sem, e3]
  · have ht : l.take i = l := List.take_of_length_le (by omega)
    skip
    refine run_ok 4000 _ _ _ _ ?_
    simp (maxSteps := 10000000) only [go_sem, ht]
    refine ⟨_, _, .sub [0, 1, 2] ?_ .done, rfl, rfl⟩
    simp only [EmbV, go_sem, ht]
def countF (x : List UInt8 × Int) (most : Int) : (List UInt8 × Int) × Int :=
  if ((numI x).1 : Int) > (posN most : Int) then (failF (numI x).2 3, 0) else ((numI x).2, ((numI x).1 : Int))
theorem icount_spec (s : List UInt8) (e most : Int) (hm : I64 most) : Tri Try.prog 49 [.pbox 0 0, .int .i64 most] (inM s e)
    (fun v m => v = .int .i64 (countF (s, e) most).2 ∧ m = inM (countF (s, e) most).1.1 (countF (s, e) most).1.2) := by
  have hz := posN_cvt hm
  skip
  refine (Tri.enter (rl := r49) (code := c49) (by kernel_rfl) Try.func49 rfl c49_ok (by kernel_rfl) (by kernel_rfl) ?_)
  refine run_ok 4000 _ _ _ _ ?_
  simp (maxSteps := 10000000) only [go_sem, c49, r49, hz]
  refine sem_call rfl rfl (((inum_spec s e).embed [0] rfl (by repeat' first | exact trivial | rfl | (simp only [go_sem]; done) | constructor) rfl (by first | rfl | simp only [go_sem]) rfl (by simp)).mono ?_)
  rintro _ _ ⟨_, _, ⟨rfl, rfl⟩, rfl, rfl⟩
  refine run_ok 4000 _ _ _ _ ?_
  simp (maxSteps := 10000000) only [go_sem, hz]
  refine ⟨fun h => ?_, fun h => ?_⟩
  · have hc : countF (s, e) most = (failF (numI (s, e)).2 3, 0) := by unfold countF; rw [if_pos h]
    refine sem_call rfl rfl (((fail_spec (numI (s, e)).2.1 (numI (s, e)).2.2 3).embed [0] rfl (by repeat' first | exact trivial | rfl | (simp only [go_sem]; done) | constructor) rfl (by first | rfl | simp only [go_sem]) rfl (by simp)).mono ?_)
    rintro _ _ ⟨_, _, ⟨rfl, rfl⟩, rfl, rfl⟩
    refine run_ok 4000 _ _ _ _ ?_
    simp (maxSteps := 10000000) only [go_sem, hz]
    rw [hc]
    exact ⟨rfl, rfl⟩
  · have hc : countF (s, e) most = ((numI (s, e)).2, ((numI (s, e)).1 : Int)) := by unfold countF; rw [if_neg h]
    have hp : (posN most : Int) ≤ 9223372036854775807 := by unfold posN I64 at *; omega
    rw [hc, iwrap_i64_in (by omega)]
    exact ⟨rfl, rfl⟩
def strF (x : List UInt8 × Int) (most : Int) : (List UInt8 × Int) × List UInt8 := rawF (countF x most).1 (countF x most).2
theorem istr_spec (s : List UInt8) (e most : Int) (hm : I64 most) : Tri Try.prog 51 [.pbox 0 0, .int .i64 most] (inM s e)
    (fun v m => v = .str (strF (s, e) most).2 ∧ m = inM (strF (s, e) most).1.1 (strF (s, e) most).1.2) := by
  refine (Tri.enter (rl := r51) (code := c51) (by kernel_rfl) Try.func51 rfl c51_ok (by kernel_rfl) (by kernel_rfl) ?_)
  refine run_ok 4000 _ _ _ _ ?_
  simp (maxSteps := 10000000) only [go_sem, c51, r51]
  refine sem_call rfl rfl (((icount_spec s e most hm).embed [0] rfl (by repeat' first | exact trivial | rfl | (simp only [go_sem]; done) | constructor) rfl (by first | rfl | simp only [go_sem]) rfl (by simp)).mono ?_)
  rintro _ _ ⟨_, _, ⟨rfl, rfl⟩, rfl, rfl⟩
  refine run_ok 4000 _ _ _ _ ?_
  simp (maxSteps := 10000000) only [go_sem]
  refine sem_call rfl rfl (((raw_spec (countF (s, e) most).1.1 (countF (s, e) most).1.2 (countF (s, e) most).2).embed [0] rfl (by repeat' first | exact trivial | rfl | (simp only [go_sem]; done) | constructor) rfl (by first | rfl | simp only [go_sem]) rfl (by simp)).mono ?_)
  rintro _ _ ⟨_, _, ⟨rfl, rfl⟩, rfl, rfl⟩
  refine run_ok 4000 _ _ _ _ ?_
  simp (maxSteps := 10000000) only [go_sem]
  exact ⟨rfl, rfl⟩
def endF (x : List UInt8 × Int) : List UInt8 × Int := if x.1 ≠ [] then failF x 2 else x
theorem iend_spec (s : List UInt8) (e : Int) : Tri Try.prog 52 [.pbox 0 0] (inM s e) (fun v m => v = .int .i64 (endF (s, e)).2 ∧ m = inM (endF (s, e)).1 (endF (s, e)).2) := by
  have hq := seqb_iff s []
  by_cases hs : s = []
  · have h1 : seqb s [] = true := by rw [hq]; exact decide_eq_true hs
    have h2 : endF (s, e) = (s, e) := by simp [endF, hs]
    skip
    refine (Tri.enter (rl := r52) (code := c52) (by kernel_rfl) Try.func52 rfl c52_ok (by kernel_rfl) (by kernel_rfl) ?_)
    refine run_ok 4000 _ _ _ _ ?_
    simp (maxSteps := 10000000) only [go_sem, c52, r52, h1, h2]
  · have h1 : seqb s [] = false := by rw [hq]; exact decide_eq_false hs
    have h2 : endF (s, e) = failF (s, e) 2 := by simp [endF, hs]
    skip
    refine (Tri.enter (rl := r52) (code := c52) (by kernel_rfl) Try.func52 rfl c52_ok (by kernel_rfl) (by kernel_rfl) ?_)
    refine run_ok 4000 _ _ _ _ ?_
    simp (maxSteps := 10000000) only [go_sem, c52, r52, h1, h2]
    refine sem_call rfl rfl (((fail_spec s e 2).embed [0] rfl (by repeat' first | exact trivial | rfl | (simp only [go_sem]; done) | constructor) rfl (by first | rfl | simp only [go_sem]) rfl (by simp)).mono ?_)
    rintro _ _ ⟨_, _, ⟨rfl, rfl⟩, rfl, rfl⟩
    refine run_ok 4000 _ _ _ _ ?_
    simp (maxSteps := 10000000) only [go_sem, h1, h2]
theorem rcount_spec (k : Int) (h : I64 k) : Tri Try.prog 34 [.int .i64 k] [] (fun v m => v = .str (numB (posN k)) ∧ m = []) := by
  have hz := posN_cvt h
  skip
  refine (Tri.enter (rl := r34) (code := c34) (by kernel_rfl) Try.func34 rfl c34_ok (by kernel_rfl) (by kernel_rfl) ?_)
  refine run_ok 4000 _ _ _ _ ?_
  simp (maxSteps := 10000000) only [go_sem, c34, r34, hz]
  refine sem_call rfl rfl (((rNum_spec (posN k) (posN_lt h)).embed [] rfl trivial rfl rfl rfl (by simp)).mono ?_)
  rintro _ _ ⟨_, _, ⟨rfl, rfl⟩, rfl, rfl⟩
  refine run_ok 4000 _ _ _ _ ?_
  simp (maxSteps := 10000000) only [go_sem, hz]
theorem rstr_spec (s : List UInt8) (h : s.length ≤ 1000000) : Tri Try.prog 36 [.str s] [] (fun v m => v = .str (strB s) ∧ m = []) := by
  have hz : iwrap .u64 (s.length : Int) = (s.length : Int) := by rw [iwrap_u64]; omega
  have hl := numB_len10 (n := s.length) (by omega)
  skip
  refine (Tri.enter (rl := r36) (code := c36) (by kernel_rfl) Try.func36 rfl c36_ok (by kernel_rfl) (by kernel_rfl) ?_)
  refine run_ok 4000 _ _ _ _ ?_
  simp (maxSteps := 10000000) only [go_sem, c36, r36, hz]
  refine sem_call rfl rfl (((rNum_spec s.length (by omega)).embed [] rfl trivial rfl rfl rfl (by simp)).mono ?_)
  rintro _ _ ⟨_, _, ⟨rfl, rfl⟩, rfl, rfl⟩
  refine run_ok 4000 _ _ _ _ ?_
  simp (maxSteps := 10000000) only [go_sem, hz]
  exact ⟨by omega, rfl⟩
theorem rnum_bits {n C k : Nat} (hn : n < 128 ^ k) (hk : k ≤ 9) (hC : C < 256) (h9 : k = 9 → C ≤ 1) :
    iwrap .u64 ((n : Int) + iwrap .u64 (iwrap .u64 ((C : Int).tmod 128) * ((128 ^ k : Nat) : Int))) = ((n + C % 128 * 128 ^ k : Nat) : Int) := by
  obtain ⟨hb, _⟩ := num_bits (C := C) hn hk hC h9
  have e0 : (C : Int).tmod 128 = ((C % 128 : Nat) : Int) := by rw [Int.tmod_eq_emod_of_nonneg (by omega)]; omega
  have e1 : iwrap .u64 ((C % 128 : Nat) : Int) = ((C % 128 : Nat) : Int) := by rw [iwrap_u64]; omega
  have e2 : ((C % 128 : Nat) : Int) * ((128 ^ k : Nat) : Int) = ((C % 128 * 128 ^ k : Nat) : Int) := by push_cast; rfl
  rw [e0, e1, e2]
  have e3 : iwrap .u64 ((C % 128 * 128 ^ k : Nat) : Int) = ((C % 128 * 128 ^ k : Nat) : Int) := by rw [iwrap_u64]; omega
  rw [e3, iwrap_u64]
  omega
theorem rraw_spec (s : List UInt8) (e n : Int) : Tri Try.prog 46 [.agg [.str s, .int .i64 e], .int .i64 n] []
    (fun v m => v = .tup [.agg [.str (rawF (s, e) n).1.1, .int .i64 (rawF (s, e) n).1.2], .str (rawF (s, e) n).2] ∧ m = []) := by
  refine Tri.post ?_
  refine (Tri.enter (rl := r46) (code := c46) (by kernel_rfl) Try.func46 rfl c46_ok (by kernel_rfl) (by kernel_rfl) ?_)
  refine run_ok 4000 _ _ _ _ ?_
  simp (maxSteps := 10000000) only [go_sem, c46, r46]
  refine ⟨fun h1 => ?_, fun h1 => ⟨fun h2 => ?_, fun h2 => ⟨fun h3 => ?_, fun h3 => ?_⟩⟩⟩
  · have h1 : e ≠ 0 := by simpa using h1
    have hr : rawF (s, e) n = ((s, e), []) := by simp [rawF, h1]
    rw [hr]
    refine ⟨_, _, .sub [] ?_ .done, rfl, rfl⟩
    simp only [EmbV, go_sem]
  · have hr : rawF (s, e) n = ((s, e), []) := by simp [rawF, h2]
    rw [hr]
    refine ⟨_, _, .sub [] ?_ .done, rfl, rfl⟩
    simp only [EmbV, go_sem]
  · have h1 : e = 0 := by simpa using h1
    have hr : rawF (s, e) n = (([], 1), []) := by unfold rawF; rw [if_neg (by simp only; omega), if_pos h3]
    rw [hr]
    refine ⟨_, _, .sub [] ?_ .done, rfl, rfl⟩
    simp only [EmbV, go_sem]
  · have h1 : e = 0 := by simpa using h1
    have hr : rawF (s, e) n = ((s.drop n.toNat, 0), s.take n.toNat) := by unfold rawF; rw [if_neg (by simp only; omega), if_neg h3]
    rw [hr]
    have hb : 0 ≤ n ∧ n ≤ (s.length : Int) := ⟨by omega, by omega⟩
    skip
    refine sem_drawG l46_0_ok (by kernel_rfl) ?_
    intro KK hKK
    simp (maxSteps := 10000000) only [go_sem, l46_0, hb.1, hb.2]
    subst hKK
    simp (maxSteps := 10000000) only [go_sem, hb.1, hb.2]
    refine ⟨_, _, .sub [] ?_ .done, rfl, rfl⟩
    simp only [EmbV, go_sem]
theorem rfail_spec (s : List UInt8) (e f : Int) : Tri Try.prog 45 [.agg [.str s, .int .i64 e], .int .i64 f] []
    (fun v m => v = .agg [.str (failF (s, e) f).1, .int .i64 (failF (s, e) f).2] ∧ m = []) := by
  refine Tri.post ?_
  refine (Tri.enter (rl := r45) (code := c45) (by kernel_rfl) Try.func45 rfl c45_ok (by kernel_rfl) (by kernel_rfl) ?_)
  refine run_ok 4000 _ _ _ _ ?_
  simp (maxSteps := 10000000) only [go_sem, c45, r45]
  refine ⟨fun h1 => ⟨fun h2 => ?_, fun h2 => ?_⟩, fun h1 => ?_⟩
  · have h1 : e = 0 := by simpa using h1
    have h2 : f ≠ 0 := by simpa using h2
    rw [show failF (s, e) f = ([], f) by simp [failF, h1, h2]]
    refine ⟨_, _, .sub [] ?_ .done, rfl, rfl⟩
    simp only [EmbV, go_sem]
  · have h2 : f = 0 := by simpa using h2
    rw [show failF (s, e) f = (s, e) by simp [failF, h2]]
    refine ⟨_, _, .sub [] ?_ .done, rfl, rfl⟩
    simp only [EmbV, go_sem]
  · have h1 : e ≠ 0 := by simpa using h1
    rw [show failF (s, e) f = (s, e) by simp [failF, h1]]
    refine ⟨_, _, .sub [] ?_ .done, rfl, rfl⟩
    simp only [EmbV, go_sem]
theorem pow_spec (k : Nat) (hk : k ≤ 9) : Tri Try.prog 78 [.int .i64 (k : Nat)] [] (fun v m => v = .int .u64 (128 ^ k : Nat) ∧ m = []) := by
  refine Tri.post ?_
  refine (Tri.enter (rl := r78) (code := c78) (by kernel_rfl) Try.func78 rfl c78_ok (by kernel_rfl) (by kernel_rfl) ?_)
  refine run_ok 4000 _ _ _ _ ?_
  simp (maxSteps := 10000000) only [go_sem, c78, r78]
  refine sem_rounds (fun i : Nat => i ≤ k) (fun i => [(0, .int .i64 (k : Nat)), (3, .int .u64 (128 ^ i : Nat)), (4, .int .i64 (i : Nat))]) (fun i => []) (fun i => k - i) 0 [] (Nat.zero_le _) ?_ ?_
  · simp only [Emb, go_sem]; simp
  intro i hi
  refine run_ok 4000 _ _ _ _ ?_
  simp (maxSteps := 10000000) only [go_sem]
  refine ⟨fun hlt => ?_, fun hge => ?_⟩
  · have hlt : i < k := by omega
    have hp : 128 ^ (i + 1) ≤ 128 ^ 9 := Nat.pow_le_pow_right (by decide) (by omega)
    have he : (128 : Nat) ^ 9 = 9223372036854775808 := by decide
    have hw : iwrap .u64 (((128 ^ i : Nat) : Int) * 128) = ((128 ^ (i + 1) : Nat) : Int) := by
      rw [Nat.pow_succ] at hp ⊢
      rw [he] at hp
      generalize 128 ^ i = p at *
      rw [iwrap_u64]; omega
    refine ⟨i + 1, by omega, hlt, [], ?_⟩
    simp only [Emb, go_sem, hw, inc64 (show i < 1000000000000 by omega)]
  · have : i = k := by omega
    subst this
    refine run_ok 4000 _ _ _ _ ?_
    simp (maxSteps := 10000000) only [go_sem]
    refine ⟨_, _, .sub [] ?_ .done, rfl, rfl⟩
    simp only [EmbV, go_sem]
theorem rnum_take (s : List UInt8) (e : Int) : Tri Try.prog 44 [.agg [.str s, .int .i64 e]] []
    (fun v m => v = .tup [.agg [.str (numI (s, e)).2.1, .int .i64 (numI (s, e)).2.2], .int .u64 ((numI (s, e)).1 : Nat)] ∧ m = []) := by
  by_cases he : e = 0
  · subst he
    have hnum : numI (s, 0) = tk 0 0 s := by simp [numI]
    rw [hnum]
    refine Tri.post ?_
    refine (Tri.enter (rl := r44) (code := c44) (by kernel_rfl) Try.func44 rfl c44_ok (by kernel_rfl) (by kernel_rfl) ?_)
    refine run_ok 4000 _ _ _ _ ?_
    simp (maxSteps := 10000000) only [go_sem, c44, r44]
    refine sem_rounds (fun x : Nat × Nat × List UInt8 => x.1 ≤ 9 ∧ x.2.1 < 128 ^ x.1 ∧ tk x.1 x.2.1 x.2.2 = tk 0 0 s) (fun x => [(1, .pbox 0 0), (2, .pbox 1 0), (4, .int .u64 (x.2.1 : Nat)), (5, .int .i64 (x.1 : Nat))])
      (fun x => [.box [.str x.2.2, .int .i64 0], .box [.str [], .int .i64 0]]) (fun x => 10 - x.1) (0, 0, s) [0, 1] ⟨by simp, by simp, rfl⟩ ?_ ?_
    · simp only [Emb, go_sem]
    rintro ⟨k, n, r⟩ ⟨h1, h2, h3⟩
    simp only at h1 h2 h3
    have hk11 : (k : Int) < 11 := by omega
    have hinc := inc64 (show k < 1000000000000 by omega)
    cases r with
    | nil =>
      have htk : tk 0 0 s = (0, [], 1) := by rw [← h3]; rfl
      have hr : rawF ([], 0) 1 = (([], 1), []) := by decide
      skip
      refine run_ok 4000 _ _ _ _ ?_
      simp (maxSteps := 10000000) only [go_sem, hr, hk11]
      refine sem_call rfl rfl (((rraw_spec [] 0 1).embed [] rfl trivial rfl rfl rfl (by simp)).mono ?_)
      rintro _ _ ⟨_, _, ⟨rfl, rfl⟩, rfl, rfl⟩
      refine run_ok 4000 _ _ _ _ ?_
      simp (maxSteps := 10000000) only [go_sem, hr, hk11]
      refine ⟨_, _, .sub [] ?_ .done, rfl, rfl⟩
      simp only [EmbV, go_sem, htk, Int.natCast_zero]
    | cons c r =>
      have hr : rawF (c :: r, 0) 1 = ((r, 0), [c]) := by simp [rawF]; omega
      have hs : sget [c] 0 = (c.toNat : Int) := by simp [sget]
      have hc256 := c.toNat_lt
      generalize hc : c.toNat = C at *
      simp only [tk, hc] at h3
      by_cases k0 : 0 < k
      · have g1 : (k : Int) > 0 := by omega
        by_cases c0 : C = 0
        · have g2 : ((C : Int) == 0) = true := by simp [c0]
          rw [if_pos (.inl ⟨c0, k0⟩)] at h3
          skip
          refine run_ok 4000 _ _ _ _ ?_
          simp (maxSteps := 10000000) only [go_sem, hr, hs, hk11, hinc, g1, g2, rfl_len1]
          refine sem_call rfl rfl (((rraw_spec (c :: r) 0 1).embed [] rfl trivial rfl rfl rfl (by simp)).mono ?_)
          rintro _ _ ⟨_, _, ⟨rfl, rfl⟩, rfl, rfl⟩
          refine run_ok 4000 _ _ _ _ ?_
          simp (maxSteps := 10000000) only [go_sem, hr, hs, hk11, hinc, g1, g2, rfl_len1]
          refine ⟨_, _, .sub [] ?_ .done, rfl, rfl⟩
          simp only [EmbV, go_sem, ← h3, Int.natCast_zero]
        · have g2 : ((C : Int) == 0) = false := by simp [c0]
          by_cases k9 : k = 9
          · have g3 : ((k : Int) == 9) = true := by simp [k9]
            by_cases c1 : 1 < C
            · have g4 : (C : Int) > 1 := by omega
              rw [if_pos (.inr ⟨k9, c1⟩)] at h3
              skip
              refine run_ok 4000 _ _ _ _ ?_
              simp (maxSteps := 10000000) only [go_sem, hr, hs, hk11, hinc, g1, g2, g3, g4, rfl_len1]
              refine sem_call rfl rfl (((rraw_spec (c :: r) 0 1).embed [] rfl trivial rfl rfl rfl (by simp)).mono ?_)
              rintro _ _ ⟨_, _, ⟨rfl, rfl⟩, rfl, rfl⟩
              refine run_ok 4000 _ _ _ _ ?_
              simp (maxSteps := 10000000) only [go_sem, hr, hs, hk11, hinc, g1, g2, g3, g4, rfl_len1]
              refine ⟨_, _, .sub [] ?_ .done, rfl, rfl⟩
              simp only [EmbV, go_sem, ← h3, Int.natCast_zero]
            · have g4 : ¬ (C : Int) > 1 := by omega
              rw [if_neg (by omega)] at h3
              have hor := rnum_bits (C := C) h2 h1 (by omega) (by omega)
              skip
              refine run_ok 4000 _ _ _ _ ?_
              simp (maxSteps := 10000000) only [go_sem, hr, hs, hk11, hinc, g1, g2, g3, g4, hor, rfl_len1]
              refine sem_call rfl rfl (((rraw_spec (c :: r) 0 1).embed [] rfl trivial rfl rfl rfl (by simp)).mono ?_)
              rintro _ _ ⟨_, _, ⟨rfl, rfl⟩, rfl, rfl⟩
              refine run_ok 4000 _ _ _ _ ?_
              simp (maxSteps := 10000000) only [go_sem, hr, hs, hk11, hinc, g1, g2, g3, g4, hor, rfl_len1]
              refine sem_drawG l44_0_ok (by kernel_rfl) ?_
              intro KK hKK
              simp (maxSteps := 10000000) only [go_sem, l44_0, hr, hs, hk11, hinc, g1, g2, g3, g4, hor, rfl_len1]
              refine TriZ.of (((pow_spec k h1).embed [] rfl (by repeat' first | exact trivial | rfl | (simp only [go_sem]; done) | constructor) rfl (by first | rfl | simp only [go_sem]) rfl (by simp)).mono ?_)
              rintro _ _ ⟨_, _, ⟨rfl, rfl⟩, rfl, rfl⟩
              simp (maxSteps := 10000000) only [go_sem, hr, hs, hk11, hinc, g1, g2, g3, g4, hor, rfl_len1]
              subst hKK
              simp (maxSteps := 10000000) only [go_sem, hr, hs, hk11, hinc, g1, g2, g3, g4, hor, rfl_len1]
              refine ⟨fun hlt => ?_, fun hge => ?_⟩
              · rw [if_pos (by omega)] at h3
                refine ⟨_, _, .sub [] ?_ .done, rfl, rfl⟩
                simp only [EmbV, go_sem, ← h3]
              · rw [if_neg (by omega)] at h3
                refine ⟨(k + 1, n + C % 128 * 128 ^ k, r), by simp only; omega, ⟨by simp only; omega, ?_, h3⟩, [0, 1], ?_⟩
                · simp only
                  rw [Nat.pow_succ]
                  have hp : 0 < 128 ^ k := Nat.pow_pos (by decide)
                  have : C % 128 * 128 ^ k ≤ 127 * 128 ^ k := Nat.mul_le_mul_right _ (by omega)
                  omega
                · simp only [Emb, go_sem]
          · have g3 : ((k : Int) == 9) = false := by simp; omega
            rw [if_neg (by omega)] at h3
            have hor := rnum_bits (C := C) h2 h1 (by omega) (by omega)
            skip
            refine run_ok 4000 _ _ _ _ ?_
            simp (maxSteps := 10000000) only [go_sem, hr, hs, hk11, hinc, g1, g2, g3, hor, rfl_len1]
            refine sem_call rfl rfl (((rraw_spec (c :: r) 0 1).embed [] rfl trivial rfl rfl rfl (by simp)).mono ?_)
            rintro _ _ ⟨_, _, ⟨rfl, rfl⟩, rfl, rfl⟩
            refine run_ok 4000 _ _ _ _ ?_
            simp (maxSteps := 10000000) only [go_sem, hr, hs, hk11, hinc, g1, g2, g3, hor, rfl_len1]
            refine sem_drawG l44_0_ok (by kernel_rfl) ?_
            intro KK hKK
            simp (maxSteps := 10000000) only [go_sem, l44_0, hr, hs, hk11, hinc, g1, g2, g3, hor, rfl_len1]
            refine TriZ.of (((pow_spec k h1).embed [] rfl (by repeat' first | exact trivial | rfl | (simp only [go_sem]; done) | constructor) rfl (by first | rfl | simp only [go_sem]) rfl (by simp)).mono ?_)
            rintro _ _ ⟨_, _, ⟨rfl, rfl⟩, rfl, rfl⟩
            simp (maxSteps := 10000000) only [go_sem, hr, hs, hk11, hinc, g1, g2, g3, hor, rfl_len1]
            subst hKK
            simp (maxSteps := 10000000) only [go_sem, hr, hs, hk11, hinc, g1, g2, g3, hor, rfl_len1]
            refine ⟨fun hlt => ?_, fun hge => ?_⟩
            · rw [if_pos (by omega)] at h3
              refine ⟨_, _, .sub [] ?_ .done, rfl, rfl⟩
              simp only [EmbV, go_sem, ← h3]
            · rw [if_neg (by omega)] at h3
              refine ⟨(k + 1, n + C % 128 * 128 ^ k, r), by simp only; omega, ⟨by simp only; omega, ?_, h3⟩, [0, 1], ?_⟩
              · simp only
                rw [Nat.pow_succ]
                have hp : 0 < 128 ^ k := Nat.pow_pos (by decide)
                have : C % 128 * 128 ^ k ≤ 127 * 128 ^ k := Nat.mul_le_mul_right _ (by omega)
                omega
              · simp only [Emb, go_sem]
      · have g1 : ¬ (k : Int) > 0 := by omega
        have g3 : ((k : Int) == 9) = false := by simp; omega
        rw [if_neg (by omega)] at h3
        have hor := rnum_bits (C := C) h2 h1 (by omega) (by omega)
        skip
        refine run_ok 4000 _ _ _ _ ?_
        simp (maxSteps := 10000000) only [go_sem, hr, hs, hk11, hinc, g1, g3, hor, rfl_len1]
        refine sem_call rfl rfl (((rraw_spec (c :: r) 0 1).embed [] rfl trivial rfl rfl rfl (by simp)).mono ?_)
        rintro _ _ ⟨_, _, ⟨rfl, rfl⟩, rfl, rfl⟩
        refine run_ok 4000 _ _ _ _ ?_
        simp (maxSteps := 10000000) only [go_sem, hr, hs, hk11, hinc, g1, g3, hor, rfl_len1]
        refine sem_drawG l44_0_ok (by kernel_rfl) ?_
        intro KK hKK
        simp (maxSteps := 10000000) only [go_sem, l44_0, hr, hs, hk11, hinc, g1, g3, hor, rfl_len1]
        refine TriZ.of (((pow_spec k h1).embed [] rfl (by repeat' first | exact trivial | rfl | (simp only [go_sem]; done) | constructor) rfl (by first | rfl | simp only [go_sem]) rfl (by simp)).mono ?_)
        rintro _ _ ⟨_, _, ⟨rfl, rfl⟩, rfl, rfl⟩
        simp (maxSteps := 10000000) only [go_sem, hr, hs, hk11, hinc, g1, g3, hor, rfl_len1]
        subst hKK
        simp (maxSteps := 10000000) only [go_sem, hr, hs, hk11, hinc, g1, g3, hor, rfl_len1]
        refine ⟨fun hlt => ?_, fun hge => ?_⟩
        · rw [if_pos (by omega)] at h3
          refine ⟨_, _, .sub [] ?_ .done, rfl, rfl⟩
          simp only [EmbV, go_sem, ← h3]
        · rw [if_neg (by omega)] at h3
          refine ⟨(k + 1, n + C % 128 * 128 ^ k, r), by simp only; omega, ⟨by simp only; omega, ?_, h3⟩, [0, 1], ?_⟩
          · simp only
            rw [Nat.pow_succ]
            have hp : 0 < 128 ^ k := Nat.pow_pos (by decide)
            have : C % 128 * 128 ^ k ≤ 127 * 128 ^ k := Nat.mul_le_mul_right _ (by omega)
            omega
          · simp only [Emb, go_sem]
  · skip
    have hnum : numI (s, e) = (0, s, e) := by simp [numI, he]
    rw [hnum]
    have he' : (e != 0) = true := by simp [he]
    have hr : rawF (s, e) 1 = ((s, e), []) := by simp [rawF, he]
    refine Tri.post ?_
    refine (Tri.enter (rl := r44) (code := c44) (by kernel_rfl) Try.func44 rfl c44_ok (by kernel_rfl) (by kernel_rfl) ?_)
    refine run_ok 4000 _ _ _ _ ?_
    simp (maxSteps := 10000000) only [go_sem, c44, r44]
    refine sem_rounds (fun x : Unit => True) (fun x => [(1, .pbox 0 0), (2, .pbox 1 0), (4, .int .u64 0), (5, .int .i64 0)])
      (fun x => [.box [.str s, .int .i64 e], .box [.str [], .int .i64 0]]) (fun x => 0) () [0, 1] trivial ?_ ?_
    · simp only [Emb, go_sem]
    rintro _ _
    skip
    refine run_ok 4000 _ _ _ _ ?_
    simp (maxSteps := 10000000) only [go_sem, he', hr]
    refine sem_call rfl rfl (((rraw_spec s e 1).embed [] rfl trivial rfl rfl rfl (by simp)).mono ?_)
    rintro _ _ ⟨_, _, ⟨rfl, rfl⟩, rfl, rfl⟩
    refine run_ok 4000 _ _ _ _ ?_
    simp (maxSteps := 10000000) only [go_sem, he', hr]
    refine ⟨_, _, .sub [] ?_ .done, rfl, rfl⟩
    simp only [EmbV, go_sem, Int.natCast_zero]
theorem rtakeCount_spec (s : List UInt8) (e most : Int) (hm : I64 most) : Tri Try.prog 26 [.agg [.str s, .int .i64 e], .int .i64 most] []
    (fun v m => v = .tup [.agg [.str (countF (s, e) most).1.1, .int .i64 (countF (s, e) most).1.2], .int .i64 (countF (s, e) most).2] ∧ m = []) := by
  refine Tri.post ?_
  have hz := posN_cvt hm
  have hnt := rnum_take s e
  have hc : countF (s, e) most = if ((numI (s, e)).1 : Int) > (posN most : Int) then (failF (numI (s, e)).2 3, 0) else ((numI (s, e)).2, ((numI (s, e)).1 : Int)) := rfl
  rw [hc]
  generalize numI (s, e) = R at *
  obtain ⟨n, r, f⟩ := R
  simp only at hnt
  have hp : (posN most : Int) ≤ 9223372036854775807 := by unfold posN I64 at *; omega
  by_cases h : (n : Int) > (posN most : Int)
  · rw [if_pos h]
    skip
    refine (Tri.enter (rl := r26) (code := c26) (by kernel_rfl) Try.func26 rfl c26_ok (by kernel_rfl) (by kernel_rfl) ?_)
    refine run_ok 4000 _ _ _ _ ?_
    simp (maxSteps := 10000000) only [go_sem, c26, r26, hz, h]
    refine sem_call rfl rfl (((hnt).embed [] rfl trivial rfl rfl rfl (by simp)).mono ?_)
    rintro _ _ ⟨_, _, ⟨rfl, rfl⟩, rfl, rfl⟩
    refine run_ok 4000 _ _ _ _ ?_
    simp (maxSteps := 10000000) only [go_sem, hz, h]
    refine sem_call rfl rfl (((rfail_spec r f 3).embed [] rfl trivial rfl rfl rfl (by simp)).mono ?_)
    rintro _ _ ⟨_, _, ⟨rfl, rfl⟩, rfl, rfl⟩
    refine run_ok 4000 _ _ _ _ ?_
    simp (maxSteps := 10000000) only [go_sem, hz, h]
    refine ⟨_, _, .sub [] ?_ .done, rfl, rfl⟩
    simp only [EmbV, go_sem]
  · have hw : iwrap .i64 (n : Int) = (n : Int) := iwrap_i64_in (by omega)
    rw [if_neg h]
    skip
    refine (Tri.enter (rl := r26) (code := c26) (by kernel_rfl) Try.func26 rfl c26_ok (by kernel_rfl) (by kernel_rfl) ?_)
    refine run_ok 4000 _ _ _ _ ?_
    simp (maxSteps := 10000000) only [go_sem, c26, r26, hz, h, hw]
    refine sem_call rfl rfl (((hnt).embed [] rfl trivial rfl rfl rfl (by simp)).mono ?_)
    rintro _ _ ⟨_, _, ⟨rfl, rfl⟩, rfl, rfl⟩
    refine run_ok 4000 _ _ _ _ ?_
    simp (maxSteps := 10000000) only [go_sem, hz, h, hw]
    refine ⟨_, _, .sub [] ?_ .done, rfl, rfl⟩
    simp only [EmbV, go_sem]
theorem rtakeStr_spec (s : List UInt8) (e most : Int) (hm : I64 most) : Tri Try.prog 27 [.agg [.str s, .int .i64 e], .int .i64 most] []
    (fun v m => v = .tup [.agg [.str (strF (s, e) most).1.1, .int .i64 (strF (s, e) most).1.2], .str (strF (s, e) most).2] ∧ m = []) := by
  refine Tri.post ?_
  refine (Tri.enter (rl := r27) (code := c27) (by kernel_rfl) Try.func27 rfl c27_ok (by kernel_rfl) (by kernel_rfl) ?_)
  refine run_ok 4000 _ _ _ _ ?_
  simp (maxSteps := 10000000) only [go_sem, c27, r27]
  refine sem_call rfl rfl (((rtakeCount_spec s e most hm).embed [] rfl trivial rfl rfl rfl (by simp)).mono ?_)
  rintro _ _ ⟨_, _, ⟨rfl, rfl⟩, rfl, rfl⟩
  refine run_ok 4000 _ _ _ _ ?_
  simp (maxSteps := 10000000) only [go_sem]
  refine sem_call rfl rfl (((rraw_spec (countF (s, e) most).1.1 (countF (s, e) most).1.2 (countF (s, e) most).2).embed [] rfl trivial rfl rfl rfl (by simp)).mono ?_)
  rintro _ _ ⟨_, _, ⟨rfl, rfl⟩, rfl, rfl⟩
  refine run_ok 4000 _ _ _ _ ?_
  simp (maxSteps := 10000000) only [go_sem]
  refine ⟨_, _, .sub [] ?_ .done, rfl, rfl⟩
  simp only [EmbV, go_sem, strF]
theorem rend_spec (s : List UInt8) (e : Int) : Tri Try.prog 28 [.agg [.str s, .int .i64 e]] [] (fun v m => v = .int .i64 (endF (s, e)).2 ∧ m = []) := by
  refine Tri.post ?_
  have hq := seqb_iff s []
  by_cases he : e = 0
  · have he' : (e == 0) = true := by simp [he]
    by_cases hs : s = []
    · have h1 : seqb s [] = true := by rw [hq]; exact decide_eq_true hs
      have h2 : endF (s, e) = (s, e) := by simp [endF, hs]
      rw [h2]
      skip
      refine (Tri.enter (rl := r28) (code := c28) (by kernel_rfl) Try.func28 rfl c28_ok (by kernel_rfl) (by kernel_rfl) ?_)
      refine run_ok 4000 _ _ _ _ ?_
      simp (maxSteps := 10000000) only [go_sem, c28, r28, he', h1]
      refine ⟨_, _, .sub [] ?_ .done, rfl, rfl⟩
      simp only [EmbV, go_sem]
    · have h1 : seqb s [] = false := by rw [hq]; exact decide_eq_false hs
      have h2 : (endF (s, e)).2 = 2 := by simp [endF, hs, failF, he]
      rw [h2]
      skip
      refine (Tri.enter (rl := r28) (code := c28) (by kernel_rfl) Try.func28 rfl c28_ok (by kernel_rfl) (by kernel_rfl) ?_)
      refine run_ok 4000 _ _ _ _ ?_
      simp (maxSteps := 10000000) only [go_sem, c28, r28, he', h1]
      refine ⟨_, _, .sub [] ?_ .done, rfl, rfl⟩
      simp only [EmbV, go_sem]
  · have he' : (e == 0) = false := by simp [he]
    have h2 : (endF (s, e)).2 = e := by
      unfold endF failF; simp [he]
    rw [h2]
    skip
    refine (Tri.enter (rl := r28) (code := c28) (by kernel_rfl) Try.func28 rfl c28_ok (by kernel_rfl) (by kernel_rfl) ?_)
    refine run_ok 4000 _ _ _ _ ?_
    simp (maxSteps := 10000000) only [go_sem, c28, r28, he']
    refine ⟨_, _, .sub [] ?_ .done, rfl, rfl⟩
    simp only [EmbV, go_sem]
end Go.AEX
