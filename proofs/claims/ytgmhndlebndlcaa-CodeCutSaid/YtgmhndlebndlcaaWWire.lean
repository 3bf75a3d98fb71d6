/- Wire: numbers as bytes. -/
import Derived.Test.YtgmhndlebndlcaaCom
import Derived.Test.YtgmhndlebndlcaaCD
import Derived.Test.YtgmhndlebndlcaaWCrc
import Derived.KernelRfl
namespace Go.AEX
open Go Go.AE Go.Proofs
set_option maxRecDepth 100000
set_option linter.unusedVariables false
set_option linter.unusedSimpArgs false

/-- A number's bytes: seven bits in each, the lowest first. -/
def numB (n : Nat) : List UInt8 := if 127 < n then UInt8.ofNat (128 + n % 128) :: numB (n / 128) else [UInt8.ofNat n]
termination_by n
theorem numB_more {n : Nat} (h : 127 < n) : numB n = UInt8.ofNat (128 + n % 128) :: numB (n / 128) := by rw [numB, if_pos h]
theorem numB_last {n : Nat} (h : n ≤ 127) : numB n = [UInt8.ofNat n] := by rw [numB, if_neg (by omega)]
theorem numB_len : ∀ (k n : Nat), n < 128 ^ (k + 1) → (numB n).length ≤ k + 1
  | 0, n, h => by rw [numB_last (by simp at h; omega)]; simp
  | k + 1, n, h => by
    by_cases h1 : 127 < n
    · rw [numB_more h1]
      have := numB_len k (n / 128) (by rw [Nat.pow_succ] at h; exact Nat.div_lt_of_lt_mul (by rw [Nat.mul_comm]; exact h))
      simp; exact this
    · rw [numB_last (by omega)]; simp
theorem numB_len10 {n : Nat} (h : n < 18446744073709551616) : (numB n).length ≤ 10 := numB_len 9 n (Nat.lt_of_lt_of_le h (by decide))
theorem toBytes_one (k : IntKind) (n : Int) : toBytes [[.int k n]] = [UInt8.ofNat n.toNat] := rfl
theorem all_one (n : Int) : allU8 [[.int .u8 n]] := by intro x hx; simp at hx; exact ⟨n, hx⟩
theorem rlow (n : Nat) (h : n < 18446744073709551616) : UInt8.ofNat (iwrap .u8 (iwrap .u64 (128 + (n : Int).tmod 128))).toNat = UInt8.ofNat (128 + n % 128) := by
  rw [iwrap_u64, iwrap_u8, Int.tmod_eq_emod_of_nonneg (by omega)]
  congr 1; omega
theorem rdiv (n : Nat) (h : n < 18446744073709551616) : iwrap .u64 ((n : Int).tdiv 128) = ((n / 128 : Nat) : Int) := by
  rw [iwrap_u64, Int.tdiv_eq_ediv_of_nonneg (by omega)]; omega
theorem rlast (n : Nat) (h : n ≤ 127) : UInt8.ofNat (iwrap .u8 (n : Int)).toNat = UInt8.ofNat n := by
  rw [iwrap_u8]; congr 1; omega
theorem rNum_spec (N : Nat) (hN : N < 18446744073709551616) : Tri Try.prog 28 [.int .u64 (N : Nat)] [] (fun v m => v = .str (numB N) ∧ m = []) := by
  refine (Tri.enter (rl := r28) (code := c28) (by kernel_rfl) Try.func28 rfl c28_ok (by kernel_rfl) (by kernel_rfl) ?_)
  refine run_ok 4000 _ _ _ _ ?_
  simp (maxSteps := 10000000) only [go_sem, c28, r28]
  refine sem_rounds (fun x : Nat × Nat × List UInt8 => x.1 ≤ 10 ∧ x.2.1 * 128 ^ x.1 ≤ N ∧ x.2.2 ++ numB x.2.1 = numB N ∧ x.2.2.length = x.1) (fun x => [(0, .int .u64 (x.2.1 : Nat)), (3, .str x.2.2), (4, .int .i64 (x.1 : Nat))]) (fun x => []) (fun x => 10 - x.1) (0, N, []) [] ⟨by simp, by simp, by simp, rfl⟩ ?_ ?_
  · simp only [Emb, go_sem]
  rintro ⟨i, n, s⟩ ⟨h1, h2, h3, h4⟩
  simp only at h1 h2 h3 h4
  have hn : n < 18446744073709551616 := Nat.lt_of_le_of_lt (Nat.le_trans (Nat.le_mul_of_pos_right _ (Nat.pow_pos (by decide))) h2) hN
  refine run_ok 4000 _ _ _ _ ?_
  simp (maxSteps := 10000000) only [go_sem]
  refine ⟨fun hi => ⟨fun hm => ?_, fun hm => ?_⟩, fun hi => ?_⟩
  · have hm : 127 < n := by omega
    rw [toBytes_one, rlow n hn, rdiv n hn]
    refine ⟨all_one _, by simp; omega, (i + 1, n / 128, s ++ [UInt8.ofNat (128 + n % 128)]), by simp only; omega, ⟨by simp only; omega, ?_, ?_, by simp [h4]⟩, [], ?_⟩
    · simp only
      refine Nat.le_trans ?_ h2
      rw [Nat.pow_succ, Nat.mul_comm (128 ^ i) 128, ← Nat.mul_assoc]
      exact Nat.mul_le_mul_right _ (Nat.div_mul_le_self _ _)
    · simp only; rw [← h3, numB_more hm]; simp
    · simp only [Emb, go_sem]
      rw [iwrap_i64_in (by omega)]
      simp
  · refine run_ok 4000 _ _ _ _ ?_
    simp (maxSteps := 10000000) only [go_sem]
    rw [toBytes_one, rlast n (by omega)]
    refine ⟨all_one _, by simp; omega, ?_⟩
    rw [← h3, numB_last (by omega)]
  · refine run_ok 4000 _ _ _ _ ?_
    simp (maxSteps := 10000000) only [go_sem]
    have : i = 10 := by omega
    subst this
    have : n ≤ 127 := by
      have : n * 128 ^ 10 < 18446744073709551616 := Nat.lt_of_le_of_lt h2 hN
      have : n * 1180591620717411303424 < 18446744073709551616 := this
      omega
    rw [toBytes_one, rlast n (by omega)]
    refine ⟨all_one _, by simp; omega, ?_⟩
    rw [← h3, numB_last (by omega)]
theorem or128 (n : Nat) : ibits .or .u8 (iwrap .u8 (n : Int)) 128 = ((UInt8.ofNat (128 + n % 128)).toNat : Int) := by
  have e : iwrap .u8 (n : Int) = ((n % 256 : Nat) : Int) := by rw [iwrap_u8]; omega
  have key : ∀ x : Nat, x < 256 → ibits .or .u8 (x : Int) 128 = ((128 + x % 128 : Nat) : Int) := by decide +kernel
  rw [e, key _ (by omega), UInt8.toNat_ofNat']; omega
theorem byte_last (n : Nat) (h : n ≤ 127) : iwrap .u8 (n : Int) = ((UInt8.ofNat n).toNat : Int) := by
  rw [iwrap_u8, UInt8.toNat_ofNat']; omega
theorem shr7 (n : Nat) (h : n < 18446744073709551616) : ishr .u64 (n : Int) 7 = ((n / 128 : Nat) : Int) := by
  show (n : Int).fdiv (2 ^ min (Int.toNat 7) 64) = _
  rw [show (2 : Int) ^ min (Int.toNat 7) 64 = 128 by decide, Int.fdiv_eq_ediv_of_nonneg _ (by omega)]; omega
/-- Bytes that grow. -/
def outM (s : List UInt8) : Mem := [.box [.sl 1 0 s.length s.length false], .row 1 (AE.bytes s)]
def outM2 (s : List UInt8) : Mem := [.box [.sl 2 0 s.length s.length false], .gone, .row 1 (AE.bytes s)]
attribute [go_sem] outM outM2
def numsB (l : List Nat) : List UInt8 := (l.map numB).flatten
theorem numsB_one (n : Nat) : numsB [n] = numB n := by simp [numsB]
def nv (l : List Nat) : List (List AV) := l.map fun (n : Nat) => [AV.int .u64 (n : Int)]
theorem nv_len (l : List Nat) : (nv l).length = l.length := by simp [nv]
theorem nv_get {l : List Nat} {i : Nat} (h : i < l.length) : (nv l)[i]? = some [.int .u64 (l[i] : Nat)] := by simp [nv, h]
theorem nv_hasI {l : List Nat} {i : Nat} (h : i < l.length) : hasI .u64 (nv l) i 0 := ⟨_, _, nv_get h, by simp; rfl⟩
theorem nv_rint {l : List Nat} {i : Nat} (h : i < l.length) : rint (nv l) i 0 = (l[i] : Nat) := by simp [rint, List.getD_eq_getElem?_getD, nv_get h]
theorem numsB_take (l : List Nat) (i : Nat) (h : i < l.length) : numsB (l.take (i + 1)) = numsB (l.take i) ++ numB l[i] := by
  unfold numsB; rw [List.take_succ_eq_append_getElem h, List.map_append, List.flatten_append]; simp
theorem numsB_len (l : List Nat) (h : ∀ n ∈ l, n < 18446744073709551616) : (numsB l).length ≤ 10 * l.length := by
  induction l with
  | nil => simp [numsB]
  | cons n l ih =>
    have := ih fun m hm => h m (by simp [hm])
    have := numB_len10 (h n (by simp))
    simp only [numsB, List.map_cons, List.flatten_cons, List.length_append, List.length_cons] at *
    omega
theorem wNum_spec (l : List Nat) (tight : Bool) (s : List UInt8) (hl : ∀ n ∈ l, n < 18446744073709551616) (hs : s.length + 10 * l.length ≤ 1000000) :
    Tri Try.prog 33 [.pbox 0 0, .vsl 1 (nv l) tight] (outM s) (fun v m => v = .pbox 0 0 ∧ m = outM2 (s ++ numsB l)) := by
  unfold outM outM2
  refine (Tri.enter (rl := r33) (code := c33) (by kernel_rfl) Try.func33 rfl c33_ok (by kernel_rfl) (by kernel_rfl) ?_)
  refine run_ok 4000 _ _ _ _ ?_
  simp (maxSteps := 10000000) only [go_sem, c33, r33]
  refine sem_move 1 rfl ?_
  simp only [go_sem]
  refine sem_rounds (fun i : Nat => i ≤ l.length) (fun i => [(0, .pbox 0 0), (7, .vsl 1 (nv l) tight), (8, .int .i64 l.length), (9, .int .i64 i)]) (fun i => [.box [.sl 2 0 (s ++ numsB (l.take i)).length (s ++ numsB (l.take i)).length false], .gone, .row 1 (AE.bytes (s ++ numsB (l.take i)))]) (fun i => l.length - i) 0 [0, 1, 2] (Nat.zero_le _) ?_ ?_
  · simp only [Emb, go_sem]; simp [nv_len, numsB]
  intro i hi
  refine run_ok 4000 _ _ _ _ ?_
  simp (maxSteps := 10000000) only [go_sem]
  refine ⟨fun hlt => ?_, fun hge => ?_⟩
  · have hlt : i < l.length := by omega
    rw [nv_rint hlt, nv_len]
    refine ⟨by constructor <;> omega, nv_hasI hlt, ?_⟩
    have hN := hl _ (List.getElem_mem hlt)
    have hT := numsB_len (l.take i) fun n hn => hl n (List.mem_of_mem_take hn)
    have hT2 : (l.take i).length ≤ l.length - 1 := by simp; omega
    have hB := numB_len10 hN
    generalize hS : s ++ numsB (l.take i) = S
    have hSl : S.length + 10 ≤ 1000000 := by rw [← hS, List.length_append]; omega
    refine sem_rounds (fun x : Nat × List UInt8 => x.1 ≤ l[i] ∧ x.2 ++ numB x.1 = S ++ numB l[i]) (fun x => [(0, .pbox 0 0), (7, .vsl 1 (nv l) tight), (8, .int .i64 l.length), (9, .int .i64 i), (6, .int .u64 (x.1 : Nat))]) (fun x => [.box [.sl 2 0 x.2.length x.2.length false], .gone, .row 1 (AE.bytes x.2)]) (fun x => x.1) (l[i], S) [0, 1, 2] ⟨Nat.le_refl _, rfl⟩ ?_ ?_
    · simp only [Emb, go_sem]
    rintro ⟨n, x⟩ ⟨h1, h2⟩
    simp only at h1 h2
    have hx : x.length + (numB n).length ≤ 1000000 := by have := congrArg List.length h2; simp only [List.length_append] at this; omega
    refine run_ok 4000 _ _ _ _ ?_
    simp (maxSteps := 10000000) only [go_sem]
    refine ⟨fun hm => ?_, fun hm => ?_⟩
    · have hm : 127 < n := by omega
      rw [numB_more hm] at hx
      simp only [List.length_cons] at hx
      refine ⟨by unfold small; omega, (n / 128, x ++ [UInt8.ofNat (128 + n % 128)]), by simp only; omega, ⟨by simp only; omega, by simp only; rw [← h2, numB_more hm]; simp⟩, [0, 1, 3], ?_⟩
      simp only [Emb, go_sem, or128, byte_one, shr7 n (by omega)]
      simp
    · refine run_ok 4000 _ _ _ _ ?_
      simp (maxSteps := 10000000) only [go_sem]
      refine ⟨by unfold small; omega, i + 1, by omega, by omega, [0, 1, 3], ?_⟩
      rw [numB_last (by omega)] at h2
      simp only [Emb, go_sem, byte_last n (by omega), byte_one, inc64 (show i < 1000000000000 by omega), numsB_take l i hlt]
      rw [h2, ← hS]
      have := congrArg List.length h2
      simp at this
      simp [this, ← hS, Nat.add_assoc]
  · refine run_ok 4000 _ _ _ _ ?_
    simp (maxSteps := 10000000) only [go_sem]
    rw [List.take_of_length_le (by omega)]
end Go.AEX
