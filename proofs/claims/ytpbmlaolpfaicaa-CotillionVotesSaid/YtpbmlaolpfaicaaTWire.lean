/- Turned to this seat by turn.py: WWire.lean Wire2.lean Wire3.lean WireS.lean Wire4.lean WireP.lean WireT.lean. -/
import Derived.Test.YtpbmlaolpfaicaaCom
import Derived.Test.YtpbmlaolpfaicaaTSum
import Derived.Test.YtpbmlaolpfaicaaAEzj
import Derived.Test.YtpbmlaolpfaicaaAEsa
namespace Go.AEX
open Go Go.AE Go.Proofs
set_option maxRecDepth 100000
set_option linter.unusedVariables false
set_option linter.unusedSimpArgs false

def numB (n : Nat) : List UInt8 := if 127 < n then UInt8.ofNat (128 + n % 128) :: numB (n / 128) else [UInt8.ofNat n]
termination_by n
theorem numB_more {n : Nat} (h : 127 < n) : numB n = UInt8.ofNat (128 + n % 128) :: numB (n / 128) := by rw [numB, if_pos h]
theorem numB_last {n : Nat} (h : n ≤ 127) : numB n = [UInt8.ofNat n] := by rw [numB, if_neg (by omega)]
theorem numB_len : ∀ (k n : Nat), n < 128 ^ (k + 1) → (numB n).length ≤ k + 1
  | 0, n, h => by rw [numB_last (by simp at h; omega)]; simp
  | k + 1, n, h => by
    by_cases h1 : 127 < n
    · rw [numB_more h1]
      have := numB_len k (n / 128) (by rw [Nat.pow_succ] at h; exact Nat.div_lt_of_lt_mul (by rw [Nat.mul_comm]; exact h))
      simp; exact this
    · rw [numB_last (by omega)]; simp
theorem numB_len10 {n : Nat} (h : n < 18446744073709551616) : (numB n).length ≤ 10 := numB_len 9 n (Nat.lt_of_lt_of_le h (by decide))
theorem all_one (n : Int) : allU8 [[.int .u8 n]] := by intro x hx; simp at hx; exact ⟨n, hx⟩
theorem or128 (n : Nat) : ibits .or .u8 (iwrap .u8 (n : Int)) 128 = ((UInt8.ofNat (128 + n % 128)).toNat : Int) := by
  have e : iwrap .u8 (n : Int) = ((n % 256 : Nat) : Int) := by rw [iwrap_u8]; omega
  have key : ∀ x : Nat, x < 256 → ibits .or .u8 (x : Int) 128 = ((128 + x % 128 : Nat) : Int) := by decide +kernel
  rw [e, key _ (by omega), UInt8.toNat_ofNat']; omega
theorem byte_last (n : Nat) (h : n ≤ 127) : iwrap .u8 (n : Int) = ((UInt8.ofNat n).toNat : Int) := by
  rw [iwrap_u8, UInt8.toNat_ofNat']; omega
theorem shr7 (n : Nat) (h : n < 18446744073709551616) : ishr .u64 (n : Int) 7 = ((n / 128 : Nat) : Int) := by
  show (n : Int).fdiv (2 ^ min (Int.toNat 7) 64) = _
  rw [show (2 : Int) ^ min (Int.toNat 7) 64 = 128 by decide, Int.fdiv_eq_ediv_of_nonneg _ (by omega)]; omega
def outM (s : List UInt8) : Mem := [.box [.sl 1 0 s.length s.length false], .row 1 (AE.bytes s)]
def outM2 (s : List UInt8) : Mem := [.box [.sl 2 0 s.length s.length false], .gone, .row 1 (AE.bytes s)]
attribute [go_sem] outM outM2
def numsB (l : List Nat) : List UInt8 := (l.map numB).flatten
def nv (l : List Nat) : List (List AV) := l.map fun (n : Nat) => [AV.int .u64 (n : Int)]
theorem nv_len (l : List Nat) : (nv l).length = l.length := by simp [nv]
theorem nv_get {l : List Nat} {i : Nat} (h : i < l.length) : (nv l)[i]? = some [.int .u64 (l[i] : Nat)] := by simp [nv, h]
theorem nv_hasI {l : List Nat} {i : Nat} (h : i < l.length) : hasI .u64 (nv l) i 0 := ⟨_, _, nv_get h, by simp; rfl⟩
theorem nv_rint {l : List Nat} {i : Nat} (h : i < l.length) : rint (nv l) i 0 = (l[i] : Nat) := by simp [rint, List.getD_eq_getElem?_getD, nv_get h]
theorem numsB_take (l : List Nat) (i : Nat) (h : i < l.length) : numsB (l.take (i + 1)) = numsB (l.take i) ++ numB l[i] := by
  unfold numsB; rw [List.take_succ_eq_append_getElem h, List.map_append, List.flatten_append]; simp
theorem numsB_len (l : List Nat) (h : ∀ n ∈ l, n < 18446744073709551616) : (numsB l).length ≤ 10 * l.length := by
  induction l with
  | nil => simp [numsB]
  | cons n l ih =>
    have := ih fun m hm => h m (by simp [hm])
    have := numB_len10 (h n (by simp))
    simp only [numsB, List.map_cons, List.flatten_cons, List.length_append, List.length_cons] at *
    omega
theorem wNum_spec (l : List Nat) (tight : Bool) (s : List UInt8) (hl : ∀ n ∈ l, n < 18446744073709551616) (hs : s.length + 10 * l.length ≤ 1000000) :
    Tri Try.prog 85 [.pbox 0 0, .vsl 1 (nv l) tight] (outM s) (fun v m => v = .pbox 0 0 ∧ m = outM2 (s ++ numsB l)) := by
  unfold outM outM2
  refine (Tri.enter (rl := r85) (code := c85) (by kernel_rfl) Try.func85 rfl c85_ok (by kernel_rfl) (by kernel_rfl) ?_)
  refine run_ok 4000 _ _ _ _ ?_
  simp (maxSteps := 10000000) only [go_sem, c85, r85]
  refine sem_move 1 rfl ?_
  simp only [go_sem]
  refine sem_rounds (fun i : Nat => i ≤ l.length) (fun i => [(0, .pbox 0 0), (7, .vsl 1 (nv l) tight), (8, .int .i64 l.length), (9, .int .i64 i)]) (fun i => [.box [.sl 2 0 (s ++ numsB (l.take i)).length (s ++ numsB (l.take i)).length false], .gone, .row 1 (AE.bytes (s ++ numsB (l.take i)))]) (fun i => l.length - i) 0 [0, 1, 2] (Nat.zero_le _) ?_ ?_
  · simp only [Emb, go_sem]; simp [nv_len, numsB]
  intro i hi
  refine run_ok 4000 _ _ _ _ ?_
  simp (maxSteps := 10000000) only [go_sem]
  refine ⟨fun hlt => ?_, fun hge => ?_⟩
  · have hlt : i < l.length := by omega
    rw [nv_rint hlt, nv_len]
    refine ⟨by constructor <;> omega, nv_hasI hlt, ?_⟩
    have hN := hl _ (List.getElem_mem hlt)
    have hT := numsB_len (l.take i) fun n hn => hl n (List.mem_of_mem_take hn)
    have hT2 : (l.take i).length ≤ l.length - 1 := by simp; omega
    have hB := numB_len10 hN
    generalize hS : s ++ numsB (l.take i) = S
    have hSl : S.length + 10 ≤ 1000000 := by rw [← hS, List.length_append]; omega
    refine sem_rounds (fun x : Nat × List UInt8 => x.1 ≤ l[i] ∧ x.2 ++ numB x.1 = S ++ numB l[i]) (fun x => [(0, .pbox 0 0), (7, .vsl 1 (nv l) tight), (8, .int .i64 l.length), (9, .int .i64 i), (6, .int .u64 (x.1 : Nat))]) (fun x => [.box [.sl 2 0 x.2.length x.2.length false], .gone, .row 1 (AE.bytes x.2)]) (fun x => x.1) (l[i], S) [0, 1, 2] ⟨Nat.le_refl _, rfl⟩ ?_ ?_
    · simp only [Emb, go_sem]
    rintro ⟨n, x⟩ ⟨h1, h2⟩
    simp only at h1 h2
    have hx : x.length + (numB n).length ≤ 1000000 := by have := congrArg List.length h2; simp only [List.length_append] at this; omega
    refine run_ok 4000 _ _ _ _ ?_
    simp (maxSteps := 10000000) only [go_sem]
    refine ⟨fun hm => ?_, fun hm => ?_⟩
    · have hm : 127 < n := by omega
      rw [numB_more hm] at hx
      simp only [List.length_cons] at hx
      refine ⟨by unfold small; omega, (n / 128, x ++ [UInt8.ofNat (128 + n % 128)]), by simp only; omega, ⟨by simp only; omega, by simp only; rw [← h2, numB_more hm]; simp⟩, [0, 1, 3], ?_⟩
      simp only [Emb, go_sem, or128, byte_one, shr7 n (by omega)]
      simp
    · refine run_ok 4000 _ _ _ _ ?_
      simp (maxSteps := 10000000) only [go_sem]
      refine ⟨by unfold small; omega, i + 1, by omega, by omega, [0, 1, 3], ?_⟩
      rw [numB_last (by omega)] at h2
      simp only [Emb, go_sem, byte_last n (by omega), byte_one, inc64 (show i < 1000000000000 by omega), numsB_take l i hlt]
      rw [h2, ← hS]
      have := congrArg List.length h2
      simp at this
      simp [this, ← hS, Nat.add_assoc]
  · refine run_ok 4000 _ _ _ _ ?_
    simp (maxSteps := 10000000) only [go_sem]
    rw [List.take_of_length_le (by omega)]
def inM (s : List UInt8) (e : Int) : Mem := [.box [.str s, .int .i64 e]]
attribute [go_sem] inM
theorem open_spec (s : List UInt8) : Tri Try.prog 70 [.str s] [] (fun v m => v = .pbox 0 0 ∧ m = inM s 0) := by
  refine (Tri.enter (rl := r70) (code := c70) (by kernel_rfl) Try.func70 rfl c70_ok (by kernel_rfl) (by kernel_rfl) ?_)
  refine run_ok 4000 _ _ _ _ ?_
  simp (maxSteps := 10000000) only [go_sem, c70, r70]
theorem err_spec (s : List UInt8) (e : Int) : Tri Try.prog 82 [.pbox 0 0] (inM s e) (fun v m => v = .int .i64 e ∧ m = inM s e) := by
  refine (Tri.enter (rl := r82) (code := c82) (by kernel_rfl) Try.func82 rfl c82_ok (by kernel_rfl) (by kernel_rfl) ?_)
  refine run_ok 4000 _ _ _ _ ?_
  simp (maxSteps := 10000000) only [go_sem, c82, r82]
def failF (x : List UInt8 × Int) (e : Int) : List UInt8 × Int := if x.2 = 0 ∧ e ≠ 0 then ([], e) else x
theorem fail_spec (s : List UInt8) (e f : Int) : Tri Try.prog 110 [.pbox 0 0, .int .i64 f] (inM s e) (fun v m => v = .tup [] ∧ m = inM (failF (s, e) f).1 (failF (s, e) f).2) := by
  refine (Tri.enter (rl := r110) (code := c110) (by kernel_rfl) Try.func110 rfl c110_ok (by kernel_rfl) (by kernel_rfl) ?_)
  refine run_ok 4000 _ _ _ _ ?_
  simp (maxSteps := 10000000) only [go_sem, c110, r110]
  refine ⟨fun h1 => ⟨fun h2 => ?_, fun h2 => ?_⟩, fun h1 => ?_⟩
  · have h1 : e = 0 := by simpa using h1
    have h2 : f ≠ 0 := by simpa using h2
    simp [failF, h1, h2]
  · have h2 : f = 0 := by simpa using h2
    simp [failF, h2]
  · have h1 : e ≠ 0 := by simpa using h1
    simp [failF, h1]
def rawF (x : List UInt8 × Int) (n : Int) : (List UInt8 × Int) × List UInt8 := if x.2 ≠ 0 ∨ n ≤ 0 then (x, []) else if n > (x.1.length : Int) then (([], 1), []) else ((x.1.drop n.toNat, 0), x.1.take n.toNat)
theorem raw_spec (s : List UInt8) (e n : Int) : Tri Try.prog 133 [.pbox 0 0, .int .i64 n] (inM s e) (fun v m => v = .str (rawF (s, e) n).2 ∧ m = inM (rawF (s, e) n).1.1 (rawF (s, e) n).1.2) := by
  refine (Tri.enter (rl := r133) (code := c133) (by kernel_rfl) Try.func133 rfl c133_ok (by kernel_rfl) (by kernel_rfl) ?_)
  refine run_ok 4000 _ _ _ _ ?_
  simp (maxSteps := 10000000) only [go_sem, c133, r133]
  refine ⟨fun h1 => ?_, fun h1 => ⟨fun h2 => ?_, fun h2 => ⟨fun h3 => ?_, fun h3 => ⟨⟨by omega, by omega⟩, ⟨by omega, by omega⟩, ?_⟩⟩⟩⟩
  · have h1 : e ≠ 0 := by simpa using h1
    simp [rawF, h1]
  · simp [rawF, h2]
  · have h1 : e = 0 := by simpa using h1
    subst h1
    refine sem_call rfl rfl (((fail_spec s 0 1).embed [0] rfl (by repeat' first | exact trivial | rfl | (simp only [go_sem]; done) | constructor) rfl (by first | rfl | simp only [go_sem]) rfl (by simp)).mono ?_)
    rintro _ _ ⟨_, _, ⟨rfl, rfl⟩, rfl, rfl⟩
    refine run_ok 4000 _ _ _ _ ?_
    simp (maxSteps := 10000000) only [go_sem]
    simp [failF, rawF, h2]
    rw [if_pos (by omega)]
    simp
  · have h1 : e = 0 := by simpa using h1
    subst h1
    simp [rawF, h2]
    rw [if_neg (by omega)]
    simp
def tk : Nat → Nat → List UInt8 → Nat × List UInt8 × Int
  | _, _, [] => (0, [], 1)
  | k, n, c :: s => if (c.toNat = 0 ∧ 0 < k) ∨ (k = 9 ∧ 1 < c.toNat) then (0, [], 2) else
      if c.toNat < 128 then (n + c.toNat % 128 * 128 ^ k, s, 0) else tk (k + 1) (n + c.toNat % 128 * 128 ^ k) s
def numI (x : List UInt8 × Int) : Nat × List UInt8 × Int := if x.2 ≠ 0 then (0, x.1, x.2) else tk 0 0 x.1
theorem rfl_len1 : (0 : Int) < 1 := by decide
theorem pow128 (k : Nat) : 128 ^ k = 2 ^ (7 * k) := by rw [Nat.pow_mul]
theorem num_bits {n C k : Nat} (hn : n < 128 ^ k) (hk : k ≤ 9) (hC : C < 256) (h9 : k = 9 → C ≤ 1) : n + C % 128 * 128 ^ k < 18446744073709551616 ∧
    ibits .or .u64 (n : Int) (ishl .u64 (iwrap .u64 (ibits .and .u8 (C : Int) 127)) ((7 * k : Nat) : Int)) = ((n + C % 128 * 128 ^ k : Nat) : Int) := by
  have e1 : ibits .and .u8 (C : Int) 127 = ((C % 128 : Nat) : Int) := by
    have key : ∀ x : Nat, x < 256 → ibits .and .u8 (x : Int) 127 = ((x % 128 : Nat) : Int) := by decide +kernel
    exact key C hC
  have hx : C % 128 * 128 ^ k + 128 ^ k ≤ 18446744073709551616 := by
    by_cases h : k = 9
    · have hc1 : C % 128 ≤ 1 := by have := h9 h; omega
      subst h
      have e : (128 : Nat) ^ 9 = 9223372036854775808 := by decide
      rw [e]
      have h3 : C % 128 * 9223372036854775808 ≤ 1 * 9223372036854775808 := Nat.mul_le_mul_right _ hc1
      exact Nat.le_trans (Nat.add_le_add_right h3 _) (by decide)
    · have h2 : 128 ^ k ≤ 72057594037927936 := Nat.le_trans (Nat.pow_le_pow_right (by decide) (show k ≤ 8 by omega)) (by decide)
      have h3 : C % 128 * 128 ^ k ≤ 127 * 72057594037927936 := Nat.mul_le_mul (by omega) h2
      omega
  have hp : 0 < 128 ^ k := Nat.pow_pos (by decide)
  refine ⟨by omega, ?_⟩
  have e2 : iwrap .u64 ((C % 128 : Nat) : Int) = ((C % 128 : Nat) : Int) := by rw [iwrap_u64]; omega
  have e3 : ishl .u64 ((C % 128 : Nat) : Int) ((7 * k : Nat) : Int) = ((C % 128 * 128 ^ k : Nat) : Int) := by
    show iwrap .u64 (((C % 128 : Nat) : Int) * 2 ^ min (((7 * k : Nat) : Int).toNat) 64) = _
    rw [Int.toNat_natCast, Nat.min_eq_left (by omega), pow128, iwrap_u64]
    rw [pow128] at hx
    push_cast at hx ⊢
    exact Int.emod_eq_of_lt (Int.mul_nonneg (by omega) (Int.le_of_lt (Int.pow_pos (by decide)))) (by
      have : ((C % 128 * 2 ^ (7 * k) : Nat) : Int) < 18446744073709551616 := by have : 0 < 2 ^ (7 * k) := Nat.pow_pos (by decide); omega
      push_cast at this; exact this)
  rw [e1, e2, e3]
  show iwrap .u64 ((BitVec.ofInt 64 (n : Int) ||| BitVec.ofInt 64 ((C % 128 * 128 ^ k : Nat) : Int)).toNat : Int) = _
  rw [BitVec.ofInt_natCast, BitVec.ofInt_natCast, BitVec.toNat_or, BitVec.toNat_ofNat, BitVec.toNat_ofNat, Nat.mod_eq_of_lt (show n < 2 ^ 64 by omega), Nat.mod_eq_of_lt (show C % 128 * 128 ^ k < 2 ^ 64 by omega)]
  rw [pow128] at hn ⊢
  have h5 := Nat.two_pow_add_eq_or_of_lt hn (C % 128)
  rw [Nat.mul_comm (C % 128), Nat.or_comm, ← h5, iwrap_u64]
  rw [pow128] at hx
  rw [Nat.mul_comm (C % 128)] at hx
  omega
theorem inum_spec (s : List UInt8) (e : Int) : Tri Try.prog 117 [.pbox 0 0] (inM s e) (fun v m => v = .int .u64 ((numI (s, e)).1 : Nat) ∧ m = inM (numI (s, e)).2.1 (numI (s, e)).2.2) := by
  by_cases he : e = 0
  · subst he
    have hnum : numI (s, 0) = tk 0 0 s := by simp [numI]
    rw [hnum]
    refine Tri.post ?_
    refine (Tri.enter (rl := r117) (code := c117) (by kernel_rfl) Try.func117 rfl c117_ok (by kernel_rfl) (by kernel_rfl) ?_)
    refine run_ok 4000 _ _ _ _ ?_
    simp (maxSteps := 10000000) only [go_sem, c117, r117]
    refine sem_rounds (fun x : Nat × Nat × List UInt8 => x.1 ≤ 9 ∧ x.2.1 < 128 ^ x.1 ∧ tk x.1 x.2.1 x.2.2 = tk 0 0 s) (fun x => [(0, .pbox 0 0), (3, .int .u64 (x.2.1 : Nat)), (4, .int .i64 (7 * x.1 : Nat))])
      (fun x => [.box [.str x.2.2, .int .i64 0]]) (fun x => 10 - x.1) (0, 0, s) [0] ⟨by simp, by simp, rfl⟩ ?_ ?_
    · simp only [Emb, go_sem, Nat.mul_zero]
    rintro ⟨k, n, r⟩ ⟨h1, h2, h3⟩
    simp only at h1 h2 h3
    refine run_ok 4000 _ _ _ _ ?_
    simp (maxSteps := 10000000) only [go_sem]
    cases r with
    | nil =>
      have htk : tk 0 0 s = (0, [], 1) := by rw [← h3]; rfl
      have hr : rawF ([], 0) 1 = (([], 1), []) := by decide
      skip
      refine sem_call rfl rfl (((raw_spec [] 0 1).embed [0] rfl (by repeat' first | exact trivial | rfl | (simp only [go_sem]; done) | constructor) rfl (by first | rfl | simp only [go_sem]) rfl (by simp)).mono ?_)
      rintro _ _ ⟨_, _, ⟨rfl, rfl⟩, rfl, rfl⟩
      refine run_ok 4000 _ _ _ _ ?_
      simp (maxSteps := 10000000) only [go_sem, hr]
      refine ⟨_, _, .sub [0] ?_ .done, rfl, rfl⟩
      simp only [EmbV, go_sem, htk, Int.natCast_zero]
    | cons c r =>
      have hr : rawF (c :: r, 0) 1 = ((r, 0), [c]) := by simp [rawF]; omega
      have hs : sget [c] 0 = (c.toNat : Int) := by simp [sget]
      have hc256 := c.toNat_lt
      generalize hc : c.toNat = C at *
      simp only [tk, hc] at h3
      have hw : iwrap .i64 (((7 * k : Nat) : Int) + 7) = ((7 * (k + 1) : Nat) : Int) := by rw [iwrap_i64_in (by omega)]; omega
      by_cases c0 : C = 0
      · have f1 : ((C : Int) == 0) = true := by simp [c0]
        by_cases k0 : 0 < k
        · have f2 : ((7 * k : Nat) : Int) > 0 := by omega
          rw [if_pos (.inl ⟨c0, k0⟩)] at h3
          skip
          refine sem_call rfl rfl (((raw_spec (c :: r) 0 1).embed [0] rfl (by repeat' first | exact trivial | rfl | (simp only [go_sem]; done) | constructor) rfl (by first | rfl | simp only [go_sem]) rfl (by simp)).mono ?_)
          rintro _ _ ⟨_, _, ⟨rfl, rfl⟩, rfl, rfl⟩
          refine run_ok 4000 _ _ _ _ ?_
          simp (maxSteps := 10000000) only [go_sem, hr, hs, f1, f2, rfl_len1]
          refine sem_call rfl rfl (((fail_spec r 0 2).embed [0] rfl (by repeat' first | exact trivial | rfl | (simp only [go_sem]; done) | constructor) rfl (by first | rfl | simp only [go_sem]) rfl (by simp)).mono ?_)
          rintro _ _ ⟨_, _, ⟨rfl, rfl⟩, rfl, rfl⟩
          refine run_ok 4000 _ _ _ _ ?_
          simp (maxSteps := 10000000) only [go_sem, hr, hs, f1, f2, rfl_len1]
          refine ⟨_, _, .sub [0] ?_ .done, rfl, rfl⟩
          simp only [EmbV, go_sem, ← h3, failF, Int.natCast_zero]
          all_goals simp
        · have f2 : ¬ ((7 * k : Nat) : Int) > 0 := by omega
          have f3 : (((7 * k : Nat) : Int) == 63) = false := by simp; omega
          rw [if_neg (by omega)] at h3
          obtain ⟨hb, hor⟩ := num_bits (C := C) h2 h1 (by omega) (by omega)
          skip
          refine sem_call rfl rfl (((raw_spec (c :: r) 0 1).embed [0] rfl (by repeat' first | exact trivial | rfl | (simp only [go_sem]; done) | constructor) rfl (by first | rfl | simp only [go_sem]) rfl (by simp)).mono ?_)
          rintro _ _ ⟨_, _, ⟨rfl, rfl⟩, rfl, rfl⟩
          refine run_ok 4000 _ _ _ _ ?_
          simp (maxSteps := 10000000) only [go_sem, hr, hs, f1, f2, f3, hor, hw, rfl_len1]
          refine ⟨by omega, fun hlt => ?_, fun hge => ?_⟩
          · rw [if_pos (by omega)] at h3
            refine ⟨_, _, .sub [0] ?_ .done, rfl, rfl⟩
            simp only [EmbV, go_sem, ← h3]
          · rw [if_neg (by omega)] at h3
            refine ⟨(k + 1, n + C % 128 * 128 ^ k, r), by simp only; omega, ⟨by simp only; omega, ?_, h3⟩, [0], ?_⟩
            · simp only
              rw [Nat.pow_succ]
              have hp : 0 < 128 ^ k := Nat.pow_pos (by decide)
              have : C % 128 * 128 ^ k ≤ 127 * 128 ^ k := Nat.mul_le_mul_right _ (by omega)
              omega
            · simp only [Emb, go_sem]
      · have f1 : ((C : Int) == 0) = false := by simp [c0]
        by_cases k9 : k = 9
        · have f3 : (((7 * k : Nat) : Int) == 63) = true := by simp [k9]
          by_cases c1 : 1 < C
          · have f4 : (C : Int) > 1 := by omega
            rw [if_pos (.inr ⟨k9, c1⟩)] at h3
            skip
            refine sem_call rfl rfl (((raw_spec (c :: r) 0 1).embed [0] rfl (by repeat' first | exact trivial | rfl | (simp only [go_sem]; done) | constructor) rfl (by first | rfl | simp only [go_sem]) rfl (by simp)).mono ?_)
            rintro _ _ ⟨_, _, ⟨rfl, rfl⟩, rfl, rfl⟩
            refine run_ok 4000 _ _ _ _ ?_
            simp (maxSteps := 10000000) only [go_sem, hr, hs, f1, f3, f4, rfl_len1]
            refine sem_call rfl rfl (((fail_spec r 0 2).embed [0] rfl (by repeat' first | exact trivial | rfl | (simp only [go_sem]; done) | constructor) rfl (by first | rfl | simp only [go_sem]) rfl (by simp)).mono ?_)
            rintro _ _ ⟨_, _, ⟨rfl, rfl⟩, rfl, rfl⟩
            refine run_ok 4000 _ _ _ _ ?_
            simp (maxSteps := 10000000) only [go_sem, hr, hs, f1, f3, f4, rfl_len1]
            refine ⟨_, _, .sub [0] ?_ .done, rfl, rfl⟩
            simp only [EmbV, go_sem, ← h3, failF, Int.natCast_zero]
            all_goals simp
          · have f4 : ¬ (C : Int) > 1 := by omega
            rw [if_neg (by omega)] at h3
            obtain ⟨hb, hor⟩ := num_bits (C := C) h2 h1 (by omega) (by omega)
            skip
            refine sem_call rfl rfl (((raw_spec (c :: r) 0 1).embed [0] rfl (by repeat' first | exact trivial | rfl | (simp only [go_sem]; done) | constructor) rfl (by first | rfl | simp only [go_sem]) rfl (by simp)).mono ?_)
            rintro _ _ ⟨_, _, ⟨rfl, rfl⟩, rfl, rfl⟩
            refine run_ok 4000 _ _ _ _ ?_
            simp (maxSteps := 10000000) only [go_sem, hr, hs, f1, f3, f4, hor, hw, rfl_len1]
            refine ⟨by omega, fun hlt => ?_, fun hge => ?_⟩
            · rw [if_pos (by omega)] at h3
              refine ⟨_, _, .sub [0] ?_ .done, rfl, rfl⟩
              simp only [EmbV, go_sem, ← h3]
            · rw [if_neg (by omega)] at h3
              refine ⟨(k + 1, n + C % 128 * 128 ^ k, r), by simp only; omega, ⟨by simp only; omega, ?_, h3⟩, [0], ?_⟩
              · simp only
                rw [Nat.pow_succ]
                have hp : 0 < 128 ^ k := Nat.pow_pos (by decide)
                have : C % 128 * 128 ^ k ≤ 127 * 128 ^ k := Nat.mul_le_mul_right _ (by omega)
                omega
              · simp only [Emb, go_sem]
        · have f3 : (((7 * k : Nat) : Int) == 63) = false := by simp; omega
          rw [if_neg (by omega)] at h3
          obtain ⟨hb, hor⟩ := num_bits (C := C) h2 h1 (by omega) (by omega)
          skip
          refine sem_call rfl rfl (((raw_spec (c :: r) 0 1).embed [0] rfl (by repeat' first | exact trivial | rfl | (simp only [go_sem]; done) | constructor) rfl (by first | rfl | simp only [go_sem]) rfl (by simp)).mono ?_)
          rintro _ _ ⟨_, _, ⟨rfl, rfl⟩, rfl, rfl⟩
          refine run_ok 4000 _ _ _ _ ?_
          simp (maxSteps := 10000000) only [go_sem, hr, hs, f1, f3, hor, hw, rfl_len1]
          refine ⟨by omega, fun hlt => ?_, fun hge => ?_⟩
          · rw [if_pos (by omega)] at h3
            refine ⟨_, _, .sub [0] ?_ .done, rfl, rfl⟩
            simp only [EmbV, go_sem, ← h3]
          · rw [if_neg (by omega)] at h3
            refine ⟨(k + 1, n + C % 128 * 128 ^ k, r), by simp only; omega, ⟨by simp only; omega, ?_, h3⟩, [0], ?_⟩
            · simp only
              rw [Nat.pow_succ]
              have hp : 0 < 128 ^ k := Nat.pow_pos (by decide)
              have : C % 128 * 128 ^ k ≤ 127 * 128 ^ k := Nat.mul_le_mul_right _ (by omega)
              omega
            · simp only [Emb, go_sem]
  · skip
    have hnum : numI (s, e) = (0, s, e) := by simp [numI, he]
    rw [hnum]
    have he' : (e != 0) = true := by simp [he]
    have hr : rawF (s, e) 1 = ((s, e), []) := by simp [rawF, he]
    refine Tri.post ?_
    refine (Tri.enter (rl := r117) (code := c117) (by kernel_rfl) Try.func117 rfl c117_ok (by kernel_rfl) (by kernel_rfl) ?_)
    refine run_ok 4000 _ _ _ _ ?_
    simp (maxSteps := 10000000) only [go_sem, c117, r117]
    refine sem_rounds (fun x : Unit => True) (fun x => [(0, .pbox 0 0), (3, .int .u64 0), (4, .int .i64 0)])
      (fun x => [.box [.str s, .int .i64 e]]) (fun x => 0) () [0] trivial ?_ ?_
    · simp only [Emb, go_sem]
    rintro _ _
    skip
    refine run_ok 4000 _ _ _ _ ?_
    simp (maxSteps := 10000000) only [go_sem, he', hr]
    refine sem_call rfl rfl (((raw_spec s e 1).embed [0] rfl (by repeat' first | exact trivial | rfl | (simp only [go_sem]; done) | constructor) rfl (by first | rfl | simp only [go_sem]) rfl (by simp)).mono ?_)
    rintro _ _ ⟨_, _, ⟨rfl, rfl⟩, rfl, rfl⟩
    refine run_ok 4000 _ _ _ _ ?_
    simp (maxSteps := 10000000) only [go_sem, he', hr]
    refine ⟨_, _, .sub [0] ?_ .done, rfl, rfl⟩
    simp only [EmbV, go_sem, Int.natCast_zero]
theorem tk_lt : ∀ (s : List UInt8) (k n : Nat), k ≤ 9 → n < 128 ^ k → (tk k n s).1 < 18446744073709551616
  | [], k, n, _, _ => by simp [tk]
  | c :: s, k, n, hk, hn => by
    simp only [tk]
    split
    · simp
    · rename_i hb
      have hC := c.toNat_lt
      obtain ⟨h1, _⟩ := num_bits (C := c.toNat) hn hk hC (by omega)
      split
      · exact h1
      · refine tk_lt s (k + 1) _ (by omega) ?_
        rw [Nat.pow_succ]
        have hp : 0 < 128 ^ k := Nat.pow_pos (by decide)
        have : c.toNat % 128 * 128 ^ k ≤ 127 * 128 ^ k := Nat.mul_le_mul_right _ (by omega)
        omega
theorem numI_lt (x : List UInt8 × Int) : (numI x).1 < 18446744073709551616 := by
  unfold numI
  split
  · simp
  · exact tk_lt _ _ _ (by omega) (by simp)
def sg (n : Nat) : Int := if n % 2 = 0 then (n / 2 : Nat) else -((n / 2 : Nat) : Int) - 1
theorem sg_bits {n : Nat} (h : n < 18446744073709551616) : ibits .xor .i64 (iwrap .i64 (ishr .u64 (n : Int) 1)) (iwrap .i64 (-(iwrap .i64 (ibits .and .u64 (n : Int) 1)))) = sg n := by
  have e1 : ishr .u64 (n : Int) 1 = ((n / 2 : Nat) : Int) := by
    show (n : Int).fdiv (2 ^ min (Int.toNat 1) 64) = _
    rw [show (2 : Int) ^ min (Int.toNat 1) 64 = 2 by decide, Int.fdiv_eq_ediv_of_nonneg _ (by omega)]; omega
  have e2 : iwrap .i64 ((n / 2 : Nat) : Int) = ((n / 2 : Nat) : Int) := iwrap_i64_in (by omega)
  have e3 : ibits .and .u64 (n : Int) 1 = ((n % 2 : Nat) : Int) := by
    show iwrap .u64 ((BitVec.ofInt 64 (n : Int) &&& BitVec.ofInt 64 ((1 : Nat) : Int)).toNat : Int) = _
    rw [BitVec.ofInt_natCast, BitVec.ofInt_natCast, BitVec.toNat_and, BitVec.toNat_ofNat, BitVec.toNat_ofNat, Nat.mod_eq_of_lt (show n < 2 ^ 64 by omega), Nat.mod_eq_of_lt (show 1 < 2 ^ 64 by omega), Nat.and_one_is_mod, iwrap_u64]
    omega
  have e4 : iwrap .i64 ((n % 2 : Nat) : Int) = ((n % 2 : Nat) : Int) := iwrap_i64_in (by omega)
  have e5 : iwrap .i64 (-((n % 2 : Nat) : Int)) = -((n % 2 : Nat) : Int) := iwrap_i64_in (by omega)
  rw [e1, e2, e3, e4, e5]
  generalize hq : n / 2 = q
  have hq2 : q < 9223372036854775808 := by omega
  unfold sg
  rw [hq]
  split
  · rename_i h0
    rw [h0]
    show iwrap .i64 ((BitVec.ofInt 64 (q : Int) ^^^ BitVec.ofInt 64 (-((0 : Nat) : Int))).toNat : Int) = _
    rw [show (-((0 : Nat) : Int)) = ((0 : Nat) : Int) by decide, BitVec.ofInt_natCast, BitVec.ofInt_natCast, BitVec.toNat_xor, BitVec.toNat_ofNat, BitVec.toNat_ofNat, Nat.mod_eq_of_lt (show q < 2 ^ 64 by omega)]
    simp
    exact iwrap_i64_in (by omega)
  · rename_i h0
    rw [show n % 2 = 1 by omega]
    show iwrap .i64 ((BitVec.ofInt 64 (q : Int) ^^^ BitVec.ofInt 64 (-((1 : Nat) : Int))).toNat : Int) = _
    rw [show BitVec.ofInt 64 (-((1 : Nat) : Int)) = BitVec.allOnes 64 by decide, BitVec.xor_allOnes, BitVec.toNat_not, BitVec.ofInt_natCast, BitVec.toNat_ofNat, Nat.mod_eq_of_lt (show q < 2 ^ 64 by omega), iwrap_i64]
    have : ((2 ^ 64 - 1 - q : Nat) : Int) = 18446744073709551615 - (q : Int) := by omega
    rw [this]
    split <;> omega
theorem iint_spec (s : List UInt8) (e : Int) : Tri Try.prog 118 [.pbox 0 0] (inM s e) (fun v m => v = .int .i64 (sg (numI (s, e)).1) ∧ m = inM (numI (s, e)).2.1 (numI (s, e)).2.2) := by
  have hb := sg_bits (numI_lt (s, e))
  rw [← Int.zero_sub] at hb
  skip
  refine (Tri.enter (rl := r118) (code := c118) (by kernel_rfl) Try.func118 rfl c118_ok (by kernel_rfl) (by kernel_rfl) ?_)
  refine run_ok 4000 _ _ _ _ ?_
  simp (maxSteps := 10000000) only [go_sem, c118, r118, hb]
  refine sem_call rfl rfl (((inum_spec s e).embed [0] rfl (by repeat' first | exact trivial | rfl | (simp only [go_sem]; done) | constructor) rfl (by first | rfl | simp only [go_sem]) rfl (by simp)).mono ?_)
  rintro _ _ ⟨_, _, ⟨rfl, rfl⟩, rfl, rfl⟩
  refine run_ok 4000 _ _ _ _ ?_
  simp (maxSteps := 10000000) only [go_sem, hb]
theorem otext_spec (s : List UInt8) : Tri Try.prog 74 [.pbox 0 0] (outM s) (fun v m => v = .str s ∧ m = outM s) := by
  skip
  refine (Tri.enter (rl := r74) (code := c74) (by kernel_rfl) Try.func74 rfl c74_ok (by kernel_rfl) (by kernel_rfl) ?_)
  refine run_ok 4000 _ _ _ _ ?_
  simp (maxSteps := 10000000) only [go_sem, c74, r74, bytes_to]
  exact bytes_all s
def word4 (n : Int) : List UInt8 := [UInt8.ofNat (n % 256).toNat, UInt8.ofNat (n / 256 % 256).toNat, UInt8.ofNat (n / 65536 % 256).toNat, UInt8.ofNat (n / 16777216 % 256).toNat]
theorem word_spec (n : Int) (h : 0 ≤ n ∧ n < 4294967296) : Tri Try.prog 99 [.int .u32 n] [] (fun v m => v = .str (word4 n) ∧ m = []) := by
  have h8 : ishr .u32 n 8 = n / 256 := by
    show n.fdiv (2 ^ min (Int.toNat 8) 32) = _
    rw [show (2 : Int) ^ min (Int.toNat 8) 32 = 256 by decide, Int.fdiv_eq_ediv_of_nonneg _ (by omega)]
  have h16 : ishr .u32 n 16 = n / 65536 := by
    show n.fdiv (2 ^ min (Int.toNat 16) 32) = _
    rw [show (2 : Int) ^ min (Int.toNat 16) 32 = 65536 by decide, Int.fdiv_eq_ediv_of_nonneg _ (by omega)]
  have h24 : ishr .u32 n 24 = n / 16777216 := by
    show n.fdiv (2 ^ min (Int.toNat 24) 32) = _
    rw [show (2 : Int) ^ min (Int.toNat 24) 32 = 16777216 by decide, Int.fdiv_eq_ediv_of_nonneg _ (by omega)]
  have hb : ∀ x : Int, UInt8.ofNat (iwrap .u8 x).toNat = UInt8.ofNat (x % 256).toNat := fun x => by rw [iwrap_u8]
  skip
  refine (Tri.enter (rl := r99) (code := c99) (by kernel_rfl) Try.func99 rfl c99_ok (by kernel_rfl) (by kernel_rfl) ?_)
  refine run_ok 4000 _ _ _ _ ?_
  simp (maxSteps := 10000000) only [go_sem, c99, r99, h8, h16, h24]
  refine ⟨fun x hx => ?_, ?_⟩
  · simp only [List.mem_cons, List.not_mem_nil, or_false] at hx
    rcases hx with rfl | rfl | rfl | rfl <;> exact ⟨_, rfl⟩
  · simp [toBytes, word4, hb]
def CRC (s : List UInt8) : Int := inv32 (crcF (inv32 0) s)
theorem crc_u32 (s : List UInt8) : 0 ≤ CRC s ∧ CRC s < 4294967296 := by
  have h : ∀ x, 0 ≤ inv32 x ∧ inv32 x < 4294967296 := fun x => by
    show 0 ≤ iwrap .u32 _ ∧ iwrap .u32 _ < 4294967296
    rw [iwrap_u32]; omega
  exact h _
theorem crc2_spec (v s : List UInt8) (tight : Bool) (hv : v.length ≤ 1000000) (hs : s.length ≤ 1000000) : Tri Try.prog 52 [.vsl 1 [[.str v], [.str s]] tight] [] (fun x m => x = .int .u32 (CRC (v ++ s)) ∧ m = []) := by
  have h := crc_spec [v, s] tight (by simp) (by intro x hx; simp at hx; rcases hx with rfl | rfl <;> assumption)
  have e : crcL (inv32 0) [v, s] = crcF (inv32 0) (v ++ s) := by simp [crcL, crcF]
  rw [e] at h
  exact h
def sealB (s : List UInt8) : List UInt8 := 7 :: (word4 (CRC (7 :: s)) ++ s)
theorem seal_spec (s : List UInt8) (hs : s.length ≤ 1000000) : Tri Try.prog 51 [.str s] [] (fun v m => v = .str (sealB s) ∧ m = []) := by
  have h7 : toBytes [[AV.int .u8 7]] = [7] := rfl
  skip
  refine (Tri.enter (rl := r51) (code := c51) (by kernel_rfl) Try.func51 rfl c51_ok (by kernel_rfl) (by kernel_rfl) ?_)
  refine run_ok 4000 _ _ _ _ ?_
  simp (maxSteps := 10000000) only [go_sem, c51, r51, h7]
  refine ⟨all_one 7, ?_⟩
  refine sem_call rfl rfl (((crc2_spec [7] s true (by simp) hs).embed [] rfl trivial rfl rfl rfl (by simp)).mono ?_)
  rintro _ _ ⟨_, _, ⟨rfl, rfl⟩, rfl, rfl⟩
  refine run_ok 4000 _ _ _ _ ?_
  simp (maxSteps := 10000000) only [go_sem, h7]
  have hc := crc_u32 (7 :: s)
  refine sem_call rfl rfl (((word_spec (CRC (7 :: s)) hc).embed [] rfl trivial rfl rfl rfl (by simp)).mono ?_)
  rintro _ _ ⟨_, _, ⟨rfl, rfl⟩, rfl, rfl⟩
  refine run_ok 4000 _ _ _ _ ?_
  simp (maxSteps := 10000000) only [go_sem, h7]
  have hl : (word4 (CRC (7 :: s))).length = 4 := rfl
  exact ⟨by omega, by omega, rfl⟩
def unsealF (s : List UInt8) : List UInt8 × Int := if s.length < 5 then ([], 1) else if s.getD 0 0 ≠ 7 then ([], 6) else if sealB (s.drop 5) ≠ s then ([], 5) else (s.drop 5, 0)
theorem five {s : List UInt8} (h : 5 ≤ s.length) : ∃ a b c d f r, s = a :: b :: c :: d :: f :: r := by
  match s, h with
  | a :: b :: c :: d :: f :: r, _ => exact ⟨a, b, c, d, f, r, rfl⟩
theorem seqb_iff (x y : List UInt8) : seqb x y = decide (x = y) := by
  simp only [seqb]; by_cases h : x = y <;> simp [h]
theorem unsealF_long (a b c d f : UInt8) (r : List UInt8) : unsealF (a :: b :: c :: d :: f :: r) = if a ≠ 7 then ([], 6) else if [b, c, d, f] ≠ word4 (CRC (7 :: r)) then ([], 5) else (r, 0) := by
  unfold unsealF
  rw [if_neg (by simp)]
  simp only [List.getD_cons_zero, List.drop_succ_cons, List.drop_zero]
  by_cases ha : a = 7
  · subst ha
    simp only [ne_eq, not_true, if_false]
    have : (sealB r = 7 :: b :: c :: d :: f :: r) ↔ ([b, c, d, f] = word4 (CRC (7 :: r))) := by
      simp only [sealB, word4, List.cons_append, List.nil_append, List.cons.injEq, true_and, and_true]
      constructor
      · rintro ⟨h1, h2, h3, h4⟩; exact ⟨h1.symm, h2.symm, h3.symm, h4.symm⟩
      · rintro ⟨h1, h2, h3, h4⟩; exact ⟨h1.symm, h2.symm, h3.symm, h4.symm⟩
    simp only [this]
  · simp only [ne_eq, ha, not_false_eq_true, if_true]
theorem unseal_spec (s : List UInt8) (hs : s.length ≤ 1000000) : Tri Try.prog 50 [.str s] [] (fun v m => v = .tup [.str (unsealF s).1, .int .i64 (unsealF s).2] ∧ m = []) := by
  by_cases h5 : s.length < 5
  · have h5' : (s.length : Int) < 5 := by omega
    have hu : unsealF s = ([], 1) := by unfold unsealF; rw [if_pos h5]
    skip
    refine (Tri.enter (rl := r50) (code := c50) (by kernel_rfl) Try.func50 rfl c50_ok (by kernel_rfl) (by kernel_rfl) ?_)
    refine run_ok 4000 _ _ _ _ ?_
    simp (maxSteps := 10000000) only [go_sem, c50, r50, h5', hu]
  · obtain ⟨a, b, c, d, f, r, rfl⟩ := five (show 5 ≤ s.length by omega)
    have hlen : ((a :: b :: c :: d :: f :: r).length : Int) = r.length + 5 := by simp only [List.length_cons]; omega
    have hsg : sget (a :: b :: c :: d :: f :: r) 0 = (a.toNat : Int) := rfl
    have h15 : ssub (a :: b :: c :: d :: f :: r) 1 5 = [b, c, d, f] := rfl
    have h01 : List.take 1 (a :: b :: c :: d :: f :: r) = [a] := rfl
    have h5r : List.drop 5 (a :: b :: c :: d :: f :: r) = r := rfl
    have hu := unsealF_long a b c d f r
    simp only [List.length_cons] at hs
    generalize hS : a :: b :: c :: d :: f :: r = S at *
    have h5' : ¬ (S.length : Int) < 5 := by omega
    have h0' : (0 : Int) < (S.length : Int) := by omega
    have h1' : (1 : Int) ≤ (S.length : Int) := by omega
    have h5'' : (5 : Int) ≤ (S.length : Int) := by omega
    by_cases ha : a = 7
    · subst ha
      have hne : ((((7 : UInt8).toNat : Nat) : Int) != 7) = false := rfl
      have hc := crc_u32 (7 :: r)
      rw [if_neg (by simp)] at hu
      skip
      refine (Tri.enter (rl := r50) (code := c50) (by kernel_rfl) Try.func50 rfl c50_ok (by kernel_rfl) (by kernel_rfl) ?_)
      refine run_ok 4000 _ _ _ _ ?_
      simp (maxSteps := 10000000) only [go_sem, c50, r50, h5', h0', h1', h5'', hsg, hne, h15, h01, h5r]
      refine sem_drawG l50_0_ok (by kernel_rfl) ?_
      intro KK hKK
      simp (maxSteps := 10000000) only [go_sem, l50_0, h5', h0', h1', h5'', hsg, hne, h15, h01, h5r]
      refine TriZ.of (((crc2_spec [7] r true (by simp) (by omega)).embed [] rfl (by repeat' first | exact trivial | rfl | (simp only [go_sem]; done) | constructor) rfl (by first | rfl | simp only [go_sem]) rfl (by simp)).mono ?_)
      rintro _ _ ⟨_, _, ⟨rfl, rfl⟩, rfl, rfl⟩
      simp (maxSteps := 10000000) only [go_sem, h5', h0', h1', h5'', hsg, hne, h15, h01, h5r]
      have hwd : seqb [b, c, d, f] (word4 (CRC (7 :: r))) = decide ([b, c, d, f] = word4 (CRC (7 :: r))) := seqb_iff _ _
      by_cases hq : [b, c, d, f] = word4 (CRC (7 :: r))
      · rw [if_neg (by simp [hq])] at hu
        have hse : seqb [b, c, d, f] (word4 (CRC (7 :: r))) = true := by rw [hwd]; exact decide_eq_true hq
        skip
        refine TriZ.of (((word_spec (CRC (7 :: r)) hc).embed [] rfl (by repeat' first | exact trivial | rfl | (simp only [go_sem]; done) | constructor) rfl (by first | rfl | simp only [go_sem]) rfl (by simp)).mono ?_)
        rintro _ _ ⟨_, _, ⟨rfl, rfl⟩, rfl, rfl⟩
        simp (maxSteps := 10000000) only [go_sem, h5', h0', h1', h5'', hsg, hne, h15, h01, h5r, hse, hu]
        subst hKK
        simp (maxSteps := 10000000) only [go_sem, h5', h0', h1', h5'', hsg, hne, h15, h01, h5r, hse, hu]
      · rw [if_pos hq] at hu
        have hse : seqb [b, c, d, f] (word4 (CRC (7 :: r))) = false := by rw [hwd]; exact decide_eq_false hq
        skip
        refine TriZ.of (((word_spec (CRC (7 :: r)) hc).embed [] rfl (by repeat' first | exact trivial | rfl | (simp only [go_sem]; done) | constructor) rfl (by first | rfl | simp only [go_sem]) rfl (by simp)).mono ?_)
        rintro _ _ ⟨_, _, ⟨rfl, rfl⟩, rfl, rfl⟩
        simp (maxSteps := 10000000) only [go_sem, h5', h0', h1', h5'', hsg, hne, h15, h01, h5r, hse, hu]
        subst hKK
        simp (maxSteps := 10000000) only [go_sem, h5', h0', h1', h5'', hsg, hne, h15, h01, h5r, hse, hu]
    · have hne : ((a.toNat : Int) != 7) = true := by
        have : a.toNat ≠ 7 := fun h => ha (UInt8.toNat_inj.1 h)
        simp; omega
      rw [if_pos ha] at hu
      skip
      refine (Tri.enter (rl := r50) (code := c50) (by kernel_rfl) Try.func50 rfl c50_ok (by kernel_rfl) (by kernel_rfl) ?_)
      refine run_ok 4000 _ _ _ _ ?_
      simp (maxSteps := 10000000) only [go_sem, c50, r50, h5', h0', hsg, hne, hu]
theorem unseal_seal (s : List UInt8) : unsealF (sealB s) = (s, 0) := by
  obtain ⟨b, c, d, f, hw⟩ : ∃ b c d f, word4 (CRC (7 :: s)) = [b, c, d, f] := ⟨_, _, _, _, rfl⟩
  have : sealB s = 7 :: b :: c :: d :: f :: s := by unfold sealB; rw [hw]; rfl
  rw [this, unsealF_long, hw]
  simp
theorem sealB_len (s : List UInt8) : (sealB s).length = s.length + 5 := by simp [sealB, word4]
def zg (k : Int) : Nat := if 0 ≤ k then (2 * k).toNat else (-2 * k - 1).toNat
def I64 (k : Int) : Prop := -9223372036854775808 ≤ k ∧ k ≤ 9223372036854775807
theorem zg_lt {k : Int} (h : I64 k) : zg k < 18446744073709551616 := by unfold zg I64 at *; split <;> omega
theorem sg_zg {k : Int} (h : I64 k) : sg (zg k) = k := by
  unfold sg zg I64 at *
  split <;> split <;> omega
theorem zg_bits {k : Int} (h : I64 k) : ibits .xor .u64 (ishl .u64 (iwrap .u64 k) 1) (iwrap .u64 (ishr .i64 k 63)) = (zg k : Int) := by
  have e0 : ishr .i64 k 63 = k / 9223372036854775808 := by
    show k.fdiv (2 ^ min (Int.toNat 63) 64) = _
    rw [show (2 : Int) ^ min (Int.toNat 63) 64 = 9223372036854775808 by decide, Int.fdiv_eq_ediv_of_nonneg _ (by omega)]
  have e1 : ∀ x : Int, ishl .u64 x 1 = (x * 2) % 18446744073709551616 := fun x => by
    show iwrap .u64 (x * 2 ^ min (Int.toNat 1) 64) = _
    rw [show (2 : Int) ^ min (Int.toNat 1) 64 = 2 by decide, iwrap_u64]
  unfold I64 at h
  rw [e0, e1, iwrap_u64, iwrap_u64]
  unfold zg
  by_cases hk : 0 ≤ k
  · rw [if_pos hk]
    obtain ⟨n, rfl⟩ : ∃ n : Nat, k = (n : Int) := ⟨k.toNat, by omega⟩
    rw [show ((n : Int) % 18446744073709551616 * 2 % 18446744073709551616) = ((2 * n : Nat) : Int) by omega, show ((n : Int) / 9223372036854775808 % 18446744073709551616) = ((0 : Nat) : Int) by omega]
    show iwrap .u64 ((BitVec.ofInt 64 ((2 * n : Nat) : Int) ^^^ BitVec.ofInt 64 ((0 : Nat) : Int)).toNat : Int) = _
    rw [BitVec.ofInt_natCast, BitVec.ofInt_natCast, BitVec.toNat_xor, BitVec.toNat_ofNat, BitVec.toNat_ofNat, Nat.mod_eq_of_lt (show 2 * n < 2 ^ 64 by omega), iwrap_u64]
    simp
    omega
  · rw [if_neg hk]
    obtain ⟨n, hn⟩ : ∃ n : Nat, -2 * k - 1 = (n : Int) := ⟨(-2 * k - 1).toNat, by omega⟩
    rw [show (k % 18446744073709551616 * 2 % 18446744073709551616) = ((18446744073709551615 - n : Nat) : Int) by omega, show (k / 9223372036854775808 % 18446744073709551616) = ((18446744073709551615 : Nat) : Int) by omega]
    show iwrap .u64 ((BitVec.ofInt 64 ((18446744073709551615 - n : Nat) : Int) ^^^ BitVec.ofInt 64 ((18446744073709551615 : Nat) : Int)).toNat : Int) = _
    rw [show BitVec.ofInt 64 ((18446744073709551615 : Nat) : Int) = BitVec.allOnes 64 by decide, BitVec.xor_allOnes, BitVec.toNat_not, BitVec.ofInt_natCast, BitVec.toNat_ofNat, Nat.mod_eq_of_lt (show 18446744073709551615 - n < 2 ^ 64 by omega), iwrap_u64, hn]
    omega
theorem tk_put : ∀ (m k n : Nat) (r : List UInt8), k ≤ 9 → (0 < k → 0 < m) → m * 128 ^ k < 18446744073709551616 → tk k n (numB m ++ r) = (n + m * 128 ^ k, r, 0)
  | m, k, n, r, hk, hm, hb => by
    by_cases h : 127 < m
    · have hk9 : k ≠ 9 := by
        rintro rfl
        have : 128 * 128 ^ 9 ≤ m * 128 ^ 9 := Nat.mul_le_mul_right _ h
        have e : (128 : Nat) * 128 ^ 9 = 1180591620717411303424 := by decide
        rw [e] at this
        exact absurd (Nat.lt_of_le_of_lt this hb) (by decide)
      have hc : (UInt8.ofNat (128 + m % 128)).toNat = 128 + m % 128 := by rw [UInt8.toNat_ofNat']; omega
      rw [numB_more h, List.cons_append, tk, hc, if_neg (by omega), if_neg (by omega), tk_put (m / 128) (k + 1) _ r (by omega) (fun _ => by omega) (by
        rw [Nat.pow_succ]
        have : m / 128 * (128 ^ k * 128) = m / 128 * 128 * 128 ^ k := by rw [Nat.mul_comm (128 ^ k), ← Nat.mul_assoc]
        rw [this]
        exact Nat.lt_of_le_of_lt (Nat.mul_le_mul_right _ (Nat.div_mul_le_self m 128)) hb)]
      congr 1
      rw [Nat.pow_succ, Nat.mul_comm (128 ^ k), ← Nat.mul_assoc, Nat.add_assoc, ← Nat.add_mul]
      congr 2
      omega
    · have hc : (UInt8.ofNat m).toNat = m := by rw [UInt8.toNat_ofNat']; omega
      rw [numB_last (by omega), List.cons_append, List.nil_append, tk, hc]
      have h9 : ¬ (k = 9 ∧ 1 < m) := by
        rintro ⟨rfl, h1⟩
        have : 2 * 128 ^ 9 ≤ m * 128 ^ 9 := Nat.mul_le_mul_right _ h1
        have e : (2 : Nat) * 128 ^ 9 = 18446744073709551616 := by decide
        rw [e] at this
        exact absurd (Nat.lt_of_le_of_lt this hb) (by decide)
      rw [if_neg (by omega), if_pos (by omega), Nat.mod_eq_of_lt (by omega)]
termination_by m => m
theorem numI_put (m : Nat) (r : List UInt8) (h : m < 18446744073709551616) : numI (numB m ++ r, 0) = (m, r, 0) := by
  have := tk_put m 0 0 r (by omega) (by omega) (by simpa using h)
  simpa [numI] using this
theorem oint_spec (l : List Int) (tight : Bool) (s : List UInt8) (hl : ∀ n ∈ l, I64 n) (hs : s.length + 10 * l.length ≤ 1000000) :
    Tri Try.prog 87 [.pbox 0 0, .vsl 1 (iv .i64 l) tight] (outM s) (fun v m => v = .pbox 0 0 ∧ m = outM2 (s ++ numsB (l.map zg))) := by
  unfold outM outM2
  refine Tri.post ?_
  refine (Tri.enter (rl := r87) (code := c87) (by kernel_rfl) Try.func87 rfl c87_ok (by kernel_rfl) (by kernel_rfl) ?_)
  refine run_ok 4000 _ _ _ _ ?_
  simp (maxSteps := 10000000) only [go_sem, c87, r87]
  refine sem_move 1 rfl ?_
  simp (maxSteps := 10000000) only [go_sem]
  refine sem_rounds (fun i : Nat => i ≤ l.length) (fun i => [(0, .pbox 0 0), (7, .vsl 1 (iv .i64 l) tight), (8, .int .i64 l.length), (9, .int .i64 (i : Nat))])
    (fun i => [.box [.sl 2 0 (s ++ numsB ((l.take i).map zg)).length (s ++ numsB ((l.take i).map zg)).length false], .gone, .row 1 (AE.bytes (s ++ numsB ((l.take i).map zg)))]) (fun i => l.length - i) 0 [0, 1, 2] (Nat.zero_le _) ?_ ?_
  · simp only [Emb, go_sem, iv_len]; simp [numsB]
  intro i hi
  refine run_ok 4000 _ _ _ _ ?_
  simp (maxSteps := 10000000) only [go_sem]
  refine ⟨fun hlt => ?_, fun hge => ?_⟩
  · have hlt : i < l.length := by omega
    have hin : (i : Int) < (l.length : Int) := by omega
    have h64 := hl _ (List.getElem_mem hlt)
    have hz := zg_bits h64
    have hlen : (numsB ((l.take i).map zg)).length ≤ 10 * i := by
      have := numsB_len ((l.take i).map zg) (by intro n hn; obtain ⟨k, hk, rfl⟩ := List.mem_map.1 hn; exact zg_lt (hl k (List.mem_of_mem_take hk)))
      rw [List.length_map, List.length_take] at this; omega
    have hnext : (s ++ numsB ((l.take i).map zg)) ++ numsB [zg l[i]] = s ++ numsB ((l.take (i + 1)).map zg) := by
      rw [List.take_succ_eq_append_getElem hlt, List.map_append, List.append_assoc]
      simp [numsB]
    have hcall := wNum_spec [zg l[i]] true (s ++ numsB ((l.take i).map zg)) (by intro n hn; simp at hn; rw [hn]; exact zg_lt h64) (by rw [List.length_append]; simp only [List.length_cons, List.length_nil]; omega)
    rw [hnext] at hcall
    skip
    simp (maxSteps := 10000000) only [go_sem, iv_len, iv_rint hlt, iv_hasI hlt, hin, hz, Int.natCast_nonneg, inc64 (show i < 1000000000000 by omega)]
    refine sem_call rfl rfl (((hcall).embed [0, 2] rfl (by repeat' first | exact trivial | rfl | (simp only [go_sem]; done) | constructor) rfl (by first | rfl | simp only [go_sem]) rfl (by simp)).mono ?_)
    rintro _ _ ⟨_, _, ⟨rfl, rfl⟩, rfl, rfl⟩
    refine run_ok 4000 _ _ _ _ ?_
    simp (maxSteps := 10000000) only [go_sem, iv_len, iv_rint hlt, iv_hasI hlt, hin, hz, Int.natCast_nonneg, inc64 (show i < 1000000000000 by omega)]
    refine ⟨i + 1, by omega, hlt, [0, 1, 3], ?_⟩
    simp only [Emb, go_sem]
  · have ht : l.take i = l := List.take_of_length_le (by omega)
    skip
    refine run_ok 4000 _ _ _ _ ?_
    simp (maxSteps := 10000000) only [go_sem, ht]
    refine ⟨_, _, .sub [0, 1, 2] ?_ .done, rfl, rfl⟩
    simp only [EmbV, go_sem, ht]
def posN (n : Int) : Nat := (max n 0).toNat
theorem posN_cvt {n : Int} (h : I64 n) : iwrap .u64 (if 0 > n then 0 else n) = (posN n : Int) := by unfold posN I64 at *; rw [iwrap_u64]; split <;> omega
theorem posN_lt {n : Int} (h : I64 n) : posN n < 18446744073709551616 := by unfold posN I64 at *; omega
theorem ocount_spec (l : List Int) (tight : Bool) (s : List UInt8) (hl : ∀ n ∈ l, I64 n) (hs : s.length + 10 * l.length ≤ 1000000) :
    Tri Try.prog 84 [.pbox 0 0, .vsl 1 (iv .i64 l) tight] (outM s) (fun v m => v = .pbox 0 0 ∧ m = outM2 (s ++ numsB (l.map posN))) := by
  unfold outM outM2
  refine Tri.post ?_
  refine (Tri.enter (rl := r84) (code := c84) (by kernel_rfl) Try.func84 rfl c84_ok (by kernel_rfl) (by kernel_rfl) ?_)
  refine run_ok 4000 _ _ _ _ ?_
  simp (maxSteps := 10000000) only [go_sem, c84, r84]
  refine sem_move 1 rfl ?_
  simp (maxSteps := 10000000) only [go_sem]
  refine sem_rounds (fun i : Nat => i ≤ l.length) (fun i => [(0, .pbox 0 0), (7, .vsl 1 (iv .i64 l) tight), (8, .int .i64 l.length), (9, .int .i64 (i : Nat))])
    (fun i => [.box [.sl 2 0 (s ++ numsB ((l.take i).map posN)).length (s ++ numsB ((l.take i).map posN)).length false], .gone, .row 1 (AE.bytes (s ++ numsB ((l.take i).map posN)))]) (fun i => l.length - i) 0 [0, 1, 2] (Nat.zero_le _) ?_ ?_
  · simp only [Emb, go_sem, iv_len]; simp [numsB]
  intro i hi
  refine run_ok 4000 _ _ _ _ ?_
  simp (maxSteps := 10000000) only [go_sem]
  refine ⟨fun hlt => ?_, fun hge => ?_⟩
  · have hlt : i < l.length := by omega
    have hin : (i : Int) < (l.length : Int) := by omega
    have h64 := hl _ (List.getElem_mem hlt)
    have hz := posN_cvt h64
    have hlen : (numsB ((l.take i).map posN)).length ≤ 10 * i := by
      have := numsB_len ((l.take i).map posN) (by intro n hn; obtain ⟨k, hk, rfl⟩ := List.mem_map.1 hn; exact posN_lt (hl k (List.mem_of_mem_take hk)))
      rw [List.length_map, List.length_take] at this; omega
    have hnext : (s ++ numsB ((l.take i).map posN)) ++ numsB [posN l[i]] = s ++ numsB ((l.take (i + 1)).map posN) := by
      rw [List.take_succ_eq_append_getElem hlt, List.map_append, List.append_assoc]
      simp [numsB]
    have hcall := wNum_spec [posN l[i]] true (s ++ numsB ((l.take i).map posN)) (by intro n hn; simp at hn; rw [hn]; exact posN_lt h64) (by rw [List.length_append]; simp only [List.length_cons, List.length_nil]; omega)
    rw [hnext] at hcall
    skip
    simp (maxSteps := 10000000) only [go_sem, iv_len, iv_rint hlt, iv_hasI hlt, hin, hz, Int.natCast_nonneg, inc64 (show i < 1000000000000 by omega)]
    refine sem_call rfl rfl (((hcall).embed [0, 2] rfl (by repeat' first | exact trivial | rfl | (simp only [go_sem]; done) | constructor) rfl (by first | rfl | simp only [go_sem]) rfl (by simp)).mono ?_)
    rintro _ _ ⟨_, _, ⟨rfl, rfl⟩, rfl, rfl⟩
    refine run_ok 4000 _ _ _ _ ?_
    simp (maxSteps := 10000000) only [go_sem, iv_len, iv_rint hlt, iv_hasI hlt, hin, hz, Int.natCast_nonneg, inc64 (show i < 1000000000000 by omega)]
    refine ⟨i + 1, by omega, hlt, [0, 1, 3], ?_⟩
    simp only [Emb, go_sem]
  · have ht : l.take i = l := List.take_of_length_le (by omega)
    skip
    refine run_ok 4000 _ _ _ _ ?_
    simp (maxSteps := 10000000) only [go_sem, ht]
    refine ⟨_, _, .sub [0, 1, 2] ?_ .done, rfl, rfl⟩
    simp only [EmbV, go_sem, ht]
def countF (x : List UInt8 × Int) (most : Int) : (List UInt8 × Int) × Int :=
  if ((numI x).1 : Int) > (posN most : Int) then (failF (numI x).2 3, 0) else ((numI x).2, ((numI x).1 : Int))
theorem icount_spec (s : List UInt8) (e most : Int) (hm : I64 most) : Tri Try.prog 81 [.pbox 0 0, .int .i64 most] (inM s e)
    (fun v m => v = .int .i64 (countF (s, e) most).2 ∧ m = inM (countF (s, e) most).1.1 (countF (s, e) most).1.2) := by
  have hz := posN_cvt hm
  skip
  refine (Tri.enter (rl := r81) (code := c81) (by kernel_rfl) Try.func81 rfl c81_ok (by kernel_rfl) (by kernel_rfl) ?_)
  refine run_ok 4000 _ _ _ _ ?_
  simp (maxSteps := 10000000) only [go_sem, c81, r81, hz]
  refine sem_call rfl rfl (((inum_spec s e).embed [0] rfl (by repeat' first | exact trivial | rfl | (simp only [go_sem]; done) | constructor) rfl (by first | rfl | simp only [go_sem]) rfl (by simp)).mono ?_)
  rintro _ _ ⟨_, _, ⟨rfl, rfl⟩, rfl, rfl⟩
  refine run_ok 4000 _ _ _ _ ?_
  simp (maxSteps := 10000000) only [go_sem, hz]
  refine ⟨fun h => ?_, fun h => ?_⟩
  · have hc : countF (s, e) most = (failF (numI (s, e)).2 3, 0) := by unfold countF; rw [if_pos h]
    refine sem_call rfl rfl (((fail_spec (numI (s, e)).2.1 (numI (s, e)).2.2 3).embed [0] rfl (by repeat' first | exact trivial | rfl | (simp only [go_sem]; done) | constructor) rfl (by first | rfl | simp only [go_sem]) rfl (by simp)).mono ?_)
    rintro _ _ ⟨_, _, ⟨rfl, rfl⟩, rfl, rfl⟩
    refine run_ok 4000 _ _ _ _ ?_
    simp (maxSteps := 10000000) only [go_sem, hz]
    rw [hc]
    exact ⟨rfl, rfl⟩
  · have hc : countF (s, e) most = ((numI (s, e)).2, ((numI (s, e)).1 : Int)) := by unfold countF; rw [if_neg h]
    have hp : (posN most : Int) ≤ 9223372036854775807 := by unfold posN I64 at *; omega
    rw [hc, iwrap_i64_in (by omega)]
    exact ⟨rfl, rfl⟩
def endF (x : List UInt8 × Int) : List UInt8 × Int := if x.1 ≠ [] then failF x 2 else x
theorem iend_spec (s : List UInt8) (e : Int) : Tri Try.prog 72 [.pbox 0 0] (inM s e) (fun v m => v = .int .i64 (endF (s, e)).2 ∧ m = inM (endF (s, e)).1 (endF (s, e)).2) := by
  have hq := seqb_iff s []
  by_cases hs : s = []
  · have h1 : seqb s [] = true := by rw [hq]; exact decide_eq_true hs
    have h2 : endF (s, e) = (s, e) := by simp [endF, hs]
    skip
    refine (Tri.enter (rl := r72) (code := c72) (by kernel_rfl) Try.func72 rfl c72_ok (by kernel_rfl) (by kernel_rfl) ?_)
    refine run_ok 4000 _ _ _ _ ?_
    simp (maxSteps := 10000000) only [go_sem, c72, r72, h1, h2]
  · have h1 : seqb s [] = false := by rw [hq]; exact decide_eq_false hs
    have h2 : endF (s, e) = failF (s, e) 2 := by simp [endF, hs]
    skip
    refine (Tri.enter (rl := r72) (code := c72) (by kernel_rfl) Try.func72 rfl c72_ok (by kernel_rfl) (by kernel_rfl) ?_)
    refine run_ok 4000 _ _ _ _ ?_
    simp (maxSteps := 10000000) only [go_sem, c72, r72, h1, h2]
    refine sem_call rfl rfl (((fail_spec s e 2).embed [0] rfl (by repeat' first | exact trivial | rfl | (simp only [go_sem]; done) | constructor) rfl (by first | rfl | simp only [go_sem]) rfl (by simp)).mono ?_)
    rintro _ _ ⟨_, _, ⟨rfl, rfl⟩, rfl, rfl⟩
    refine run_ok 4000 _ _ _ _ ?_
    simp (maxSteps := 10000000) only [go_sem, h1, h2]
end Go.AEX
