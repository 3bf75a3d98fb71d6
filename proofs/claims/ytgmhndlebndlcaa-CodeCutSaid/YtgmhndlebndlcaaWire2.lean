/- Wire: things that are taken, and datagrams with a sum. -/
import Derived.Test.YtgmhndlebndlcaaWWire
namespace Go.AEX
open Go Go.AE Go.Proofs
set_option maxRecDepth 100000
set_option linter.unusedVariables false
set_option linter.unusedSimpArgs false

/-- What is left, the error. -/
def inM (s : List UInt8) (e : Int) : Mem := [.box [.str s, .int .i64 e]]
attribute [go_sem] inM
theorem open_spec (s : List UInt8) : Tri Try.prog 25 [.str s] [] (fun v m => v = .pbox 0 0 ∧ m = inM s 0) := by
  refine (Tri.enter (rl := r25) (code := c25) (by kernel_rfl) Try.func25 rfl c25_ok (by kernel_rfl) (by kernel_rfl) ?_)
  refine run_ok 4000 _ _ _ _ ?_
  simp (maxSteps := 10000000) only [go_sem, c25, r25]
theorem err_spec (s : List UInt8) (e : Int) : Tri Try.prog 27 [.pbox 0 0] (inM s e) (fun v m => v = .int .i64 e ∧ m = inM s e) := by
  refine (Tri.enter (rl := r27) (code := c27) (by kernel_rfl) Try.func27 rfl c27_ok (by kernel_rfl) (by kernel_rfl) ?_)
  refine run_ok 4000 _ _ _ _ ?_
  simp (maxSteps := 10000000) only [go_sem, c27, r27]
theorem ilen_spec (s : List UInt8) (e : Int) : Tri Try.prog 29 [.pbox 0 0] (inM s e) (fun v m => v = .int .i64 s.length ∧ m = inM s e) := by
  refine (Tri.enter (rl := r29) (code := c29) (by kernel_rfl) Try.func29 rfl c29_ok (by kernel_rfl) (by kernel_rfl) ?_)
  refine run_ok 4000 _ _ _ _ ?_
  simp (maxSteps := 10000000) only [go_sem, c29, r29]
def failF (x : List UInt8 × Int) (e : Int) : List UInt8 × Int := if x.2 = 0 ∧ e ≠ 0 then ([], e) else x
theorem fail_spec (s : List UInt8) (e f : Int) : Tri Try.prog 56 [.pbox 0 0, .int .i64 f] (inM s e) (fun v m => v = .tup [] ∧ m = inM (failF (s, e) f).1 (failF (s, e) f).2) := by
  refine (Tri.enter (rl := r56) (code := c56) (by kernel_rfl) Try.func56 rfl c56_ok (by kernel_rfl) (by kernel_rfl) ?_)
  refine run_ok 4000 _ _ _ _ ?_
  simp (maxSteps := 10000000) only [go_sem, c56, r56]
  refine ⟨fun h1 => ⟨fun h2 => ?_, fun h2 => ?_⟩, fun h1 => ?_⟩
  · have h1 : e = 0 := by simpa using h1
    have h2 : f ≠ 0 := by simpa using h2
    simp [failF, h1, h2]
  · have h2 : f = 0 := by simpa using h2
    simp [failF, h2]
  · have h1 : e ≠ 0 := by simpa using h1
    simp [failF, h1]
def rawF (x : List UInt8 × Int) (n : Int) : (List UInt8 × Int) × List UInt8 := if x.2 ≠ 0 ∨ n ≤ 0 then (x, []) else if n > (x.1.length : Int) then (([], 1), []) else ((x.1.drop n.toNat, 0), x.1.take n.toNat)
theorem raw_spec (s : List UInt8) (e n : Int) : Tri Try.prog 44 [.pbox 0 0, .int .i64 n] (inM s e) (fun v m => v = .str (rawF (s, e) n).2 ∧ m = inM (rawF (s, e) n).1.1 (rawF (s, e) n).1.2) := by
  refine (Tri.enter (rl := r44) (code := c44) (by kernel_rfl) Try.func44 rfl c44_ok (by kernel_rfl) (by kernel_rfl) ?_)
  refine run_ok 4000 _ _ _ _ ?_
  simp (maxSteps := 10000000) only [go_sem, c44, r44]
  refine ⟨fun h1 => ?_, fun h1 => ⟨fun h2 => ?_, fun h2 => ⟨fun h3 => ?_, fun h3 => ⟨⟨by omega, by omega⟩, ⟨by omega, by omega⟩, ?_⟩⟩⟩⟩
  · have h1 : e ≠ 0 := by simpa using h1
    simp [rawF, h1]
  · simp [rawF, h2]
  · have h1 : e = 0 := by simpa using h1
    subst h1
    refine sem_call rfl rfl (((fail_spec s 0 1).embed [0] rfl (by repeat' first | exact trivial | rfl | (simp only [go_sem]; done) | constructor) rfl (by first | rfl | simp only [go_sem]) rfl (by simp)).mono ?_)
    rintro _ _ ⟨_, _, ⟨rfl, rfl⟩, rfl, rfl⟩
    refine run_ok 4000 _ _ _ _ ?_
    simp (maxSteps := 10000000) only [go_sem]
    simp [failF, rawF, h2]
    rw [if_pos (by omega)]
    simp
  · have h1 : e = 0 := by simpa using h1
    subst h1
    simp [rawF, h2]
    rw [if_neg (by omega)]
    simp
/-- A number that is taken: its value, what is left, the error. -/
def tk : Nat → Nat → List UInt8 → Nat × List UInt8 × Int
  | _, _, [] => (0, [], 1)
  | k, n, c :: s => if (c.toNat = 0 ∧ 0 < k) ∨ (k = 9 ∧ 1 < c.toNat) then (0, [], 2) else
      if c.toNat < 128 then (n + c.toNat % 128 * 128 ^ k, s, 0) else tk (k + 1) (n + c.toNat % 128 * 128 ^ k) s
def numI (x : List UInt8 × Int) : Nat × List UInt8 × Int := if x.2 ≠ 0 then (0, x.1, x.2) else tk 0 0 x.1
theorem rfl_len1 : (0 : Int) < 1 := by decide
theorem pow128 (k : Nat) : 128 ^ k = 2 ^ (7 * k) := by rw [Nat.pow_mul]
theorem num_bits {n C k : Nat} (hn : n < 128 ^ k) (hk : k ≤ 9) (hC : C < 256) (h9 : k = 9 → C ≤ 1) : n + C % 128 * 128 ^ k < 18446744073709551616 ∧
    ibits .or .u64 (n : Int) (ishl .u64 (iwrap .u64 (ibits .and .u8 (C : Int) 127)) ((7 * k : Nat) : Int)) = ((n + C % 128 * 128 ^ k : Nat) : Int) := by
  have e1 : ibits .and .u8 (C : Int) 127 = ((C % 128 : Nat) : Int) := by
    have key : ∀ x : Nat, x < 256 → ibits .and .u8 (x : Int) 127 = ((x % 128 : Nat) : Int) := by decide +kernel
    exact key C hC
  have hx : C % 128 * 128 ^ k + 128 ^ k ≤ 18446744073709551616 := by
    by_cases h : k = 9
    · have hc1 : C % 128 ≤ 1 := by have := h9 h; omega
      subst h
      have e : (128 : Nat) ^ 9 = 9223372036854775808 := by decide
      rw [e]
      have h3 : C % 128 * 9223372036854775808 ≤ 1 * 9223372036854775808 := Nat.mul_le_mul_right _ hc1
      exact Nat.le_trans (Nat.add_le_add_right h3 _) (by decide)
    · have h2 : 128 ^ k ≤ 72057594037927936 := Nat.le_trans (Nat.pow_le_pow_right (by decide) (show k ≤ 8 by omega)) (by decide)
      have h3 : C % 128 * 128 ^ k ≤ 127 * 72057594037927936 := Nat.mul_le_mul (by omega) h2
      omega
  have hp : 0 < 128 ^ k := Nat.pow_pos (by decide)
  refine ⟨by omega, ?_⟩
  have e2 : iwrap .u64 ((C % 128 : Nat) : Int) = ((C % 128 : Nat) : Int) := by rw [iwrap_u64]; omega
  have e3 : ishl .u64 ((C % 128 : Nat) : Int) ((7 * k : Nat) : Int) = ((C % 128 * 128 ^ k : Nat) : Int) := by
    show iwrap .u64 (((C % 128 : Nat) : Int) * 2 ^ min (((7 * k : Nat) : Int).toNat) 64) = _
    rw [Int.toNat_natCast, Nat.min_eq_left (by omega), pow128, iwrap_u64]
    rw [pow128] at hx
    push_cast at hx ⊢
    exact Int.emod_eq_of_lt (Int.mul_nonneg (by omega) (Int.le_of_lt (Int.pow_pos (by decide)))) (by
      have : ((C % 128 * 2 ^ (7 * k) : Nat) : Int) < 18446744073709551616 := by have : 0 < 2 ^ (7 * k) := Nat.pow_pos (by decide); omega
      push_cast at this; exact this)
  rw [e1, e2, e3]
  show iwrap .u64 ((BitVec.ofInt 64 (n : Int) ||| BitVec.ofInt 64 ((C % 128 * 128 ^ k : Nat) : Int)).toNat : Int) = _
  rw [BitVec.ofInt_natCast, BitVec.ofInt_natCast, BitVec.toNat_or, BitVec.toNat_ofNat, BitVec.toNat_ofNat, Nat.mod_eq_of_lt (show n < 2 ^ 64 by omega), Nat.mod_eq_of_lt (show C % 128 * 128 ^ k < 2 ^ 64 by omega)]
  rw [pow128] at hn ⊢
  have h5 := Nat.two_pow_add_eq_or_of_lt hn (C % 128)
  rw [Nat.mul_comm (C % 128), Nat.or_comm, ← h5, iwrap_u64]
  rw [pow128] at hx
  rw [Nat.mul_comm (C % 128)] at hx
  omega
theorem inum_spec (s : List UInt8) (e : Int) : Tri Try.prog 26 [.pbox 0 0] (inM s e) (fun v m => v = .int .u64 ((numI (s, e)).1 : Nat) ∧ m = inM (numI (s, e)).2.1 (numI (s, e)).2.2) := by
  by_cases he : e = 0
  · subst he
    have hnum : numI (s, 0) = tk 0 0 s := by simp [numI]
    rw [hnum]
    refine Tri.post ?_
    refine (Tri.enter (rl := r26) (code := c26) (by kernel_rfl) Try.func26 rfl c26_ok (by kernel_rfl) (by kernel_rfl) ?_)
    refine run_ok 4000 _ _ _ _ ?_
    simp (maxSteps := 10000000) only [go_sem, c26, r26]
    refine sem_rounds (fun x : Nat × Nat × List UInt8 => x.1 ≤ 9 ∧ x.2.1 < 128 ^ x.1 ∧ tk x.1 x.2.1 x.2.2 = tk 0 0 s) (fun x => [(0, .pbox 0 0), (3, .int .u64 (x.2.1 : Nat)), (4, .int .i64 (7 * x.1 : Nat))])
      (fun x => [.box [.str x.2.2, .int .i64 0]]) (fun x => 10 - x.1) (0, 0, s) [0] ⟨by simp, by simp, rfl⟩ ?_ ?_
    · simp only [Emb, go_sem, Nat.mul_zero]
    rintro ⟨k, n, r⟩ ⟨h1, h2, h3⟩
    simp only at h1 h2 h3
    refine run_ok 4000 _ _ _ _ ?_
    simp (maxSteps := 10000000) only [go_sem]
    cases r with
    | nil =>
      have htk : tk 0 0 s = (0, [], 1) := by rw [← h3]; rfl
      have hr : rawF ([], 0) 1 = (([], 1), []) := by decide
      skip
      refine sem_call rfl rfl (((raw_spec [] 0 1).embed [0] rfl (by repeat' first | exact trivial | rfl | (simp only [go_sem]; done) | constructor) rfl (by first | rfl | simp only [go_sem]) rfl (by simp)).mono ?_)
      rintro _ _ ⟨_, _, ⟨rfl, rfl⟩, rfl, rfl⟩
      refine run_ok 4000 _ _ _ _ ?_
      simp (maxSteps := 10000000) only [go_sem, hr]
      refine ⟨_, _, .sub [0] ?_ .done, rfl, rfl⟩
      simp only [EmbV, go_sem, htk, Int.natCast_zero]
    | cons c r =>
      have hr : rawF (c :: r, 0) 1 = ((r, 0), [c]) := by simp [rawF]; omega
      have hs : sget [c] 0 = (c.toNat : Int) := by simp [sget]
      have hc256 := c.toNat_lt
      generalize hc : c.toNat = C at *
      simp only [tk, hc] at h3
      have hw : iwrap .i64 (((7 * k : Nat) : Int) + 7) = ((7 * (k + 1) : Nat) : Int) := by rw [iwrap_i64_in (by omega)]; omega
      by_cases c0 : C = 0
      · have f1 : ((C : Int) == 0) = true := by simp [c0]
        by_cases k0 : 0 < k
        · have f2 : ((7 * k : Nat) : Int) > 0 := by omega
          rw [if_pos (.inl ⟨c0, k0⟩)] at h3
          skip
          refine sem_call rfl rfl (((raw_spec (c :: r) 0 1).embed [0] rfl (by repeat' first | exact trivial | rfl | (simp only [go_sem]; done) | constructor) rfl (by first | rfl | simp only [go_sem]) rfl (by simp)).mono ?_)
          rintro _ _ ⟨_, _, ⟨rfl, rfl⟩, rfl, rfl⟩
          refine run_ok 4000 _ _ _ _ ?_
          simp (maxSteps := 10000000) only [go_sem, hr, hs, f1, f2, rfl_len1]
          refine sem_call rfl rfl (((fail_spec r 0 2).embed [0] rfl (by repeat' first | exact trivial | rfl | (simp only [go_sem]; done) | constructor) rfl (by first | rfl | simp only [go_sem]) rfl (by simp)).mono ?_)
          rintro _ _ ⟨_, _, ⟨rfl, rfl⟩, rfl, rfl⟩
          refine run_ok 4000 _ _ _ _ ?_
          simp (maxSteps := 10000000) only [go_sem, hr, hs, f1, f2, rfl_len1]
          refine ⟨_, _, .sub [0] ?_ .done, rfl, rfl⟩
          simp only [EmbV, go_sem, ← h3, failF, Int.natCast_zero]
          all_goals simp
        · have f2 : ¬ ((7 * k : Nat) : Int) > 0 := by omega
          have f3 : (((7 * k : Nat) : Int) == 63) = false := by simp; omega
          rw [if_neg (by omega)] at h3
          obtain ⟨hb, hor⟩ := num_bits (C := C) h2 h1 (by omega) (by omega)
          skip
          refine sem_call rfl rfl (((raw_spec (c :: r) 0 1).embed [0] rfl (by repeat' first | exact trivial | rfl | (simp only [go_sem]; done) | constructor) rfl (by first | rfl | simp only [go_sem]) rfl (by simp)).mono ?_)
          rintro _ _ ⟨_, _, ⟨rfl, rfl⟩, rfl, rfl⟩
          refine run_ok 4000 _ _ _ _ ?_
          simp (maxSteps := 10000000) only [go_sem, hr, hs, f1, f2, f3, hor, hw, rfl_len1]
          refine ⟨by omega, fun hlt => ?_, fun hge => ?_⟩
          · rw [if_pos (by omega)] at h3
            refine ⟨_, _, .sub [0] ?_ .done, rfl, rfl⟩
            simp only [EmbV, go_sem, ← h3]
          · rw [if_neg (by omega)] at h3
            refine ⟨(k + 1, n + C % 128 * 128 ^ k, r), by simp only; omega, ⟨by simp only; omega, ?_, h3⟩, [0], ?_⟩
            · simp only
              rw [Nat.pow_succ]
              have hp : 0 < 128 ^ k := Nat.pow_pos (by decide)
              have : C % 128 * 128 ^ k ≤ 127 * 128 ^ k := Nat.mul_le_mul_right _ (by omega)
              omega
            · simp only [Emb, go_sem]
      · have f1 : ((C : Int) == 0) = false := by simp [c0]
        by_cases k9 : k = 9
        · have f3 : (((7 * k : Nat) : Int) == 63) = true := by simp [k9]
          by_cases c1 : 1 < C
          · have f4 : (C : Int) > 1 := by omega
            rw [if_pos (.inr ⟨k9, c1⟩)] at h3
            skip
            refine sem_call rfl rfl (((raw_spec (c :: r) 0 1).embed [0] rfl (by repeat' first | exact trivial | rfl | (simp only [go_sem]; done) | constructor) rfl (by first | rfl | simp only [go_sem]) rfl (by simp)).mono ?_)
            rintro _ _ ⟨_, _, ⟨rfl, rfl⟩, rfl, rfl⟩
            refine run_ok 4000 _ _ _ _ ?_
            simp (maxSteps := 10000000) only [go_sem, hr, hs, f1, f3, f4, rfl_len1]
            refine sem_call rfl rfl (((fail_spec r 0 2).embed [0] rfl (by repeat' first | exact trivial | rfl | (simp only [go_sem]; done) | constructor) rfl (by first | rfl | simp only [go_sem]) rfl (by simp)).mono ?_)
            rintro _ _ ⟨_, _, ⟨rfl, rfl⟩, rfl, rfl⟩
            refine run_ok 4000 _ _ _ _ ?_
            simp (maxSteps := 10000000) only [go_sem, hr, hs, f1, f3, f4, rfl_len1]
            refine ⟨_, _, .sub [0] ?_ .done, rfl, rfl⟩
            simp only [EmbV, go_sem, ← h3, failF, Int.natCast_zero]
            all_goals simp
          · have f4 : ¬ (C : Int) > 1 := by omega
            rw [if_neg (by omega)] at h3
            obtain ⟨hb, hor⟩ := num_bits (C := C) h2 h1 (by omega) (by omega)
            skip
            refine sem_call rfl rfl (((raw_spec (c :: r) 0 1).embed [0] rfl (by repeat' first | exact trivial | rfl | (simp only [go_sem]; done) | constructor) rfl (by first | rfl | simp only [go_sem]) rfl (by simp)).mono ?_)
            rintro _ _ ⟨_, _, ⟨rfl, rfl⟩, rfl, rfl⟩
            refine run_ok 4000 _ _ _ _ ?_
            simp (maxSteps := 10000000) only [go_sem, hr, hs, f1, f3, f4, hor, hw, rfl_len1]
            refine ⟨by omega, fun hlt => ?_, fun hge => ?_⟩
            · rw [if_pos (by omega)] at h3
              refine ⟨_, _, .sub [0] ?_ .done, rfl, rfl⟩
              simp only [EmbV, go_sem, ← h3]
            · rw [if_neg (by omega)] at h3
              refine ⟨(k + 1, n + C % 128 * 128 ^ k, r), by simp only; omega, ⟨by simp only; omega, ?_, h3⟩, [0], ?_⟩
              · simp only
                rw [Nat.pow_succ]
                have hp : 0 < 128 ^ k := Nat.pow_pos (by decide)
                have : C % 128 * 128 ^ k ≤ 127 * 128 ^ k := Nat.mul_le_mul_right _ (by omega)
                omega
              · simp only [Emb, go_sem]
        · have f3 : (((7 * k : Nat) : Int) == 63) = false := by simp; omega
          rw [if_neg (by omega)] at h3
          obtain ⟨hb, hor⟩ := num_bits (C := C) h2 h1 (by omega) (by omega)
          skip
          refine sem_call rfl rfl (((raw_spec (c :: r) 0 1).embed [0] rfl (by repeat' first | exact trivial | rfl | (simp only [go_sem]; done) | constructor) rfl (by first | rfl | simp only [go_sem]) rfl (by simp)).mono ?_)
          rintro _ _ ⟨_, _, ⟨rfl, rfl⟩, rfl, rfl⟩
          refine run_ok 4000 _ _ _ _ ?_
          simp (maxSteps := 10000000) only [go_sem, hr, hs, f1, f3, hor, hw, rfl_len1]
          refine ⟨by omega, fun hlt => ?_, fun hge => ?_⟩
          · rw [if_pos (by omega)] at h3
            refine ⟨_, _, .sub [0] ?_ .done, rfl, rfl⟩
            simp only [EmbV, go_sem, ← h3]
          · rw [if_neg (by omega)] at h3
            refine ⟨(k + 1, n + C % 128 * 128 ^ k, r), by simp only; omega, ⟨by simp only; omega, ?_, h3⟩, [0], ?_⟩
            · simp only
              rw [Nat.pow_succ]
              have hp : 0 < 128 ^ k := Nat.pow_pos (by decide)
              have : C % 128 * 128 ^ k ≤ 127 * 128 ^ k := Nat.mul_le_mul_right _ (by omega)
              omega
            · simp only [Emb, go_sem]
  · skip
    have hnum : numI (s, e) = (0, s, e) := by simp [numI, he]
    rw [hnum]
    have he' : (e != 0) = true := by simp [he]
    have hr : rawF (s, e) 1 = ((s, e), []) := by simp [rawF, he]
    refine Tri.post ?_
    refine (Tri.enter (rl := r26) (code := c26) (by kernel_rfl) Try.func26 rfl c26_ok (by kernel_rfl) (by kernel_rfl) ?_)
    refine run_ok 4000 _ _ _ _ ?_
    simp (maxSteps := 10000000) only [go_sem, c26, r26]
    refine sem_rounds (fun x : Unit => True) (fun x => [(0, .pbox 0 0), (3, .int .u64 0), (4, .int .i64 0)])
      (fun x => [.box [.str s, .int .i64 e]]) (fun x => 0) () [0] trivial ?_ ?_
    · simp only [Emb, go_sem]
    rintro _ _
    skip
    refine run_ok 4000 _ _ _ _ ?_
    simp (maxSteps := 10000000) only [go_sem, he', hr]
    refine sem_call rfl rfl (((raw_spec s e 1).embed [0] rfl (by repeat' first | exact trivial | rfl | (simp only [go_sem]; done) | constructor) rfl (by first | rfl | simp only [go_sem]) rfl (by simp)).mono ?_)
    rintro _ _ ⟨_, _, ⟨rfl, rfl⟩, rfl, rfl⟩
    refine run_ok 4000 _ _ _ _ ?_
    simp (maxSteps := 10000000) only [go_sem, he', hr]
    refine ⟨_, _, .sub [0] ?_ .done, rfl, rfl⟩
    simp only [EmbV, go_sem, Int.natCast_zero]
end Go.AEX
