/- Wire: datagrams with a sum; what the laws begin with. -/
import Derived.Test.YtgmhndlebndlcaaWire2
namespace Go.AEX
open Go Go.AE Go.Proofs
set_option maxRecDepth 100000
set_option linter.unusedVariables false
set_option linter.unusedSimpArgs false

theorem tk_lt : ∀ (s : List UInt8) (k n : Nat), k ≤ 9 → n < 128 ^ k → (tk k n s).1 < 18446744073709551616
  | [], k, n, _, _ => by simp [tk]
  | c :: s, k, n, hk, hn => by
    simp only [tk]
    split
    · simp
    · rename_i hb
      have hC := c.toNat_lt
      obtain ⟨h1, _⟩ := num_bits (C := c.toNat) hn hk hC (by omega)
      split
      · exact h1
      · refine tk_lt s (k + 1) _ (by omega) ?_
        rw [Nat.pow_succ]
        have hp : 0 < 128 ^ k := Nat.pow_pos (by decide)
        have : c.toNat % 128 * 128 ^ k ≤ 127 * 128 ^ k := Nat.mul_le_mul_right _ (by omega)
        omega
theorem numI_lt (x : List UInt8 × Int) : (numI x).1 < 18446744073709551616 := by
  unfold numI
  split
  · simp
  · exact tk_lt _ _ _ (by omega) (by simp)
/-- A whole number of the one that stands for it. -/
def sg (n : Nat) : Int := if n % 2 = 0 then (n / 2 : Nat) else -((n / 2 : Nat) : Int) - 1
theorem sg_bits {n : Nat} (h : n < 18446744073709551616) : ibits .xor .i64 (iwrap .i64 (ishr .u64 (n : Int) 1)) (iwrap .i64 (-(iwrap .i64 (ibits .and .u64 (n : Int) 1)))) = sg n := by
  have e1 : ishr .u64 (n : Int) 1 = ((n / 2 : Nat) : Int) := by
    show (n : Int).fdiv (2 ^ min (Int.toNat 1) 64) = _
    rw [show (2 : Int) ^ min (Int.toNat 1) 64 = 2 by decide, Int.fdiv_eq_ediv_of_nonneg _ (by omega)]; omega
  have e2 : iwrap .i64 ((n / 2 : Nat) : Int) = ((n / 2 : Nat) : Int) := iwrap_i64_in (by omega)
  have e3 : ibits .and .u64 (n : Int) 1 = ((n % 2 : Nat) : Int) := by
    show iwrap .u64 ((BitVec.ofInt 64 (n : Int) &&& BitVec.ofInt 64 ((1 : Nat) : Int)).toNat : Int) = _
    rw [BitVec.ofInt_natCast, BitVec.ofInt_natCast, BitVec.toNat_and, BitVec.toNat_ofNat, BitVec.toNat_ofNat, Nat.mod_eq_of_lt (show n < 2 ^ 64 by omega), Nat.mod_eq_of_lt (show 1 < 2 ^ 64 by omega), Nat.and_one_is_mod, iwrap_u64]
    omega
  have e4 : iwrap .i64 ((n % 2 : Nat) : Int) = ((n % 2 : Nat) : Int) := iwrap_i64_in (by omega)
  have e5 : iwrap .i64 (-((n % 2 : Nat) : Int)) = -((n % 2 : Nat) : Int) := iwrap_i64_in (by omega)
  rw [e1, e2, e3, e4, e5]
  generalize hq : n / 2 = q
  have hq2 : q < 9223372036854775808 := by omega
  unfold sg
  rw [hq]
  split
  · rename_i h0
    rw [h0]
    show iwrap .i64 ((BitVec.ofInt 64 (q : Int) ^^^ BitVec.ofInt 64 (-((0 : Nat) : Int))).toNat : Int) = _
    rw [show (-((0 : Nat) : Int)) = ((0 : Nat) : Int) by decide, BitVec.ofInt_natCast, BitVec.ofInt_natCast, BitVec.toNat_xor, BitVec.toNat_ofNat, BitVec.toNat_ofNat, Nat.mod_eq_of_lt (show q < 2 ^ 64 by omega)]
    simp
    exact iwrap_i64_in (by omega)
  · rename_i h0
    rw [show n % 2 = 1 by omega]
    show iwrap .i64 ((BitVec.ofInt 64 (q : Int) ^^^ BitVec.ofInt 64 (-((1 : Nat) : Int))).toNat : Int) = _
    rw [show BitVec.ofInt 64 (-((1 : Nat) : Int)) = BitVec.allOnes 64 by decide, BitVec.xor_allOnes, BitVec.toNat_not, BitVec.ofInt_natCast, BitVec.toNat_ofNat, Nat.mod_eq_of_lt (show q < 2 ^ 64 by omega), iwrap_i64]
    have : ((2 ^ 64 - 1 - q : Nat) : Int) = 18446744073709551615 - (q : Int) := by omega
    rw [this]
    split <;> omega
theorem iint_spec (s : List UInt8) (e : Int) : Tri Try.prog 42 [.pbox 0 0] (inM s e) (fun v m => v = .int .i64 (sg (numI (s, e)).1) ∧ m = inM (numI (s, e)).2.1 (numI (s, e)).2.2) := by
  have hb := sg_bits (numI_lt (s, e))
  rw [← Int.zero_sub] at hb
  skip
  refine (Tri.enter (rl := r42) (code := c42) (by kernel_rfl) Try.func42 rfl c42_ok (by kernel_rfl) (by kernel_rfl) ?_)
  refine run_ok 4000 _ _ _ _ ?_
  simp (maxSteps := 10000000) only [go_sem, c42, r42, hb]
  refine sem_call rfl rfl (((inum_spec s e).embed [0] rfl (by repeat' first | exact trivial | rfl | (simp only [go_sem]; done) | constructor) rfl (by first | rfl | simp only [go_sem]) rfl (by simp)).mono ?_)
  rintro _ _ ⟨_, _, ⟨rfl, rfl⟩, rfl, rfl⟩
  refine run_ok 4000 _ _ _ _ ?_
  simp (maxSteps := 10000000) only [go_sem, hb]
theorem otext_spec (s : List UInt8) : Tri Try.prog 38 [.pbox 0 0] (outM s) (fun v m => v = .str s ∧ m = outM s) := by
  skip
  refine (Tri.enter (rl := r38) (code := c38) (by kernel_rfl) Try.func38 rfl c38_ok (by kernel_rfl) (by kernel_rfl) ?_)
  refine run_ok 4000 _ _ _ _ ?_
  simp (maxSteps := 10000000) only [go_sem, c38, r38, bytes_to]
  exact bytes_all s
/-- Four bytes, the lowest first. -/
def word4 (n : Int) : List UInt8 := [UInt8.ofNat (n % 256).toNat, UInt8.ofNat (n / 256 % 256).toNat, UInt8.ofNat (n / 65536 % 256).toNat, UInt8.ofNat (n / 16777216 % 256).toNat]
theorem word_spec (n : Int) (h : 0 ≤ n ∧ n < 4294967296) : Tri Try.prog 53 [.int .u32 n] [] (fun v m => v = .str (word4 n) ∧ m = []) := by
  have h8 : ishr .u32 n 8 = n / 256 := by
    show n.fdiv (2 ^ min (Int.toNat 8) 32) = _
    rw [show (2 : Int) ^ min (Int.toNat 8) 32 = 256 by decide, Int.fdiv_eq_ediv_of_nonneg _ (by omega)]
  have h16 : ishr .u32 n 16 = n / 65536 := by
    show n.fdiv (2 ^ min (Int.toNat 16) 32) = _
    rw [show (2 : Int) ^ min (Int.toNat 16) 32 = 65536 by decide, Int.fdiv_eq_ediv_of_nonneg _ (by omega)]
  have h24 : ishr .u32 n 24 = n / 16777216 := by
    show n.fdiv (2 ^ min (Int.toNat 24) 32) = _
    rw [show (2 : Int) ^ min (Int.toNat 24) 32 = 16777216 by decide, Int.fdiv_eq_ediv_of_nonneg _ (by omega)]
  have hb : ∀ x : Int, UInt8.ofNat (iwrap .u8 x).toNat = UInt8.ofNat (x % 256).toNat := fun x => by rw [iwrap_u8]
  skip
  refine (Tri.enter (rl := r53) (code := c53) (by kernel_rfl) Try.func53 rfl c53_ok (by kernel_rfl) (by kernel_rfl) ?_)
  refine run_ok 4000 _ _ _ _ ?_
  simp (maxSteps := 10000000) only [go_sem, c53, r53, h8, h16, h24]
  refine ⟨fun x hx => ?_, ?_⟩
  · simp only [List.mem_cons, List.not_mem_nil, or_false] at hx
    rcases hx with rfl | rfl | rfl | rfl <;> exact ⟨_, rfl⟩
  · simp [toBytes, word4, hb]
def CRC (s : List UInt8) : Int := inv32 (crcF (inv32 0) s)
theorem crc_u32 (s : List UInt8) : 0 ≤ CRC s ∧ CRC s < 4294967296 := by
  have h : ∀ x, 0 ≤ inv32 x ∧ inv32 x < 4294967296 := fun x => by
    show 0 ≤ iwrap .u32 _ ∧ iwrap .u32 _ < 4294967296
    rw [iwrap_u32]; omega
  exact h _
theorem crc2_spec (v s : List UInt8) (tight : Bool) (hv : v.length ≤ 1000000) (hs : s.length ≤ 1000000) : Tri Try.prog 54 [.vsl 1 [[.str v], [.str s]] tight] [] (fun x m => x = .int .u32 (CRC (v ++ s)) ∧ m = []) := by
  have h := crc_spec [v, s] tight (by simp) (by intro x hx; simp at hx; rcases hx with rfl | rfl <;> assumption)
  have e : crcL (inv32 0) [v, s] = crcF (inv32 0) (v ++ s) := by simp [crcL, crcF]
  rw [e] at h
  exact h
def sealB (s : List UInt8) : List UInt8 := 7 :: (word4 (CRC (7 :: s)) ++ s)
theorem seal_spec (s : List UInt8) (hs : s.length ≤ 1000000) : Tri Try.prog 22 [.str s] [] (fun v m => v = .str (sealB s) ∧ m = []) := by
  have h7 : toBytes [[AV.int .u8 7]] = [7] := rfl
  skip
  refine (Tri.enter (rl := r22) (code := c22) (by kernel_rfl) Try.func22 rfl c22_ok (by kernel_rfl) (by kernel_rfl) ?_)
  refine run_ok 4000 _ _ _ _ ?_
  simp (maxSteps := 10000000) only [go_sem, c22, r22, h7]
  refine ⟨all_one 7, ?_⟩
  refine sem_call rfl rfl (((crc2_spec [7] s true (by simp) hs).embed [] rfl trivial rfl rfl rfl (by simp)).mono ?_)
  rintro _ _ ⟨_, _, ⟨rfl, rfl⟩, rfl, rfl⟩
  refine run_ok 4000 _ _ _ _ ?_
  simp (maxSteps := 10000000) only [go_sem, h7]
  have hc := crc_u32 (7 :: s)
  refine sem_call rfl rfl (((word_spec (CRC (7 :: s)) hc).embed [] rfl trivial rfl rfl rfl (by simp)).mono ?_)
  rintro _ _ ⟨_, _, ⟨rfl, rfl⟩, rfl, rfl⟩
  refine run_ok 4000 _ _ _ _ ?_
  simp (maxSteps := 10000000) only [go_sem, h7]
  have hl : (word4 (CRC (7 :: s))).length = 4 := rfl
  exact ⟨by omega, by omega, rfl⟩
def unsealF (s : List UInt8) : List UInt8 × Int := if s.length < 5 then ([], 1) else if s.getD 0 0 ≠ 7 then ([], 6) else if sealB (s.drop 5) ≠ s then ([], 5) else (s.drop 5, 0)
theorem five {s : List UInt8} (h : 5 ≤ s.length) : ∃ a b c d f r, s = a :: b :: c :: d :: f :: r := by
  match s, h with
  | a :: b :: c :: d :: f :: r, _ => exact ⟨a, b, c, d, f, r, rfl⟩
theorem seqb_iff (x y : List UInt8) : seqb x y = decide (x = y) := by
  simp only [seqb]; by_cases h : x = y <;> simp [h]
theorem unsealF_long (a b c d f : UInt8) (r : List UInt8) : unsealF (a :: b :: c :: d :: f :: r) = if a ≠ 7 then ([], 6) else if [b, c, d, f] ≠ word4 (CRC (7 :: r)) then ([], 5) else (r, 0) := by
  unfold unsealF
  rw [if_neg (by simp)]
  simp only [List.getD_cons_zero, List.drop_succ_cons, List.drop_zero]
  by_cases ha : a = 7
  · subst ha
    simp only [ne_eq, not_true, if_false]
    have : (sealB r = 7 :: b :: c :: d :: f :: r) ↔ ([b, c, d, f] = word4 (CRC (7 :: r))) := by
      simp only [sealB, word4, List.cons_append, List.nil_append, List.cons.injEq, true_and, and_true]
      constructor
      · rintro ⟨h1, h2, h3, h4⟩; exact ⟨h1.symm, h2.symm, h3.symm, h4.symm⟩
      · rintro ⟨h1, h2, h3, h4⟩; exact ⟨h1.symm, h2.symm, h3.symm, h4.symm⟩
    simp only [this]
  · simp only [ne_eq, ha, not_false_eq_true, if_true]
theorem unseal_spec (s : List UInt8) (hs : s.length ≤ 1000000) : Tri Try.prog 20 [.str s] [] (fun v m => v = .tup [.str (unsealF s).1, .int .i64 (unsealF s).2] ∧ m = []) := by
  by_cases h5 : s.length < 5
  · have h5' : (s.length : Int) < 5 := by omega
    have hu : unsealF s = ([], 1) := by unfold unsealF; rw [if_pos h5]
    skip
    refine (Tri.enter (rl := r20) (code := c20) (by kernel_rfl) Try.func20 rfl c20_ok (by kernel_rfl) (by kernel_rfl) ?_)
    refine run_ok 4000 _ _ _ _ ?_
    simp (maxSteps := 10000000) only [go_sem, c20, r20, h5', hu]
  · obtain ⟨a, b, c, d, f, r, rfl⟩ := five (show 5 ≤ s.length by omega)
    have hlen : ((a :: b :: c :: d :: f :: r).length : Int) = r.length + 5 := by simp only [List.length_cons]; omega
    have hsg : sget (a :: b :: c :: d :: f :: r) 0 = (a.toNat : Int) := rfl
    have h15 : ssub (a :: b :: c :: d :: f :: r) 1 5 = [b, c, d, f] := rfl
    have h01 : List.take 1 (a :: b :: c :: d :: f :: r) = [a] := rfl
    have h5r : List.drop 5 (a :: b :: c :: d :: f :: r) = r := rfl
    have hu := unsealF_long a b c d f r
    simp only [List.length_cons] at hs
    generalize hS : a :: b :: c :: d :: f :: r = S at *
    have h5' : ¬ (S.length : Int) < 5 := by omega
    have h0' : (0 : Int) < (S.length : Int) := by omega
    have h1' : (1 : Int) ≤ (S.length : Int) := by omega
    have h5'' : (5 : Int) ≤ (S.length : Int) := by omega
    by_cases ha : a = 7
    · subst ha
      have hne : ((((7 : UInt8).toNat : Nat) : Int) != 7) = false := rfl
      have hc := crc_u32 (7 :: r)
      rw [if_neg (by simp)] at hu
      skip
      refine (Tri.enter (rl := r20) (code := c20) (by kernel_rfl) Try.func20 rfl c20_ok (by kernel_rfl) (by kernel_rfl) ?_)
      refine run_ok 4000 _ _ _ _ ?_
      simp (maxSteps := 10000000) only [go_sem, c20, r20, h5', h0', h1', h5'', hsg, hne, h15, h01, h5r]
      refine sem_drawG l20_0_ok (by kernel_rfl) ?_
      intro KK hKK
      simp (maxSteps := 10000000) only [go_sem, l20_0, h5', h0', h1', h5'', hsg, hne, h15, h01, h5r]
      refine TriZ.of (((crc2_spec [7] r true (by simp) (by omega)).embed [] rfl (by repeat' first | exact trivial | rfl | (simp only [go_sem]; done) | constructor) rfl (by first | rfl | simp only [go_sem]) rfl (by simp)).mono ?_)
      rintro _ _ ⟨_, _, ⟨rfl, rfl⟩, rfl, rfl⟩
      simp (maxSteps := 10000000) only [go_sem, h5', h0', h1', h5'', hsg, hne, h15, h01, h5r]
      have hwd : seqb [b, c, d, f] (word4 (CRC (7 :: r))) = decide ([b, c, d, f] = word4 (CRC (7 :: r))) := seqb_iff _ _
      by_cases hq : [b, c, d, f] = word4 (CRC (7 :: r))
      · rw [if_neg (by simp [hq])] at hu
        have hse : seqb [b, c, d, f] (word4 (CRC (7 :: r))) = true := by rw [hwd]; exact decide_eq_true hq
        skip
        refine TriZ.of (((word_spec (CRC (7 :: r)) hc).embed [] rfl (by repeat' first | exact trivial | rfl | (simp only [go_sem]; done) | constructor) rfl (by first | rfl | simp only [go_sem]) rfl (by simp)).mono ?_)
        rintro _ _ ⟨_, _, ⟨rfl, rfl⟩, rfl, rfl⟩
        simp (maxSteps := 10000000) only [go_sem, h5', h0', h1', h5'', hsg, hne, h15, h01, h5r, hse, hu]
        subst hKK
        simp (maxSteps := 10000000) only [go_sem, h5', h0', h1', h5'', hsg, hne, h15, h01, h5r, hse, hu]
      · rw [if_pos hq] at hu
        have hse : seqb [b, c, d, f] (word4 (CRC (7 :: r))) = false := by rw [hwd]; exact decide_eq_false hq
        skip
        refine TriZ.of (((word_spec (CRC (7 :: r)) hc).embed [] rfl (by repeat' first | exact trivial | rfl | (simp only [go_sem]; done) | constructor) rfl (by first | rfl | simp only [go_sem]) rfl (by simp)).mono ?_)
        rintro _ _ ⟨_, _, ⟨rfl, rfl⟩, rfl, rfl⟩
        simp (maxSteps := 10000000) only [go_sem, h5', h0', h1', h5'', hsg, hne, h15, h01, h5r, hse, hu]
        subst hKK
        simp (maxSteps := 10000000) only [go_sem, h5', h0', h1', h5'', hsg, hne, h15, h01, h5r, hse, hu]
    · have hne : ((a.toNat : Int) != 7) = true := by
        have : a.toNat ≠ 7 := fun h => ha (UInt8.toNat_inj.1 h)
        simp; omega
      rw [if_pos ha] at hu
      skip
      refine (Tri.enter (rl := r20) (code := c20) (by kernel_rfl) Try.func20 rfl c20_ok (by kernel_rfl) (by kernel_rfl) ?_)
      refine run_ok 4000 _ _ _ _ ?_
      simp (maxSteps := 10000000) only [go_sem, c20, r20, h5', h0', hsg, hne, hu]
theorem unseal_seal (s : List UInt8) : unsealF (sealB s) = (s, 0) := by
  obtain ⟨b, c, d, f, hw⟩ : ∃ b c d f, word4 (CRC (7 :: s)) = [b, c, d, f] := ⟨_, _, _, _, rfl⟩
  have : sealB s = 7 :: b :: c :: d :: f :: s := by unfold sealB; rw [hw]; rfl
  rw [this, unsealF_long, hw]
  simp
theorem sealB_len (s : List UInt8) : (sealB s).length = s.length + 5 := by simp [sealB, word4]
theorem awake02_spec : Tri Try.prog 23 [] [] (fun v m => v = .bool true ∧ m = []) := by
  refine Tri.post ?_
  skip
  refine (Tri.enter (rl := r23) (code := c23) (by kernel_rfl) Try.func23 rfl c23_ok (by kernel_rfl) (by kernel_rfl) ?_)
  refine run_ok 4000 _ _ _ _ ?_
  simp (maxSteps := 10000000) only [go_sem, c23, r23, unseal_seal]
  refine sem_call rfl rfl (((seal_spec [97, 98] (by simp)).embed [] rfl trivial rfl rfl rfl (by simp)).mono ?_)
  rintro _ _ ⟨_, _, ⟨rfl, rfl⟩, rfl, rfl⟩
  refine run_ok 4000 _ _ _ _ ?_
  simp (maxSteps := 10000000) only [go_sem, unseal_seal]
  refine sem_call rfl rfl (((unseal_spec (sealB [97, 98]) (by rw [sealB_len]; simp)).embed [] rfl trivial rfl rfl rfl (by simp)).mono ?_)
  rintro _ _ ⟨_, _, ⟨rfl, rfl⟩, rfl, rfl⟩
  refine run_ok 4000 _ _ _ _ ?_
  simp (maxSteps := 10000000) only [go_sem, unseal_seal]
  refine sem_nilbox 0 0 1 rfl rfl ?_
  simp (maxSteps := 10000000) only [go_sem, unseal_seal]
  have n300 : numsB [300] = [172, 2] := by rw [numsB_one, numB_more (by decide), numB_last (by decide)]; rfl
  have hi : numI ([1], 0) = (1, [], 0) := by decide
  have hsg : sg 1 = -1 := by decide
  skip
  refine sem_call rfl rfl (((wNum_spec [300] true [] (by simp) (by simp)).embed [0, 1] rfl (by repeat' first | exact trivial | rfl | (simp only [go_sem]; done) | constructor) rfl (by first | rfl | simp only [go_sem]) rfl (by simp)).mono ?_)
  rintro _ _ ⟨_, _, ⟨rfl, rfl⟩, rfl, rfl⟩
  refine run_ok 4000 _ _ _ _ ?_
  simp (maxSteps := 10000000) only [go_sem, n300, hi, hsg]
  refine sem_call rfl rfl (((otext_spec [172, 2]).embed [0, 2] rfl (by repeat' first | exact trivial | rfl | (simp only [go_sem]; done) | constructor) rfl (by first | rfl | simp only [go_sem]) rfl (by simp)).mono ?_)
  rintro _ _ ⟨_, _, ⟨rfl, rfl⟩, rfl, rfl⟩
  refine run_ok 4000 _ _ _ _ ?_
  simp (maxSteps := 10000000) only [go_sem, n300, hi, hsg]
  refine sem_call rfl rfl (((open_spec []).embed [] rfl (by repeat' first | exact trivial | rfl | (simp only [go_sem]; done) | constructor) rfl (by first | rfl | simp only [go_sem]) rfl (by simp)).mono ?_)
  rintro _ _ ⟨_, _, ⟨rfl, rfl⟩, rfl, rfl⟩
  refine run_ok 4000 _ _ _ _ ?_
  simp (maxSteps := 10000000) only [go_sem, n300, hi, hsg]
  refine sem_call rfl rfl (((open_spec [1]).embed [] rfl (by repeat' first | exact trivial | rfl | (simp only [go_sem]; done) | constructor) rfl (by first | rfl | simp only [go_sem]) rfl (by simp)).mono ?_)
  rintro _ _ ⟨_, _, ⟨rfl, rfl⟩, rfl, rfl⟩
  refine run_ok 4000 _ _ _ _ ?_
  simp (maxSteps := 10000000) only [go_sem, n300, hi, hsg]
  refine sem_call rfl rfl (((iint_spec [1] 0).embed [4] rfl (by repeat' first | exact trivial | rfl | (simp only [go_sem]; done) | constructor) rfl (by first | rfl | simp only [go_sem]) rfl (by simp)).mono ?_)
  rintro _ _ ⟨_, _, ⟨rfl, rfl⟩, rfl, rfl⟩
  refine run_ok 4000 _ _ _ _ ?_
  simp (maxSteps := 10000000) only [go_sem, n300, hi, hsg]
  refine ⟨_, _, .like (Like.bool true) (.sub [] ?_ .done), rfl, rfl⟩
  simp only [EmbV, go_sem]
theorem tk_num : ∀ (s : List UInt8) (k n v : Nat) (r : List UInt8), tk k n s = (v, r, 0) → ∃ m, s = numB m ++ r ∧ v = n + m * 128 ^ k ∧ (0 < k → 0 < m)
  | [], k, n, v, r, h => by simp [tk] at h
  | c :: s, k, n, v, r, h => by
    simp only [tk] at h
    have hC := c.toNat_lt
    split at h
    · simp at h
    · rename_i hb
      split at h
      · rename_i hlt
        simp only [Prod.mk.injEq] at h
        obtain ⟨rfl, rfl, _⟩ := h
        refine ⟨c.toNat, ?_, by rw [Nat.mod_eq_of_lt hlt], fun hk => by omega⟩
        rw [numB_last (by omega)]
        simp
      · rename_i hge
        obtain ⟨m, h1, h2, h3⟩ := tk_num s (k + 1) _ v r h
        have hm := h3 (by omega)
        refine ⟨c.toNat % 128 + 128 * m, ?_, ?_, fun _ => by omega⟩
        · rw [numB_more (by omega), show (c.toNat % 128 + 128 * m) % 128 = c.toNat % 128 by omega, show (c.toNat % 128 + 128 * m) / 128 = m by omega, show 128 + c.toNat % 128 = c.toNat by omega]
          simp [h1]
        · rw [h2, Nat.pow_succ, Nat.add_mul, Nat.add_assoc]
          congr 2
          rw [Nat.mul_comm 128 m, Nat.mul_assoc, Nat.mul_comm 128]
theorem tk_err : ∀ (s : List UInt8) (k n : Nat), (tk k n s).2.2 ≠ 0 → (tk k n s).1 = 0
  | [], k, n, h => rfl
  | c :: s, k, n, h => by
    simp only [tk] at h ⊢
    split
    · rfl
    · rename_i hb
      rw [if_neg hb] at h
      split
      · rename_i hlt; rw [if_pos hlt] at h; simp at h
      · rename_i hge; rw [if_neg hge] at h; exact tk_err s _ _ h
theorem wireOne_spec (s : List UInt8) (hs : s.length ≤ 140737488351232) : Tri Try.prog 7 [.str s] [] (fun v m => v = .bool true) := by
  refine (Tri.asB (Tri.enter (rl := r7) (code := c7) (by kernel_rfl) Try.func7 rfl c7_ok (by kernel_rfl) (by kernel_rfl) ?_))
  refine run_ok 4000 _ _ _ _ ?_
  simp (maxSteps := 10000000) only [go_sem, c7, r7]
  refine sem_call rfl rfl (((cut_spec s 12 (by decide)).embed [] rfl trivial rfl rfl rfl (by simp)).mono ?_)
  rintro _ _ ⟨_, _, ⟨rfl, rfl⟩, rfl, rfl⟩
  refine run_ok 4000 _ _ _ _ ?_
  simp (maxSteps := 10000000) only [go_sem]
  have hl : (List.take 12 s).length ≤ 12 := by simp; omega
  generalize hT : List.take 12 s = T at *
  have hnum : numI (T, 0) = tk 0 0 T := by simp [numI]
  have hlt := numI_lt (T, 0)
  have herr := tk_err T 0 0
  have hok := tk_num T 0 0
  rw [hnum] at hlt
  generalize tk 0 0 T = R at *
  obtain ⟨n, r, e⟩ := R
  simp only at herr hlt
  by_cases he : e = 0
  · subst he
    obtain ⟨m, h1, h2, _⟩ := hok n r rfl
    have hmn : m = n := by rw [h2]; simp
    subst hmn
    have hlen := congrArg List.length h1
    rw [List.length_append] at hlen
    have f1 : ((numB m).length : Int) ≤ (T.length : Int) := by omega
    have f2 : List.take (numB m).length T = numB m := by rw [h1]; simp
    have f3 : iwrap .i64 ((T.length : Int) - ((numB m).length : Int)) = (r.length : Int) := by rw [iwrap_i64_in (by omega)]; omega
    skip
    refine sem_call rfl rfl (((open_spec T).embed [] rfl (by repeat' first | exact trivial | rfl | (simp only [go_sem]; done) | constructor) rfl (by first | rfl | simp only [go_sem]) rfl (by simp)).mono ?_)
    rintro _ _ ⟨_, _, ⟨rfl, rfl⟩, rfl, rfl⟩
    refine run_ok 4000 _ _ _ _ ?_
    simp (maxSteps := 10000000) only [go_sem, hnum, f1, f2, f3, Int.natCast_nonneg]
    refine sem_call rfl rfl (((awake02_spec).embed [] rfl trivial rfl rfl rfl (by simp)).mono ?_)
    rintro _ _ ⟨_, _, ⟨rfl, rfl⟩, rfl, rfl⟩
    refine run_ok 4000 _ _ _ _ ?_
    simp (maxSteps := 10000000) only [go_sem, hnum, f1, f2, f3, Int.natCast_nonneg]
    refine sem_call rfl rfl (((inum_spec T 0).embed [0] rfl (by repeat' first | exact trivial | rfl | (simp only [go_sem]; done) | constructor) rfl (by first | rfl | simp only [go_sem]) rfl (by simp)).mono ?_)
    rintro _ _ ⟨_, _, ⟨rfl, rfl⟩, rfl, rfl⟩
    refine run_ok 4000 _ _ _ _ ?_
    simp (maxSteps := 10000000) only [go_sem, hnum, f1, f2, f3, Int.natCast_nonneg]
    refine sem_call rfl rfl (((err_spec r 0).embed [0] rfl (by repeat' first | exact trivial | rfl | (simp only [go_sem]; done) | constructor) rfl (by first | rfl | simp only [go_sem]) rfl (by simp)).mono ?_)
    rintro _ _ ⟨_, _, ⟨rfl, rfl⟩, rfl, rfl⟩
    refine run_ok 4000 _ _ _ _ ?_
    simp (maxSteps := 10000000) only [go_sem, hnum, f1, f2, f3, Int.natCast_nonneg]
    refine sem_call rfl rfl (((rNum_spec m hlt).embed [] rfl trivial rfl rfl rfl (by simp)).mono ?_)
    rintro _ _ ⟨_, _, ⟨rfl, rfl⟩, rfl, rfl⟩
    refine run_ok 4000 _ _ _ _ ?_
    simp (maxSteps := 10000000) only [go_sem, hnum, f1, f2, f3, Int.natCast_nonneg]
    refine sem_call rfl rfl (((ilen_spec r 0).embed [0] rfl (by repeat' first | exact trivial | rfl | (simp only [go_sem]; done) | constructor) rfl (by first | rfl | simp only [go_sem]) rfl (by simp)).mono ?_)
    rintro _ _ ⟨_, _, ⟨rfl, rfl⟩, rfl, rfl⟩
    refine run_ok 4000 _ _ _ _ ?_
    simp (maxSteps := 10000000) only [go_sem, hnum, f1, f2, f3, Int.natCast_nonneg]
  · have hn : n = 0 := herr he
    subst hn
    have he' : (e != 0) = true := by simp [he]
    skip
    refine sem_call rfl rfl (((open_spec T).embed [] rfl (by repeat' first | exact trivial | rfl | (simp only [go_sem]; done) | constructor) rfl (by first | rfl | simp only [go_sem]) rfl (by simp)).mono ?_)
    rintro _ _ ⟨_, _, ⟨rfl, rfl⟩, rfl, rfl⟩
    refine run_ok 4000 _ _ _ _ ?_
    simp (maxSteps := 10000000) only [go_sem, hnum, he']
    refine sem_call rfl rfl (((awake02_spec).embed [] rfl trivial rfl rfl rfl (by simp)).mono ?_)
    rintro _ _ ⟨_, _, ⟨rfl, rfl⟩, rfl, rfl⟩
    refine run_ok 4000 _ _ _ _ ?_
    simp (maxSteps := 10000000) only [go_sem, hnum, he']
    refine sem_call rfl rfl (((inum_spec T 0).embed [0] rfl (by repeat' first | exact trivial | rfl | (simp only [go_sem]; done) | constructor) rfl (by first | rfl | simp only [go_sem]) rfl (by simp)).mono ?_)
    rintro _ _ ⟨_, _, ⟨rfl, rfl⟩, rfl, rfl⟩
    refine run_ok 4000 _ _ _ _ ?_
    simp (maxSteps := 10000000) only [go_sem, hnum, he']
    refine sem_call rfl rfl (((err_spec r e).embed [0] rfl (by repeat' first | exact trivial | rfl | (simp only [go_sem]; done) | constructor) rfl (by first | rfl | simp only [go_sem]) rfl (by simp)).mono ?_)
    rintro _ _ ⟨_, _, ⟨rfl, rfl⟩, rfl, rfl⟩
    refine run_ok 4000 _ _ _ _ ?_
    simp (maxSteps := 10000000) only [go_sem, hnum, he']
end Go.AEX
