/- Wire: things that are put; texts that are taken. -/
import Derived.Test.YtgmhndlebndlcaaWireS
namespace Go.AEX
open Go Go.AE Go.Proofs
set_option maxRecDepth 100000
set_option linter.unusedVariables false
set_option linter.unusedSimpArgs false

def zg (k : Int) : Nat := if 0 ≤ k then (2 * k).toNat else (-2 * k - 1).toNat
def I64 (k : Int) : Prop := -9223372036854775808 ≤ k ∧ k ≤ 9223372036854775807
theorem zg_lt {k : Int} (h : I64 k) : zg k < 18446744073709551616 := by unfold zg I64 at *; split <;> omega
theorem sg_zg {k : Int} (h : I64 k) : sg (zg k) = k := by
  unfold sg zg I64 at *
  split <;> split <;> omega
theorem zg_bits {k : Int} (h : I64 k) : ibits .xor .u64 (ishl .u64 (iwrap .u64 k) 1) (iwrap .u64 (ishr .i64 k 63)) = (zg k : Int) := by
  have e0 : ishr .i64 k 63 = k / 9223372036854775808 := by
    show k.fdiv (2 ^ min (Int.toNat 63) 64) = _
    rw [show (2 : Int) ^ min (Int.toNat 63) 64 = 9223372036854775808 by decide, Int.fdiv_eq_ediv_of_nonneg _ (by omega)]
  have e1 : ∀ x : Int, ishl .u64 x 1 = (x * 2) % 18446744073709551616 := fun x => by
    show iwrap .u64 (x * 2 ^ min (Int.toNat 1) 64) = _
    rw [show (2 : Int) ^ min (Int.toNat 1) 64 = 2 by decide, iwrap_u64]
  unfold I64 at h
  rw [e0, e1, iwrap_u64, iwrap_u64]
  unfold zg
  by_cases hk : 0 ≤ k
  · rw [if_pos hk]
    obtain ⟨n, rfl⟩ : ∃ n : Nat, k = (n : Int) := ⟨k.toNat, by omega⟩
    rw [show ((n : Int) % 18446744073709551616 * 2 % 18446744073709551616) = ((2 * n : Nat) : Int) by omega, show ((n : Int) / 9223372036854775808 % 18446744073709551616) = ((0 : Nat) : Int) by omega]
    show iwrap .u64 ((BitVec.ofInt 64 ((2 * n : Nat) : Int) ^^^ BitVec.ofInt 64 ((0 : Nat) : Int)).toNat : Int) = _
    rw [BitVec.ofInt_natCast, BitVec.ofInt_natCast, BitVec.toNat_xor, BitVec.toNat_ofNat, BitVec.toNat_ofNat, Nat.mod_eq_of_lt (show 2 * n < 2 ^ 64 by omega), iwrap_u64]
    simp
    omega
  · rw [if_neg hk]
    obtain ⟨n, hn⟩ : ∃ n : Nat, -2 * k - 1 = (n : Int) := ⟨(-2 * k - 1).toNat, by omega⟩
    rw [show (k % 18446744073709551616 * 2 % 18446744073709551616) = ((18446744073709551615 - n : Nat) : Int) by omega, show (k / 9223372036854775808 % 18446744073709551616) = ((18446744073709551615 : Nat) : Int) by omega]
    show iwrap .u64 ((BitVec.ofInt 64 ((18446744073709551615 - n : Nat) : Int) ^^^ BitVec.ofInt 64 ((18446744073709551615 : Nat) : Int)).toNat : Int) = _
    rw [show BitVec.ofInt 64 ((18446744073709551615 : Nat) : Int) = BitVec.allOnes 64 by decide, BitVec.xor_allOnes, BitVec.toNat_not, BitVec.ofInt_natCast, BitVec.toNat_ofNat, Nat.mod_eq_of_lt (show 18446744073709551615 - n < 2 ^ 64 by omega), iwrap_u64, hn]
    omega
theorem tk_put : ∀ (m k n : Nat) (r : List UInt8), k ≤ 9 → (0 < k → 0 < m) → m * 128 ^ k < 18446744073709551616 → tk k n (numB m ++ r) = (n + m * 128 ^ k, r, 0)
  | m, k, n, r, hk, hm, hb => by
    by_cases h : 127 < m
    · have hk9 : k ≠ 9 := by
        rintro rfl
        have : 128 * 128 ^ 9 ≤ m * 128 ^ 9 := Nat.mul_le_mul_right _ h
        have e : (128 : Nat) * 128 ^ 9 = 1180591620717411303424 := by decide
        rw [e] at this
        exact absurd (Nat.lt_of_le_of_lt this hb) (by decide)
      have hc : (UInt8.ofNat (128 + m % 128)).toNat = 128 + m % 128 := by rw [UInt8.toNat_ofNat']; omega
      rw [numB_more h, List.cons_append, tk, hc, if_neg (by omega), if_neg (by omega), tk_put (m / 128) (k + 1) _ r (by omega) (fun _ => by omega) (by
        rw [Nat.pow_succ]
        have : m / 128 * (128 ^ k * 128) = m / 128 * 128 * 128 ^ k := by rw [Nat.mul_comm (128 ^ k), ← Nat.mul_assoc]
        rw [this]
        exact Nat.lt_of_le_of_lt (Nat.mul_le_mul_right _ (Nat.div_mul_le_self m 128)) hb)]
      congr 1
      rw [Nat.pow_succ, Nat.mul_comm (128 ^ k), ← Nat.mul_assoc, Nat.add_assoc, ← Nat.add_mul]
      congr 2
      omega
    · have hc : (UInt8.ofNat m).toNat = m := by rw [UInt8.toNat_ofNat']; omega
      rw [numB_last (by omega), List.cons_append, List.nil_append, tk, hc]
      have h9 : ¬ (k = 9 ∧ 1 < m) := by
        rintro ⟨rfl, h1⟩
        have : 2 * 128 ^ 9 ≤ m * 128 ^ 9 := Nat.mul_le_mul_right _ h1
        have e : (2 : Nat) * 128 ^ 9 = 18446744073709551616 := by decide
        rw [e] at this
        exact absurd (Nat.lt_of_le_of_lt this hb) (by decide)
      rw [if_neg (by omega), if_pos (by omega), Nat.mod_eq_of_lt (by omega)]
termination_by m => m
theorem numI_put (m : Nat) (r : List UInt8) (h : m < 18446744073709551616) : numI (numB m ++ r, 0) = (m, r, 0) := by
  have := tk_put m 0 0 r (by omega) (by omega) (by simpa using h)
  simpa [numI] using this
theorem oint_spec (l : List Int) (tight : Bool) (s : List UInt8) (hl : ∀ n ∈ l, I64 n) (hs : s.length + 10 * l.length ≤ 1000000) :
    Tri Try.prog 34 [.pbox 0 0, .vsl 1 (iv .i64 l) tight] (outM s) (fun v m => v = .pbox 0 0 ∧ m = outM2 (s ++ numsB (l.map zg))) := by
  unfold outM outM2
  refine Tri.post ?_
  refine (Tri.enter (rl := r34) (code := c34) (by kernel_rfl) Try.func34 rfl c34_ok (by kernel_rfl) (by kernel_rfl) ?_)
  refine run_ok 4000 _ _ _ _ ?_
  simp (maxSteps := 10000000) only [go_sem, c34, r34]
  refine sem_move 1 rfl ?_
  simp (maxSteps := 10000000) only [go_sem]
  refine sem_rounds (fun i : Nat => i ≤ l.length) (fun i => [(0, .pbox 0 0), (7, .vsl 1 (iv .i64 l) tight), (8, .int .i64 l.length), (9, .int .i64 (i : Nat))])
    (fun i => [.box [.sl 2 0 (s ++ numsB ((l.take i).map zg)).length (s ++ numsB ((l.take i).map zg)).length false], .gone, .row 1 (AE.bytes (s ++ numsB ((l.take i).map zg)))]) (fun i => l.length - i) 0 [0, 1, 2] (Nat.zero_le _) ?_ ?_
  · simp only [Emb, go_sem, iv_len]; simp [numsB]
  intro i hi
  refine run_ok 4000 _ _ _ _ ?_
  simp (maxSteps := 10000000) only [go_sem]
  refine ⟨fun hlt => ?_, fun hge => ?_⟩
  · have hlt : i < l.length := by omega
    have hin : (i : Int) < (l.length : Int) := by omega
    have h64 := hl _ (List.getElem_mem hlt)
    have hz := zg_bits h64
    have hlen : (numsB ((l.take i).map zg)).length ≤ 10 * i := by
      have := numsB_len ((l.take i).map zg) (by intro n hn; obtain ⟨k, hk, rfl⟩ := List.mem_map.1 hn; exact zg_lt (hl k (List.mem_of_mem_take hk)))
      rw [List.length_map, List.length_take] at this; omega
    have hnext : (s ++ numsB ((l.take i).map zg)) ++ numsB [zg l[i]] = s ++ numsB ((l.take (i + 1)).map zg) := by
      rw [List.take_succ_eq_append_getElem hlt, List.map_append, List.append_assoc]
      simp [numsB]
    have hcall := wNum_spec [zg l[i]] true (s ++ numsB ((l.take i).map zg)) (by intro n hn; simp at hn; rw [hn]; exact zg_lt h64) (by rw [List.length_append]; simp only [List.length_cons, List.length_nil]; omega)
    rw [hnext] at hcall
    skip
    simp (maxSteps := 10000000) only [go_sem, iv_len, iv_rint hlt, iv_hasI hlt, hin, hz, Int.natCast_nonneg, inc64 (show i < 1000000000000 by omega)]
    refine sem_call rfl rfl (((hcall).embed [0, 2] rfl (by repeat' first | exact trivial | rfl | (simp only [go_sem]; done) | constructor) rfl (by first | rfl | simp only [go_sem]) rfl (by simp)).mono ?_)
    rintro _ _ ⟨_, _, ⟨rfl, rfl⟩, rfl, rfl⟩
    refine run_ok 4000 _ _ _ _ ?_
    simp (maxSteps := 10000000) only [go_sem, iv_len, iv_rint hlt, iv_hasI hlt, hin, hz, Int.natCast_nonneg, inc64 (show i < 1000000000000 by omega)]
    refine ⟨i + 1, by omega, hlt, [0, 1, 3], ?_⟩
    simp only [Emb, go_sem]
  · have ht : l.take i = l := List.take_of_length_le (by omega)
    skip
    refine run_ok 4000 _ _ _ _ ?_
    simp (maxSteps := 10000000) only [go_sem, ht]
    refine ⟨_, _, .sub [0, 1, 2] ?_ .done, rfl, rfl⟩
    simp only [EmbV, go_sem, ht]
def posN (n : Int) : Nat := (max n 0).toNat
theorem posN_cvt {n : Int} (h : I64 n) : iwrap .u64 (if 0 > n then 0 else n) = (posN n : Int) := by unfold posN I64 at *; rw [iwrap_u64]; split <;> omega
theorem posN_lt {n : Int} (h : I64 n) : posN n < 18446744073709551616 := by unfold posN I64 at *; omega
theorem ocount_spec (l : List Int) (tight : Bool) (s : List UInt8) (hl : ∀ n ∈ l, I64 n) (hs : s.length + 10 * l.length ≤ 1000000) :
    Tri Try.prog 35 [.pbox 0 0, .vsl 1 (iv .i64 l) tight] (outM s) (fun v m => v = .pbox 0 0 ∧ m = outM2 (s ++ numsB (l.map posN))) := by
  unfold outM outM2
  refine Tri.post ?_
  refine (Tri.enter (rl := r35) (code := c35) (by kernel_rfl) Try.func35 rfl c35_ok (by kernel_rfl) (by kernel_rfl) ?_)
  refine run_ok 4000 _ _ _ _ ?_
  simp (maxSteps := 10000000) only [go_sem, c35, r35]
  refine sem_move 1 rfl ?_
  simp (maxSteps := 10000000) only [go_sem]
  refine sem_rounds (fun i : Nat => i ≤ l.length) (fun i => [(0, .pbox 0 0), (7, .vsl 1 (iv .i64 l) tight), (8, .int .i64 l.length), (9, .int .i64 (i : Nat))])
    (fun i => [.box [.sl 2 0 (s ++ numsB ((l.take i).map posN)).length (s ++ numsB ((l.take i).map posN)).length false], .gone, .row 1 (AE.bytes (s ++ numsB ((l.take i).map posN)))]) (fun i => l.length - i) 0 [0, 1, 2] (Nat.zero_le _) ?_ ?_
  · simp only [Emb, go_sem, iv_len]; simp [numsB]
  intro i hi
  refine run_ok 4000 _ _ _ _ ?_
  simp (maxSteps := 10000000) only [go_sem]
  refine ⟨fun hlt => ?_, fun hge => ?_⟩
  · have hlt : i < l.length := by omega
    have hin : (i : Int) < (l.length : Int) := by omega
    have h64 := hl _ (List.getElem_mem hlt)
    have hz := posN_cvt h64
    have hlen : (numsB ((l.take i).map posN)).length ≤ 10 * i := by
      have := numsB_len ((l.take i).map posN) (by intro n hn; obtain ⟨k, hk, rfl⟩ := List.mem_map.1 hn; exact posN_lt (hl k (List.mem_of_mem_take hk)))
      rw [List.length_map, List.length_take] at this; omega
    have hnext : (s ++ numsB ((l.take i).map posN)) ++ numsB [posN l[i]] = s ++ numsB ((l.take (i + 1)).map posN) := by
      rw [List.take_succ_eq_append_getElem hlt, List.map_append, List.append_assoc]
      simp [numsB]
    have hcall := wNum_spec [posN l[i]] true (s ++ numsB ((l.take i).map posN)) (by intro n hn; simp at hn; rw [hn]; exact posN_lt h64) (by rw [List.length_append]; simp only [List.length_cons, List.length_nil]; omega)
    rw [hnext] at hcall
    skip
    simp (maxSteps := 10000000) only [go_sem, iv_len, iv_rint hlt, iv_hasI hlt, hin, hz, Int.natCast_nonneg, inc64 (show i < 1000000000000 by omega)]
    refine sem_call rfl rfl (((hcall).embed [0, 2] rfl (by repeat' first | exact trivial | rfl | (simp only [go_sem]; done) | constructor) rfl (by first | rfl | simp only [go_sem]) rfl (by simp)).mono ?_)
    rintro _ _ ⟨_, _, ⟨rfl, rfl⟩, rfl, rfl⟩
    refine run_ok 4000 _ _ _ _ ?_
    simp (maxSteps := 10000000) only [go_sem, iv_len, iv_rint hlt, iv_hasI hlt, hin, hz, Int.natCast_nonneg, inc64 (show i < 1000000000000 by omega)]
    refine ⟨i + 1, by omega, hlt, [0, 1, 3], ?_⟩
    simp only [Emb, go_sem]
  · have ht : l.take i = l := List.take_of_length_le (by omega)
    skip
    refine run_ok 4000 _ _ _ _ ?_
    simp (maxSteps := 10000000) only [go_sem, ht]
    refine ⟨_, _, .sub [0, 1, 2] ?_ .done, rfl, rfl⟩
    simp only [EmbV, go_sem, ht]
theorem oraw_spec (s t : List UInt8) (hs : s.length + t.length ≤ 1000000) :
    Tri Try.prog 37 [.pbox 0 0, .str t] (outM s) (fun v m => v = .pbox 0 0 ∧ m = outM2 (s ++ t)) := by
  unfold outM outM2
  refine Tri.post ?_
  refine (Tri.enter (rl := r37) (code := c37) (by kernel_rfl) Try.func37 rfl c37_ok (by kernel_rfl) (by kernel_rfl) ?_)
  refine run_ok 4000 _ _ _ _ ?_
  simp (maxSteps := 10000000) only [go_sem, c37, r37]
  refine ⟨by unfold small; omega, _, _, .sub [0, 1, 2] ?_ .done, rfl, rfl⟩
  simp only [EmbV, go_sem, List.length_append]
def strB (s : List UInt8) : List UInt8 := numB s.length ++ s
def strsB (l : List (List UInt8)) : List UInt8 := (l.map strB).flatten
theorem strsB_take {l : List (List UInt8)} {i : Nat} (h : i < l.length) : strsB (l.take (i + 1)) = strsB (l.take i) ++ strB l[i] := by
  unfold strsB; rw [List.take_succ_eq_append_getElem h, List.map_append, List.flatten_append]; simp
theorem strsB_len (l : List (List UInt8)) (i : Nat) : (strsB (l.take i)).length ≤ (strsB l).length := by
  have : strsB l = strsB (l.take i) ++ strsB (l.drop i) := by
    unfold strsB; rw [← List.flatten_append, ← List.map_append, List.take_append_drop]
  rw [this, List.length_append]; omega
theorem ostr_spec (l : List (List UInt8)) (tight : Bool) (s : List UInt8) (hl : l.length ≤ 100000) (hs : s.length + (strsB l).length ≤ 900000) :
    Tri Try.prog 36 [.pbox 0 0, .vsl 1 (sv l) tight] (outM s) (fun v m => v = .pbox 0 0 ∧ m = outM2 (s ++ strsB l)) := by
  unfold outM outM2
  refine Tri.post ?_
  refine (Tri.enter (rl := r36) (code := c36) (by kernel_rfl) Try.func36 rfl c36_ok (by kernel_rfl) (by kernel_rfl) ?_)
  refine run_ok 4000 _ _ _ _ ?_
  simp (maxSteps := 10000000) only [go_sem, c36, r36]
  refine sem_move 1 rfl ?_
  simp (maxSteps := 10000000) only [go_sem]
  refine sem_rounds (fun i : Nat => i ≤ l.length) (fun i => [(0, .pbox 0 0), (7, .vsl 1 (sv l) tight), (8, .int .i64 l.length), (9, .int .i64 (i : Nat))])
    (fun i => [.box [.sl 2 0 (s ++ strsB (l.take i)).length (s ++ strsB (l.take i)).length false], .gone, .row 1 (AE.bytes (s ++ strsB (l.take i)))]) (fun i => l.length - i) 0 [0, 1, 2] (Nat.zero_le _) ?_ ?_
  · simp only [Emb, go_sem]; simp [strsB]
  intro i hi
  refine run_ok 4000 _ _ _ _ ?_
  simp (maxSteps := 10000000) only [go_sem]
  refine ⟨fun hlt => ?_, fun hge => ?_⟩
  · have hlt : i < l.length := by omega
    have hin : (i : Int) < (l.length : Int) := by omega
    have hnx := strsB_take hlt
    have hb1 := strsB_len l i
    have hb2 := strsB_len l (i + 1)
    rw [hnx, List.length_append] at hb2
    have hb3 : (strB l[i]).length = (numB l[i].length).length + l[i].length := by simp [strB]
    have hpos : posN (l[i].length : Int) = l[i].length := by unfold posN; omega
    have hcall := ocount_spec [(l[i].length : Int)] true (s ++ strsB (l.take i)) (by intro n hn; simp at hn; rw [hn]; unfold I64; omega) (by rw [List.length_append]; simp only [List.length_cons, List.length_nil]; omega)
    have e1 : s ++ strsB (l.take i) ++ numsB (List.map posN [(l[i].length : Int)]) = s ++ strsB (l.take i) ++ numB l[i].length := by simp [numsB, hpos]
    have e2 : s ++ strsB (l.take i) ++ numB l[i].length ++ l[i] = s ++ strsB (l.take (i + 1)) := by rw [hnx]; simp [strB]
    have hle : (s ++ strsB (l.take i) ++ numB l[i].length).length + l[i].length ≤ 900000 := by rw [List.length_append, List.length_append]; omega
    rw [e1] at hcall
    have e3 := congrArg List.length e2
    rw [List.length_append] at e3
    generalize s ++ strsB (l.take i) ++ numB l[i].length = S at *
    skip
    simp (maxSteps := 10000000) only [go_sem, svl_hasS hlt, svl_rstr hlt, hin, Int.natCast_nonneg, inc64 (show i < 1000000000000 by omega), e2]
    refine sem_call rfl rfl (((hcall).embed [0, 2] rfl (by repeat' first | exact trivial | rfl | (simp only [go_sem]; done) | constructor) rfl (by first | rfl | simp only [go_sem]) rfl (by simp)).mono ?_)
    rintro _ _ ⟨_, _, ⟨rfl, rfl⟩, rfl, rfl⟩
    refine run_ok 4000 _ _ _ _ ?_
    simp (maxSteps := 10000000) only [go_sem, svl_hasS hlt, svl_rstr hlt, hin, Int.natCast_nonneg, inc64 (show i < 1000000000000 by omega), e2]
    refine ⟨by unfold small; omega, i + 1, by omega, hlt, [0, 1, 4], ?_⟩
    simp only [Emb, go_sem, e3]
  · have ht : l.take i = l := List.take_of_length_le (by omega)
    skip
    refine run_ok 4000 _ _ _ _ ?_
    simp (maxSteps := 10000000) only [go_sem, ht]
    refine ⟨_, _, .sub [0, 1, 2] ?_ .done, rfl, rfl⟩
    simp only [EmbV, go_sem, ht]
/-! texts that are taken -/
def countF (x : List UInt8 × Int) (most : Int) : (List UInt8 × Int) × Int :=
  if ((numI x).1 : Int) > (posN most : Int) then (failF (numI x).2 3, 0) else ((numI x).2, ((numI x).1 : Int))
theorem icount_spec (s : List UInt8) (e most : Int) (hm : I64 most) : Tri Try.prog 59 [.pbox 0 0, .int .i64 most] (inM s e)
    (fun v m => v = .int .i64 (countF (s, e) most).2 ∧ m = inM (countF (s, e) most).1.1 (countF (s, e) most).1.2) := by
  have hz := posN_cvt hm
  skip
  refine (Tri.enter (rl := r59) (code := c59) (by kernel_rfl) Try.func59 rfl c59_ok (by kernel_rfl) (by kernel_rfl) ?_)
  refine run_ok 4000 _ _ _ _ ?_
  simp (maxSteps := 10000000) only [go_sem, c59, r59, hz]
  refine sem_call rfl rfl (((inum_spec s e).embed [0] rfl (by repeat' first | exact trivial | rfl | (simp only [go_sem]; done) | constructor) rfl (by first | rfl | simp only [go_sem]) rfl (by simp)).mono ?_)
  rintro _ _ ⟨_, _, ⟨rfl, rfl⟩, rfl, rfl⟩
  refine run_ok 4000 _ _ _ _ ?_
  simp (maxSteps := 10000000) only [go_sem, hz]
  refine ⟨fun h => ?_, fun h => ?_⟩
  · have hc : countF (s, e) most = (failF (numI (s, e)).2 3, 0) := by unfold countF; rw [if_pos h]
    refine sem_call rfl rfl (((fail_spec (numI (s, e)).2.1 (numI (s, e)).2.2 3).embed [0] rfl (by repeat' first | exact trivial | rfl | (simp only [go_sem]; done) | constructor) rfl (by first | rfl | simp only [go_sem]) rfl (by simp)).mono ?_)
    rintro _ _ ⟨_, _, ⟨rfl, rfl⟩, rfl, rfl⟩
    refine run_ok 4000 _ _ _ _ ?_
    simp (maxSteps := 10000000) only [go_sem, hz]
    rw [hc]
    exact ⟨rfl, rfl⟩
  · have hc : countF (s, e) most = ((numI (s, e)).2, ((numI (s, e)).1 : Int)) := by unfold countF; rw [if_neg h]
    have hp : (posN most : Int) ≤ 9223372036854775807 := by unfold posN I64 at *; omega
    rw [hc, iwrap_i64_in (by omega)]
    exact ⟨rfl, rfl⟩
def strF (x : List UInt8 × Int) (most : Int) : (List UInt8 × Int) × List UInt8 := rawF (countF x most).1 (countF x most).2
theorem istr_spec (s : List UInt8) (e most : Int) (hm : I64 most) : Tri Try.prog 43 [.pbox 0 0, .int .i64 most] (inM s e)
    (fun v m => v = .str (strF (s, e) most).2 ∧ m = inM (strF (s, e) most).1.1 (strF (s, e) most).1.2) := by
  refine (Tri.enter (rl := r43) (code := c43) (by kernel_rfl) Try.func43 rfl c43_ok (by kernel_rfl) (by kernel_rfl) ?_)
  refine run_ok 4000 _ _ _ _ ?_
  simp (maxSteps := 10000000) only [go_sem, c43, r43]
  refine sem_call rfl rfl (((icount_spec s e most hm).embed [0] rfl (by repeat' first | exact trivial | rfl | (simp only [go_sem]; done) | constructor) rfl (by first | rfl | simp only [go_sem]) rfl (by simp)).mono ?_)
  rintro _ _ ⟨_, _, ⟨rfl, rfl⟩, rfl, rfl⟩
  refine run_ok 4000 _ _ _ _ ?_
  simp (maxSteps := 10000000) only [go_sem]
  refine sem_call rfl rfl (((raw_spec (countF (s, e) most).1.1 (countF (s, e) most).1.2 (countF (s, e) most).2).embed [0] rfl (by repeat' first | exact trivial | rfl | (simp only [go_sem]; done) | constructor) rfl (by first | rfl | simp only [go_sem]) rfl (by simp)).mono ?_)
  rintro _ _ ⟨_, _, ⟨rfl, rfl⟩, rfl, rfl⟩
  refine run_ok 4000 _ _ _ _ ?_
  simp (maxSteps := 10000000) only [go_sem]
  exact ⟨rfl, rfl⟩
def endF (x : List UInt8 × Int) : List UInt8 × Int := if x.1 ≠ [] then failF x 2 else x
theorem iend_spec (s : List UInt8) (e : Int) : Tri Try.prog 31 [.pbox 0 0] (inM s e) (fun v m => v = .int .i64 (endF (s, e)).2 ∧ m = inM (endF (s, e)).1 (endF (s, e)).2) := by
  have hq := seqb_iff s []
  by_cases hs : s = []
  · have h1 : seqb s [] = true := by rw [hq]; exact decide_eq_true hs
    have h2 : endF (s, e) = (s, e) := by simp [endF, hs]
    skip
    refine (Tri.enter (rl := r31) (code := c31) (by kernel_rfl) Try.func31 rfl c31_ok (by kernel_rfl) (by kernel_rfl) ?_)
    refine run_ok 4000 _ _ _ _ ?_
    simp (maxSteps := 10000000) only [go_sem, c31, r31, h1, h2]
  · have h1 : seqb s [] = false := by rw [hq]; exact decide_eq_false hs
    have h2 : endF (s, e) = failF (s, e) 2 := by simp [endF, hs]
    skip
    refine (Tri.enter (rl := r31) (code := c31) (by kernel_rfl) Try.func31 rfl c31_ok (by kernel_rfl) (by kernel_rfl) ?_)
    refine run_ok 4000 _ _ _ _ ?_
    simp (maxSteps := 10000000) only [go_sem, c31, r31, h1, h2]
    refine sem_call rfl rfl (((fail_spec s e 2).embed [0] rfl (by repeat' first | exact trivial | rfl | (simp only [go_sem]; done) | constructor) rfl (by first | rfl | simp only [go_sem]) rfl (by simp)).mono ?_)
    rintro _ _ ⟨_, _, ⟨rfl, rfl⟩, rfl, rfl⟩
    refine run_ok 4000 _ _ _ _ ?_
    simp (maxSteps := 10000000) only [go_sem, h1, h2]
theorem rint_spec (k : Int) (h : I64 k) : Tri Try.prog 39 [.int .i64 k] [] (fun v m => v = .str (numB (zg k)) ∧ m = []) := by
  unfold I64 at h
  by_cases hk : 0 ≤ k
  · have e1 : iwrap .u64 (2 * iwrap .u64 k) = (zg k : Int) := by unfold zg; rw [if_pos hk, iwrap_u64, iwrap_u64]; omega
    have hk' : k ≥ 0 := hk
    skip
    refine (Tri.enter (rl := r39) (code := c39) (by kernel_rfl) Try.func39 rfl c39_ok (by kernel_rfl) (by kernel_rfl) ?_)
    refine run_ok 4000 _ _ _ _ ?_
    simp (maxSteps := 10000000) only [go_sem, c39, r39, e1, hk']
    refine sem_call rfl rfl (((rNum_spec (zg k) (zg_lt h)).embed [] rfl trivial rfl rfl rfl (by simp)).mono ?_)
    rintro _ _ ⟨_, _, ⟨rfl, rfl⟩, rfl, rfl⟩
    refine run_ok 4000 _ _ _ _ ?_
    simp (maxSteps := 10000000) only [go_sem, e1, hk']
  · have e0 : iwrap .i64 (k + 1) = k + 1 := iwrap_i64_in (by omega)
    have e2 : iwrap .i64 (0 - (k + 1)) = 0 - (k + 1) := iwrap_i64_in (by omega)
    have e1 : iwrap .u64 (iwrap .u64 (2 * iwrap .u64 (0 - (k + 1))) + 1) = (zg k : Int) := by unfold zg; rw [if_neg hk, iwrap_u64, iwrap_u64, iwrap_u64]; omega
    have hk' : ¬ k ≥ 0 := hk
    skip
    refine (Tri.enter (rl := r39) (code := c39) (by kernel_rfl) Try.func39 rfl c39_ok (by kernel_rfl) (by kernel_rfl) ?_)
    refine run_ok 4000 _ _ _ _ ?_
    simp (maxSteps := 10000000) only [go_sem, c39, r39, e0, e2, e1, hk']
    refine sem_call rfl rfl (((rNum_spec (zg k) (zg_lt h)).embed [] rfl trivial rfl rfl rfl (by simp)).mono ?_)
    rintro _ _ ⟨_, _, ⟨rfl, rfl⟩, rfl, rfl⟩
    refine run_ok 4000 _ _ _ _ ?_
    simp (maxSteps := 10000000) only [go_sem, e0, e2, e1, hk']
theorem rcount_spec (k : Int) (h : I64 k) : Tri Try.prog 40 [.int .i64 k] [] (fun v m => v = .str (numB (posN k)) ∧ m = []) := by
  have hz := posN_cvt h
  skip
  refine (Tri.enter (rl := r40) (code := c40) (by kernel_rfl) Try.func40 rfl c40_ok (by kernel_rfl) (by kernel_rfl) ?_)
  refine run_ok 4000 _ _ _ _ ?_
  simp (maxSteps := 10000000) only [go_sem, c40, r40, hz]
  refine sem_call rfl rfl (((rNum_spec (posN k) (posN_lt h)).embed [] rfl trivial rfl rfl rfl (by simp)).mono ?_)
  rintro _ _ ⟨_, _, ⟨rfl, rfl⟩, rfl, rfl⟩
  refine run_ok 4000 _ _ _ _ ?_
  simp (maxSteps := 10000000) only [go_sem, hz]
theorem rstr_spec (s : List UInt8) (h : s.length ≤ 1000000) : Tri Try.prog 41 [.str s] [] (fun v m => v = .str (strB s) ∧ m = []) := by
  have hz : iwrap .u64 (s.length : Int) = (s.length : Int) := by rw [iwrap_u64]; omega
  have hl := numB_len10 (n := s.length) (by omega)
  skip
  refine (Tri.enter (rl := r41) (code := c41) (by kernel_rfl) Try.func41 rfl c41_ok (by kernel_rfl) (by kernel_rfl) ?_)
  refine run_ok 4000 _ _ _ _ ?_
  simp (maxSteps := 10000000) only [go_sem, c41, r41, hz]
  refine sem_call rfl rfl (((rNum_spec s.length (by omega)).embed [] rfl trivial rfl rfl rfl (by simp)).mono ?_)
  rintro _ _ ⟨_, _, ⟨rfl, rfl⟩, rfl, rfl⟩
  refine run_ok 4000 _ _ _ _ ?_
  simp (maxSteps := 10000000) only [go_sem, hz]
  exact ⟨by omega, rfl⟩
end Go.AEX
