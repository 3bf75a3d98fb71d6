/- Frame: the heap. -/
import Derived.Test.YteilmgoomifjmaaEWire
namespace Go.AEX
open Go Go.AE Go.Proofs
set_option maxRecDepth 100000
set_option linter.unusedVariables false
set_option linter.unusedSimpArgs false

/-- A heap's cells. -/
def hc (l : List Int) : List AV := l.map (AV.int .i64)
theorem hc_len (l : List Int) : (hc l).length = l.length := by simp [hc]
theorem hc_map (l : List Int) : (hc l).map (fun c => [c]) = iv .i64 l := by simp [hc, iv]
theorem hc_set (l : List Int) (i : Nat) (x : Int) : (hc l).set i (.int .i64 x) = hc (l.set i x) := by simp [hc, List.map_set]
theorem hc_ids (N : Nat) (l : List Int) : idss N (hc l) = true := by
  induction l with
  | nil => rfl
  | cons x l ih => simp only [hc, List.map_cons] at ih ⊢; simp only [idss, ids, ih]; rfl
theorem hc_rens (π : List Nat) (N : Nat) (l : List Int) : rens π N (hc l) = hc l := by
  induction l with
  | nil => rfl
  | cons x l ih => simp only [hc, List.map_cons] at ih ⊢; simp only [rens, ren, ih]
attribute [go_sem] hc_ids hc_rens
theorem hput_spec (l : List Int) (hl : l.length = 64) (n : Nat) (hn : n < 64) (x : Int) : Tri Try.prog 12 [.pbox 0 0, .int .i64 n, .int .i64 x] [.box (hc l)] (fun v m => v = .bool true ∧ m = [.box (hc (l.set n x))]) := by
  refine Tri.post ?_
  have f1 : ¬ (n : Int) < 0 := by omega
  have f2 : ¬ (n : Int) ≥ 64 := by omega
  have f3 : (n : Int) < 64 := by omega
  skip
  refine (Tri.enter (rl := r12) (code := c12) (by kernel_rfl) Try.func12 rfl c12_ok (by kernel_rfl) (by kernel_rfl) ?_)
  refine run_ok 4000 _ _ _ _ ?_
  simp (maxSteps := 10000000) only [go_sem, c12, r12, f1, f2, f3, Int.natCast_nonneg, hc_set, hc_len, hl, hn]
  refine ⟨_, _, .sub [0] ?_ .done, rfl, rfl⟩
  simp only [EmbV, go_sem]
theorem hput_no (l : List Int) (n : Int) (hn : n < 0 ∨ 64 ≤ n) (x : Int) : Tri Try.prog 12 [.pbox 0 0, .int .i64 n, .int .i64 x] [.box (hc l)] (fun v m => v = .bool false ∧ m = [.box (hc l)]) := by
  refine Tri.post ?_
  by_cases f1 : n < 0
  · skip
    refine (Tri.enter (rl := r12) (code := c12) (by kernel_rfl) Try.func12 rfl c12_ok (by kernel_rfl) (by kernel_rfl) ?_)
    refine run_ok 4000 _ _ _ _ ?_
    simp (maxSteps := 10000000) only [go_sem, c12, r12, f1]
    refine ⟨_, _, .sub [0] ?_ .done, rfl, rfl⟩
    simp only [EmbV, go_sem]
  · have f2 : n ≥ 64 := by omega
    skip
    refine (Tri.enter (rl := r12) (code := c12) (by kernel_rfl) Try.func12 rfl c12_ok (by kernel_rfl) (by kernel_rfl) ?_)
    refine run_ok 4000 _ _ _ _ ?_
    simp (maxSteps := 10000000) only [go_sem, c12, r12, f1, f2]
    refine ⟨_, _, .sub [0] ?_ .done, rfl, rfl⟩
    simp only [EmbV, go_sem]
theorem hget_spec (l : List Int) (hl : l.length = 64) (n : Nat) (hn : n < 64) : Tri Try.prog 14 [.pbox 0 0, .int .i64 n] [.box (hc l)] (fun v m => v = .tup [.int .i64 (l[n]), .bool true] ∧ m = [.box (hc l)]) := by
  refine Tri.post ?_
  have f1 : ¬ (n : Int) < 0 := by omega
  have f2 : ¬ (n : Int) ≥ 64 := by omega
  have f3 : (n : Int) < 64 := by omega
  have hn2 : n < l.length := by omega
  skip
  refine (Tri.enter (rl := r14) (code := c14) (by kernel_rfl) Try.func14 rfl c14_ok (by kernel_rfl) (by kernel_rfl) ?_)
  refine run_ok 4000 _ _ _ _ ?_
  simp (maxSteps := 10000000) only [go_sem, c14, r14, f1, f2, f3, Int.natCast_nonneg, hc_map, iv_hasI hn2, iv_rint hn2, Nat.zero_add]
  refine ⟨_, _, .sub [0] ?_ .done, rfl, rfl⟩
  simp only [EmbV, go_sem]
theorem hget_no (l : List Int) (n : Int) (hn : n < 0 ∨ 64 ≤ n) : Tri Try.prog 14 [.pbox 0 0, .int .i64 n] [.box (hc l)] (fun v m => v = .tup [.int .i64 0, .bool false] ∧ m = [.box (hc l)]) := by
  refine Tri.post ?_
  by_cases f1 : n < 0
  · skip
    refine (Tri.enter (rl := r14) (code := c14) (by kernel_rfl) Try.func14 rfl c14_ok (by kernel_rfl) (by kernel_rfl) ?_)
    refine run_ok 4000 _ _ _ _ ?_
    simp (maxSteps := 10000000) only [go_sem, c14, r14, f1]
    refine ⟨_, _, .sub [0] ?_ .done, rfl, rfl⟩
    simp only [EmbV, go_sem]
  · have f2 : n ≥ 64 := by omega
    skip
    refine (Tri.enter (rl := r14) (code := c14) (by kernel_rfl) Try.func14 rfl c14_ok (by kernel_rfl) (by kernel_rfl) ?_)
    refine run_ok 4000 _ _ _ _ ?_
    simp (maxSteps := 10000000) only [go_sem, c14, r14, f1, f2]
    refine ⟨_, _, .sub [0] ?_ .done, rfl, rfl⟩
    simp only [EmbV, go_sem]
/-- How many cells there are up to the last one that isn't 0. -/
def lastK (l : List Int) : Nat → Nat
  | 0 => 0
  | k + 1 => if l.getD k 0 = 0 then lastK l k else k + 1
theorem lastK_le (l : List Int) : ∀ k, lastK l k ≤ k
  | 0 => Nat.le_refl _
  | k + 1 => by unfold lastK; split; exact Nat.le_succ_of_le (lastK_le l k); exact Nat.le_refl _
theorem last_spec (l : List Int) (hl : l.length = 64) : Tri Try.prog 47 [.pbox 0 0] [.box (hc l)] (fun v m => v = .int .i64 (lastK l 64 : Nat) ∧ m = [.box (hc l)]) := by
  refine Tri.post ?_
  refine (Tri.enter (rl := r47) (code := c47) (by kernel_rfl) Try.func47 rfl c47_ok (by kernel_rfl) (by kernel_rfl) ?_)
  refine run_ok 4000 _ _ _ _ ?_
  simp (maxSteps := 10000000) only [go_sem, c47, r47]
  refine sem_rounds (fun n => n ≤ 64 ∧ lastK l 64 = lastK l n) (fun n => [(0, .pbox 0 0), (3, .int .i64 (n : Nat))]) (fun n => [.box (hc l)]) (fun n => n) 64 [0] ⟨by omega, rfl⟩ ?_ ?_
  · simp only [Emb, go_sem]
  rintro n ⟨h1, h2⟩
  cases n with
  | zero =>
    refine run_ok 4000 _ _ _ _ ?_
    simp (maxSteps := 10000000) only [go_sem]
    refine ⟨fun h => absurd h (by omega), fun _ => ?_⟩
    refine run_ok 4000 _ _ _ _ ?_
    simp (maxSteps := 10000000) only [go_sem]
    refine ⟨_, _, .sub [0] ?_ .done, rfl, rfl⟩
    have h3 : lastK l 64 = 0 := h2
    simp only [EmbV, go_sem, h3]
  | succ n =>
    have f0 : ((n + 1 : Nat) : Int) > 0 := by omega
    have w1 : iwrap .i64 (((n + 1 : Nat) : Int) - 1) = (n : Int) := by rw [iwrap_i64_in (by omega)]; omega
    have f3 : (n : Int) < 64 := by omega
    have hn2 : n < l.length := by omega
    have hg : l.getD n 0 = l[n] := by rw [List.getD_eq_getElem?_getD, List.getElem?_eq_getElem hn2]; rfl
    skip
    refine run_ok 4000 _ _ _ _ ?_
    simp (maxSteps := 10000000) only [go_sem, f0, w1, f3, Int.natCast_nonneg, hc_map, iv_hasI hn2, iv_rint hn2, Nat.zero_add]
    refine ⟨fun h0 => ?_, fun h0 => ?_⟩
    · have h0 : l[n] = 0 := by simpa using h0
      refine ⟨n, by omega, ⟨by omega, ?_⟩, [0], ?_⟩
      · rw [h2, lastK, hg, if_pos h0]
      · simp only [Emb, go_sem]
    · have h0 : l[n] ≠ 0 := by simpa using h0
      skip
      refine run_ok 4000 _ _ _ _ ?_
      simp (maxSteps := 10000000) only [go_sem]
      refine ⟨_, _, .sub [0] ?_ .done, rfl, rfl⟩
      have : lastK l 64 = n + 1 := by rw [h2, lastK, hg, if_neg h0]
      simp only [EmbV, go_sem, this]
/-- Numbers out of a heap's cells. -/
theorem oint_asl (l : List Int) (hl : l.length = 64) (n : Nat) (hn : n ≤ 64) (s : List UInt8) (h64 : ∀ n ∈ l, I64 n) (hs : s.length ≤ 1000) :
    Tri Try.prog 49 [.pbox 0 0, .asl 2 0 0 n 64] [.box [.sl 1 0 s.length s.length false], .row 1 (AE.bytes s), .box (hc l)]
      (fun v m => v = .pbox 0 0 ∧ m = [.box [.sl 3 0 (s ++ numsB ((l.take n).map zg)).length (s ++ numsB ((l.take n).map zg)).length false], .gone, .box (hc l), .row 1 (AE.bytes (s ++ numsB ((l.take n).map zg)))]) := by
  refine Tri.post ?_
  refine (Tri.enter (rl := r49) (code := c49) (by kernel_rfl) Try.func49 rfl c49_ok (by kernel_rfl) (by kernel_rfl) ?_)
  refine run_ok 4000 _ _ _ _ ?_
  simp (maxSteps := 10000000) only [go_sem, c49, r49]
  refine sem_move 1 rfl ?_
  simp (maxSteps := 10000000) only [go_sem]
  refine sem_rounds (fun i : Nat => i ≤ n) (fun i => [(0, .pbox 0 0), (7, .asl 2 0 0 n 64), (8, .int .i64 n), (9, .int .i64 (i : Nat))])
    (fun i => [.box [.sl 3 0 (s ++ numsB ((l.take i).map zg)).length (s ++ numsB ((l.take i).map zg)).length false], .gone, .box (hc l), .row 1 (AE.bytes (s ++ numsB ((l.take i).map zg)))]) (fun i => n - i) 0 [0, 1, 2, 3] (Nat.zero_le _) ?_ ?_
  · simp only [Emb, go_sem, List.take_zero, List.map_nil]; simp [numsB]
  intro i hi
  refine run_ok 4000 _ _ _ _ ?_
  simp (maxSteps := 10000000) only [go_sem]
  refine ⟨fun hlt => ?_, fun hge => ?_⟩
  · have hlt : i < n := by omega
    have hll : i < l.length := by omega
    have hin : (i : Int) < (n : Int) := by omega
    have h6 := h64 _ (List.getElem_mem hll)
    have hz := zg_bits h6
    have hlen : (numsB ((l.take i).map zg)).length ≤ 10 * i := by
      have := numsB_len ((l.take i).map zg) (by intro n hn; obtain ⟨k, hk, rfl⟩ := List.mem_map.1 hn; exact zg_lt (h64 k (List.mem_of_mem_take hk)))
      rw [List.length_map, List.length_take] at this; omega
    have hnext : (s ++ numsB ((l.take i).map zg)) ++ numsB [zg l[i]] = s ++ numsB ((l.take (i + 1)).map zg) := by
      rw [List.take_succ_eq_append_getElem hll, List.map_append, List.append_assoc]
      simp [numsB]
    have hcall := wNum_spec [zg l[i]] true (s ++ numsB ((l.take i).map zg)) (by intro n hn; simp at hn; rw [hn]; exact zg_lt h6) (by rw [List.length_append]; simp only [List.length_cons, List.length_nil]; omega)
    rw [hnext] at hcall
    skip
    simp (maxSteps := 10000000) only [go_sem, hc_map, iv_len, iv_rint hll, iv_hasI hll, hin, hz, Int.natCast_nonneg, Nat.zero_add, inc64 (show i < 1000000000000 by omega)]
    refine sem_call rfl rfl (((hcall).embed [0, 3] rfl (by repeat' first | exact trivial | rfl | (simp only [go_sem]; done) | constructor) rfl (by first | rfl | simp only [go_sem]) rfl (by simp)).mono ?_)
    rintro _ _ ⟨_, _, ⟨rfl, rfl⟩, rfl, rfl⟩
    refine run_ok 4000 _ _ _ _ ?_
    simp (maxSteps := 10000000) only [go_sem, hc_map, iv_len, iv_rint hll, iv_hasI hll, hin, hz, Int.natCast_nonneg, Nat.zero_add, inc64 (show i < 1000000000000 by omega)]
    refine ⟨i + 1, by omega, hlt, [0, 1, 2, 4], ?_⟩
    simp only [Emb, go_sem]
  · have hi : i = n := by omega
    subst hi
    skip
    refine run_ok 4000 _ _ _ _ ?_
    simp (maxSteps := 10000000) only [go_sem]
    refine ⟨_, _, .sub [0, 1, 2, 3] ?_ .done, rfl, rfl⟩
    simp only [EmbV, go_sem]
/-- A heap's bytes. -/
def textH (l : List Int) : List UInt8 := numB (lastK l 64) ++ numsB ((l.take (lastK l 64)).map zg)
theorem htext_spec (l : List Int) (hl : l.length = 64) (h64 : ∀ n ∈ l, I64 n) : Tri Try.prog 13 [.pbox 0 0] [.box (hc l)] (fun v m => v = .str (textH l) ∧ m = [.box (hc l)]) := by
  refine Tri.post ?_
  have hl1 := last_spec l hl
  have hle := lastK_le l 64
  unfold textH
  generalize lastK l 64 = n at *
  have hc := ocount_spec [(n : Int)] true [] (by intro k hk; simp at hk; subst hk; unfold I64; omega) (by simp)
  have hpos : posN (n : Int) = n := by unfold posN; omega
  have hnl : (numB n).length ≤ 10 := by
    have := numsB_len [n] (by intro k hk; simp at hk; omega)
    simpa [numsB] using this
  have hi := oint_asl l hl n hle (numB n) h64 (by omega)
  have ht := otext_spec (numB n ++ numsB ((l.take n).map zg))
  have hns : numsB [n] = numB n := by simp [numsB]
  simp only [List.nil_append, List.map_cons, List.map_nil, hpos, hns, iv] at hc
  have f1 : (n : Int) ≤ 64 := by omega
  unfold outM outM2 at *
  skip
  refine (Tri.enter (rl := r13) (code := c13) (by kernel_rfl) Try.func13 rfl c13_ok (by kernel_rfl) (by kernel_rfl) ?_)
  refine run_ok 4000 _ _ _ _ ?_
  simp (maxSteps := 10000000) only [go_sem, c13, r13, f1, Int.natCast_nonneg, Nat.sub_zero, hc_len, hl]
  refine sem_call rfl rfl (((hl1).embed [0] rfl (by repeat' first | exact trivial | rfl | (simp only [go_sem]; done) | constructor) rfl (by first | rfl | simp only [go_sem]) rfl (by simp)).mono ?_)
  rintro _ _ ⟨_, _, ⟨rfl, rfl⟩, rfl, rfl⟩
  refine run_ok 4000 _ _ _ _ ?_
  simp (maxSteps := 10000000) only [go_sem, f1, Int.natCast_nonneg, Nat.sub_zero, hc_len, hl]
  refine sem_nilbox 1 0 1 rfl rfl ?_
  simp (maxSteps := 10000000) only [go_sem, f1, Int.natCast_nonneg, Nat.sub_zero, hc_len, hl]
  refine sem_drawG l13_0_ok (by kernel_rfl) ?_
  intro KK hKK
  simp (maxSteps := 10000000) only [go_sem, l13_0, f1, Int.natCast_nonneg, Nat.sub_zero, hc_len, hl]
  subst hKK
  simp (maxSteps := 10000000) only [go_sem, f1, Int.natCast_nonneg, Nat.sub_zero, hc_len, hl]
  refine TriZ.of (((hc).embed [1, 2] rfl (by repeat' first | exact trivial | rfl | (simp only [go_sem]; done) | constructor) rfl (by first | rfl | simp only [go_sem]) rfl (by simp)).mono ?_)
  rintro _ _ ⟨_, _, ⟨rfl, rfl⟩, rfl, rfl⟩
  simp (maxSteps := 10000000) only [go_sem, f1, Int.natCast_nonneg, Nat.sub_zero, hc_len, hl]
  refine TriZ.of (((hi).embed [1, 3, 0] rfl (by repeat' first | exact trivial | rfl | (simp only [go_sem]; done) | constructor) rfl (by first | rfl | simp only [go_sem]) rfl (by simp)).mono ?_)
  rintro _ _ ⟨_, _, ⟨rfl, rfl⟩, rfl, rfl⟩
  simp (maxSteps := 10000000) only [go_sem, f1, Int.natCast_nonneg, Nat.sub_zero, hc_len, hl]
  refine TriZ.of (((ht).embed [1, 4] rfl (by repeat' first | exact trivial | rfl | (simp only [go_sem]; done) | constructor) rfl (by first | rfl | simp only [go_sem]) rfl (by simp)).mono ?_)
  rintro _ _ ⟨_, _, ⟨rfl, rfl⟩, rfl, rfl⟩
  simp (maxSteps := 10000000) only [go_sem, f1, Int.natCast_nonneg, Nat.sub_zero, hc_len, hl]
  refine ⟨_, _, .sub [0] ?_ .done, rfl, rfl⟩
  simp only [EmbV, go_sem]
end Go.AEX
