/- TVote. -/
import Derived.Test.YthdkobfafncpcaaDoorCom
import Derived.Test.YthdkobfafncpcaaDoorCG
import Derived.KernelRfl
import Derived.Test.YthdkobfafncpcaaDoorTVoteS
import Derived.Test.YthdkobfafncpcaaDoorAEsa
import Derived.Test.YthdkobfafncpcaaDoorAEzj
import Derived.Test.YthdkobfafncpcaaDoorAEzn
/- Turned to this seat by turn.py: VoteA.lean VoteB.lean VoteC.lean VoteE.lean. -/
namespace Go.AEX
open Go Go.AE Go.Proofs
set_option maxRecDepth 100000
set_option linter.unusedVariables false
set_option linter.unusedSimpArgs false

theorem r_shr_u32n (b k : Nat) (hk : k ≤ 31) : ishr .u32 (b : Int) (k : Int) = ((b / 2 ^ k : Nat) : Int) := by
  show (b : Int).fdiv (2 ^ min (Int.toNat (k : Int)) 32) = _
  rw [Int.toNat_natCast, Nat.min_eq_left (by omega), Int.fdiv_eq_ediv_of_nonneg _ (by exact_mod_cast Nat.zero_le _)]
  norm_cast
theorem r_and1_u32 (n : Nat) (h : n < 4294967296) : ibits .and .u32 (n : Int) 1 = ((n % 2 : Nat) : Int) := by
  show iwrap .u32 ((BitVec.ofInt 32 (n : Int) &&& BitVec.ofInt 32 ((1 : Nat) : Int)).toNat : Int) = _
  rw [BitVec.ofInt_natCast, BitVec.ofInt_natCast, BitVec.toNat_and, BitVec.toNat_ofNat, BitVec.toNat_ofNat, Nat.mod_eq_of_lt (show n < 2 ^ 32 by omega), Nat.mod_eq_of_lt (show 1 < 2 ^ 32 by omega), Nat.and_one_is_mod, iwrap_u32]
  omega
theorem r_and255_u32 (n : Nat) (h : n < 4294967296) : ibits .and .u32 (n : Int) 255 = ((n % 256 : Nat) : Int) := by
  show iwrap .u32 ((BitVec.ofInt 32 (n : Int) &&& BitVec.ofInt 32 ((255 : Nat) : Int)).toNat : Int) = _
  have e : n &&& 255 = n % 256 := Nat.and_two_pow_sub_one_eq_mod n 8
  rw [BitVec.ofInt_natCast, BitVec.ofInt_natCast, BitVec.toNat_and, BitVec.toNat_ofNat, BitVec.toNat_ofNat, Nat.mod_eq_of_lt (show n < 2 ^ 32 by omega), Nat.mod_eq_of_lt (show 255 < 2 ^ 32 by omega), e, iwrap_u32]
  omega
theorem or_u32 (a b : Nat) (ha : a < 4294967296) (hb : b < 4294967296) : ibits .or .u32 (a : Int) (b : Int) = ((a ||| b : Nat) : Int) := by
  show iwrap .u32 ((BitVec.ofInt 32 (a : Int) ||| BitVec.ofInt 32 (b : Int)).toNat : Int) = _
  have h : a ||| b < 2 ^ 32 := Nat.or_lt_two_pow ha hb
  rw [BitVec.ofInt_natCast, BitVec.ofInt_natCast, BitVec.toNat_or, BitVec.toNat_ofNat, BitVec.toNat_ofNat, Nat.mod_eq_of_lt (show a < 2 ^ 32 by omega), Nat.mod_eq_of_lt (show b < 2 ^ 32 by omega), iwrap_u32]
  omega
theorem shl1_u32 (k : Nat) (hk : k ≤ 31) : ishl .u32 1 (k : Int) = ((2 ^ k : Nat) : Int) := by
  show iwrap .u32 ((1 : Int) * 2 ^ min (Int.toNat (k : Int)) 32) = _
  rw [Int.toNat_natCast, Nat.min_eq_left (by omega), iwrap_u32, Int.one_mul]
  have h : 2 ^ k ≤ 2 ^ 31 := Nat.pow_le_pow_right (by decide) hk
  have e : ((2 : Int) ^ k) = ((2 ^ k : Nat) : Int) := by norm_cast
  rw [e]
  have h2 : 2 ^ k < 4294967296 := Nat.lt_of_le_of_lt h (by decide)
  generalize 2 ^ k = x at *
  omega
def hasN (S : Nat) (p : Int) : Bool := decide (0 ≤ p) && decide (p < 32) && S.testBit p.toNat
abbrev ros (S : Nat) (ep : Int) : AV := .agg [.int .u32 (S : Nat), .int .i64 ep]
theorem r_has_spec (S : Nat) (hS : S < 4294967296) (ep p : Int) : Tri Tryd.prog 24 [ros S ep, .int .i64 p] [] (fun v m => v = .bsym (hasN S p) ∧ m = []) := by
  refine Tri.post ?_
  unfold hasN
  by_cases c0 : 0 ≤ p
  · by_cases c1 : p < 32
    · obtain ⟨k, rfl⟩ : ∃ k : Nat, p = (k : Int) := ⟨p.toNat, by omega⟩
      have hk : k ≤ 31 := by omega
      have e1 := r_shr_u32n S k hk
      have hlt : S / 2 ^ k < 4294967296 := Nat.lt_of_le_of_lt (Nat.div_le_self _ _) hS
      have e2 := r_and1_u32 (S / 2 ^ k) hlt
      have e3 : (((S / 2 ^ k % 2 : Nat) : Int) == 1) = S.testBit k := by
        rw [Nat.testBit_eq_decide_div_mod_eq]
        rw [Bool.eq_iff_iff]
        simp only [beq_iff_eq, decide_eq_true_eq]
        omega
      have g0 : (k : Int) ≥ 0 := by omega
      skip
      refine (Tri.enter (rl := r24) (code := c24) (by kernel_rfl) Tryd.func24 rfl c24_ok (by kernel_rfl) (by kernel_rfl) ?_)
      refine run_ok 4000 _ _ _ _ ?_
      simp (maxSteps := 10000000) only [go_sem, c24, r24, e1, e2, e3, c1, g0]
      refine ⟨_, _, .sub [] ?_ .done, rfl, rfl⟩
      simp [EmbV, go_sem, c0, c1]
    · have g0 : p ≥ 0 := c0
      skip
      refine (Tri.enter (rl := r24) (code := c24) (by kernel_rfl) Tryd.func24 rfl c24_ok (by kernel_rfl) (by kernel_rfl) ?_)
      refine run_ok 4000 _ _ _ _ ?_
      simp (maxSteps := 10000000) only [go_sem, c24, r24, c1, g0]
      refine ⟨_, _, .like (Like.bsym _) (.sub [] ?_ .done), rfl, rfl⟩
      simp [EmbV, go_sem, c1]
  · have g0 : ¬ p ≥ 0 := c0
    skip
    refine (Tri.enter (rl := r24) (code := c24) (by kernel_rfl) Tryd.func24 rfl c24_ok (by kernel_rfl) (by kernel_rfl) ?_)
    refine run_ok 4000 _ _ _ _ ?_
    simp (maxSteps := 10000000) only [go_sem, c24, r24, g0]
    refine ⟨_, _, .like (Like.bsym _) (.sub [] ?_ .done), rfl, rfl⟩
    simp [EmbV, go_sem, c0]
def ofN : List Int → Nat → Nat
  | [], S => S
  | p :: ps, S => ofN ps (if 0 ≤ p ∧ p < 32 then S ||| 2 ^ p.toNat else S)
theorem or_lt {S k : Nat} (hS : S < 4294967296) (hk : k ≤ 31) : S ||| 2 ^ k < 4294967296 := by
  have h : 2 ^ k ≤ 2 ^ 31 := Nat.pow_le_pow_right (by decide) hk
  exact Nat.or_lt_two_pow (n := 32) hS (by omega)
theorem r_of_spec (ps : List Int) (tight : Bool) (hl : ps.length ≤ 100000) : Tri Tryd.prog 6 [.vsl 1 (iv .i64 ps) tight] [] (fun v m => v = ros (ofN ps 0) 0 ∧ m = []) := by
  refine Tri.post ?_
  refine (Tri.enter (rl := r6) (code := c6) (by kernel_rfl) Tryd.func6 rfl c6_ok (by kernel_rfl) (by kernel_rfl) ?_)
  refine run_ok 4000 _ _ _ _ ?_
  simp (maxSteps := 10000000) only [go_sem, c6, r6]
  refine sem_rounds (fun q : Nat × Nat => q.1 ≤ ps.length ∧ q.2 < 4294967296 ∧ ofN ps 0 = ofN (ps.drop q.1) q.2)
    (fun q => [(2, .pbox 0 0), (3, .pbox 1 0), (6, .vsl 1 (iv .i64 ps) tight), (7, .int .i64 ps.length), (8, .int .i64 (q.1 : Nat))])
    (fun q => [.box [.int .u32 0, .int .i64 0], .box [.int .u32 (q.2 : Nat), .int .i64 0]]) (fun q => ps.length - q.1) (0, 0) [0, 1] ⟨Nat.zero_le _, by simp, rfl⟩ ?_ ?_
  · simp [Emb, go_sem, iv_len]
  rintro ⟨i, S⟩ ⟨hi, hS, hE⟩
  simp only at hi hS hE ⊢
  by_cases c : i < ps.length
  · have hin : (i : Int) < (ps.length : Int) := by omega
    have r0 := iv_rint (k := .i64) c
    have h0 := iv_hasI (k := .i64) c
    have w1 := inc64 (show i < 1000000000000 by omega)
    have hd : ps.drop i = ps[i] :: ps.drop (i + 1) := List.drop_eq_getElem_cons c
    rw [hd] at hE
    generalize ps[i] = p at *
    by_cases c0 : 0 ≤ p ∧ p < 32
    · obtain ⟨k, rfl⟩ : ∃ k : Nat, p = (k : Int) := ⟨p.toNat, by omega⟩
      have hk : k ≤ 31 := by omega
      have e1 := shl1_u32 k hk
      have hp : 2 ^ k < 4294967296 := Nat.lt_of_le_of_lt (Nat.pow_le_pow_right (by decide) hk) (by decide : 2 ^ 31 < 4294967296)
      have e2 := or_u32 S (2 ^ k) hS hp
      have hS' := or_lt hS hk
      have g0 : (k : Int) ≥ 0 := by omega
      have g1 := c0.2
      rw [ofN, if_pos c0, Int.toNat_natCast] at hE
      generalize S ||| 2 ^ k = S' at *
      generalize 2 ^ k = K2 at *
      skip
      refine run_ok 4000 _ _ _ _ ?_
      simp (maxSteps := 10000000) only [go_sem, hin, r0, h0, w1, e1, e2, g0, g1, Int.natCast_nonneg, iv_len]
      refine sem_drawG l6_0_ok (by kernel_rfl) ?_
      intro KK hKK
      simp (maxSteps := 10000000) only [go_sem, l6_0, hin, r0, h0, w1, e1, e2, g0, g1, Int.natCast_nonneg, iv_len]
      subst hKK
      simp (maxSteps := 10000000) only [go_sem, hin, r0, h0, w1, e1, e2, g0, g1, Int.natCast_nonneg, iv_len]
      refine ⟨(i + 1, S'), by simp only; omega, ⟨c, hS', hE⟩, [0, 1], ?_⟩
      simp only [Emb, go_sem]
    · rw [ofN, if_neg c0] at hE
      by_cases c1 : 0 ≤ p
      · have g0 : p ≥ 0 := c1
        have g1 : ¬ p < 32 := by omega
        skip
        refine run_ok 4000 _ _ _ _ ?_
        simp (maxSteps := 10000000) only [go_sem, hin, r0, h0, w1, g0, g1, Int.natCast_nonneg, iv_len]
        refine ⟨(i + 1, S), by simp only; omega, ⟨c, hS, hE⟩, [0, 1], ?_⟩
        simp only [Emb, go_sem]
      · have g0 : ¬ p ≥ 0 := by omega
        skip
        refine run_ok 4000 _ _ _ _ ?_
        simp (maxSteps := 10000000) only [go_sem, hin, r0, h0, w1, g0, Int.natCast_nonneg, iv_len]
        refine ⟨(i + 1, S), by simp only; omega, ⟨c, hS, hE⟩, [0, 1], ?_⟩
        simp only [Emb, go_sem]
  · have hge : ¬ (i : Int) < (ps.length : Int) := by omega
    rw [List.drop_eq_nil_of_le (by omega), ofN] at hE
    rw [hE]
    skip
    refine run_ok 4000 _ _ _ _ ?_
    simp (maxSteps := 10000000) only [go_sem, hge, iv_len]
    refine run_ok 4000 _ _ _ _ ?_
    simp (maxSteps := 10000000) only [go_sem, hge, iv_len]
    refine ⟨_, _, .sub [] ?_ .done, rfl, rfl⟩
    simp only [EmbV, go_sem]
def pc8 (n : Nat) : Nat := (List.range 8).foldl (fun a i => a + if n.testBit i then 1 else 0) 0
def pc (S : Nat) : Nat := pc8 (S / 2 ^ 24) + pc8 (S / 2 ^ 16 % 256) + pc8 (S / 2 ^ 8 % 256) + pc8 (S % 256)
theorem pc8_le : ∀ n < 256, pc8 n ≤ 8 := by decide +kernel
theorem tab_get : ∀ n < 256, big0.getD n 0 = UInt8.ofNat (pc8 n) := by decide +kernel
theorem tab_len : big0.length = 256 := by decide +kernel
theorem tab_sget {n : Nat} (h : n < 256) : sget big0 (n : Int) = (pc8 n : Nat) := by
  unfold sget
  rw [Int.toNat_natCast, tab_get n h]
  have := pc8_le n h
  rw [UInt8.toNat_ofNat_of_lt' (by have h2 : UInt8.size = 256 := rfl; omega)]
theorem r_count_spec (S : Nat) (hS : S < 4294967296) : Tri Tryd.prog 52 [.int .u32 (S : Nat)] [] (fun v m => v = .int .i64 (pc S : Nat) ∧ m = []) := by
  refine Tri.post ?_
  have e1 : ishr .u32 (S : Int) 24 = ((S / 2 ^ 24 : Nat) : Int) := r_shr_u32n S 24 (by decide)
  have e2 : ishr .u32 (S : Int) 16 = ((S / 2 ^ 16 : Nat) : Int) := r_shr_u32n S 16 (by decide)
  have e3 : ishr .u32 (S : Int) 8 = ((S / 2 ^ 8 : Nat) : Int) := r_shr_u32n S 8 (by decide)
  have a2 := r_and255_u32 (S / 2 ^ 16) (by omega)
  have a3 := r_and255_u32 (S / 2 ^ 8) (by omega)
  have a4 := r_and255_u32 S hS
  have b1 : S / 2 ^ 24 < 256 := by omega
  have b2 : S / 2 ^ 16 % 256 < 256 := Nat.mod_lt _ (by decide)
  have b3 : S / 2 ^ 8 % 256 < 256 := Nat.mod_lt _ (by decide)
  have b4 : S % 256 < 256 := Nat.mod_lt _ (by decide)
  unfold pc
  generalize S / 2 ^ 24 = x1 at *
  generalize S / 2 ^ 16 = y2 at *
  generalize S / 2 ^ 8 = y3 at *
  generalize y2 % 256 = x2 at *
  generalize y3 % 256 = x3 at *
  generalize S % 256 = x4 at *
  have g1 := tab_sget b1
  have g2 := tab_sget b2
  have g3 := tab_sget b3
  have g4 := tab_sget b4
  have p1 := pc8_le x1 b1
  have p2 := pc8_le x2 b2
  have p3 := pc8_le x3 b3
  have p4 := pc8_le x4 b4
  generalize pc8 x1 = z1 at *
  generalize pc8 x2 = z2 at *
  generalize pc8 x3 = z3 at *
  generalize pc8 x4 = z4 at *
  have l1 : (x1 : Int) < 256 := by omega
  have l2 : (x2 : Int) < 256 := by omega
  have l3 : (x3 : Int) < 256 := by omega
  have l4 : (x4 : Int) < 256 := by omega
  have w1 : iwrap .u8 ((z1 : Int) + (z2 : Int)) = (z1 : Int) + (z2 : Int) := by rw [iwrap_u8]; omega
  have w2 : iwrap .u8 ((z1 : Int) + (z2 : Int) + (z3 : Int)) = (z1 : Int) + (z2 : Int) + (z3 : Int) := by rw [iwrap_u8]; omega
  have w3 : iwrap .u8 ((z1 : Int) + (z2 : Int) + (z3 : Int) + (z4 : Int)) = (z1 : Int) + (z2 : Int) + (z3 : Int) + (z4 : Int) := by rw [iwrap_u8]; omega
  have w4 : iwrap .i64 ((z1 : Int) + (z2 : Int) + (z3 : Int) + (z4 : Int)) = ((z1 + z2 + z3 + z4 : Nat) : Int) := by rw [iwrap_i64_in (by omega)]; omega
  skip
  refine (Tri.enter (rl := r52) (code := c52) (by kernel_rfl) Tryd.func52 rfl c52_ok (by kernel_rfl) (by kernel_rfl) ?_)
  refine run_ok 4000 _ _ _ _ ?_
  simp (maxSteps := 10000000) only [go_sem, c52, r52, e1, e2, e3, a2, a3, a4, g1, g2, g3, g4, l1, l2, l3, l4, w1, w2, w3, w4, tab_len, big1, Int.natCast_nonneg]
  refine sem_drawG l52_0_ok (by kernel_rfl) ?_
  intro KK hKK
  simp (maxSteps := 10000000) only [go_sem, l52_0, e1, e2, e3, a2, a3, a4, g1, g2, g3, g4, l1, l2, l3, l4, w1, w2, w3, w4, tab_len, big1, Int.natCast_nonneg]
  subst hKK
  simp (maxSteps := 10000000) only [go_sem, e1, e2, e3, a2, a3, a4, g1, g2, g3, g4, l1, l2, l3, l4, w1, w2, w3, w4, tab_len, big1, Int.natCast_nonneg]
  refine ⟨_, _, .sub [] ?_ .done, rfl, rfl⟩
  simp only [EmbV, go_sem]
theorem r_len_spec (S : Nat) (hS : S < 4294967296) (ep : Int) : Tri Tryd.prog 45 [ros S ep] [] (fun v m => v = .int .i64 (pc S : Nat) ∧ m = []) := by
  refine Tri.post ?_
  have hc := r_count_spec S hS
  refine (Tri.enter (rl := r45) (code := c45) (by kernel_rfl) Tryd.func45 rfl c45_ok (by kernel_rfl) (by kernel_rfl) ?_)
  refine run_ok 4000 _ _ _ _ ?_
  simp (maxSteps := 10000000) only [go_sem, c45, r45]
  refine sem_call rfl rfl (((hc).embed [] rfl trivial rfl rfl rfl (by simp)).mono ?_)
  rintro _ _ ⟨_, _, ⟨rfl, rfl⟩, rfl, rfl⟩
  refine run_ok 4000 _ _ _ _ ?_
  simp (maxSteps := 10000000) only [go_sem]
  refine ⟨_, _, .sub [] ?_ .done, rfl, rfl⟩
  simp only [EmbV, go_sem]
theorem r_most_spec (S : Nat) (hS : S < 4294967296) (ep nt : Int) (vs : List Int) (tight : Bool) (hl : vs.length ≤ 1000) (hv : ∀ v ∈ vs, hasN S v = true ∧ v ≠ nt) (hr : vs.Pairwise (· < ·)) :
    Tri Tryd.prog 41 [ros S ep, .int .i64 nt, .vsl 1 (iv .i64 vs) tight] [] (fun v m => v = .bsym (decide (2 * vs.length > pc S)) ∧ m = []) := by
  refine Tri.post ?_
  have hlen := r_len_spec S hS ep
  skip
  refine (Tri.enter (rl := r41) (code := c41) (by kernel_rfl) Tryd.func41 rfl c41_ok (by kernel_rfl) (by kernel_rfl) ?_)
  refine run_ok 4000 _ _ _ _ ?_
  simp (maxSteps := 10000000) only [go_sem, c41, r41, iv_len]
  refine sem_rounds (fun i : Nat => i ≤ vs.length)
    (fun i => [(1, .int .i64 nt), (2, .vsl 1 (iv .i64 vs) tight), (3, .pbox 0 0), (9, .vsl 1 (iv .i64 vs) tight), (10, .int .i64 vs.length), (11, .int .i64 (i : Nat))])
    (fun i => [.box [.int .u32 (S : Nat), .int .i64 ep]]) (fun i => vs.length - i) 0 [0] (Nat.zero_le _) ?_ ?_
  · simp [Emb, go_sem, iv_len]
  intro i hi
  by_cases c : i < vs.length
  · have hin : (i : Int) < (vs.length : Int) := by omega
    have r0 := iv_rint (k := .i64) c
    have h0 := iv_hasI (k := .i64) c
    have hm := hv _ (List.getElem_mem c)
    have hhas := r_has_spec S hS ep vs[i]
    rw [hm.1] at hhas
    have hne : (vs[i] == nt) = false := by simpa using hm.2
    have w1 := inc64 (show i < 1000000000000 by omega)
    cases i with
    | zero =>
      have g0 : ¬ (0 : Int) > 0 := by omega
      have hin0 : (0 : Int) < (vs.length : Int) := by omega
      generalize vs[0] = v at *
      skip
      refine run_ok 4000 _ _ _ _ ?_
      simp (maxSteps := 10000000) only [go_sem, hin0, r0, h0, hne, show iwrap .i64 (1 : Int) = 1 from rfl, g0, iv_len, Int.natCast_nonneg]
      refine sem_call rfl rfl (((hhas).embed [] rfl trivial rfl rfl rfl (by simp)).mono ?_)
      rintro _ _ ⟨_, _, ⟨rfl, rfl⟩, rfl, rfl⟩
      refine run_ok 4000 _ _ _ _ ?_
      simp (maxSteps := 10000000) only [go_sem, hin0, r0, h0, hne, show iwrap .i64 (1 : Int) = 1 from rfl, g0, iv_len, Int.natCast_nonneg]
      refine ⟨1, by omega, c, [0], ?_⟩
      simp only [Emb, go_sem]
    | succ j =>
      have cj : j < vs.length := by omega
      have r1 := iv_rint (k := .i64) cj
      have h1 := iv_hasI (k := .i64) cj
      have hin1 : (j : Int) < (vs.length : Int) := by omega
      have hlt : vs[j] < vs[j + 1] := List.pairwise_iff_getElem.1 hr j (j + 1) cj c (by omega)
      have g0 : ((j + 1 : Nat) : Int) > 0 := by omega
      have g1 : ¬ vs[j] ≥ vs[j + 1] := by omega
      have w2 : iwrap .i64 (((j + 1 : Nat) : Int) - 1) = (j : Int) := by rw [iwrap_i64_in (by omega)]; omega
      generalize vs[j + 1] = v at *
      generalize vs[j] = u at *
      skip
      refine run_ok 4000 _ _ _ _ ?_
      simp (maxSteps := 10000000) only [go_sem, hin, hin1, r0, h0, r1, h1, hne, w1, w2, g0, g1, iv_len, Int.natCast_nonneg]
      refine sem_call rfl rfl (((hhas).embed [] rfl trivial rfl rfl rfl (by simp)).mono ?_)
      rintro _ _ ⟨_, _, ⟨rfl, rfl⟩, rfl, rfl⟩
      refine run_ok 4000 _ _ _ _ ?_
      simp (maxSteps := 10000000) only [go_sem, hin, hin1, r0, h0, r1, h1, hne, w1, w2, g0, g1, iv_len, Int.natCast_nonneg]
      refine ⟨j + 1 + 1, by omega, c, [0], ?_⟩
      simp only [Emb, go_sem]
  · have hge : ¬ (i : Int) < (vs.length : Int) := by omega
    have w1 : iwrap .i64 ((2 : Int) * (vs.length : Int)) = ((2 * vs.length : Nat) : Int) := by rw [iwrap_i64_in (by omega)]; omega
    have e1 : decide (((2 * vs.length : Nat) : Int) > ((pc S : Nat) : Int)) = decide (2 * vs.length > pc S) := by
      rw [Bool.eq_iff_iff]; simp only [decide_eq_true_eq]; omega
    skip
    refine run_ok 4000 _ _ _ _ ?_
    simp (maxSteps := 10000000) only [go_sem, hge, w1, iv_len]
    refine run_ok 4000 _ _ _ _ ?_
    simp (maxSteps := 10000000) only [go_sem, hge, w1, iv_len]
    refine sem_call rfl rfl (((hlen).embed [] rfl trivial rfl rfl rfl (by simp)).mono ?_)
    rintro _ _ ⟨_, _, ⟨rfl, rfl⟩, rfl, rfl⟩
    refine run_ok 4000 _ _ _ _ ?_
    simp (maxSteps := 10000000) only [go_sem, hge, w1, iv_len]
    refine ⟨_, _, .sub [] ?_ .done, rfl, rfl⟩
    simp only [EmbV, go_sem, e1]
abbrev Vts := List (Int × Bool)
def vb (V : Vts) : List (AV × AV) := V.map fun p => (.int .i64 p.1, .bsym p.2)
theorem vb_ren (π : List Nat) (N : Nat) (V : Vts) : renP π N (vb V) = vb V := by
  induction V with
  | nil => rfl
  | cons p V ih => unfold vb at ih ⊢; simp only [List.map_cons, renP, ren, ih]
theorem vb_ids (k : Nat) (V : Vts) : idsP k (vb V) = true := by
  induction V with
  | nil => rfl
  | cons p V ih => unfold vb at ih ⊢; simp only [List.map_cons, idsP, ids, ih, Bool.and_self]
theorem vb_ok (V : Vts) (v : Int) : keysOk (vb V) (.int .i64 v) := by
  induction V with
  | nil => trivial
  | cons p V ih => exact ⟨rfl, ih⟩
attribute [go_sem] vb_ren vb_ids isKey vb_ok
def vg : Vts → Int → Option Bool
  | [], _ => none
  | p :: V, v => if v = p.1 then some p.2 else vg V v
theorem vb_find : ∀ (V : Vts) (v : Int), mfind (vb V) (.int .i64 v) = (vg V v).map .bsym
  | [], _ => rfl
  | p :: V, v => by
    have e : kd IntKind.i64 IntKind.i64 = true := rfl
    simp only [vb, List.map_cons, mfind, keq, e, Bool.true_and, vg]
    by_cases c : v = p.1
    · rw [if_pos c, c, beq_self_eq_true]; rfl
    · have : (v == p.1) = false := by simpa using c
      rw [if_neg c, this]; exact vb_find V v
theorem vb_has (V : Vts) (v : Int) : mhas (vb V) (.int .i64 v) = (vg V v).isSome := by unfold mhas; rw [vb_find]; cases vg V v <;> rfl
theorem vb_bool (V : Vts) (v : Int) : mbool (vb V) (.int .i64 v) = (vg V v).getD false := by unfold mbool; rw [vb_find]; cases vg V v <;> rfl
theorem vb_val (V : Vts) (v : Int) : valB (vb V) (.int .i64 v) := fun x h => by
  rw [vb_find] at h
  cases hv : vg V v with
  | none => rw [hv] at h; cases h
  | some b => rw [hv] at h; cases h; exact ⟨b, .inr rfl⟩
theorem vb_set : ∀ (V : Vts) (v : Int) (y : Bool), vg V v = none → mset (vb V) (.int .i64 v) (.bsym y) = vb (V ++ [(v, y)])
  | [], v, y, _ => rfl
  | p :: V, v, y, h => by
    have e : kd IntKind.i64 IntKind.i64 = true := rfl
    simp only [vg] at h
    by_cases c : v = p.1
    · rw [if_pos c] at h; cases h
    · rw [if_neg c] at h
      have : (v == p.1) = false := by simpa using c
      simp only [vb, List.map_cons, List.cons_append, mset, keq, e, Bool.true_and, this, cond_false]
      have ih := vb_set V v y h
      unfold vb at ih
      rw [ih]
theorem vg_none {V : Vts} {v : Int} : vg V v = none ↔ v ∉ V.map (·.1) := by
  induction V with
  | nil => simp [vg]
  | cons p V ih =>
    simp only [vg, List.map_cons, List.mem_cons, not_or]
    by_cases c : v = p.1
    · rw [if_pos c]; simp [c]
    · rw [if_neg c, ih]; simp [c]
theorem vb_keys (V : Vts) : keysAre (V.map (·.1)) (vb V) := by
  unfold keysAre vb
  rw [List.map_map, List.map_map]; rfl
abbrev vBox (S : Nat) (ep : Int) : Blk := .box [.int .u32 (S : Nat), .int .i64 ep, .map 1]
abbrev vE (S : Nat) (ep : Int) : Mem := [vBox S ep, .map []]
abbrev vM (S : Nat) (ep q : Int) (V : Vts) : Mem := [vBox S ep, .map [(.int .i64 q, .map 2)], .map (vb V)]
theorem vnew_spec (S : Nat) (ep : Int) : Tri Tryd.prog 5 [ros S ep] [] (fun v m => v = .pbox 0 0 ∧ m = vE S ep) := by
  refine Tri.post ?_
  refine (Tri.enter (rl := r5) (code := c5) (by kernel_rfl) Tryd.func5 rfl c5_ok (by kernel_rfl) (by kernel_rfl) ?_)
  refine run_ok 4000 _ _ _ _ ?_
  simp (maxSteps := 10000000) only [go_sem, c5, r5]
  refine ⟨_, _, .sub [2, 1] ?_ .done, rfl, rfl⟩
  simp only [EmbV, go_sem]
theorem open_yes (S : Nat) (ep q : Int) (V : Vts) : Tri Tryd.prog 25 [.pbox 0 0, .int .i64 q] (vM S ep q V) (fun v m => v = .bool true ∧ m = vM S ep q V) := by
  refine Tri.post ?_
  skip
  refine (Tri.enter (rl := r25) (code := c25) (by kernel_rfl) Tryd.func25 rfl c25_ok (by kernel_rfl) (by kernel_rfl) ?_)
  refine run_ok 4000 _ _ _ _ ?_
  simp (maxSteps := 10000000) only [go_sem, c25, r25, beq_self_eq_true]
  refine ⟨_, _, .sub [0, 1, 2] ?_ .done, rfl, rfl⟩
  simp only [EmbV, go_sem]
theorem open_nil (S : Nat) (ep p : Int) : Tri Tryd.prog 25 [.pbox 0 0, .int .i64 p] (vE S ep) (fun v m => v = .bool false ∧ m = vE S ep) := by
  refine Tri.post ?_
  refine (Tri.enter (rl := r25) (code := c25) (by kernel_rfl) Tryd.func25 rfl c25_ok (by kernel_rfl) (by kernel_rfl) ?_)
  refine run_ok 4000 _ _ _ _ ?_
  simp (maxSteps := 10000000) only [go_sem, c25, r25]
  refine ⟨_, _, .sub [0, 1] ?_ .done, rfl, rfl⟩
  simp only [EmbV, go_sem]
theorem ask_spec (S : Nat) (hS : S < 4294967296) (ep p : Int) (h : hasN S p = true) (h0 : p ≠ 0) : Tri Tryd.prog 8 [.pbox 0 0, .int .i64 p] (vE S ep) (fun v m => v = .int .i64 0 ∧ m = vM S ep p []) := by
  refine Tri.post ?_
  have e : (p == 0) = false := by simpa using h0
  have hh := r_has_spec S hS ep p
  rw [h] at hh
  have ho := open_nil S ep p
  skip
  refine (Tri.enter (rl := r8) (code := c8) (by kernel_rfl) Tryd.func8 rfl c8_ok (by kernel_rfl) (by kernel_rfl) ?_)
  refine run_ok 4000 _ _ _ _ ?_
  simp (maxSteps := 10000000) only [go_sem, c8, r8, e]
  refine sem_call rfl rfl (((hh).embed [] rfl trivial rfl rfl rfl (by simp)).mono ?_)
  rintro _ _ ⟨_, _, ⟨rfl, rfl⟩, rfl, rfl⟩
  refine run_ok 4000 _ _ _ _ ?_
  simp (maxSteps := 10000000) only [go_sem, e]
  refine sem_call rfl rfl (((ho).embed [0, 1] rfl (by repeat' first | exact trivial | rfl | (simp only [go_sem]; done) | constructor) rfl (by first | rfl | simp only [go_sem]) rfl (by simp)).mono ?_)
  rintro _ _ ⟨_, _, ⟨rfl, rfl⟩, rfl, rfl⟩
  refine run_ok 4000 _ _ _ _ ?_
  simp (maxSteps := 10000000) only [go_sem, e]
  refine ⟨_, _, .sub [0, 1, 2] ?_ .done, rfl, rfl⟩
  simp only [EmbV, go_sem, vb, List.map_nil]
theorem vote_spec (S : Nat) (hS : S < 4294967296) (ep q v : Int) (V : Vts) (y : Bool) (h : hasN S v = true) (hq : v ≠ q) (hg : vg V v = none) : Tri Tryd.prog 10 [.pbox 0 0, .int .i64 v, .int .i64 q, .bsym y] (vM S ep q V) (fun x m => x = .int .i64 0 ∧ m = vM S ep q (V ++ [(v, y)])) := by
  refine Tri.post ?_
  have ho := open_yes S ep q V
  have hh := r_has_spec S hS ep v
  rw [h] at hh
  have e : (v == q) = false := by simpa using hq
  have k1 := vb_has V v
  have k2 := vb_bool V v
  have k3 := vb_val V v
  have k4 := vb_set V v y hg
  rw [hg] at k1 k2
  skip
  refine (Tri.enter (rl := r10) (code := c10) (by kernel_rfl) Tryd.func10 rfl c10_ok (by kernel_rfl) (by kernel_rfl) ?_)
  refine run_ok 4000 _ _ _ _ ?_
  simp (maxSteps := 10000000) only [go_sem, c10, r10, e, beq_self_eq_true, k1, k2, k3, k4, Option.isSome_none, Option.getD_none]
  refine sem_call rfl rfl (((ho).embed [0, 1, 2] rfl (by repeat' first | exact trivial | rfl | (simp only [go_sem]; done) | constructor) rfl (by first | rfl | simp only [go_sem]) rfl (by simp)).mono ?_)
  rintro _ _ ⟨_, _, ⟨rfl, rfl⟩, rfl, rfl⟩
  refine run_ok 4000 _ _ _ _ ?_
  simp (maxSteps := 10000000) only [go_sem, e, beq_self_eq_true, k1, k2, k3, k4, Option.isSome_none, Option.getD_none]
  refine sem_call rfl rfl (((hh).embed [] rfl trivial rfl rfl rfl (by simp)).mono ?_)
  rintro _ _ ⟨_, _, ⟨rfl, rfl⟩, rfl, rfl⟩
  refine run_ok 4000 _ _ _ _ ?_
  simp (maxSteps := 10000000) only [go_sem, e, beq_self_eq_true, k1, k2, k3, k4, Option.isSome_none, Option.getD_none]
  refine ⟨_, _, .sub [0, 1, 2] ?_ .done, rfl, rfl⟩
  simp only [EmbV, go_sem]
theorem Tri.word {P : Program} {f : FuncId} {a b c : AV} {y : Bool} {m : Mem} {K : AV → Mem → Prop} (h : Tri P f [a, b, c, .bsym y] m K) : Tri P f [a, b, c, .bool y] m K :=
  h.recast fun φ σ vs hv => by
    cases hv with
    | cons h1 hv => cases hv with
      | cons h2 hv => cases hv with
        | cons h3 hv => cases hv with
          | cons h4 hv => cases h4; exact .cons h1 (.cons h2 (.cons h3 (.cons .bsym hv)))
theorem r_iv_app (a b : List Int) : iv .i64 a ++ iv .i64 b = iv .i64 (a ++ b) := by simp [iv]
theorem r_iv_one (x : Int) : [[AV.int .i64 x]] = iv .i64 [x] := rfl
theorem r_iv_all (l : List Int) : sub (iv .i64 l) 0 l.length = iv .i64 l := by rw [iv_sub]; simp
def cntV (V : Vts) (b : Bool) : List Int := (sortI (V.map (·.1))).filter fun v => (vg V v).getD false == b
structure VOk (S : Nat) (q : Int) (V : Vts) : Prop where
  nd : (V.map (·.1)).Nodup
  mem : ∀ v ∈ V.map (·.1), hasN S v = true ∧ v ≠ q
theorem hasN_rg {S : Nat} {v : Int} (h : hasN S v = true) : 0 ≤ v ∧ v < 32 := by
  unfold hasN at h
  simp only [Bool.and_eq_true, decide_eq_true_eq] at h
  exact h.1
theorem wf_i64 {n : Int} (h : -9223372036854775808 ≤ n ∧ n ≤ 9223372036854775807) : (Lit.int .i64 n).wf = true := by
  have h1 : IntKind.i64.min = -9223372036854775808 := by decide
  have h2 : IntKind.i64.max = 9223372036854775807 := by decide
  simp only [Lit.wf, h1, h2, Bool.and_eq_true, decide_eq_true_eq]
  exact h
theorem r_pigeon : ∀ (n : Nat) (l : List Int) (a : Int), l.Nodup → (∀ x ∈ l, a < x ∧ x ≤ a + n) → l.length ≤ n
  | 0, l, a, _, h => by
    cases l with
    | nil => simp
    | cons x l => have := h x (by simp); omega
  | n + 1, l, a, hn, h => by
    have ih := r_pigeon n (l.erase (a + (n + 1 : Nat))) a (hn.erase _) fun x hx => by
      have h1 := (hn.mem_erase_iff).1 hx
      have := h x h1.2
      have := h1.1
      omega
    by_cases hm : a + ((n + 1 : Nat) : Int) ∈ l
    · rw [List.length_erase_of_mem hm] at ih; omega
    · rw [List.erase_of_not_mem hm] at ih; omega
theorem VOk.len {S : Nat} {q : Int} {V : Vts} (h : VOk S q V) : V.length ≤ 32 := by
  have := r_pigeon 32 (V.map (·.1)) (-1) h.nd fun v hv => by have := hasN_rg (h.mem v hv).1; omega
  simpa using this
theorem sort_perm (l : List Int) : (sortI l).Perm l := List.mergeSort_perm _ _
theorem sort_lt {l : List Int} (h : l.Nodup) : (sortI l).Pairwise (· < ·) := by
  have tr : ∀ a b c : Int, decide (a ≤ b) = true → decide (b ≤ c) = true → decide (a ≤ c) = true := fun a b c h1 h2 => by simp only [decide_eq_true_eq] at *; omega
  have to : ∀ a b : Int, (decide (a ≤ b) || decide (b ≤ a)) = true := fun a b => by simp only [Bool.or_eq_true, decide_eq_true_eq]; omega
  have h1 := List.pairwise_mergeSort tr to l
  have h2 : (sortI l).Nodup := (sort_perm l).nodup_iff.2 h
  rw [List.nodup_iff_pairwise_ne] at h2
  exact (h1.and h2).imp fun ⟨a, b⟩ => by simp only [decide_eq_true_eq] at a; omega
theorem r_keys_spec (es : List (AV × AV)) : Tri Tryd.prog 54 [.map 0] [.map es] (fun v m => v = .fn 58 [] [.pbox 1 0] ∧ m = [.map es, .box [.map 0]]) := by
  refine Tri.post ?_
  refine (Tri.enter (rl := r54) (code := c54) (by kernel_rfl) Tryd.func54 rfl c54_ok (by kernel_rfl) (by kernel_rfl) ?_)
  refine run_ok 4000 _ _ _ _ ?_
  simp (maxSteps := 10000000) only [go_sem, c54, r54]
  exact ⟨_, _, .done, rfl, rfl⟩
theorem r_sorted_spec {S : Nat} {q : Int} {V : Vts} (h : VOk S q V) : Tri Tryd.prog 42 [.fn 58 [] [.pbox 0 0]] [.box [.map 1], .map (vb V)]
    (fun v m => v = .sl 2 0 (V.map (·.1)).length (V.map (·.1)).length false ∧ m = [.box [.map 1], .map (vb V), .row 1 (iv .i64 (sortI (V.map (·.1))))]) :=
  tri_sorted (by kernel_rfl) TrydL.says53 Tryd.underlying3 (V.map (·.1)) (vb_keys V) h.nd (fun v hv => by have := hasN_rg (h.mem v hv).1; exact wf_i64 (by omega)) (by have := h.len; simp; omega)
theorem cnt_spec (S : Nat) (ep q : Int) (V : Vts) (h : VOk S q V) (b : Bool) : Tri Tryd.prog 48 [.pbox 0 0, .int .i64 q, .bool b] (vM S ep q V) (fun v m => v = .vsl 1 (iv .i64 (cntV V b)) false ∧ m = vM S ep q V) := by
  refine Tri.post ?_
  have hk := r_keys_spec (vb V)
  have hs := r_sorted_spec h
  have hlen := h.len
  unfold cntV
  have hsl : (sortI (V.map (·.1))).length = (V.map (·.1)).length := List.length_mergeSort _
  have hml : (V.map (·.1)).length ≤ 32 := by simpa using hlen
  generalize (V.map (·.1)).length = n at *
  generalize sortI (V.map (·.1)) = K at *
  skip
  refine (Tri.enter (rl := r48) (code := c48) (by kernel_rfl) Tryd.func48 rfl c48_ok (by kernel_rfl) (by kernel_rfl) ?_)
  refine run_ok 4000 _ _ _ _ ?_
  simp (maxSteps := 10000000) only [go_sem, c48, r48, beq_self_eq_true]
  refine sem_call rfl rfl (((hk).embed [2] rfl (by repeat' first | exact trivial | rfl | (simp only [go_sem]; done) | constructor) rfl (by first | rfl | simp only [go_sem]) rfl (by simp)).mono ?_)
  rintro _ _ ⟨_, _, ⟨rfl, rfl⟩, rfl, rfl⟩
  refine run_ok 4000 _ _ _ _ ?_
  simp (maxSteps := 10000000) only [go_sem, beq_self_eq_true]
  refine sem_call rfl rfl (((hs).embed [3, 2] rfl (by repeat' first | exact trivial | rfl | (simp only [go_sem]; done) | constructor) rfl (by first | rfl | simp only [go_sem]) rfl (by simp)).mono ?_)
  rintro _ _ ⟨_, _, ⟨rfl, rfl⟩, rfl, rfl⟩
  refine run_ok 4000 _ _ _ _ ?_
  simp (maxSteps := 10000000) only [go_sem, beq_self_eq_true]
  refine sem_virt 7 1 rfl ?_
  simp (maxSteps := 10000000) only [go_sem, beq_self_eq_true]
  refine sem_rounds (fun i : Nat => i ≤ n)
    (fun i => [(0, .pbox 0 0), (1, .int .i64 q), (2, .bool b), (7, .sl 4 0 ((K.take i).filter fun v => (vg V v).getD false == b).length ((K.take i).filter fun v => (vg V v).getD false == b).length false), (17, .sl 3 0 n n false), (18, .int .i64 n), (19, .int .i64 (i : Nat))])
    (fun i => [vBox S ep, .map [(.int .i64 q, .map 2)], .map (vb V), .row 1 (iv .i64 K), .row 1 (iv .i64 ((K.take i).filter fun v => (vg V v).getD false == b))]) (fun i => n - i) 0 [0, 1, 2, 4, 5] (Nat.zero_le _) ?_ ?_
  · simp [Emb, go_sem, iv]
  intro i hi
  by_cases c : i < n
  · have hin : (i : Int) < (n : Int) := by omega
    have ck : i < K.length := by omega
    have r0 := iv_rint (k := .i64) ck
    have h0 := iv_hasI (k := .i64) ck
    have w1 := inc64 (show i < 1000000000000 by omega)
    have htk : K.take (i + 1) = K.take i ++ [K[i]] := List.take_succ_eq_append_getElem ck
    have hnext : (K.take (i + 1)).filter (fun v => (vg V v).getD false == b) = (K.take i).filter (fun v => (vg V v).getD false == b) ++ if (vg V K[i]).getD false == b then [K[i]] else [] := by
      rw [htk, List.filter_append, List.filter_cons, List.filter_nil]
    have hol : ((K.take i).filter fun v => (vg V v).getD false == b).length ≤ 32 := by
      have h1 := List.length_filter_le (fun v => (vg V v).getD false == b) (K.take i)
      rw [List.length_take] at h1; omega
    generalize K[i] = x at *
    generalize ((K.take i).filter fun v => (vg V v).getD false == b) = out at *
    have k1 := vb_bool V x
    have k2 := vb_val V x
    cases hx : ((vg V x).getD false == b) with
    | true =>
      rw [hx, if_pos rfl] at hnext
      have hsm : small (out.length + 1) := by unfold small; omega
      skip
      refine run_ok 4000 _ _ _ _ ?_
      simp (maxSteps := 10000000) only [go_sem, hin, r0, h0, w1, k1, k2, hx, beq_self_eq_true, iv_len, Int.natCast_nonneg, r_iv_all, Nat.le_refl]
      refine ⟨hsm, ?_⟩
      refine ⟨i + 1, by omega, c, [0, 1, 2, 3, 5], ?_⟩
      simp only [hnext, List.length_append, List.length_singleton]
      rw [r_iv_one, r_iv_app]
      simp only [Emb, go_sem]
    | false =>
      rw [hx, if_neg (by simp), List.append_nil] at hnext
      skip
      refine run_ok 4000 _ _ _ _ ?_
      simp (maxSteps := 10000000) only [go_sem, hin, r0, h0, w1, k1, k2, hx, beq_self_eq_true, iv_len, Int.natCast_nonneg]
      refine ⟨i + 1, by omega, c, [0, 1, 2, 3, 4], ?_⟩
      simp only [hnext]
      simp only [Emb, go_sem]
  · have hge : ¬ (i : Int) < (n : Int) := by omega
    have hE : K.take i = K := List.take_of_length_le (by omega)
    rw [hE]
    generalize (K.filter fun v => (vg V v).getD false == b) = out at *
    skip
    refine run_ok 4000 _ _ _ _ ?_
    simp (maxSteps := 10000000) only [go_sem, hge]
    refine run_ok 4000 _ _ _ _ ?_
    simp (maxSteps := 10000000) only [go_sem, hge]
    refine ⟨_, _, .fz 4 rfl (by simp [go_sem, iv_len]) (.sub [0, 1, 2] ?_ .done), rfl, rfl⟩
    simp only [EmbV, go_sem, r_iv_all]
theorem yes_spec (S : Nat) (ep q : Int) (V : Vts) (h : VOk S q V) : Tri Tryd.prog 38 [.pbox 0 0, .int .i64 q] (vM S ep q V) (fun v m => v = .vsl 1 (iv .i64 (cntV V true)) false ∧ m = vM S ep q V) := by
  refine Tri.post ?_
  have hc := cnt_spec S ep q V h true
  refine (Tri.enter (rl := r38) (code := c38) (by kernel_rfl) Tryd.func38 rfl c38_ok (by kernel_rfl) (by kernel_rfl) ?_)
  refine run_ok 4000 _ _ _ _ ?_
  simp (maxSteps := 10000000) only [go_sem, c38, r38]
  refine sem_call rfl rfl (((hc).embed [0, 1, 2] rfl (by repeat' first | exact trivial | rfl | (simp only [go_sem]; done) | constructor) rfl (by first | rfl | simp only [go_sem]) rfl (by simp)).mono ?_)
  rintro _ _ ⟨_, _, ⟨rfl, rfl⟩, rfl, rfl⟩
  refine run_ok 4000 _ _ _ _ ?_
  simp (maxSteps := 10000000) only [go_sem]
  refine ⟨_, _, .sub [0, 1, 2] ?_ .done, rfl, rfl⟩
  simp only [EmbV, go_sem]
theorem cntV_ok {S : Nat} {q : Int} {V : Vts} (h : VOk S q V) (b : Bool) : (∀ v ∈ cntV V b, hasN S v = true ∧ v ≠ q) ∧ (cntV V b).Pairwise (· < ·) ∧ (cntV V b).length ≤ 32 := by
  refine ⟨fun v hv => h.mem v ((sort_perm _).mem_iff.1 (List.mem_filter.1 hv).1), (sort_lt h.nd).sublist List.filter_sublist, ?_⟩
  have h1 := List.length_filter_le (fun v => (vg V v).getD false == b) (sortI (V.map (·.1)))
  have h2 : (sortI (V.map (·.1))).length = (V.map (·.1)).length := List.length_mergeSort _
  have h3 := h.len
  unfold cntV
  simp at h2; omega
theorem won_spec (S : Nat) (hS : S < 4294967296) (ep q : Int) (V : Vts) (h : VOk S q V) (w : 2 * (cntV V true).length > pc S) : Tri Tryd.prog 22 [.pbox 0 0, .int .i64 q] (vM S ep q V)
    (fun v m => v = .tup [.agg [.int .i64 3, .int .i64 q, .vsl 1 (iv .i64 (cntV V true)) false], .bool true] ∧ m = vM S ep q V) := by
  refine Tri.post ?_
  have hy := yes_spec S ep q V h
  have ho := open_yes S ep q V
  obtain ⟨o1, o2, o3⟩ := cntV_ok h true
  have hm := r_most_spec S hS ep q (cntV V true) false (by omega) o1 o2
  rw [decide_eq_true w] at hm
  generalize cntV V true = Y at *
  refine (Tri.enter (rl := r22) (code := c22) (by kernel_rfl) Tryd.func22 rfl c22_ok (by kernel_rfl) (by kernel_rfl) ?_)
  refine run_ok 4000 _ _ _ _ ?_
  simp (maxSteps := 10000000) only [go_sem, c22, r22]
  refine sem_call rfl rfl (((hy).embed [0, 1, 2] rfl (by repeat' first | exact trivial | rfl | (simp only [go_sem]; done) | constructor) rfl (by first | rfl | simp only [go_sem]) rfl (by simp)).mono ?_)
  rintro _ _ ⟨_, _, ⟨rfl, rfl⟩, rfl, rfl⟩
  refine run_ok 4000 _ _ _ _ ?_
  simp (maxSteps := 10000000) only [go_sem]
  refine sem_call rfl rfl (((ho).embed [0, 1, 2] rfl (by repeat' first | exact trivial | rfl | (simp only [go_sem]; done) | constructor) rfl (by first | rfl | simp only [go_sem]) rfl (by simp)).mono ?_)
  rintro _ _ ⟨_, _, ⟨rfl, rfl⟩, rfl, rfl⟩
  refine run_ok 4000 _ _ _ _ ?_
  simp (maxSteps := 10000000) only [go_sem]
  refine sem_call rfl rfl (((hm).embed [] rfl trivial rfl rfl rfl (by simp)).mono ?_)
  rintro _ _ ⟨_, _, ⟨rfl, rfl⟩, rfl, rfl⟩
  refine run_ok 4000 _ _ _ _ ?_
  simp (maxSteps := 10000000) only [go_sem]
  refine ⟨_, _, .sub [0, 1, 2] ?_ .done, rfl, rfl⟩
  simp only [EmbV, go_sem]
end Go.AEX
