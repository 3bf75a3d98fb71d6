/- Roster: who plays, how many; are these more than half. -/
import Derived.Test.YthdkobfafncpcaaCom
import Derived.Test.YthdkobfafncpcaaCG
import Derived.Test.YthdkobfafncpcaaAEzj
import Derived.Test.YthdkobfafncpcaaAEsa
import Derived.KernelRfl
namespace Go.AEX
open Go Go.AE Go.Proofs
set_option maxRecDepth 100000
set_option linter.unusedVariables false
set_option linter.unusedSimpArgs false

theorem shr_u32n (b k : Nat) (hk : k ≤ 31) : ishr .u32 (b : Int) (k : Int) = ((b / 2 ^ k : Nat) : Int) := by
  show (b : Int).fdiv (2 ^ min (Int.toNat (k : Int)) 32) = _
  rw [Int.toNat_natCast, Nat.min_eq_left (by omega), Int.fdiv_eq_ediv_of_nonneg _ (by exact_mod_cast Nat.zero_le _)]
  norm_cast
theorem and1_u32 (n : Nat) (h : n < 4294967296) : ibits .and .u32 (n : Int) 1 = ((n % 2 : Nat) : Int) := by
  show iwrap .u32 ((BitVec.ofInt 32 (n : Int) &&& BitVec.ofInt 32 ((1 : Nat) : Int)).toNat : Int) = _
  rw [BitVec.ofInt_natCast, BitVec.ofInt_natCast, BitVec.toNat_and, BitVec.toNat_ofNat, BitVec.toNat_ofNat, Nat.mod_eq_of_lt (show n < 2 ^ 32 by omega), Nat.mod_eq_of_lt (show 1 < 2 ^ 32 by omega), Nat.and_one_is_mod, iwrap_u32]
  omega
theorem and255_u32 (n : Nat) (h : n < 4294967296) : ibits .and .u32 (n : Int) 255 = ((n % 256 : Nat) : Int) := by
  show iwrap .u32 ((BitVec.ofInt 32 (n : Int) &&& BitVec.ofInt 32 ((255 : Nat) : Int)).toNat : Int) = _
  have e : n &&& 255 = n % 256 := Nat.and_two_pow_sub_one_eq_mod n 8
  rw [BitVec.ofInt_natCast, BitVec.ofInt_natCast, BitVec.toNat_and, BitVec.toNat_ofNat, BitVec.toNat_ofNat, Nat.mod_eq_of_lt (show n < 2 ^ 32 by omega), Nat.mod_eq_of_lt (show 255 < 2 ^ 32 by omega), e, iwrap_u32]
  omega
theorem or_u32 (a b : Nat) (ha : a < 4294967296) (hb : b < 4294967296) : ibits .or .u32 (a : Int) (b : Int) = ((a ||| b : Nat) : Int) := by
  show iwrap .u32 ((BitVec.ofInt 32 (a : Int) ||| BitVec.ofInt 32 (b : Int)).toNat : Int) = _
  have h : a ||| b < 2 ^ 32 := Nat.or_lt_two_pow ha hb
  rw [BitVec.ofInt_natCast, BitVec.ofInt_natCast, BitVec.toNat_or, BitVec.toNat_ofNat, BitVec.toNat_ofNat, Nat.mod_eq_of_lt (show a < 2 ^ 32 by omega), Nat.mod_eq_of_lt (show b < 2 ^ 32 by omega), iwrap_u32]
  omega
theorem shl1_u32 (k : Nat) (hk : k ≤ 31) : ishl .u32 1 (k : Int) = ((2 ^ k : Nat) : Int) := by
  show iwrap .u32 ((1 : Int) * 2 ^ min (Int.toNat (k : Int)) 32) = _
  rw [Int.toNat_natCast, Nat.min_eq_left (by omega), iwrap_u32, Int.one_mul]
  have h : 2 ^ k ≤ 2 ^ 31 := Nat.pow_le_pow_right (by decide) hk
  have e : ((2 : Int) ^ k) = ((2 ^ k : Nat) : Int) := by norm_cast
  rw [e]
  have h2 : 2 ^ k < 4294967296 := Nat.lt_of_le_of_lt h (by decide)
  generalize 2 ^ k = x at *
  omega
def hasN (S : Nat) (p : Int) : Bool := decide (0 ≤ p) && decide (p < 32) && S.testBit p.toNat
abbrev ros (S : Nat) (ep : Int) : AV := .agg [.int .u32 (S : Nat), .int .i64 ep]
theorem has_spec (S : Nat) (hS : S < 4294967296) (ep p : Int) : Tri Try.prog 38 [ros S ep, .int .i64 p] [] (fun v m => v = .bsym (hasN S p) ∧ m = []) := by
  refine Tri.post ?_
  unfold hasN
  by_cases c0 : 0 ≤ p
  · by_cases c1 : p < 32
    · obtain ⟨k, rfl⟩ : ∃ k : Nat, p = (k : Int) := ⟨p.toNat, by omega⟩
      have hk : k ≤ 31 := by omega
      have e1 := shr_u32n S k hk
      have hlt : S / 2 ^ k < 4294967296 := Nat.lt_of_le_of_lt (Nat.div_le_self _ _) hS
      have e2 := and1_u32 (S / 2 ^ k) hlt
      have e3 : (((S / 2 ^ k % 2 : Nat) : Int) == 1) = S.testBit k := by
        rw [Nat.testBit_eq_decide_div_mod_eq]
        rw [Bool.eq_iff_iff]
        simp only [beq_iff_eq, decide_eq_true_eq]
        omega
      have g0 : (k : Int) ≥ 0 := by omega
      skip
      refine (Tri.enter (rl := r38) (code := c38) (by kernel_rfl) Try.func38 rfl c38_ok (by kernel_rfl) (by kernel_rfl) ?_)
      refine run_ok 4000 _ _ _ _ ?_
      simp (maxSteps := 10000000) only [go_sem, c38, r38, e1, e2, e3, c1, g0]
      refine ⟨_, _, .sub [] ?_ .done, rfl, rfl⟩
      simp [EmbV, go_sem, c0, c1]
    · have g0 : p ≥ 0 := c0
      skip
      refine (Tri.enter (rl := r38) (code := c38) (by kernel_rfl) Try.func38 rfl c38_ok (by kernel_rfl) (by kernel_rfl) ?_)
      refine run_ok 4000 _ _ _ _ ?_
      simp (maxSteps := 10000000) only [go_sem, c38, r38, c1, g0]
      refine ⟨_, _, .like (Like.bsym _) (.sub [] ?_ .done), rfl, rfl⟩
      simp [EmbV, go_sem, c1]
  · have g0 : ¬ p ≥ 0 := c0
    skip
    refine (Tri.enter (rl := r38) (code := c38) (by kernel_rfl) Try.func38 rfl c38_ok (by kernel_rfl) (by kernel_rfl) ?_)
    refine run_ok 4000 _ _ _ _ ?_
    simp (maxSteps := 10000000) only [go_sem, c38, r38, g0]
    refine ⟨_, _, .like (Like.bsym _) (.sub [] ?_ .done), rfl, rfl⟩
    simp [EmbV, go_sem, c0]
def ofN : List Int → Nat → Nat
  | [], S => S
  | p :: ps, S => ofN ps (if 0 ≤ p ∧ p < 32 then S ||| 2 ^ p.toNat else S)
theorem or_lt {S k : Nat} (hS : S < 4294967296) (hk : k ≤ 31) : S ||| 2 ^ k < 4294967296 := by
  have h : 2 ^ k ≤ 2 ^ 31 := Nat.pow_le_pow_right (by decide) hk
  exact Nat.or_lt_two_pow (n := 32) hS (by omega)
theorem of_spec (ps : List Int) (tight : Bool) (hl : ps.length ≤ 100000) : Tri Try.prog 22 [.vsl 1 (iv .i64 ps) tight] [] (fun v m => v = ros (ofN ps 0) 0 ∧ m = []) := by
  refine Tri.post ?_
  refine (Tri.enter (rl := r22) (code := c22) (by kernel_rfl) Try.func22 rfl c22_ok (by kernel_rfl) (by kernel_rfl) ?_)
  refine run_ok 4000 _ _ _ _ ?_
  simp (maxSteps := 10000000) only [go_sem, c22, r22]
  refine sem_rounds (fun q : Nat × Nat => q.1 ≤ ps.length ∧ q.2 < 4294967296 ∧ ofN ps 0 = ofN (ps.drop q.1) q.2)
    (fun q => [(2, .pbox 0 0), (3, .pbox 1 0), (6, .vsl 1 (iv .i64 ps) tight), (7, .int .i64 ps.length), (8, .int .i64 (q.1 : Nat))])
    (fun q => [.box [.int .u32 0, .int .i64 0], .box [.int .u32 (q.2 : Nat), .int .i64 0]]) (fun q => ps.length - q.1) (0, 0) [0, 1] ⟨Nat.zero_le _, by simp, rfl⟩ ?_ ?_
  · simp [Emb, go_sem, iv_len]
  rintro ⟨i, S⟩ ⟨hi, hS, hE⟩
  simp only at hi hS hE ⊢
  by_cases c : i < ps.length
  · have hin : (i : Int) < (ps.length : Int) := by omega
    have r0 := iv_rint (k := .i64) c
    have h0 := iv_hasI (k := .i64) c
    have w1 := inc64 (show i < 1000000000000 by omega)
    have hd : ps.drop i = ps[i] :: ps.drop (i + 1) := List.drop_eq_getElem_cons c
    rw [hd] at hE
    generalize ps[i] = p at *
    by_cases c0 : 0 ≤ p ∧ p < 32
    · obtain ⟨k, rfl⟩ : ∃ k : Nat, p = (k : Int) := ⟨p.toNat, by omega⟩
      have hk : k ≤ 31 := by omega
      have e1 := shl1_u32 k hk
      have hp : 2 ^ k < 4294967296 := Nat.lt_of_le_of_lt (Nat.pow_le_pow_right (by decide) hk) (by decide : 2 ^ 31 < 4294967296)
      have e2 := or_u32 S (2 ^ k) hS hp
      have hS' := or_lt hS hk
      have g0 : (k : Int) ≥ 0 := by omega
      have g1 := c0.2
      rw [ofN, if_pos c0, Int.toNat_natCast] at hE
      generalize S ||| 2 ^ k = S' at *
      generalize 2 ^ k = K2 at *
      skip
      refine run_ok 4000 _ _ _ _ ?_
      simp (maxSteps := 10000000) only [go_sem, hin, r0, h0, w1, e1, e2, g0, g1, Int.natCast_nonneg, iv_len]
      refine sem_drawG l22_0_ok (by kernel_rfl) ?_
      intro KK hKK
      simp (maxSteps := 10000000) only [go_sem, l22_0, hin, r0, h0, w1, e1, e2, g0, g1, Int.natCast_nonneg, iv_len]
      subst hKK
      simp (maxSteps := 10000000) only [go_sem, hin, r0, h0, w1, e1, e2, g0, g1, Int.natCast_nonneg, iv_len]
      refine ⟨(i + 1, S'), by simp only; omega, ⟨c, hS', hE⟩, [0, 1], ?_⟩
      simp only [Emb, go_sem]
    · rw [ofN, if_neg c0] at hE
      by_cases c1 : 0 ≤ p
      · have g0 : p ≥ 0 := c1
        have g1 : ¬ p < 32 := by omega
        skip
        refine run_ok 4000 _ _ _ _ ?_
        simp (maxSteps := 10000000) only [go_sem, hin, r0, h0, w1, g0, g1, Int.natCast_nonneg, iv_len]
        refine ⟨(i + 1, S), by simp only; omega, ⟨c, hS, hE⟩, [0, 1], ?_⟩
        simp only [Emb, go_sem]
      · have g0 : ¬ p ≥ 0 := by omega
        skip
        refine run_ok 4000 _ _ _ _ ?_
        simp (maxSteps := 10000000) only [go_sem, hin, r0, h0, w1, g0, Int.natCast_nonneg, iv_len]
        refine ⟨(i + 1, S), by simp only; omega, ⟨c, hS, hE⟩, [0, 1], ?_⟩
        simp only [Emb, go_sem]
  · have hge : ¬ (i : Int) < (ps.length : Int) := by omega
    rw [List.drop_eq_nil_of_le (by omega), ofN] at hE
    rw [hE]
    skip
    refine run_ok 4000 _ _ _ _ ?_
    simp (maxSteps := 10000000) only [go_sem, hge, iv_len]
    refine run_ok 4000 _ _ _ _ ?_
    simp (maxSteps := 10000000) only [go_sem, hge, iv_len]
    refine ⟨_, _, .sub [] ?_ .done, rfl, rfl⟩
    simp only [EmbV, go_sem]
/-! how many -/
def pc8 (n : Nat) : Nat := (List.range 8).foldl (fun a i => a + if n.testBit i then 1 else 0) 0
def pc (S : Nat) : Nat := pc8 (S / 2 ^ 24) + pc8 (S / 2 ^ 16 % 256) + pc8 (S / 2 ^ 8 % 256) + pc8 (S % 256)
theorem pc8_le : ∀ n < 256, pc8 n ≤ 8 := by decide +kernel
theorem tab_get : ∀ n < 256, big0.getD n 0 = UInt8.ofNat (pc8 n) := by decide +kernel
theorem tab_len : big0.length = 256 := by decide +kernel
theorem tab_sget {n : Nat} (h : n < 256) : sget big0 (n : Int) = (pc8 n : Nat) := by
  unfold sget
  rw [Int.toNat_natCast, tab_get n h]
  have := pc8_le n h
  rw [UInt8.toNat_ofNat_of_lt' (by have h2 : UInt8.size = 256 := rfl; omega)]
theorem count_spec (S : Nat) (hS : S < 4294967296) : Tri Try.prog 54 [.int .u32 (S : Nat)] [] (fun v m => v = .int .i64 (pc S : Nat) ∧ m = []) := by
  refine Tri.post ?_
  have e1 : ishr .u32 (S : Int) 24 = ((S / 2 ^ 24 : Nat) : Int) := shr_u32n S 24 (by decide)
  have e2 : ishr .u32 (S : Int) 16 = ((S / 2 ^ 16 : Nat) : Int) := shr_u32n S 16 (by decide)
  have e3 : ishr .u32 (S : Int) 8 = ((S / 2 ^ 8 : Nat) : Int) := shr_u32n S 8 (by decide)
  have a2 := and255_u32 (S / 2 ^ 16) (by omega)
  have a3 := and255_u32 (S / 2 ^ 8) (by omega)
  have a4 := and255_u32 S hS
  have b1 : S / 2 ^ 24 < 256 := by omega
  have b2 : S / 2 ^ 16 % 256 < 256 := Nat.mod_lt _ (by decide)
  have b3 : S / 2 ^ 8 % 256 < 256 := Nat.mod_lt _ (by decide)
  have b4 : S % 256 < 256 := Nat.mod_lt _ (by decide)
  unfold pc
  generalize S / 2 ^ 24 = x1 at *
  generalize S / 2 ^ 16 = y2 at *
  generalize S / 2 ^ 8 = y3 at *
  generalize y2 % 256 = x2 at *
  generalize y3 % 256 = x3 at *
  generalize S % 256 = x4 at *
  have g1 := tab_sget b1
  have g2 := tab_sget b2
  have g3 := tab_sget b3
  have g4 := tab_sget b4
  have p1 := pc8_le x1 b1
  have p2 := pc8_le x2 b2
  have p3 := pc8_le x3 b3
  have p4 := pc8_le x4 b4
  generalize pc8 x1 = z1 at *
  generalize pc8 x2 = z2 at *
  generalize pc8 x3 = z3 at *
  generalize pc8 x4 = z4 at *
  have l1 : (x1 : Int) < 256 := by omega
  have l2 : (x2 : Int) < 256 := by omega
  have l3 : (x3 : Int) < 256 := by omega
  have l4 : (x4 : Int) < 256 := by omega
  have w1 : iwrap .u8 ((z1 : Int) + (z2 : Int)) = (z1 : Int) + (z2 : Int) := by rw [iwrap_u8]; omega
  have w2 : iwrap .u8 ((z1 : Int) + (z2 : Int) + (z3 : Int)) = (z1 : Int) + (z2 : Int) + (z3 : Int) := by rw [iwrap_u8]; omega
  have w3 : iwrap .u8 ((z1 : Int) + (z2 : Int) + (z3 : Int) + (z4 : Int)) = (z1 : Int) + (z2 : Int) + (z3 : Int) + (z4 : Int) := by rw [iwrap_u8]; omega
  have w4 : iwrap .i64 ((z1 : Int) + (z2 : Int) + (z3 : Int) + (z4 : Int)) = ((z1 + z2 + z3 + z4 : Nat) : Int) := by rw [iwrap_i64_in (by omega)]; omega
  skip
  refine (Tri.enter (rl := r54) (code := c54) (by kernel_rfl) Try.func54 rfl c54_ok (by kernel_rfl) (by kernel_rfl) ?_)
  refine run_ok 4000 _ _ _ _ ?_
  simp (maxSteps := 10000000) only [go_sem, c54, r54, e1, e2, e3, a2, a3, a4, g1, g2, g3, g4, l1, l2, l3, l4, w1, w2, w3, w4, tab_len, big1, Int.natCast_nonneg]
  refine sem_drawG l54_0_ok (by kernel_rfl) ?_
  intro KK hKK
  simp (maxSteps := 10000000) only [go_sem, l54_0, e1, e2, e3, a2, a3, a4, g1, g2, g3, g4, l1, l2, l3, l4, w1, w2, w3, w4, tab_len, big1, Int.natCast_nonneg]
  subst hKK
  simp (maxSteps := 10000000) only [go_sem, e1, e2, e3, a2, a3, a4, g1, g2, g3, g4, l1, l2, l3, l4, w1, w2, w3, w4, tab_len, big1, Int.natCast_nonneg]
  refine ⟨_, _, .sub [] ?_ .done, rfl, rfl⟩
  simp only [EmbV, go_sem]
theorem len_spec (S : Nat) (hS : S < 4294967296) (ep : Int) : Tri Try.prog 41 [ros S ep] [] (fun v m => v = .int .i64 (pc S : Nat) ∧ m = []) := by
  refine Tri.post ?_
  have hc := count_spec S hS
  refine (Tri.enter (rl := r41) (code := c41) (by kernel_rfl) Try.func41 rfl c41_ok (by kernel_rfl) (by kernel_rfl) ?_)
  refine run_ok 4000 _ _ _ _ ?_
  simp (maxSteps := 10000000) only [go_sem, c41, r41]
  refine sem_call rfl rfl (((hc).embed [] rfl trivial rfl rfl rfl (by simp)).mono ?_)
  rintro _ _ ⟨_, _, ⟨rfl, rfl⟩, rfl, rfl⟩
  refine run_ok 4000 _ _ _ _ ?_
  simp (maxSteps := 10000000) only [go_sem]
  refine ⟨_, _, .sub [] ?_ .done, rfl, rfl⟩
  simp only [EmbV, go_sem]
theorem most_spec (S : Nat) (hS : S < 4294967296) (ep nt : Int) (vs : List Int) (tight : Bool) (hl : vs.length ≤ 1000) (hv : ∀ v ∈ vs, hasN S v = true ∧ v ≠ nt) (hr : vs.Pairwise (· < ·)) :
    Tri Try.prog 40 [ros S ep, .int .i64 nt, .vsl 1 (iv .i64 vs) tight] [] (fun v m => v = .bsym (decide (2 * vs.length > pc S)) ∧ m = []) := by
  refine Tri.post ?_
  have hlen := len_spec S hS ep
  skip
  refine (Tri.enter (rl := r40) (code := c40) (by kernel_rfl) Try.func40 rfl c40_ok (by kernel_rfl) (by kernel_rfl) ?_)
  refine run_ok 4000 _ _ _ _ ?_
  simp (maxSteps := 10000000) only [go_sem, c40, r40, iv_len]
  refine sem_rounds (fun i : Nat => i ≤ vs.length)
    (fun i => [(1, .int .i64 nt), (2, .vsl 1 (iv .i64 vs) tight), (3, .pbox 0 0), (9, .vsl 1 (iv .i64 vs) tight), (10, .int .i64 vs.length), (11, .int .i64 (i : Nat))])
    (fun i => [.box [.int .u32 (S : Nat), .int .i64 ep]]) (fun i => vs.length - i) 0 [0] (Nat.zero_le _) ?_ ?_
  · simp [Emb, go_sem, iv_len]
  intro i hi
  by_cases c : i < vs.length
  · have hin : (i : Int) < (vs.length : Int) := by omega
    have r0 := iv_rint (k := .i64) c
    have h0 := iv_hasI (k := .i64) c
    have hm := hv _ (List.getElem_mem c)
    have hhas := has_spec S hS ep vs[i]
    rw [hm.1] at hhas
    have hne : (vs[i] == nt) = false := by simpa using hm.2
    have w1 := inc64 (show i < 1000000000000 by omega)
    cases i with
    | zero =>
      have g0 : ¬ (0 : Int) > 0 := by omega
      have hin0 : (0 : Int) < (vs.length : Int) := by omega
      generalize vs[0] = v at *
      skip
      refine run_ok 4000 _ _ _ _ ?_
      simp (maxSteps := 10000000) only [go_sem, hin0, r0, h0, hne, show iwrap .i64 (1 : Int) = 1 from rfl, g0, iv_len, Int.natCast_nonneg]
      refine sem_call rfl rfl (((hhas).embed [] rfl trivial rfl rfl rfl (by simp)).mono ?_)
      rintro _ _ ⟨_, _, ⟨rfl, rfl⟩, rfl, rfl⟩
      refine run_ok 4000 _ _ _ _ ?_
      simp (maxSteps := 10000000) only [go_sem, hin0, r0, h0, hne, show iwrap .i64 (1 : Int) = 1 from rfl, g0, iv_len, Int.natCast_nonneg]
      refine ⟨1, by omega, c, [0], ?_⟩
      simp only [Emb, go_sem]
    | succ j =>
      have cj : j < vs.length := by omega
      have r1 := iv_rint (k := .i64) cj
      have h1 := iv_hasI (k := .i64) cj
      have hin1 : (j : Int) < (vs.length : Int) := by omega
      have hlt : vs[j] < vs[j + 1] := List.pairwise_iff_getElem.1 hr j (j + 1) cj c (by omega)
      have g0 : ((j + 1 : Nat) : Int) > 0 := by omega
      have g1 : ¬ vs[j] ≥ vs[j + 1] := by omega
      have w2 : iwrap .i64 (((j + 1 : Nat) : Int) - 1) = (j : Int) := by rw [iwrap_i64_in (by omega)]; omega
      generalize vs[j + 1] = v at *
      generalize vs[j] = u at *
      skip
      refine run_ok 4000 _ _ _ _ ?_
      simp (maxSteps := 10000000) only [go_sem, hin, hin1, r0, h0, r1, h1, hne, w1, w2, g0, g1, iv_len, Int.natCast_nonneg]
      refine sem_call rfl rfl (((hhas).embed [] rfl trivial rfl rfl rfl (by simp)).mono ?_)
      rintro _ _ ⟨_, _, ⟨rfl, rfl⟩, rfl, rfl⟩
      refine run_ok 4000 _ _ _ _ ?_
      simp (maxSteps := 10000000) only [go_sem, hin, hin1, r0, h0, r1, h1, hne, w1, w2, g0, g1, iv_len, Int.natCast_nonneg]
      refine ⟨j + 1 + 1, by omega, c, [0], ?_⟩
      simp only [Emb, go_sem]
  · have hge : ¬ (i : Int) < (vs.length : Int) := by omega
    have w1 : iwrap .i64 ((2 : Int) * (vs.length : Int)) = ((2 * vs.length : Nat) : Int) := by rw [iwrap_i64_in (by omega)]; omega
    have e1 : decide (((2 * vs.length : Nat) : Int) > ((pc S : Nat) : Int)) = decide (2 * vs.length > pc S) := by
      rw [Bool.eq_iff_iff]; simp only [decide_eq_true_eq]; omega
    skip
    refine run_ok 4000 _ _ _ _ ?_
    simp (maxSteps := 10000000) only [go_sem, hge, w1, iv_len]
    refine run_ok 4000 _ _ _ _ ?_
    simp (maxSteps := 10000000) only [go_sem, hge, w1, iv_len]
    refine sem_call rfl rfl (((hlen).embed [] rfl trivial rfl rfl rfl (by simp)).mono ?_)
    rintro _ _ ⟨_, _, ⟨rfl, rfl⟩, rfl, rfl⟩
    refine run_ok 4000 _ _ _ _ ?_
    simp (maxSteps := 10000000) only [go_sem, hge, w1, iv_len]
    refine ⟨_, _, .sub [] ?_ .done, rfl, rfl⟩
    simp only [EmbV, go_sem, e1]
end Go.AEX
