/- Window, what came: contracts. -/
import Derived.Test.YtbbokkienmicmaaWin
import Derived.Test.YtbbokkienmicmaaAEze
namespace Go.AEX
open Go Go.AE Go.Proofs
set_option maxRecDepth 100000
set_option linter.unusedVariables false
set_option linter.unusedSimpArgs false

/-! ### the reference -/
def jrow (p : Int × List UInt8) : List AV := [.int .i64 p.1, .str p.2]
def jrows (l : Ent) : List (List AV) := l.map jrow
theorem jrows_len (l : Ent) : (jrows l).length = l.length := by simp [jrows]
theorem jrows_app (l k : Ent) : jrows l ++ jrows k = jrows (l ++ k) := by simp [jrows]
theorem sub_jrows (l : Ent) : sub (jrows l) 0 l.length = jrows l := by have := sub_all (jrows l); rwa [jrows_len] at this
theorem jsub (l : Ent) (i n : Nat) : sub (jrows l) i n = jrows ((l.drop i).take n) := by simp [sub, jrows, List.map_take, List.map_drop]
theorem jrow_one (p : Int × List UInt8) : [[AV.int .i64 p.1, AV.str p.2]] = jrows [p] := rfl
theorem jrows_nil : jrows [] = [] := rfl
theorem jget {l : Ent} {i : Nat} (h : i < l.length) : (jrows l)[i]? = some (jrow l[i]) := by simp [jrows, h]
theorem j_hasI {l : Ent} {i : Nat} (h : i < l.length) : hasI .i64 (jrows l) i 0 := ⟨_, _, jget h, rfl⟩
theorem j_hasS {l : Ent} {i : Nat} (h : i < l.length) : hasS (jrows l) i 1 := ⟨_, _, jget h, rfl⟩
theorem j_rint {l : Ent} {i : Nat} (h : i < l.length) : rint (jrows l) i 0 = l[i].1 := by simp [rint, List.getD_eq_getElem?_getD, jget h, jrow]
theorem j_rstr {l : Ent} {i : Nat} (h : i < l.length) : rstr (jrows l) i 1 = l[i].2 := by simp [rstr, List.getD_eq_getElem?_getD, jget h, jrow]
attribute [go_sem] jrows_len jrows_app sub_jrows
/-- A key's place. -/
def ixE : Ent → Int → Option Nat
  | [], _ => none
  | p :: L, k => if k = p.1 then some 0 else (ixE L k).map (· + 1)
def fdE (L : Ent) (k : Int) : Int := match ixE L k with | some i => (i : Int) | none => -1
theorem ixE_lk : ∀ (L : Ent) (k : Int), (ixE L k = none ∧ lkE L k = none) ∨ ∃ i, ixE L k = some i ∧ ∃ h : i < L.length, lkE L k = some L[i].2 ∧ L[i].1 = k ∧ delE L k = L.take i ++ L.drop (i + 1)
  | [], _ => .inl ⟨rfl, rfl⟩
  | p :: L, k => by
    simp only [ixE, lkE, delE]
    by_cases hk : k = p.1
    · right; exact ⟨0, by simp [hk], by simp, by simp [hk], by simp [hk], by simp [hk]⟩
    · simp only [hk, if_false]
      rcases ixE_lk L k with ⟨h1, h2⟩ | ⟨i, h1, h2, h3, h4, h5⟩
      · left; exact ⟨by rw [h1]; rfl, h2⟩
      · right; exact ⟨i + 1, by rw [h1]; rfl, by simpa using h2, by simpa using h3, by simpa using h4, by simpa using h5⟩
theorem find_spec (l : Ent) (k : Int) (hl : l.length ≤ 1000000) : Tri Try.prog 41 [.vsl 2 (jrows l) false, .int .i64 k] [] (fun v m => v = .int .i64 (fdE l k) ∧ m = []) := by
  refine Tri.post ?_
  refine (Tri.enter (rl := r41) (code := c41) (by kernel_rfl) Try.func41 rfl c41_ok (by kernel_rfl) (by kernel_rfl) ?_)
  refine run_ok 4000 _ _ _ _ ?_
  simp (maxSteps := 10000000) only [go_sem, c41, r41]
  refine sem_rounds (fun i : Nat => i ≤ l.length ∧ ixE l k = (ixE (l.drop i) k).map (· + i)) (fun i => [(1, .int .i64 k), (7, .vsl 2 (jrows l) false), (8, .int .i64 l.length), (9, .int .i64 (i : Nat))]) (fun i => []) (fun i => l.length - i) 0 [] ⟨Nat.zero_le _, by simp⟩ ?_ ?_
  · simp only [Emb, go_sem]
  rintro i ⟨hi, hx⟩
  refine run_ok 4000 _ _ _ _ ?_
  simp (maxSteps := 10000000) only [go_sem]
  refine ⟨fun hlt => ?_, fun hge => ?_⟩
  · have hlt : i < l.length := by omega
    have hd : l.drop i = l[i] :: l.drop (i + 1) := List.drop_eq_getElem_cons hlt
    have hin : (i : Int) < (l.length : Int) := by omega
    rw [hd] at hx
    skip
    simp (maxSteps := 10000000) only [go_sem, j_rint hlt, j_rstr hlt, j_hasI hlt, j_hasS hlt, hin, Int.natCast_nonneg, inc64 (show i < 1000000000000 by omega)]
    refine ⟨fun he => ?_, fun he => ?_⟩
    · have he' : k = l[i].1 := (beq_iff_eq.1 he).symm
      have hx' : ixE l k = some i := by rw [hx]; simp [ixE, he']
      have : fdE l k = i := by simp only [fdE, hx']
      refine ⟨_, _, .sub [] ?_ .done, rfl, rfl⟩
      simp only [EmbV, go_sem, this]
    · have he' : ¬ k = l[i].1 := by intro e; rw [e] at he; simp at he
      refine ⟨i + 1, by omega, ⟨by omega, ?_⟩, [], ?_⟩
      · rw [hx]
        simp only [ixE, he', if_false, Option.map_map]
        congr 1; funext q; simp; omega
      · simp only [Emb, go_sem]
  · have hd : l.drop i = [] := List.drop_eq_nil_of_le (by omega)
    rw [hd] at hx
    have : fdE l k = -1 := by simp only [fdE, hx, ixE]; rfl
    skip
    refine run_ok 4000 _ _ _ _ ?_
    simp (maxSteps := 10000000) only [go_sem]
    refine ⟨_, _, .done, ?_, rfl⟩
    rw [this]
def drainR : Nat → Int → Ent → List (List UInt8) → Int × Ent × List (List UInt8)
  | 0, next, L, out => (next, L, out)
  | f + 1, next, L, out => match lkE L next with
    | none => (next, L, out)
    | some s => drainR f (next + 1) (delE L next) (out ++ [s])
def putR (next : Int) (L : Ent) (n : Int) (s : List UInt8) : (Int × Ent) × List (List UInt8) × Int :=
  if n < next then ((next, L), [], 11) else if n > next + 32 then ((next, L), [], 8) else if (lkE L n).isSome then ((next, L), [], 10) else
    (((drainR 40 next (L ++ [(n, s)]) []).1, (drainR 40 next (L ++ [(n, s)]) []).2.1), (drainR 40 next (L ++ [(n, s)]) []).2.2, 0)
theorem fdE_has (L : Ent) (k : Int) : (fdE L k ≥ 0) = ((lkE L k).isSome = true) := by
  unfold fdE
  rcases ixE_lk L k with ⟨h1, h2⟩ | ⟨i, h1, h2, h3, _⟩
  · rw [h1, h2]; simp
  · rw [h1, h3]; simp
theorem rput_spec (next : Int) (L : Ent) (n : Int) (s : List UInt8) (hL : L.length ≤ 1000) (hn : 0 ≤ next ∧ next ≤ 1000000) (hk : -1000 ≤ n ∧ n ≤ 1001000) :
    Tri Try.prog 28 [.agg [.int .i64 next, .vsl 2 (jrows L) false], .agg [.int .i64 n, .str s]] []
      (fun v m => v = .tup [.agg [.int .i64 (putR next L n s).1.1, .vsl 2 (jrows (putR next L n s).1.2) false], .vsl 1 (sv (putR next L n s).2.1) false, .int .i64 (putR next L n s).2.2] ∧ m = []) := by
  refine Tri.post ?_
  have h32 : iwrap .i64 (next + 32) = next + 32 := iwrap_i64_in (by omega)
  skip
  refine (Tri.enter (rl := r28) (code := c28) (by kernel_rfl) Try.func28 rfl c28_ok (by kernel_rfl) (by kernel_rfl) ?_)
  refine run_ok 4000 _ _ _ _ ?_
  simp (maxSteps := 10000000) only [go_sem, c28, r28, h32]
  refine ⟨fun h => ?_, fun h1 => ⟨fun h => ?_, fun h2 => ?_⟩⟩
  · refine ⟨_, _, .like (Like.tup3 (Like.refl _) (Like.nilv 1 false) (Like.refl _)) (.sub [] ?_ .done), rfl, rfl⟩
    simp only [EmbV, go_sem]
    simp [putR, jrows_nil, sv_nil, *]
  · refine ⟨_, _, .like (Like.tup3 (Like.refl _) (Like.nilv 1 false) (Like.refl _)) (.sub [] ?_ .done), rfl, rfl⟩
    simp only [EmbV, go_sem]
    simp [putR, jrows_nil, sv_nil, *]
  · refine sem_call rfl rfl (((find_spec L n (by omega)).embed [] rfl trivial rfl rfl rfl (by simp)).mono ?_)
    rintro _ _ ⟨_, _, ⟨rfl, rfl⟩, rfl, rfl⟩
    refine run_ok 4000 _ _ _ _ ?_
    simp (maxSteps := 10000000) only [go_sem, h32]
    skip
    simp only [fdE_has]
    refine ⟨fun h => ?_, fun h3 => ?_⟩
    · refine ⟨_, _, .like (Like.tup3 (Like.refl _) (Like.nilv 1 false) (Like.refl _)) (.sub [] ?_ .done), rfl, rfl⟩
      simp only [EmbV, go_sem]
      simp [putR, jrows_nil, sv_nil, *]
    · have h3' : (lkE L n).isSome = false := by simpa using h3
      refine sem_drawG l28_0_ok (by kernel_rfl) ?_
      intro KK hKK
      simp (maxSteps := 10000000) only [go_sem, l28_0, fdE_has]
      subst hKK
      simp (maxSteps := 10000000) only [go_sem, fdE_has]
      refine ⟨by unfold small; omega, by unfold small; omega, ?_⟩
      refine sem_virt 7 1 rfl ?_
      simp (maxSteps := 10000000) only [go_sem, fdE_has]
      have hput : putR next L n s = (((drainR 40 next (L ++ [(n, s)]) []).1, (drainR 40 next (L ++ [(n, s)]) []).2.1), (drainR 40 next (L ++ [(n, s)]) []).2.2, 0) := by
        simp only [putR, if_neg h1, if_neg h2, h3', Bool.false_eq_true, if_false]
      rw [hput]
      generalize hD : drainR 40 next (L ++ [(n, s)]) [] = D
      refine sem_rounds (fun x : Nat × Int × Ent × List (List UInt8) => x.1 ≤ 40 ∧ drainR (40 - x.1) x.2.1 x.2.2.1 x.2.2.2 = D ∧ x.2.2.1.length ≤ 1001 ∧ x.2.2.2.length ≤ x.1 ∧ 0 ≤ x.2.1 ∧ x.2.1 ≤ 1000000 + x.1)
        (fun x => [(2, .pbox 0 0), (4, .pbox 1 0), (7, .sl 3 0 x.2.2.2.length x.2.2.2.length false), (8, .int .i64 (x.1 : Nat))])
        (fun x => [.box [.int .i64 x.2.1, .sl 2 0 x.2.2.1.length x.2.2.1.length false], .box [.int .i64 0, .nilsl], .row 2 (jrows x.2.2.1), .row 1 (sv x.2.2.2)]) (fun x => 40 - x.1) (0, next, L ++ [(n, s)], []) [0, 2, 4, 5] ⟨by simp, by simpa using hD, by simp; omega, by simp, hn.1, by simp; omega⟩ ?_ ?_
      · simp only [Emb, go_sem, jrow_one (n, s)]
        simp [sv_nil, jrows]
      rintro ⟨k, nx, M, o⟩ ⟨g0, g1, g2, g3, g4, g5⟩
      simp only at g0 g1 g2 g3 g4 g5
      refine sem_freeze 2 rfl (by simp only [go_sem]) ?_
      skip
      simp (maxSteps := 10000000) only [go_sem]
      refine run_ok 4000 _ _ _ _ ?_
      simp (maxSteps := 10000000) only [go_sem]
      refine ⟨fun hk => ?_, fun hk => ?_⟩
      · have hk' : k < 40 := by omega
        obtain ⟨f, hf⟩ : ∃ f, 40 - k = f + 1 := ⟨39 - k, by omega⟩
        rw [hf] at g1
        refine sem_call rfl rfl (((find_spec M nx (by omega)).embed [] rfl trivial rfl rfl rfl (by simp)).mono ?_)
        rintro _ _ ⟨_, _, ⟨rfl, rfl⟩, rfl, rfl⟩
        refine run_ok 4000 _ _ _ _ ?_
        simp (maxSteps := 10000000) only [go_sem]
        rcases ixE_lk M nx with ⟨e1, e2⟩ | ⟨i, e1, e2, e3, e4, e5⟩
        · have hfd : fdE M nx = -1 := by simp only [fdE, e1]
          have hD' : D = (nx, M, o) := by rw [← g1]; simp only [drainR, e2]
          skip
          simp (maxSteps := 10000000) only [go_sem, hfd]
          refine ⟨_, _, .fz 3 rfl (by simp [svl_len]) (.sub [] ?_ .done), rfl, rfl⟩
          simp only [EmbV, go_sem, hD']
        · have hfd : fdE M nx = (i : Int) := by simp only [fdE, e1]
          have hni : ¬ (i : Int) < 0 := by omega
          skip
          simp (maxSteps := 10000000) only [go_sem, hfd, hni]
          refine ⟨⟨Int.natCast_nonneg _, by omega⟩, j_hasS e2, by unfold small; omega, ?_⟩
          have hdrop : List.take (M.length - (i + 1)) (M.drop (i + 1)) = M.drop (i + 1) := List.take_of_length_le (by simp)
          have hnx : iwrap .i64 (nx + 1) = nx + 1 := iwrap_i64_in (by omega)
          skip
          refine sem_drawG l28_1_ok (by kernel_rfl) ?_
          intro KK hKK
          simp (maxSteps := 10000000) only [go_sem, l28_1, hfd, hni, j_rstr e2, inc64 (show i < 1000000000000 by omega), hnx, jsub, List.drop_zero, svl_one, hdrop, Nat.sub_zero]
          subst hKK
          simp (maxSteps := 10000000) only [go_sem, hfd, hni, j_rstr e2, inc64 (show i < 1000000000000 by omega), hnx, jsub, List.drop_zero, svl_one, hdrop, Nat.sub_zero]
          have hdl := delE_len M nx (by rw [e3]; rfl)
          have htl : (M.take i).length = i := by simp; omega
          have hdl2 : (M.drop (i + 1)).length = M.length - (i + 1) := by simp
          refine ⟨⟨Int.natCast_nonneg _, by omega⟩, ⟨Int.natCast_nonneg _, by omega⟩, by unfold small; omega, fun h => h, by unfold small; omega, (k + 1, nx + 1, delE M nx, o ++ [M[i].2]), by simp only; omega, ⟨by simp only; omega, ?_, by simp only; omega, by simp; omega, by simp only; omega, by simp only; omega⟩, [0, 1, 6, 4], ?_⟩
          · simp only
            rw [show 40 - (k + 1) = f by omega, ← g1]
            simp only [drainR, e3]
          · simp only [Emb, go_sem, inc64 (show k < 1000000000000 by omega), e5]
            simp [List.length_append]
            rw [Nat.min_eq_left (by omega), List.take_take, Nat.min_self]
      · have hk' : k = 40 := by omega
        subst hk'
        have hD' : D = (nx, M, o) := by rw [← g1]; rfl
        skip
        refine run_ok 4000 _ _ _ _ ?_
        simp (maxSteps := 10000000) only [go_sem]
        refine ⟨_, _, .fz 3 rfl (by simp [svl_len]) (.sub [] ?_ .done), rfl, rfl⟩
        simp only [EmbV, go_sem, hD']
/-- What waits, bit by bit, over numbers without an end. -/
def bitsR (next : Int) (L : Ent) : Nat → Nat
  | 0 => 0
  | k + 1 => if (lkE L (next + ((k + 1 : Nat) : Int))).isSome then bitsR next L k + 2 ^ k else bitsR next L k
theorem bitsR_lt (next : Int) (L : Ent) : ∀ k, bitsR next L k < 2 ^ k
  | 0 => by simp [bitsR]
  | k + 1 => by
    have := bitsR_lt next L k
    simp only [bitsR, Nat.pow_succ]
    split <;> omega
theorem rbits_spec (next : Int) (L : Ent) (hL : L.length ≤ 1000) (hn : 0 ≤ next ∧ next ≤ 1000000) :
    Tri Try.prog 31 [.agg [.int .i64 next, .vsl 2 (jrows L) false]] [] (fun v m => v = .int .u32 (bitsR next L 32 : Nat) ∧ m = []) := by
  refine Tri.post ?_
  skip
  refine (Tri.enter (rl := r31) (code := c31) (by kernel_rfl) Try.func31 rfl c31_ok (by kernel_rfl) (by kernel_rfl) ?_)
  refine run_ok 4000 _ _ _ _ ?_
  simp (maxSteps := 10000000) only [go_sem, c31, r31]
  refine sem_rounds (fun k : Nat => k ≤ 32) (fun k => [(1, .pbox 0 0), (3, .int .u32 (bitsR next L k : Nat)), (4, .int .u32 ((2 ^ k % 4294967296 : Nat) : Int)), (5, .int .i64 (k : Nat))])
    (fun k => [.box [.int .i64 next, .vsl 2 (jrows L) false]]) (fun k => 32 - k) 0 [0] (Nat.zero_le _) ?_ ?_
  · simp only [Emb, go_sem]; simp [bitsR]
  intro k hk
  refine run_ok 4000 _ _ _ _ ?_
  simp (maxSteps := 10000000) only [go_sem]
  refine ⟨fun h => ?_, fun h => ?_⟩
  · have hk' : k < 32 := by omega
    have h1 : iwrap .i64 (next + (k : Int)) = next + k := iwrap_i64_in (by omega)
    have h2 : iwrap .i64 (next + (k : Int) + 1) = next + ((k + 1 : Nat) : Int) := by rw [iwrap_i64_in (by omega)]; push_cast; omega
    have hp : 2 ^ k ≤ 2 ^ 31 := Nat.pow_le_pow_right (by decide) (by omega)
    have hlt := bitsR_lt next L k
    have h3 : iwrap .u32 ((bitsR next L k : Nat) + ((2 ^ k % 4294967296 : Nat) : Int)) = ((bitsR next L k + 2 ^ k : Nat) : Int) := by rw [iwrap_u32]; omega
    have h4 : iwrap .u32 (((2 ^ k % 4294967296 : Nat) : Int) * 2) = ((2 ^ (k + 1) % 4294967296 : Nat) : Int) := by rw [iwrap_u32, Nat.pow_succ]; omega
    skip
    simp (maxSteps := 10000000) only [go_sem, h1, h2, h3, h4, inc64 (show k < 1000000000000 by omega)]
    refine sem_call rfl rfl (((find_spec L (next + ((k + 1 : Nat) : Int)) (by omega)).embed [] rfl (by repeat' first | exact trivial | rfl | (simp only [go_sem]; done) | constructor) rfl (by first | rfl | simp only [go_sem]) rfl (by simp)).mono ?_)
    rintro _ _ ⟨_, _, ⟨rfl, rfl⟩, rfl, rfl⟩
    refine run_ok 4000 _ _ _ _ ?_
    simp (maxSteps := 10000000) only [go_sem, h1, h2, h3, h4, inc64 (show k < 1000000000000 by omega)]
    simp only [fdE_has]
    refine ⟨fun hs => ?_, fun hs => ?_⟩
    · refine ⟨k + 1, by omega, by omega, [0], ?_⟩
      have : bitsR next L (k + 1) = bitsR next L k + 2 ^ k := by simp only [bitsR, hs, if_true]
      simp only [Emb, go_sem, this, h3, h4, inc64 (show k < 1000000000000 by omega)]
    · refine ⟨k + 1, by omega, by omega, [0], ?_⟩
      have : bitsR next L (k + 1) = bitsR next L k := by simp only [bitsR]; rw [if_neg hs]
      simp only [Emb, go_sem, this, h4, inc64 (show k < 1000000000000 by omega)]
  · have : k = 32 := by omega
    subst this
    skip
    refine run_ok 4000 _ _ _ _ ?_
    simp (maxSteps := 10000000) only [go_sem]
    exact ⟨_, _, .sub [] (by simp only [EmbV, go_sem]) .done, rfl, rfl⟩
end Go.AEX
