/- TRos, TRos2, TRos3. -/
import Derived.Test.YthdkobfafncpcaaDoorTVote
/- Seat rT: rosters: any changes. -/

namespace Go.AEX
open Go Go.AE Go.Proofs
set_option maxRecDepth 100000
set_option linter.unusedVariables false
set_option linter.unusedSimpArgs false

def okM (S : Nat) (nt : Int) (vs : List Int) (i : Nat) : Bool := hasN S (vs.getD i 0) && (!(vs.getD i 0 == nt) && (decide (i = 0) || decide (vs.getD (i - 1) 0 < vs.getD i 0)))
def mostF (S : Nat) (nt : Int) (vs : List Int) : Bool := (List.range vs.length).all (okM S nt vs) && decide (2 * vs.length > pc S)
theorem mostF_no {S : Nat} {nt : Int} {vs : List Int} {i : Nat} (hi : i < vs.length) (h : okM S nt vs i = false) : mostF S nt vs = false := by
  unfold mostF
  have : (List.range vs.length).all (okM S nt vs) = false := by
    rw [List.all_eq_false]; exact ⟨i, List.mem_range.2 hi, by simp [h]⟩
  rw [this]; rfl
theorem mostF_yes {S : Nat} {nt : Int} {vs : List Int} (h : ∀ j, j < vs.length → okM S nt vs j = true) : mostF S nt vs = decide (2 * vs.length > pc S) := by
  unfold mostF
  have : (List.range vs.length).all (okM S nt vs) = true := by
    rw [List.all_eq_true]; exact fun j hj => h j (List.mem_range.1 hj)
  rw [this]; rfl
theorem getD_at {vs : List Int} {i : Nat} (h : i < vs.length) : vs.getD i 0 = vs[i] := by rw [List.getD_eq_getElem?_getD, List.getElem?_eq_getElem h]; rfl
theorem most_spec (S : Nat) (hS : S < 4294967296) (ep nt : Int) (vs : List Int) (tight : Bool) (hl : vs.length ≤ 1000) :
    Tri Tryd.prog 41 [ros S ep, .int .i64 nt, .vsl 1 (iv .i64 vs) tight] [] (fun v m => v = .bsym (mostF S nt vs) ∧ m = []) := by
  refine Tri.post ?_
  have hlen := r_len_spec S hS ep
  skip
  refine (Tri.enter (rl := r41) (code := c41) (by kernel_rfl) Tryd.func41 rfl c41_ok (by kernel_rfl) (by kernel_rfl) ?_)
  refine run_ok 4000 _ _ _ _ ?_
  simp (maxSteps := 10000000) only [go_sem, c41, r41, iv_len]
  refine sem_rounds (fun i : Nat => i ≤ vs.length ∧ ∀ j, j < i → okM S nt vs j = true)
    (fun i => [(1, .int .i64 nt), (2, .vsl 1 (iv .i64 vs) tight), (3, .pbox 0 0), (9, .vsl 1 (iv .i64 vs) tight), (10, .int .i64 vs.length), (11, .int .i64 (i : Nat))])
    (fun i => [.box [.int .u32 (S : Nat), .int .i64 ep]]) (fun i => vs.length - i) 0 [0] ⟨Nat.zero_le _, fun j hj => by omega⟩ ?_ ?_
  · simp [Emb, go_sem, iv_len]
  rintro i ⟨hi, hall⟩
  by_cases c : i < vs.length
  · have hin : (i : Int) < (vs.length : Int) := by omega
    have r0 := iv_rint (k := .i64) c
    have h0 := iv_hasI (k := .i64) c
    have hhas := r_has_spec S hS ep vs[i]
    have w1 := inc64 (show i < 1000000000000 by omega)
    cases hh : hasN S vs[i] with
    | false =>
      have hno : okM S nt vs i = false := by unfold okM; rw [getD_at c, hh]; rfl
      rw [hh] at hhas
      generalize vs[i] = v at *
      skip
      refine run_ok 4000 _ _ _ _ ?_
      simp (maxSteps := 10000000) only [go_sem, hin, r0, h0, iv_len, Int.natCast_nonneg]
      refine sem_call rfl rfl (((hhas).embed [] rfl trivial rfl rfl rfl (by simp)).mono ?_)
      rintro _ _ ⟨_, _, ⟨rfl, rfl⟩, rfl, rfl⟩
      refine run_ok 4000 _ _ _ _ ?_
      simp (maxSteps := 10000000) only [go_sem, hin, r0, h0, iv_len, Int.natCast_nonneg]
      rw [mostF_no c hno]
      refine ⟨_, _, .like (Like.bsym false) (.sub [] ?_ .done), rfl, rfl⟩
      simp only [EmbV, go_sem]
    | true =>
      rw [hh] at hhas
      by_cases hq : vs[i] = nt
      · have hno : okM S nt vs i = false := by unfold okM; rw [getD_at c, hq]; simp
        have hne : (vs[i] == nt) = true := by simpa using hq
        generalize vs[i] = v at *
        skip
        refine run_ok 4000 _ _ _ _ ?_
        simp (maxSteps := 10000000) only [go_sem, hin, r0, h0, hne, iv_len, Int.natCast_nonneg]
        refine sem_call rfl rfl (((hhas).embed [] rfl trivial rfl rfl rfl (by simp)).mono ?_)
        rintro _ _ ⟨_, _, ⟨rfl, rfl⟩, rfl, rfl⟩
        refine run_ok 4000 _ _ _ _ ?_
        simp (maxSteps := 10000000) only [go_sem, hin, r0, h0, hne, iv_len, Int.natCast_nonneg]
        rw [mostF_no c hno]
        refine ⟨_, _, .like (Like.bsym false) (.sub [] ?_ .done), rfl, rfl⟩
        simp only [EmbV, go_sem]
      · have hne : (vs[i] == nt) = false := by simpa using hq
        cases i with
        | zero =>
          have hok : okM S nt vs 0 = true := by unfold okM; rw [getD_at c, hh]; simp [hq]
          have g0 : ¬ (0 : Int) > 0 := by omega
          have hin0 : (0 : Int) < (vs.length : Int) := by omega
          generalize vs[0] = v at *
          skip
          refine run_ok 4000 _ _ _ _ ?_
          simp (maxSteps := 10000000) only [go_sem, hin0, r0, h0, hne, show iwrap .i64 (1 : Int) = 1 from rfl, g0, iv_len, Int.natCast_nonneg]
          refine sem_call rfl rfl (((hhas).embed [] rfl trivial rfl rfl rfl (by simp)).mono ?_)
          rintro _ _ ⟨_, _, ⟨rfl, rfl⟩, rfl, rfl⟩
          refine run_ok 4000 _ _ _ _ ?_
          simp (maxSteps := 10000000) only [go_sem, hin0, r0, h0, hne, show iwrap .i64 (1 : Int) = 1 from rfl, g0, iv_len, Int.natCast_nonneg]
          refine ⟨1, by omega, ⟨c, fun j hj => by rw [show j = 0 by omega]; exact hok⟩, [0], ?_⟩
          simp only [Emb, go_sem]
        | succ j =>
          have cj : j < vs.length := by omega
          have r1 := iv_rint (k := .i64) cj
          have h1 := iv_hasI (k := .i64) cj
          have hin1 : (j : Int) < (vs.length : Int) := by omega
          have g0 : ((j + 1 : Nat) : Int) > 0 := by omega
          have w2 : iwrap .i64 (((j + 1 : Nat) : Int) - 1) = (j : Int) := by rw [iwrap_i64_in (by omega)]; omega
          by_cases hlt : vs[j] < vs[j + 1]
          · have hok : okM S nt vs (j + 1) = true := by unfold okM; rw [getD_at c, Nat.add_sub_cancel, getD_at cj, hh]; simp [hq, hlt]
            have g1 : ¬ vs[j] ≥ vs[j + 1] := by omega
            generalize vs[j + 1] = v at *
            generalize vs[j] = u at *
            skip
            refine run_ok 4000 _ _ _ _ ?_
            simp (maxSteps := 10000000) only [go_sem, hin, hin1, r0, h0, r1, h1, hne, w1, w2, g0, g1, iv_len, Int.natCast_nonneg]
            refine sem_call rfl rfl (((hhas).embed [] rfl trivial rfl rfl rfl (by simp)).mono ?_)
            rintro _ _ ⟨_, _, ⟨rfl, rfl⟩, rfl, rfl⟩
            refine run_ok 4000 _ _ _ _ ?_
            simp (maxSteps := 10000000) only [go_sem, hin, hin1, r0, h0, r1, h1, hne, w1, w2, g0, g1, iv_len, Int.natCast_nonneg]
            refine ⟨j + 1 + 1, by omega, ⟨c, fun q hq => ?_⟩, [0], ?_⟩
            · by_cases e : q = j + 1
              · rw [e]; exact hok
              · exact hall q (by omega)
            · simp only [Emb, go_sem]
          · have hno : okM S nt vs (j + 1) = false := by unfold okM; rw [getD_at c, Nat.add_sub_cancel, getD_at cj, hh]; simp [hlt]
            have g1 : vs[j] ≥ vs[j + 1] := by omega
            generalize vs[j + 1] = v at *
            generalize vs[j] = u at *
            skip
            refine run_ok 4000 _ _ _ _ ?_
            simp (maxSteps := 10000000) only [go_sem, hin, hin1, r0, h0, r1, h1, hne, w1, w2, g0, g1, iv_len, Int.natCast_nonneg]
            refine sem_call rfl rfl (((hhas).embed [] rfl trivial rfl rfl rfl (by simp)).mono ?_)
            rintro _ _ ⟨_, _, ⟨rfl, rfl⟩, rfl, rfl⟩
            refine run_ok 4000 _ _ _ _ ?_
            simp (maxSteps := 10000000) only [go_sem, hin, hin1, r0, h0, r1, h1, hne, w1, w2, g0, g1, iv_len, Int.natCast_nonneg]
            rw [mostF_no c hno]
            refine ⟨_, _, .like (Like.bsym false) (.sub [] ?_ .done), rfl, rfl⟩
            simp only [EmbV, go_sem]
  · have hge : ¬ (i : Int) < (vs.length : Int) := by omega
    have w1 : iwrap .i64 ((2 : Int) * (vs.length : Int)) = ((2 * vs.length : Nat) : Int) := by rw [iwrap_i64_in (by omega)]; omega
    have e1 : decide (((2 * vs.length : Nat) : Int) > ((pc S : Nat) : Int)) = decide (2 * vs.length > pc S) := by
      rw [Bool.eq_iff_iff]; simp only [decide_eq_true_eq]; omega
    rw [mostF_yes fun j hj => hall j (by omega)]
    skip
    refine run_ok 4000 _ _ _ _ ?_
    simp (maxSteps := 10000000) only [go_sem, hge, w1, iv_len]
    refine run_ok 4000 _ _ _ _ ?_
    simp (maxSteps := 10000000) only [go_sem, hge, w1, iv_len]
    refine sem_call rfl rfl (((hlen).embed [] rfl trivial rfl rfl rfl (by simp)).mono ?_)
    rintro _ _ ⟨_, _, ⟨rfl, rfl⟩, rfl, rfl⟩
    refine run_ok 4000 _ _ _ _ ?_
    simp (maxSteps := 10000000) only [go_sem, hge, w1, iv_len]
    refine ⟨_, _, .sub [] ?_ .done, rfl, rfl⟩
    simp only [EmbV, go_sem, e1]
abbrev Chg := Int × Int × List Int
def crow (c : Chg) : List AV := [.int .i64 c.1, .int .i64 c.2.1, .vsl 1 (iv .i64 c.2.2) false]
def crows (l : List Chg) : List (List AV) := l.map crow
theorem crows_len (l : List Chg) : (crows l).length = l.length := by simp [crows]
theorem crows_get {l : List Chg} {i : Nat} (h : i < l.length) : (crows l)[i]? = some (crow l[i]) := by simp [crows, h]
theorem crows_h0 {l : List Chg} {i : Nat} (h : i < l.length) : hasI .i64 (crows l) i 0 := ⟨_, _, crows_get h, rfl⟩
theorem crows_h1 {l : List Chg} {i : Nat} (h : i < l.length) : hasI .i64 (crows l) i 1 := ⟨_, _, crows_get h, rfl⟩
theorem crows_h2 {l : List Chg} {i : Nat} (h : i < l.length) : hasA (crows l) i 2 := ⟨_, _, crows_get h, rfl⟩
theorem crows_r0 {l : List Chg} {i : Nat} (h : i < l.length) : rint (crows l) i 0 = l[i].1 := by simp [rint, List.getD_eq_getElem?_getD, crows_get h, crow]
theorem crows_r1 {l : List Chg} {i : Nat} (h : i < l.length) : rint (crows l) i 1 = l[i].2.1 := by simp [rint, List.getD_eq_getElem?_getD, crows_get h, crow]
theorem crows_r2 {l : List Chg} {i : Nat} (h : i < l.length) : rany (crows l) i 2 = .vsl 1 (iv .i64 l[i].2.2) false := by simp [rany, List.getD_eq_getElem?_getD, crows_get h, crow]
theorem crows_app (l k : List Chg) : crows l ++ crows k = crows (l ++ k) := by simp [crows]
theorem crows_one (a b : Int) (v : List Int) : [[AV.int .i64 a, .int .i64 b, .vsl 1 (iv .i64 v) false]] = crows [(a, b, v)] := rfl
theorem crows_all (l : List Chg) : sub (crows l) 0 l.length = crows l := by
  unfold sub; rw [List.drop_zero, ← crows_len l, List.take_length]
def chkF (S : Nat) (c : Chg) : Int :=
  if c.1 < 1 ∨ c.1 > 3 then 7 else if c.2.1 < 0 ∨ c.2.1 ≥ 32 ∨ (c.2.1 = 0 ∧ c.1 ≠ 1) ∨ (c.1 ≠ 3 ∧ 0 < c.2.2.length) then 4
  else if c.1 = 1 ∧ hasN S c.2.1 = true then 10 else if c.1 ≠ 1 ∧ hasN S c.2.1 = false then 13
  else if c.1 = 3 ∧ mostF S c.2.1 c.2.2 = false then 15 else 0
end Go.AEX

/- Seat rT: rosters: Check, With, All. -/
namespace Go.AEX
open Go Go.AE Go.Proofs
set_option maxRecDepth 100000
set_option linter.unusedVariables false
set_option linter.unusedSimpArgs false

theorem check_spec (S : Nat) (hS : S < 4294967296) (ep k p : Int) (vs : List Int) (hl : vs.length ≤ 1000) :
    Tri Tryd.prog 26 [ros S ep, .agg [.int .i64 k, .int .i64 p, .vsl 1 (iv .i64 vs) false]] [] (fun v m => v = .int .i64 (chkF S (k, p, vs)) ∧ m = []) := by
  refine Tri.post ?_
  have hhas := r_has_spec S hS ep p
  have hmost := most_spec S hS ep p vs false hl
  by_cases a1 : k < 1
  · have e : chkF S (k, p, vs) = 7 := by simp [chkF, a1]
    rw [e]
    skip
    refine (Tri.enter (rl := r26) (code := c26) (by kernel_rfl) Tryd.func26 rfl c26_ok (by kernel_rfl) (by kernel_rfl) ?_)
    refine run_ok 4000 _ _ _ _ ?_
    simp (maxSteps := 10000000) only [go_sem, c26, r26, a1]
    refine ⟨_, _, .sub [] ?_ .done, rfl, rfl⟩
    simp only [EmbV, go_sem]
  by_cases a2 : k > 3
  · have e : chkF S (k, p, vs) = 7 := by simp [chkF, a2]
    rw [e]
    skip
    refine (Tri.enter (rl := r26) (code := c26) (by kernel_rfl) Tryd.func26 rfl c26_ok (by kernel_rfl) (by kernel_rfl) ?_)
    refine run_ok 4000 _ _ _ _ ?_
    simp (maxSteps := 10000000) only [go_sem, c26, r26, a1, a2]
    refine ⟨_, _, .sub [] ?_ .done, rfl, rfl⟩
    simp only [EmbV, go_sem]
  by_cases b1 : p < 0
  · have e : chkF S (k, p, vs) = 4 := by simp only [chkF]; rw [if_neg (by omega), if_pos (by omega)]
    rw [e]
    skip
    refine (Tri.enter (rl := r26) (code := c26) (by kernel_rfl) Tryd.func26 rfl c26_ok (by kernel_rfl) (by kernel_rfl) ?_)
    refine run_ok 4000 _ _ _ _ ?_
    simp (maxSteps := 10000000) only [go_sem, c26, r26, a1, a2, b1]
    refine ⟨_, _, .sub [] ?_ .done, rfl, rfl⟩
    simp only [EmbV, go_sem]
  by_cases b2 : p ≥ 32
  · have e : chkF S (k, p, vs) = 4 := by simp only [chkF]; rw [if_neg (by omega), if_pos (by omega)]
    rw [e]
    skip
    refine (Tri.enter (rl := r26) (code := c26) (by kernel_rfl) Tryd.func26 rfl c26_ok (by kernel_rfl) (by kernel_rfl) ?_)
    refine run_ok 4000 _ _ _ _ ?_
    simp (maxSteps := 10000000) only [go_sem, c26, r26, a1, a2, b1, b2]
    refine ⟨_, _, .sub [] ?_ .done, rfl, rfl⟩
    simp only [EmbV, go_sem]
  have hk : k = 1 ∨ k = 2 ∨ k = 3 := by omega
  by_cases b3 : p = 0 ∧ k ≠ 1
  · have e : chkF S (k, p, vs) = 4 := by simp only [chkF]; rw [if_neg (by omega), if_pos (by omega)]
    have z1 : (p == 0) = true := by simp [b3.1]
    have z2 : (k != 1) = true := by simp [b3.2]
    rw [e]
    skip
    refine (Tri.enter (rl := r26) (code := c26) (by kernel_rfl) Tryd.func26 rfl c26_ok (by kernel_rfl) (by kernel_rfl) ?_)
    refine run_ok 4000 _ _ _ _ ?_
    simp (maxSteps := 10000000) only [go_sem, c26, r26, a1, a2, b1, b2, z1, z2]
    refine ⟨_, _, .sub [] ?_ .done, rfl, rfl⟩
    simp only [EmbV, go_sem]
  by_cases b4 : k ≠ 3 ∧ 0 < vs.length
  · have e : chkF S (k, p, vs) = 4 := by simp only [chkF]; rw [if_neg (by omega), if_pos (by omega)]
    have z3 : (k != 3) = true := by simp [b4.1]
    have z4 : (vs.length : Int) > 0 := by omega
    rw [e]
    by_cases b5 : p = 0
    · have z1 : (p == 0) = true := by simp [b5]
      have z2 : (k != 1) = false := by have : k = 1 := by omega
                                       simp [this]
      skip
      refine (Tri.enter (rl := r26) (code := c26) (by kernel_rfl) Tryd.func26 rfl c26_ok (by kernel_rfl) (by kernel_rfl) ?_)
      refine run_ok 4000 _ _ _ _ ?_
      simp (maxSteps := 10000000) only [go_sem, c26, r26, a1, a2, b1, b2, z1, z2, z3, z4, iv_len]
      refine ⟨_, _, .sub [] ?_ .done, rfl, rfl⟩
      simp only [EmbV, go_sem]
    · have z1 : (p == 0) = false := by simpa using b5
      skip
      refine (Tri.enter (rl := r26) (code := c26) (by kernel_rfl) Tryd.func26 rfl c26_ok (by kernel_rfl) (by kernel_rfl) ?_)
      refine run_ok 4000 _ _ _ _ ?_
      simp (maxSteps := 10000000) only [go_sem, c26, r26, a1, a2, b1, b2, z1, z3, z4, iv_len]
      refine ⟨_, _, .sub [] ?_ .done, rfl, rfl⟩
      simp only [EmbV, go_sem]
  have hz : (p == 0) = true ∧ k = 1 ∨ (p == 0) = false := by
    by_cases h : p = 0
    · exact .inl ⟨by simp [h], by omega⟩
    · exact .inr (by simpa using h)
  rcases hk with rfl | rfl | rfl
  · have z4 : ¬ (vs.length : Int) > 0 := by omega
    have z5 : ((1 : Int) == 1) = true := rfl
    have z6 : ((1 : Int) != 1) = false := rfl
    have z7 : ((1 : Int) != 3) = true := rfl
    have z8 : ((1 : Int) == 3) = false := rfl
    cases hh : hasN S p with
    | true =>
      rw [hh] at hhas
      have e : chkF S (1, p, vs) = 10 := by simp only [chkF]; rw [if_neg (by omega), if_neg (by omega), if_pos (by simp [hh])]
      rw [e]
      rcases hz with ⟨z1, _⟩ | z1
      · skip
        refine (Tri.enter (rl := r26) (code := c26) (by kernel_rfl) Tryd.func26 rfl c26_ok (by kernel_rfl) (by kernel_rfl) ?_)
        refine run_ok 4000 _ _ _ _ ?_
        simp (maxSteps := 10000000) only [go_sem, c26, r26, a1, a2, b1, b2, z1, z4, z5, z6, z7, z8, iv_len]
        refine sem_call rfl rfl (((hhas).embed [] rfl trivial rfl rfl rfl (by simp)).mono ?_)
        rintro _ _ ⟨_, _, ⟨rfl, rfl⟩, rfl, rfl⟩
        refine run_ok 4000 _ _ _ _ ?_
        simp (maxSteps := 10000000) only [go_sem, a1, a2, b1, b2, z1, z4, z5, z6, z7, z8, iv_len]
        refine ⟨_, _, .sub [] ?_ .done, rfl, rfl⟩
        simp only [EmbV, go_sem]
      · skip
        refine (Tri.enter (rl := r26) (code := c26) (by kernel_rfl) Tryd.func26 rfl c26_ok (by kernel_rfl) (by kernel_rfl) ?_)
        refine run_ok 4000 _ _ _ _ ?_
        simp (maxSteps := 10000000) only [go_sem, c26, r26, a1, a2, b1, b2, z1, z4, z5, z6, z7, z8, iv_len]
        refine sem_call rfl rfl (((hhas).embed [] rfl trivial rfl rfl rfl (by simp)).mono ?_)
        rintro _ _ ⟨_, _, ⟨rfl, rfl⟩, rfl, rfl⟩
        refine run_ok 4000 _ _ _ _ ?_
        simp (maxSteps := 10000000) only [go_sem, a1, a2, b1, b2, z1, z4, z5, z6, z7, z8, iv_len]
        refine ⟨_, _, .sub [] ?_ .done, rfl, rfl⟩
        simp only [EmbV, go_sem]
    | false =>
      rw [hh] at hhas
      have e : chkF S (1, p, vs) = 0 := by simp only [chkF]; rw [if_neg (by omega), if_neg (by omega), if_neg (by simp [hh]), if_neg (by omega), if_neg (by omega)]
      rw [e]
      rcases hz with ⟨z1, _⟩ | z1
      · skip
        refine (Tri.enter (rl := r26) (code := c26) (by kernel_rfl) Tryd.func26 rfl c26_ok (by kernel_rfl) (by kernel_rfl) ?_)
        refine run_ok 4000 _ _ _ _ ?_
        simp (maxSteps := 10000000) only [go_sem, c26, r26, a1, a2, b1, b2, z1, z4, z5, z6, z7, z8, iv_len]
        refine sem_call rfl rfl (((hhas).embed [] rfl trivial rfl rfl rfl (by simp)).mono ?_)
        rintro _ _ ⟨_, _, ⟨rfl, rfl⟩, rfl, rfl⟩
        refine run_ok 4000 _ _ _ _ ?_
        simp (maxSteps := 10000000) only [go_sem, a1, a2, b1, b2, z1, z4, z5, z6, z7, z8, iv_len]
        refine ⟨_, _, .sub [] ?_ .done, rfl, rfl⟩
        simp only [EmbV, go_sem]
      · skip
        refine (Tri.enter (rl := r26) (code := c26) (by kernel_rfl) Tryd.func26 rfl c26_ok (by kernel_rfl) (by kernel_rfl) ?_)
        refine run_ok 4000 _ _ _ _ ?_
        simp (maxSteps := 10000000) only [go_sem, c26, r26, a1, a2, b1, b2, z1, z4, z5, z6, z7, z8, iv_len]
        refine sem_call rfl rfl (((hhas).embed [] rfl trivial rfl rfl rfl (by simp)).mono ?_)
        rintro _ _ ⟨_, _, ⟨rfl, rfl⟩, rfl, rfl⟩
        refine run_ok 4000 _ _ _ _ ?_
        simp (maxSteps := 10000000) only [go_sem, a1, a2, b1, b2, z1, z4, z5, z6, z7, z8, iv_len]
        refine ⟨_, _, .sub [] ?_ .done, rfl, rfl⟩
        simp only [EmbV, go_sem]
  · have z4 : ¬ (vs.length : Int) > 0 := by omega
    have z1 : (p == 0) = false := by rcases hz with ⟨_, h⟩ | h; omega; exact h
    cases hh : hasN S p with
    | true =>
      rw [hh] at hhas
      have e : chkF S (2, p, vs) = 0 := by simp only [chkF]; rw [if_neg (by omega), if_neg (by omega), if_neg (by omega), if_neg (by simp [hh]), if_neg (by omega)]
      rw [e]
      skip
      refine (Tri.enter (rl := r26) (code := c26) (by kernel_rfl) Tryd.func26 rfl c26_ok (by kernel_rfl) (by kernel_rfl) ?_)
      refine run_ok 4000 _ _ _ _ ?_
      simp (maxSteps := 10000000) only [go_sem, c26, r26, a1, a2, b1, b2, z1, z4, iv_len]
      refine sem_call rfl rfl (((hhas).embed [] rfl trivial rfl rfl rfl (by simp)).mono ?_)
      rintro _ _ ⟨_, _, ⟨rfl, rfl⟩, rfl, rfl⟩
      refine run_ok 4000 _ _ _ _ ?_
      simp (maxSteps := 10000000) only [go_sem, a1, a2, b1, b2, z1, z4, iv_len]
      refine ⟨_, _, .sub [] ?_ .done, rfl, rfl⟩
      simp only [EmbV, go_sem]
    | false =>
      rw [hh] at hhas
      have e : chkF S (2, p, vs) = 13 := by simp only [chkF]; rw [if_neg (by omega), if_neg (by omega), if_neg (by omega), if_pos ⟨by omega, hh⟩]
      rw [e]
      skip
      refine (Tri.enter (rl := r26) (code := c26) (by kernel_rfl) Tryd.func26 rfl c26_ok (by kernel_rfl) (by kernel_rfl) ?_)
      refine run_ok 4000 _ _ _ _ ?_
      simp (maxSteps := 10000000) only [go_sem, c26, r26, a1, a2, b1, b2, z1, z4, iv_len]
      refine sem_call rfl rfl (((hhas).embed [] rfl trivial rfl rfl rfl (by simp)).mono ?_)
      rintro _ _ ⟨_, _, ⟨rfl, rfl⟩, rfl, rfl⟩
      refine run_ok 4000 _ _ _ _ ?_
      simp (maxSteps := 10000000) only [go_sem, a1, a2, b1, b2, z1, z4, iv_len]
      refine ⟨_, _, .sub [] ?_ .done, rfl, rfl⟩
      simp only [EmbV, go_sem]
  · have z1 : (p == 0) = false := by rcases hz with ⟨_, h⟩ | h; omega; exact h
    cases hh : hasN S p with
    | false =>
      rw [hh] at hhas
      have e : chkF S (3, p, vs) = 13 := by simp only [chkF]; rw [if_neg (by omega), if_neg (by omega), if_neg (by omega), if_pos ⟨by omega, hh⟩]
      rw [e]
      skip
      refine (Tri.enter (rl := r26) (code := c26) (by kernel_rfl) Tryd.func26 rfl c26_ok (by kernel_rfl) (by kernel_rfl) ?_)
      refine run_ok 4000 _ _ _ _ ?_
      simp (maxSteps := 10000000) only [go_sem, c26, r26, a1, a2, b1, b2, z1, iv_len]
      refine sem_call rfl rfl (((hhas).embed [] rfl trivial rfl rfl rfl (by simp)).mono ?_)
      rintro _ _ ⟨_, _, ⟨rfl, rfl⟩, rfl, rfl⟩
      refine run_ok 4000 _ _ _ _ ?_
      simp (maxSteps := 10000000) only [go_sem, a1, a2, b1, b2, z1, iv_len]
      refine ⟨_, _, .sub [] ?_ .done, rfl, rfl⟩
      simp only [EmbV, go_sem]
    | true =>
      rw [hh] at hhas
      cases hm : mostF S p vs with
      | true =>
        rw [hm] at hmost
        have e : chkF S (3, p, vs) = 0 := by simp only [chkF]; rw [if_neg (by omega), if_neg (by omega), if_neg (by omega), if_neg (by simp [hh]), if_neg (by simp [hm])]
        rw [e]
        skip
        refine (Tri.enter (rl := r26) (code := c26) (by kernel_rfl) Tryd.func26 rfl c26_ok (by kernel_rfl) (by kernel_rfl) ?_)
        refine run_ok 4000 _ _ _ _ ?_
        simp (maxSteps := 10000000) only [go_sem, c26, r26, a1, a2, b1, b2, z1, iv_len]
        refine sem_call rfl rfl (((hhas).embed [] rfl trivial rfl rfl rfl (by simp)).mono ?_)
        rintro _ _ ⟨_, _, ⟨rfl, rfl⟩, rfl, rfl⟩
        refine run_ok 4000 _ _ _ _ ?_
        simp (maxSteps := 10000000) only [go_sem, a1, a2, b1, b2, z1, iv_len]
        refine sem_call rfl rfl (((hmost).embed [] rfl trivial rfl rfl rfl (by simp)).mono ?_)
        rintro _ _ ⟨_, _, ⟨rfl, rfl⟩, rfl, rfl⟩
        refine run_ok 4000 _ _ _ _ ?_
        simp (maxSteps := 10000000) only [go_sem, a1, a2, b1, b2, z1, iv_len]
        refine ⟨_, _, .sub [] ?_ .done, rfl, rfl⟩
        simp only [EmbV, go_sem]
      | false =>
        rw [hm] at hmost
        have e : chkF S (3, p, vs) = 15 := by simp only [chkF]; rw [if_neg (by omega), if_neg (by omega), if_neg (by omega), if_neg (by simp [hh]), if_pos (by simp [hm])]
        rw [e]
        skip
        refine (Tri.enter (rl := r26) (code := c26) (by kernel_rfl) Tryd.func26 rfl c26_ok (by kernel_rfl) (by kernel_rfl) ?_)
        refine run_ok 4000 _ _ _ _ ?_
        simp (maxSteps := 10000000) only [go_sem, c26, r26, a1, a2, b1, b2, z1, iv_len]
        refine sem_call rfl rfl (((hhas).embed [] rfl trivial rfl rfl rfl (by simp)).mono ?_)
        rintro _ _ ⟨_, _, ⟨rfl, rfl⟩, rfl, rfl⟩
        refine run_ok 4000 _ _ _ _ ?_
        simp (maxSteps := 10000000) only [go_sem, a1, a2, b1, b2, z1, iv_len]
        refine sem_call rfl rfl (((hmost).embed [] rfl trivial rfl rfl rfl (by simp)).mono ?_)
        rintro _ _ ⟨_, _, ⟨rfl, rfl⟩, rfl, rfl⟩
        refine run_ok 4000 _ _ _ _ ?_
        simp (maxSteps := 10000000) only [go_sem, a1, a2, b1, b2, z1, iv_len]
        refine ⟨_, _, .sub [] ?_ .done, rfl, rfl⟩
        simp only [EmbV, go_sem]
def allN (S : Nat) (k : Nat) : List Int := ((List.range k).map Int.ofNat).filter fun p => hasN S p
theorem allN_succ (S k : Nat) : allN S (k + 1) = allN S k ++ if hasN S (k : Int) = true then [(k : Int)] else [] := by
  unfold allN
  rw [List.range_succ, List.map_append, List.filter_append, List.map_cons, List.map_nil, List.filter_cons, List.filter_nil]
  rfl
theorem allN_len (S k : Nat) : (allN S k).length ≤ k := by
  unfold allN
  have := List.length_filter_le (fun p => hasN S p) ((List.range k).map Int.ofNat)
  simpa using this
theorem rall_spec (S : Nat) (hS : S < 4294967296) (ep : Int) : Tri Tryd.prog 44 [ros S ep] [] (fun v m => v = .vsl 1 (iv .i64 (allN S 32)) false ∧ m = []) := by
  refine Tri.post ?_
  refine (Tri.enter (rl := r44) (code := c44) (by kernel_rfl) Tryd.func44 rfl c44_ok (by kernel_rfl) (by kernel_rfl) ?_)
  refine run_ok 4000 _ _ _ _ ?_
  simp (maxSteps := 10000000) only [go_sem, c44, r44]
  refine sem_virt 3 1 rfl ?_
  simp (maxSteps := 10000000) only [go_sem]
  refine sem_rounds (fun i : Nat => i ≤ 32) (fun i => [(1, .pbox 0 0), (3, .sl 1 0 (allN S i).length (allN S i).length false), (5, .int .i64 (i : Nat))])
    (fun i => [.box [.int .u32 (S : Nat), .int .i64 ep], .row 1 (iv .i64 (allN S i))]) (fun i => 32 - i) 0 [0, 1] (Nat.zero_le _) ?_ ?_
  · simp [Emb, go_sem, allN, iv]
  intro i hi
  by_cases c : i < 32
  · have hin : (i : Int) < 32 := by omega
    have w1 := inc64 (show i < 1000000000000 by omega)
    have hhas := r_has_spec S hS ep i
    have hl := allN_len S i
    have hsm : small ((allN S i).length + 1) := by unfold small; omega
    have hnx := allN_succ S i
    cases hh : hasN S (i : Int) with
    | true =>
      rw [hh] at hhas hnx
      simp only [if_true] at hnx
      skip
      refine run_ok 4000 _ _ _ _ ?_
      simp (maxSteps := 10000000) only [go_sem, hin, w1, hsm, iv_len, Nat.le_refl]
      refine sem_call rfl rfl (((hhas).embed [] rfl trivial rfl rfl rfl (by simp)).mono ?_)
      rintro _ _ ⟨_, _, ⟨rfl, rfl⟩, rfl, rfl⟩
      refine run_ok 4000 _ _ _ _ ?_
      simp (maxSteps := 10000000) only [go_sem, hin, w1, hsm, iv_len, Nat.le_refl]
      refine ⟨i + 1, by omega, by omega, [0, 2], ?_⟩
      simp only [Emb, go_sem, hnx, List.length_append, List.length_singleton, r_iv_one, r_iv_app, r_iv_all]
    | false =>
      rw [hh] at hhas hnx
      simp only [Bool.false_eq_true, if_false, List.append_nil] at hnx
      skip
      refine run_ok 4000 _ _ _ _ ?_
      simp (maxSteps := 10000000) only [go_sem, hin, w1, iv_len, Nat.le_refl]
      refine sem_call rfl rfl (((hhas).embed [] rfl trivial rfl rfl rfl (by simp)).mono ?_)
      rintro _ _ ⟨_, _, ⟨rfl, rfl⟩, rfl, rfl⟩
      refine run_ok 4000 _ _ _ _ ?_
      simp (maxSteps := 10000000) only [go_sem, hin, w1, iv_len, Nat.le_refl]
      refine ⟨i + 1, by omega, by omega, [0, 1], ?_⟩
      simp only [Emb, go_sem, hnx]
  · have hin : ¬ (i : Int) < 32 := by omega
    obtain rfl : i = 32 := by omega
    skip
    refine run_ok 4000 _ _ _ _ ?_
    simp (maxSteps := 10000000) only [go_sem, hin]
    refine run_ok 4000 _ _ _ _ ?_
    simp (maxSteps := 10000000) only [go_sem, hin]
    refine ⟨_, _, .fz 1 rfl (by simp only [go_sem, iv_len, Nat.le_refl]) (.sub [] ?_ .done), rfl, rfl⟩
    simp only [EmbV, go_sem, r_iv_all]
end Go.AEX

/- Seat rT: rosters: With; changes cut. -/
namespace Go.AEX
open Go Go.AE Go.Proofs
set_option maxRecDepth 100000
set_option linter.unusedVariables false
set_option linter.unusedSimpArgs false

theorem xor_u32 (a b : Nat) (ha : a < 4294967296) (hb : b < 4294967296) : ibits .xor .u32 (a : Int) (b : Int) = ((a ^^^ b : Nat) : Int) := by
  show iwrap .u32 ((BitVec.ofInt 32 (a : Int) ^^^ BitVec.ofInt 32 (b : Int)).toNat : Int) = _
  have h : a ^^^ b < 2 ^ 32 := Nat.xor_lt_two_pow ha hb
  rw [BitVec.ofInt_natCast, BitVec.ofInt_natCast, BitVec.toNat_xor, BitVec.toNat_ofNat, BitVec.toNat_ofNat, Nat.mod_eq_of_lt (show a < 2 ^ 32 by omega), Nat.mod_eq_of_lt (show b < 2 ^ 32 by omega), iwrap_u32]
  omega
def flipS (S : Nat) (p : Int) : Nat := S ^^^ 2 ^ p.toNat
theorem flipS_lt {S : Nat} (hS : S < 4294967296) {p : Int} (hp : 0 ≤ p ∧ p < 32) : flipS S p < 4294967296 :=
  Nat.xor_lt_two_pow (n := 32) hS (show 2 ^ p.toNat < 2 ^ 32 from Nat.pow_lt_pow_right (by omega) (by omega))
theorem chkF_rg {S : Nat} {c : Chg} (h : chkF S c = 0) : 0 ≤ c.2.1 ∧ c.2.1 < 32 := by
  unfold chkF at h
  split at h
  · cases h
  · split at h
    · cases h
    · omega
def withF : Nat → Int → List Chg → Option (Nat × Int) × Int
  | S, ep, [] => (some (S, ep), 0)
  | S, ep, c :: l => if chkF S c ≠ 0 then (none, chkF S c) else withF (flipS S c.2.1) (ep + 1) l
def withR (S : Nat) (ep : Int) (l : List Chg) : AV := .tup [match (withF S ep l).1 with | some x => ros x.1 x.2 | none => ros S ep, .int .i64 (withF S ep l).2]
theorem withF_nil (S : Nat) (ep : Int) : withF S ep [] = (some (S, ep), 0) := rfl
theorem rwith_spec (S : Nat) (hS : S < 4294967296) (ep : Int) (he : 0 ≤ ep ∧ ep ≤ 1000000) (l : List Chg) (tight : Bool) (hl : l.length ≤ 1000) (hv : ∀ c ∈ l, c.2.2.length ≤ 1000) :
    Tri Tryd.prog 17 [ros S ep, .vsl 3 (crows l) tight] [] (fun v m => v = withR S ep l ∧ m = []) := by
  refine Tri.post ?_
  skip
  refine (Tri.enter (rl := r17) (code := c17) (by kernel_rfl) Tryd.func17 rfl c17_ok (by kernel_rfl) (by kernel_rfl) ?_)
  refine run_ok 4000 _ _ _ _ ?_
  simp (maxSteps := 10000000) only [go_sem, c17, r17, crows_len]
  refine sem_rounds (fun x : Nat × Nat × Int => x.1 ≤ l.length ∧ x.2.1 < 4294967296 ∧ (0 ≤ x.2.2 ∧ x.2.2 ≤ 1000000 + x.1) ∧ withF S ep l = withF x.2.1 x.2.2 (l.drop x.1))
    (fun x => [(2, .pbox 0 0), (4, .pbox 1 0), (6, .pbox 2 0), (11, .vsl 3 (crows l) tight), (12, .int .i64 l.length), (13, .int .i64 (x.1 : Nat))])
    (fun x => [.box [.int .u32 (x.2.1 : Nat), .int .i64 x.2.2], .box [.int .u32 0, .int .i64 0], .box [.int .u32 (S : Nat), .int .i64 ep]]) (fun x => l.length - x.1) (0, S, ep) [0, 1, 2] ⟨Nat.zero_le _, hS, by simp only; omega, by simp⟩ ?_ ?_
  · simp only [Emb, go_sem]
  rintro ⟨i, T, e⟩ ⟨hi, hT, hee, hw⟩
  simp only at hi hT hee hw ⊢
  by_cases c : i < l.length
  · have hin : (i : Int) < (l.length : Int) := by omega
    have hd : l.drop i = l[i] :: l.drop (i + 1) := List.drop_eq_getElem_cons c
    rw [hd] at hw
    have r0 := crows_r0 c; have r1 := crows_r1 c; have r2 := crows_r2 c
    have h0 := crows_h0 c; have h1 := crows_h1 c; have h2 := crows_h2 c
    have hcl := hv _ (List.getElem_mem c)
    have w1 := inc64 (show i < 1000000000000 by omega)
    generalize l[i] = ch at *
    obtain ⟨k, p, vs⟩ := ch
    have hc := check_spec T hT e k p vs hcl
    simp only at r0 r1 r2
    simp only [withF] at hw
    by_cases hz : chkF T (k, p, vs) = 0
    · have hp := chkF_rg hz
      simp only at hp
      rw [if_neg (by simp [hz])] at hw
      rw [hz] at hc
      have hsh : ishl .u32 1 p = ((2 ^ p.toNat : Nat) : Int) := by
        have := shl1_u32 p.toNat (by omega)
        rwa [show ((p.toNat : Nat) : Int) = p by omega] at this
      have hxo := xor_u32 T (2 ^ p.toNat) hT (show 2 ^ p.toNat < 2 ^ 32 from Nat.pow_lt_pow_right (by omega) (by omega))
      have hpn : 0 ≤ p := hp.1
      have w2 : iwrap .i64 (e + 1) = e + 1 := iwrap_i64_in (by omega)
      skip
      refine run_ok 4000 _ _ _ _ ?_
      simp (maxSteps := 10000000) only [go_sem, hin, r0, r1, r2, h0, h1, h2, w1, w2, hsh, hxo, hpn, Int.natCast_nonneg, crows_len]
      refine sem_call rfl rfl (((hc).embed [] rfl trivial rfl rfl rfl (by simp)).mono ?_)
      rintro _ _ ⟨_, _, ⟨rfl, rfl⟩, rfl, rfl⟩
      refine run_ok 4000 _ _ _ _ ?_
      simp (maxSteps := 10000000) only [go_sem, hin, r0, r1, r2, h0, h1, h2, w1, w2, hsh, hxo, hpn, Int.natCast_nonneg, crows_len]
      refine sem_drawG l17_0_ok (by kernel_rfl) ?_
      intro KK hKK
      simp (maxSteps := 10000000) only [go_sem, l17_0, hin, r0, r1, r2, h0, h1, h2, w1, w2, hsh, hxo, hpn, Int.natCast_nonneg, crows_len]
      subst hKK
      simp (maxSteps := 10000000) only [go_sem, hin, r0, r1, r2, h0, h1, h2, w1, w2, hsh, hxo, hpn, Int.natCast_nonneg, crows_len]
      refine ⟨(i + 1, flipS T p, e + 1), by simp only; omega, ⟨by simp only; omega, flipS_lt hT hp, by simp only; omega, hw⟩, [0, 1, 2], ?_⟩
      simp only [Emb, go_sem, flipS]
    · rw [if_pos hz] at hw
      have hne : (chkF T (k, p, vs) != 0) = true := by simpa using hz
      generalize chkF T (k, p, vs) = z at *
      skip
      refine run_ok 4000 _ _ _ _ ?_
      simp (maxSteps := 10000000) only [go_sem, hin, r0, r1, r2, h0, h1, h2, w1, hne, Int.natCast_nonneg, crows_len]
      refine sem_call rfl rfl (((hc).embed [] rfl trivial rfl rfl rfl (by simp)).mono ?_)
      rintro _ _ ⟨_, _, ⟨rfl, rfl⟩, rfl, rfl⟩
      refine run_ok 4000 _ _ _ _ ?_
      simp (maxSteps := 10000000) only [go_sem, hin, r0, r1, r2, h0, h1, h2, w1, hne, Int.natCast_nonneg, crows_len]
      refine ⟨_, _, .sub [] ?_ .done, by unfold withR; rw [hw], rfl⟩
      simp only [EmbV, go_sem]
  · have hin : ¬ (i : Int) < (l.length : Int) := by omega
    rw [List.drop_eq_nil_of_le (by omega), withF_nil] at hw
    skip
    refine run_ok 4000 _ _ _ _ ?_
    simp (maxSteps := 10000000) only [go_sem, hin]
    refine run_ok 4000 _ _ _ _ ?_
    simp (maxSteps := 10000000) only [go_sem, hin]
    refine ⟨_, _, .sub [] ?_ .done, by unfold withR; rw [hw], rfl⟩
    simp only [EmbV, go_sem]
def fewC (l : List Chg) : List Chg := (l.take 10).map fun c => (c.1, c.2.1, c.2.2.take 34)
theorem fewC_len (l : List Chg) : (fewC l).length ≤ 10 := by simp [fewC]; omega
theorem fewC_v (l : List Chg) : ∀ c ∈ fewC l, c.2.2.length ≤ 34 := by
  intro c hc; simp only [fewC, List.mem_map] at hc; obtain ⟨d, _, rfl⟩ := hc; simp; omega
end Go.AEX
