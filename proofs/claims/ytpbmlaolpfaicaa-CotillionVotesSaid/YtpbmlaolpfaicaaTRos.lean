/- Seat rT: rosters: any changes. -/
import Derived.Test.YtpbmlaolpfaicaaTVote
import Derived.Test.YtpbmlaolpfaicaaTLive
namespace Go.AEX
open Go Go.AE Go.Proofs
set_option maxRecDepth 100000
set_option linter.unusedVariables false
set_option linter.unusedSimpArgs false

def okM (S : Nat) (nt : Int) (vs : List Int) (i : Nat) : Bool := hasN S (vs.getD i 0) && (!(vs.getD i 0 == nt) && (decide (i = 0) || decide (vs.getD (i - 1) 0 < vs.getD i 0)))
def mostF (S : Nat) (nt : Int) (vs : List Int) : Bool := (List.range vs.length).all (okM S nt vs) && decide (2 * vs.length > pc S)
theorem mostF_no {S : Nat} {nt : Int} {vs : List Int} {i : Nat} (hi : i < vs.length) (h : okM S nt vs i = false) : mostF S nt vs = false := by
  unfold mostF
  have : (List.range vs.length).all (okM S nt vs) = false := by
    rw [List.all_eq_false]; exact ⟨i, List.mem_range.2 hi, by simp [h]⟩
  rw [this]; rfl
theorem mostF_yes {S : Nat} {nt : Int} {vs : List Int} (h : ∀ j, j < vs.length → okM S nt vs j = true) : mostF S nt vs = decide (2 * vs.length > pc S) := by
  unfold mostF
  have : (List.range vs.length).all (okM S nt vs) = true := by
    rw [List.all_eq_true]; exact fun j hj => h j (List.mem_range.1 hj)
  rw [this]; rfl
theorem getD_at {vs : List Int} {i : Nat} (h : i < vs.length) : vs.getD i 0 = vs[i] := by rw [List.getD_eq_getElem?_getD, List.getElem?_eq_getElem h]; rfl
theorem most_spec (S : Nat) (hS : S < 4294967296) (ep nt : Int) (vs : List Int) (tight : Bool) (hl : vs.length ≤ 1000) :
    Tri Try.prog 64 [ros S ep, .int .i64 nt, .vsl 1 (iv .i64 vs) tight] [] (fun v m => v = .bsym (mostF S nt vs) ∧ m = []) := by
  refine Tri.post ?_
  have hlen := r_len_spec S hS ep
  skip
  refine (Tri.enter (rl := r64) (code := c64) (by kernel_rfl) Try.func64 rfl c64_ok (by kernel_rfl) (by kernel_rfl) ?_)
  refine run_ok 4000 _ _ _ _ ?_
  simp (maxSteps := 10000000) only [go_sem, c64, r64, iv_len]
  refine sem_rounds (fun i : Nat => i ≤ vs.length ∧ ∀ j, j < i → okM S nt vs j = true)
    (fun i => [(1, .int .i64 nt), (2, .vsl 1 (iv .i64 vs) tight), (3, .pbox 0 0), (9, .vsl 1 (iv .i64 vs) tight), (10, .int .i64 vs.length), (11, .int .i64 (i : Nat))])
    (fun i => [.box [.int .u32 (S : Nat), .int .i64 ep]]) (fun i => vs.length - i) 0 [0] ⟨Nat.zero_le _, fun j hj => by omega⟩ ?_ ?_
  · simp [Emb, go_sem, iv_len]
  rintro i ⟨hi, hall⟩
  by_cases c : i < vs.length
  · have hin : (i : Int) < (vs.length : Int) := by omega
    have r0 := iv_rint (k := .i64) c
    have h0 := iv_hasI (k := .i64) c
    have hhas := r_has_spec S hS ep vs[i]
    have w1 := inc64 (show i < 1000000000000 by omega)
    cases hh : hasN S vs[i] with
    | false =>
      have hno : okM S nt vs i = false := by unfold okM; rw [getD_at c, hh]; rfl
      rw [hh] at hhas
      generalize vs[i] = v at *
      skip
      refine run_ok 4000 _ _ _ _ ?_
      simp (maxSteps := 10000000) only [go_sem, hin, r0, h0, iv_len, Int.natCast_nonneg]
      refine sem_call rfl rfl (((hhas).embed [] rfl trivial rfl rfl rfl (by simp)).mono ?_)
      rintro _ _ ⟨_, _, ⟨rfl, rfl⟩, rfl, rfl⟩
      refine run_ok 4000 _ _ _ _ ?_
      simp (maxSteps := 10000000) only [go_sem, hin, r0, h0, iv_len, Int.natCast_nonneg]
      rw [mostF_no c hno]
      refine ⟨_, _, .like (Like.bsym false) (.sub [] ?_ .done), rfl, rfl⟩
      simp only [EmbV, go_sem]
    | true =>
      rw [hh] at hhas
      by_cases hq : vs[i] = nt
      · have hno : okM S nt vs i = false := by unfold okM; rw [getD_at c, hq]; simp
        have hne : (vs[i] == nt) = true := by simpa using hq
        generalize vs[i] = v at *
        skip
        refine run_ok 4000 _ _ _ _ ?_
        simp (maxSteps := 10000000) only [go_sem, hin, r0, h0, hne, iv_len, Int.natCast_nonneg]
        refine sem_call rfl rfl (((hhas).embed [] rfl trivial rfl rfl rfl (by simp)).mono ?_)
        rintro _ _ ⟨_, _, ⟨rfl, rfl⟩, rfl, rfl⟩
        refine run_ok 4000 _ _ _ _ ?_
        simp (maxSteps := 10000000) only [go_sem, hin, r0, h0, hne, iv_len, Int.natCast_nonneg]
        rw [mostF_no c hno]
        refine ⟨_, _, .like (Like.bsym false) (.sub [] ?_ .done), rfl, rfl⟩
        simp only [EmbV, go_sem]
      · have hne : (vs[i] == nt) = false := by simpa using hq
        cases i with
        | zero =>
          have hok : okM S nt vs 0 = true := by unfold okM; rw [getD_at c, hh]; simp [hq]
          have g0 : ¬ (0 : Int) > 0 := by omega
          have hin0 : (0 : Int) < (vs.length : Int) := by omega
          generalize vs[0] = v at *
          skip
          refine run_ok 4000 _ _ _ _ ?_
          simp (maxSteps := 10000000) only [go_sem, hin0, r0, h0, hne, show iwrap .i64 (1 : Int) = 1 from rfl, g0, iv_len, Int.natCast_nonneg]
          refine sem_call rfl rfl (((hhas).embed [] rfl trivial rfl rfl rfl (by simp)).mono ?_)
          rintro _ _ ⟨_, _, ⟨rfl, rfl⟩, rfl, rfl⟩
          refine run_ok 4000 _ _ _ _ ?_
          simp (maxSteps := 10000000) only [go_sem, hin0, r0, h0, hne, show iwrap .i64 (1 : Int) = 1 from rfl, g0, iv_len, Int.natCast_nonneg]
          refine ⟨1, by omega, ⟨c, fun j hj => by rw [show j = 0 by omega]; exact hok⟩, [0], ?_⟩
          simp only [Emb, go_sem]
        | succ j =>
          have cj : j < vs.length := by omega
          have r1 := iv_rint (k := .i64) cj
          have h1 := iv_hasI (k := .i64) cj
          have hin1 : (j : Int) < (vs.length : Int) := by omega
          have g0 : ((j + 1 : Nat) : Int) > 0 := by omega
          have w2 : iwrap .i64 (((j + 1 : Nat) : Int) - 1) = (j : Int) := by rw [iwrap_i64_in (by omega)]; omega
          by_cases hlt : vs[j] < vs[j + 1]
          · have hok : okM S nt vs (j + 1) = true := by unfold okM; rw [getD_at c, Nat.add_sub_cancel, getD_at cj, hh]; simp [hq, hlt]
            have g1 : ¬ vs[j] ≥ vs[j + 1] := by omega
            generalize vs[j + 1] = v at *
            generalize vs[j] = u at *
            skip
            refine run_ok 4000 _ _ _ _ ?_
            simp (maxSteps := 10000000) only [go_sem, hin, hin1, r0, h0, r1, h1, hne, w1, w2, g0, g1, iv_len, Int.natCast_nonneg]
            refine sem_call rfl rfl (((hhas).embed [] rfl trivial rfl rfl rfl (by simp)).mono ?_)
            rintro _ _ ⟨_, _, ⟨rfl, rfl⟩, rfl, rfl⟩
            refine run_ok 4000 _ _ _ _ ?_
            simp (maxSteps := 10000000) only [go_sem, hin, hin1, r0, h0, r1, h1, hne, w1, w2, g0, g1, iv_len, Int.natCast_nonneg]
            refine ⟨j + 1 + 1, by omega, ⟨c, fun q hq => ?_⟩, [0], ?_⟩
            · by_cases e : q = j + 1
              · rw [e]; exact hok
              · exact hall q (by omega)
            · simp only [Emb, go_sem]
          · have hno : okM S nt vs (j + 1) = false := by unfold okM; rw [getD_at c, Nat.add_sub_cancel, getD_at cj, hh]; simp [hlt]
            have g1 : vs[j] ≥ vs[j + 1] := by omega
            generalize vs[j + 1] = v at *
            generalize vs[j] = u at *
            skip
            refine run_ok 4000 _ _ _ _ ?_
            simp (maxSteps := 10000000) only [go_sem, hin, hin1, r0, h0, r1, h1, hne, w1, w2, g0, g1, iv_len, Int.natCast_nonneg]
            refine sem_call rfl rfl (((hhas).embed [] rfl trivial rfl rfl rfl (by simp)).mono ?_)
            rintro _ _ ⟨_, _, ⟨rfl, rfl⟩, rfl, rfl⟩
            refine run_ok 4000 _ _ _ _ ?_
            simp (maxSteps := 10000000) only [go_sem, hin, hin1, r0, h0, r1, h1, hne, w1, w2, g0, g1, iv_len, Int.natCast_nonneg]
            rw [mostF_no c hno]
            refine ⟨_, _, .like (Like.bsym false) (.sub [] ?_ .done), rfl, rfl⟩
            simp only [EmbV, go_sem]
  · have hge : ¬ (i : Int) < (vs.length : Int) := by omega
    have w1 : iwrap .i64 ((2 : Int) * (vs.length : Int)) = ((2 * vs.length : Nat) : Int) := by rw [iwrap_i64_in (by omega)]; omega
    have e1 : decide (((2 * vs.length : Nat) : Int) > ((pc S : Nat) : Int)) = decide (2 * vs.length > pc S) := by
      rw [Bool.eq_iff_iff]; simp only [decide_eq_true_eq]; omega
    rw [mostF_yes fun j hj => hall j (by omega)]
    skip
    refine run_ok 4000 _ _ _ _ ?_
    simp (maxSteps := 10000000) only [go_sem, hge, w1, iv_len]
    refine run_ok 4000 _ _ _ _ ?_
    simp (maxSteps := 10000000) only [go_sem, hge, w1, iv_len]
    refine sem_call rfl rfl (((hlen).embed [] rfl trivial rfl rfl rfl (by simp)).mono ?_)
    rintro _ _ ⟨_, _, ⟨rfl, rfl⟩, rfl, rfl⟩
    refine run_ok 4000 _ _ _ _ ?_
    simp (maxSteps := 10000000) only [go_sem, hge, w1, iv_len]
    refine ⟨_, _, .sub [] ?_ .done, rfl, rfl⟩
    simp only [EmbV, go_sem, e1]
abbrev Chg := Int × Int × List Int
def crow (c : Chg) : List AV := [.int .i64 c.1, .int .i64 c.2.1, .vsl 1 (iv .i64 c.2.2) false]
def crows (l : List Chg) : List (List AV) := l.map crow
theorem crows_len (l : List Chg) : (crows l).length = l.length := by simp [crows]
theorem crows_get {l : List Chg} {i : Nat} (h : i < l.length) : (crows l)[i]? = some (crow l[i]) := by simp [crows, h]
theorem crows_h0 {l : List Chg} {i : Nat} (h : i < l.length) : hasI .i64 (crows l) i 0 := ⟨_, _, crows_get h, rfl⟩
theorem crows_h1 {l : List Chg} {i : Nat} (h : i < l.length) : hasI .i64 (crows l) i 1 := ⟨_, _, crows_get h, rfl⟩
theorem crows_h2 {l : List Chg} {i : Nat} (h : i < l.length) : hasA (crows l) i 2 := ⟨_, _, crows_get h, rfl⟩
theorem crows_r0 {l : List Chg} {i : Nat} (h : i < l.length) : rint (crows l) i 0 = l[i].1 := by simp [rint, List.getD_eq_getElem?_getD, crows_get h, crow]
theorem crows_r1 {l : List Chg} {i : Nat} (h : i < l.length) : rint (crows l) i 1 = l[i].2.1 := by simp [rint, List.getD_eq_getElem?_getD, crows_get h, crow]
theorem crows_r2 {l : List Chg} {i : Nat} (h : i < l.length) : rany (crows l) i 2 = .vsl 1 (iv .i64 l[i].2.2) false := by simp [rany, List.getD_eq_getElem?_getD, crows_get h, crow]
theorem crows_app (l k : List Chg) : crows l ++ crows k = crows (l ++ k) := by simp [crows]
theorem crows_one (a b : Int) (v : List Int) : [[AV.int .i64 a, .int .i64 b, .vsl 1 (iv .i64 v) false]] = crows [(a, b, v)] := rfl
theorem crows_all (l : List Chg) : sub (crows l) 0 l.length = crows l := by
  unfold sub; rw [List.drop_zero, ← crows_len l, List.take_length]
def chkF (S : Nat) (c : Chg) : Int :=
  if c.1 < 1 ∨ c.1 > 3 then 7 else if c.2.1 < 0 ∨ c.2.1 ≥ 32 ∨ (c.2.1 = 0 ∧ c.1 ≠ 1) ∨ (c.1 ≠ 3 ∧ 0 < c.2.2.length) then 4
  else if c.1 = 1 ∧ hasN S c.2.1 = true then 10 else if c.1 ≠ 1 ∧ hasN S c.2.1 = false then 13
  else if c.1 = 3 ∧ mostF S c.2.1 c.2.2 = false then 15 else 0
end Go.AEX
