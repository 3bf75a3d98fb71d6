/- Verify: contracts of what an instruction takes, leaves, asks, and where it goes on. -/
import Derived.Test.YteilmgoomifjmaaECode
namespace Go.AEX
open Go Go.AE Go.Proofs
set_option maxRecDepth 100000
set_option linter.unusedVariables false
set_option linter.unusedSimpArgs false

attribute [go_sem] Int.reduceGE Int.reduceGT
def hostArgs (n : Int) : Int := if n = 0 ∨ n = 3 then 3 else if n = 1 ∨ n = 5 then 1 else if n = 2 then 2 else if n = 4 ∨ n = 6 then 0 else -1
theorem hostArgs_spec (n : Int) : Tri Try.prog 25 [.int .i64 n] [] (fun v m => v = .int .i64 (hostArgs n) ∧ m = []) := by
  refine Tri.post ?_
  by_cases h : 0 ≤ n ∧ n ≤ 6
  · have h : n = 0 ∨ n = 1 ∨ n = 2 ∨ n = 3 ∨ n = 4 ∨ n = 5 ∨ n = 6 := by omega
    rcases h with rfl | rfl | rfl | rfl | rfl | rfl | rfl
    all_goals
      refine (Tri.enter (rl := r25) (code := c25) (by kernel_rfl) Try.func25 rfl c25_ok (by kernel_rfl) (by kernel_rfl) ?_)
      refine run_ok 4000 _ _ _ _ ?_
      simp (maxSteps := 10000000) only [go_sem, c25, r25]
      refine ⟨_, _, .sub [] ?_ .done, rfl, rfl⟩
      simp [EmbV, go_sem, hostArgs]
  by_cases h1 : n < 0
  · have hh : hostArgs n = -1 := by unfold hostArgs; rw [if_neg (by omega), if_neg (by omega), if_neg (by omega), if_neg (by omega)]
    skip
    refine (Tri.enter (rl := r25) (code := c25) (by kernel_rfl) Try.func25 rfl c25_ok (by kernel_rfl) (by kernel_rfl) ?_)
    refine run_ok 4000 _ _ _ _ ?_
    simp (maxSteps := 10000000) only [go_sem, c25, r25, h1, hh]
    refine ⟨_, _, .sub [] ?_ .done, rfl, rfl⟩
    simp only [EmbV, go_sem]
  · have h2 : n ≥ 7 := by omega
    have hh : hostArgs n = -1 := by unfold hostArgs; rw [if_neg (by omega), if_neg (by omega), if_neg (by omega), if_neg (by omega)]
    skip
    refine (Tri.enter (rl := r25) (code := c25) (by kernel_rfl) Try.func25 rfl c25_ok (by kernel_rfl) (by kernel_rfl) ?_)
    refine run_ok 4000 _ _ _ _ ?_
    simp (maxSteps := 10000000) only [go_sem, c25, r25, h1, h2, hh]
    refine ⟨_, _, .sub [] ?_ .done, rfl, rfl⟩
    simp only [EmbV, go_sem]
theorem rhostArgs_spec (n : Int) : Tri Try.prog 26 [.int .i64 n] [] (fun v m => v = .int .i64 (hostArgs n) ∧ m = []) := by
  refine Tri.post ?_
  by_cases h : 0 ≤ n ∧ n ≤ 6
  · have h : n = 0 ∨ n = 1 ∨ n = 2 ∨ n = 3 ∨ n = 4 ∨ n = 5 ∨ n = 6 := by omega
    rcases h with rfl | rfl | rfl | rfl | rfl | rfl | rfl
    all_goals
      refine (Tri.enter (rl := r26) (code := c26) (by kernel_rfl) Try.func26 rfl c26_ok (by kernel_rfl) (by kernel_rfl) ?_)
      refine run_ok 4000 _ _ _ _ ?_
      simp (maxSteps := 10000000) only [go_sem, c26, r26]
      refine ⟨_, _, .sub [] ?_ .done, rfl, rfl⟩
      simp [EmbV, go_sem, hostArgs]
  have hh : hostArgs n = -1 := by unfold hostArgs; rw [if_neg (by omega), if_neg (by omega), if_neg (by omega), if_neg (by omega)]
  have q0 : (n == 0) = false := by simp; omega
  have q1 : (n == 1) = false := by simp; omega
  have q2 : (n == 2) = false := by simp; omega
  have q3 : (n == 3) = false := by simp; omega
  have q4 : (n == 4) = false := by simp; omega
  have q5 : (n == 5) = false := by simp; omega
  have q6 : (n == 6) = false := by simp; omega
  skip
  refine (Tri.enter (rl := r26) (code := c26) (by kernel_rfl) Try.func26 rfl c26_ok (by kernel_rfl) (by kernel_rfl) ?_)
  refine run_ok 4000 _ _ _ _ ?_
  simp (maxSteps := 10000000) only [go_sem, c26, r26, q0, q1, q2, q3, q4, q5, q6, hh]
  refine ⟨_, _, .sub [] ?_ .done, rfl, rfl⟩
  simp only [EmbV, go_sem]
def entryF (n : Int) : Int := if n = 0 then 1 else 4
theorem entry_spec (n : Int) : Tri Try.prog 27 [.int .i64 n] [] (fun v m => v = .int .i64 (entryF n) ∧ m = []) := by
  refine Tri.post ?_
  by_cases h : n = 0
  · subst h
    refine (Tri.enter (rl := r27) (code := c27) (by kernel_rfl) Try.func27 rfl c27_ok (by kernel_rfl) (by kernel_rfl) ?_)
    refine run_ok 4000 _ _ _ _ ?_
    simp (maxSteps := 10000000) only [go_sem, c27, r27]
    refine ⟨_, _, .sub [] ?_ .done, rfl, rfl⟩
    simp only [EmbV, go_sem, entryF]
  · have q : (n == 0) = false := by simpa using h
    have hh : entryF n = 4 := by simp [entryF, h]
    skip
    refine (Tri.enter (rl := r27) (code := c27) (by kernel_rfl) Try.func27 rfl c27_ok (by kernel_rfl) (by kernel_rfl) ?_)
    refine run_ok 4000 _ _ _ _ ?_
    simp (maxSteps := 10000000) only [go_sem, c27, r27, q, hh]
    refine ⟨_, _, .sub [] ?_ .done, rfl, rfl⟩
    simp only [EmbV, go_sem]
/-! instructions -/
/-- An op that is one, as the statements' images have. -/
def OpOk (o : Int) : Prop := 1 ≤ o ∧ o ≤ 22
theorem OpOk.all {o : Int} (h : OpOk o) : o = 1 ∨ o = 2 ∨ o = 3 ∨ o = 4 ∨ o = 5 ∨ o = 6 ∨ o = 7 ∨ o = 8 ∨ o = 9 ∨ o = 10 ∨ o = 11 ∨ o = 12 ∨ o = 13 ∨ o = 14 ∨ o = 15 ∨ o = 16 ∨ o = 17 ∨ o = 18 ∨ o = 19 ∨ o = 20 ∨ o = 21 ∨ o = 22 := by
  unfold OpOk at h; omega
/-- What an instruction takes, and leaves. -/
def effF (l : List Fn) (x : Ins) : Int × Int :=
  if x.1 = 1 ∨ x.1 = 17 then (0, 1) else if x.1 = 2 ∨ x.1 = 18 ∨ x.1 = 14 then (1, 0) else if x.1 = 3 then (1, 2) else if x.1 = 4 then (2, 2)
  else if 5 ≤ x.1 ∧ x.1 ≤ 11 then (2, 1) else if x.1 = 12 ∨ x.1 = 19 ∨ x.1 = 21 then (1, 1) else if x.1 = 20 then (2, 0) else if x.1 = 16 then (1, 0)
  else if x.1 = 15 then ((l.getD x.2.toNat ⟨0, 0, []⟩).args, 1) else if x.1 = 22 then (hostArgs x.2, 1) else (0, 0)
/-- Is an instruction's argument one that may be? -/
def soundF (l : List Fn) (f : Fn) (x : Ins) : Bool :=
  if x.1 = 13 ∨ x.1 = 14 then decide (0 ≤ x.2 ∧ x.2 < f.code.length) else if x.1 = 15 then decide (0 ≤ x.2 ∧ x.2 < l.length)
  else if x.1 = 17 ∨ x.1 = 18 then decide (0 ≤ x.2 ∧ x.2 < f.locals) else if x.1 = 22 then decide (0 ≤ hostArgs x.2) else true
/-- Where it may go on. -/
def nextF (x : Ins) (at_ : Int) : List Int :=
  if x.1 = 16 then [] else if x.1 = 13 then [x.2] else if x.1 = 14 then [at_ + 1, x.2] else [at_ + 1]
abbrev imgV (l : List Fn) : AV := .agg [.vsl 3 (frows l) false]
abbrev fnV (f : Fn) : AV := .agg (frow f)
abbrev insV (x : Ins) : AV := .agg (irow x)
theorem effect_spec (l : List Fn) (x : Ins) (ho : OpOk x.1) (hc : x.1 = 15 → 0 ≤ x.2 ∧ x.2 < l.length) : Tri Try.prog 71 [imgV l, insV x] [] (fun v m => v = .tup [.int .i64 (effF l x).1, .int .i64 (effF l x).2] ∧ m = []) := by
  obtain ⟨o, a⟩ := x
  simp only at ho hc
  refine Tri.post ?_
  by_cases h15 : o = 15
  · subst h15
    obtain ⟨c1, c2⟩ := hc rfl
    obtain ⟨k, rfl⟩ : ∃ k : Nat, a = (k : Int) := ⟨a.toNat, by omega⟩
    have hk : k < l.length := by omega
    have he : effF l (15, (k : Int)) = (l[k].args, 1) := by simp [effF, List.getD_eq_getElem?_getD, hk]
    rw [he]
    skip
    refine (Tri.enter (rl := r71) (code := c71) (by kernel_rfl) Try.func71 rfl c71_ok (by kernel_rfl) (by kernel_rfl) ?_)
    refine run_ok 4000 _ _ _ _ ?_
    simp (maxSteps := 10000000) only [go_sem, c71, r71, irow, frows_len, c1, c2, frows_h0 hk, frows_r0 hk, Int.natCast_nonneg]
    refine ⟨_, _, .sub [] ?_ .done, rfl, rfl⟩
    simp only [EmbV, go_sem]
  by_cases h22 : o = 22
  · subst h22
    have he : effF l (22, a) = (hostArgs a, 1) := by simp [effF]
    rw [he]
    skip
    refine (Tri.enter (rl := r71) (code := c71) (by kernel_rfl) Try.func71 rfl c71_ok (by kernel_rfl) (by kernel_rfl) ?_)
    refine run_ok 4000 _ _ _ _ ?_
    simp (maxSteps := 10000000) only [go_sem, c71, r71, irow]
    refine sem_call rfl rfl (((hostArgs_spec a).embed [] rfl trivial rfl rfl rfl (by simp)).mono ?_)
    rintro _ _ ⟨_, _, ⟨rfl, rfl⟩, rfl, rfl⟩
    refine run_ok 4000 _ _ _ _ ?_
    simp (maxSteps := 10000000) only [go_sem, irow]
    refine ⟨_, _, .sub [] ?_ .done, rfl, rfl⟩
    simp only [EmbV, go_sem]
  rcases ho.all with rfl | rfl | rfl | rfl | rfl | rfl | rfl | rfl | rfl | rfl | rfl | rfl | rfl | rfl | rfl | rfl | rfl | rfl | rfl | rfl | rfl | rfl
  all_goals first
    | exact absurd rfl h15
    | exact absurd rfl h22
    | skip
  all_goals
    skip
    refine (Tri.enter (rl := r71) (code := c71) (by kernel_rfl) Try.func71 rfl c71_ok (by kernel_rfl) (by kernel_rfl) ?_)
    refine run_ok 4000 _ _ _ _ ?_
    simp (maxSteps := 10000000) only [go_sem, c71, r71, irow]
    refine ⟨_, _, .sub [] ?_ .done, rfl, rfl⟩
    simp [EmbV, go_sem, effF]
theorem sound_spec (l : List Fn) (f : Fn) (x : Ins) (ho : OpOk x.1) : Tri Try.prog 70 [imgV l, fnV f, insV x] [] (fun v m => v = .bsym (soundF l f x) ∧ m = []) := by
  obtain ⟨o, a⟩ := x
  obtain ⟨fa, fl, fc⟩ := f
  simp only at ho
  refine Tri.post ?_
  by_cases h22 : o = 22
  · subst h22
    by_cases c : 0 ≤ hostArgs a
    · have hs : soundF l ⟨fa, fl, fc⟩ (22, a) = true := by simp [soundF, c]
      have c' : hostArgs a ≥ 0 := c
      skip
      refine (Tri.enter (rl := r70) (code := c70) (by kernel_rfl) Try.func70 rfl c70_ok (by kernel_rfl) (by kernel_rfl) ?_)
      refine run_ok 4000 _ _ _ _ ?_
      simp (maxSteps := 10000000) only [go_sem, c70, r70, irow, frow, frows_len, irows_len, c']
      refine sem_call rfl rfl (((hostArgs_spec a).embed [] rfl trivial rfl rfl rfl (by simp)).mono ?_)
      rintro _ _ ⟨_, _, ⟨rfl, rfl⟩, rfl, rfl⟩
      refine run_ok 4000 _ _ _ _ ?_
      simp (maxSteps := 10000000) only [go_sem, irow, frow, frows_len, irows_len, c']
      refine ⟨_, _, .sub [] ?_ .done, rfl, rfl⟩
      simp only [EmbV, go_sem, hs]
    · have hs : soundF l ⟨fa, fl, fc⟩ (22, a) = false := by simp [soundF, c]
      have c' : ¬ hostArgs a ≥ 0 := c
      skip
      refine (Tri.enter (rl := r70) (code := c70) (by kernel_rfl) Try.func70 rfl c70_ok (by kernel_rfl) (by kernel_rfl) ?_)
      refine run_ok 4000 _ _ _ _ ?_
      simp (maxSteps := 10000000) only [go_sem, c70, r70, irow, frow, frows_len, irows_len, c']
      refine sem_call rfl rfl (((hostArgs_spec a).embed [] rfl trivial rfl rfl rfl (by simp)).mono ?_)
      rintro _ _ ⟨_, _, ⟨rfl, rfl⟩, rfl, rfl⟩
      refine run_ok 4000 _ _ _ _ ?_
      simp (maxSteps := 10000000) only [go_sem, irow, frow, frows_len, irows_len, c']
      refine ⟨_, _, .sub [] ?_ .done, rfl, rfl⟩
      simp only [EmbV, go_sem, hs]
  by_cases h15 : o = 15
  · subst h15
    by_cases c1 : a ≥ 0
    · by_cases c2 : a < (l.length : Int)
      · have hs : soundF l ⟨fa, fl, fc⟩ (15, a) = true := by simp [soundF, c2]; omega
        skip
        refine (Tri.enter (rl := r70) (code := c70) (by kernel_rfl) Try.func70 rfl c70_ok (by kernel_rfl) (by kernel_rfl) ?_)
        refine run_ok 4000 _ _ _ _ ?_
        simp (maxSteps := 10000000) only [go_sem, c70, r70, irow, frow, frows_len, irows_len, c1, c2]
        first
          | (refine ⟨_, _, .sub [] ?_ .done, rfl, rfl⟩
             simp only [EmbV, go_sem, hs]
             done)
          | (refine ⟨_, _, .like (Like.bsym _) (.sub [] ?_ .done), rfl, rfl⟩
             simp only [EmbV, go_sem, hs])
      · have hs : soundF l ⟨fa, fl, fc⟩ (15, a) = false := by simp [soundF]; omega
        skip
        refine (Tri.enter (rl := r70) (code := c70) (by kernel_rfl) Try.func70 rfl c70_ok (by kernel_rfl) (by kernel_rfl) ?_)
        refine run_ok 4000 _ _ _ _ ?_
        simp (maxSteps := 10000000) only [go_sem, c70, r70, irow, frow, frows_len, irows_len, c1, c2]
        first
          | (refine ⟨_, _, .sub [] ?_ .done, rfl, rfl⟩
             simp only [EmbV, go_sem, hs]
             done)
          | (refine ⟨_, _, .like (Like.bsym _) (.sub [] ?_ .done), rfl, rfl⟩
             simp only [EmbV, go_sem, hs])
    · have hs : soundF l ⟨fa, fl, fc⟩ (15, a) = false := by simp [soundF]; omega
      skip
      refine (Tri.enter (rl := r70) (code := c70) (by kernel_rfl) Try.func70 rfl c70_ok (by kernel_rfl) (by kernel_rfl) ?_)
      refine run_ok 4000 _ _ _ _ ?_
      simp (maxSteps := 10000000) only [go_sem, c70, r70, irow, frow, frows_len, irows_len, c1]
      first
        | (refine ⟨_, _, .sub [] ?_ .done, rfl, rfl⟩
           simp only [EmbV, go_sem, hs]
           done)
        | (refine ⟨_, _, .like (Like.bsym _) (.sub [] ?_ .done), rfl, rfl⟩
           simp only [EmbV, go_sem, hs])
  by_cases hj : o = 13 ∨ o = 14
  · by_cases c1 : a ≥ 0
    · by_cases c2 : a < (fc.length : Int)
      · have hs : soundF l ⟨fa, fl, fc⟩ (o, a) = true := by simp [soundF, hj, c2]; omega
        rcases hj with rfl | rfl
        · skip
          refine (Tri.enter (rl := r70) (code := c70) (by kernel_rfl) Try.func70 rfl c70_ok (by kernel_rfl) (by kernel_rfl) ?_)
          refine run_ok 4000 _ _ _ _ ?_
          simp (maxSteps := 10000000) only [go_sem, c70, r70, irow, frow, frows_len, irows_len, c1, c2]
          first
            | (refine ⟨_, _, .sub [] ?_ .done, rfl, rfl⟩
               simp only [EmbV, go_sem, hs]
               done)
            | (refine ⟨_, _, .like (Like.bsym _) (.sub [] ?_ .done), rfl, rfl⟩
               simp only [EmbV, go_sem, hs])
        · skip
          refine (Tri.enter (rl := r70) (code := c70) (by kernel_rfl) Try.func70 rfl c70_ok (by kernel_rfl) (by kernel_rfl) ?_)
          refine run_ok 4000 _ _ _ _ ?_
          simp (maxSteps := 10000000) only [go_sem, c70, r70, irow, frow, frows_len, irows_len, c1, c2]
          first
            | (refine ⟨_, _, .sub [] ?_ .done, rfl, rfl⟩
               simp only [EmbV, go_sem, hs]
               done)
            | (refine ⟨_, _, .like (Like.bsym _) (.sub [] ?_ .done), rfl, rfl⟩
               simp only [EmbV, go_sem, hs])
      · have hs : soundF l ⟨fa, fl, fc⟩ (o, a) = false := by simp [soundF, hj]; omega
        rcases hj with rfl | rfl
        · skip
          refine (Tri.enter (rl := r70) (code := c70) (by kernel_rfl) Try.func70 rfl c70_ok (by kernel_rfl) (by kernel_rfl) ?_)
          refine run_ok 4000 _ _ _ _ ?_
          simp (maxSteps := 10000000) only [go_sem, c70, r70, irow, frow, frows_len, irows_len, c1, c2]
          first
            | (refine ⟨_, _, .sub [] ?_ .done, rfl, rfl⟩
               simp only [EmbV, go_sem, hs]
               done)
            | (refine ⟨_, _, .like (Like.bsym _) (.sub [] ?_ .done), rfl, rfl⟩
               simp only [EmbV, go_sem, hs])
        · skip
          refine (Tri.enter (rl := r70) (code := c70) (by kernel_rfl) Try.func70 rfl c70_ok (by kernel_rfl) (by kernel_rfl) ?_)
          refine run_ok 4000 _ _ _ _ ?_
          simp (maxSteps := 10000000) only [go_sem, c70, r70, irow, frow, frows_len, irows_len, c1, c2]
          first
            | (refine ⟨_, _, .sub [] ?_ .done, rfl, rfl⟩
               simp only [EmbV, go_sem, hs]
               done)
            | (refine ⟨_, _, .like (Like.bsym _) (.sub [] ?_ .done), rfl, rfl⟩
               simp only [EmbV, go_sem, hs])
    · have hs : soundF l ⟨fa, fl, fc⟩ (o, a) = false := by simp [soundF, hj]; omega
      rcases hj with rfl | rfl
      · skip
        refine (Tri.enter (rl := r70) (code := c70) (by kernel_rfl) Try.func70 rfl c70_ok (by kernel_rfl) (by kernel_rfl) ?_)
        refine run_ok 4000 _ _ _ _ ?_
        simp (maxSteps := 10000000) only [go_sem, c70, r70, irow, frow, frows_len, irows_len, c1]
        first
          | (refine ⟨_, _, .sub [] ?_ .done, rfl, rfl⟩
             simp only [EmbV, go_sem, hs]
             done)
          | (refine ⟨_, _, .like (Like.bsym _) (.sub [] ?_ .done), rfl, rfl⟩
             simp only [EmbV, go_sem, hs])
      · skip
        refine (Tri.enter (rl := r70) (code := c70) (by kernel_rfl) Try.func70 rfl c70_ok (by kernel_rfl) (by kernel_rfl) ?_)
        refine run_ok 4000 _ _ _ _ ?_
        simp (maxSteps := 10000000) only [go_sem, c70, r70, irow, frow, frows_len, irows_len, c1]
        first
          | (refine ⟨_, _, .sub [] ?_ .done, rfl, rfl⟩
             simp only [EmbV, go_sem, hs]
             done)
          | (refine ⟨_, _, .like (Like.bsym _) (.sub [] ?_ .done), rfl, rfl⟩
             simp only [EmbV, go_sem, hs])
  by_cases hk : o = 17 ∨ o = 18
  · by_cases c1 : a ≥ 0
    · by_cases c2 : a < fl
      · have hs : soundF l ⟨fa, fl, fc⟩ (o, a) = true := by simp [soundF, hj, h15, hk, c2]; omega
        rcases hk with rfl | rfl
        · skip
          refine (Tri.enter (rl := r70) (code := c70) (by kernel_rfl) Try.func70 rfl c70_ok (by kernel_rfl) (by kernel_rfl) ?_)
          refine run_ok 4000 _ _ _ _ ?_
          simp (maxSteps := 10000000) only [go_sem, c70, r70, irow, frow, frows_len, irows_len, c1, c2]
          first
            | (refine ⟨_, _, .sub [] ?_ .done, rfl, rfl⟩
               simp only [EmbV, go_sem, hs]
               done)
            | (refine ⟨_, _, .like (Like.bsym _) (.sub [] ?_ .done), rfl, rfl⟩
               simp only [EmbV, go_sem, hs])
        · skip
          refine (Tri.enter (rl := r70) (code := c70) (by kernel_rfl) Try.func70 rfl c70_ok (by kernel_rfl) (by kernel_rfl) ?_)
          refine run_ok 4000 _ _ _ _ ?_
          simp (maxSteps := 10000000) only [go_sem, c70, r70, irow, frow, frows_len, irows_len, c1, c2]
          first
            | (refine ⟨_, _, .sub [] ?_ .done, rfl, rfl⟩
               simp only [EmbV, go_sem, hs]
               done)
            | (refine ⟨_, _, .like (Like.bsym _) (.sub [] ?_ .done), rfl, rfl⟩
               simp only [EmbV, go_sem, hs])
      · have hs : soundF l ⟨fa, fl, fc⟩ (o, a) = false := by simp [soundF, hj, h15, hk]; omega
        rcases hk with rfl | rfl
        · skip
          refine (Tri.enter (rl := r70) (code := c70) (by kernel_rfl) Try.func70 rfl c70_ok (by kernel_rfl) (by kernel_rfl) ?_)
          refine run_ok 4000 _ _ _ _ ?_
          simp (maxSteps := 10000000) only [go_sem, c70, r70, irow, frow, frows_len, irows_len, c1, c2]
          first
            | (refine ⟨_, _, .sub [] ?_ .done, rfl, rfl⟩
               simp only [EmbV, go_sem, hs]
               done)
            | (refine ⟨_, _, .like (Like.bsym _) (.sub [] ?_ .done), rfl, rfl⟩
               simp only [EmbV, go_sem, hs])
        · skip
          refine (Tri.enter (rl := r70) (code := c70) (by kernel_rfl) Try.func70 rfl c70_ok (by kernel_rfl) (by kernel_rfl) ?_)
          refine run_ok 4000 _ _ _ _ ?_
          simp (maxSteps := 10000000) only [go_sem, c70, r70, irow, frow, frows_len, irows_len, c1, c2]
          first
            | (refine ⟨_, _, .sub [] ?_ .done, rfl, rfl⟩
               simp only [EmbV, go_sem, hs]
               done)
            | (refine ⟨_, _, .like (Like.bsym _) (.sub [] ?_ .done), rfl, rfl⟩
               simp only [EmbV, go_sem, hs])
    · have hs : soundF l ⟨fa, fl, fc⟩ (o, a) = false := by simp [soundF, hj, h15, hk]; omega
      rcases hk with rfl | rfl
      · skip
        refine (Tri.enter (rl := r70) (code := c70) (by kernel_rfl) Try.func70 rfl c70_ok (by kernel_rfl) (by kernel_rfl) ?_)
        refine run_ok 4000 _ _ _ _ ?_
        simp (maxSteps := 10000000) only [go_sem, c70, r70, irow, frow, frows_len, irows_len, c1]
        first
          | (refine ⟨_, _, .sub [] ?_ .done, rfl, rfl⟩
             simp only [EmbV, go_sem, hs]
             done)
          | (refine ⟨_, _, .like (Like.bsym _) (.sub [] ?_ .done), rfl, rfl⟩
             simp only [EmbV, go_sem, hs])
      · skip
        refine (Tri.enter (rl := r70) (code := c70) (by kernel_rfl) Try.func70 rfl c70_ok (by kernel_rfl) (by kernel_rfl) ?_)
        refine run_ok 4000 _ _ _ _ ?_
        simp (maxSteps := 10000000) only [go_sem, c70, r70, irow, frow, frows_len, irows_len, c1]
        first
          | (refine ⟨_, _, .sub [] ?_ .done, rfl, rfl⟩
             simp only [EmbV, go_sem, hs]
             done)
          | (refine ⟨_, _, .like (Like.bsym _) (.sub [] ?_ .done), rfl, rfl⟩
             simp only [EmbV, go_sem, hs])
  have hs : soundF l ⟨fa, fl, fc⟩ (o, a) = true := by simp [soundF, hj, h15, hk, h22]
  rcases ho.all with rfl | rfl | rfl | rfl | rfl | rfl | rfl | rfl | rfl | rfl | rfl | rfl | rfl | rfl | rfl | rfl | rfl | rfl | rfl | rfl | rfl | rfl
  all_goals first
    | exact absurd rfl h15
    | exact absurd rfl h22
    | exact absurd (.inl rfl) hj
    | exact absurd (.inr rfl) hj
    | exact absurd (.inl rfl) hk
    | exact absurd (.inr rfl) hk
    | skip
  all_goals
    skip
    refine (Tri.enter (rl := r70) (code := c70) (by kernel_rfl) Try.func70 rfl c70_ok (by kernel_rfl) (by kernel_rfl) ?_)
    refine run_ok 4000 _ _ _ _ ?_
    simp (maxSteps := 10000000) only [go_sem, c70, r70, irow, frow, frows_len, irows_len]
    first
      | (refine ⟨_, _, .sub [] ?_ .done, rfl, rfl⟩
         simp only [EmbV, go_sem, hs]
         done)
      | (refine ⟨_, _, .like (Like.bsym _) (.sub [] ?_ .done), rfl, rfl⟩
         simp only [EmbV, go_sem, hs])
theorem next_spec (x : Ins) (n : Int) (ho : OpOk x.1) (hn : 0 ≤ n ∧ n ≤ 100000) : Tri Try.prog 72 [insV x, .int .i64 n] [] (fun v m => v = .vsl 1 (iv .i64 (nextF x n)) false ∧ m = []) := by
  obtain ⟨o, a⟩ := x
  simp only at ho
  have w1 : iwrap .i64 (n + 1) = n + 1 := iwrap_i64_in (by omega)
  refine Tri.post ?_
  by_cases h16 : o = 16
  · subst h16
    skip
    refine (Tri.enter (rl := r72) (code := c72) (by kernel_rfl) Try.func72 rfl c72_ok (by kernel_rfl) (by kernel_rfl) ?_)
    refine run_ok 4000 _ _ _ _ ?_
    simp (maxSteps := 10000000) only [go_sem, c72, r72, irow]
    refine ⟨_, _, .like (Like.nilv 1 false) (.sub [] ?_ .done), rfl, rfl⟩
    simp only [EmbV, go_sem, nextF]
    rfl
  rcases ho.all with rfl | rfl | rfl | rfl | rfl | rfl | rfl | rfl | rfl | rfl | rfl | rfl | rfl | rfl | rfl | rfl | rfl | rfl | rfl | rfl | rfl | rfl
  all_goals first
    | exact absurd rfl h16
    | skip
  all_goals
    skip
    refine (Tri.enter (rl := r72) (code := c72) (by kernel_rfl) Try.func72 rfl c72_ok (by kernel_rfl) (by kernel_rfl) ?_)
    refine run_ok 4000 _ _ _ _ ?_
    simp (maxSteps := 10000000) only [go_sem, c72, r72, irow, w1]
    refine ⟨_, _, .like (Like.vslf _ _) (.sub [] ?_ .done), rfl, rfl⟩
    simp [EmbV, go_sem, nextF, iv]
end Go.AEX
