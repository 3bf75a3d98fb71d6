/- Verify: images. -/
import Derived.Test.YteilmgoomifjmaaVerW
namespace Go.AEX
open Go Go.AE Go.Proofs
set_option maxRecDepth 100000
set_option linter.unusedVariables false
set_option linter.unusedSimpArgs false

def badF (i : Nat) (f : Fn) : Bool := decide (f.args < 0 ∨ f.args > f.locals ∨ f.locals > 16 ∨ ((i : Int) < 2 ∧ f.args ≠ entryF i) ∨ f.code.length < 1 ∨ f.code.length > 128)
/-- The first function that may not be, from a place on. -/
def firstBad : List Fn → Nat → Option Nat
  | [], _ => none
  | f :: r, i => if badF i f then some i else firstBad r (i + 1)
/-- The first function whose walk finds a place that may not be. -/
def firstOff (l : List Fn) : List Fn → Nat → Option (Nat × Int)
  | [], _ => none
  | f :: r, i => if (resF l f).2 ≥ 0 then some (i, (resF l f).2) else firstOff l r (i + 1)
def checkF (l : List Fn) : (Int × Int) × Int :=
  if l.length < 2 ∨ 16 < l.length then ((0, 0), 14) else match firstBad l 0 with
  | some i => ((i, -1), 14)
  | none => match firstOff l l 0 with
    | some (i, a) => ((i, a), 14)
    | none => ((0, 0), 0)
def AllOk (l : List Fn) : Prop := ∀ f ∈ l, (∀ x ∈ f.code, OpOk x.1)
theorem firstBad_none : ∀ {l : List Fn} {i : Nat}, firstBad l i = none → ∀ f ∈ l, ∃ j, badF j f = false
  | [], _, _ => by simp
  | f :: r, i, h => by
    unfold firstBad at h
    split at h
    · cases h
    · rename_i hb
      intro g hg
      rcases List.mem_cons.1 hg with rfl | hg
      · exact ⟨i, by simpa using hb⟩
      · exact firstBad_none h g hg
theorem badF_not {i : Nat} {f : Fn} (h : badF i f = false) : 0 ≤ f.args ∧ f.args ≤ f.locals ∧ f.locals ≤ 16 ∧ 1 ≤ f.code.length ∧ f.code.length ≤ 128 := by
  unfold badF at h
  have := of_decide_eq_false h
  omega
theorem resF_at (l : List Fn) (f : Fn) : True := trivial
theorem check_spec (l : List Fn) (hok : AllOk l) (hlen : l.length ≤ 1000) : Tri Try.prog 32 [imgV l] []
    (fun v m => v = .tup [.agg [.int .i64 (checkF l).1.1, .int .i64 (checkF l).1.2], .int .i64 (checkF l).2] ∧ m = []) := by
  refine Tri.post ?_
  by_cases g1 : (l.length : Int) < 2
  · have hF : checkF l = ((0, 0), 14) := by unfold checkF; rw [if_pos (by omega)]
    rw [hF]
    skip
    refine (Tri.enter (rl := r32) (code := c32) (by kernel_rfl) Try.func32 rfl c32_ok (by kernel_rfl) (by kernel_rfl) ?_)
    refine run_ok 4000 _ _ _ _ ?_
    simp (maxSteps := 10000000) only [go_sem, c32, r32, frows_len, g1]
    refine ⟨_, _, .sub [] ?_ .done, rfl, rfl⟩
    simp only [EmbV, go_sem]
  by_cases g2 : (l.length : Int) > 16
  · have hF : checkF l = ((0, 0), 14) := by unfold checkF; rw [if_pos (by omega)]
    rw [hF]
    skip
    refine (Tri.enter (rl := r32) (code := c32) (by kernel_rfl) Try.func32 rfl c32_ok (by kernel_rfl) (by kernel_rfl) ?_)
    refine run_ok 4000 _ _ _ _ ?_
    simp (maxSteps := 10000000) only [go_sem, c32, r32, frows_len, g1, g2]
    refine ⟨_, _, .sub [] ?_ .done, rfl, rfl⟩
    simp only [EmbV, go_sem]
  generalize hR : checkF l = R
  unfold checkF at hR
  rw [if_neg (by omega)] at hR
  skip
  refine (Tri.enter (rl := r32) (code := c32) (by kernel_rfl) Try.func32 rfl c32_ok (by kernel_rfl) (by kernel_rfl) ?_)
  refine run_ok 4000 _ _ _ _ ?_
  simp (maxSteps := 10000000) only [go_sem, c32, r32, frows_len, g1, g2]
  refine sem_rounds (fun i : Nat => i ≤ l.length ∧ firstBad (l.drop i) i = firstBad l 0) (fun i => [(1, .pbox 0 0), (2, .pbox 1 0), (23, .vsl 3 (frows l) false), (24, .int .i64 l.length), (25, .int .i64 (i : Nat))])
    (fun i => [.box [.vsl 3 (frows l) false], .box [.int .i64 0, .int .i64 0]]) (fun i => l.length - i) 0 [0, 1] ⟨Nat.zero_le _, by rw [List.drop_zero]⟩ ?_ ?_
  · simp only [Emb, go_sem]
  rintro i ⟨hi, hfb⟩
  skip
  refine run_ok 4000 _ _ _ _ ?_
  simp (maxSteps := 10000000) only [go_sem, frows_len]
  refine ⟨fun hlt => ?_, fun hge => ?_⟩
  · have hlt : i < l.length := by omega
    have hin : (i : Int) < (l.length : Int) := by omega
    have h0 := frows_h0 hlt; have h1 := frows_h1 hlt; have h2 := frows_h2 hlt
    have r0 := frows_r0 hlt; have r1 := frows_r1 hlt; have r2 := frows_r2 hlt
    rw [List.drop_eq_getElem_cons hlt, firstBad] at hfb
    generalize l[i] = f at *
    obtain ⟨fa, fl, fc⟩ := f
    simp only at r0 r1 r2
    by_cases c1 : fa < 0
    · have hb : badF i ⟨fa, fl, fc⟩ = true := by unfold badF; simp only [decide_eq_true_eq]; omega
      rw [hb, if_pos rfl] at hfb
      rw [← hfb] at hR
      simp only at hR
      subst hR
      skip
      simp (maxSteps := 10000000) only [go_sem, frows_len, irows_len, h0, h1, h2, r0, r1, r2, hin, Int.natCast_nonneg, inc64 (show i < 1000000000000 by omega), c1]
      refine sem_drawG l32_0_ok (by kernel_rfl) ?_
      intro KK hKK
      simp (maxSteps := 10000000) only [go_sem, l32_0, frows_len, irows_len, h0, h1, h2, r0, r1, r2, hin, Int.natCast_nonneg, inc64 (show i < 1000000000000 by omega), c1]
      subst hKK
      simp (maxSteps := 10000000) only [go_sem, frows_len, irows_len, h0, h1, h2, r0, r1, r2, hin, Int.natCast_nonneg, inc64 (show i < 1000000000000 by omega), c1]
      refine ⟨_, _, .sub [] ?_ .done, rfl, rfl⟩
      simp only [EmbV, go_sem]
    by_cases c2 : fa > fl
    · have hb : badF i ⟨fa, fl, fc⟩ = true := by unfold badF; simp only [decide_eq_true_eq]; omega
      rw [hb, if_pos rfl] at hfb
      rw [← hfb] at hR
      simp only at hR
      subst hR
      skip
      simp (maxSteps := 10000000) only [go_sem, frows_len, irows_len, h0, h1, h2, r0, r1, r2, hin, Int.natCast_nonneg, inc64 (show i < 1000000000000 by omega), c1, c2]
      refine sem_drawG l32_0_ok (by kernel_rfl) ?_
      intro KK hKK
      simp (maxSteps := 10000000) only [go_sem, l32_0, frows_len, irows_len, h0, h1, h2, r0, r1, r2, hin, Int.natCast_nonneg, inc64 (show i < 1000000000000 by omega), c1, c2]
      subst hKK
      simp (maxSteps := 10000000) only [go_sem, frows_len, irows_len, h0, h1, h2, r0, r1, r2, hin, Int.natCast_nonneg, inc64 (show i < 1000000000000 by omega), c1, c2]
      refine ⟨_, _, .sub [] ?_ .done, rfl, rfl⟩
      simp only [EmbV, go_sem]
    by_cases c3 : fl > 16
    · have hb : badF i ⟨fa, fl, fc⟩ = true := by unfold badF; simp only [decide_eq_true_eq]; omega
      rw [hb, if_pos rfl] at hfb
      rw [← hfb] at hR
      simp only at hR
      subst hR
      skip
      simp (maxSteps := 10000000) only [go_sem, frows_len, irows_len, h0, h1, h2, r0, r1, r2, hin, Int.natCast_nonneg, inc64 (show i < 1000000000000 by omega), c1, c2, c3]
      refine sem_drawG l32_0_ok (by kernel_rfl) ?_
      intro KK hKK
      simp (maxSteps := 10000000) only [go_sem, l32_0, frows_len, irows_len, h0, h1, h2, r0, r1, r2, hin, Int.natCast_nonneg, inc64 (show i < 1000000000000 by omega), c1, c2, c3]
      subst hKK
      simp (maxSteps := 10000000) only [go_sem, frows_len, irows_len, h0, h1, h2, r0, r1, r2, hin, Int.natCast_nonneg, inc64 (show i < 1000000000000 by omega), c1, c2, c3]
      refine ⟨_, _, .sub [] ?_ .done, rfl, rfl⟩
      simp only [EmbV, go_sem]
    by_cases c4 : (i : Int) < 2
    · by_cases c5 : fa = entryF i
      · have q5 : (fa != entryF i) = false := by simpa using c5
        by_cases c6 : (fc.length : Int) < 1
        · have hb : badF i ⟨fa, fl, fc⟩ = true := by unfold badF; simp only [decide_eq_true_eq]; omega
          rw [hb, if_pos rfl] at hfb
          rw [← hfb] at hR
          simp only at hR
          subst hR
          skip
          simp (maxSteps := 10000000) only [go_sem, frows_len, irows_len, h0, h1, h2, r0, r1, r2, hin, Int.natCast_nonneg, inc64 (show i < 1000000000000 by omega), c1, c2, c3, c4, q5, c6]
          refine sem_drawG l32_0_ok (by kernel_rfl) ?_
          intro KK hKK
          simp (maxSteps := 10000000) only [go_sem, l32_0, frows_len, irows_len, h0, h1, h2, r0, r1, r2, hin, Int.natCast_nonneg, inc64 (show i < 1000000000000 by omega), c1, c2, c3, c4, q5, c6]
          subst hKK
          simp (maxSteps := 10000000) only [go_sem, frows_len, irows_len, h0, h1, h2, r0, r1, r2, hin, Int.natCast_nonneg, inc64 (show i < 1000000000000 by omega), c1, c2, c3, c4, q5, c6]
          refine TriZ.of (((entry_spec i).embed [] rfl (by repeat' first | exact trivial | rfl | (simp only [go_sem]; done) | constructor) rfl (by first | rfl | simp only [go_sem]) rfl (by simp)).mono ?_)
          rintro _ _ ⟨_, _, ⟨rfl, rfl⟩, rfl, rfl⟩
          simp (maxSteps := 10000000) only [go_sem, frows_len, irows_len, h0, h1, h2, r0, r1, r2, hin, Int.natCast_nonneg, inc64 (show i < 1000000000000 by omega), c1, c2, c3, c4, q5, c6]
          refine ⟨_, _, .sub [] ?_ .done, rfl, rfl⟩
          simp only [EmbV, go_sem]
        by_cases c7 : (fc.length : Int) > 128
        · have hb : badF i ⟨fa, fl, fc⟩ = true := by unfold badF; simp only [decide_eq_true_eq]; omega
          rw [hb, if_pos rfl] at hfb
          rw [← hfb] at hR
          simp only at hR
          subst hR
          skip
          simp (maxSteps := 10000000) only [go_sem, frows_len, irows_len, h0, h1, h2, r0, r1, r2, hin, Int.natCast_nonneg, inc64 (show i < 1000000000000 by omega), c1, c2, c3, c4, q5, c6, c7]
          refine sem_drawG l32_0_ok (by kernel_rfl) ?_
          intro KK hKK
          simp (maxSteps := 10000000) only [go_sem, l32_0, frows_len, irows_len, h0, h1, h2, r0, r1, r2, hin, Int.natCast_nonneg, inc64 (show i < 1000000000000 by omega), c1, c2, c3, c4, q5, c6, c7]
          subst hKK
          simp (maxSteps := 10000000) only [go_sem, frows_len, irows_len, h0, h1, h2, r0, r1, r2, hin, Int.natCast_nonneg, inc64 (show i < 1000000000000 by omega), c1, c2, c3, c4, q5, c6, c7]
          refine TriZ.of (((entry_spec i).embed [] rfl (by repeat' first | exact trivial | rfl | (simp only [go_sem]; done) | constructor) rfl (by first | rfl | simp only [go_sem]) rfl (by simp)).mono ?_)
          rintro _ _ ⟨_, _, ⟨rfl, rfl⟩, rfl, rfl⟩
          simp (maxSteps := 10000000) only [go_sem, frows_len, irows_len, h0, h1, h2, r0, r1, r2, hin, Int.natCast_nonneg, inc64 (show i < 1000000000000 by omega), c1, c2, c3, c4, q5, c6, c7]
          refine ⟨_, _, .sub [] ?_ .done, rfl, rfl⟩
          simp only [EmbV, go_sem]
        · have hb : badF i ⟨fa, fl, fc⟩ = false := by unfold badF; simp only [decide_eq_false_iff_not]; omega
          rw [hb, if_neg (by simp)] at hfb
          skip
          simp (maxSteps := 10000000) only [go_sem, frows_len, irows_len, h0, h1, h2, r0, r1, r2, hin, Int.natCast_nonneg, inc64 (show i < 1000000000000 by omega), c1, c2, c3, c4, q5, c6, c7]
          refine sem_drawG l32_0_ok (by kernel_rfl) ?_
          intro KK hKK
          simp (maxSteps := 10000000) only [go_sem, l32_0, frows_len, irows_len, h0, h1, h2, r0, r1, r2, hin, Int.natCast_nonneg, inc64 (show i < 1000000000000 by omega), c1, c2, c3, c4, q5, c6, c7]
          subst hKK
          simp (maxSteps := 10000000) only [go_sem, frows_len, irows_len, h0, h1, h2, r0, r1, r2, hin, Int.natCast_nonneg, inc64 (show i < 1000000000000 by omega), c1, c2, c3, c4, q5, c6, c7]
          refine TriZ.of (((entry_spec i).embed [] rfl (by repeat' first | exact trivial | rfl | (simp only [go_sem]; done) | constructor) rfl (by first | rfl | simp only [go_sem]) rfl (by simp)).mono ?_)
          rintro _ _ ⟨_, _, ⟨rfl, rfl⟩, rfl, rfl⟩
          simp (maxSteps := 10000000) only [go_sem, frows_len, irows_len, h0, h1, h2, r0, r1, r2, hin, Int.natCast_nonneg, inc64 (show i < 1000000000000 by omega), c1, c2, c3, c4, q5, c6, c7]
          refine ⟨i + 1, by omega, ⟨hlt, hfb⟩, [0, 1], ?_⟩
          simp only [Emb, go_sem]
      · have q5 : (fa != entryF i) = true := by simpa using c5
        have hb : badF i ⟨fa, fl, fc⟩ = true := by unfold badF; simp only [decide_eq_true_eq]; omega
        rw [hb, if_pos rfl] at hfb
        rw [← hfb] at hR
        simp only at hR
        subst hR
        skip
        simp (maxSteps := 10000000) only [go_sem, frows_len, irows_len, h0, h1, h2, r0, r1, r2, hin, Int.natCast_nonneg, inc64 (show i < 1000000000000 by omega), c1, c2, c3, c4, q5]
        refine sem_drawG l32_0_ok (by kernel_rfl) ?_
        intro KK hKK
        simp (maxSteps := 10000000) only [go_sem, l32_0, frows_len, irows_len, h0, h1, h2, r0, r1, r2, hin, Int.natCast_nonneg, inc64 (show i < 1000000000000 by omega), c1, c2, c3, c4, q5]
        subst hKK
        simp (maxSteps := 10000000) only [go_sem, frows_len, irows_len, h0, h1, h2, r0, r1, r2, hin, Int.natCast_nonneg, inc64 (show i < 1000000000000 by omega), c1, c2, c3, c4, q5]
        refine TriZ.of (((entry_spec i).embed [] rfl (by repeat' first | exact trivial | rfl | (simp only [go_sem]; done) | constructor) rfl (by first | rfl | simp only [go_sem]) rfl (by simp)).mono ?_)
        rintro _ _ ⟨_, _, ⟨rfl, rfl⟩, rfl, rfl⟩
        simp (maxSteps := 10000000) only [go_sem, frows_len, irows_len, h0, h1, h2, r0, r1, r2, hin, Int.natCast_nonneg, inc64 (show i < 1000000000000 by omega), c1, c2, c3, c4, q5]
        refine ⟨_, _, .sub [] ?_ .done, rfl, rfl⟩
        simp only [EmbV, go_sem]
    by_cases c6 : (fc.length : Int) < 1
    · have hb : badF i ⟨fa, fl, fc⟩ = true := by unfold badF; simp only [decide_eq_true_eq]; omega
      rw [hb, if_pos rfl] at hfb
      rw [← hfb] at hR
      simp only at hR
      subst hR
      skip
      simp (maxSteps := 10000000) only [go_sem, frows_len, irows_len, h0, h1, h2, r0, r1, r2, hin, Int.natCast_nonneg, inc64 (show i < 1000000000000 by omega), c1, c2, c3, c4, c6]
      refine sem_drawG l32_0_ok (by kernel_rfl) ?_
      intro KK hKK
      simp (maxSteps := 10000000) only [go_sem, l32_0, frows_len, irows_len, h0, h1, h2, r0, r1, r2, hin, Int.natCast_nonneg, inc64 (show i < 1000000000000 by omega), c1, c2, c3, c4, c6]
      subst hKK
      simp (maxSteps := 10000000) only [go_sem, frows_len, irows_len, h0, h1, h2, r0, r1, r2, hin, Int.natCast_nonneg, inc64 (show i < 1000000000000 by omega), c1, c2, c3, c4, c6]
      refine ⟨_, _, .sub [] ?_ .done, rfl, rfl⟩
      simp only [EmbV, go_sem]
    by_cases c7 : (fc.length : Int) > 128
    · have hb : badF i ⟨fa, fl, fc⟩ = true := by unfold badF; simp only [decide_eq_true_eq]; omega
      rw [hb, if_pos rfl] at hfb
      rw [← hfb] at hR
      simp only at hR
      subst hR
      skip
      simp (maxSteps := 10000000) only [go_sem, frows_len, irows_len, h0, h1, h2, r0, r1, r2, hin, Int.natCast_nonneg, inc64 (show i < 1000000000000 by omega), c1, c2, c3, c4, c6, c7]
      refine sem_drawG l32_0_ok (by kernel_rfl) ?_
      intro KK hKK
      simp (maxSteps := 10000000) only [go_sem, l32_0, frows_len, irows_len, h0, h1, h2, r0, r1, r2, hin, Int.natCast_nonneg, inc64 (show i < 1000000000000 by omega), c1, c2, c3, c4, c6, c7]
      subst hKK
      simp (maxSteps := 10000000) only [go_sem, frows_len, irows_len, h0, h1, h2, r0, r1, r2, hin, Int.natCast_nonneg, inc64 (show i < 1000000000000 by omega), c1, c2, c3, c4, c6, c7]
      refine ⟨_, _, .sub [] ?_ .done, rfl, rfl⟩
      simp only [EmbV, go_sem]
    · have hb : badF i ⟨fa, fl, fc⟩ = false := by unfold badF; simp only [decide_eq_false_iff_not]; omega
      rw [hb, if_neg (by simp)] at hfb
      skip
      simp (maxSteps := 10000000) only [go_sem, frows_len, irows_len, h0, h1, h2, r0, r1, r2, hin, Int.natCast_nonneg, inc64 (show i < 1000000000000 by omega), c1, c2, c3, c4, c6, c7]
      refine sem_drawG l32_0_ok (by kernel_rfl) ?_
      intro KK hKK
      simp (maxSteps := 10000000) only [go_sem, l32_0, frows_len, irows_len, h0, h1, h2, r0, r1, r2, hin, Int.natCast_nonneg, inc64 (show i < 1000000000000 by omega), c1, c2, c3, c4, c6, c7]
      subst hKK
      simp (maxSteps := 10000000) only [go_sem, frows_len, irows_len, h0, h1, h2, r0, r1, r2, hin, Int.natCast_nonneg, inc64 (show i < 1000000000000 by omega), c1, c2, c3, c4, c6, c7]
      refine ⟨i + 1, by omega, ⟨hlt, hfb⟩, [0, 1], ?_⟩
      simp only [Emb, go_sem]
  have hi : i = l.length := by omega
  rw [hi, List.drop_length, firstBad] at hfb
  rw [← hfb] at hR
  have hnb := firstBad_none hfb.symm
  simp only at hR
  clear hge hi hfb
  skip
  refine run_ok 4000 _ _ _ _ ?_
  simp (maxSteps := 10000000) only [go_sem]
  refine run_ok 4000 _ _ _ _ ?_
  simp (maxSteps := 10000000) only [go_sem]
  refine sem_rounds (fun i : Nat => i ≤ l.length ∧ firstOff l (l.drop i) i = firstOff l l 0) (fun i => [(1, .pbox 0 0), (2, .pbox 1 0), (71, .vsl 3 (frows l) false), (72, .int .i64 l.length), (73, .int .i64 (i : Nat))])
    (fun i => [.box [.vsl 3 (frows l) false], .box [.int .i64 0, .int .i64 0]]) (fun i => l.length - i) 0 [0, 1] ⟨Nat.zero_le _, by rw [List.drop_zero]⟩ ?_ ?_
  · simp only [Emb, go_sem, frows_len]
  rintro i ⟨hi, hfo⟩
  skip
  refine run_ok 4000 _ _ _ _ ?_
  simp (maxSteps := 10000000) only [go_sem, frows_len]
  refine ⟨fun hlt => ?_, fun hge => ?_⟩
  · have hlt : i < l.length := by omega
    have hin : (i : Int) < (l.length : Int) := by omega
    have h0 := frows_h0 hlt; have h1 := frows_h1 hlt; have h2 := frows_h2 hlt
    have r0 := frows_r0 hlt; have r1 := frows_r1 hlt; have r2 := frows_r2 hlt
    rw [List.drop_eq_getElem_cons hlt, firstOff] at hfo
    have hmem := List.getElem_mem hlt
    obtain ⟨j, hj⟩ := hnb _ hmem
    have hbn := badF_not hj
    have hw := walk_spec l l[i] (by omega) (hok _ hmem) (fun g hg => by obtain ⟨j, hj⟩ := hnb _ hg; have := badF_not hj; omega)
    generalize l[i] = f at *
    obtain ⟨fa, fl, fc⟩ := f
    simp only at r0 r1 r2 hbn
    simp only [imgV, fnV, frow] at hw
    generalize resF l ⟨fa, fl, fc⟩ = W at *
    obtain ⟨wd, wa⟩ := W
    simp only at hw hfo
    skip
    simp (maxSteps := 10000000) only [go_sem, frows_len, h0, h1, h2, r0, r1, r2, hin, Int.natCast_nonneg, inc64 (show i < 1000000000000 by omega)]
    by_cases c1 : wa ≥ 0
    · rw [if_pos c1] at hfo
      rw [← hfo] at hR
      simp only at hR
      subst hR
      skip
      refine sem_call rfl rfl (((hw).embed [] rfl trivial rfl rfl rfl (by simp)).mono ?_)
      rintro _ _ ⟨_, _, ⟨rfl, rfl⟩, rfl, rfl⟩
      refine run_ok 4000 _ _ _ _ ?_
      simp (maxSteps := 10000000) only [go_sem, c1]
      refine ⟨_, _, .sub [] ?_ .done, rfl, rfl⟩
      simp only [EmbV, go_sem]
    · rw [if_neg c1] at hfo
      skip
      refine sem_call rfl rfl (((hw).embed [] rfl trivial rfl rfl rfl (by simp)).mono ?_)
      rintro _ _ ⟨_, _, ⟨rfl, rfl⟩, rfl, rfl⟩
      refine run_ok 4000 _ _ _ _ ?_
      simp (maxSteps := 10000000) only [go_sem, c1, inc64 (show i < 1000000000000 by omega)]
      refine ⟨i + 1, by omega, ⟨hlt, hfo⟩, [0, 1], ?_⟩
      simp only [Emb, go_sem]
  · have hi : i = l.length := by omega
    rw [hi, List.drop_length, firstOff] at hfo
    rw [← hfo] at hR
    simp only at hR
    subst hR
    skip
    refine run_ok 4000 _ _ _ _ ?_
    simp (maxSteps := 10000000) only [go_sem]
    refine ⟨_, _, .sub [] ?_ .done, rfl, rfl⟩
    simp only [EmbV, go_sem]
end Go.AEX
