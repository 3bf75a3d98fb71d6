/- Vote: awake, VoteOnce. -/
import Derived.Test.YthdkobfafncpcaaVoteC
namespace Go.AEX
open Go Go.AE Go.Proofs
set_option maxRecDepth 100000
set_option linter.unusedVariables false
set_option linter.unusedSimpArgs false

theorem of3 : Tri Try.prog 22 [.vsl 1 [[.int .i64 0], [.int .i64 1], [.int .i64 2]] true] [] (fun v m => v = ros 7 0 ∧ m = []) :=
  of_spec [0, 1, 2] true (by simp)
theorem of4 : Tri Try.prog 22 [.vsl 1 [[.int .i64 0], [.int .i64 1], [.int .i64 2], [.int .i64 3]] true] [] (fun v m => v = ros 15 0 ∧ m = []) :=
  of_spec [0, 1, 2, 3] true (by simp)
theorem sort_of {l : List Int} (h : l.Pairwise (fun a b => decide (a ≤ b) = true)) : sortI l = l := List.mergeSort_of_pairwise h
theorem pc7 : pc 7 = 3 := by decide +kernel
theorem awake_spec : Tri Try.prog 20 [] [] (fun v m => v = .bool true ∧ m = []) := by
  refine Tri.post ?_
  have hS : (7 : Nat) < 4294967296 := by decide
  have hk : VOk 7 2 [(0, true), (1, true)] := ⟨by decide, by decide⟩
  have hc : cntV [(0, true), (1, true)] true = [0, 1] := by unfold cntV; rw [sort_of (by decide)]; decide
  have hw := won_spec 7 hS 0 2 _ hk (by rw [hc, pc7]; decide)
  rw [hc] at hw
  simp only [iv, List.map_cons, List.map_nil] at hw
  have ha := ask_spec 7 hS 0 2 (by decide) (by decide)
  have h0 := Go.AEX.Tri.word (vote_spec 7 hS 0 2 0 [] true (by decide) (by decide) rfl)
  have h1 := Go.AEX.Tri.word (vote_spec 7 hS 0 2 1 [(0, true)] true (by decide) (by decide) rfl)
  have hn := vnew_spec 7 0
  refine (Tri.asB (Tri.enter (rl := r20) (code := c20) (by kernel_rfl) Try.func20 rfl c20_ok (by kernel_rfl) (by kernel_rfl) ?_))
  refine run_ok 4000 _ _ _ _ ?_
  simp (maxSteps := 10000000) only [go_sem, c20, r20]
  refine sem_call rfl rfl (((of3).embed [] rfl trivial rfl rfl rfl (by simp)).mono ?_)
  rintro _ _ ⟨_, _, ⟨rfl, rfl⟩, rfl, rfl⟩
  refine run_ok 4000 _ _ _ _ ?_
  simp (maxSteps := 10000000) only [go_sem]
  refine sem_call rfl rfl (((hn).embed [] rfl trivial rfl rfl rfl (by simp)).mono ?_)
  rintro _ _ ⟨_, _, ⟨rfl, rfl⟩, rfl, rfl⟩
  refine run_ok 4000 _ _ _ _ ?_
  simp (maxSteps := 10000000) only [go_sem]
  refine sem_call rfl rfl (((ha).embed [0, 1] rfl (by repeat' first | exact trivial | rfl | (simp only [go_sem]; done) | constructor) rfl (by first | rfl | simp only [go_sem]) rfl (by simp)).mono ?_)
  rintro _ _ ⟨_, _, ⟨rfl, rfl⟩, rfl, rfl⟩
  refine run_ok 4000 _ _ _ _ ?_
  simp (maxSteps := 10000000) only [go_sem]
  refine sem_call rfl rfl (((h0).embed [0, 1, 2] rfl (by repeat' first | exact trivial | rfl | (simp only [go_sem]; done) | constructor) rfl (by first | rfl | simp only [go_sem]) rfl (by simp)).mono ?_)
  rintro _ _ ⟨_, _, ⟨rfl, rfl⟩, rfl, rfl⟩
  refine run_ok 4000 _ _ _ _ ?_
  simp (maxSteps := 10000000) only [go_sem]
  refine sem_call rfl rfl (((h1).embed [0, 1, 2] rfl (by repeat' first | exact trivial | rfl | (simp only [go_sem]; done) | constructor) rfl (by first | rfl | simp only [go_sem]) rfl (by simp)).mono ?_)
  rintro _ _ ⟨_, _, ⟨rfl, rfl⟩, rfl, rfl⟩
  refine run_ok 4000 _ _ _ _ ?_
  simp (maxSteps := 10000000) only [go_sem]
  refine sem_call rfl rfl (((hw).embed [0, 1, 2] rfl (by repeat' first | exact trivial | rfl | (simp only [go_sem]; done) | constructor) rfl (by first | rfl | simp only [go_sem]) rfl (by simp)).mono ?_)
  rintro _ _ ⟨_, _, ⟨rfl, rfl⟩, rfl, rfl⟩
  refine run_ok 4000 _ _ _ _ ?_
  simp (maxSteps := 10000000) only [go_sem]
  refine ⟨_, _, .sub [] ?_ .done, rfl, rfl⟩
  simp only [EmbV, go_sem]
def bl (l : List Bool) : List (List AV) := l.map fun b => [AV.bsym b]
theorem bl_len (l : List Bool) : (bl l).length = l.length := by simp [bl]
theorem bl_has {l : List Bool} {i : Nat} (h : i < l.length) : hasB (bl l) i 0 := ⟨[.bsym l[i]], l[i], by simp [bl, h], .inr rfl⟩
theorem bl_get {l : List Bool} {i : Nat} (h : i < l.length) : rbool (bl l) i 0 = l[i] := by simp [bl, rbool, h]
def Vi (l : List Bool) : Nat → Vts
  | 0 => []
  | _ + 1 => [(1, l.headD false)]
theorem cnt1 (b : Bool) : cntV [(1, b)] true = if b then [1] else [] := by
  unfold cntV
  rw [sort_of (by simp)]
  cases b <;> rfl
theorem ok1 (b : Bool) : VOk 15 3 [(1, b)] := ⟨by simp, by simp; decide⟩
theorem yesT : Tri Try.prog 25 [.pbox 0 0, .int .i64 3] (vM 15 0 3 [(1, true)]) (fun v m => v = .vsl 1 [[.int .i64 1]] false ∧ m = vM 15 0 3 [(1, true)]) := by
  have h := yes_spec 15 0 3 [(1, true)] (ok1 _)
  rw [cnt1] at h; exact h
theorem yesF : Tri Try.prog 25 [.pbox 0 0, .int .i64 3] (vM 15 0 3 [(1, false)]) (fun v m => v = .vsl 1 [] false ∧ m = vM 15 0 3 [(1, false)]) := by
  have h := yes_spec 15 0 3 [(1, false)] (ok1 _)
  rw [cnt1] at h; exact h
theorem once_core (l : List Bool) : Tri Try.prog 4 [.vsl 1 (bl l) false] [] (fun v m => v = .bool true ∧ m = []) := by
  refine Tri.post ?_
  have hS : (15 : Nat) < 4294967296 := by decide
  have hn := vnew_spec 15 0
  have ha := ask_spec 15 hS 0 3 (by decide) (by decide)
  refine (Tri.asB (Tri.enter (rl := r4) (code := c4) (by kernel_rfl) Try.func4 rfl c4_ok (by kernel_rfl) (by kernel_rfl) ?_))
  refine run_ok 4000 _ _ _ _ ?_
  simp (maxSteps := 10000000) only [go_sem, c4, r4]
  refine sem_call rfl rfl ((awake_spec).mono ?_)
  rintro _ _ ⟨rfl, rfl⟩
  refine run_ok 4000 _ _ _ _ ?_
  simp (maxSteps := 10000000) only [go_sem]
  refine sem_call rfl rfl (((of4).embed [] rfl trivial rfl rfl rfl (by simp)).mono ?_)
  rintro _ _ ⟨_, _, ⟨rfl, rfl⟩, rfl, rfl⟩
  refine run_ok 4000 _ _ _ _ ?_
  simp (maxSteps := 10000000) only [go_sem]
  refine sem_call rfl rfl (((hn).embed [] rfl trivial rfl rfl rfl (by simp)).mono ?_)
  rintro _ _ ⟨_, _, ⟨rfl, rfl⟩, rfl, rfl⟩
  refine run_ok 4000 _ _ _ _ ?_
  simp (maxSteps := 10000000) only [go_sem]
  refine sem_call rfl rfl (((ha).embed [0, 1] rfl (by repeat' first | exact trivial | rfl | (simp only [go_sem]; done) | constructor) rfl (by first | rfl | simp only [go_sem]) rfl (by simp)).mono ?_)
  rintro _ _ ⟨_, _, ⟨rfl, rfl⟩, rfl, rfl⟩
  refine run_ok 4000 _ _ _ _ ?_
  simp (maxSteps := 10000000) only [go_sem]
  refine sem_rounds (fun i : Nat => i ≤ l.length)
    (fun i => [(0, .vsl 1 (bl l) false), (3, .pbox 0 0), (4, .int .i64 (i : Nat))])
    (fun i => vM 15 0 3 (Vi l i)) (fun i => l.length - i) 0 [0, 1, 2] (Nat.zero_le _) ?_ ?_
  · simp [Emb, go_sem, Vi]
  intro i hi
  by_cases c : i < l.length
  · by_cases c2 : i < 20
    · have hin : (i : Int) < (l.length : Int) := by omega
      have hin2 : (i : Int) < 20 := by omega
      have w1 := inc64 (show i < 1000000000000 by omega)
      have c0 : 0 < l.length := by omega
      have hin0 : (0 : Int) < (l.length : Int) := by omega
      have b0 := bl_has c0
      have g0 := bl_get c0
      have hh : l.headD false = l[0] := by cases l with | nil => simp at c0 | cons a l => rfl
      cases i with
      | zero =>
        have hv := vote_spec 15 hS 0 3 1 [] l[0] (by decide) (by decide) rfl
        have hV0 : Vi l 0 = [] := rfl
        have hV1 : Vi l (0 + 1) = [((1 : Int), l[0])] := by rw [← hh]; rfl
        rw [hV0]
        cases hb : l[0] with
        | true =>
          rw [hb] at g0 hV1 hv
          skip
          refine run_ok 4000 _ _ _ _ ?_
          simp (maxSteps := 10000000) only [go_sem, hin, hin0, hin2, w1, b0, g0, bl_len, List.nil_append]
          refine sem_call rfl rfl (((hv).embed [0, 1, 2] rfl (by repeat' first | exact trivial | rfl | (simp only [go_sem]; done) | constructor) rfl (by first | rfl | simp only [go_sem]) rfl (by simp)).mono ?_)
          rintro _ _ ⟨_, _, ⟨rfl, rfl⟩, rfl, rfl⟩
          refine run_ok 4000 _ _ _ _ ?_
          simp (maxSteps := 10000000) only [go_sem, hin, hin0, hin2, w1, b0, g0, bl_len, List.nil_append]
          refine sem_call rfl rfl (((yesT).embed [0, 1, 2] rfl (by repeat' first | exact trivial | rfl | (simp only [go_sem]; done) | constructor) rfl (by first | rfl | simp only [go_sem]) rfl (by simp)).mono ?_)
          rintro _ _ ⟨_, _, ⟨rfl, rfl⟩, rfl, rfl⟩
          refine run_ok 4000 _ _ _ _ ?_
          simp (maxSteps := 10000000) only [go_sem, hin, hin0, hin2, w1, b0, g0, bl_len, List.nil_append]
          refine ⟨1, by omega, c, [0, 1, 2], ?_⟩
          rw [show Vi l 1 = [((1 : Int), true)] from hV1]
          simp only [Emb, go_sem]
          rfl
        | false =>
          rw [hb] at g0 hV1 hv
          skip
          refine run_ok 4000 _ _ _ _ ?_
          simp (maxSteps := 10000000) only [go_sem, hin, hin0, hin2, w1, b0, g0, bl_len, List.nil_append]
          refine sem_call rfl rfl (((hv).embed [0, 1, 2] rfl (by repeat' first | exact trivial | rfl | (simp only [go_sem]; done) | constructor) rfl (by first | rfl | simp only [go_sem]) rfl (by simp)).mono ?_)
          rintro _ _ ⟨_, _, ⟨rfl, rfl⟩, rfl, rfl⟩
          refine run_ok 4000 _ _ _ _ ?_
          simp (maxSteps := 10000000) only [go_sem, hin, hin0, hin2, w1, b0, g0, bl_len, List.nil_append]
          refine sem_call rfl rfl (((yesF).embed [0, 1, 2] rfl (by repeat' first | exact trivial | rfl | (simp only [go_sem]; done) | constructor) rfl (by first | rfl | simp only [go_sem]) rfl (by simp)).mono ?_)
          rintro _ _ ⟨_, _, ⟨rfl, rfl⟩, rfl, rfl⟩
          refine run_ok 4000 _ _ _ _ ?_
          simp (maxSteps := 10000000) only [go_sem, hin, hin0, hin2, w1, b0, g0, bl_len, List.nil_append]
          refine ⟨1, by omega, c, [0, 1, 2], ?_⟩
          rw [show Vi l 1 = [((1 : Int), false)] from hV1]
          simp only [Emb, go_sem]
          rfl
      | succ j =>
        have bi := bl_has c
        have gi := bl_get c
        have hj : (((j + 1 : Nat) : Int) == 0) = false := by simp; omega
        have hV0 : Vi l (j + 1) = [((1 : Int), l[0])] := by rw [← hh]; rfl
        have hV1 : Vi l (j + 1 + 1) = [((1 : Int), l[0])] := by rw [← hh]; rfl
        have hv := vote_there 15 hS 0 3 1 [((1 : Int), l[0])] l[j + 1] l[0] (by decide) (by decide) (by rfl)
        rw [hV0]
        generalize l[j + 1] = y at *
        cases hb : l[0] with
        | true =>
          rw [hb] at g0 hV1 hv
          skip
          refine run_ok 4000 _ _ _ _ ?_
          simp (maxSteps := 10000000) only [go_sem, hin, hin0, hin2, w1, b0, g0, bi, gi, hj, bl_len, Int.natCast_nonneg]
          refine sem_call rfl rfl (((hv).embed [0, 1, 2] rfl (by repeat' first | exact trivial | rfl | (simp only [go_sem]; done) | constructor) rfl (by first | rfl | simp only [go_sem]) rfl (by simp)).mono ?_)
          rintro _ _ ⟨_, _, ⟨rfl, rfl⟩, rfl, rfl⟩
          refine run_ok 4000 _ _ _ _ ?_
          simp (maxSteps := 10000000) only [go_sem, hin, hin0, hin2, w1, b0, g0, bi, gi, hj, bl_len, Int.natCast_nonneg]
          refine sem_call rfl rfl (((yesT).embed [0, 1, 2] rfl (by repeat' first | exact trivial | rfl | (simp only [go_sem]; done) | constructor) rfl (by first | rfl | simp only [go_sem]) rfl (by simp)).mono ?_)
          rintro _ _ ⟨_, _, ⟨rfl, rfl⟩, rfl, rfl⟩
          refine run_ok 4000 _ _ _ _ ?_
          simp (maxSteps := 10000000) only [go_sem, hin, hin0, hin2, w1, b0, g0, bi, gi, hj, bl_len, Int.natCast_nonneg]
          refine ⟨j + 1 + 1, by omega, c, [0, 1, 2], ?_⟩
          rw [hV1]
          simp only [Emb, go_sem]
        | false =>
          rw [hb] at g0 hV1 hv
          skip
          refine run_ok 4000 _ _ _ _ ?_
          simp (maxSteps := 10000000) only [go_sem, hin, hin0, hin2, w1, b0, g0, bi, gi, hj, bl_len, Int.natCast_nonneg]
          refine sem_call rfl rfl (((hv).embed [0, 1, 2] rfl (by repeat' first | exact trivial | rfl | (simp only [go_sem]; done) | constructor) rfl (by first | rfl | simp only [go_sem]) rfl (by simp)).mono ?_)
          rintro _ _ ⟨_, _, ⟨rfl, rfl⟩, rfl, rfl⟩
          refine run_ok 4000 _ _ _ _ ?_
          simp (maxSteps := 10000000) only [go_sem, hin, hin0, hin2, w1, b0, g0, bi, gi, hj, bl_len, Int.natCast_nonneg]
          refine sem_call rfl rfl (((yesF).embed [0, 1, 2] rfl (by repeat' first | exact trivial | rfl | (simp only [go_sem]; done) | constructor) rfl (by first | rfl | simp only [go_sem]) rfl (by simp)).mono ?_)
          rintro _ _ ⟨_, _, ⟨rfl, rfl⟩, rfl, rfl⟩
          refine run_ok 4000 _ _ _ _ ?_
          simp (maxSteps := 10000000) only [go_sem, hin, hin0, hin2, w1, b0, g0, bi, gi, hj, bl_len, Int.natCast_nonneg]
          refine ⟨j + 1 + 1, by omega, c, [0, 1, 2], ?_⟩
          rw [hV1]
          simp only [Emb, go_sem]
    · have hin : (i : Int) < (l.length : Int) := by omega
      have hin2 : ¬ (i : Int) < 20 := by omega
      generalize Vi l i = V
      have v1 := Go.AEX.Tri.word (vote_who 15 hS 0 3 3 V true (.inr rfl))
      have v2 := Go.AEX.Tri.word (vote_who 15 hS 0 3 9 V true (.inl (by decide)))
      have v3 := Go.AEX.Tri.word (vote_none 15 0 3 0 2 V true (by decide))
      have v4 := ask_zero 15 0 3 V
      skip
      refine run_ok 4000 _ _ _ _ ?_
      simp (maxSteps := 10000000) only [go_sem, hin, hin2, bl_len]
      refine run_ok 4000 _ _ _ _ ?_
      simp (maxSteps := 10000000) only [go_sem, hin, hin2, bl_len]
      refine sem_call rfl rfl (((v1).embed [0, 1, 2] rfl (by repeat' first | exact trivial | rfl | (simp only [go_sem]; done) | constructor) rfl (by first | rfl | simp only [go_sem]) rfl (by simp)).mono ?_)
      rintro _ _ ⟨_, _, ⟨rfl, rfl⟩, rfl, rfl⟩
      refine run_ok 4000 _ _ _ _ ?_
      simp (maxSteps := 10000000) only [go_sem, hin, hin2, bl_len]
      refine sem_call rfl rfl (((v2).embed [0, 1, 2] rfl (by repeat' first | exact trivial | rfl | (simp only [go_sem]; done) | constructor) rfl (by first | rfl | simp only [go_sem]) rfl (by simp)).mono ?_)
      rintro _ _ ⟨_, _, ⟨rfl, rfl⟩, rfl, rfl⟩
      refine run_ok 4000 _ _ _ _ ?_
      simp (maxSteps := 10000000) only [go_sem, hin, hin2, bl_len]
      refine sem_call rfl rfl (((v3).embed [0, 1, 2] rfl (by repeat' first | exact trivial | rfl | (simp only [go_sem]; done) | constructor) rfl (by first | rfl | simp only [go_sem]) rfl (by simp)).mono ?_)
      rintro _ _ ⟨_, _, ⟨rfl, rfl⟩, rfl, rfl⟩
      refine run_ok 4000 _ _ _ _ ?_
      simp (maxSteps := 10000000) only [go_sem, hin, hin2, bl_len]
      refine sem_call rfl rfl (((v4).embed [0, 1, 2] rfl (by repeat' first | exact trivial | rfl | (simp only [go_sem]; done) | constructor) rfl (by first | rfl | simp only [go_sem]) rfl (by simp)).mono ?_)
      rintro _ _ ⟨_, _, ⟨rfl, rfl⟩, rfl, rfl⟩
      refine run_ok 4000 _ _ _ _ ?_
      simp (maxSteps := 10000000) only [go_sem, hin, hin2, bl_len]
      refine ⟨_, _, .sub [] ?_ .done, rfl, rfl⟩
      simp only [EmbV, go_sem]
  · have hin : ¬ (i : Int) < (l.length : Int) := by omega
    generalize Vi l i = V
    have v1 := Go.AEX.Tri.word (vote_who 15 hS 0 3 3 V true (.inr rfl))
    have v2 := Go.AEX.Tri.word (vote_who 15 hS 0 3 9 V true (.inl (by decide)))
    have v3 := Go.AEX.Tri.word (vote_none 15 0 3 0 2 V true (by decide))
    have v4 := ask_zero 15 0 3 V
    skip
    refine run_ok 4000 _ _ _ _ ?_
    simp (maxSteps := 10000000) only [go_sem, hin, bl_len]
    refine run_ok 4000 _ _ _ _ ?_
    simp (maxSteps := 10000000) only [go_sem, hin, bl_len]
    refine sem_call rfl rfl (((v1).embed [0, 1, 2] rfl (by repeat' first | exact trivial | rfl | (simp only [go_sem]; done) | constructor) rfl (by first | rfl | simp only [go_sem]) rfl (by simp)).mono ?_)
    rintro _ _ ⟨_, _, ⟨rfl, rfl⟩, rfl, rfl⟩
    refine run_ok 4000 _ _ _ _ ?_
    simp (maxSteps := 10000000) only [go_sem, hin, bl_len]
    refine sem_call rfl rfl (((v2).embed [0, 1, 2] rfl (by repeat' first | exact trivial | rfl | (simp only [go_sem]; done) | constructor) rfl (by first | rfl | simp only [go_sem]) rfl (by simp)).mono ?_)
    rintro _ _ ⟨_, _, ⟨rfl, rfl⟩, rfl, rfl⟩
    refine run_ok 4000 _ _ _ _ ?_
    simp (maxSteps := 10000000) only [go_sem, hin, bl_len]
    refine sem_call rfl rfl (((v3).embed [0, 1, 2] rfl (by repeat' first | exact trivial | rfl | (simp only [go_sem]; done) | constructor) rfl (by first | rfl | simp only [go_sem]) rfl (by simp)).mono ?_)
    rintro _ _ ⟨_, _, ⟨rfl, rfl⟩, rfl, rfl⟩
    refine run_ok 4000 _ _ _ _ ?_
    simp (maxSteps := 10000000) only [go_sem, hin, bl_len]
    refine sem_call rfl rfl (((v4).embed [0, 1, 2] rfl (by repeat' first | exact trivial | rfl | (simp only [go_sem]; done) | constructor) rfl (by first | rfl | simp only [go_sem]) rfl (by simp)).mono ?_)
    rintro _ _ ⟨_, _, ⟨rfl, rfl⟩, rfl, rfl⟩
    refine run_ok 4000 _ _ _ _ ?_
    simp (maxSteps := 10000000) only [go_sem, hin, bl_len]
    refine ⟨_, _, .sub [] ?_ .done, rfl, rfl⟩
    simp only [EmbV, go_sem]
theorem bools {xs : List (List AV)} (h : ∀ x ∈ xs, HasL [.bool] x) : ∃ l : List Bool, xs = bl l := by
  induction xs with
  | nil => exact ⟨[], rfl⟩
  | cons x xs ih =>
    obtain ⟨l, rfl⟩ := ih fun y hy => h y (by simp [hy])
    have := h x (by simp)
    simp only [HasL, Has] at this
    obtain ⟨_, _, rfl, ⟨b, rfl⟩, rfl⟩ := this
    exact ⟨b :: l, rfl⟩
theorem voteOnce_spec (l : AV) (hl : Has (.sl [.bool]) l) : Tri Try.prog 4 [l] [] (fun v m => v = .bool true) := by
  simp only [Has] at hl
  obtain ⟨xs, rfl, hxl, hx⟩ := hl
  simp only [List.length_cons, List.length_nil]
  obtain ⟨l, rfl⟩ := bools hx
  exact (once_core l).mono fun v m h => h.1
end Go.AEX
