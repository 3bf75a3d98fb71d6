/- Vote: awake, VoteOnce. -/
import Derived.Test.YthdkobfafncpcaaVoteC
namespace Go.AEX
open Go Go.AE Go.Proofs
set_option maxRecDepth 100000
set_option linter.unusedVariables false
set_option linter.unusedSimpArgs false

theorem of3 : Tri Try.prog 22 [.vsl 1 [[.int .i64 0], [.int .i64 1], [.int .i64 2]] true] [] (fun v m => v = ros 7 0 ∧ m = []) :=
  of_spec [0, 1, 2] true (by simp)
theorem sort_of {l : List Int} (h : l.Pairwise (fun a b => decide (a ≤ b) = true)) : sortI l = l := List.mergeSort_of_pairwise h
theorem pc7 : pc 7 = 3 := by decide +kernel
theorem awake_spec : Tri Try.prog 20 [] [] (fun v m => v = .bool true ∧ m = []) := by
  refine Tri.post ?_
  have hS : (7 : Nat) < 4294967296 := by decide
  have hk : VOk 7 2 [(0, true), (1, true)] := ⟨by decide, by decide⟩
  have hc : cntV [(0, true), (1, true)] true = [0, 1] := by unfold cntV; rw [sort_of (by decide)]; decide
  have hw := won_spec 7 hS 0 2 _ hk (by rw [hc, pc7]; decide)
  rw [hc] at hw
  simp only [iv, List.map_cons, List.map_nil] at hw
  have ha := ask_spec 7 hS 0 2 (by decide) (by decide)
  have h0 := Go.AEX.Tri.word (vote_spec 7 hS 0 2 0 [] true (by decide) (by decide) rfl)
  have h1 := Go.AEX.Tri.word (vote_spec 7 hS 0 2 1 [(0, true)] true (by decide) (by decide) rfl)
  have hn := vnew_spec 7 0
  refine (Tri.asB (Tri.enter (rl := r20) (code := c20) (by kernel_rfl) Try.func20 rfl c20_ok (by kernel_rfl) (by kernel_rfl) ?_))
  refine run_ok 4000 _ _ _ _ ?_
  simp (maxSteps := 10000000) only [go_sem, c20, r20]
  refine sem_call rfl rfl (((of3).embed [] rfl trivial rfl rfl rfl (by simp)).mono ?_)
  rintro _ _ ⟨_, _, ⟨rfl, rfl⟩, rfl, rfl⟩
  refine run_ok 4000 _ _ _ _ ?_
  simp (maxSteps := 10000000) only [go_sem]
  refine sem_call rfl rfl (((hn).embed [] rfl trivial rfl rfl rfl (by simp)).mono ?_)
  rintro _ _ ⟨_, _, ⟨rfl, rfl⟩, rfl, rfl⟩
  refine run_ok 4000 _ _ _ _ ?_
  simp (maxSteps := 10000000) only [go_sem]
  refine sem_call rfl rfl (((ha).embed [0, 1] rfl (by repeat' first | exact trivial | rfl | (simp only [go_sem]; done) | constructor) rfl (by first | rfl | simp only [go_sem]) rfl (by simp)).mono ?_)
  rintro _ _ ⟨_, _, ⟨rfl, rfl⟩, rfl, rfl⟩
  refine run_ok 4000 _ _ _ _ ?_
  simp (maxSteps := 10000000) only [go_sem]
  refine sem_call rfl rfl (((h0).embed [0, 1, 2] rfl (by repeat' first | exact trivial | rfl | (simp only [go_sem]; done) | constructor) rfl (by first | rfl | simp only [go_sem]) rfl (by simp)).mono ?_)
  rintro _ _ ⟨_, _, ⟨rfl, rfl⟩, rfl, rfl⟩
  refine run_ok 4000 _ _ _ _ ?_
  simp (maxSteps := 10000000) only [go_sem]
  refine sem_call rfl rfl (((h1).embed [0, 1, 2] rfl (by repeat' first | exact trivial | rfl | (simp only [go_sem]; done) | constructor) rfl (by first | rfl | simp only [go_sem]) rfl (by simp)).mono ?_)
  rintro _ _ ⟨_, _, ⟨rfl, rfl⟩, rfl, rfl⟩
  refine run_ok 4000 _ _ _ _ ?_
  simp (maxSteps := 10000000) only [go_sem]
  refine sem_call rfl rfl (((hw).embed [0, 1, 2] rfl (by repeat' first | exact trivial | rfl | (simp only [go_sem]; done) | constructor) rfl (by first | rfl | simp only [go_sem]) rfl (by simp)).mono ?_)
  rintro _ _ ⟨_, _, ⟨rfl, rfl⟩, rfl, rfl⟩
  refine run_ok 4000 _ _ _ _ ?_
  simp (maxSteps := 10000000) only [go_sem]
  refine ⟨_, _, .sub [] ?_ .done, rfl, rfl⟩
  simp only [EmbV, go_sem]
def bl (l : List Bool) : List (List AV) := l.map fun b => [AV.bsym b]
theorem bools {xs : List (List AV)} (h : ∀ x ∈ xs, HasL [.bool] x) : ∃ l : List Bool, xs = bl l := by
  induction xs with
  | nil => exact ⟨[], rfl⟩
  | cons x xs ih =>
    obtain ⟨l, rfl⟩ := ih fun y hy => h y (by simp [hy])
    have := h x (by simp)
    simp only [HasL, Has] at this
    obtain ⟨_, _, rfl, ⟨b, rfl⟩, rfl⟩ := this
    exact ⟨b :: l, rfl⟩
end Go.AEX
