/- Verify: how many arguments each call takes (VerifyHosts). -/
import Derived.Test.YteilmgoomifjmaaVerC
import Derived.Test.YteilmgoomifjmaaAEsa
namespace Go.AEX
open Go Go.AE Go.Proofs
set_option maxRecDepth 100000
set_option linter.unusedVariables false
set_option linter.unusedSimpArgs false

theorem Like.agg1 {a a' : AV} (h1 : Like a a') : Like (.agg [a]) (.agg [a']) := fun φ σ x hx => by
  cases hx with | agg hx => cases hx with | cons g1 hx => cases hx; exact .agg (.cons (h1 _ _ _ g1) .nil)
theorem check_lit (l : List Fn) (hok : AllOk l) (hlen : l.length ≤ 1000) : Tri Try.prog 32 [.agg [.vsl 3 (frows l) true]] []
    (fun v m => v = .tup [.agg [.int .i64 (checkF l).1.1, .int .i64 (checkF l).1.2], .int .i64 (checkF l).2] ∧ m = []) :=
  Tri.arg1 (Like.agg1 (Like.vslf _ _)) (check_spec l hok hlen)
theorem of_nil (o : Int) : Tri Try.prog 29 [.int .u8 o, .nilsl] [] (fun v m => v = .agg [.int .u8 o, .int .i64 0] ∧ m = []) := by
  have h := Tri.arg2 (Like.nilv 1 false) (of_spec o [] false)
  exact h
def ret2 : List Ins := [(17, 0), (16, 0)]
theorem awf_spec (a : Int) : Tri Try.prog 55 [.int .i64 a] [] (fun v m => v = .agg [.int .i64 a, .int .i64 a, .vsl 2 (irows ret2) false] ∧ m = []) := by
  refine Tri.post ?_
  refine (Tri.enter (rl := r55) (code := c55) (by kernel_rfl) Try.func55 rfl c55_ok (by kernel_rfl) (by kernel_rfl) ?_)
  refine run_ok 4000 _ _ _ _ ?_
  simp (maxSteps := 10000000) only [go_sem, c55, r55]
  refine sem_call rfl rfl (((of_nil 17).embed [] rfl trivial rfl rfl rfl (by simp)).mono ?_)
  rintro _ _ ⟨_, _, ⟨rfl, rfl⟩, rfl, rfl⟩
  refine run_ok 4000 _ _ _ _ ?_
  simp (maxSteps := 10000000) only [go_sem]
  refine sem_call rfl rfl (((of_nil 16).embed [] rfl trivial rfl rfl rfl (by simp)).mono ?_)
  rintro _ _ ⟨_, _, ⟨rfl, rfl⟩, rfl, rfl⟩
  refine run_ok 4000 _ _ _ _ ?_
  simp (maxSteps := 10000000) only [go_sem]
  refine sem_call rfl rfl (((make_spec a a ret2 true (by simp [ret2])).embed [] rfl trivial rfl rfl rfl (by simp)).mono ?_)
  rintro _ _ ⟨_, _, ⟨rfl, rfl⟩, rfl, rfl⟩
  refine run_ok 4000 _ _ _ _ ?_
  simp (maxSteps := 10000000) only [go_sem]
  refine ⟨_, _, .sub [] ?_ .done, rfl, rfl⟩
  simp only [EmbV, go_sem]
def aw1 : List Fn := [⟨1, 1, ret2⟩, ⟨4, 4, ret2⟩]
def aw2 : List Fn := [⟨1, 1, ret2⟩, ⟨4, 4, [(16, 0)]⟩]
theorem aw1_check : checkF aw1 = ((0, 0), 0) := by decide
theorem aw2_check : checkF aw2 = ((1, 0), 14) := by decide
theorem ret2_ok : ∀ x ∈ ret2, OpOk x.1 := by simp [ret2, OpOk]
theorem aw1_ok : AllOk aw1 := by intro f hf; simp [aw1] at hf; rcases hf with rfl | rfl <;> exact ret2_ok
theorem aw2_ok : AllOk aw2 := by
  intro f hf; simp [aw2] at hf; rcases hf with rfl | rfl
  · exact ret2_ok
  · simp [OpOk]
theorem awake04_spec : Tri Try.prog 24 [] [] (fun v m => v = .bool true ∧ m = []) := by
  have h1 := check_lit aw1 aw1_ok (by simp [aw1])
  have h2 := check_lit aw2 aw2_ok (by simp [aw2])
  have h3 := hostArgs_spec 3
  rw [aw1_check] at h1
  rw [aw2_check] at h2
  refine Tri.post ?_
  refine (Tri.enter (rl := r24) (code := c24) (by kernel_rfl) Try.func24 rfl c24_ok (by kernel_rfl) (by kernel_rfl) ?_)
  refine run_ok 4000 _ _ _ _ ?_
  simp (maxSteps := 10000000) only [go_sem, c24, r24]
  refine sem_callv rfl rfl rfl (((awf_spec 1).embed [] rfl (by repeat' first | exact trivial | rfl | (simp only [go_sem]; done) | constructor) rfl (by first | rfl | simp only [go_sem]) rfl (by simp)).mono ?_)
  rintro _ _ ⟨_, _, ⟨rfl, rfl⟩, rfl, rfl⟩
  refine run_ok 4000 _ _ _ _ ?_
  simp (maxSteps := 10000000) only [go_sem]
  refine sem_callv rfl rfl rfl (((awf_spec 4).embed [] rfl (by repeat' first | exact trivial | rfl | (simp only [go_sem]; done) | constructor) rfl (by first | rfl | simp only [go_sem]) rfl (by simp)).mono ?_)
  rintro _ _ ⟨_, _, ⟨rfl, rfl⟩, rfl, rfl⟩
  refine run_ok 4000 _ _ _ _ ?_
  simp (maxSteps := 10000000) only [go_sem]
  refine sem_call rfl rfl (((h1).embed [] rfl trivial rfl rfl rfl (by simp)).mono ?_)
  rintro _ _ ⟨_, _, ⟨rfl, rfl⟩, rfl, rfl⟩
  refine run_ok 4000 _ _ _ _ ?_
  simp (maxSteps := 10000000) only [go_sem]
  have e3 : hostArgs 3 = 3 := by decide
  rw [e3] at h3
  refine sem_callv rfl rfl rfl (((awf_spec 1).embed [] rfl (by repeat' first | exact trivial | rfl | (simp only [go_sem]; done) | constructor) rfl (by first | rfl | simp only [go_sem]) rfl (by simp)).mono ?_)
  rintro _ _ ⟨_, _, ⟨rfl, rfl⟩, rfl, rfl⟩
  refine run_ok 4000 _ _ _ _ ?_
  simp (maxSteps := 10000000) only [go_sem]
  refine sem_call rfl rfl (((of_nil 16).embed [] rfl trivial rfl rfl rfl (by simp)).mono ?_)
  rintro _ _ ⟨_, _, ⟨rfl, rfl⟩, rfl, rfl⟩
  refine run_ok 4000 _ _ _ _ ?_
  simp (maxSteps := 10000000) only [go_sem]
  refine sem_call rfl rfl (((make_spec 4 4 [(16, 0)] true (by simp)).embed [] rfl trivial rfl rfl rfl (by simp)).mono ?_)
  rintro _ _ ⟨_, _, ⟨rfl, rfl⟩, rfl, rfl⟩
  refine run_ok 4000 _ _ _ _ ?_
  simp (maxSteps := 10000000) only [go_sem]
  refine sem_call rfl rfl (((h2).embed [] rfl trivial rfl rfl rfl (by simp)).mono ?_)
  rintro _ _ ⟨_, _, ⟨rfl, rfl⟩, rfl, rfl⟩
  refine run_ok 4000 _ _ _ _ ?_
  simp (maxSteps := 10000000) only [go_sem]
  refine sem_call rfl rfl (((h3).embed [] rfl trivial rfl rfl rfl (by simp)).mono ?_)
  rintro _ _ ⟨_, _, ⟨rfl, rfl⟩, rfl, rfl⟩
  refine run_ok 4000 _ _ _ _ ?_
  simp (maxSteps := 10000000) only [go_sem]
  refine ⟨_, _, .like (Like.bool true) (.sub [] ?_ .done), rfl, rfl⟩
  simp only [EmbV, go_sem]
theorem rtext_nil : Tri Try.prog 28 [.nilsl] [] (fun v m => v = .str [0] ∧ m = []) := by
  have hc := rcount_spec 0 (by unfold I64; omega)
  have hn : numB (posN 0) = [0] := by rw [show posN 0 = 0 from rfl, numB_last (by omega)]; rfl
  rw [hn] at hc
  refine Tri.post ?_
  refine (Tri.enter (rl := r28) (code := c28) (by kernel_rfl) Try.func28 rfl c28_ok (by kernel_rfl) (by kernel_rfl) ?_)
  refine run_ok 4000 _ _ _ _ ?_
  simp (maxSteps := 10000000) only [go_sem, c28, r28]
  refine sem_call rfl rfl (((hc).embed [] rfl trivial rfl rfl rfl (by simp)).mono ?_)
  rintro _ _ ⟨_, _, ⟨rfl, rfl⟩, rfl, rfl⟩
  refine run_ok 4000 _ _ _ _ ?_
  simp (maxSteps := 10000000) only [go_sem]
  refine sem_rounds (fun i : Nat => i = 0) (fun i => [(3, .str [0]), (12, .int .i64 0), (13, .int .i64 0)]) (fun i => []) (fun i => i) 0 [] rfl ?_ ?_
  · simp only [Emb, go_sem]
  rintro i rfl
  refine run_ok 4000 _ _ _ _ ?_
  simp (maxSteps := 10000000) only [go_sem]
  refine run_ok 4000 _ _ _ _ ?_
  simp (maxSteps := 10000000) only [go_sem]
  refine ⟨_, _, .sub [] ?_ .done, rfl, rfl⟩
  simp only [EmbV, go_sem]
theorem verifyHosts_spec (n : Int) (hn : (Lit.int .i64 n).wf = true) (fn : Int) (hfn : (Lit.int .i64 fn).wf = true) :
    Tri Try.prog 6 [.int .i64 n, .int .i64 fn] [] (fun v m => v = .bool true) := by
  by_cases h : fn = 0
  · subst h
    have e := entry_spec 0
    have e0 : entryF 0 = 1 := by decide
    rw [e0] at e
    refine (Tri.asB (Tri.enter (rl := r6) (code := c6) (by kernel_rfl) Try.func6 rfl c6_ok (by kernel_rfl) (by kernel_rfl) ?_))
    refine run_ok 4000 _ _ _ _ ?_
    simp (maxSteps := 10000000) only [go_sem, c6, r6]
    refine sem_call rfl rfl (((awake04_spec).embed [] rfl trivial rfl rfl rfl (by simp)).mono ?_)
    rintro _ _ ⟨_, _, ⟨rfl, rfl⟩, rfl, rfl⟩
    refine run_ok 4000 _ _ _ _ ?_
    simp (maxSteps := 10000000) only [go_sem]
    refine sem_call rfl rfl (((hostArgs_spec n).embed [] rfl trivial rfl rfl rfl (by simp)).mono ?_)
    rintro _ _ ⟨_, _, ⟨rfl, rfl⟩, rfl, rfl⟩
    refine run_ok 4000 _ _ _ _ ?_
    simp (maxSteps := 10000000) only [go_sem]
    refine sem_call rfl rfl (((rhostArgs_spec n).embed [] rfl trivial rfl rfl rfl (by simp)).mono ?_)
    rintro _ _ ⟨_, _, ⟨rfl, rfl⟩, rfl, rfl⟩
    refine run_ok 4000 _ _ _ _ ?_
    simp (maxSteps := 10000000) only [go_sem]
    refine sem_call rfl rfl (((e).embed [] rfl trivial rfl rfl rfl (by simp)).mono ?_)
    rintro _ _ ⟨_, _, ⟨rfl, rfl⟩, rfl, rfl⟩
    refine run_ok 4000 _ _ _ _ ?_
    simp (maxSteps := 10000000) only [go_sem]
    refine sem_call rfl rfl (((rtext_nil).embed [] rfl trivial rfl rfl rfl (by simp)).mono ?_)
    rintro _ _ ⟨_, _, ⟨rfl, rfl⟩, rfl, rfl⟩
    refine run_ok 4000 _ _ _ _ ?_
    simp (maxSteps := 10000000) only [go_sem]
  · have e := entry_spec fn
    have e0 : entryF fn = 4 := by simp [entryF, h]
    have q : (fn == 0) = false := by simpa using h
    rw [e0] at e
    skip
    refine (Tri.asB (Tri.enter (rl := r6) (code := c6) (by kernel_rfl) Try.func6 rfl c6_ok (by kernel_rfl) (by kernel_rfl) ?_))
    refine run_ok 4000 _ _ _ _ ?_
    simp (maxSteps := 10000000) only [go_sem, c6, r6, q]
    refine sem_call rfl rfl (((awake04_spec).embed [] rfl trivial rfl rfl rfl (by simp)).mono ?_)
    rintro _ _ ⟨_, _, ⟨rfl, rfl⟩, rfl, rfl⟩
    refine run_ok 4000 _ _ _ _ ?_
    simp (maxSteps := 10000000) only [go_sem, q]
    refine sem_call rfl rfl (((hostArgs_spec n).embed [] rfl trivial rfl rfl rfl (by simp)).mono ?_)
    rintro _ _ ⟨_, _, ⟨rfl, rfl⟩, rfl, rfl⟩
    refine run_ok 4000 _ _ _ _ ?_
    simp (maxSteps := 10000000) only [go_sem, q]
    refine sem_call rfl rfl (((rhostArgs_spec n).embed [] rfl trivial rfl rfl rfl (by simp)).mono ?_)
    rintro _ _ ⟨_, _, ⟨rfl, rfl⟩, rfl, rfl⟩
    refine run_ok 4000 _ _ _ _ ?_
    simp (maxSteps := 10000000) only [go_sem, q]
    refine sem_call rfl rfl (((e).embed [] rfl trivial rfl rfl rfl (by simp)).mono ?_)
    rintro _ _ ⟨_, _, ⟨rfl, rfl⟩, rfl, rfl⟩
    refine run_ok 4000 _ _ _ _ ?_
    simp (maxSteps := 10000000) only [go_sem, q]
    refine sem_call rfl rfl (((rtext_nil).embed [] rfl trivial rfl rfl rfl (by simp)).mono ?_)
    rintro _ _ ⟨_, _, ⟨rfl, rfl⟩, rfl, rfl⟩
    refine run_ok 4000 _ _ _ _ ?_
    simp (maxSteps := 10000000) only [go_sem, q]
end Go.AEX
