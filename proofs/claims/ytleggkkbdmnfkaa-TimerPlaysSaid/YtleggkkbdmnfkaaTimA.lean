/- Timers: the laws' own beginning; TimerMay. -/
import Derived.Test.YtleggkkbdmnfkaaTimD
import Derived.Test.YtleggkkbdmnfkaaAEsa
namespace Go.AEX
open Go Go.AE Go.Proofs
set_option maxRecDepth 100000
set_option linter.unusedVariables false
set_option linter.unusedSimpArgs false

theorem stab_short {L : List TE} (h : L.length ≤ 1) : stab L = L := by
  match L, h with
  | [], _ => simp [stab]
  | [x], _ => simp [stab]
theorem due_small (f m now : Int) (l : List TE) (hl : l.length ≤ 20) (hok : TmOk l) (hm : 0 ≤ m ∧ m ≤ 10000000) (hnow : 0 ≤ now ∧ now ≤ 10000000) :
    Tri Try.prog 11 [.pbox 0 0, .int .i64 now] (tmM f m l) (fun v q => v = .vsl 1 (uv (numsT (stab (dueL now l)))) false ∧ q = tmM f m (l.map (updE m now))) :=
  due_spec f m now l (by omega) hok hm hnow (sortStable_of _ (stable_small _ (Nat.le_trans (List.length_filter_le _ _) hl)))
/-- The one that waits, and the sum, behind so many ticks. -/
def awS : Nat → TE × Int
  | 0 => (⟨7, 2, 2, 0⟩, 0)
  | k + 1 => if (awS k).1.due ≤ (k : Int) + 1 then (updE 5 (k + 1) (awS k).1, 100 * (awS k).2 + (k + 1)) else awS k
theorem awS_ok : ∀ k, k ≤ 16 → (awS k).1.n = 7 ∧ (0 ≤ (awS k).1.due ∧ (awS k).1.due ≤ 100) ∧ (0 ≤ (awS k).1.wait ∧ (awS k).1.wait ≤ 5) ∧ (0 ≤ (awS k).1.times ∧ (awS k).1.times ≤ 100) ∧ (0 ≤ (awS k).2 ∧ (awS k).2 ≤ 100000000) := by decide
theorem awS_end : (awS 16).2 = 2061116 := by decide
set_option maxHeartbeats 1000000 in
theorem awake14_spec : Tri Try.prog 9 [] [] (fun v m => v = .bool true ∧ m = []) := by
  refine Tri.post ?_
  have hn := tnew_spec 2 5 (by decide)
  have hs := tstart_new 2 5 [] 7 0 (by simp) (by decide) (by omega)
  have hl := fun e => tlen_spec 2 5 [e]
  have e0 : (0 : Int) + 2 = 2 := rfl
  simp only [tmM, tmM2, List.nil_append, List.length_nil, List.length_cons, e0] at hs hl
  refine (Tri.enter (rl := r9) (code := c9) (by kernel_rfl) Try.func9 rfl c9_ok (by kernel_rfl) (by kernel_rfl) ?_)
  refine run_ok 4000 _ _ _ _ ?_
  simp (maxSteps := 10000000) only [go_sem, c9, r9]
  refine sem_call rfl rfl (((hn).embed [] rfl trivial rfl rfl rfl (by simp)).mono ?_)
  rintro _ _ ⟨_, _, ⟨rfl, rfl⟩, rfl, rfl⟩
  refine run_ok 4000 _ _ _ _ ?_
  simp (maxSteps := 10000000) only [go_sem]
  refine sem_nilbox 0 2 4 rfl rfl ?_
  simp (maxSteps := 10000000) only [go_sem]
  refine sem_call rfl rfl (((hs).embed [0, 1] rfl (by repeat' first | exact trivial | rfl | (simp only [go_sem]; done) | constructor) rfl (by first | rfl | simp only [go_sem]) rfl (by simp)).mono ?_)
  rintro _ _ ⟨_, _, ⟨rfl, rfl⟩, rfl, rfl⟩
  refine run_ok 4000 _ _ _ _ ?_
  simp (maxSteps := 10000000) only [go_sem]
  refine sem_rounds (fun k : Nat => k ≤ 16) (fun k => [(1, .pbox 0 0), (3, .int .i64 (awS k).2), (4, .int .i64 (k + 1 : Nat))])
    (fun k => [.box [.int .i64 2, .int .i64 5, .sl 1 0 1 1 false], .row 4 (terows [(awS k).1])]) (fun k => 16 - k) 0 [0, 2] (Nat.zero_le _) ?_ ?_
  · simp [Emb, go_sem, awS]
  intro k hk
  obtain ⟨h1, h2, h3, h4, h5⟩ := awS_ok k hk
  have hst : awS (k + 1) = if (awS k).1.due ≤ (k : Int) + 1 then (updE 5 (k + 1) (awS k).1, 100 * (awS k).2 + (k + 1)) else awS k := rfl
  by_cases hlt : k < 16
  · have c1 : ((k + 1 : Nat) : Int) ≤ 16 := by omega
    have hd := due_small 2 5 ((k + 1 : Nat) : Int) [(awS k).1] (by simp) (fun e he => by simp at he; subst he; omega) (by omega) (by omega)
    simp only [tmM, List.map_cons, List.map_nil, List.length_cons, List.length_nil] at hd
    by_cases c : (awS k).1.due ≤ (k : Int) + 1
    · rw [if_pos c] at hst
      have hdl : dueL ((k + 1 : Nat) : Int) [(awS k).1] = [(awS k).1] := by simp [dueL]; omega
      rw [hdl, stab_short (by simp)] at hd
      have hnm : numsT [(awS k).1] = [7] := by simp [numsT, h1]
      rw [hnm] at hd
      have w1 : iwrap .i64 (100 * (awS k).2) = 100 * (awS k).2 := iwrap_i64_in (by omega)
      have w2 : iwrap .i64 (100 * (awS k).2 + ((k + 1 : Nat) : Int)) = (awS (k + 1)).2 := by rw [hst, iwrap_i64_in (by omega)]; rfl
      have hue : updE 5 ((k + 1 : Nat) : Int) (awS k).1 = (awS (k + 1)).1 := by rw [hst]; rfl
      rw [hue] at hd
      have u7 : uv [7] = [[.int .u32 7]] := rfl
      rw [u7] at hd
      generalize hY : awS (k + 1) = Y at *
      generalize awS k = X at *
      skip
      refine run_ok 4000 _ _ _ _ ?_
      simp (maxSteps := 10000000) only [go_sem, c1, w1, w2, inc64 (show k + 1 < 1000000000000 by omega)]
      refine sem_call rfl rfl (((hd).embed [0, 1] rfl (by repeat' first | exact trivial | rfl | (simp only [go_sem]; done) | constructor) rfl (by first | rfl | simp only [go_sem]) rfl (by simp)).mono ?_)
      rintro _ _ ⟨_, _, ⟨rfl, rfl⟩, rfl, rfl⟩
      refine run_ok 4000 _ _ _ _ ?_
      simp (maxSteps := 10000000) only [go_sem, c1, w1, w2, inc64 (show k + 1 < 1000000000000 by omega)]
      refine ⟨k + 1, by omega, hlt, [0, 1], ?_⟩
      simp only [Emb, go_sem, hY]
    · rw [if_neg c] at hst
      have hdl : dueL ((k + 1 : Nat) : Int) [(awS k).1] = [] := by simp [dueL]; omega
      rw [hdl, stab_short (by simp)] at hd
      have hnm : numsT [] = [] := rfl
      rw [hnm] at hd
      have hue : updE 5 ((k + 1 : Nat) : Int) (awS k).1 = (awS (k + 1)).1 := by rw [hst]; unfold updE; rw [if_neg (by omega)]
      have hs2 : (awS k).2 = (awS (k + 1)).2 := by rw [hst]
      rw [hue] at hd
      have u7 : uv [] = [] := rfl
      rw [u7] at hd
      rw [hs2]
      generalize hY : awS (k + 1) = Y at *
      generalize awS k = X at *
      skip
      refine run_ok 4000 _ _ _ _ ?_
      simp (maxSteps := 10000000) only [go_sem, c1, inc64 (show k + 1 < 1000000000000 by omega)]
      refine sem_call rfl rfl (((hd).embed [0, 1] rfl (by repeat' first | exact trivial | rfl | (simp only [go_sem]; done) | constructor) rfl (by first | rfl | simp only [go_sem]) rfl (by simp)).mono ?_)
      rintro _ _ ⟨_, _, ⟨rfl, rfl⟩, rfl, rfl⟩
      refine run_ok 4000 _ _ _ _ ?_
      simp (maxSteps := 10000000) only [go_sem, c1, inc64 (show k + 1 < 1000000000000 by omega)]
      refine ⟨k + 1, by omega, hlt, [0, 1], ?_⟩
      simp only [Emb, go_sem, hY]
  · have c1 : ¬ ((k + 1 : Nat) : Int) ≤ 16 := by omega
    have hk : k = 16 := by omega
    subst hk
    have hl := hl (awS 16).1
    rw [awS_end]
    skip
    refine run_ok 4000 _ _ _ _ ?_
    simp (maxSteps := 10000000) only [go_sem, c1]
    refine run_ok 4000 _ _ _ _ ?_
    simp (maxSteps := 10000000) only [go_sem, c1]
    refine sem_call rfl rfl (((hl).embed [0, 1] rfl (by repeat' first | exact trivial | rfl | (simp only [go_sem]; done) | constructor) rfl (by first | rfl | simp only [go_sem]) rfl (by simp)).mono ?_)
    rintro _ _ ⟨_, _, ⟨rfl, rfl⟩, rfl, rfl⟩
    refine run_ok 4000 _ _ _ _ ?_
    simp (maxSteps := 10000000) only [go_sem, c1]
    refine ⟨_, _, .like (Like.bool true) (.sub [] ?_ .done), rfl, rfl⟩
    simp only [EmbV, go_sem]
theorem timerMay_spec (f : Int) (hf : (Lit.int .i64 f).wf = true) (m : Int) (hm : (Lit.int .i64 m).wf = true) : Tri Try.prog 3 [.int .i64 f, .int .i64 m] [] (fun v q => v = .bool true) := by
  cases h : mayF f m with
  | true =>
    have hn := tnew_spec f m h
    unfold mayF at h
    have h := of_decide_eq_true h
    have d1 : f ≥ 1 := by omega
    have d2 : m ≥ f := by omega
    have d3 : m ≤ 1048576 := by omega
    skip
    refine (Tri.asB (Tri.enter (rl := r3) (code := c3) (by kernel_rfl) Try.func3 rfl c3_ok (by kernel_rfl) (by kernel_rfl) ?_))
    refine run_ok 4000 _ _ _ _ ?_
    simp (maxSteps := 10000000) only [go_sem, c3, r3, d1, d2, d3]
    refine sem_call rfl rfl (((hn).embed [] rfl trivial rfl rfl rfl (by simp)).mono ?_)
    rintro _ _ ⟨_, _, ⟨rfl, rfl⟩, rfl, rfl⟩
    refine run_ok 4000 _ _ _ _ ?_
    simp (maxSteps := 10000000) only [go_sem, d1, d2, d3]
    refine sem_call rfl rfl (((awake14_spec).embed [] rfl trivial rfl rfl rfl (by simp)).mono ?_)
    rintro _ _ ⟨_, _, ⟨rfl, rfl⟩, rfl, rfl⟩
    refine run_ok 4000 _ _ _ _ ?_
    simp (maxSteps := 10000000) only [go_sem, d1, d2, d3]
  | false =>
    have hn := tnew_no f m h
    unfold mayF at h
    have h := of_decide_eq_false h
    by_cases d1 : f ≥ 1
    · by_cases d2 : m ≥ f
      · have d3 : ¬ m ≤ 1048576 := by omega
        skip
        refine (Tri.asB (Tri.enter (rl := r3) (code := c3) (by kernel_rfl) Try.func3 rfl c3_ok (by kernel_rfl) (by kernel_rfl) ?_))
        refine run_ok 4000 _ _ _ _ ?_
        simp (maxSteps := 10000000) only [go_sem, c3, r3, d1, d2, d3]
        refine sem_call rfl rfl (((hn).embed [] rfl trivial rfl rfl rfl (by simp)).mono ?_)
        rintro _ _ ⟨_, _, ⟨rfl, rfl⟩, rfl, rfl⟩
        refine run_ok 4000 _ _ _ _ ?_
        simp (maxSteps := 10000000) only [go_sem, d1, d2, d3]
        refine sem_call rfl rfl (((awake14_spec).embed [] rfl trivial rfl rfl rfl (by simp)).mono ?_)
        rintro _ _ ⟨_, _, ⟨rfl, rfl⟩, rfl, rfl⟩
        refine run_ok 4000 _ _ _ _ ?_
        simp (maxSteps := 10000000) only [go_sem, d1, d2, d3]
      · skip
        refine (Tri.asB (Tri.enter (rl := r3) (code := c3) (by kernel_rfl) Try.func3 rfl c3_ok (by kernel_rfl) (by kernel_rfl) ?_))
        refine run_ok 4000 _ _ _ _ ?_
        simp (maxSteps := 10000000) only [go_sem, c3, r3, d1, d2]
        refine sem_call rfl rfl (((hn).embed [] rfl trivial rfl rfl rfl (by simp)).mono ?_)
        rintro _ _ ⟨_, _, ⟨rfl, rfl⟩, rfl, rfl⟩
        refine run_ok 4000 _ _ _ _ ?_
        simp (maxSteps := 10000000) only [go_sem, d1, d2]
        refine sem_call rfl rfl (((awake14_spec).embed [] rfl trivial rfl rfl rfl (by simp)).mono ?_)
        rintro _ _ ⟨_, _, ⟨rfl, rfl⟩, rfl, rfl⟩
        refine run_ok 4000 _ _ _ _ ?_
        simp (maxSteps := 10000000) only [go_sem, d1, d2]
    · skip
      refine (Tri.asB (Tri.enter (rl := r3) (code := c3) (by kernel_rfl) Try.func3 rfl c3_ok (by kernel_rfl) (by kernel_rfl) ?_))
      refine run_ok 4000 _ _ _ _ ?_
      simp (maxSteps := 10000000) only [go_sem, c3, r3, d1]
      refine sem_call rfl rfl (((hn).embed [] rfl trivial rfl rfl rfl (by simp)).mono ?_)
      rintro _ _ ⟨_, _, ⟨rfl, rfl⟩, rfl, rfl⟩
      refine run_ok 4000 _ _ _ _ ?_
      simp (maxSteps := 10000000) only [go_sem, d1]
      refine sem_call rfl rfl (((awake14_spec).embed [] rfl trivial rfl rfl rfl (by simp)).mono ?_)
      rintro _ _ ⟨_, _, ⟨rfl, rfl⟩, rfl, rfl⟩
      refine run_ok 4000 _ _ _ _ ?_
      simp (maxSteps := 10000000) only [go_sem, d1]
end Go.AEX
