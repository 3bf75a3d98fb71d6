/- TimerBackoff. -/
import Derived.Test.YtleggkkbdmnfkaaTimO
import Derived.Test.YtleggkkbdmnfkaaTimA
namespace Go.AEX
open Go Go.AE Go.Proofs
set_option maxRecDepth 100000
set_option linter.unusedVariables false
set_option linter.unusedSimpArgs false

def BkI (f m : Int) (en : Nat) (e : TE) (last gap : Int) (now : Nat) : Prop :=
  e.n = 5 ∧ e.due = last + e.wait ∧ gap ≤ e.wait ∧ e.wait ≤ m ∧ f ≤ e.wait ∧ (now : Int) ≤ e.due ∧ 10 ≤ last ∧ last < now ∧ now ≤ en ∧ 11 ≤ now ∧ 0 ≤ e.times ∧ e.times ≤ now
set_option maxHeartbeats 4000000 in
theorem timerBackoff_spec (x : Int) (hx : (Lit.int .i64 x).wf = true) (y : Int) (hy : (Lit.int .i64 y).wf = true) (z : Int) (hz : (Lit.int .i64 z).wf = true) :
    Tri Try.prog 5 [.int .i64 x, .int .i64 y, .int .i64 z] [] (fun v q => v = .bool true) := by
  refine Tri.post ?_
  obtain ⟨a, ha, ha7⟩ := and_i64 x (k := 7) (by decide)
  obtain ⟨b, hb, hb63⟩ := and_i64 y (k := 63) (by decide)
  have ha : ibits .and .i64 x 7 = a := ha
  have hb : ibits .and .i64 y 63 = b := hb
  have wf1 : iwrap .i64 (1 + (a : Int)) = ((a + 1 : Nat) : Int) := by rw [iwrap_i64_in (by omega)]; omega
  have wm1 : iwrap .i64 (((a + 1 : Nat) : Int) + (b : Int)) = ((a + 1 + b : Nat) : Int) := by rw [iwrap_i64_in (by omega)]; omega
  obtain ⟨c, hc, hc3⟩ : ∃ c : Nat, (if 300 < (if 0 > z then 0 else z) then 300 else (if 0 > z then 0 else z)) = (c : Int) ∧ c ≤ 300 := by
    refine ⟨(min (max z 0) 300).toNat, ?_, by omega⟩
    split <;> split <;> omega
  have we1 : iwrap .i64 (11 + (c : Int)) = ((11 + c : Nat) : Int) := by rw [iwrap_i64_in (by omega)]; omega
  generalize hf : a + 1 = f at *
  generalize hm : f + b = m at *
  generalize hen : 11 + c = en at *
  have hn := tnew_spec f m (by unfold mayF; rw [decide_eq_true_iff]; omega)
  have hs := tstart_new f m [] 5 10 (by simp) (by decide) (by omega)
  have hst := fun e : TE => tstop_spec f m [e] [5, 5, 6] true (by simp) (by simp)
  have hde := due_small f m ((en + 1000 : Nat) : Int) [] (by simp) (fun e he => by simp at he) (by omega) (by omega)
  have s0 : stab (dueL ((en + 1000 : Nat) : Int) []) = [] := stab_short (by simp [dueL])
  rw [s0] at hde
  have n0 : uv (numsT []) = [] := rfl
  rw [n0] at hde
  simp only [tmM, tmM2, List.nil_append, List.length_nil, List.length_cons, List.map_nil] at hs hst hde
  skip
  refine (Tri.enter (rl := r5) (code := c5) (by kernel_rfl) Try.func5 rfl c5_ok (by kernel_rfl) (by kernel_rfl) ?_)
  refine run_ok 4000 _ _ _ _ ?_
  simp (maxSteps := 10000000) only [go_sem, c5, r5, ha, hb, wf1, wm1, hc, we1]
  refine sem_call rfl rfl (((hn).embed [] rfl trivial rfl rfl rfl (by simp)).mono ?_)
  rintro _ _ ⟨_, _, ⟨rfl, rfl⟩, rfl, rfl⟩
  refine run_ok 4000 _ _ _ _ ?_
  simp (maxSteps := 10000000) only [go_sem, ha, hb, wf1, wm1, hc, we1]
  refine sem_call rfl rfl (((awake14_spec).embed [] rfl trivial rfl rfl rfl (by simp)).mono ?_)
  rintro _ _ ⟨_, _, ⟨rfl, rfl⟩, rfl, rfl⟩
  refine run_ok 4000 _ _ _ _ ?_
  simp (maxSteps := 10000000) only [go_sem, ha, hb, wf1, wm1, hc, we1]
  refine sem_nilbox 0 2 4 rfl rfl ?_
  simp (maxSteps := 10000000) only [go_sem, ha, hb, wf1, wm1, hc, we1]
  refine sem_call rfl rfl (((hs).embed [0, 1] rfl (by repeat' first | exact trivial | rfl | (simp only [go_sem]; done) | constructor) rfl (by first | rfl | simp only [go_sem]) rfl (by simp)).mono ?_)
  rintro _ _ ⟨_, _, ⟨rfl, rfl⟩, rfl, rfl⟩
  refine run_ok 4000 _ _ _ _ ?_
  simp (maxSteps := 10000000) only [go_sem, ha, hb, wf1, wm1, hc, we1]
  refine sem_rounds (fun q : (TE × Int × Int) × Nat => BkI f m en q.1.1 q.1.2.1 q.1.2.2 q.2)
    (fun q => [(0, .int .i64 f), (1, .int .i64 m), (7, .pbox 0 0), (9, .int .i64 q.1.2.1), (10, .int .i64 q.1.2.2), (11, .int .i64 en), (12, .int .i64 q.2)])
    (fun q => [.box [.int .i64 f, .int .i64 m, .sl 1 0 1 1 false], .row 4 (terows [q.1.1])]) (fun q => en - q.2) ((⟨5, 10 + f, f, 0⟩, 10, f), 11) [0, 2]
    (by unfold BkI; simp only [true_and]; omega) ?_ ?_
  · simp [Emb, go_sem]
  rintro ⟨⟨e, last, gap⟩, now⟩ ⟨h1, h2, h3, h4, h5, h6, h7, h8, h9, h10, h11, h12⟩
  simp only at h1 h2 h3 h4 h5 h6 h7 h8 h9 h10 h11 h12 ⊢
  have hi := inc64 (show now < 1000000000000 by omega)
  by_cases hlt : now < en
  · have hin : (now : Int) < (en : Int) := by omega
    have hd := due_small f m (now : Int) [e] (by simp) (fun e he => by simp at he; subst he; omega) (by omega) (by omega)
    simp only [tmM, List.map_cons, List.map_nil, List.length_cons, List.length_nil] at hd
    have w1 : iwrap .i64 ((now : Int) - last) = now - last := iwrap_i64_in (by omega)
    by_cases c : e.due ≤ (now : Int)
    · have hdl : dueL (now : Int) [e] = [e] := by simp [dueL]; omega
      rw [hdl, stab_short (by simp)] at hd
      have hnm : numsT [e] = [5] := by simp [numsT, h1]
      rw [hnm] at hd
      have u5 : uv [5] = [[.int .u32 5]] := rfl
      rw [u5] at hd
      have c1 : ¬ (now : Int) - last < (f : Int) := by omega
      have c2 : ¬ (now : Int) - last > (m : Int) := by omega
      have c3' : ¬ (now : Int) - last < gap := by omega
      have hnx : BkI f m en (updE m now e) now ((now : Int) - last) (now + 1) := by
        unfold BkI updE; rw [if_pos c]; simp only [true_and]; omega
      generalize updE m now e = E at *
      skip
      refine run_ok 4000 _ _ _ _ ?_
      simp (maxSteps := 10000000) only [go_sem, hin, w1, c1, c2, c3', hi]
      refine sem_call rfl rfl (((hd).embed [0, 1] rfl (by repeat' first | exact trivial | rfl | (simp only [go_sem]; done) | constructor) rfl (by first | rfl | simp only [go_sem]) rfl (by simp)).mono ?_)
      rintro _ _ ⟨_, _, ⟨rfl, rfl⟩, rfl, rfl⟩
      refine run_ok 4000 _ _ _ _ ?_
      simp (maxSteps := 10000000) only [go_sem, hin, w1, c1, c2, c3', hi]
      refine ⟨((E, (now : Int), (now : Int) - last), now + 1), by simp only; omega, hnx, [0, 1], ?_⟩
      simp only [Emb, go_sem]
    · have hdl : dueL (now : Int) [e] = [] := by simp [dueL]; omega
      rw [hdl, stab_short (by simp)] at hd
      have hnm : numsT [] = [] := rfl
      rw [hnm] at hd
      have u5 : uv [] = [] := rfl
      rw [u5] at hd
      have c2 : ¬ (now : Int) - last ≥ (m : Int) := by omega
      have hnx : BkI f m en (updE m now e) last gap (now + 1) := by
        unfold BkI updE; rw [if_neg c]; omega
      generalize updE m now e = E at *
      skip
      refine run_ok 4000 _ _ _ _ ?_
      simp (maxSteps := 10000000) only [go_sem, hin, w1, c2, hi]
      refine sem_call rfl rfl (((hd).embed [0, 1] rfl (by repeat' first | exact trivial | rfl | (simp only [go_sem]; done) | constructor) rfl (by first | rfl | simp only [go_sem]) rfl (by simp)).mono ?_)
      rintro _ _ ⟨_, _, ⟨rfl, rfl⟩, rfl, rfl⟩
      refine run_ok 4000 _ _ _ _ ?_
      simp (maxSteps := 10000000) only [go_sem, hin, w1, c2, hi]
      refine ⟨((E, last, gap), now + 1), by simp only; omega, hnx, [0, 1], ?_⟩
      simp only [Emb, go_sem]
  · have hge : ¬ (now : Int) < (en : Int) := by omega
    have hst := hst e
    have ho : outL [5, 5, 6] [e] = [] := by simp [outL, h1]
    rw [ho] at hst
    have w3 : iwrap .i64 ((en : Int) + 1000) = ((en + 1000 : Nat) : Int) := by rw [iwrap_i64_in (by omega)]; omega
    have u3 : uv [5, 5, 6] = [[.int .u32 5], [.int .u32 5], [.int .u32 6]] := rfl
    rw [u3] at hst
    skip
    refine run_ok 4000 _ _ _ _ ?_
    simp (maxSteps := 10000000) only [go_sem, hge]
    refine run_ok 4000 _ _ _ _ ?_
    simp (maxSteps := 10000000) only [go_sem, hge]
    skip
    refine sem_call rfl rfl (((hst).embed [0, 1] rfl (by repeat' first | exact trivial | rfl | (simp only [go_sem]; done) | constructor) rfl (by first | rfl | simp only [go_sem]) rfl (by simp)).mono ?_)
    rintro _ _ ⟨_, _, ⟨rfl, rfl⟩, rfl, rfl⟩
    refine run_ok 4000 _ _ _ _ ?_
    simp (maxSteps := 10000000) only [go_sem, w3]
    refine sem_call rfl rfl (((hde).embed [0, 2] rfl (by repeat' first | exact trivial | rfl | (simp only [go_sem]; done) | constructor) rfl (by first | rfl | simp only [go_sem]) rfl (by simp)).mono ?_)
    rintro _ _ ⟨_, _, ⟨rfl, rfl⟩, rfl, rfl⟩
    refine run_ok 4000 _ _ _ _ ?_
    simp (maxSteps := 10000000) only [go_sem, w3]
    refine ⟨_, [], .like (Like.bool true) (.sub [] ?_ .done), rfl⟩
    simp only [EmbV, go_sem]
end Go.AEX
