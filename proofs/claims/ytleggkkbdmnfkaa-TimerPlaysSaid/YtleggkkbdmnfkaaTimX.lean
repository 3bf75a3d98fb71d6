/- Timers: when the next one is due. -/
import Derived.Test.YtleggkkbdmnfkaaTimO
namespace Go.AEX
open Go Go.AE Go.Proofs
set_option maxRecDepth 100000
set_option linter.unusedVariables false
set_option linter.unusedSimpArgs false

theorem next1_spec (a b : TE) : Tri Try.prog 30 [.agg [.int .u32 a.n, .int .i64 a.due, .int .i64 a.wait, .int .i64 a.times], .agg [.int .u32 b.n, .int .i64 b.due, .int .i64 b.wait, .int .i64 b.times]] [] (fun v m => v = .int .i64 (cmpI a.due b.due) ∧ m = []) := by
  refine Tri.post ?_
  refine (Tri.enter (rl := r30) (code := c30) (by kernel_rfl) Try.func30 rfl c30_ok (by kernel_rfl) (by kernel_rfl) ?_)
  refine run_ok 4000 _ _ _ _ ?_
  simp (maxSteps := 10000000) only [go_sem, c30, r30]
  refine sem_call rfl rfl (((compare_spec a.due b.due).embed [] rfl trivial rfl rfl rfl (by simp)).mono ?_)
  rintro _ _ ⟨_, _, ⟨rfl, rfl⟩, rfl, rfl⟩
  refine run_ok 4000 _ _ _ _ ?_
  simp (maxSteps := 10000000) only [go_sem]
  refine ⟨_, _, .sub [] ?_ .done, rfl, rfl⟩
  simp only [EmbV, go_sem]
/-- The least so far. -/
def leastT : TE → List TE → TE
  | e, [] => e
  | e, x :: l => leastT (if x.due < e.due then x else e) l
theorem least_take {e : TE} {l : List TE} : ∀ {k : Nat} (h : k < l.length), leastT e (l.take (k + 1)) = if l[k].due < (leastT e (l.take k)).due then l[k] else leastT e (l.take k) := by
  induction l generalizing e with
  | nil => intro k h; simp at h
  | cons x l ih =>
    intro k h
    cases k with
    | zero => simp [leastT]
    | succ k => simpa [leastT] using ih (e := if x.due < e.due then x else e) (k := k) (by simpa using h)
theorem least_min : ∀ (l : List TE) (e : TE), ((leastT e l = e ∨ leastT e l ∈ l) ∧ (leastT e l).due ≤ e.due ∧ ∀ x ∈ l, (leastT e l).due ≤ x.due)
  | [], e => by simp [leastT]
  | y :: l, e => by
    obtain ⟨h1, h2, h3⟩ := least_min l (if y.due < e.due then y else e)
    simp only [leastT]
    by_cases c : y.due < e.due
    · rw [if_pos c] at h1 h2 h3 ⊢
      refine ⟨Or.inr ?_, by omega, ?_⟩
      · rcases h1 with h | h
        · rw [h]; simp
        · simp [h]
      · intro x hx
        rcases List.mem_cons.1 hx with rfl | hx
        · exact h2
        · exact h3 x hx
    · rw [if_neg c] at h1 h2 h3 ⊢
      refine ⟨?_, h2, ?_⟩
      · rcases h1 with h | h
        · exact Or.inl h
        · exact Or.inr (by simp [h])
      · intro x hx
        rcases List.mem_cons.1 hx with rfl | hx
        · omega
        · exact h3 x hx
set_option maxHeartbeats 4000000 in
theorem minFunc_spec (e0 : TE) (l : List TE) (hl : l.length ≤ 100000) : Tri Try.prog 29 [.sl 0 0 (l.length + 1) (l.length + 1) false, .fn 30 [] []] [.row 4 (terows (e0 :: l))]
    (fun v m => v = teV (leastT e0 l) ∧ m = [.row 4 (terows (e0 :: l))]) := by
  refine Tri.post ?_
  have hl0 : 0 < (e0 :: l).length := by simp
  have hln : (e0 :: l).length = l.length + 1 := by simp
  have r0 := te_r0 hl0; have r1 := te_r1 hl0; have r2 := te_r2 hl0; have r3 := te_r3 hl0
  have hnl : ¬ ((l.length + 1 : Nat) : Int) < 1 := by omega
  have hpl : (0 : Int) < ((l.length + 1 : Nat) : Int) := by omega
  simp only [List.getElem_cons_zero] at r0 r1 r2 r3
  skip
  refine (Tri.enter (rl := r29) (code := c29) (by kernel_rfl) Try.func29 rfl c29_ok (by kernel_rfl) (by kernel_rfl) ?_)
  refine run_ok 4000 _ _ _ _ ?_
  simp (maxSteps := 10000000) only [go_sem, c29, r29, hnl, hpl, r0, r1, r2, r3, te_h0 hl0, te_h1 hl0, te_h2 hl0, te_h3 hl0, te_len, hln]
  refine sem_rounds (fun k : Nat => k ≤ l.length)
    (fun k => [(0, .sl 0 0 (l.length + 1) (l.length + 1) false), (1, .fn 30 [] []), (4, .pbox 1 0), (5, .pbox 2 0), (6, .int .i64 (k + 1 : Nat))])
    (fun k => [.row 4 (terows (e0 :: l)), .box [.int .u32 0, .int .i64 0, .int .i64 0, .int .i64 0], .box [.int .u32 (leastT e0 (l.take k)).n, .int .i64 (leastT e0 (l.take k)).due, .int .i64 (leastT e0 (l.take k)).wait, .int .i64 (leastT e0 (l.take k)).times]])
    (fun k => l.length - k) 0 [0, 1, 2] (Nat.zero_le _) ?_ ?_
  · simp [Emb, go_sem, leastT]
  intro k hk
  by_cases hlt : k < l.length
  · have hk1 : k + 1 < (e0 :: l).length := by simp; omega
    have q0 := te_r0 hk1; have q1 := te_r1 hk1; have q2 := te_r2 hk1; have q3 := te_r3 hk1
    simp only [List.getElem_cons_succ] at q0 q1 q2 q3
    have hin : ((k + 1 : Nat) : Int) < ((l.length + 1 : Nat) : Int) := by omega
    have hst := least_take (e := e0) hlt
    have hcm := next1_spec l[k] (leastT e0 (l.take k))
    have hcl := cmpI_lt l[k].due (leastT e0 (l.take k)).due
    by_cases c : l[k].due < (leastT e0 (l.take k)).due
    · rw [if_pos c] at hst
      have c3' : cmpI l[k].due (leastT e0 (l.take k)).due < 0 := by rw [hcl]; exact c
      generalize l[k] = y at *
      generalize hX : leastT e0 (l.take k) = X at *
      skip
      refine run_ok 4000 _ _ _ _ ?_
      simp (maxSteps := 10000000) only [go_sem, hin, q0, q1, q2, q3, te_h0 hk1, te_h1 hk1, te_h2 hk1, te_h3 hk1, te_len, hln, c3', Int.natCast_nonneg, inc64 (show k + 1 < 1000000000000 by omega)]
      refine sem_drawG l29_0_ok (by kernel_rfl) ?_
      intro KK hKK
      simp (maxSteps := 10000000) only [go_sem, l29_0, hin, q0, q1, q2, q3, te_h0 hk1, te_h1 hk1, te_h2 hk1, te_h3 hk1, te_len, hln, c3', Int.natCast_nonneg, inc64 (show k + 1 < 1000000000000 by omega)]
      subst hKK
      simp (maxSteps := 10000000) only [go_sem, hin, q0, q1, q2, q3, te_h0 hk1, te_h1 hk1, te_h2 hk1, te_h3 hk1, te_len, hln, c3', Int.natCast_nonneg, inc64 (show k + 1 < 1000000000000 by omega)]
      refine TriZ.of (((hcm).embed [] rfl (by repeat' first | exact trivial | rfl | (simp only [go_sem]; done) | constructor) rfl (by first | rfl | simp only [go_sem]) rfl (by simp)).mono ?_)
      rintro _ _ ⟨_, _, ⟨rfl, rfl⟩, rfl, rfl⟩
      simp (maxSteps := 10000000) only [go_sem, hin, q0, q1, q2, q3, te_h0 hk1, te_h1 hk1, te_h2 hk1, te_h3 hk1, te_len, hln, c3', Int.natCast_nonneg, inc64 (show k + 1 < 1000000000000 by omega)]
      refine ⟨k + 1, by omega, hlt, [0, 1, 2], ?_⟩
      simp only [Emb, go_sem, hst]
    · rw [if_neg c] at hst
      have c3' : ¬ cmpI l[k].due (leastT e0 (l.take k)).due < 0 := by rw [hcl]; exact c
      generalize l[k] = y at *
      generalize hX : leastT e0 (l.take k) = X at *
      skip
      refine run_ok 4000 _ _ _ _ ?_
      simp (maxSteps := 10000000) only [go_sem, hin, q0, q1, q2, q3, te_h0 hk1, te_h1 hk1, te_h2 hk1, te_h3 hk1, te_len, hln, c3', Int.natCast_nonneg, inc64 (show k + 1 < 1000000000000 by omega)]
      refine sem_drawG l29_0_ok (by kernel_rfl) ?_
      intro KK hKK
      simp (maxSteps := 10000000) only [go_sem, l29_0, hin, q0, q1, q2, q3, te_h0 hk1, te_h1 hk1, te_h2 hk1, te_h3 hk1, te_len, hln, c3', Int.natCast_nonneg, inc64 (show k + 1 < 1000000000000 by omega)]
      subst hKK
      simp (maxSteps := 10000000) only [go_sem, hin, q0, q1, q2, q3, te_h0 hk1, te_h1 hk1, te_h2 hk1, te_h3 hk1, te_len, hln, c3', Int.natCast_nonneg, inc64 (show k + 1 < 1000000000000 by omega)]
      refine TriZ.of (((hcm).embed [] rfl (by repeat' first | exact trivial | rfl | (simp only [go_sem]; done) | constructor) rfl (by first | rfl | simp only [go_sem]) rfl (by simp)).mono ?_)
      rintro _ _ ⟨_, _, ⟨rfl, rfl⟩, rfl, rfl⟩
      simp (maxSteps := 10000000) only [go_sem, hin, q0, q1, q2, q3, te_h0 hk1, te_h1 hk1, te_h2 hk1, te_h3 hk1, te_len, hln, c3', Int.natCast_nonneg, inc64 (show k + 1 < 1000000000000 by omega)]
      refine ⟨k + 1, by omega, hlt, [0, 1, 2], ?_⟩
      simp only [Emb, go_sem, hst]
  · have hk : k = l.length := by omega
    subst hk
    have hge : ¬ ((l.length + 1 : Nat) : Int) < ((l.length + 1 : Nat) : Int) := by omega
    rw [List.take_length]
    skip
    refine run_ok 4000 _ _ _ _ ?_
    simp (maxSteps := 10000000) only [go_sem, hge]
    refine run_ok 4000 _ _ _ _ ?_
    simp (maxSteps := 10000000) only [go_sem, hge]
    refine ⟨_, _, .sub [0] ?_ .done, rfl, rfl⟩
    simp only [EmbV, go_sem]
/-- When the next one is due. -/
def nextT : List TE → Int
  | [] => 0
  | e :: l => (leastT e l).due
theorem tnext_spec (f m : Int) (l : List TE) (hl : l.length ≤ 100000) : Tri Try.prog 15 [.pbox 0 0] (tmM f m l) (fun v q => v = .tup [.int .i64 (nextT l), .bool (!l.isEmpty)] ∧ q = tmM f m l) := by
  refine Tri.post ?_
  cases l with
  | nil =>
    unfold tmM
    refine (Tri.enter (rl := r15) (code := c15) (by kernel_rfl) Try.func15 rfl c15_ok (by kernel_rfl) (by kernel_rfl) ?_)
    refine run_ok 4000 _ _ _ _ ?_
    simp (maxSteps := 10000000) only [go_sem, c15, r15]
    refine ⟨_, _, .sub [0, 1] ?_ .done, rfl, rfl⟩
    simp only [EmbV, go_sem, nextT, List.isEmpty_nil, Bool.not_true]
  | cons e l =>
    have hm := minFunc_spec e l (by simp at hl; omega)
    have hz : (((l.length + 1 : Nat) : Int) == 0) = false := by rw [beq_eq_false_iff_ne]; omega
    have hln : (e :: l).length = l.length + 1 := by simp
    unfold tmM
    rw [hln]
    skip
    refine (Tri.enter (rl := r15) (code := c15) (by kernel_rfl) Try.func15 rfl c15_ok (by kernel_rfl) (by kernel_rfl) ?_)
    refine run_ok 4000 _ _ _ _ ?_
    simp (maxSteps := 10000000) only [go_sem, c15, r15, hz]
    refine sem_call rfl rfl (((hm).embed [1] rfl (by repeat' first | exact trivial | rfl | (simp only [go_sem]; done) | constructor) rfl (by first | rfl | simp only [go_sem]) rfl (by simp)).mono ?_)
    rintro _ _ ⟨_, _, ⟨rfl, rfl⟩, rfl, rfl⟩
    refine run_ok 4000 _ _ _ _ ?_
    simp (maxSteps := 10000000) only [go_sem, hz]
    refine ⟨_, _, .sub [0, 1] ?_ .done, rfl, rfl⟩
    simp only [EmbV, go_sem, nextT, List.isEmpty_cons, Bool.not_false]
end Go.AEX
