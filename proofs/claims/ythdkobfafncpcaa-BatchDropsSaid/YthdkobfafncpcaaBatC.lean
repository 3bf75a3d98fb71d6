/- Orders: clones; told as the document tells them; the same. -/
import Derived.Test.YthdkobfafncpcaaBatB
namespace Go.AEX
open Go Go.AE Go.Proofs
set_option maxRecDepth 100000
set_option linter.unusedVariables false
set_option linter.unusedSimpArgs false

theorem oclone_spec (L : List Ord) (hL : L.length ≤ 8) : Tri Try.prog 37 [.vsl 4 (orows L) false] [] (fun v m => v = .vsl 4 (orows L) false ∧ m = []) := by
  refine Tri.post ?_
  have hsm : small L.length := by unfold small; omega
  refine (Tri.enter (rl := r37) (code := c37) (by kernel_rfl) Try.func37 rfl c37_ok (by kernel_rfl) (by kernel_rfl) ?_)
  refine run_ok 4000 _ _ _ _ ?_
  simp (maxSteps := 10000000) only [go_sem, c37, r37]
  refine sem_eqn rfl rfl rfl fun b hb => ?_
  cases b with
  | false =>
    skip
    refine run_ok 4000 _ _ _ _ ?_
    simp (maxSteps := 10000000) only [go_sem, orows_all, orows_len, hsm]
    refine ⟨_, _, .fz 0 rfl (by simp only [go_sem, orows_len, Nat.le_refl]) (.sub [] ?_ .done), rfl, rfl⟩
    simp only [EmbV, go_sem, orows_all]
  | true =>
    have h0 : L.length = 0 := by
      by_cases h : L.length = 0
      · exact h
      · exact absurd (hb (by rw [orows_len]; exact h)) (by simp)
    have : L = [] := List.length_eq_zero_iff.1 h0
    subst this
    refine run_ok 4000 _ _ _ _ ?_
    simp (maxSteps := 10000000) only [go_sem, orows_all, orows_len, hsm]
    refine ⟨_, _, .like (Like.nilv 4 false) (.sub [] ?_ .done), rfl, rfl⟩
    simp only [EmbV, go_sem, orows, List.map_nil]
theorem told_spec (L : List Ord) (hL : L.length ≤ 8) : Tri Try.prog 18 [.vsl 4 (orows L) false] [] (fun v m => v = .vsl 4 (orows L) false ∧ m = []) := by
  refine Tri.post ?_
  skip
  refine (Tri.enter (rl := r18) (code := c18) (by kernel_rfl) Try.func18 rfl c18_ok (by kernel_rfl) (by kernel_rfl) ?_)
  refine run_ok 4000 _ _ _ _ ?_
  simp (maxSteps := 10000000) only [go_sem, c18, r18, orows_len]
  refine sem_virt 3 4 rfl ?_
  simp (maxSteps := 10000000) only [go_sem, orows_len]
  refine sem_rounds (fun i : Nat => i ≤ L.length)
    (fun i => [(3, .sl 0 0 (L.take i).length (L.take i).length false), (7, .vsl 4 (orows L) false), (8, .int .i64 L.length), (9, .int .i64 (i : Nat))])
    (fun i => [.row 4 (orows (L.take i))]) (fun i => L.length - i) 0 [0] (Nat.zero_le _) ?_ ?_
  · simp [Emb, go_sem, orows]
  intro i hi
  by_cases c : i < L.length
  · have hin : (i : Int) < (L.length : Int) := by omega
    have w1 := inc64 (show i < 1000000000000 by omega)
    have r0 := orows_r0 c; have r1 := orows_r1 c; have r2 := orows_r2 c; have r3 := orows_r3 c
    have h0 := orows_h0 c; have h1 := orows_h1 c; have h2 := orows_h2 c; have h3 := orows_h3 c
    have hnext : L.take (i + 1) = L.take i ++ [L[i]] := List.take_succ_eq_append_getElem c
    have hlT : (L.take i).length ≤ 8 := by rw [List.length_take]; omega
    have hsm : small ((L.take i).length + 1) := by unfold small; omega
    generalize L.take i = T at *
    generalize L[i] = o at *
    obtain ⟨k, u, a, b⟩ := o
    skip
    refine run_ok 4000 _ _ _ _ ?_
    simp (maxSteps := 10000000) only [go_sem, hin, w1, r0, r1, r2, r3, h0, h1, h2, h3, orows_len, orows_all, Int.natCast_nonneg, Nat.le_refl]
    refine ⟨hsm, ?_⟩
    refine ⟨i + 1, by omega, c, [2], ?_⟩
    simp only [hnext, List.length_append, List.length_singleton]
    rw [orows_one, orows_app]
    simp only [Emb, go_sem]
  · have hin : ¬ (i : Int) < (L.length : Int) := by omega
    rw [List.take_of_length_le (by omega)]
    skip
    refine run_ok 4000 _ _ _ _ ?_
    simp (maxSteps := 10000000) only [go_sem, hin, orows_len]
    refine run_ok 4000 _ _ _ _ ?_
    simp (maxSteps := 10000000) only [go_sem, hin, orows_len]
    refine ⟨_, _, .fz 0 rfl (by simp only [go_sem, orows_len, Nat.le_refl]) (.sub [] ?_ .done), rfl, rfl⟩
    simp only [EmbV, go_sem, orows_all]
theorem same_spec (L : List Ord) (hL : L.length ≤ 8) : Tri Try.prog 17 [.vsl 4 (orows L) false, .vsl 4 (orows L) false] [] (fun v m => v = .int .i64 0 ∧ m = []) := by
  refine Tri.post ?_
  skip
  refine (Tri.enter (rl := r17) (code := c17) (by kernel_rfl) Try.func17 rfl c17_ok (by kernel_rfl) (by kernel_rfl) ?_)
  refine run_ok 4000 _ _ _ _ ?_
  simp (maxSteps := 10000000) only [go_sem, c17, r17, orows_len, beq_self_eq_true]
  refine sem_rounds (fun i : Nat => i ≤ L.length)
    (fun i => [(0, .vsl 4 (orows L) false), (1, .vsl 4 (orows L) false), (12, .int .i64 L.length), (13, .int .i64 (i : Nat))])
    (fun i => []) (fun i => L.length - i) 0 [] (Nat.zero_le _) ?_ ?_
  · simp [Emb, go_sem]
  intro i hi
  by_cases c : i < L.length
  · have hin : (i : Int) < (L.length : Int) := by omega
    have w1 := inc64 (show i < 1000000000000 by omega)
    have r0 := orows_r0 c; have r1 := orows_r1 c; have r2 := orows_r2 c; have r3 := orows_r3 c
    have h0 := orows_h0 c; have h1 := orows_h1 c; have h2 := orows_h2 c; have h3 := orows_h3 c
    generalize L[i] = o at *
    skip
    refine run_ok 4000 _ _ _ _ ?_
    simp (maxSteps := 10000000) only [go_sem, hin, w1, r0, r1, r2, r3, h0, h1, h2, h3, Int.natCast_nonneg, orows_len, beq_self_eq_true]
    refine sem_drawG l17_0_ok (by kernel_rfl) ?_
    intro KK hKK
    simp (maxSteps := 10000000) only [go_sem, l17_0, hin, w1, r0, r1, r2, r3, h0, h1, h2, h3, Int.natCast_nonneg, orows_len, beq_self_eq_true]
    subst hKK
    simp (maxSteps := 10000000) only [go_sem, hin, w1, r0, r1, r2, r3, h0, h1, h2, h3, Int.natCast_nonneg, orows_len, beq_self_eq_true]
    refine ⟨i + 1, by omega, c, [], ?_⟩
    simp only [Emb, go_sem]
  · have hin : ¬ (i : Int) < (L.length : Int) := by omega
    skip
    refine run_ok 4000 _ _ _ _ ?_
    simp (maxSteps := 10000000) only [go_sem, hin]
    refine run_ok 4000 _ _ _ _ ?_
    simp (maxSteps := 10000000) only [go_sem, hin]
    refine ⟨_, _, .sub [] ?_ .done, rfl, rfl⟩
    simp only [EmbV, go_sem]
end Go.AEX
