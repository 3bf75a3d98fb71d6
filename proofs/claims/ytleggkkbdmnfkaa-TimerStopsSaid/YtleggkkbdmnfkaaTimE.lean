/- Timers: sorting by insertion, the evaluation. -/
import Derived.Test.YtleggkkbdmnfkaaTimS
namespace Go.AEX
open Go Go.AE Go.Proofs
set_option maxRecDepth 100000
set_option linter.unusedVariables false
set_option linter.unusedSimpArgs false

abbrev slT (L : List TE) : AV := .sl 0 0 L.length L.length false
set_option maxHeartbeats 1000000 in
theorem insertion_spec (L : List TE) (N a b : Nat) (hN : N = L.length) (haN : a ≤ N) (hab : b ≤ N) (hL : N ≤ 100000) : Tri Try.prog 36 [.sl 0 0 N N false, .int .i64 a, .int .i64 b, .fn 23 [] []] [.row 4 (terows L)]
    (fun v m => v = .tup [] ∧ m = [.row 4 (terows (insI TE.due a (b - (a + 1)) L (a + 1)))]) := by
  refine Tri.post ?_
  generalize hR : insI TE.due a (b - (a + 1)) L (a + 1) = R
  skip
  refine (Tri.enter (rl := r36) (code := c36) (by kernel_rfl) Try.func36 rfl c36_ok (by kernel_rfl) (by kernel_rfl) ?_)
  refine run_ok 4000 _ _ _ _ ?_
  simp (maxSteps := 10000000) only [go_sem, c36, r36, inc64 (show a < 1000000000000 by omega)]
  refine sem_rounds (fun x : Nat × List TE => a + 1 ≤ x.1 ∧ x.2.length = N ∧ insI TE.due a (b - x.1) x.2 x.1 = R)
    (fun x => [(0, .sl 0 0 N N false), (1, .int .i64 a), (2, .int .i64 b), (3, .fn 23 [] []), (8, .int .i64 (x.1 : Nat))])
    (fun x => [.row 4 (terows x.2)]) (fun x => b - x.1) (a + 1, L) [0] ⟨Nat.le_refl _, hN.symm, hR⟩ ?_ ?_
  · simp only [Emb, go_sem]
  clear hR
  rintro ⟨i, L⟩ ⟨hi, hl, hR⟩
  simp only at hi hl hR
  by_cases hlt : i < b
  · have hib : (i : Int) < (b : Int) := by omega
    obtain ⟨d, hd⟩ : ∃ d, b - i = d + 1 := ⟨b - i - 1, by omega⟩
    rw [hd, insI] at hR
    generalize hR2 : insJ TE.due (i - a) L i = R2 at *
    skip
    refine run_ok 4000 _ _ _ _ ?_
    simp (maxSteps := 10000000) only [go_sem, hib]
    refine sem_rounds (fun x : Nat × List TE => a + x.1 ≤ i ∧ x.2.length = N ∧ insJ TE.due x.1 x.2 (a + x.1) = R2)
      (fun x => [(0, .sl 0 0 N N false), (1, .int .i64 a), (2, .int .i64 b), (3, .fn 23 [] []), (8, .int .i64 (i : Nat)), (9, .int .i64 (a + x.1 : Nat))])
      (fun x => [.row 4 (terows x.2)]) (fun x => x.1) (i - a, L) [0] ⟨by simp only; omega, hl, by simp only; rw [show a + (i - a) = i by omega]; exact hR2⟩ ?_ ?_
    · have e0 : a + (i - a) = i := by omega
      simp only [Emb, go_sem, e0]
    clear hR2 hl
    rintro ⟨k, L⟩ ⟨hk, hl, hR2⟩
    simp only at hk hl hR2
    cases k with
    | zero =>
      have c0 : ¬ ((a + 0 : Nat) : Int) > (a : Int) := by omega
      have hR2 : L = R2 := hR2
      subst hR2
      skip
      refine run_ok 4000 _ _ _ _ ?_
      simp (maxSteps := 10000000) only [go_sem, c0, inc64 (show i < 1000000000000 by omega)]
      refine sem_drawG l36_0_ok (by kernel_rfl) ?_
      intro KK hKK
      simp (maxSteps := 10000000) only [go_sem, l36_0, c0, inc64 (show i < 1000000000000 by omega)]
      subst hKK
      simp (maxSteps := 10000000) only [go_sem, c0, inc64 (show i < 1000000000000 by omega)]
      refine run_ok 4000 _ _ _ _ ?_
      simp (maxSteps := 10000000) only [go_sem, c0, inc64 (show i < 1000000000000 by omega)]
      refine ⟨(i + 1, L), by simp only; omega, ⟨by omega, hl, by simp only; rw [show b - (i + 1) = d by omega]; exact hR⟩, [0], ?_⟩
      simp only [Emb, go_sem]
    | succ k =>
      have c0 : ((a + (k + 1) : Nat) : Int) > (a : Int) := by omega
      have h1 : a + (k + 1) < L.length := by omega
      have h2 : a + k < L.length := by omega
      have w1 : iwrap .i64 (((a + (k + 1) : Nat) : Int) - 1) = ((a + k : Nat) : Int) := by rw [iwrap_i64_in (by omega)]; omega
      have c1 : ((a + (k + 1) : Nat) : Int) < (N : Int) := by omega
      have c2 : ((a + k : Nat) : Int) < (N : Int) := by omega
      rw [insJ, List.getElem?_eq_getElem h1, show a + (k + 1) - 1 = a + k by omega, List.getElem?_eq_getElem h2] at hR2
      simp only at hR2
      have q0 := te_r0 h1; have q1 := te_r1 h1; have q2 := te_r2 h1; have q3 := te_r3 h1
      have p0 := te_r0 h2; have p1 := te_r1 h2; have p2 := te_r2 h2; have p3 := te_r3 h2
      have hcm := due1_spec L[a + (k + 1)] L[a + k]
      have hcl := cmpI_lt L[a + (k + 1)].due L[a + k].due
      have hsw := swp_eq h1 h2
      have hput1 := te_rput h1 L[a + k]
      have h2' : a + k < (L.set (a + (k + 1)) L[a + k]).length := by rw [List.length_set]; exact h2
      have hput2 := te_rput h2' L[a + (k + 1)]
      have hin1 := te_inR h1
      have hin2 := te_inR h2'
      rw [← hsw] at hput2
      have hsl := swp_len L (a + (k + 1)) (a + k)
      by_cases c : L[a + (k + 1)].due < L[a + k].due
      · rw [if_pos c] at hR2
        have c3 : cmpI L[a + (k + 1)].due L[a + k].due < 0 := by rw [hcl]; exact c
        generalize L.set (a + (k + 1)) L[a + k] = L1 at *
        generalize swp L (a + (k + 1)) (a + k) = L2 at *
        generalize L[a + (k + 1)] = x at *
        generalize L[a + k] = y at *
        skip
        refine run_ok 4000 _ _ _ _ ?_
        simp (maxSteps := 10000000) only [go_sem, c0, c1, c2, w1, te_h0 h1, te_h1 h1, te_h2 h1, te_h3 h1, te_h0 h2, te_h1 h2, te_h2 h2, te_h3 h2, q0, q1, q2, q3, p0, p1, p2, p3, c3, hput1, hput2, hin1, hin2, te_len, Int.natCast_nonneg, Nat.zero_add]
        refine sem_drawG l36_0_ok (by kernel_rfl) ?_
        intro KK hKK
        simp (maxSteps := 10000000) only [go_sem, l36_0, c0, c1, c2, w1, te_h0 h1, te_h1 h1, te_h2 h1, te_h3 h1, te_h0 h2, te_h1 h2, te_h2 h2, te_h3 h2, q0, q1, q2, q3, p0, p1, p2, p3, c3, hput1, hput2, hin1, hin2, te_len, Int.natCast_nonneg, Nat.zero_add]
        subst hKK
        simp (maxSteps := 10000000) only [go_sem, c0, c1, c2, w1, te_h0 h1, te_h1 h1, te_h2 h1, te_h3 h1, te_h0 h2, te_h1 h2, te_h2 h2, te_h3 h2, q0, q1, q2, q3, p0, p1, p2, p3, c3, hput1, hput2, hin1, hin2, te_len, Int.natCast_nonneg, Nat.zero_add]
        refine TriZ.of (((hcm).embed [] rfl (by repeat' first | exact trivial | rfl | (simp only [go_sem]; done) | constructor) rfl (by first | rfl | simp only [go_sem]) rfl (by simp)).mono ?_)
        rintro _ _ ⟨_, _, ⟨rfl, rfl⟩, rfl, rfl⟩
        simp (maxSteps := 10000000) only [go_sem, c0, c1, c2, w1, te_h0 h1, te_h1 h1, te_h2 h1, te_h3 h1, te_h0 h2, te_h1 h2, te_h2 h2, te_h3 h2, q0, q1, q2, q3, p0, p1, p2, p3, c3, hput1, hput2, hin1, hin2, te_len, Int.natCast_nonneg, Nat.zero_add]
        refine sem_drawG l36_1_ok (by kernel_rfl) ?_
        intro KK hKK
        simp (maxSteps := 10000000) only [go_sem, l36_1, c0, c1, c2, w1, te_h0 h1, te_h1 h1, te_h2 h1, te_h3 h1, te_h0 h2, te_h1 h2, te_h2 h2, te_h3 h2, q0, q1, q2, q3, p0, p1, p2, p3, c3, hput1, hput2, hin1, hin2, te_len, Int.natCast_nonneg, Nat.zero_add]
        subst hKK
        simp (maxSteps := 10000000) only [go_sem, c0, c1, c2, w1, te_h0 h1, te_h1 h1, te_h2 h1, te_h3 h1, te_h0 h2, te_h1 h2, te_h2 h2, te_h3 h2, q0, q1, q2, q3, p0, p1, p2, p3, c3, hput1, hput2, hin1, hin2, te_len, Int.natCast_nonneg, Nat.zero_add]
        refine ⟨(k, L2), by simp only; omega, ⟨by simp only; omega, by simp only; omega, hR2⟩, [0], ?_⟩
        simp only [Emb, go_sem]
      · rw [if_neg c] at hR2
        subst hR2
        have c3 : ¬ cmpI L[a + (k + 1)].due L[a + k].due < 0 := by rw [hcl]; exact c
        generalize L[a + (k + 1)] = x at *
        generalize L[a + k] = y at *
        skip
        refine run_ok 4000 _ _ _ _ ?_
        simp (maxSteps := 10000000) only [go_sem, c0, c1, c2, w1, te_h0 h1, te_h1 h1, te_h2 h1, te_h3 h1, te_h0 h2, te_h1 h2, te_h2 h2, te_h3 h2, q0, q1, q2, q3, p0, p1, p2, p3, c3, te_len, Int.natCast_nonneg, Nat.zero_add, inc64 (show i < 1000000000000 by omega)]
        refine sem_drawG l36_0_ok (by kernel_rfl) ?_
        intro KK hKK
        simp (maxSteps := 10000000) only [go_sem, l36_0, c0, c1, c2, w1, te_h0 h1, te_h1 h1, te_h2 h1, te_h3 h1, te_h0 h2, te_h1 h2, te_h2 h2, te_h3 h2, q0, q1, q2, q3, p0, p1, p2, p3, c3, te_len, Int.natCast_nonneg, Nat.zero_add, inc64 (show i < 1000000000000 by omega)]
        subst hKK
        simp (maxSteps := 10000000) only [go_sem, c0, c1, c2, w1, te_h0 h1, te_h1 h1, te_h2 h1, te_h3 h1, te_h0 h2, te_h1 h2, te_h2 h2, te_h3 h2, q0, q1, q2, q3, p0, p1, p2, p3, c3, te_len, Int.natCast_nonneg, Nat.zero_add, inc64 (show i < 1000000000000 by omega)]
        refine TriZ.of (((hcm).embed [] rfl (by repeat' first | exact trivial | rfl | (simp only [go_sem]; done) | constructor) rfl (by first | rfl | simp only [go_sem]) rfl (by simp)).mono ?_)
        rintro _ _ ⟨_, _, ⟨rfl, rfl⟩, rfl, rfl⟩
        simp (maxSteps := 10000000) only [go_sem, c0, c1, c2, w1, te_h0 h1, te_h1 h1, te_h2 h1, te_h3 h1, te_h0 h2, te_h1 h2, te_h2 h2, te_h3 h2, q0, q1, q2, q3, p0, p1, p2, p3, c3, te_len, Int.natCast_nonneg, Nat.zero_add, inc64 (show i < 1000000000000 by omega)]
        refine run_ok 4000 _ _ _ _ ?_
        simp (maxSteps := 10000000) only [go_sem, c0, c1, c2, w1, te_h0 h1, te_h1 h1, te_h2 h1, te_h3 h1, te_h0 h2, te_h1 h2, te_h2 h2, te_h3 h2, q0, q1, q2, q3, p0, p1, p2, p3, c3, te_len, Int.natCast_nonneg, Nat.zero_add, inc64 (show i < 1000000000000 by omega)]
        refine ⟨(i + 1, L), by simp only; omega, ⟨by omega, hl, by simp only; rw [show b - (i + 1) = d by omega]; exact hR⟩, [0], ?_⟩
        simp only [Emb, go_sem]
  · have hib : ¬ (i : Int) < (b : Int) := by omega
    rw [show b - i = 0 by omega] at hR
    have hR : L = R := hR
    subst hR
    skip
    refine run_ok 4000 _ _ _ _ ?_
    simp (maxSteps := 10000000) only [go_sem, hib]
    refine run_ok 4000 _ _ _ _ ?_
    simp (maxSteps := 10000000) only [go_sem, hib]
    refine ⟨_, _, .sub [0] ?_ .done, rfl, rfl⟩
    simp only [EmbV, go_sem]
end Go.AEX
