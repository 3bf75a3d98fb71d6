/- BatA, BatB, BatC in one. -/
import Derived.Test.YthdkobfafncpcaaCom
import Derived.Test.YthdkobfafncpcaaCG
import Derived.Test.YthdkobfafncpcaaAEzj
import Derived.Test.YthdkobfafncpcaaAEsa
import Derived.KernelRfl
/- Orders: may they be; tidy ones; the same. -/
namespace Go.AEX
open Go Go.AE Go.Proofs
set_option maxRecDepth 100000
set_option linter.unusedVariables false
set_option linter.unusedSimpArgs false

abbrev Ord := Int × Int × Int × Int
def orow (o : Ord) : List AV := [.int .i64 o.1, .int .i64 o.2.1, .int .i64 o.2.2.1, .int .i64 o.2.2.2]
def orows (l : List Ord) : List (List AV) := l.map orow
theorem orows_len (l : List Ord) : (orows l).length = l.length := by simp [orows]
theorem orows_get {l : List Ord} {i : Nat} (h : i < l.length) : (orows l)[i]? = some (orow l[i]) := by simp [orows, h]
theorem orows_h0 {l : List Ord} {i : Nat} (h : i < l.length) : hasI .i64 (orows l) i 0 := ⟨_, _, orows_get h, rfl⟩
theorem orows_h1 {l : List Ord} {i : Nat} (h : i < l.length) : hasI .i64 (orows l) i 1 := ⟨_, _, orows_get h, rfl⟩
theorem orows_h2 {l : List Ord} {i : Nat} (h : i < l.length) : hasI .i64 (orows l) i 2 := ⟨_, _, orows_get h, rfl⟩
theorem orows_h3 {l : List Ord} {i : Nat} (h : i < l.length) : hasI .i64 (orows l) i 3 := ⟨_, _, orows_get h, rfl⟩
theorem orows_r0 {l : List Ord} {i : Nat} (h : i < l.length) : rint (orows l) i 0 = l[i].1 := by simp [rint, List.getD_eq_getElem?_getD, orows_get h, orow]
theorem orows_r1 {l : List Ord} {i : Nat} (h : i < l.length) : rint (orows l) i 1 = l[i].2.1 := by simp [rint, List.getD_eq_getElem?_getD, orows_get h, orow]
theorem orows_r2 {l : List Ord} {i : Nat} (h : i < l.length) : rint (orows l) i 2 = l[i].2.2.1 := by simp [rint, List.getD_eq_getElem?_getD, orows_get h, orow]
theorem orows_r3 {l : List Ord} {i : Nat} (h : i < l.length) : rint (orows l) i 3 = l[i].2.2.2 := by simp [rint, List.getD_eq_getElem?_getD, orows_get h, orow]
theorem orows_all (l : List Ord) : sub (orows l) 0 l.length = orows l := by
  simp only [sub, List.drop_zero]; exact List.take_of_length_le (by simp [orows])
attribute [go_sem] Int.reduceGE Int.reduceGT
def okO (o : Ord) : Prop :=
  (o.1 = 1 ∧ 1 ≤ o.2.1 ∧ o.2.1 ≤ 64 ∧ 0 ≤ o.2.2.1 ∧ o.2.2.1 ≤ 128 ∧ 0 ≤ o.2.2.2 ∧ o.2.2.2 ≤ 128) ∨
  (o.1 = 2 ∧ 1 ≤ o.2.1 ∧ o.2.1 ≤ 64 ∧ 1 ≤ o.2.2.1 ∧ o.2.2.1 ≤ 128 ∧ o.2.2.2 = 0) ∨
  (o.1 = 3 ∧ o.2.1 = 0 ∧ 0 ≤ o.2.2.1 ∧ o.2.2.1 ≤ 128 ∧ 0 ≤ o.2.2.2 ∧ o.2.2.2 ≤ 128) ∨
  (o.1 = 4 ∧ 1 ≤ o.2.1 ∧ o.2.1 ≤ 64 ∧ o.2.2.1 = 0 ∧ o.2.2.2 = 0)
theorem far_spec (n : Int) (h : 0 ≤ n ∧ n ≤ 128) : Tri Try.prog 60 [.int .i64 n] [] (fun v m => v = .bsym false ∧ m = []) := by
  refine Tri.post ?_
  have h1 : ¬ n < -1000 := by omega
  have h2 : ¬ n > 1000 := by omega
  skip
  refine (Tri.enter (rl := r60) (code := c60) (by kernel_rfl) Try.func60 rfl c60_ok (by kernel_rfl) (by kernel_rfl) ?_)
  refine run_ok 4000 _ _ _ _ ?_
  simp (maxSteps := 10000000) only [go_sem, c60, r60, h1, h2]
  refine ⟨_, _, .sub [] ?_ .done, rfl, rfl⟩
  simp only [EmbV, go_sem]
theorem ocheck_spec (o : Ord) (h : okO o) : Tri Try.prog 52 [.agg (orow o)] [] (fun v m => v = .int .i64 0 ∧ m = []) := by
  obtain ⟨k, u, a, b⟩ := o
  unfold okO orow at *
  simp only at *
  refine Tri.post ?_
  rcases h with ⟨rfl, h⟩ | ⟨rfl, h⟩ | ⟨rfl, rfl, h⟩ | ⟨rfl, h1, h2, rfl, rfl⟩
  · have u1 : ¬ u < 0 := by omega
    have u2 : ¬ u ≥ 1099511627776 := by omega
    have u3 : (u == 0) = false := by simp; omega
    have f1 := far_spec a (by omega)
    have f2 := far_spec b (by omega)
    skip
    refine (Tri.enter (rl := r52) (code := c52) (by kernel_rfl) Try.func52 rfl c52_ok (by kernel_rfl) (by kernel_rfl) ?_)
    refine run_ok 4000 _ _ _ _ ?_
    simp (maxSteps := 10000000) only [go_sem, c52, r52, u1, u2, u3]
    refine sem_call rfl rfl (((f1).embed [] rfl trivial rfl rfl rfl (by simp)).mono ?_)
    rintro _ _ ⟨_, _, ⟨rfl, rfl⟩, rfl, rfl⟩
    refine run_ok 4000 _ _ _ _ ?_
    simp (maxSteps := 10000000) only [go_sem, u1, u2, u3]
    refine sem_call rfl rfl (((f2).embed [] rfl trivial rfl rfl rfl (by simp)).mono ?_)
    rintro _ _ ⟨_, _, ⟨rfl, rfl⟩, rfl, rfl⟩
    refine run_ok 4000 _ _ _ _ ?_
    simp (maxSteps := 10000000) only [go_sem, u1, u2, u3]
    refine ⟨_, _, .sub [] ?_ .done, rfl, rfl⟩
    simp only [EmbV, go_sem]
  · obtain ⟨h1, h2, h3, h4, rfl⟩ := h
    have u1 : ¬ u < 0 := by omega
    have u2 : ¬ u ≥ 1099511627776 := by omega
    have u3 : (u == 0) = false := by simp; omega
    have a1 : ¬ a < 1 := by omega
    have a2 : ¬ a ≥ 1099511627776 := by omega
    skip
    refine (Tri.enter (rl := r52) (code := c52) (by kernel_rfl) Try.func52 rfl c52_ok (by kernel_rfl) (by kernel_rfl) ?_)
    refine run_ok 4000 _ _ _ _ ?_
    simp (maxSteps := 10000000) only [go_sem, c52, r52, u1, u2, u3, a1, a2]
    refine ⟨_, _, .sub [] ?_ .done, rfl, rfl⟩
    simp only [EmbV, go_sem]
  · have a1 : ¬ a < 0 := by omega
    have a2 : ¬ a > 255 := by omega
    have f2 := far_spec b (by omega)
    skip
    refine (Tri.enter (rl := r52) (code := c52) (by kernel_rfl) Try.func52 rfl c52_ok (by kernel_rfl) (by kernel_rfl) ?_)
    refine run_ok 4000 _ _ _ _ ?_
    simp (maxSteps := 10000000) only [go_sem, c52, r52, a1, a2]
    refine sem_call rfl rfl (((f2).embed [] rfl trivial rfl rfl rfl (by simp)).mono ?_)
    rintro _ _ ⟨_, _, ⟨rfl, rfl⟩, rfl, rfl⟩
    refine run_ok 4000 _ _ _ _ ?_
    simp (maxSteps := 10000000) only [go_sem, a1, a2]
    refine ⟨_, _, .sub [] ?_ .done, rfl, rfl⟩
    simp only [EmbV, go_sem]
  · have u1 : ¬ u < 0 := by omega
    have u2 : ¬ u ≥ 1099511627776 := by omega
    have u3 : (u == 0) = false := by simp; omega
    skip
    refine (Tri.enter (rl := r52) (code := c52) (by kernel_rfl) Try.func52 rfl c52_ok (by kernel_rfl) (by kernel_rfl) ?_)
    refine run_ok 4000 _ _ _ _ ?_
    simp (maxSteps := 10000000) only [go_sem, c52, r52, u1, u2, u3]
    refine ⟨_, _, .sub [] ?_ .done, rfl, rfl⟩
    simp only [EmbV, go_sem]
theorem bcheck_spec (L : List Ord) (hL : L.length ≤ 8) (h : ∀ o ∈ L, okO o) : Tri Try.prog 36 [.vsl 4 (orows L) false] [] (fun v m => v = .int .i64 0 ∧ m = []) := by
  refine Tri.post ?_
  have g8 : ¬ (L.length : Int) > 8 := by omega
  skip
  refine (Tri.enter (rl := r36) (code := c36) (by kernel_rfl) Try.func36 rfl c36_ok (by kernel_rfl) (by kernel_rfl) ?_)
  refine run_ok 4000 _ _ _ _ ?_
  simp (maxSteps := 10000000) only [go_sem, c36, r36, g8, orows_len]
  refine sem_rounds (fun i : Nat => i ≤ L.length)
    (fun i => [(9, .vsl 4 (orows L) false), (10, .int .i64 L.length), (11, .int .i64 (i : Nat))])
    (fun i => []) (fun i => L.length - i) 0 [] (Nat.zero_le _) ?_ ?_
  · simp [Emb, go_sem]
  intro i hi
  by_cases c : i < L.length
  · have hin : (i : Int) < (L.length : Int) := by omega
    have w1 := inc64 (show i < 1000000000000 by omega)
    have hc := ocheck_spec L[i] (h _ (List.getElem_mem c))
    have r0 := orows_r0 c; have r1 := orows_r1 c; have r2 := orows_r2 c; have r3 := orows_r3 c
    have h0 := orows_h0 c; have h1 := orows_h1 c; have h2 := orows_h2 c; have h3 := orows_h3 c
    unfold orow at hc
    generalize L[i] = o at *
    skip
    refine run_ok 4000 _ _ _ _ ?_
    simp (maxSteps := 10000000) only [go_sem, hin, w1, r0, r1, r2, r3, h0, h1, h2, h3, Int.natCast_nonneg, orows_len]
    refine sem_call rfl rfl (((hc).embed [] rfl trivial rfl rfl rfl (by simp)).mono ?_)
    rintro _ _ ⟨_, _, ⟨rfl, rfl⟩, rfl, rfl⟩
    refine run_ok 4000 _ _ _ _ ?_
    simp (maxSteps := 10000000) only [go_sem, hin, w1, r0, r1, r2, r3, h0, h1, h2, h3, Int.natCast_nonneg, orows_len]
    refine ⟨i + 1, by omega, c, [], ?_⟩
    simp only [Emb, go_sem]
  · have hin : ¬ (i : Int) < (L.length : Int) := by omega
    skip
    refine run_ok 4000 _ _ _ _ ?_
    simp (maxSteps := 10000000) only [go_sem, hin]
    refine run_ok 4000 _ _ _ _ ?_
    simp (maxSteps := 10000000) only [go_sem, hin]
    refine ⟨_, _, .sub [] ?_ .done, rfl, rfl⟩
    simp only [EmbV, go_sem]
end Go.AEX

/- Orders: tidy ones. -/
namespace Go.AEX
open Go Go.AE Go.Proofs
set_option maxRecDepth 100000
set_option linter.unusedVariables false
set_option linter.unusedSimpArgs false

end Go.AEX

/- Orders: clones; told as the document tells them; the same. -/
namespace Go.AEX
open Go Go.AE Go.Proofs
set_option maxRecDepth 100000
set_option linter.unusedVariables false
set_option linter.unusedSimpArgs false

theorem oclone_spec (L : List Ord) (hL : L.length ≤ 8) : Tri Try.prog 37 [.vsl 4 (orows L) false] [] (fun v m => v = .vsl 4 (orows L) false ∧ m = []) := by
  refine Tri.post ?_
  have hsm : small L.length := by unfold small; omega
  refine (Tri.enter (rl := r37) (code := c37) (by kernel_rfl) Try.func37 rfl c37_ok (by kernel_rfl) (by kernel_rfl) ?_)
  refine run_ok 4000 _ _ _ _ ?_
  simp (maxSteps := 10000000) only [go_sem, c37, r37]
  refine sem_eqn rfl rfl rfl fun b hb => ?_
  cases b with
  | false =>
    skip
    refine run_ok 4000 _ _ _ _ ?_
    simp (maxSteps := 10000000) only [go_sem, orows_all, orows_len, hsm]
    refine ⟨_, _, .fz 0 rfl (by simp only [go_sem, orows_len, Nat.le_refl]) (.sub [] ?_ .done), rfl, rfl⟩
    simp only [EmbV, go_sem, orows_all]
  | true =>
    have h0 : L.length = 0 := by
      by_cases h : L.length = 0
      · exact h
      · exact absurd (hb (by rw [orows_len]; exact h)) (by simp)
    have : L = [] := List.length_eq_zero_iff.1 h0
    subst this
    refine run_ok 4000 _ _ _ _ ?_
    simp (maxSteps := 10000000) only [go_sem, orows_all, orows_len, hsm]
    refine ⟨_, _, .like (Like.nilv 4 false) (.sub [] ?_ .done), rfl, rfl⟩
    simp only [EmbV, go_sem, orows, List.map_nil]
end Go.AEX
