/- Batch: answers that the document fixes; what one who is dropped gave is gone. -/
import Derived.Test.YthdkobfafncpcaaBatM
import Derived.Test.YthdkobfafncpcaaAEsa
namespace Go.AEX
open Go Go.AE Go.Proofs
set_option maxRecDepth 100000
set_option linter.unusedVariables false
set_option linter.unusedSimpArgs false

theorem nextT (nx : Int) (O : Outr) (F : List Inn) : Tri Try.prog 19 [.pbox 0 0] (tM nx O F) fun v m => v = .int .i64 nx ∧ m = tM nx O F := next_spec nx O F
def g0 : Int → List (List Ord) := fun _ => []
theorem awake16_spec : Tri Try.prog 9 [] [] (fun v m => v = .bsym true ∧ m = []) := by
  refine Tri.post ?_
  refine (Tri.enter (rl := r9) (code := c9) (by kernel_rfl) Try.func9 rfl c9_ok (by kernel_rfl) (by kernel_rfl) ?_)
  refine run_ok 4000 _ _ _ _ ?_
  simp (maxSteps := 10000000) only [go_sem, c9, r9]
  refine sem_call rfl rfl ((tnew_spec 5).mono ?_)
  rintro _ _ ⟨rfl, rfl⟩
  refine run_ok 4000 _ _ _ _ ?_
  simp (maxSteps := 10000000) only [go_sem]
  refine sem_call rfl rfl ((putN (TOk.new 5) 0 5 (by simp) (by omega) (by simp) (by omega)).mono ?_)
  rintro _ _ ⟨rfl, O1, F1, h1, rfl⟩
  refine run_ok 4000 _ _ _ _ ?_
  simp (maxSteps := 10000000) only [go_sem]
  refine sem_call rfl rfl ((putN h1 1 5 (by simp [upd]) (by omega) (by simp [upd]) (by omega)).mono ?_)
  rintro _ _ ⟨rfl, O2, F2, h2, rfl⟩
  refine run_ok 4000 _ _ _ _ ?_
  simp (maxSteps := 10000000) only [go_sem]
  generalize hg : upd (upd (fun _ => []) 0 ([] ++ [([] : List Ord)])) 1 (upd (fun _ => []) 0 ([] ++ [([] : List Ord)]) 1 ++ [[]]) = g at h2
  have e0 : g 0 = [[]] := by rw [← hg]; rfl
  have e1 : g 1 = [[]] := by rw [← hg]; rfl
  have hne : ∀ p ∈ [(0 : Int), 1], g p ≠ [] := by simp [e0, e1]
  have hpw : pws (hdT g) [0, 1] = [[.int .i64 0, .vsl 4 (orows []) false], [.int .i64 1, .vsl 4 (orows []) false]] := by simp [pws, pw, hdT, e0, e1]
  skip
  refine sem_call rfl rfl ((takeYes h2 [0, 1] true (by simp) (by omega) hne).mono ?_)
  rintro _ _ ⟨rfl, O3, F3, h3, rfl⟩
  refine run_ok 4000 _ _ _ _ ?_
  simp (maxSteps := 10000000) only [go_sem, hpw]
  refine sem_call rfl rfl ((nextT _ _ _).mono ?_)
  rintro _ _ ⟨rfl, rfl⟩
  refine run_ok 4000 _ _ _ _ ?_
  simp (maxSteps := 10000000) only [go_sem, hpw]
  have hgv := givenT h3 0 (by omega) (by simp [e0])
  rw [show (5 + 1 + (((fun p => (g p).tail) 0).length : Int)) = 6 by simp only [e0]; rfl] at hgv
  refine sem_call rfl rfl ((hgv).mono ?_)
  rintro _ _ ⟨rfl, rfl⟩
  refine run_ok 4000 _ _ _ _ ?_
  simp (maxSteps := 10000000) only [go_sem, hpw]
  refine ⟨_, _, .sub [] ?_ .done, rfl, rfl⟩
  simp only [EmbV, go_sem]
theorem ords_of {xs : List (List AV)} (h : ∀ x ∈ xs, HasL [.int .i64, .int .i64, .int .i64, .int .i64] x) : ∃ l : List Ord, xs = orows l := by
  induction xs with
  | nil => exact ⟨[], rfl⟩
  | cons x xs ih =>
    obtain ⟨l, rfl⟩ := ih fun y hy => h y (by simp [hy])
    have := h x (by simp)
    simp only [HasL, Has] at this
    obtain ⟨_, _, rfl, ⟨a, rfl, _⟩, _, _, rfl, ⟨b, rfl, _⟩, _, _, rfl, ⟨c, rfl, _⟩, _, _, rfl, ⟨d, rfl, _⟩, rfl⟩ := this
    exact ⟨(a, b, c, d) :: l, rfl⟩
set_option maxHeartbeats 400000 in
theorem drops_core (n m : Int) (L : List Ord) : Tri Try.prog 3 [.int .i64 n, .int .i64 m, .vsl 4 (orows L) false] [] (fun v m => v = .bool true) := by
  obtain ⟨n', hn, hn8⟩ := and_i64 n (k := 7) (by decide)
  have hn : ibits .and .i64 n 7 = (n' : Int) := hn
  obtain ⟨m', hm, hm8⟩ := and_i64 m (k := 7) (by decide)
  have hm : ibits .and .i64 m 7 = (m' : Int) := hm
  have w1 : iwrap .i64 (1 + (n' : Int)) = ((n' + 1 : Nat) : Int) := by rw [iwrap_i64_in (by omega)]; omega
  have w2 : iwrap .i64 (1 + (m' : Int)) = ((m' + 1 : Nat) : Int) := by rw [iwrap_i64_in (by omega)]; omega
  have hBl := td_len L
  have hBo := td_ok L
  have hti := tidy_spec L
  have hB1 := told_spec (td L) hBl
  have hB2 := same_spec (td L) hBl
  generalize td L = B at *
  have hnN : 1 ≤ n' + 1 ∧ n' + 1 ≤ 8 := by omega
  have hmN : 1 ≤ m' + 1 ∧ m' + 1 ≤ 8 := by omega
  generalize n' + 1 = N at *
  generalize m' + 1 = M at *
  refine Tri.post ?_
  skip
  refine (Tri.enter (rl := r3) (code := c3) (by kernel_rfl) Try.func3 rfl c3_ok (by kernel_rfl) (by kernel_rfl) ?_)
  refine run_ok 4000 _ _ _ _ ?_
  simp (maxSteps := 10000000) only [go_sem, c3, r3, hn, hm, w1, w2]
  refine sem_call rfl rfl (((awake16_spec).embed [] rfl trivial rfl rfl rfl (by simp)).mono ?_)
  rintro _ _ ⟨_, _, ⟨rfl, rfl⟩, rfl, rfl⟩
  refine run_ok 4000 _ _ _ _ ?_
  simp (maxSteps := 10000000) only [go_sem, hn, hm, w1, w2]
  refine sem_call rfl rfl ((tnew_spec 7).mono ?_)
  rintro _ _ ⟨rfl, rfl⟩
  refine run_ok 4000 _ _ _ _ ?_
  simp (maxSteps := 10000000) only [go_sem, hn, hm, w1, w2]
  refine sem_call rfl rfl (((hti).embed [] rfl trivial rfl rfl rfl (by simp)).mono ?_)
  rintro _ _ ⟨_, _, ⟨rfl, rfl⟩, rfl, rfl⟩
  refine run_ok 4000 _ _ _ _ ?_
  simp (maxSteps := 10000000) only [go_sem, hn, hm, w1, w2]
  refine sem_roundsJ (fun x : Nat × Outr × List Inn => x.1 ≤ N ∧ TOk 7 x.2.1 x.2.2 (upd g0 1 (List.replicate x.1 B)))
    (fun x => [(0, .int .i64 N), (1, .int .i64 M), (7, .pbox 0 0), (8, .vsl 4 (orows B) false), (26, .int .i64 N), (27, .int .i64 (x.1 : Nat))])
    (fun x => tM 7 x.2.1 x.2.2) (fun x => N - x.1) (0, [], []) ?_ ?_ ?_ ⟨Nat.zero_le _, ?_⟩ ?_ ?_
  · intro x hx; exact tM_ids _ _ _ hx.2.okO _ (by rw [tM_len]; exact Nat.le_refl _)
  · intro x hx; rw [tM_len]; omega
  · intro x hx; simp [idsT, ids, fam_len]
  · have := TOk.new 7; rwa [show (fun _ => []) = upd g0 1 (List.replicate 0 B) by funext p; simp [upd, g0]] at this
  · simp [go_sem]
  rintro ⟨i, O, F⟩ ⟨hi, hT⟩
  simp only at hi hT ⊢
  by_cases c : i < N
  · have hin : (i : Int) < (N : Int) := by omega
    have w3 : iwrap .i64 (7 + (i : Int)) = 7 + (i : Int) := iwrap_i64_in (by omega)
    have w4 := inc64 (show i < 1000000000000 by omega)
    skip
    refine run_ok 4000 _ _ _ _ ?_
    simp (maxSteps := 10000000) only [go_sem, hin, w3, w4]
    have hgl : (upd g0 1 (List.replicate i B) 1).length < 8 := by simp [upd]; omega
    refine sem_call rfl rfl ((putT hT 1 (7 + (i : Int)) B (by simp [upd]) (by omega) hgl (by omega) hBl hBo).mono ?_)
    rintro _ _ ⟨rfl, O1, F1, h1, rfl⟩
    refine run_ok 4000 _ _ _ _ ?_
    simp (maxSteps := 10000000) only [go_sem, hin, w3, w4]
    refine ⟨(i + 1, O1, F1), by simp only; omega, ⟨by simp only; omega, ?_⟩, rfl, [], ?_⟩
    · have : upd (upd g0 1 (List.replicate i B)) 1 (upd g0 1 (List.replicate i B) 1 ++ [B]) = upd g0 1 (List.replicate (i + 1) B) := by
        funext p; by_cases e : p = 1 <;> simp [upd, e, List.replicate_succ']
      rwa [this] at h1
    · simp
  · have hin : ¬ (i : Int) < (N : Int) := by omega
    obtain rfl : i = N := by omega
    clear hi c
    skip
    refine run_ok 4000 _ _ _ _ ?_
    simp (maxSteps := 10000000) only [go_sem, hin]
    refine run_ok 4000 _ _ _ _ ?_
    simp (maxSteps := 10000000) only [go_sem, hin]
    refine sem_roundsJ (fun x : Nat × Outr × List Inn => x.1 ≤ M ∧ TOk 7 x.2.1 x.2.2 (upd (upd g0 1 (List.replicate i B)) 2 (List.replicate x.1 B)))
      (fun x => [(0, .int .i64 i), (1, .int .i64 M), (7, .pbox 0 0), (8, .vsl 4 (orows B) false), (36, .int .i64 M), (37, .int .i64 (x.1 : Nat))])
      (fun x => tM 7 x.2.1 x.2.2) (fun x => M - x.1) (0, O, F) ?_ ?_ ?_ ⟨Nat.zero_le _, ?_⟩ ?_ ?_
    · intro x hx; exact tM_ids _ _ _ hx.2.okO _ (by rw [tM_len]; exact Nat.le_refl _)
    · intro x hx; rw [tM_len]; omega
    · intro x hx; simp [idsT, ids, fam_len]
    · have : upd (upd g0 1 (List.replicate i B)) 2 (List.replicate 0 B) = upd g0 1 (List.replicate i B) := by
        funext p; by_cases e : p = 2 <;> simp [upd, g0, e]
      rw [this]; exact hT
    · simp [go_sem]
    clear hT
    rintro ⟨j, O, F⟩ ⟨hj, hT⟩
    simp only at hj hT ⊢
    by_cases c : j < M
    · have hin : (j : Int) < (M : Int) := by omega
      have w3 : iwrap .i64 (7 + (j : Int)) = 7 + (j : Int) := iwrap_i64_in (by omega)
      have w4 := inc64 (show j < 1000000000000 by omega)
      have hgl : (upd (upd g0 1 (List.replicate i B)) 2 (List.replicate j B) 2).length < 8 := by simp [upd]; omega
      skip
      refine run_ok 4000 _ _ _ _ ?_
      simp (maxSteps := 10000000) only [go_sem, hin, w3, w4]
      refine sem_call rfl rfl ((putT hT 2 (7 + (j : Int)) B (by simp [upd]) (by omega) hgl (by omega) hBl hBo).mono ?_)
      rintro _ _ ⟨rfl, O1, F1, h1, rfl⟩
      refine run_ok 4000 _ _ _ _ ?_
      simp (maxSteps := 10000000) only [go_sem, hin, w3, w4]
      refine ⟨(j + 1, O1, F1), by simp only; omega, ⟨by simp only; omega, ?_⟩, rfl, [], ?_⟩
      · have : upd (upd (upd g0 1 (List.replicate i B)) 2 (List.replicate j B)) 2 (upd (upd g0 1 (List.replicate i B)) 2 (List.replicate j B) 2 ++ [B]) = upd (upd g0 1 (List.replicate i B)) 2 (List.replicate (j + 1) B) := by
          funext p; by_cases e : p = 2 <;> simp [upd, e, List.replicate_succ']
        rwa [this] at h1
      · simp
    · have hin : ¬ (j : Int) < (M : Int) := by omega
      obtain rfl : j = M := by omega
      have hi1 : 1 ≤ i := by omega
      have hj1 : 1 ≤ j := by omega
      generalize hg : upd (upd g0 1 (List.replicate i B)) 2 (List.replicate j B) = g at hT
      have e1 : g 1 = List.replicate i B := by rw [← hg]; rfl
      have e2 : g 2 = List.replicate j B := by rw [← hg]; rfl
      have hne1 : g 1 ≠ [] := by rw [e1]; intro h; have := congrArg List.length h; simp at this; omega
      have hdr := dropT hT 1 hne1
      rw [e1, List.length_replicate] at hdr
      have b0 : ((i : Int) != (i : Int)) = false := by simp
      skip
      refine run_ok 4000 _ _ _ _ ?_
      simp (maxSteps := 10000000) only [go_sem, hin, b0]
      refine run_ok 4000 _ _ _ _ ?_
      simp (maxSteps := 10000000) only [go_sem, hin, b0]
      refine sem_call rfl rfl ((hdr).mono ?_)
      rintro _ _ ⟨rfl, O1, F1, h1, rfl⟩
      refine run_ok 4000 _ _ _ _ ?_
      simp (maxSteps := 10000000) only [go_sem, hin, b0]
      have f1 : upd g 1 [] 1 = [] := rfl
      have f2 : upd g 1 [] 2 = List.replicate j B := by rw [← e2]; rfl
      generalize upd g 1 [] = g' at h1 f1 f2
      have k1 := hasT h1 1
      rw [show hasB' g' 1 = false by simp [hasB', f1]] at k1
      have k2 := hasT h1 2
      have hj0 : j ≠ 0 := by omega
      rw [show hasB' g' 2 = true by simp [hasB', f2, hj0]] at k2
      have k3 := givenT h1 1 (by omega) (by simp [f1])
      rw [show (7 : Int) + ((g' 1).length : Int) = 7 by simp [f1]] at k3
      have k4 := givenT h1 2 (by omega) (by simp [f2]; omega)
      rw [f2, List.length_replicate] at k4
      have w3 : iwrap .i64 (7 + (j : Int)) = 7 + (j : Int) := iwrap_i64_in (by omega)
      have b1 : ((7 + (j : Int)) != (7 + (j : Int))) = false := by simp
      skip
      refine sem_call rfl rfl ((k1).mono ?_)
      rintro _ _ ⟨rfl, rfl⟩
      refine run_ok 4000 _ _ _ _ ?_
      simp (maxSteps := 10000000) only [go_sem, w3, b1]
      refine sem_call rfl rfl ((k3).mono ?_)
      rintro _ _ ⟨rfl, rfl⟩
      refine run_ok 4000 _ _ _ _ ?_
      simp (maxSteps := 10000000) only [go_sem, w3, b1]
      refine sem_call rfl rfl ((k2).mono ?_)
      rintro _ _ ⟨rfl, rfl⟩
      refine run_ok 4000 _ _ _ _ ?_
      simp (maxSteps := 10000000) only [go_sem, w3, b1]
      refine sem_call rfl rfl ((k4).mono ?_)
      rintro _ _ ⟨rfl, rfl⟩
      refine run_ok 4000 _ _ _ _ ?_
      simp (maxSteps := 10000000) only [go_sem, w3, b1]
      refine sem_call rfl rfl ((takeNo h1 [1, 2] true (by simp) ⟨1, by simp, f1⟩).mono ?_)
      rintro _ _ ⟨rfl, rfl⟩
      refine run_ok 4000 _ _ _ _ ?_
      simp (maxSteps := 10000000) only [go_sem, w3, b1]
      refine sem_call rfl rfl ((putN h1 1 7 (by simp [f1]) (by omega) (by simp [f1]) (by omega)).mono ?_)
      rintro _ _ ⟨rfl, O2, F2, h2, rfl⟩
      refine run_ok 4000 _ _ _ _ ?_
      simp (maxSteps := 10000000) only [go_sem, w3, b1]
      have p1 : upd g' 1 (g' 1 ++ [[]]) 1 = [[]] := by rw [upd_same, f1]; rfl
      have p2 : upd g' 1 (g' 1 ++ [[]]) 2 = List.replicate j B := by rw [← f2]; rfl
      generalize upd g' 1 (g' 1 ++ [[]]) = g2 at h2 p1 p2
      have hne : ∀ p ∈ [(1 : Int), 2], g2 p ≠ [] := by simp [p1, p2, hj0]
      have hh2 : hdT g2 2 = B := by unfold hdT; rw [p2]; cases j with | zero => omega | succ j => simp [List.replicate_succ]
      have hpw : pws (hdT g2) [1, 2] = [[.int .i64 1, .vsl 4 [] false], [.int .i64 2, .vsl 4 (orows B) false]] := by
        simp only [pws, pw, List.map_cons, List.map_nil, hh2]
        simp [hdT, p1, orows]
      skip
      refine sem_call rfl rfl ((takeYes h2 [1, 2] true (by simp) (by omega) hne).mono ?_)
      rintro _ _ ⟨rfl, O3, F3, h3, rfl⟩
      refine run_ok 4000 _ _ _ _ ?_
      simp (maxSteps := 10000000) only [go_sem, hpw, orows_len]
      have h3 : TOk 8 O3 F3 (fun p => (g2 p).tail) := h3
      have hnx := nextT 8 O3 F3
      refine sem_sub0 (m := tM 8 O3 F3) [(7, .pbox 0 0), (8, .vsl 4 (orows B) false), (13, .vsl 2 [[.int .i64 1, .vsl 4 [] false], [.int .i64 2, .vsl 4 (orows B) false]] false), (14, .bool true)]
        (tM_ids _ _ _ h3.okO _ (by rw [tM_len]; exact Nat.le_refl _)) (by rw [tM_len]; omega) (by simp [idsT, ids, fam_len]) (by simp only [go_sem]) ?_
      generalize tM 8 O3 F3 = mm at *
      generalize hX : [[AV.int .i64 1, AV.vsl 4 [] false], [AV.int .i64 2, AV.vsl 4 (orows B) false]] = X at *
      have q0 : rany X 0 1 = .vsl 4 [] false := by rw [← hX]; rfl
      have q1 : rany X 1 1 = .vsl 4 (orows B) false := by rw [← hX]; rfl
      have q2 : hasA X 0 1 := by rw [← hX]; exact ⟨_, _, rfl, rfl⟩
      have q3 : hasA X 1 1 := by rw [← hX]; exact ⟨_, _, rfl, rfl⟩
      have q4 : X.length = 2 := by rw [← hX]; rfl
      skip
      refine sem_drawG l3_0_ok (by kernel_rfl) ?_
      intro KK hKK
      simp (maxSteps := 10000000) only [go_sem, l3_0, q0, q1, q2, q3, q4]
      refine TriZ.of (((hB1).embed [] rfl (by repeat' first | exact trivial | rfl | (simp only [go_sem]; done) | constructor) rfl (by first | rfl | simp only [go_sem]) rfl (by simp)).mono ?_)
      rintro _ _ ⟨_, _, ⟨rfl, rfl⟩, rfl, rfl⟩
      simp (maxSteps := 10000000) only [go_sem, q0, q1, q2, q3, q4]
      refine TriZ.of (((hB2).embed [] rfl (by repeat' first | exact trivial | rfl | (simp only [go_sem]; done) | constructor) rfl (by first | rfl | simp only [go_sem]) rfl (by simp)).mono ?_)
      rintro _ _ ⟨_, _, ⟨rfl, rfl⟩, rfl, rfl⟩
      simp (maxSteps := 10000000) only [go_sem, q0, q1, q2, q3, q4]
      refine TriZ.of (hnx.mono ?_)
      rintro _ _ ⟨rfl, rfl⟩
      simp (maxSteps := 10000000) only [go_sem, q0, q1, q2, q3, q4]
      subst hKK
      simp (maxSteps := 10000000) only [go_sem, q0, q1, q2, q3, q4]
      refine ⟨_, [], .like (Like.bool true) (.sub [] ?_ .done), rfl⟩
      simp only [EmbV, go_sem]
theorem batchDrops_spec (n : Int) (hn : (Lit.int .i64 n).wf = true) (m : Int) (hm : (Lit.int .i64 m).wf = true) (l : AV) (hl : Has (.sl [.int .i64, .int .i64, .int .i64, .int .i64]) l) :
    Tri Try.prog 3 [.int .i64 n, .int .i64 m, l] [] (fun v m => v = .bool true) := by
  simp only [Has] at hl
  obtain ⟨xs, rfl, hxl, hx⟩ := hl
  simp only [List.length_cons, List.length_nil]
  obtain ⟨L, rfl⟩ := ords_of hx
  exact drops_core n m L
end Go.AEX
