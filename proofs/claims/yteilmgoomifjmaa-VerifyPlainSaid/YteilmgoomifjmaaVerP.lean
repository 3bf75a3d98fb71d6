/- Verify: as many values as they like (VerifyPlain). -/
import Derived.Test.YteilmgoomifjmaaVerH
namespace Go.AEX
open Go Go.AE Go.Proofs
set_option maxRecDepth 100000
set_option linter.unusedVariables false
set_option linter.unusedSimpArgs false

/-- So many pushes, so many pops, and a ret. -/
def plainC (n p : Nat) : List Ins := List.replicate n (1, 1) ++ (List.replicate p (2, 0) ++ [(16, 0)])
theorem plainC_len (n p : Nat) : (plainC n p).length = n + p + 1 := by simp [plainC]; omega
theorem plainC_push {n p i : Nat} (h : i < n) : (plainC n p).getD i (0, 0) = (1, 1) := by
  unfold plainC; rw [List.getD_eq_getElem?_getD, List.getElem?_append_left (by simpa using h)]; simp [h]
theorem plainC_pop {n p i : Nat} (h : n ≤ i) (h2 : i < n + p) : (plainC n p).getD i (0, 0) = (2, 0) := by
  unfold plainC; rw [List.getD_eq_getElem?_getD, List.getElem?_append_right (by simpa using h), List.getElem?_append_left (by simp; omega)]
  rw [List.length_replicate, List.getElem?_replicate, if_pos (by omega)]; rfl
theorem plainC_ret (n p : Nat) : (plainC n p).getD (n + p) (0, 0) = (16, 0) := by
  unfold plainC; rw [List.getD_eq_getElem?_getD, List.getElem?_append_right (by simp), List.getElem?_append_right (by simp)]; simp
theorem plainC_ok (n p : Nat) : ∀ x ∈ plainC n p, OpOk x.1 := by
  intro x hx
  simp [plainC] at hx
  rcases hx with ⟨_, rfl⟩ | ⟨_, rfl⟩ | rfl <;> simp [OpOk]
/-- How many values there are. -/
def dep (n i : Nat) : Int := if i ≤ n then i else 2 * (n : Int) - i
def depD (n C i : Nat) : List Int := (List.range (i + 1)).map (dep n) ++ List.replicate (C - (i + 1)) (-1)
theorem depD_len {n C i : Nat} (h : i < C) : (depD n C i).length = C := by simp [depD]; omega
theorem depD_at {n C i : Nat} : (depD n C i).getD i 0 = dep n i := by
  unfold depD; rw [List.getD_eq_getElem?_getD, List.getElem?_append_left (by simp)]; simp
theorem depD_next {n C i : Nat} (h : i + 1 < C) : (depD n C i).getD (i + 1) 0 = -1 := by
  unfold depD; rw [List.getD_eq_getElem?_getD, List.getElem?_append_right (by simp)]; simp; rw [List.getElem?_replicate]; rw [if_pos (by omega)]; rfl
theorem depD_set {n C i : Nat} (h : i + 1 < C) : (depD n C i).set (i + 1) (dep n (i + 1)) = depD n C (i + 1) := by
  unfold depD
  rw [List.set_append_right _ _ (by simp), List.length_map, List.length_range, Nat.sub_self, show C - (i + 1) = (C - (i + 1 + 1)) + 1 by omega, List.replicate_succ, List.set_cons_zero, List.range_succ (n := i + 1), List.map_append, List.append_assoc]
  rfl
theorem plain_go (l : List Fn) (n p : Nat) (hn : 1 ≤ n) : ∀ (k i : Nat), i + k = n + p + 1 → 0 < k → (i ≤ 64 ∨ n ≤ 64) → i ≤ 2 * n →
    ((walkF l ⟨0, 0, plainC n p⟩ k (depD n (n + p + 1) i) [(i : Int)]).2 ≥ 0 ↔ ¬ (n ≤ 64 ∧ (n : Int) - p = 1))
  | 0, i, h, h0, _, _ => by omega
  | k + 1, i, h, _, h1, h2 => by
    have ih := plain_go l n p hn k (i + 1) (by omega)
    rw [walkF]
    simp only [stepF, Int.toNat_natCast, depD_at]
    by_cases c1 : i < n
    · have hd : dep n i = i := by unfold dep; rw [if_pos (by omega)]
      have hd1 : dep n (i + 1) = (i : Int) + 1 := by unfold dep; rw [if_pos (by omega)]; rfl
      rw [plainC_push c1, hd]
      have hs : soundF l ⟨0, 0, plainC n p⟩ (1, 1) = true := by simp [soundF]
      have he : effF l (1, 1) = (0, 1) := by simp [effF]
      have hx : nextF (1, 1) (i : Int) = [(i : Int) + 1] := by simp [nextF]
      simp only [hs, he, hx, Bool.true_eq_false, if_false]
      by_cases c2 : i + 1 > 64
      · rw [if_pos (by omega)]; simp only; omega
      · rw [if_neg (by omega)]
        have ht : ((i : Int) + 1).toNat = i + 1 := by omega
        have hg : goesF (plainC n p).length ((i : Int) - 0 + 1) [(i : Int) + 1] (depD n (n + p + 1) i) [] = some (depD n (n + p + 1) (i + 1), [((i + 1 : Nat) : Int)]) := by
          rw [goesF, ht, depD_next (by omega), plainC_len, if_neg (by omega), if_pos (by omega), goesF, show ((i : Int) - 0 + 1) = dep n (i + 1) by rw [hd1]; omega, depD_set (by omega)]
          rfl
        rw [hg]
        exact ih (by omega) (by omega) (by omega)
    · by_cases c3 : i < n + p
      · have hd : dep n i = 2 * (n : Int) - i := by unfold dep; split <;> omega
        have hd1 : dep n (i + 1) = 2 * (n : Int) - i - 1 := by unfold dep; rw [if_neg (by omega)]; omega
        rw [plainC_pop (by omega) c3, hd]
        have hs : soundF l ⟨0, 0, plainC n p⟩ (2, 0) = true := by simp [soundF]
        have he : effF l (2, 0) = (1, 0) := by simp [effF]
        have hx : nextF (2, 0) (i : Int) = [(i : Int) + 1] := by simp [nextF]
        simp only [hs, he, hx, Bool.true_eq_false, if_false]
        by_cases c2 : i = 2 * n
        · rw [if_pos (by omega)]; simp only; omega
        · rw [if_neg (by omega)]
          have ht : ((i : Int) + 1).toNat = i + 1 := by omega
          have hg : goesF (plainC n p).length (2 * (n : Int) - i - 1 + 0) [(i : Int) + 1] (depD n (n + p + 1) i) [] = some (depD n (n + p + 1) (i + 1), [((i + 1 : Nat) : Int)]) := by
            rw [goesF, ht, depD_next (by omega), plainC_len, if_neg (by omega), if_pos (by omega), goesF, show (2 * (n : Int) - i - 1 + 0) = dep n (i + 1) by rw [hd1]; omega, depD_set (by omega)]
            rfl
          rw [hg]
          exact ih (by omega) (by omega) (by omega)
      · have hi : i = n + p := by omega
        have hk : k = 0 := by omega
        subst hi hk
        have hd : dep n (n + p) = (n : Int) - p := by unfold dep; split <;> omega
        rw [plainC_ret, hd]
        have hs : soundF l ⟨0, 0, plainC n p⟩ (16, 0) = true := by simp [soundF]
        have he : effF l (16, 0) = (1, 0) := by simp [effF]
        have hx : nextF (16, 0) ((n + p : Nat) : Int) = [] := by simp [nextF]
        simp only [hs, he, hx, Bool.true_eq_false, if_false]
        by_cases c2 : (n : Int) - p = 1
        · rw [if_neg (by omega), goesF]; simp only [walkF]; omega
        · rw [if_pos (.inr (.inr ⟨trivial, c2⟩))]; simp only; omega
theorem plain_res (l : List Fn) (n p : Nat) (hn : 1 ≤ n) : (resF l ⟨0, 0, plainC n p⟩).2 ≥ 0 ↔ ¬ (n ≤ 64 ∧ (n : Int) - p = 1) := by
  have h := plain_go l n p hn (n + p + 1) 0 (by omega) (by omega) (by omega) (by omega)
  have e : startD (plainC n p).length = depD n (n + p + 1) 0 := by
    rw [plainC_len]
    simp [startD, unseen, depD, dep]
    rw [List.replicate_succ]
    rfl
  unfold resF
  rw [e]
  simp only [plainC_len]
  exact h
/-- The image of the statement. -/
def plainI (n p : Nat) : List Fn := [⟨1, 1, ret2⟩, ⟨4, 4, ret2⟩, ⟨0, 0, plainC n p⟩]
theorem plain_check (n p : Nat) (hn : 1 ≤ n) (h128 : n + p + 1 ≤ 128) : checkF (plainI n p) = if n ≤ 64 ∧ (n : Int) - p = 1 then ((0, 0), 0) else ((2, (resF (plainI n p) ⟨0, 0, plainC n p⟩).2), 14) := by
  have hr := plain_res (plainI n p) n p hn
  have h1 : resF (plainI n p) ⟨1, 1, ret2⟩ = ([0, 1], -1) := by rfl
  have h2 : resF (plainI n p) ⟨4, 4, ret2⟩ = ([0, 1], -1) := by rfl
  have hb : firstBad (plainI n p) 0 = none := by
    have b1 : badF 0 ⟨1, 1, ret2⟩ = false := by decide
    have b2 : badF 1 ⟨4, 4, ret2⟩ = false := by decide
    have b3 : badF 2 ⟨0, 0, plainC n p⟩ = false := by simp [badF, plainC_len]; omega
    simp [plainI, firstBad, b1, b2, b3]
  have ho : firstOff (plainI n p) (plainI n p) 0 = if n ≤ 64 ∧ (n : Int) - p = 1 then none else some (2, (resF (plainI n p) ⟨0, 0, plainC n p⟩).2) := by
    show firstOff (plainI n p) [⟨1, 1, ret2⟩, ⟨4, 4, ret2⟩, ⟨0, 0, plainC n p⟩] 0 = _
    simp only [firstOff, h1, h2]
    rw [if_neg (by decide), if_neg (by decide)]
    by_cases c : n ≤ 64 ∧ (n : Int) - p = 1
    · rw [if_pos c, if_neg (fun h => hr.1 h c)]
    · rw [if_neg c, if_pos (hr.2 c)]
  unfold checkF
  rw [if_neg (by simp [plainI]), hb, ho]
  by_cases c : n ≤ 64 ∧ (n : Int) - p = 1
  · rw [if_pos c, if_pos c]
  · rw [if_neg c, if_neg c]; rfl
theorem irs_app (a b : List Ins) : irows a ++ irows b = irows (a ++ b) := by simp [irows]
theorem irs_all (l : List Ins) : sub (irows l) 0 l.length = irows l := by simp only [sub, List.drop_zero]; exact List.take_of_length_le (by simp [irows])
theorem plainF_spec (a : Int) : Tri Try.prog 30 [.int .i64 a] [] (fun v m => v = .agg [.int .i64 a, .int .i64 a, .vsl 2 (irows ret2) false] ∧ m = []) := by
  refine Tri.post ?_
  refine (Tri.enter (rl := r30) (code := c30) (by kernel_rfl) Try.func30 rfl c30_ok (by kernel_rfl) (by kernel_rfl) ?_)
  refine run_ok 4000 _ _ _ _ ?_
  simp (maxSteps := 10000000) only [go_sem, c30, r30]
  refine sem_call rfl rfl (((of_nil 17).embed [] rfl trivial rfl rfl rfl (by simp)).mono ?_)
  rintro _ _ ⟨_, _, ⟨rfl, rfl⟩, rfl, rfl⟩
  refine run_ok 4000 _ _ _ _ ?_
  simp (maxSteps := 10000000) only [go_sem]
  refine sem_call rfl rfl (((of_nil 16).embed [] rfl trivial rfl rfl rfl (by simp)).mono ?_)
  rintro _ _ ⟨_, _, ⟨rfl, rfl⟩, rfl, rfl⟩
  refine run_ok 4000 _ _ _ _ ?_
  simp (maxSteps := 10000000) only [go_sem]
  refine sem_call rfl rfl (((make_spec a a ret2 true (by simp [ret2])).embed [] rfl trivial rfl rfl rfl (by simp)).mono ?_)
  rintro _ _ ⟨_, _, ⟨rfl, rfl⟩, rfl, rfl⟩
  refine run_ok 4000 _ _ _ _ ?_
  simp (maxSteps := 10000000) only [go_sem]
  refine ⟨_, _, .sub [] ?_ .done, rfl, rfl⟩
  simp only [EmbV, go_sem]
theorem of_push : Tri Try.prog 29 [.int .u8 1, .vsl 1 [[.int .i64 1]] true] [] (fun v m => v = .agg [.int .u8 1, .int .i64 1] ∧ m = []) := by
  have h := of_spec 1 [1] true
  have e : ofF 1 [1] = 1 := by decide
  rw [e] at h
  exact h
def pushesC (i : Nat) : List Ins := List.replicate i (1, 1)
def popsC (n i : Nat) : List Ins := List.replicate n (1, 1) ++ List.replicate i (2, 0)
theorem verifyPlain_spec (n : Int) (hn : (Lit.int .i64 n).wf = true) (q : Int) (hq : (Lit.int .i64 q).wf = true) :
    Tri Try.prog 7 [.int .i64 n, .int .i64 q] [] (fun v m => v = .bool true) := by
  obtain ⟨k, hk, hk2⟩ := and_i64 n (k := 255) (by decide)
  obtain ⟨j, hj, hj2⟩ := and_i64 q (k := 255) (by decide)
  have hk : ibits .and .i64 n 255 = (k : Int) := hk
  have hj : ibits .and .i64 q 255 = (j : Int) := hj
  have hk3 : (k : Int).tmod 80 = ((k % 80 : Nat) : Int) := by rw [Int.natCast_emod, Int.tmod_eq_emod_of_nonneg (by omega)]; rfl
  obtain ⟨N, hN, hN1, hN2⟩ : ∃ N : Nat, iwrap .i64 (1 + ((k % 80 : Nat) : Int)) = (N : Int) ∧ 1 ≤ N ∧ N ≤ 80 := ⟨k % 80 + 1, by rw [iwrap_i64_in (by omega)]; omega, by omega, by omega⟩
  have hN3 : iwrap .i64 ((N : Int) + 2) = ((N + 2 : Nat) : Int) := by rw [iwrap_i64_in (by omega)]; rfl
  have hN0 : ¬ ((N + 2 : Nat) : Int) = 0 := by omega
  have hj3 : (j : Int).tmod ((N + 2 : Nat) : Int) = ((j % (N + 2) : Nat) : Int) := by rw [Int.natCast_emod, Int.tmod_eq_emod_of_nonneg (by omega)]
  obtain ⟨M, hM, hM2⟩ : ∃ M : Nat, j % (N + 2) = M ∧ M < N + 2 := ⟨_, rfl, Nat.mod_lt _ (by omega)⟩
  have hM3 : iwrap .i64 (M : Int) = (M : Int) := iwrap_i64_in (by omega)
  rw [hM] at hj3
  have hk4 : iwrap .i64 ((k % 80 : Nat) : Int) = ((k % 80 : Nat) : Int) := iwrap_i64_in (by omega)
  skip
  refine (Tri.asB (Tri.enter (rl := r7) (code := c7) (by kernel_rfl) Try.func7 rfl c7_ok (by kernel_rfl) (by kernel_rfl) ?_))
  refine run_ok 4000 _ _ _ _ ?_
  simp (maxSteps := 10000000) only [go_sem, c7, r7, hk, hj, hk3, hN, hN3, hN0, hj3, hM3, hk4]
  refine sem_call rfl rfl (((awake04_spec).embed [] rfl trivial rfl rfl rfl (by simp)).mono ?_)
  rintro _ _ ⟨_, _, ⟨rfl, rfl⟩, rfl, rfl⟩
  refine run_ok 4000 _ _ _ _ ?_
  simp (maxSteps := 10000000) only [go_sem, hk, hj, hk3, hN, hN3, hN0, hj3, hM3, hk4]
  refine sem_virt 5 2 rfl ?_
  refine sem_rounds (fun i : Nat => i ≤ N) (fun i => [(0, .int .i64 N), (1, .int .i64 M), (5, .sl 0 0 i i false), (21, .int .i64 N), (22, .int .i64 (i : Nat))])
    (fun i => [.row 2 (irows (pushesC i))]) (fun i => N - i) 0 [0] (Nat.zero_le _) ?_ ?_
  · simp only [Emb, go_sem]
    rfl
  intro i hi
  skip
  refine run_ok 4000 _ _ _ _ ?_
  simp (maxSteps := 10000000) only [go_sem]
  refine ⟨fun hlt => ?_, fun hge => ?_⟩
  · have hlt : i < N := by omega
    have hone : [[AV.int .u8 1, AV.int .i64 1]] = irows [((1 : Int), (1 : Int))] := rfl
    have hall := irs_all (pushesC i)
    have hpl : (pushesC i).length = i := by simp [pushesC]
    rw [hpl] at hall
    have hnx : pushesC i ++ [((1 : Int), (1 : Int))] = pushesC (i + 1) := by simp [pushesC, List.replicate_succ']
    skip
    refine sem_call rfl rfl (((of_push).embed [] rfl trivial rfl rfl rfl (by simp)).mono ?_)
    rintro _ _ ⟨_, _, ⟨rfl, rfl⟩, rfl, rfl⟩
    refine run_ok 4000 _ _ _ _ ?_
    simp (maxSteps := 10000000) only [go_sem, hall, irows_len, hpl, inc64 (show i < 1000000000000 by omega)]
    rw [hone, irs_app, hnx]
    refine ⟨by unfold small; omega, i + 1, by omega, hlt, [1], ?_⟩
    simp only [Emb, go_sem]
  have hi : N = i := by omega
  subst hi
  skip
  refine run_ok 4000 _ _ _ _ ?_
  simp (maxSteps := 10000000) only [go_sem]
  refine sem_rounds (fun i : Nat => i ≤ M) (fun i => [(0, .int .i64 N), (1, .int .i64 M), (5, .sl 0 0 (N + i) (N + i) false), (30, .int .i64 M), (31, .int .i64 (i : Nat))])
    (fun i => [.row 2 (irows (popsC N i))]) (fun i => M - i) 0 [0] (Nat.zero_le _) ?_ ?_
  · have e0 : popsC N 0 = pushesC N := by simp [popsC, pushesC]
    simp only [Emb, go_sem, e0, Nat.add_zero]
  clear hge hi
  intro i hi
  skip
  refine run_ok 4000 _ _ _ _ ?_
  simp (maxSteps := 10000000) only [go_sem]
  refine ⟨fun hlt => ?_, fun hge => ?_⟩
  · have hlt : i < M := by omega
    have hone : [[AV.int .u8 2, AV.int .i64 0]] = irows [((2 : Int), (0 : Int))] := rfl
    have hall := irs_all (popsC N i)
    have hpl : (popsC N i).length = N + i := by simp [popsC]
    rw [hpl] at hall
    have hnx : popsC N i ++ [((2 : Int), (0 : Int))] = popsC N (i + 1) := by simp [popsC, List.replicate_succ']
    skip
    refine sem_call rfl rfl (((of_nil 2).embed [] rfl trivial rfl rfl rfl (by simp)).mono ?_)
    rintro _ _ ⟨_, _, ⟨rfl, rfl⟩, rfl, rfl⟩
    refine run_ok 4000 _ _ _ _ ?_
    simp (maxSteps := 10000000) only [go_sem, hall, irows_len, hpl, inc64 (show i < 1000000000000 by omega), Nat.le_refl]
    rw [hone, irs_app, hnx]
    refine ⟨by unfold small; omega, i + 1, by omega, hlt, [1], ?_⟩
    simp only [Emb, go_sem, Nat.add_assoc]
  have hi : M = i := by omega
  subst hi
  have hone : [[AV.int .u8 16, AV.int .i64 0]] = irows [((16 : Int), (0 : Int))] := rfl
  have hall := irs_all (popsC N M)
  have hpl : (popsC N M).length = N + M := by simp [popsC]
  rw [hpl] at hall
  have hnx : popsC N M ++ [((16 : Int), (0 : Int))] = plainC N M := by simp [popsC, plainC]
  have hcl := plainC_len N M
  have hal2 := irs_all (plainC N M)
  rw [hcl] at hal2
  skip
  refine run_ok 4000 _ _ _ _ ?_
  simp (maxSteps := 10000000) only [go_sem, hall, irows_len, hpl]
  skip
  refine sem_call rfl rfl (((of_nil 16).embed [] rfl trivial rfl rfl rfl (by simp)).mono ?_)
  rintro _ _ ⟨_, _, ⟨rfl, rfl⟩, rfl, rfl⟩
  refine run_ok 5 _ _ _ _ ?_
  simp (maxSteps := 10000000) only [go_sem, hall, irows_len, hpl]
  rw [hone, irs_app, hnx]
  refine ⟨by unfold small; omega, ?_⟩
  skip
  refine sem_freeze 1 rfl (by simp only [go_sem, irows_len, hcl, Nat.le_refl]) ?_
  by_cases h128 : ((N + M + 1 : Nat) : Int) > 128
  · skip
    refine run_ok 4000 _ _ _ _ ?_
    simp (maxSteps := 10000000) only [go_sem, hal2, h128]
  have hck := check_lit (plainI N M) (by
    intro f hf
    simp [plainI] at hf
    rcases hf with rfl | rfl | rfl
    · exact ret2_ok
    · exact ret2_ok
    · exact plainC_ok N M) (by simp [plainI])
  rw [plain_check N M hN1 (by omega)] at hck
  have hmk := make_spec 0 0 (plainC N M) false (by omega)
  have w1 : iwrap .i64 ((N : Int) - M) = (N : Int) - M := iwrap_i64_in (by omega)
  have hfr : frows (plainI N M) = [[.int .i64 1, .int .i64 1, .vsl 2 (irows ret2) false], [.int .i64 4, .int .i64 4, .vsl 2 (irows ret2) false], [.int .i64 0, .int .i64 0, .vsl 2 (irows (plainC N M)) false]] := rfl
  rw [hfr] at hck
  by_cases c1 : (N : Int) ≤ 64
  · by_cases c2 : (N : Int) - M = 1
    · rw [if_pos ⟨by omega, c2⟩] at hck
      have q2 : ((N : Int) - M == 1) = true := by simpa using c2
      skip
      refine run_ok 4000 _ _ _ _ ?_
      simp (maxSteps := 10000000) only [go_sem, hal2, h128, c1, q2, w1]
      refine sem_callv rfl rfl rfl (((plainF_spec 1).embed [] rfl (by repeat' first | exact trivial | rfl | (simp only [go_sem]; done) | constructor) rfl (by first | rfl | simp only [go_sem]) rfl (by simp)).mono ?_)
      rintro _ _ ⟨_, _, ⟨rfl, rfl⟩, rfl, rfl⟩
      refine run_ok 4000 _ _ _ _ ?_
      simp (maxSteps := 10000000) only [go_sem, hal2, h128, c1, q2, w1]
      refine sem_callv rfl rfl rfl (((plainF_spec 4).embed [] rfl (by repeat' first | exact trivial | rfl | (simp only [go_sem]; done) | constructor) rfl (by first | rfl | simp only [go_sem]) rfl (by simp)).mono ?_)
      rintro _ _ ⟨_, _, ⟨rfl, rfl⟩, rfl, rfl⟩
      refine run_ok 4000 _ _ _ _ ?_
      simp (maxSteps := 10000000) only [go_sem, hal2, h128, c1, q2, w1]
      refine sem_call rfl rfl (((hmk).embed [] rfl trivial rfl rfl rfl (by simp)).mono ?_)
      rintro _ _ ⟨_, _, ⟨rfl, rfl⟩, rfl, rfl⟩
      refine run_ok 4000 _ _ _ _ ?_
      simp (maxSteps := 10000000) only [go_sem, hal2, h128, c1, q2, w1]
      refine sem_call rfl rfl (((hck).embed [] rfl trivial rfl rfl rfl (by simp)).mono ?_)
      rintro _ _ ⟨_, _, ⟨rfl, rfl⟩, rfl, rfl⟩
      refine run_ok 4000 _ _ _ _ ?_
      simp (maxSteps := 10000000) only [go_sem, hal2, h128, c1, q2, w1]
    · rw [if_neg (fun h => c2 h.2)] at hck
      have q2 : ((N : Int) - M == 1) = false := by simpa using c2
      skip
      refine run_ok 4000 _ _ _ _ ?_
      simp (maxSteps := 10000000) only [go_sem, hal2, h128, c1, q2, w1]
      refine sem_callv rfl rfl rfl (((plainF_spec 1).embed [] rfl (by repeat' first | exact trivial | rfl | (simp only [go_sem]; done) | constructor) rfl (by first | rfl | simp only [go_sem]) rfl (by simp)).mono ?_)
      rintro _ _ ⟨_, _, ⟨rfl, rfl⟩, rfl, rfl⟩
      refine run_ok 4000 _ _ _ _ ?_
      simp (maxSteps := 10000000) only [go_sem, hal2, h128, c1, q2, w1]
      refine sem_callv rfl rfl rfl (((plainF_spec 4).embed [] rfl (by repeat' first | exact trivial | rfl | (simp only [go_sem]; done) | constructor) rfl (by first | rfl | simp only [go_sem]) rfl (by simp)).mono ?_)
      rintro _ _ ⟨_, _, ⟨rfl, rfl⟩, rfl, rfl⟩
      refine run_ok 4000 _ _ _ _ ?_
      simp (maxSteps := 10000000) only [go_sem, hal2, h128, c1, q2, w1]
      refine sem_call rfl rfl (((hmk).embed [] rfl trivial rfl rfl rfl (by simp)).mono ?_)
      rintro _ _ ⟨_, _, ⟨rfl, rfl⟩, rfl, rfl⟩
      refine run_ok 4000 _ _ _ _ ?_
      simp (maxSteps := 10000000) only [go_sem, hal2, h128, c1, q2, w1]
      refine sem_call rfl rfl (((hck).embed [] rfl trivial rfl rfl rfl (by simp)).mono ?_)
      rintro _ _ ⟨_, _, ⟨rfl, rfl⟩, rfl, rfl⟩
      refine run_ok 4000 _ _ _ _ ?_
      simp (maxSteps := 10000000) only [go_sem, hal2, h128, c1, q2, w1]
  · rw [if_neg (fun h => c1 (by omega))] at hck
    skip
    refine run_ok 4000 _ _ _ _ ?_
    simp (maxSteps := 10000000) only [go_sem, hal2, h128, c1, w1]
    refine sem_callv rfl rfl rfl (((plainF_spec 1).embed [] rfl (by repeat' first | exact trivial | rfl | (simp only [go_sem]; done) | constructor) rfl (by first | rfl | simp only [go_sem]) rfl (by simp)).mono ?_)
    rintro _ _ ⟨_, _, ⟨rfl, rfl⟩, rfl, rfl⟩
    refine run_ok 4000 _ _ _ _ ?_
    simp (maxSteps := 10000000) only [go_sem, hal2, h128, c1, w1]
    refine sem_callv rfl rfl rfl (((plainF_spec 4).embed [] rfl (by repeat' first | exact trivial | rfl | (simp only [go_sem]; done) | constructor) rfl (by first | rfl | simp only [go_sem]) rfl (by simp)).mono ?_)
    rintro _ _ ⟨_, _, ⟨rfl, rfl⟩, rfl, rfl⟩
    refine run_ok 4000 _ _ _ _ ?_
    simp (maxSteps := 10000000) only [go_sem, hal2, h128, c1, w1]
    refine sem_call rfl rfl (((hmk).embed [] rfl trivial rfl rfl rfl (by simp)).mono ?_)
    rintro _ _ ⟨_, _, ⟨rfl, rfl⟩, rfl, rfl⟩
    refine run_ok 4000 _ _ _ _ ?_
    simp (maxSteps := 10000000) only [go_sem, hal2, h128, c1, w1]
    refine sem_call rfl rfl (((hck).embed [] rfl trivial rfl rfl rfl (by simp)).mono ?_)
    rintro _ _ ⟨_, _, ⟨rfl, rfl⟩, rfl, rfl⟩
    refine run_ok 4000 _ _ _ _ ?_
    simp (maxSteps := 10000000) only [go_sem, hal2, h128, c1, w1]
end Go.AEX
