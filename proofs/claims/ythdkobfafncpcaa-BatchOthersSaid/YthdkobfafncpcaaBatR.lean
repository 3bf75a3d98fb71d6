/- BatQ, BatR in one. -/
import Derived.Test.YthdkobfafncpcaaBatN
import Derived.Test.YthdkobfafncpcaaVoteS
/- Batch: the players of a table to which nobody has given anything. -/
namespace Go.AEX
open Go Go.AE Go.Proofs
set_option maxRecDepth 100000
set_option linter.unusedVariables false
set_option linter.unusedSimpArgs false

/-! nobody has given anything -/
theorem pkeys_spec (es : List (AV × AV)) : Tri Try.prog 45 [.map 0] [.map es] (fun v m => v = .fn 58 [] [.pbox 1 0] ∧ m = [.map es, .box [.map 0]]) := by
  refine Tri.post ?_
  refine (Tri.enter (rl := r45) (code := c45) (by kernel_rfl) Try.func45 rfl c45_ok (by kernel_rfl) (by kernel_rfl) ?_)
  refine run_ok 4000 _ _ _ _ ?_
  simp (maxSteps := 10000000) only [go_sem, c45, r45]
  exact ⟨_, _, .done, rfl, rfl⟩
theorem psorted_spec : Tri Try.prog 44 [.fn 58 [] [.pbox 0 0]] [.box [.map 1], .map []]
    (fun v m => v = .sl 2 0 0 0 false ∧ m = [.box [.map 1], .map [], .row 1 []]) := by
  have h := tri_sorted (P := Try.prog) (es := []) (by kernel_rfl) TryL.says45 Try.underlying3 [] rfl (by simp) (by simp) (by simp)
  rw [show sortI [] = [] from List.mergeSort_of_pairwise (by simp)] at h
  exact h
theorem players0_spec (nx : Int) : Tri Try.prog 30 [.pbox 0 0] [.box [.int .i64 nx, .map 1], .map []] (fun v m => v = .vsl 1 [] false ∧ m = [.box [.int .i64 nx, .map 1], .map []]) := by
  refine Tri.post ?_
  have h1 := pkeys_spec []
  have h2 := psorted_spec
  refine (Tri.enter (rl := r30) (code := c30) (by kernel_rfl) Try.func30 rfl c30_ok (by kernel_rfl) (by kernel_rfl) ?_)
  refine run_ok 4000 _ _ _ _ ?_
  simp (maxSteps := 10000000) only [go_sem, c30, r30]
  refine sem_call rfl rfl (((h1).embed [1] rfl (by repeat' first | exact trivial | rfl | (simp only [go_sem]; done) | constructor) rfl (by first | rfl | simp only [go_sem]) rfl (by simp)).mono ?_)
  rintro _ _ ⟨_, _, ⟨rfl, rfl⟩, rfl, rfl⟩
  refine run_ok 4000 _ _ _ _ ?_
  simp (maxSteps := 10000000) only [go_sem]
  refine sem_call rfl rfl (((h2).embed [2, 1] rfl (by repeat' first | exact trivial | rfl | (simp only [go_sem]; done) | constructor) rfl (by first | rfl | simp only [go_sem]) rfl (by simp)).mono ?_)
  rintro _ _ ⟨_, _, ⟨rfl, rfl⟩, rfl, rfl⟩
  refine run_ok 4000 _ _ _ _ ?_
  simp (maxSteps := 10000000) only [go_sem]
  refine ⟨_, _, .fz 3 rfl (by simp [go_sem]) (.sub [0, 1] ?_ .done), rfl, rfl⟩
  simp only [EmbV, go_sem]
  try rfl
theorem playersT {nx : Int} {O : Outr} {F : List Inn} {g : Int → List (List Ord)} (h : TOk nx O F g) (hg : ∀ p, g p = []) : Tri Try.prog 30 [.pbox 0 0] (tM nx O F) (fun v m => v = .vsl 1 [] false ∧ m = tM nx O F) := by
  obtain rfl : O = [] := by
    cases O with
    | nil => rfl
    | cons e O => exact absurd (hg e.1) (h.ok e.1 e.2 (by simp)).2
  exact (players0_spec nx).front (fam F) rfl rfl (by simp) rfl rfl rfl
end Go.AEX

/- Batch: also what others gave goes (BatchOthers). -/
namespace Go.AEX
open Go Go.AE Go.Proofs
set_option maxRecDepth 100000
set_option linter.unusedVariables false
set_option linter.unusedSimpArgs false

def gN (N p i : Nat) : Int → List (List Ord) := fun q => if 0 ≤ q ∧ q < p then List.replicate N [] else if q = p then List.replicate i [] else []
theorem gN_at (N p i : Nat) : gN N p i p = List.replicate i [] := by simp [gN]
theorem gN_step (N p i : Nat) : upd (gN N p i) p (gN N p i p ++ [[]]) = gN N p (i + 1) := by
  funext q
  rw [gN_at]
  by_cases e : q = (p : Int)
  · subst e; simp [upd, gN, List.replicate_succ']
  · simp [upd, gN, e]
theorem gN_next (N p : Nat) : gN N p N = gN N (p + 1) 0 := by
  funext q
  unfold gN
  by_cases h1 : 0 ≤ q ∧ q < p
  · rw [if_pos h1, if_pos (by omega)]
  · rw [if_neg h1]
    by_cases h2 : q = p
    · rw [if_pos h2, if_pos (by omega)]
    · rw [if_neg h2, if_neg (by omega)]; split <;> simp
def gA (k : Nat) : Int → List (List Ord) := fun q => if 0 ≤ q ∧ q < 8 then List.replicate k [] else []
theorem gA_of (N : Nat) : gN N 8 0 = gA N := by
  funext q; unfold gN gA
  by_cases h1 : 0 ≤ q ∧ q < 8
  · rw [if_pos h1, if_pos (show 0 ≤ q ∧ q < ((8 : Nat) : Int) by omega)]
  · rw [if_neg h1, if_neg (show ¬ (0 ≤ q ∧ q < ((8 : Nat) : Int)) by omega)]
    by_cases h2 : q = ((8 : Nat) : Int)
    · rw [if_pos h2]; rfl
    · rw [if_neg h2]
theorem gA_tail (k : Nat) : (fun p => (gA (k + 1) p).tail) = gA k := by
  funext q; unfold gA; split <;> simp [List.replicate_succ]
theorem gA_at {k : Nat} {q : Int} (h : 0 ≤ q ∧ q < 8) : gA k q = List.replicate k [] := by simp [gA, h]
theorem others_core (n : Int) (l : List Int) : Tri Try.prog 7 [.int .i64 n, .vsl 1 (iv .i64 l) false] [] (fun v m => v = .bool true) := by
  obtain ⟨n', hn, hn8⟩ := and_i64 n (k := 7) (by decide)
  have hn : ibits .and .i64 n 7 = (n' : Int) := hn
  have w1 : iwrap .i64 (1 + (n' : Int)) = ((n' + 1 : Nat) : Int) := by rw [iwrap_i64_in (by omega)]; omega
  have hN : 1 ≤ n' + 1 ∧ n' + 1 ≤ 8 := by omega
  generalize n' + 1 = N at *
  refine Tri.post ?_
  skip
  refine (Tri.enter (rl := r7) (code := c7) (by kernel_rfl) Try.func7 rfl c7_ok (by kernel_rfl) (by kernel_rfl) ?_)
  refine run_ok 4000 _ _ _ _ ?_
  simp (maxSteps := 10000000) only [go_sem, c7, r7, hn, w1]
  refine sem_call rfl rfl (((awake16_spec).embed [] rfl trivial rfl rfl rfl (by simp)).mono ?_)
  rintro _ _ ⟨_, _, ⟨rfl, rfl⟩, rfl, rfl⟩
  refine run_ok 4000 _ _ _ _ ?_
  simp (maxSteps := 10000000) only [go_sem, hn, w1]
  refine sem_call rfl rfl ((tnew_spec 0).mono ?_)
  rintro _ _ ⟨rfl, rfl⟩
  refine run_ok 4000 _ _ _ _ ?_
  simp (maxSteps := 10000000) only [go_sem, hn, w1]
  refine sem_roundsJ (fun x : Nat × Outr × List Inn => x.1 ≤ 8 ∧ TOk 0 x.2.1 x.2.2 (gN N x.1 0))
    (fun x => [(0, .int .i64 N), (1, .vsl 1 (iv .i64 l) false), (5, .pbox 0 0), (19, .int .i64 (x.1 : Nat))])
    (fun x => tM 0 x.2.1 x.2.2) (fun x => 8 - x.1) (0, [], []) ?_ ?_ ?_ ⟨Nat.zero_le _, ?_⟩ ?_ ?_
  · intro x hx; exact tM_ids _ _ _ hx.2.okO _ (by rw [tM_len]; exact Nat.le_refl _)
  · intro x hx; rw [tM_len]; omega
  · intro x hx; simp [idsT, ids, fam_len]
  · have := TOk.new 0; rwa [show (fun _ => []) = gN N 0 0 by funext p; simp [gN]; intros; omega] at this
  · simp [go_sem]
  rintro ⟨p, O, F⟩ ⟨hp, hT⟩
  simp only at hp hT ⊢
  by_cases c : p < 8
  · have hin : (p : Int) < 8 := by omega
    have w3 := inc64 (show p < 1000000000000 by omega)
    skip
    refine run_ok 4000 _ _ _ _ ?_
    simp (maxSteps := 10000000) only [go_sem, hin]
    refine sem_roundsJ (fun x : Nat × Outr × List Inn => x.1 ≤ N ∧ TOk 0 x.2.1 x.2.2 (gN N p x.1))
      (fun x => [(0, .int .i64 N), (1, .vsl 1 (iv .i64 l) false), (5, .pbox 0 0), (6, .int .i64 p), (19, .int .i64 p), (22, .int .i64 N), (23, .int .i64 (x.1 : Nat))])
      (fun x => tM 0 x.2.1 x.2.2) (fun x => N - x.1) (0, O, F) ?_ ?_ ?_ ⟨Nat.zero_le _, hT⟩ ?_ ?_
    · intro x hx; exact tM_ids _ _ _ hx.2.okO _ (by rw [tM_len]; exact Nat.le_refl _)
    · intro x hx; rw [tM_len]; omega
    · intro x hx; simp [idsT, ids, fam_len]
    · simp [go_sem]
    clear hT
    rintro ⟨i, O, F⟩ ⟨hi, hT⟩
    simp only at hi hT ⊢
    by_cases ci : i < N
    · have hin2 : (i : Int) < (N : Int) := by omega
      have w4 := inc64 (show i < 1000000000000 by omega)
      have hl : ((gN N p i p).length : Int) = i := by rw [gN_at]; simp
      have hp := putN hT p i (by rw [hl]; omega) (by omega) (by omega) (by omega)
      rw [gN_step] at hp
      skip
      refine run_ok 4000 _ _ _ _ ?_
      simp (maxSteps := 10000000) only [go_sem, hin2, w4]
      refine sem_call rfl rfl ((hp).mono ?_)
      rintro _ _ ⟨rfl, O1, F1, h1, rfl⟩
      refine run_ok 4000 _ _ _ _ ?_
      simp (maxSteps := 10000000) only [go_sem, hin2, w4]
      exact ⟨(i + 1, O1, F1), by simp only; omega, ⟨by simp only; omega, h1⟩, rfl, [], by simp⟩
    · have hin2 : ¬ (i : Int) < (N : Int) := by omega
      obtain rfl : i = N := by omega
      rw [gN_next] at hT
      skip
      refine run_ok 4000 _ _ _ _ ?_
      simp (maxSteps := 10000000) only [go_sem, hin2, w3]
      refine run_ok 4000 _ _ _ _ ?_
      simp (maxSteps := 10000000) only [go_sem, hin2, w3]
      exact ⟨(p + 1, O, F), by simp only; omega, ⟨by simp only; omega, hT⟩, rfl, [], by simp⟩
  have hin : ¬ (p : Int) < 8 := by omega
  obtain rfl : p = 8 := by omega
  rw [gA_of] at hT
  skip
  refine run_ok 4000 _ _ _ _ ?_
  simp (maxSteps := 10000000) only [go_sem, hin]
  refine run_ok 4000 _ _ _ _ ?_
  simp (maxSteps := 10000000) only [go_sem, hin]
  refine sem_call rfl rfl (((rising_spec l false).embed [] rfl (by repeat' first | exact trivial | rfl | (simp only [go_sem]; done) | constructor) rfl (by first | rfl | simp only [go_sem]) rfl (by simp)).mono ?_)
  rintro _ _ ⟨_, _, ⟨R, hR, rfl, rfl⟩, rfl, rfl⟩
  refine run_ok 4000 _ _ _ _ ?_
  simp (maxSteps := 10000000) only [go_sem, hin]
  have hRl := hR.len
  refine sem_roundsJ (fun x : Nat × Outr × List Inn => x.1 ≤ N ∧ TOk x.1 x.2.1 x.2.2 (gA (N - x.1)))
    (fun x => [(0, .int .i64 N), (5, .pbox 0 0), (8, .vsl 1 (iv .i64 R) false), (35, .int .i64 N), (36, .int .i64 (x.1 : Nat))])
    (fun x => tM (x.1 : Nat) x.2.1 x.2.2) (fun x => N - x.1) (0, O, F) ?_ ?_ ?_ ⟨Nat.zero_le _, hT⟩ ?_ ?_
  · intro x hx; exact tM_ids _ _ _ hx.2.okO _ (by rw [tM_len]; exact Nat.le_refl _)
  · intro x hx; rw [tM_len]; omega
  · intro x hx; simp [idsT, ids, fam_len]
  · simp [go_sem]
  clear hT
  rintro ⟨i, O, F⟩ ⟨hi, hT⟩
  simp only at hi hT ⊢
  by_cases c : i < N
  · have hin : (i : Int) < (N : Int) := by omega
    have w3 := inc64 (show i < 1000000000000 by omega)
    obtain ⟨k, hk⟩ : ∃ k, N - i = k + 1 := ⟨N - i - 1, by omega⟩
    rw [hk] at hT
    have hty := takeYes hT R false (by omega) (by omega) (fun p hp => by rw [gA_at (hR.lt p hp)]; simp)
    rw [gA_tail] at hty
    have b1 : ((R.length : Int) != (R.length : Int)) = false := by simp
    have b2 : (((i + 1 : Nat) : Int) != ((i + 1 : Nat) : Int)) = false := by simp
    skip
    refine run_ok 4000 _ _ _ _ ?_
    simp (maxSteps := 10000000) only [go_sem, hin, w3, iv_len, pws_len, b1, b2]
    refine sem_call rfl rfl ((hty).mono ?_)
    rintro _ _ ⟨rfl, O1, F1, h1, rfl⟩
    refine run_ok 4000 _ _ _ _ ?_
    simp (maxSteps := 10000000) only [go_sem, hin, w3, iv_len, pws_len, b1, b2]
    have e1 : ((i : Int) + 1) = ((i + 1 : Nat) : Int) := by omega
    rw [e1] at h1 ⊢
    refine sem_call rfl rfl ((nextT ((i + 1 : Nat) : Int) O1 F1).mono ?_)
    rintro _ _ ⟨rfl, rfl⟩
    refine run_ok 4000 _ _ _ _ ?_
    simp (maxSteps := 10000000) only [go_sem, hin, w3, iv_len, pws_len, b1, b2]
    refine sem_rounds0 (m := tM ((i + 1 : Nat) : Int) O1 F1) (fun p : Nat => p ≤ 8)
      (fun p => [(0, .int .i64 N), (5, .pbox 0 0), (8, .vsl 1 (iv .i64 R) false), (9, .int .i64 i), (35, .int .i64 N), (36, .int .i64 i), (61, .int .i64 (p : Nat))])
      (fun p => 8 - p) 0 (tM_ids _ _ _ h1.okO _ (by rw [tM_len]; exact Nat.le_refl _)) (by rw [tM_len]; omega) (by intro p _; simp [idsT, ids, fam_len]) (Nat.zero_le _) ?_ ?_
    · simp [go_sem]
    intro p hp
    by_cases cp : p < 8
    · have hin2 : (p : Int) < 8 := by omega
      have w4 := inc64 (show p < 1000000000000 by omega)
      have hga : gA k (p : Int) = List.replicate k [] := gA_at (by omega)
      have hgv := givenT h1 p (by omega) (by rw [hga]; simp; omega)
      rw [hga, List.length_replicate, show (((i + 1 : Nat) : Int) + (k : Int)) = N by omega] at hgv
      have hhs := hasT h1 p
      rw [show hasB' (gA k) (p : Int) = decide (((i + 1 : Nat) : Int) < (N : Int)) by
        unfold hasB'; rw [hga]
        by_cases e : k = 0
        · have : ¬ (((i + 1 : Nat) : Int) < (N : Int)) := by omega
          rw [decide_eq_false this]; simp [e]
        · have : (((i + 1 : Nat) : Int) < (N : Int)) := by omega
          rw [decide_eq_true this]; simp [e]] at hhs
      have b3 : ((N : Int) != (N : Int)) = false := by simp
      have b4 : (decide (((i + 1 : Nat) : Int) < (N : Int)) != decide (((i + 1 : Nat) : Int) < (N : Int))) = false := by simp
      skip
      refine run_ok 4000 _ _ _ _ ?_
      simp (maxSteps := 10000000) only [go_sem, hin2, w4, w3, b3, b4, beq_self_eq_true, Bool.not_true]
      refine sem_call rfl rfl ((hgv).mono ?_)
      rintro _ _ ⟨rfl, rfl⟩
      refine run_ok 4000 _ _ _ _ ?_
      simp (maxSteps := 10000000) only [go_sem, hin2, w4, w3, b3, b4, beq_self_eq_true, Bool.not_true]
      refine sem_call rfl rfl ((hhs).mono ?_)
      rintro _ _ ⟨rfl, rfl⟩
      refine run_ok 4000 _ _ _ _ ?_
      simp (maxSteps := 10000000) only [go_sem, hin2, w4, w3, b3, b4, beq_self_eq_true, Bool.not_true]
      exact ⟨p + 1, by omega, cp, rfl, [], by simp⟩
    · have hin2 : ¬ (p : Int) < 8 := by omega
      skip
      refine run_ok 4000 _ _ _ _ ?_
      simp (maxSteps := 10000000) only [go_sem, hin2, w3]
      refine run_ok 4000 _ _ _ _ ?_
      simp (maxSteps := 10000000) only [go_sem, hin2, w3]
      refine ⟨(i + 1, O1, F1), by simp only; omega, ⟨by simp only; omega, ?_⟩, rfl, [], by simp⟩
      simp only
      rwa [show N - (i + 1) = k by omega]
  · have hin : ¬ (i : Int) < (N : Int) := by omega
    obtain rfl : i = N := by omega
    rw [Nat.sub_self] at hT
    have hg0 : ∀ p, gA 0 p = [] := fun p => by unfold gA; split <;> rfl
    have hpl := playersT hT hg0
    have hp := putN hT 3 i (by rw [hg0]; simp) (by omega) (by rw [hg0]; simp) (by omega)
    skip
    refine run_ok 4000 _ _ _ _ ?_
    simp (maxSteps := 10000000) only [go_sem, hin]
    refine run_ok 4000 _ _ _ _ ?_
    simp (maxSteps := 10000000) only [go_sem, hin]
    refine sem_call rfl rfl ((hpl).mono ?_)
    rintro _ _ ⟨rfl, rfl⟩
    refine run_ok 4000 _ _ _ _ ?_
    simp (maxSteps := 10000000) only [go_sem, hin]
    refine sem_call rfl rfl ((hp).mono ?_)
    rintro _ _ ⟨rfl, O1, F1, h1, rfl⟩
    refine run_ok 4000 _ _ _ _ ?_
    simp (maxSteps := 10000000) only [go_sem, hin]
    refine ⟨_, [], .like (Like.bool true) (.sub [] ?_ .done), rfl⟩
    simp only [EmbV, go_sem]
theorem batchOthers_spec (n : Int) (hn : (Lit.int .i64 n).wf = true) (l : List Int) (hl : ∀ x ∈ l, (Lit.int .i64 x).wf = true) : Tri Try.prog 7 [.int .i64 n, .vsl 1 (iv .i64 l) false] [] (fun v m => v = .bool true) :=
  others_core n l
end Go.AEX
