/- Pace: plans, as they grow. -/
import Derived.Test.YtcenagdeejbmgaaPaceMe
import Derived.Test.YtcenagdeejbmgaaAEzg
namespace Go.AEX
open Go Go.AE Go.Proofs
set_option maxRecDepth 100000
set_option linter.unusedVariables false
set_option linter.unusedSimpArgs false

theorem begin_own (t d : Int) (hg : goodP t d = true) : Tri Try.prog 29 [.agg [.int .i64 t, .int .i64 d]] []
    (fun v m => v = .tup [.pbox 0 0, .int .i64 0] ∧ m = [.box [.sl 1 0 1 1 false], .row 3 (frows [(0, t, d)])]) := by
  refine Tri.post ?_
  skip
  refine (Tri.enter (rl := r29) (code := c29) (by kernel_rfl) Try.func29 rfl c29_ok (by kernel_rfl) (by kernel_rfl) ?_)
  refine run_ok 4000 _ _ _ _ ?_
  simp (maxSteps := 10000000) only [go_sem, c29, r29, hg]
  skip
  refine sem_call rfl rfl (((check_spec t d).embed [] rfl trivial rfl rfl rfl (by simp)).mono ?_)
  rintro _ _ ⟨_, _, ⟨rfl, rfl⟩, rfl, rfl⟩
  refine run_ok 6 _ _ _ _ ?_
  simp (maxSteps := 10000000) only [go_sem, hg]
  skip
  refine sem_bslO rfl ?_
  simp (maxSteps := 10000000) only [go_sem, hg]
  refine run_ok 4000 _ _ _ _ ?_
  simp (maxSteps := 10000000) only [go_sem, hg]
  refine ⟨_, _, .sub [2, 1] ?_ .done, rfl, rfl⟩
  simp only [EmbV, go_sem, frows, frow]
def lastT (L : List (Int × Int × Int)) : Int := (L.getD (L.length - 1) (0, 0, 0)).1
theorem lastT_eq {L : List (Int × Int × Int)} (h : 0 < L.length) : L[L.length - 1].1 = lastT L := by
  unfold lastT; rw [List.getD_eq_getElem?_getD, List.getElem?_eq_getElem (by omega)]; rfl
theorem lastT_app (L : List (Int × Int × Int)) (x : Int × Int × Int) : lastT (L ++ [x]) = x.1 := by simp [lastT]
def chE (L : List (Int × Int × Int)) (turn t d : Int) : Int := if goodP t d = false then 4 else if turn ≤ lastT L then 11 else 0
def chL (L : List (Int × Int × Int)) (turn t d : Int) : List (Int × Int × Int) := if goodP t d = false then L else if turn ≤ lastT L then L else L ++ [(turn, t, d)]
theorem frow_one (x : Int × Int × Int) : [[AV.int .i64 x.1, AV.int .i64 x.2.1, AV.int .i64 x.2.2]] = frows [x] := rfl
theorem frows_app (a b : List (Int × Int × Int)) : frows a ++ frows b = frows (a ++ b) := by simp [frows]
theorem frows_mid (a b : List (Int × Int × Int)) : sub (frows (a ++ b)) a.length b.length = frows b := by
  simp only [sub, frows, List.map_append]
  rw [List.drop_left' (by simp), List.take_of_length_le (by simp)]
theorem frows_all (b : List (Int × Int × Int)) : sub (frows b) 0 b.length = frows b := by
  simp only [sub, List.drop_zero]
  exact List.take_of_length_le (by simp [frows])
theorem plast_spec (pre L : List (Int × Int × Int)) (h0 : 0 < L.length) (hL : L.length ≤ 1000000) : Tri Try.prog 35 [.pbox 0 0] (plan pre L) (fun v m => v = .int .i64 (lastT L) ∧ m = plan pre L) := by
  unfold plan
  refine Tri.post ?_
  have hw : iwrap .i64 ((L.length : Int) - 1) = ((L.length - 1 : Nat) : Int) := by rw [iwrap_i64_in (by omega)]; omega
  have hp : pre.length + (L.length - 1) < (pre ++ L).length := by simp; omega
  have hg : (pre ++ L)[pre.length + (L.length - 1)] = L[L.length - 1] := by simp
  have hin : ((L.length - 1 : Nat) : Int) < (L.length : Int) := by omega
  skip
  refine (Tri.enter (rl := r35) (code := c35) (by kernel_rfl) Try.func35 rfl c35_ok (by kernel_rfl) (by kernel_rfl) ?_)
  refine run_ok 4000 _ _ _ _ ?_
  simp (maxSteps := 10000000) only [go_sem, c35, r35, hw, hin, frows_h0 hp, frows_r0 hp, hg, Int.natCast_nonneg, lastT_eq h0]
  refine sem_drawG l35_0_ok (by kernel_rfl) ?_
  intro KK hKK
  simp (maxSteps := 10000000) only [go_sem, l35_0, hw, hin, frows_h0 hp, frows_r0 hp, hg, Int.natCast_nonneg, lastT_eq h0]
  subst hKK
  simp (maxSteps := 10000000) only [go_sem, hw, hin, frows_h0 hp, frows_r0 hp, hg, Int.natCast_nonneg, lastT_eq h0]
  refine ⟨_, _, .sub [0, 1] ?_ .done, rfl, rfl⟩
  simp only [EmbV, go_sem]
/-- A plan, when it has grown. -/
def plang (pre L : List (Int × Int × Int)) : Mem := [.box [.sl 2 pre.length L.length L.length false], .gone, .row 3 (frows (pre ++ L))]
theorem change_spec (pre L : List (Int × Int × Int)) (turn t d : Int) (h0 : 0 < L.length) (hL : L.length ≤ 1000000) : Tri Try.prog 31 [.pbox 0 0, .int .i64 turn, .agg [.int .i64 t, .int .i64 d]] (plan pre L)
    (fun v m => v = .int .i64 (chE L turn t d) ∧ ∃ pre', m = plang pre' (chL L turn t d)) := by
  have hla := plast_spec pre L h0 hL
  unfold plan plang at *
  refine Tri.post ?_
  cases hg : goodP t d
  · skip
    refine (Tri.enter (rl := r31) (code := c31) (by kernel_rfl) Try.func31 rfl c31_ok (by kernel_rfl) (by kernel_rfl) ?_)
    refine run_ok 4000 _ _ _ _ ?_
    simp (maxSteps := 10000000) only [go_sem, c31, r31, hg]
    refine sem_move 1 rfl ?_
    simp (maxSteps := 10000000) only [go_sem, hg]
    refine sem_call rfl rfl (((check_spec t d).embed [] rfl trivial rfl rfl rfl (by simp)).mono ?_)
    rintro _ _ ⟨_, _, ⟨rfl, rfl⟩, rfl, rfl⟩
    refine run_ok 4000 _ _ _ _ ?_
    simp (maxSteps := 10000000) only [go_sem, hg]
    refine ⟨_, _, .sub [0, 1, 3] ?_ .done, rfl, pre, rfl⟩
    simp only [EmbV, go_sem, chE, chL, hg]
  · skip
    refine (Tri.enter (rl := r31) (code := c31) (by kernel_rfl) Try.func31 rfl c31_ok (by kernel_rfl) (by kernel_rfl) ?_)
    refine run_ok 4000 _ _ _ _ ?_
    simp (maxSteps := 10000000) only [go_sem, c31, r31, hg]
    refine sem_move 1 rfl ?_
    simp (maxSteps := 10000000) only [go_sem, hg]
    refine sem_call rfl rfl (((check_spec t d).embed [] rfl trivial rfl rfl rfl (by simp)).mono ?_)
    rintro _ _ ⟨_, _, ⟨rfl, rfl⟩, rfl, rfl⟩
    refine run_ok 4000 _ _ _ _ ?_
    simp (maxSteps := 10000000) only [go_sem, hg]
    refine sem_call rfl rfl (((hla).embed [0, 3] rfl (by repeat' first | exact trivial | rfl | (simp only [go_sem]; done) | constructor) rfl (by first | rfl | simp only [go_sem]) rfl (by simp)).mono ?_)
    rintro _ _ ⟨_, _, ⟨rfl, rfl⟩, rfl, rfl⟩
    refine run_ok 4000 _ _ _ _ ?_
    simp (maxSteps := 10000000) only [go_sem, hg]
    refine ⟨fun h => ?_, fun h => ?_⟩
    · refine ⟨_, _, .sub [0, 1, 3] ?_ .done, rfl, pre, rfl⟩
      simp only [EmbV, go_sem, chE, chL, hg, if_pos h, Bool.true_eq_false]
    · skip
      refine sem_drawG l31_0_ok (by kernel_rfl) ?_
      intro KK hKK
      simp (maxSteps := 10000000) only [go_sem, l31_0, hg, frows_mid]
      subst hKK
      simp (maxSteps := 10000000) only [go_sem, hg, frows_mid]
      refine ⟨⟨by rw [frows_len]; simp, by unfold small; omega⟩, _, _, .sub [0, 1, 4] ?_ .done, rfl, [], rfl⟩
      have e : frows L ++ [[AV.int .i64 turn, AV.int .i64 t, AV.int .i64 d]] = frows (L ++ [(turn, t, d)]) := by simp [frows, frow]
      simp only [EmbV, go_sem, chE, chL, hg, if_neg h, Bool.true_eq_false, e, List.length_append]
def fgN (turn : Int) : List (Int × Int × Int) → Nat
  | [] => 0
  | x :: l => match l with
    | [] => 0
    | y :: r => if y.1 ≤ turn then fgN turn (y :: r) + 1 else 0
theorem fgN_step {turn : Int} {L : List (Int × Int × Int)} (h : 1 < L.length) : fgN turn L = if L[1].1 ≤ turn then fgN turn (L.drop 1) + 1 else 0 := by
  match L, h with
  | x :: y :: r, _ => rfl
theorem fgN_one {turn : Int} {L : List (Int × Int × Int)} (h : L.length ≤ 1) : fgN turn L = 0 := by
  match L, h with
  | [], _ => rfl
  | [x], _ => rfl
theorem fgN_lt {turn : Int} : ∀ {L : List (Int × Int × Int)}, 0 < L.length → fgN turn L < L.length
  | [x], _ => by simp [fgN]
  | x :: y :: r, _ => by
    have := fgN_lt (turn := turn) (L := y :: r) (by simp)
    simp only [fgN]
    split
    · simp only [List.length_cons] at *; omega
    · simp
/-- The first of those that are left holds already. -/
theorem fgN_first {turn : Int} : ∀ {L : List (Int × Int × Int)}, fgN turn L ≠ 0 → ∀ x, (L.drop (fgN turn L))[0]? = some x → x.1 ≤ turn
  | [], h, x, hx => absurd rfl h
  | [y], h, x, hx => absurd rfl h
  | y :: z :: r, h, x, hx => by
    simp only [fgN] at h hx
    split at hx
    · rename_i hz
      rw [List.drop_succ_cons] at hx
      by_cases h0 : fgN turn (z :: r) = 0
      · rw [h0] at hx; simp at hx; subst hx; exact hz
      · exact fgN_first h0 x hx
    · rename_i hz; rw [if_neg hz] at h; exact absurd rfl h
theorem forget_spec (pre L : List (Int × Int × Int)) (turn : Int) (h0 : 0 < L.length) (hL : L.length ≤ 1000000) : Tri Try.prog 33 [.pbox 0 0, .int .i64 turn] (plan pre L)
    (fun v m => v = .int .i64 (fgN turn L : Nat) ∧ ∃ pre', m = plan pre' (L.drop (fgN turn L))) := by
  unfold plan at *
  refine Tri.post ?_
  refine (Tri.enter (rl := r33) (code := c33) (by kernel_rfl) Try.func33 rfl c33_ok (by kernel_rfl) (by kernel_rfl) ?_)
  refine run_ok 4000 _ _ _ _ ?_
  simp (maxSteps := 10000000) only [go_sem, c33, r33]
  refine sem_rounds (fun x : Nat × List (Int × Int × Int) × List (Int × Int × Int) => x.1 + x.2.2.length ≤ L.length ∧ 0 < x.2.2.length ∧ fgN turn L = x.1 + fgN turn x.2.2 ∧ x.2.2 = L.drop x.1 ∧ x.2.1 ++ x.2.2 = pre ++ L)
    (fun x => [(0, .pbox 0 0), (1, .int .i64 turn), (5, .int .i64 (x.1 : Nat))])
    (fun x => [.box [.sl 1 x.2.1.length x.2.2.length x.2.2.length false], .row 3 (frows (pre ++ L))]) (fun x => x.2.2.length) (0, pre, L) [0, 1] ⟨by simp, h0, by simp, rfl, rfl⟩ ?_ ?_
  · simp only [Emb, go_sem]
  rintro ⟨k, p, M⟩ ⟨h1, h2, h3, h4, h5⟩
  simp only at h1 h2 h3 h4 h5
  rw [← h5]
  by_cases hM : 1 < M.length
  · have hM' : (M.length : Int) > 1 := by omega
    have hM1 : (1 : Int) < (M.length : Int) := by omega
    have hp : p.length + 1 < (p ++ M).length := by simp; omega
    have hg : (p ++ M)[p.length + 1] = M[1] := by simp
    have hst := fgN_step (turn := turn) hM
    skip
    refine run_ok 4000 _ _ _ _ ?_
    simp (maxSteps := 10000000) only [go_sem, hM', hM1, frows_h0 hp, frows_r0 hp, hg, inc64 (show k < 1000000000000 by omega)]
    refine ⟨fun hle => ?_, fun hle => ?_⟩
    · rw [if_pos hle] at hst
      have hd1 : p ++ M = (p ++ M.take 1) ++ M.drop 1 := by rw [List.append_assoc, List.take_append_drop]
      have q1 : (M.drop 1).length = M.length - 1 := List.length_drop
      have q2 : M.drop 1 = L.drop (k + 1) := by rw [h4, List.drop_drop]
      refine ⟨by omega, (k + 1, p ++ M.take 1, M.drop 1), ?_, ⟨?_, ?_, ?_, q2, ?_⟩, [0, 1], ?_⟩
      · show (M.drop 1).length < M.length; omega
      · show k + 1 + (M.drop 1).length ≤ L.length; omega
      · show 0 < (M.drop 1).length; omega
      · show fgN turn L = k + 1 + fgN turn (M.drop 1); omega
      · show p ++ M.take 1 ++ M.drop 1 = p ++ M; rw [← hd1]
      have e1 : (M.take 1).length = 1 := by simp; omega
      simp only [Emb, go_sem, List.length_append, List.length_drop, e1]
    · rw [if_neg hle] at hst
      have hk : fgN turn L = k := by omega
      skip
      refine run_ok 4000 _ _ _ _ ?_
      simp (maxSteps := 10000000) only [go_sem]
      refine ⟨_, _, .sub [0, 1] ?_ .done, rfl, p, rfl⟩
      simp only [EmbV, go_sem, hk, ← h4]
  · have hM' : ¬ (M.length : Int) > 1 := by omega
    have hk : fgN turn L = k := by have := fgN_one (turn := turn) (L := M) (by omega); omega
    skip
    refine run_ok 4000 _ _ _ _ ?_
    simp (maxSteps := 10000000) only [go_sem, hM']
    refine run_ok 4000 _ _ _ _ ?_
    simp (maxSteps := 10000000) only [go_sem, hM']
    refine ⟨_, _, .sub [0, 1] ?_ .done, rfl, p, rfl⟩
    simp only [EmbV, go_sem, hk, ← h4]
/-! the document's own -/
theorem rchange_spec (L : List (Int × Int × Int)) (turn t d : Int) (h0 : 0 < L.length) (hL : L.length ≤ 1000000) : Tri Try.prog 32 [.vsl 3 (frows L) false, .int .i64 turn, .agg [.int .i64 t, .int .i64 d]] []
    (fun v m => v = .tup [.vsl 3 (frows (chL L turn t d)) false, .int .i64 (chE L turn t d)] ∧ m = []) := by
  refine Tri.post ?_
  have hw : iwrap .i64 ((L.length : Int) - 1) = ((L.length - 1 : Nat) : Int) := by rw [iwrap_i64_in (by omega)]; omega
  have hp : L.length - 1 < L.length := by omega
  have hin : ((L.length - 1 : Nat) : Int) < (L.length : Int) := by omega
  cases hg : goodP t d
  · skip
    refine (Tri.enter (rl := r32) (code := c32) (by kernel_rfl) Try.func32 rfl c32_ok (by kernel_rfl) (by kernel_rfl) ?_)
    refine run_ok 4000 _ _ _ _ ?_
    simp (maxSteps := 10000000) only [go_sem, c32, r32, hg]
    refine sem_call rfl rfl (((good_spec t d).embed [] rfl trivial rfl rfl rfl (by simp)).mono ?_)
    rintro _ _ ⟨_, _, ⟨rfl, rfl⟩, rfl, rfl⟩
    refine run_ok 4000 _ _ _ _ ?_
    simp (maxSteps := 10000000) only [go_sem, hg]
    refine ⟨_, _, .sub [] ?_ .done, rfl, rfl⟩
    simp only [EmbV, go_sem, chE, chL, hg]
  · skip
    refine (Tri.enter (rl := r32) (code := c32) (by kernel_rfl) Try.func32 rfl c32_ok (by kernel_rfl) (by kernel_rfl) ?_)
    refine run_ok 4000 _ _ _ _ ?_
    simp (maxSteps := 10000000) only [go_sem, c32, r32, hg, frows_len, hw, hin, frows_h0 hp, frows_r0 hp, Int.natCast_nonneg, lastT_eq h0]
    refine sem_call rfl rfl (((good_spec t d).embed [] rfl trivial rfl rfl rfl (by simp)).mono ?_)
    rintro _ _ ⟨_, _, ⟨rfl, rfl⟩, rfl, rfl⟩
    refine run_ok 4000 _ _ _ _ ?_
    simp (maxSteps := 10000000) only [go_sem, hg, frows_len, hw, hin, frows_h0 hp, frows_r0 hp, Int.natCast_nonneg, lastT_eq h0]
    refine ⟨fun h => ?_, fun h => ?_⟩
    · refine ⟨_, _, .sub [] ?_ .done, rfl, rfl⟩
      simp only [EmbV, go_sem, chE, chL, hg, if_pos h, Bool.true_eq_false]
    · skip
      refine sem_drawG l32_0_ok (by kernel_rfl) ?_
      intro KK hKK
      simp (maxSteps := 10000000) only [go_sem, l32_0, hg, frows_len, frows_all]
      subst hKK
      simp (maxSteps := 10000000) only [go_sem, hg, frows_len, frows_all]
      have e : frows L ++ [[AV.int .i64 turn, AV.int .i64 t, AV.int .i64 d]] = frows (L ++ [(turn, t, d)]) := by simp [frows, frow]
      have e2 : sub (frows (L ++ [(turn, t, d)])) 0 (L.length + 1) = frows (L ++ [(turn, t, d)]) := by have := frows_all (L ++ [(turn, t, d)]); rwa [List.length_append] at this
      refine ⟨by unfold small; omega, by unfold small; omega, _, _, .fz 2 rfl (by simp [go_sem, e, frows_len]) (.sub [] ?_ .done), rfl, rfl⟩
      simp only [EmbV, go_sem, chE, chL, hg, if_neg h, Bool.true_eq_false, e, e2]
theorem atF_app (turn : Int) (x : Int × Int × Int) : ∀ (l : List (Int × Int × Int)) (p : Int × Int), atF turn p (l ++ [x]) = if x.1 ≤ turn then x.2 else atF turn p l
  | [], p => rfl
  | y :: l, p => atF_app turn x l _
theorem rat_spec (L : List (Int × Int × Int)) (turn : Int) (h0 : 0 < L.length) (hL : L.length ≤ 1000000) : Tri Try.prog 37 [.vsl 3 (frows L) false, .int .i64 turn] []
    (fun v m => v = .agg [.int .i64 (atF turn L[0].2 L).1, .int .i64 (atF turn L[0].2 L).2] ∧ m = []) := by
  refine Tri.post ?_
  have hw : iwrap .i64 ((L.length : Int) - 1) = ((L.length - 1 : Nat) : Int) := by rw [iwrap_i64_in (by omega)]; omega
  skip
  refine (Tri.enter (rl := r37) (code := c37) (by kernel_rfl) Try.func37 rfl c37_ok (by kernel_rfl) (by kernel_rfl) ?_)
  refine run_ok 4000 _ _ _ _ ?_
  simp (maxSteps := 10000000) only [go_sem, c37, r37, frows_len, hw]
  refine sem_rounds (fun i : Nat => i < L.length ∧ atF turn L[0].2 L = atF turn L[0].2 (L.take (i + 1)))
    (fun i => [(0, .vsl 3 (frows L) false), (1, .int .i64 turn), (4, .pbox 0 0), (5, .int .i64 (i : Nat))])
    (fun i => [.box [.int .i64 0, .int .i64 0]]) (fun i => i) (L.length - 1) [0] ⟨by omega, by rw [show L.length - 1 + 1 = L.length by omega, List.take_length]⟩ ?_ ?_
  · simp only [Emb, go_sem]
  rintro i ⟨h1, h2⟩
  by_cases hi : i = 0
  · subst hi
    have h3 : atF turn L[0].2 L = L[0].2 := by
      rw [h2, List.take_succ_eq_append_getElem h1, List.take_zero, List.nil_append]
      simp [atF]
    have hin : (0 : Int) < (L.length : Int) := by omega
    have hz : ¬ (0 : Int) > 0 := by omega
    skip
    refine run_ok 4000 _ _ _ _ ?_
    simp (maxSteps := 10000000) only [go_sem, frows_len, hin, hz, frows_h1 h0, frows_h2 h0, frows_r1 h0, frows_r2 h0]
    refine run_ok 4000 _ _ _ _ ?_
    simp (maxSteps := 10000000) only [go_sem, frows_len, hin, hz, frows_h1 h0, frows_h2 h0, frows_r1 h0, frows_r2 h0]
    refine ⟨_, _, .sub [] ?_ .done, rfl, rfl⟩
    simp only [EmbV, go_sem, h3]
  · have hi' : (i : Int) > 0 := by omega
    have hin : (i : Int) < (L.length : Int) := by omega
    rw [List.take_succ_eq_append_getElem h1, atF_app] at h2
    have hw1 : iwrap .i64 ((i : Int) - 1) = ((i - 1 : Nat) : Int) := by rw [iwrap_i64_in (by omega)]; omega
    skip
    refine run_ok 4000 _ _ _ _ ?_
    simp (maxSteps := 10000000) only [go_sem, frows_len, hi', hin, frows_h0 h1, frows_r0 h1, frows_h1 h1, frows_h2 h1, frows_r1 h1, frows_r2 h1, Int.natCast_nonneg, hw1]
    refine ⟨fun hle => ?_, fun hle => ?_⟩
    · rw [if_pos hle] at h2
      refine ⟨_, _, .sub [] ?_ .done, rfl, rfl⟩
      simp only [EmbV, go_sem, h2]
    · rw [if_neg hle] at h2
      refine ⟨i - 1, by omega, ⟨by omega, by rw [show i - 1 + 1 = i by omega]; exact h2⟩, [0], ?_⟩
      simp only [Emb, go_sem]
theorem rforget_spec (L : List (Int × Int × Int)) (turn : Int) (h0 : 0 < L.length) (hL : L.length ≤ 1000000) : Tri Try.prog 34 [.vsl 3 (frows L) false, .int .i64 turn] []
    (fun v m => v = .tup [.vsl 3 (frows (L.drop (fgN turn L))) false, .int .i64 (fgN turn L : Nat)] ∧ m = []) := by
  refine Tri.post ?_
  refine (Tri.enter (rl := r34) (code := c34) (by kernel_rfl) Try.func34 rfl c34_ok (by kernel_rfl) (by kernel_rfl) ?_)
  refine run_ok 4000 _ _ _ _ ?_
  simp (maxSteps := 10000000) only [go_sem, c34, r34]
  refine sem_rounds (fun n : Nat => n < L.length ∧ fgN turn L = n + fgN turn (L.drop n))
    (fun n => [(0, .vsl 3 (frows L) false), (1, .int .i64 turn), (6, .int .i64 (n : Nat))])
    (fun n => []) (fun n => L.length - n) 0 [] ⟨h0, by simp⟩ ?_ ?_
  · simp only [Emb, go_sem]
  rintro n ⟨h1, h2⟩
  have hinc := inc64 (show n < 1000000000000 by omega)
  by_cases hn : n + 1 < L.length
  · have hn' : ((n + 1 : Nat) : Int) < (L.length : Int) := by omega
    have hst := fgN_step (turn := turn) (L := L.drop n) (by rw [List.length_drop]; omega)
    have hg : (L.drop n)[1]'(by rw [List.length_drop]; omega) = L[n + 1] := by simp
    rw [hg, List.drop_drop] at hst
    skip
    refine run_ok 4000 _ _ _ _ ?_
    simp (maxSteps := 10000000) only [go_sem, frows_len, hinc, hn', frows_h0 hn, frows_r0 hn, Int.natCast_nonneg]
    refine ⟨fun hle => ?_, fun hle => ?_⟩
    · rw [if_pos hle] at hst
      refine ⟨n + 1, by omega, ⟨hn, by omega⟩, [], ?_⟩
      simp only [Emb, go_sem]
    · rw [if_neg hle] at hst
      have hk : fgN turn L = n := by omega
      skip
      refine run_ok 4000 _ _ _ _ ?_
      simp (maxSteps := 10000000) only [go_sem, frows_len, Int.natCast_nonneg]
      have hs : sub (frows L) n (L.length - n) = frows (L.drop n) := by
        simp only [sub, frows, ← List.map_drop]
        exact List.take_of_length_le (by simp)
      refine ⟨by omega, _, _, .sub [] ?_ .done, rfl, rfl⟩
      simp only [EmbV, go_sem, hk, hs]
  · have hn' : ¬ ((n + 1 : Nat) : Int) < (L.length : Int) := by omega
    have hk : fgN turn L = n := by have := fgN_one (turn := turn) (L := L.drop n) (by rw [List.length_drop]; omega); omega
    skip
    refine run_ok 4000 _ _ _ _ ?_
    simp (maxSteps := 10000000) only [go_sem, frows_len, hinc, hn', Int.natCast_nonneg]
    refine run_ok 4000 _ _ _ _ ?_
    simp (maxSteps := 10000000) only [go_sem, frows_len, hinc, hn', Int.natCast_nonneg]
    have hs : sub (frows L) n (L.length - n) = frows (L.drop n) := by
      simp only [sub, frows, ← List.map_drop]
      exact List.take_of_length_le (by simp)
    refine ⟨by omega, _, _, .sub [] ?_ .done, rfl, rfl⟩
    simp only [EmbV, go_sem, hk, hs]
end Go.AEX
