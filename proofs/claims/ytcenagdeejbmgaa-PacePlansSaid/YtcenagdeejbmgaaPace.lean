/- Pace: contracts. -/
import Derived.Test.YtcenagdeejbmgaaCom
import Derived.Test.YtcenagdeejbmgaaCC
import Derived.Test.YtcenagdeejbmgaaAEzf
import Derived.KernelRfl
namespace Go.AEX
open Go Go.AE Go.Proofs
set_option maxRecDepth 100000
set_option linter.unusedVariables false
set_option linter.unusedSimpArgs false

def goodP (t d : Int) : Bool := decide (1 ≤ t ∧ t ≤ 64 ∧ 1 ≤ d ∧ d ≤ 6)
theorem check_spec (t d : Int) : Tri Try.prog 28 [.agg [.int .i64 t, .int .i64 d]] [] (fun v m => v = .int .i64 (if goodP t d then 0 else 4) ∧ m = []) := by
  refine Tri.post ?_
  refine (Tri.enter (rl := r28) (code := c28) (by kernel_rfl) Try.func28 rfl c28_ok (by kernel_rfl) (by kernel_rfl) ?_)
  refine run_ok 4000 _ _ _ _ ?_
  simp (maxSteps := 10000000) only [go_sem, c28, r28]
  refine ⟨fun h1 => ?_, fun h1 => ⟨fun h2 => ?_, fun h2 => ⟨fun h3 => ?_, fun h3 => ⟨fun h4 => ?_, fun h4 => ?_⟩⟩⟩⟩
  · have g : goodP t d = false := by simp [goodP]; omega
    refine ⟨_, _, .sub [] ?_ .done, rfl, rfl⟩
    simp [EmbV, go_sem, g]
  · have g : goodP t d = false := by simp [goodP]; omega
    refine ⟨_, _, .sub [] ?_ .done, rfl, rfl⟩
    simp [EmbV, go_sem, g]
  · have g : goodP t d = false := by simp [goodP]; omega
    refine ⟨_, _, .sub [] ?_ .done, rfl, rfl⟩
    simp [EmbV, go_sem, g]
  · have g : goodP t d = false := by simp [goodP]; omega
    refine ⟨_, _, .sub [] ?_ .done, rfl, rfl⟩
    simp [EmbV, go_sem, g]
  · have g : goodP t d = true := by simp [goodP]; omega
    refine ⟨_, _, .sub [] ?_ .done, rfl, rfl⟩
    simp [EmbV, go_sem, g]
theorem good_spec (t d : Int) : Tri Try.prog 30 [.agg [.int .i64 t, .int .i64 d]] [] (fun v m => v = .bsym (goodP t d) ∧ m = []) := by
  refine Tri.post ?_
  refine (Tri.asS (Tri.enter (rl := r30) (code := c30) (by kernel_rfl) Try.func30 rfl c30_ok (by kernel_rfl) (by kernel_rfl) ?_))
  refine run_ok 4000 _ _ _ _ ?_
  simp (maxSteps := 10000000) only [go_sem, c30, r30]
  refine ⟨fun h1 => ⟨fun h2 => ⟨fun h3 => ?_, fun h3 => ?_⟩, fun h2 => ?_⟩, fun h1 => ?_⟩
  · have g : goodP t d = decide (d ≤ 6) := decide_eq_decide.2 (by omega)
    refine ⟨_, _, .sub [] ?_ .done, rfl, rfl⟩
    simp [EmbV, go_sem, g]
  · have g : goodP t d = false := by simp [goodP]; omega
    refine ⟨_, _, .sub [] ?_ .done, rfl, rfl⟩
    simp [EmbV, go_sem, g]
  · have g : goodP t d = false := by simp [goodP]; omega
    refine ⟨_, _, .sub [] ?_ .done, rfl, rfl⟩
    simp [EmbV, go_sem, g]
  · have g : goodP t d = false := by simp [goodP]; omega
    refine ⟨_, _, .sub [] ?_ .done, rfl, rfl⟩
    simp [EmbV, go_sem, g]
/-- The samples that are looked at: the row's last ones. -/
def mtr (pre T : List Int) : Mem := [.box [.sl 1 pre.length T.length T.length false], .row 1 (iv .i64 (pre ++ T))]
/-- The same, when there were more. -/
def mtg (pre T : List Int) : Mem := [.box [.sl 2 pre.length T.length T.length false], .gone, .row 1 (iv .i64 (pre ++ T))]
def add1 (T : List Int) (x : Int) : List Int := if T.length + 1 > 8 then (T ++ [max x 0]).drop 1 else T ++ [max x 0]
def addT (T : List Int) : List Int → List Int
  | [] => T
  | x :: l => addT (add1 T x) l
theorem iv_mid (pre T : List Int) : sub (iv .i64 (pre ++ T)) pre.length T.length = iv .i64 T := by rw [iv_sub]; simp
theorem mlen_spec (pre T : List Int) : Tri Try.prog 27 [.pbox 0 0] (mtr pre T) (fun v m => v = .int .i64 T.length ∧ m = mtr pre T) := by
  unfold mtr
  refine Tri.post ?_
  refine (Tri.enter (rl := r27) (code := c27) (by kernel_rfl) Try.func27 rfl c27_ok (by kernel_rfl) (by kernel_rfl) ?_)
  refine run_ok 4000 _ _ _ _ ?_
  simp (maxSteps := 10000000) only [go_sem, c27, r27]
  exact ⟨_, _, .sub [0, 1] (by simp only [EmbV, go_sem]) .done, rfl, rfl⟩
theorem mx0 (x : Int) : (if 0 > x then (0 : Int) else x) = max x 0 := by omega
theorem iv_one (x : Int) : [[AV.int .i64 x]] = iv .i64 [x] := rfl
theorem iv_app (a b : List Int) : iv .i64 a ++ iv .i64 b = iv .i64 (a ++ b) := by simp [iv]
theorem add_spec (pre T l : List Int) (tight : Bool) (hT : T.length ≤ 8) (hl : l.length ≤ 9223372036854775807) : Tri Try.prog 20 [.pbox 0 0, .vsl 1 (iv .i64 l) tight] (mtr pre T)
    (fun v m => v = .tup [] ∧ ∃ pre', m = mtg pre' (addT T l)) := by
  unfold mtr mtg
  refine Tri.post ?_
  refine (Tri.enter (rl := r20) (code := c20) (by kernel_rfl) Try.func20 rfl c20_ok (by kernel_rfl) (by kernel_rfl) ?_)
  refine run_ok 4000 _ _ _ _ ?_
  simp (maxSteps := 10000000) only [go_sem, c20, r20]
  refine sem_move 1 rfl ?_
  simp (maxSteps := 10000000) only [go_sem]
  refine sem_rounds (fun x : Nat × List Int × List Int => x.1 ≤ l.length ∧ x.2.2.length ≤ 8 ∧ addT T l = addT x.2.2 (l.drop x.1))
    (fun x => [(0, .pbox 0 0), (6, .vsl 1 (iv .i64 l) tight), (7, .int .i64 l.length), (8, .int .i64 (x.1 : Nat))])
    (fun x => [.box [.sl 2 x.2.1.length x.2.2.length x.2.2.length false], .gone, .row 1 (iv .i64 (x.2.1 ++ x.2.2))]) (fun x => l.length - x.1) (0, pre, T) [0, 1, 2] ⟨Nat.zero_le _, hT, by simp⟩ ?_ ?_
  · simp only [Emb, go_sem, iv_len]
  rintro ⟨i, p, U⟩ ⟨h1, h2, h3⟩
  simp only at h1 h2 h3
  refine run_ok 4000 _ _ _ _ ?_
  simp (maxSteps := 10000000) only [go_sem]
  refine ⟨fun hlt => ?_, fun hge => ?_⟩
  · have hlt : i < l.length := by omega
    have hd : l.drop i = l[i] :: l.drop (i + 1) := List.drop_eq_getElem_cons hlt
    rw [hd, addT] at h3
    have hin : (i : Int) < (l.length : Int) := by omega
    have hinc : iwrap .i64 ((i : Int) + 1) = ((i + 1 : Nat) : Int) := by rw [iwrap_i64_in (by omega)]; rfl
    skip
    simp (maxSteps := 10000000) only [go_sem, iv_len, iv_rint hlt, iv_hasI hlt, hin, Int.natCast_nonneg, hinc, mx0, iv_mid, iv_one, iv_app]
    refine ⟨⟨by simp, by unfold small; omega⟩, fun h8 => ⟨by omega, (i + 1, (U ++ [max l[i] 0]).take 1, (U ++ [max l[i] 0]).drop 1), by simp only; omega, ⟨by simp only; omega, by simp; omega, ?_⟩, [0, 1, 3], ?_⟩, fun h8 => ⟨(i + 1, [], U ++ [max l[i] 0]), by simp only; omega, ⟨by simp only; omega, by simp; omega, ?_⟩, [0, 1, 3], ?_⟩⟩
    · simp only; rw [h3]; unfold add1; rw [if_pos (by omega)]
    · have e1 : ((U ++ [max l[i] 0]).take 1).length = 1 := by simp
      have e2 : ((U ++ [max l[i] 0]).drop 1).length = U.length + 1 - 1 := by simp
      simp only [Emb, go_sem, e1, e2, List.take_append_drop]
    · simp only; rw [h3]; unfold add1; rw [if_neg (by omega)]
    · simp [Emb, go_sem]
  · have hi : l.drop i = [] := List.drop_eq_nil_of_le (by omega)
    rw [hi] at h3
    simp only [addT] at h3
    skip
    refine run_ok 4000 _ _ _ _ ?_
    simp (maxSteps := 10000000) only [go_sem]
    refine ⟨_, _, .sub [0, 1, 2] ?_ .done, rfl, p, rfl⟩
    simp only [EmbV, go_sem, h3]
def wst (w : Int) : List Int → Int
  | [] => w
  | x :: l => wst (if x > w then x else w) l
def sm (s : Int) : List Int → Int
  | [] => s
  | x :: l => sm (s + (if 1048576 < x then 1048576 else x)) l
theorem sm_pos : ∀ (T : List Int) (s : Int), 0 ≤ s → (∀ x ∈ T, 0 ≤ x) → 0 ≤ sm s T
  | [], s, h, _ => h
  | x :: l, s, h, hx => sm_pos l _ (by have := hx x (by simp); split <;> omega) fun y hy => hx y (by simp [hy])
theorem wst_pos : ∀ (T : List Int) (w : Int), 0 ≤ w → 0 ≤ wst w T
  | [], w, h => h
  | x :: l, w, h => wst_pos l _ (by split <;> omega)
theorem worst_spec (pre T : List Int) (hT : T.length ≤ 1000) : Tri Try.prog 23 [.pbox 0 0] (mtr pre T) (fun v m => v = .int .i64 (wst 0 T) ∧ m = mtr pre T) := by
  unfold mtr
  refine Tri.post ?_
  refine (Tri.enter (rl := r23) (code := c23) (by kernel_rfl) Try.func23 rfl c23_ok (by kernel_rfl) (by kernel_rfl) ?_)
  refine run_ok 4000 _ _ _ _ ?_
  simp (maxSteps := 10000000) only [go_sem, c23, r23]
  refine sem_rounds (fun x : Nat × Int => x.1 ≤ T.length ∧ wst 0 T = wst x.2 (T.drop x.1))
    (fun x => [(3, .int .i64 x.2), (9, .sl 1 pre.length T.length T.length false), (10, .int .i64 T.length), (11, .int .i64 (x.1 : Nat))])
    (fun x => [.box [.sl 1 pre.length T.length T.length false], .row 1 (iv .i64 (pre ++ T))]) (fun x => T.length - x.1) (0, 0) [0, 1] ⟨Nat.zero_le _, by simp⟩ ?_ ?_
  · simp only [Emb, go_sem]
  rintro ⟨i, w⟩ ⟨h1, h2⟩
  simp only at h1 h2
  refine run_ok 4000 _ _ _ _ ?_
  simp (maxSteps := 10000000) only [go_sem]
  refine ⟨fun hlt => ?_, fun hge => ?_⟩
  · have hlt : i < T.length := by omega
    have hd : T.drop i = T[i] :: T.drop (i + 1) := List.drop_eq_getElem_cons hlt
    rw [hd, wst] at h2
    have hin : (i : Int) < (T.length : Int) := by omega
    have hp : pre.length + i < (pre ++ T).length := by simp; omega
    have hg : (pre ++ T)[pre.length + i] = T[i] := by simp
    skip
    simp (maxSteps := 10000000) only [go_sem, iv_len, iv_rint hp, iv_hasI hp, hg, hin, Int.natCast_nonneg, inc64 (show i < 1000000000000 by omega)]
    refine ⟨(i + 1, if T[i] > w then T[i] else w), by simp only; omega, ⟨hlt, h2⟩, [0, 1], ?_⟩
    simp only [Emb, go_sem]
  · have hi : T.drop i = [] := List.drop_eq_nil_of_le (by omega)
    rw [hi] at h2
    simp only [wst] at h2
    skip
    refine run_ok 4000 _ _ _ _ ?_
    simp (maxSteps := 10000000) only [go_sem]
    refine ⟨_, _, .sub [0, 1] ?_ .done, rfl, rfl⟩
    simp only [EmbV, go_sem, h2]
def meanF (T : List Int) : Int := if T.length = 0 then 0 else sm 0 T / T.length
theorem tdiv_pos {a b : Int} (h : 0 ≤ a) : a.tdiv b = a / b := Int.tdiv_eq_ediv_of_nonneg h
theorem mean_spec (pre T : List Int) (hT : T.length ≤ 1000) (hp : ∀ x ∈ T, 0 ≤ x) : Tri Try.prog 25 [.pbox 0 0] (mtr pre T) (fun v m => v = .int .i64 (meanF T) ∧ m = mtr pre T) := by
  unfold mtr
  refine Tri.post ?_
  refine (Tri.enter (rl := r25) (code := c25) (by kernel_rfl) Try.func25 rfl c25_ok (by kernel_rfl) (by kernel_rfl) ?_)
  refine run_ok 4000 _ _ _ _ ?_
  simp (maxSteps := 10000000) only [go_sem, c25, r25]
  refine ⟨fun h0 => ?_, fun h0 => ?_⟩
  · have h0' : T.length = 0 := by have : (T.length : Int) = 0 := by simpa using h0
                                  omega
    refine ⟨_, _, .sub [0, 1] ?_ .done, rfl, rfl⟩
    simp only [EmbV, go_sem, meanF, h0', if_true]
  have h0 : T.length ≠ 0 := by have : ¬ (T.length : Int) = 0 := by simpa using h0
                               omega
  refine sem_rounds (fun x : Nat × Int => x.1 ≤ T.length ∧ sm 0 T = sm x.2 (T.drop x.1) ∧ 0 ≤ x.2 ∧ x.2 ≤ 1048576 * x.1)
    (fun x => [(0, .pbox 0 0), (3, .int .i64 x.2), (15, .sl 1 pre.length T.length T.length false), (16, .int .i64 T.length), (17, .int .i64 (x.1 : Nat))])
    (fun x => [.box [.sl 1 pre.length T.length T.length false], .row 1 (iv .i64 (pre ++ T))]) (fun x => T.length - x.1) (0, 0) [0, 1] ⟨Nat.zero_le _, by simp, by simp, by simp⟩ ?_ ?_
  · simp only [Emb, go_sem]
  rintro ⟨i, w⟩ ⟨h1, h2, h3, h4⟩
  simp only at h1 h2 h3 h4
  refine run_ok 4000 _ _ _ _ ?_
  simp (maxSteps := 10000000) only [go_sem]
  refine ⟨fun hlt => ?_, fun hge => ?_⟩
  · have hlt : i < T.length := by omega
    have hd : T.drop i = T[i] :: T.drop (i + 1) := List.drop_eq_getElem_cons hlt
    rw [hd, sm] at h2
    have hin : (i : Int) < (T.length : Int) := by omega
    have hp' : pre.length + i < (pre ++ T).length := by simp; omega
    have hg : (pre ++ T)[pre.length + i] = T[i] := by simp
    have hx := hp _ (List.getElem_mem hlt)
    have hw : iwrap .i64 (w + (if 1048576 < T[i] then 1048576 else T[i])) = w + (if 1048576 < T[i] then 1048576 else T[i]) := iwrap_i64_in (by split <;> omega)
    skip
    simp (maxSteps := 10000000) only [go_sem, iv_len, iv_rint hp', iv_hasI hp', hg, hin, hw, Int.natCast_nonneg, inc64 (show i < 1000000000000 by omega)]
    refine ⟨(i + 1, w + (if 1048576 < T[i] then 1048576 else T[i])), by simp only; omega, ⟨hlt, h2, by simp only; split <;> omega, by simp only; split <;> omega⟩, [0, 1], ?_⟩
    simp only [Emb, go_sem]
  · have hi : T.drop i = [] := List.drop_eq_nil_of_le (by omega)
    rw [hi] at h2
    simp only [sm] at h2
    have hw : iwrap .i64 (w.tdiv T.length) = meanF T := by
      rw [tdiv_pos h3, iwrap_i64_in, meanF, if_neg (by omega), h2]
      have : w / (T.length : Int) ≤ w := Int.ediv_le_self _ h3
      have : 0 ≤ w / (T.length : Int) := Int.ediv_nonneg h3 (by omega)
      omega
    have hne : (T.length : Int) ≠ 0 := by omega
    skip
    refine run_ok 4000 _ _ _ _ ?_
    simp (maxSteps := 10000000) only [go_sem, hw, hne]
    refine ⟨_, _, .sub [0, 1] ?_ .done, rfl, rfl⟩
    simp only [EmbV, go_sem]
end Go.AEX
