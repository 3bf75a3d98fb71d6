/- Pace: what comes next; the document's own answers. -/
import Derived.Test.YtcenagdeejbmgaaPace
namespace Go.AEX
open Go Go.AE Go.Proofs
set_option maxRecDepth 100000
set_option linter.unusedVariables false
set_option linter.unusedSimpArgs false

def capF (w : Int) : Int := if 1048576 < w then 1048576 else w
def nextF (T : List Int) (t d : Int) : Int × Int :=
  if T.length < 8 then (t, d) else
    let need := (capF (wst 0 T) + t - 1) / t
    if need > d ∧ d < 6 then (t, d + 1) else if need > d ∧ t < 64 then (t + 1, d) else if need < d ∧ d > 1 ∧ meanF T < t * (d - 1) then (t, d - 1) else (t, d)
theorem capF_pos {w : Int} (h : 0 ≤ w) : 0 ≤ capF w ∧ capF w ≤ 1048576 := by unfold capF; split <;> omega
theorem next_spec (pre T : List Int) (t d : Int) (hT : T.length ≤ 1000) (hp : ∀ x ∈ T, 0 ≤ x) (hg : goodP t d = true) :
    Tri Try.prog 21 [.pbox 0 0, .agg [.int .i64 t, .int .i64 d]] (mtr pre T) (fun v m => v = .agg [.int .i64 (nextF T t d).1, .int .i64 (nextF T t d).2] ∧ m = mtr pre T) := by
  have hg' : 1 ≤ t ∧ t ≤ 64 ∧ 1 ≤ d ∧ d ≤ 6 := by simpa [goodP] using hg
  have hm := mean_spec pre T hT hp
  have hwo := worst_spec pre T hT
  have hln := mlen_spec pre T
  unfold mtr at *
  refine Tri.post ?_
  refine (Tri.enter (rl := r21) (code := c21) (by kernel_rfl) Try.func21 rfl c21_ok (by kernel_rfl) (by kernel_rfl) ?_)
  refine run_ok 4000 _ _ _ _ ?_
  simp (maxSteps := 10000000) only [go_sem, c21, r21]
  refine sem_call rfl rfl (((hln).embed [0, 1] rfl (by repeat' first | exact trivial | rfl | (simp only [go_sem]; done) | constructor) rfl (by first | rfl | simp only [go_sem]) rfl (by simp)).mono ?_)
  rintro _ _ ⟨_, _, ⟨rfl, rfl⟩, rfl, rfl⟩
  refine run_ok 4000 _ _ _ _ ?_
  simp (maxSteps := 10000000) only [go_sem]
  refine ⟨fun h8 => ?_, fun h8 => ?_⟩
  · refine ⟨_, _, .sub [0, 1] ?_ .done, rfl, rfl⟩
    simp only [EmbV, go_sem, nextF, if_pos (show T.length < 8 by omega)]
  have hc := capF_pos (wst_pos T 0 (by omega))
  have hcf : (if 1048576 < wst 0 T then 1048576 else wst 0 T) = capF (wst 0 T) := rfl
  have w1 : iwrap .i64 (capF (wst 0 T) + t) = capF (wst 0 T) + t := iwrap_i64_in (by omega)
  have w2 : iwrap .i64 (capF (wst 0 T) + t - 1) = capF (wst 0 T) + t - 1 := iwrap_i64_in (by omega)
  have hq : iwrap .i64 ((capF (wst 0 T) + t - 1).tdiv t) = (capF (wst 0 T) + t - 1) / t := by
    rw [tdiv_pos (by omega), iwrap_i64_in]
    have : (capF (wst 0 T) + t - 1) / t ≤ (capF (wst 0 T) + t - 1) := Int.ediv_le_self _ (by omega)
    have : 0 ≤ (capF (wst 0 T) + t - 1) / t := Int.ediv_nonneg (by omega) (by omega)
    omega
  have ht0 : t ≠ 0 := by omega
  have w3 : iwrap .i64 (d + 1) = d + 1 := iwrap_i64_in (by omega)
  have w4 : iwrap .i64 (t + 1) = t + 1 := iwrap_i64_in (by omega)
  have w5 : iwrap .i64 (d - 1) = d - 1 := iwrap_i64_in (by omega)
  have hmul : 0 ≤ t * (d - 1) ∧ t * (d - 1) ≤ 64 * (d - 1) := ⟨Int.mul_nonneg (by omega) (by omega), Int.mul_le_mul_of_nonneg_right (by omega) (by omega)⟩
  have w6 : iwrap .i64 (t * (d - 1)) = t * (d - 1) := iwrap_i64_in (by omega)
  have hnx : nextF T t d = if (capF (wst 0 T) + t - 1) / t > d ∧ d < 6 then (t, d + 1) else if (capF (wst 0 T) + t - 1) / t > d ∧ t < 64 then (t + 1, d) else if (capF (wst 0 T) + t - 1) / t < d ∧ d > 1 ∧ meanF T < t * (d - 1) then (t, d - 1) else (t, d) := by
    unfold nextF; rw [if_neg (by omega)]
  generalize nextF T t d = N at *
  generalize (capF (wst 0 T) + t - 1) / t = need at *
  generalize capF (wst 0 T) = cw at *
  skip
  refine sem_drawG l21_0_ok (by kernel_rfl) ?_
  intro KK hKK
  simp (maxSteps := 10000000) only [go_sem, l21_0, hcf, w1, w2, w3, w4, w5, w6, hq, ht0]
  refine TriZ.of (((hwo).embed [0, 1] rfl (by repeat' first | exact trivial | rfl | (simp only [go_sem]; done) | constructor) rfl (by first | rfl | simp only [go_sem]) rfl (by simp)).mono ?_)
  rintro _ _ ⟨_, _, ⟨rfl, rfl⟩, rfl, rfl⟩
  simp (maxSteps := 10000000) only [go_sem, hcf, w1, w2, w3, w4, w5, w6, hq, ht0]
  subst hKK
  simp (maxSteps := 10000000) only [go_sem, hcf, w1, w2, w3, w4, w5, w6, hq, ht0]
  refine ⟨fun h1 => ⟨fun h2 => ?_, fun h2 => ⟨fun _ => ⟨fun h3 => ?_, fun h3 => ?_⟩, fun h => absurd h1 h⟩⟩, fun h1 => ⟨fun h => absurd h h1, fun _ => ?_⟩⟩
  · rw [if_pos ⟨h1, h2⟩] at hnx
    subst hnx
    refine ⟨_, _, .sub [0, 1] ?_ .done, rfl, rfl⟩
    simp only [EmbV, go_sem]
  · rw [if_neg (by omega), if_pos ⟨h1, h3⟩] at hnx
    subst hnx
    refine ⟨_, _, .sub [0, 1] ?_ .done, rfl, rfl⟩
    simp only [EmbV, go_sem]
  · rw [if_neg (by omega), if_neg (by omega), if_neg (by omega)] at hnx
    subst hnx
    refine sem_drawG l21_1_ok (by kernel_rfl) ?_
    intro KK hKK
    simp (maxSteps := 10000000) only [go_sem, l21_1, hcf, w1, w2, w3, w4, w5, w6, hq, ht0]
    refine ⟨fun h => absurd h (by omega), fun h => ?_⟩
    subst hKK
    simp (maxSteps := 10000000) only [go_sem, hcf, w1, w2, w3, w4, w5, w6, hq, ht0]
    refine ⟨_, _, .sub [0, 1] ?_ .done, rfl, rfl⟩
    simp only [EmbV, go_sem]
  · rw [if_neg (by omega), if_neg (by omega)] at hnx
    refine sem_drawG l21_1_ok (by kernel_rfl) ?_
    intro KK hKK
    simp (maxSteps := 10000000) only [go_sem, l21_1, hcf, w1, w2, w3, w4, w5, w6, hq, ht0]
    refine ⟨fun h2 => ⟨fun h3 => ?_, fun h3 => ?_⟩, fun h2 => ?_⟩
    · refine TriZ.of (((hm).embed [0, 1] rfl (by repeat' first | exact trivial | rfl | (simp only [go_sem]; done) | constructor) rfl (by first | rfl | simp only [go_sem]) rfl (by simp)).mono ?_)
      rintro _ _ ⟨_, _, ⟨rfl, rfl⟩, rfl, rfl⟩
      simp (maxSteps := 10000000) only [go_sem, hcf, w1, w2, w3, w4, w5, w6, hq, ht0]
      subst hKK
      simp (maxSteps := 10000000) only [go_sem, hcf, w1, w2, w3, w4, w5, w6, hq, ht0]
      refine ⟨fun h4 => ?_, fun h4 => ?_⟩
      · rw [if_pos ⟨h2, h3, h4⟩] at hnx
        subst hnx
        refine ⟨_, _, .sub [0, 1] ?_ .done, rfl, rfl⟩
        simp only [EmbV, go_sem]
      · rw [if_neg (by omega)] at hnx
        subst hnx
        refine ⟨_, _, .sub [0, 1] ?_ .done, rfl, rfl⟩
        simp only [EmbV, go_sem]
    · subst hKK
      simp (maxSteps := 10000000) only [go_sem, hcf, w1, w2, w3, w4, w5, w6, hq, ht0]
      rw [if_neg (by omega)] at hnx
      subst hnx
      refine ⟨_, _, .sub [0, 1] ?_ .done, rfl, rfl⟩
      simp only [EmbV, go_sem]
    · subst hKK
      simp (maxSteps := 10000000) only [go_sem, hcf, w1, w2, w3, w4, w5, w6, hq, ht0]
      rw [if_neg (by omega)] at hnx
      subst hnx
      refine ⟨_, _, .sub [0, 1] ?_ .done, rfl, rfl⟩
      simp only [EmbV, go_sem]
/-! the document's answers -/
def last8 (l : List Int) : List Int := l.drop (l.length - 8)
theorem last_spec (l : List Int) (hl : l.length ≤ 1000000) : Tri Try.prog 48 [.vsl 1 (iv .i64 l) false] [] (fun v m => v = .vsl 1 (iv .i64 (last8 l)) false ∧ m = []) := by
  have hw : iwrap .i64 ((l.length : Int) - 8) = (l.length : Int) - 8 := iwrap_i64_in (by omega)
  skip
  refine (Tri.enter (rl := r48) (code := c48) (by kernel_rfl) Try.func48 rfl c48_ok (by kernel_rfl) (by kernel_rfl) ?_)
  refine run_ok 4000 _ _ _ _ ?_
  simp (maxSteps := 10000000) only [go_sem, c48, r48, iv_len, hw]
  refine ⟨fun h => ⟨by omega, ?_⟩, fun h => ?_⟩
  · have e : ((l.length : Int) - 8).toNat = l.length - 8 := by omega
    rw [e, iv_sub, List.take_of_length_le (by simp)]
    rfl
  · have e : last8 l = l := by unfold last8; rw [show l.length - 8 = 0 by omega]; rfl
    rw [e]
theorem rworst_spec (l : List Int) (hl : l.length ≤ 1000000) : Tri Try.prog 24 [.vsl 1 (iv .i64 l) false] [] (fun v m => v = .int .i64 (wst 0 (last8 l)) ∧ m = []) := by
  refine Tri.post ?_
  refine (Tri.enter (rl := r24) (code := c24) (by kernel_rfl) Try.func24 rfl c24_ok (by kernel_rfl) (by kernel_rfl) ?_)
  refine run_ok 4000 _ _ _ _ ?_
  simp (maxSteps := 10000000) only [go_sem, c24, r24]
  refine sem_call rfl rfl (((last_spec l hl).embed [] rfl trivial rfl rfl rfl (by simp)).mono ?_)
  rintro _ _ ⟨_, _, ⟨rfl, rfl⟩, rfl, rfl⟩
  refine run_ok 4000 _ _ _ _ ?_
  simp (maxSteps := 10000000) only [go_sem]
  generalize hT : last8 l = T
  have hTl : T.length ≤ 1000000 := by rw [← hT]; unfold last8; simp; omega
  refine sem_rounds (fun x : Nat × Int => x.1 ≤ T.length ∧ wst 0 T = wst x.2 (T.drop x.1))
    (fun x => [(3, .int .i64 x.2), (7, .vsl 1 (iv .i64 T) false), (8, .int .i64 T.length), (9, .int .i64 (x.1 : Nat))])
    (fun x => []) (fun x => T.length - x.1) (0, 0) [] ⟨Nat.zero_le _, by simp⟩ ?_ ?_
  · simp only [Emb, go_sem, iv_len]
  rintro ⟨i, w⟩ ⟨h1, h2⟩
  simp only at h1 h2
  refine run_ok 4000 _ _ _ _ ?_
  simp (maxSteps := 10000000) only [go_sem]
  refine ⟨fun hlt => ?_, fun hge => ?_⟩
  · have hlt : i < T.length := by omega
    have hd : T.drop i = T[i] :: T.drop (i + 1) := List.drop_eq_getElem_cons hlt
    rw [hd, wst] at h2
    have hin : (i : Int) < (T.length : Int) := by omega
    skip
    simp (maxSteps := 10000000) only [go_sem, iv_len, iv_rint hlt, iv_hasI hlt, hin, Int.natCast_nonneg, inc64 (show i < 1000000000000 by omega)]
    refine ⟨(i + 1, if T[i] > w then T[i] else w), by simp only; omega, ⟨hlt, h2⟩, [], ?_⟩
    simp only [Emb, go_sem]
  · have hi : T.drop i = [] := List.drop_eq_nil_of_le (by omega)
    rw [hi] at h2
    simp only [wst] at h2
    skip
    refine run_ok 4000 _ _ _ _ ?_
    simp (maxSteps := 10000000) only [go_sem]
    refine ⟨_, _, .sub [] ?_ .done, rfl, rfl⟩
    simp only [EmbV, go_sem, h2]
theorem rmean_spec (l : List Int) (hl : l.length ≤ 1000000) (hp : ∀ x ∈ last8 l, 0 ≤ x) : Tri Try.prog 26 [.vsl 1 (iv .i64 l) false] [] (fun v m => v = .int .i64 (meanF (last8 l)) ∧ m = []) := by
  have hls := last_spec l hl
  refine Tri.post ?_
  refine (Tri.enter (rl := r26) (code := c26) (by kernel_rfl) Try.func26 rfl c26_ok (by kernel_rfl) (by kernel_rfl) ?_)
  refine run_ok 4000 _ _ _ _ ?_
  simp (maxSteps := 10000000) only [go_sem, c26, r26]
  refine sem_call rfl rfl (((hls).embed [] rfl trivial rfl rfl rfl (by simp)).mono ?_)
  rintro _ _ ⟨_, _, ⟨rfl, rfl⟩, rfl, rfl⟩
  refine run_ok 4000 _ _ _ _ ?_
  simp (maxSteps := 10000000) only [go_sem]
  have hTl : (last8 l).length ≤ 8 := by unfold last8; rw [List.length_drop]; omega
  have hT0 : l.length = 0 ↔ (last8 l).length = 0 := by unfold last8; rw [List.length_drop]; omega
  generalize last8 l = T at *
  refine sem_rounds (fun x : Nat × Int => x.1 ≤ T.length ∧ sm 0 T = sm x.2 (T.drop x.1) ∧ 0 ≤ x.2 ∧ x.2 ≤ 1048576 * x.1)
    (fun x => [(0, .vsl 1 (iv .i64 l) false), (3, .int .i64 x.2), (7, .vsl 1 (iv .i64 T) false), (8, .int .i64 T.length), (9, .int .i64 (x.1 : Nat))])
    (fun x => []) (fun x => T.length - x.1) (0, 0) [] ⟨Nat.zero_le _, by simp, by simp, by simp⟩ ?_ ?_
  · simp only [Emb, go_sem, iv_len]
  rintro ⟨i, w⟩ ⟨h1, h2, h3, h4⟩
  simp only at h1 h2 h3 h4
  refine run_ok 4000 _ _ _ _ ?_
  simp (maxSteps := 10000000) only [go_sem]
  refine ⟨fun hlt => ?_, fun hge => ?_⟩
  · have hlt : i < T.length := by omega
    have hd : T.drop i = T[i] :: T.drop (i + 1) := List.drop_eq_getElem_cons hlt
    rw [hd, sm] at h2
    have hin : (i : Int) < (T.length : Int) := by omega
    have hx := hp _ (List.getElem_mem hlt)
    have hw : iwrap .i64 (w + (if 1048576 < T[i] then 1048576 else T[i])) = w + (if 1048576 < T[i] then 1048576 else T[i]) := iwrap_i64_in (by split <;> omega)
    have hmx : (if 0 > (if 1048576 < T[i] then 1048576 else T[i]) then 0 else (if 1048576 < T[i] then 1048576 else T[i])) = (if 1048576 < T[i] then 1048576 else T[i]) := by split <;> split <;> omega
    skip
    simp (maxSteps := 10000000) only [go_sem, iv_len, iv_rint hlt, iv_hasI hlt, hin, hmx, hw, Int.natCast_nonneg, inc64 (show i < 1000000000000 by omega)]
    refine ⟨(i + 1, w + (if 1048576 < T[i] then 1048576 else T[i])), by simp only; omega, ⟨hlt, h2, by simp only; split <;> omega, by simp only; split <;> omega⟩, [], ?_⟩
    simp only [Emb, go_sem]
  · have hi : T.drop i = [] := List.drop_eq_nil_of_le (by omega)
    rw [hi] at h2
    simp only [sm] at h2
    skip
    refine run_ok 4000 _ _ _ _ ?_
    simp (maxSteps := 10000000) only [go_sem, iv_len]
    refine ⟨fun h0 => ?_, fun h0 => ?_⟩
    · have h0' : l.length = 0 := by have : (l.length : Int) = 0 := by simpa using h0
                                    omega
      have h0'' := hT0.1 h0'
      refine ⟨_, _, .sub [] ?_ .done, rfl, rfl⟩
      simp only [EmbV, go_sem, meanF, h0'', if_true]
    have h0' : l.length ≠ 0 := by have : ¬ (l.length : Int) = 0 := by simpa using h0
                                  omega
    have h0'' : T.length ≠ 0 := fun h => h0' (hT0.2 h)
    have hw : iwrap .i64 (w.tdiv T.length) = meanF T := by
      rw [tdiv_pos h3, iwrap_i64_in, meanF, if_neg (by omega), h2]
      have : w / (T.length : Int) ≤ w := Int.ediv_le_self _ h3
      have : 0 ≤ w / (T.length : Int) := Int.ediv_nonneg h3 (by omega)
      omega
    have hne : (T.length : Int) ≠ 0 := by omega
    skip
    refine sem_call rfl rfl (((hls).embed [] rfl trivial rfl rfl rfl (by simp)).mono ?_)
    rintro _ _ ⟨_, _, ⟨rfl, rfl⟩, rfl, rfl⟩
    refine run_ok 4000 _ _ _ _ ?_
    simp (maxSteps := 10000000) only [go_sem, iv_len, hw, hne]
    refine ⟨_, _, .sub [] ?_ .done, rfl, rfl⟩
    simp only [EmbV, go_sem]
end Go.AEX
