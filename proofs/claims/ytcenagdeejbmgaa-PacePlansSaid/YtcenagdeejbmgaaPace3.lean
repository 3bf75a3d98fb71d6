/- Pace: plans; what the laws begin with. -/
import Derived.Test.YtcenagdeejbmgaaPace2
namespace Go.AEX
open Go Go.AE Go.Proofs
set_option maxRecDepth 100000
set_option linter.unusedVariables false
set_option linter.unusedSimpArgs false

theorem rnext_spec (l : List Int) (t d : Int) (hl : l.length ≤ 1000000) (hp : ∀ x ∈ last8 l, 0 ≤ x) (hg : goodP t d = true) :
    Tri Try.prog 22 [.vsl 1 (iv .i64 l) false, .agg [.int .i64 t, .int .i64 d]] [] (fun v m => v = .agg [.int .i64 (nextF (last8 l) t d).1, .int .i64 (nextF (last8 l) t d).2] ∧ m = []) := by
  have hg' : 1 ≤ t ∧ t ≤ 64 ∧ 1 ≤ d ∧ d ≤ 6 := by simpa [goodP] using hg
  have hm := rmean_spec l hl hp
  have hwo := rworst_spec l hl
  have hlen : (last8 l).length < 8 ↔ l.length < 8 := by unfold last8; rw [List.length_drop]; omega
  refine Tri.post ?_
  skip
  refine (Tri.enter (rl := r22) (code := c22) (by kernel_rfl) Try.func22 rfl c22_ok (by kernel_rfl) (by kernel_rfl) ?_)
  refine run_ok 4000 _ _ _ _ ?_
  simp (maxSteps := 10000000) only [go_sem, c22, r22, iv_len]
  refine ⟨fun h8 => ?_, fun h8 => ?_⟩
  · refine ⟨_, _, .sub [] ?_ .done, rfl, rfl⟩
    simp only [EmbV, go_sem, nextF, if_pos (show (last8 l).length < 8 by omega)]
  have hc := capF_pos (wst_pos (last8 l) 0 (by omega))
  have hcf : (if 1048576 < wst 0 (last8 l) then 1048576 else wst 0 (last8 l)) = capF (wst 0 (last8 l)) := rfl
  have hnx : nextF (last8 l) t d = if (capF (wst 0 (last8 l)) + t - 1) / t > d ∧ d < 6 then (t, d + 1) else if (capF (wst 0 (last8 l)) + t - 1) / t > d ∧ t < 64 then (t + 1, d) else if (capF (wst 0 (last8 l)) + t - 1) / t < d ∧ d > 1 ∧ meanF (last8 l) < t * (d - 1) then (t, d - 1) else (t, d) := by
    unfold nextF; rw [if_neg (by omega)]
  generalize nextF (last8 l) t d = N at *
  generalize capF (wst 0 (last8 l)) = cw at *
  have hq : iwrap .i64 (cw.tdiv t) = cw / t := by
    rw [tdiv_pos (by omega), iwrap_i64_in]
    have : cw / t ≤ cw := Int.ediv_le_self _ (by omega)
    have : 0 ≤ cw / t := Int.ediv_nonneg (by omega) (by omega)
    omega
  have hq0 : 0 ≤ cw / t ∧ cw / t ≤ cw := ⟨Int.ediv_nonneg (by omega) (by omega), Int.ediv_le_self _ (by omega)⟩
  have hqm : cw / t * t ≤ cw ∧ 0 ≤ cw / t * t ∧ cw < cw / t * t + t := by
    have h1 := Int.mul_ediv_add_emod cw t
    have h2 := Int.emod_nonneg cw (show t ≠ 0 by omega)
    have h3 := Int.emod_lt_of_pos cw (show 0 < t by omega)
    have h4 : cw / t * t = t * (cw / t) := Int.mul_comm _ _
    have h5 : 0 ≤ t * (cw / t) := Int.mul_nonneg (by omega) hq0.1
    omega
  have hceil : (cw + t - 1) / t = if cw / t * t < cw then cw / t + 1 else cw / t := by
    split
    · have : cw + t - 1 = (cw - 1 - cw / t * t) + (cw / t + 1) * t := by rw [Int.add_mul]; omega
      rw [this, Int.add_mul_ediv_right _ _ (show t ≠ 0 by omega), Int.ediv_eq_zero_of_lt (by omega) (by omega)]
      omega
    · have : cw + t - 1 = (cw + t - 1 - cw / t * t) + (cw / t) * t := by omega
      rw [this, Int.add_mul_ediv_right _ _ (show t ≠ 0 by omega), Int.ediv_eq_zero_of_lt (by omega) (by omega)]
      omega
  have ht0 : t ≠ 0 := by omega
  have w0 : iwrap .i64 (cw / t * t) = cw / t * t := iwrap_i64_in (by omega)
  have w1 : iwrap .i64 (cw / t + 1) = cw / t + 1 := iwrap_i64_in (by omega)
  have w3 : iwrap .i64 (d + 1) = d + 1 := iwrap_i64_in (by omega)
  have w4 : iwrap .i64 (t + 1) = t + 1 := iwrap_i64_in (by omega)
  have w5 : iwrap .i64 (d - 1) = d - 1 := iwrap_i64_in (by omega)
  have hmul : 0 ≤ t * (d - 1) ∧ t * (d - 1) ≤ 64 * (d - 1) := ⟨Int.mul_nonneg (by omega) (by omega), Int.mul_le_mul_of_nonneg_right (by omega) (by omega)⟩
  have w6 : iwrap .i64 (t * (d - 1)) = t * (d - 1) := iwrap_i64_in (by omega)
  skip
  refine sem_call rfl rfl (((hwo).embed [] rfl trivial rfl rfl rfl (by simp)).mono ?_)
  rintro _ _ ⟨_, _, ⟨rfl, rfl⟩, rfl, rfl⟩
  refine run_ok 4000 _ _ _ _ ?_
  simp (maxSteps := 10000000) only [go_sem, hcf, w0, w1, w3, w4, w5, w6, hq, ht0]
  refine ⟨fun hlt => ?_, fun hlt => ?_⟩
  · rw [if_pos hlt] at hceil
    rw [hceil] at hnx
    generalize cw / t + 1 = need at *
    refine ⟨fun h1 => ⟨fun h2 => ?_, fun h2 => ?_⟩, fun h1 => ?_⟩
    · rw [if_pos ⟨h1, h2⟩] at hnx
      subst hnx
      refine ⟨_, _, .sub [] ?_ .done, rfl, rfl⟩
      simp only [EmbV, go_sem]
    · by_cases h3 : t < 64
      · rw [if_neg (by omega), if_pos ⟨h1, h3⟩] at hnx
        subst hnx
        rw [if_neg (by omega)]
        refine ⟨_, _, .sub [] ?_ .done, rfl, rfl⟩
        simp only [EmbV, go_sem]
      · rw [if_neg (by omega), if_neg (by omega), if_neg (by omega)] at hnx
        subst hnx
        rw [if_pos (by omega), show (64 : Int) = t by omega]
        refine ⟨_, _, .sub [] ?_ .done, rfl, rfl⟩
        simp only [EmbV, go_sem]
    · rw [if_neg (by omega), if_neg (by omega)] at hnx
      refine sem_drawG l22_0_ok (by kernel_rfl) ?_
      intro KK hKK
      simp (maxSteps := 10000000) only [go_sem, l22_0, hcf, w0, w1, w3, w4, w5, w6, hq, ht0]
      refine ⟨fun h2 => ⟨fun h3 => ?_, fun h3 => ?_⟩, fun h2 => ?_⟩
      · refine TriZ.of (((hm).embed [] rfl (by repeat' first | exact trivial | rfl | (simp only [go_sem]; done) | constructor) rfl (by first | rfl | simp only [go_sem]) rfl (by simp)).mono ?_)
        rintro _ _ ⟨_, _, ⟨rfl, rfl⟩, rfl, rfl⟩
        simp (maxSteps := 10000000) only [go_sem, hcf, w0, w1, w3, w4, w5, w6, hq, ht0]
        subst hKK
        simp (maxSteps := 10000000) only [go_sem, hcf, w0, w1, w3, w4, w5, w6, hq, ht0]
        refine ⟨fun h4 => ?_, fun h4 => ?_⟩
        · rw [if_pos ⟨h2, h3, h4⟩] at hnx
          subst hnx
          refine ⟨_, _, .sub [] ?_ .done, rfl, rfl⟩
          simp only [EmbV, go_sem]
        · rw [if_neg (by omega)] at hnx
          subst hnx
          refine ⟨_, _, .sub [] ?_ .done, rfl, rfl⟩
          simp only [EmbV, go_sem]
      · subst hKK
        simp (maxSteps := 10000000) only [go_sem, hcf, w0, w1, w3, w4, w5, w6, hq, ht0]
        rw [if_neg (by omega)] at hnx
        subst hnx
        refine ⟨_, _, .sub [] ?_ .done, rfl, rfl⟩
        simp only [EmbV, go_sem]
      · subst hKK
        simp (maxSteps := 10000000) only [go_sem, hcf, w0, w1, w3, w4, w5, w6, hq, ht0]
        rw [if_neg (by omega)] at hnx
        subst hnx
        refine ⟨_, _, .sub [] ?_ .done, rfl, rfl⟩
        simp only [EmbV, go_sem]
  · rw [if_neg hlt] at hceil
    rw [hceil] at hnx
    generalize cw / t = need at *
    refine ⟨fun h1 => ⟨fun h2 => ?_, fun h2 => ?_⟩, fun h1 => ?_⟩
    · rw [if_pos ⟨h1, h2⟩] at hnx
      subst hnx
      refine ⟨_, _, .sub [] ?_ .done, rfl, rfl⟩
      simp only [EmbV, go_sem]
    · by_cases h3 : t < 64
      · rw [if_neg (by omega), if_pos ⟨h1, h3⟩] at hnx
        subst hnx
        rw [if_neg (by omega)]
        refine ⟨_, _, .sub [] ?_ .done, rfl, rfl⟩
        simp only [EmbV, go_sem]
      · rw [if_neg (by omega), if_neg (by omega), if_neg (by omega)] at hnx
        subst hnx
        rw [if_pos (by omega), show (64 : Int) = t by omega]
        refine ⟨_, _, .sub [] ?_ .done, rfl, rfl⟩
        simp only [EmbV, go_sem]
    · rw [if_neg (by omega), if_neg (by omega)] at hnx
      refine sem_drawG l22_0_ok (by kernel_rfl) ?_
      intro KK hKK
      simp (maxSteps := 10000000) only [go_sem, l22_0, hcf, w0, w1, w3, w4, w5, w6, hq, ht0]
      refine ⟨fun h2 => ⟨fun h3 => ?_, fun h3 => ?_⟩, fun h2 => ?_⟩
      · refine TriZ.of (((hm).embed [] rfl (by repeat' first | exact trivial | rfl | (simp only [go_sem]; done) | constructor) rfl (by first | rfl | simp only [go_sem]) rfl (by simp)).mono ?_)
        rintro _ _ ⟨_, _, ⟨rfl, rfl⟩, rfl, rfl⟩
        simp (maxSteps := 10000000) only [go_sem, hcf, w0, w1, w3, w4, w5, w6, hq, ht0]
        subst hKK
        simp (maxSteps := 10000000) only [go_sem, hcf, w0, w1, w3, w4, w5, w6, hq, ht0]
        refine ⟨fun h4 => ?_, fun h4 => ?_⟩
        · rw [if_pos ⟨h2, h3, h4⟩] at hnx
          subst hnx
          refine ⟨_, _, .sub [] ?_ .done, rfl, rfl⟩
          simp only [EmbV, go_sem]
        · rw [if_neg (by omega)] at hnx
          subst hnx
          refine ⟨_, _, .sub [] ?_ .done, rfl, rfl⟩
          simp only [EmbV, go_sem]
      · subst hKK
        simp (maxSteps := 10000000) only [go_sem, hcf, w0, w1, w3, w4, w5, w6, hq, ht0]
        rw [if_neg (by omega)] at hnx
        subst hnx
        refine ⟨_, _, .sub [] ?_ .done, rfl, rfl⟩
        simp only [EmbV, go_sem]
      · subst hKK
        simp (maxSteps := 10000000) only [go_sem, hcf, w0, w1, w3, w4, w5, w6, hq, ht0]
        rw [if_neg (by omega)] at hnx
        subst hnx
        refine ⟨_, _, .sub [] ?_ .done, rfl, rfl⟩
        simp only [EmbV, go_sem]
def right (a b : Int) : Int × Int := (1 + ibits .and .i64 a 63, 1 + ibits .and .i64 b 255 % 6)
theorem right_good (a b : Int) : goodP (right a b).1 (right a b).2 = true := by
  obtain ⟨x, hx, hx2⟩ := and_i64 a (k := 63) (by decide)
  obtain ⟨y, hy, hy2⟩ := and_i64 b (k := 255) (by decide)
  have hx : ibits .and .i64 a 63 = (x : Int) := hx
  have hy : ibits .and .i64 b 255 = (y : Int) := hy
  simp only [right, goodP, hx, hy, decide_eq_true_eq]
  omega
theorem right_spec (a b : Int) : Tri Try.prog 19 [.int .i64 a, .int .i64 b] [] (fun v m => v = .agg [.int .i64 (right a b).1, .int .i64 (right a b).2] ∧ m = []) := by
  refine Tri.post ?_
  obtain ⟨x, hx, hx2⟩ := and_i64 a (k := 63) (by decide)
  obtain ⟨y, hy, hy2⟩ := and_i64 b (k := 255) (by decide)
  have hx : ibits .and .i64 a 63 = (x : Int) := hx
  have hy : ibits .and .i64 b 255 = (y : Int) := hy
  have w1 : iwrap .i64 (1 + (x : Int)) = 1 + x := iwrap_i64_in (by omega)
  have w2 : (y : Int).tmod 6 = (y : Int) % 6 := Int.tmod_eq_emod_of_nonneg (by omega)
  have w3 : iwrap .i64 (1 + (y : Int) % 6) = 1 + (y : Int) % 6 := iwrap_i64_in (by omega)
  skip
  refine (Tri.enter (rl := r19) (code := c19) (by kernel_rfl) Try.func19 rfl c19_ok (by kernel_rfl) (by kernel_rfl) ?_)
  refine run_ok 4000 _ _ _ _ ?_
  simp (maxSteps := 10000000) only [go_sem, c19, r19, hx, hy, w1, w2, w3]
  refine ⟨_, _, .sub [] ?_ .done, rfl, rfl⟩
  simp only [EmbV, go_sem, right, hx, hy]
/-! plans -/
def frow (x : Int × Int × Int) : List AV := [.int .i64 x.1, .int .i64 x.2.1, .int .i64 x.2.2]
def frows (l : List (Int × Int × Int)) : List (List AV) := l.map frow
theorem frows_len (l : List (Int × Int × Int)) : (frows l).length = l.length := by simp [frows]
theorem frows_get {l : List (Int × Int × Int)} {i : Nat} (h : i < l.length) : (frows l)[i]? = some (frow l[i]) := by simp [frows, h]
theorem frows_h0 {l : List (Int × Int × Int)} {i : Nat} (h : i < l.length) : hasI .i64 (frows l) i 0 := ⟨_, _, frows_get h, rfl⟩
theorem frows_h1 {l : List (Int × Int × Int)} {i : Nat} (h : i < l.length) : hasI .i64 (frows l) i 1 := ⟨_, _, frows_get h, rfl⟩
theorem frows_h2 {l : List (Int × Int × Int)} {i : Nat} (h : i < l.length) : hasI .i64 (frows l) i 2 := ⟨_, _, frows_get h, rfl⟩
theorem frows_r0 {l : List (Int × Int × Int)} {i : Nat} (h : i < l.length) : rint (frows l) i 0 = l[i].1 := by simp [rint, List.getD_eq_getElem?_getD, frows_get h, frow]
theorem frows_r1 {l : List (Int × Int × Int)} {i : Nat} (h : i < l.length) : rint (frows l) i 1 = l[i].2.1 := by simp [rint, List.getD_eq_getElem?_getD, frows_get h, frow]
theorem frows_r2 {l : List (Int × Int × Int)} {i : Nat} (h : i < l.length) : rint (frows l) i 2 = l[i].2.2 := by simp [rint, List.getD_eq_getElem?_getD, frows_get h, frow]
def plan (pre L : List (Int × Int × Int)) : Mem := [.box [.sl 1 pre.length L.length L.length false], .row 3 (frows (pre ++ L))]
def atF (turn : Int) (p : Int × Int) : List (Int × Int × Int) → Int × Int
  | [] => p
  | x :: l => atF turn (if x.1 ≤ turn then x.2 else p) l
theorem at_spec (pre L : List (Int × Int × Int)) (turn : Int) (h0 : 0 < L.length) (hL : L.length ≤ 1000000) :
    Tri Try.prog 36 [.pbox 0 0, .int .i64 turn] (plan pre L) (fun v m => v = .agg [.int .i64 (atF turn L[0].2 L).1, .int .i64 (atF turn L[0].2 L).2] ∧ m = plan pre L) := by
  unfold plan
  refine Tri.post ?_
  have hp0 : pre.length + 0 < (pre ++ L).length := by simp; omega
  have hg0 : (pre ++ L)[pre.length + 0] = L[0] := by simp
  have hp0' : pre.length < (pre ++ L).length := by simp; omega
  have hg0' : (pre ++ L)[pre.length] = L[0] := by simp
  have hin0 : (0 : Int) < (L.length : Int) := by omega
  skip
  refine (Tri.enter (rl := r36) (code := c36) (by kernel_rfl) Try.func36 rfl c36_ok (by kernel_rfl) (by kernel_rfl) ?_)
  refine run_ok 4000 _ _ _ _ ?_
  simp (maxSteps := 10000000) only [go_sem, c36, r36, frows_len, hin0, frows_h1 hp0, frows_h2 hp0, frows_r1 hp0, frows_r2 hp0, hg0, frows_h1 hp0', frows_h2 hp0', frows_r1 hp0', frows_r2 hp0', hg0']
  refine sem_rounds (fun x : Nat × Int × Int => x.1 ≤ L.length ∧ atF turn L[0].2 L = atF turn x.2 (L.drop x.1))
    (fun x => [(1, .int .i64 turn), (4, .pbox 2 0), (5, .pbox 3 0), (18, .sl 1 pre.length L.length L.length false), (19, .int .i64 L.length), (20, .int .i64 (x.1 : Nat))])
    (fun x => [.box [.sl 1 pre.length L.length L.length false], .row 3 (frows (pre ++ L)), .box [.int .i64 0, .int .i64 0], .box [.int .i64 x.2.1, .int .i64 x.2.2]]) (fun x => L.length - x.1) (0, L[0].2) [0, 1, 2, 3] ⟨Nat.zero_le _, by simp⟩ ?_ ?_
  · simp only [Emb, go_sem]
  rintro ⟨i, p1, p2⟩ ⟨h1, h2⟩
  simp only at h1 h2
  skip
  refine run_ok 4000 _ _ _ _ ?_
  simp (maxSteps := 10000000) only [go_sem]
  refine ⟨fun hlt => ?_, fun hge => ?_⟩
  · have hlt : i < L.length := by omega
    have hd : L.drop i = L[i] :: L.drop (i + 1) := List.drop_eq_getElem_cons hlt
    rw [hd, atF] at h2
    have hin : (i : Int) < (L.length : Int) := by omega
    have hp : pre.length + i < (pre ++ L).length := by simp; omega
    have hg : (pre ++ L)[pre.length + i] = L[i] := by simp
    skip
    simp (maxSteps := 10000000) only [go_sem, frows_len, frows_h0 hp, frows_h1 hp, frows_h2 hp, frows_r0 hp, frows_r1 hp, frows_r2 hp, hg, hin, Int.natCast_nonneg, inc64 (show i < 1000000000000 by omega)]
    refine ⟨fun hle => ⟨(i + 1, L[i].2), by simp only; omega, ⟨hlt, ?_⟩, [0, 1, 2, 3], ?_⟩, fun hle => ⟨(i + 1, p1, p2), by simp only; omega, ⟨hlt, ?_⟩, [0, 1, 2, 3], ?_⟩⟩
    · rw [h2, if_pos hle]
    · simp only [Emb, go_sem]
    · rw [h2, if_neg hle]
    · simp only [Emb, go_sem]
  · have hi : L.drop i = [] := List.drop_eq_nil_of_le (by omega)
    rw [hi] at h2
    simp only [atF] at h2
    skip
    refine run_ok 4000 _ _ _ _ ?_
    simp (maxSteps := 10000000) only [go_sem]
    refine ⟨_, _, .sub [0, 1] ?_ .done, rfl, rfl⟩
    simp only [EmbV, go_sem, h2]
/-- A plan of one pace, as it begins. -/
theorem at_vspec (L : List (Int × Int × Int)) (turn : Int) (h0 : 0 < L.length) (hL : L.length ≤ 1000000) :
    Tri Try.prog 36 [.pbox 0 0, .int .i64 turn] [.box [.vsl 3 (frows L) true]] (fun v m => v = .agg [.int .i64 (atF turn L[0].2 L).1, .int .i64 (atF turn L[0].2 L).2] ∧ m = [.box [.vsl 3 (frows L) true]]) := by
  refine Tri.post ?_
  have hin0 : (0 : Int) < (L.length : Int) := by omega
  skip
  refine (Tri.enter (rl := r36) (code := c36) (by kernel_rfl) Try.func36 rfl c36_ok (by kernel_rfl) (by kernel_rfl) ?_)
  refine run_ok 4000 _ _ _ _ ?_
  simp (maxSteps := 10000000) only [go_sem, c36, r36, frows_len, hin0, frows_h1 h0, frows_h2 h0, frows_r1 h0, frows_r2 h0]
  refine sem_rounds (fun x : Nat × Int × Int => x.1 ≤ L.length ∧ atF turn L[0].2 L = atF turn x.2 (L.drop x.1))
    (fun x => [(1, .int .i64 turn), (4, .pbox 1 0), (5, .pbox 2 0), (18, .vsl 3 (frows L) true), (19, .int .i64 L.length), (20, .int .i64 (x.1 : Nat))])
    (fun x => [.box [.vsl 3 (frows L) true], .box [.int .i64 0, .int .i64 0], .box [.int .i64 x.2.1, .int .i64 x.2.2]]) (fun x => L.length - x.1) (0, L[0].2) [0, 1, 2] ⟨Nat.zero_le _, by simp⟩ ?_ ?_
  · simp only [Emb, go_sem, frows_len]
  rintro ⟨i, p1, p2⟩ ⟨h1, h2⟩
  simp only at h1 h2
  skip
  refine run_ok 4000 _ _ _ _ ?_
  simp (maxSteps := 10000000) only [go_sem]
  refine ⟨fun hlt => ?_, fun hge => ?_⟩
  · have hlt : i < L.length := by omega
    have hd : L.drop i = L[i] :: L.drop (i + 1) := List.drop_eq_getElem_cons hlt
    rw [hd, atF] at h2
    have hin : (i : Int) < (L.length : Int) := by omega
    skip
    simp (maxSteps := 10000000) only [go_sem, frows_len, frows_h0 hlt, frows_h1 hlt, frows_h2 hlt, frows_r0 hlt, frows_r1 hlt, frows_r2 hlt, hin, Int.natCast_nonneg, inc64 (show i < 1000000000000 by omega)]
    refine ⟨fun hle => ⟨(i + 1, L[i].2), by simp only; omega, ⟨hlt, ?_⟩, [0, 1, 2], ?_⟩, fun hle => ⟨(i + 1, p1, p2), by simp only; omega, ⟨hlt, ?_⟩, [0, 1, 2], ?_⟩⟩
    · rw [h2, if_pos hle]
    · simp only [Emb, go_sem]
    · rw [h2, if_neg hle]
    · simp only [Emb, go_sem]
  · have hi : L.drop i = [] := List.drop_eq_nil_of_le (by omega)
    rw [hi] at h2
    simp only [atF] at h2
    skip
    refine run_ok 4000 _ _ _ _ ?_
    simp (maxSteps := 10000000) only [go_sem]
    refine ⟨_, _, .sub [0] ?_ .done, rfl, rfl⟩
    simp only [EmbV, go_sem, h2]
theorem begin_bad (t d : Int) (hg : goodP t d = false) : Tri Try.prog 29 [.agg [.int .i64 t, .int .i64 d]] [] (fun v m => v = .tup [.nilptr, .int .i64 4] ∧ m = []) := by
  refine Tri.post ?_
  skip
  refine (Tri.enter (rl := r29) (code := c29) (by kernel_rfl) Try.func29 rfl c29_ok (by kernel_rfl) (by kernel_rfl) ?_)
  refine run_ok 4000 _ _ _ _ ?_
  simp (maxSteps := 10000000) only [go_sem, c29, r29, hg]
  refine sem_call rfl rfl (((check_spec t d).embed [] rfl trivial rfl rfl rfl (by simp)).mono ?_)
  rintro _ _ ⟨_, _, ⟨rfl, rfl⟩, rfl, rfl⟩
  refine run_ok 4000 _ _ _ _ ?_
  simp (maxSteps := 10000000) only [go_sem, hg]
  refine ⟨_, _, .sub [] ?_ .done, rfl, rfl⟩
  simp only [EmbV, go_sem]
theorem begin_spec (t d : Int) (hg : goodP t d = true) : Tri Try.prog 29 [.agg [.int .i64 t, .int .i64 d]] []
    (fun v m => v = .tup [.pbox 0 0, .int .i64 0] ∧ m = [.box [.vsl 3 (frows [(0, t, d)]) true]]) := by
  refine Tri.post ?_
  skip
  refine (Tri.enter (rl := r29) (code := c29) (by kernel_rfl) Try.func29 rfl c29_ok (by kernel_rfl) (by kernel_rfl) ?_)
  refine run_ok 4000 _ _ _ _ ?_
  simp (maxSteps := 10000000) only [go_sem, c29, r29, hg]
  refine sem_call rfl rfl (((check_spec t d).embed [] rfl trivial rfl rfl rfl (by simp)).mono ?_)
  rintro _ _ ⟨_, _, ⟨rfl, rfl⟩, rfl, rfl⟩
  refine run_ok 4000 _ _ _ _ ?_
  simp (maxSteps := 10000000) only [go_sem, hg]
  refine ⟨_, _, .sub [1] ?_ .done, rfl, rfl⟩
  simp only [EmbV, go_sem, frows, frow]
theorem add25 : ∃ T : List Int, Tri Try.prog 20 [.pbox 0 0, .vsl 1 [[.int .i64 25], [.int .i64 25], [.int .i64 25], [.int .i64 25], [.int .i64 25], [.int .i64 25], [.int .i64 25], [.int .i64 25]] true] [.box [.sl 1 0 0 0 false], .row 1 []]
    (fun v m => v = .tup [] ∧ ∃ pre', m = mtg pre' T) ∧ T.length = 8 ∧ (∀ x ∈ T, 0 ≤ x) ∧ nextF T 10 1 = (10, 2) ∧ nextF T 10 2 = (10, 3) :=
  ⟨[25, 25, 25, 25, 25, 25, 25, 25], add_spec [] [] [25, 25, 25, 25, 25, 25, 25, 25] true (by simp) (by simp), rfl, by decide, by decide, by decide⟩
theorem awake17_spec : Tri Try.prog 18 [] [] (fun v m => v = .bool true ∧ m = []) := by
  refine Tri.post ?_
  refine (Tri.enter (rl := r18) (code := c18) (by kernel_rfl) Try.func18 rfl c18_ok (by kernel_rfl) (by kernel_rfl) ?_)
  refine run_ok 4000 _ _ _ _ ?_
  simp (maxSteps := 10000000) only [go_sem, c18, r18]
  refine sem_nilbox 0 0 1 rfl rfl ?_
  simp (maxSteps := 10000000) only [go_sem]
  obtain ⟨T, hadd, hT, hp, n1, n2⟩ := add25
  skip
  refine sem_call rfl rfl (((hadd).embed [0, 1] rfl (by repeat' first | exact trivial | rfl | (simp only [go_sem]; done) | constructor) rfl (by first | rfl | simp only [go_sem]) rfl (by simp)).mono ?_)
  rintro _ _ ⟨_, _, ⟨rfl, pre, rfl⟩, rfl, rfl⟩
  refine run_ok 4000 _ _ _ _ ?_
  simp (maxSteps := 10000000) only [go_sem, mtg]
  have ht8 : (T.length : Int) = 8 := by omega
  skip
  refine sem_call rfl rfl (((next_spec pre T 10 1 (by omega) hp (by decide)).embed [0, 2] rfl (by repeat' first | exact trivial | rfl | (simp only [go_sem]; done) | constructor) rfl (by first | rfl | simp only [go_sem]) rfl (by simp)).mono ?_)
  rintro _ _ ⟨_, _, ⟨rfl, rfl⟩, rfl, rfl⟩
  refine run_ok 4000 _ _ _ _ ?_
  simp (maxSteps := 10000000) only [go_sem, mtr, n1, n2, ht8]
  refine sem_call rfl rfl (((begin_spec 10 2 (by decide)).embed [] rfl trivial rfl rfl rfl (by simp)).mono ?_)
  rintro _ _ ⟨_, _, ⟨rfl, rfl⟩, rfl, rfl⟩
  refine run_ok 4000 _ _ _ _ ?_
  simp (maxSteps := 10000000) only [go_sem, mtr, n1, n2, ht8]
  refine sem_drawG l18_0_ok (by kernel_rfl) ?_
  intro KK hKK
  simp (maxSteps := 10000000) only [go_sem, l18_0, mtr, n1, n2, ht8]
  refine TriZ.of (((next_spec pre T 10 2 (by omega) hp (by decide)).embed [0, 2] rfl (by repeat' first | exact trivial | rfl | (simp only [go_sem]; done) | constructor) rfl (by first | rfl | simp only [go_sem]) rfl (by simp)).mono ?_)
  rintro _ _ ⟨_, _, ⟨rfl, rfl⟩, rfl, rfl⟩
  simp (maxSteps := 10000000) only [go_sem, mtr, n1, n2, ht8]
  refine TriZ.of (((mlen_spec pre T).embed [0, 2] rfl (by repeat' first | exact trivial | rfl | (simp only [go_sem]; done) | constructor) rfl (by first | rfl | simp only [go_sem]) rfl (by simp)).mono ?_)
  rintro _ _ ⟨_, _, ⟨rfl, rfl⟩, rfl, rfl⟩
  simp (maxSteps := 10000000) only [go_sem, mtr, n1, n2, ht8]
  have ha5 : atF 5 [((0 : Int), (10 : Int), (2 : Int))][0].2 [(0, 10, 2)] = (10, 2) := by decide
  skip
  refine TriZ.of (((at_vspec [(0, 10, 2)] 5 (by simp) (by simp)).embed [4] rfl (by repeat' first | exact trivial | rfl | (simp only [go_sem]; done) | constructor) rfl (by first | rfl | simp only [go_sem]) rfl (by simp)).mono ?_)
  rintro _ _ ⟨_, _, ⟨rfl, rfl⟩, rfl, rfl⟩
  simp (maxSteps := 10000000) only [go_sem, mtr, n1, n2, ht8, ha5]
  subst hKK
  simp (maxSteps := 10000000) only [go_sem, mtr, n1, n2, ht8, ha5]
  refine ⟨_, _, .like (Like.bool true) (.sub [] ?_ .done), rfl, rfl⟩
  simp only [EmbV, go_sem]
theorem paceMay_spec (a : Int) (ha : (Lit.int .i64 a).wf = true) (b : Int) (hb : (Lit.int .i64 b).wf = true) : Tri Try.prog 5 [.int .i64 a, .int .i64 b] [] (fun v m => v = .bool true) := by
  cases hg : goodP a b
  · skip
    refine (Tri.asB (Tri.enter (rl := r5) (code := c5) (by kernel_rfl) Try.func5 rfl c5_ok (by kernel_rfl) (by kernel_rfl) ?_))
    refine run_ok 4000 _ _ _ _ ?_
    simp (maxSteps := 10000000) only [go_sem, c5, r5, hg]
    refine sem_call rfl rfl (((begin_bad a b hg).embed [] rfl trivial rfl rfl rfl (by simp)).mono ?_)
    rintro _ _ ⟨_, _, ⟨rfl, rfl⟩, rfl, rfl⟩
    refine run_ok 4000 _ _ _ _ ?_
    simp (maxSteps := 10000000) only [go_sem, hg]
    refine sem_call rfl rfl (((good_spec a b).embed [] rfl trivial rfl rfl rfl (by simp)).mono ?_)
    rintro _ _ ⟨_, _, ⟨rfl, rfl⟩, rfl, rfl⟩
    refine run_ok 4000 _ _ _ _ ?_
    simp (maxSteps := 10000000) only [go_sem, hg]
    refine sem_call rfl rfl (((awake17_spec).embed [] rfl trivial rfl rfl rfl (by simp)).mono ?_)
    rintro _ _ ⟨_, _, ⟨rfl, rfl⟩, rfl, rfl⟩
    refine run_ok 4000 _ _ _ _ ?_
    simp (maxSteps := 10000000) only [go_sem, hg]
    refine sem_call rfl rfl (((check_spec a b).embed [] rfl trivial rfl rfl rfl (by simp)).mono ?_)
    rintro _ _ ⟨_, _, ⟨rfl, rfl⟩, rfl, rfl⟩
    refine run_ok 4000 _ _ _ _ ?_
    simp (maxSteps := 10000000) only [go_sem, hg]
    refine sem_call rfl rfl (((check_spec a b).embed [] rfl trivial rfl rfl rfl (by simp)).mono ?_)
    rintro _ _ ⟨_, _, ⟨rfl, rfl⟩, rfl, rfl⟩
    refine run_ok 4000 _ _ _ _ ?_
    simp (maxSteps := 10000000) only [go_sem, hg]
  · skip
    refine (Tri.asB (Tri.enter (rl := r5) (code := c5) (by kernel_rfl) Try.func5 rfl c5_ok (by kernel_rfl) (by kernel_rfl) ?_))
    refine run_ok 4000 _ _ _ _ ?_
    simp (maxSteps := 10000000) only [go_sem, c5, r5, hg]
    refine sem_call rfl rfl (((begin_spec a b hg).embed [] rfl trivial rfl rfl rfl (by simp)).mono ?_)
    rintro _ _ ⟨_, _, ⟨rfl, rfl⟩, rfl, rfl⟩
    refine run_ok 4000 _ _ _ _ ?_
    simp (maxSteps := 10000000) only [go_sem, hg]
    refine sem_call rfl rfl (((good_spec a b).embed [] rfl trivial rfl rfl rfl (by simp)).mono ?_)
    rintro _ _ ⟨_, _, ⟨rfl, rfl⟩, rfl, rfl⟩
    refine run_ok 4000 _ _ _ _ ?_
    simp (maxSteps := 10000000) only [go_sem, hg]
    refine sem_call rfl rfl (((awake17_spec).embed [] rfl trivial rfl rfl rfl (by simp)).mono ?_)
    rintro _ _ ⟨_, _, ⟨rfl, rfl⟩, rfl, rfl⟩
    refine run_ok 4000 _ _ _ _ ?_
    simp (maxSteps := 10000000) only [go_sem, hg]
    refine sem_call rfl rfl (((check_spec a b).embed [] rfl trivial rfl rfl rfl (by simp)).mono ?_)
    rintro _ _ ⟨_, _, ⟨rfl, rfl⟩, rfl, rfl⟩
    refine run_ok 4000 _ _ _ _ ?_
    simp (maxSteps := 10000000) only [go_sem, hg]
    refine sem_call rfl rfl (((check_spec a b).embed [] rfl trivial rfl rfl rfl (by simp)).mono ?_)
    rintro _ _ ⟨_, _, ⟨rfl, rfl⟩, rfl, rfl⟩
    refine run_ok 4000 _ _ _ _ ?_
    simp (maxSteps := 10000000) only [go_sem, hg]
end Go.AEX
