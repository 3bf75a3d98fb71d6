/- PaceSteady: the law's evaluation, and that the pace comes to rest. -/
import Derived.Test.YtcenagdeejbmgaaPaceRow
namespace Go.AEX
open Go Go.AE Go.Proofs
set_option maxRecDepth 100000
set_option linter.unusedVariables false
set_option linter.unusedSimpArgs false

theorem nextF_good (T : List Int) (t d : Int) (hp : ∀ x ∈ T, 0 ≤ x) (hg : goodP t d = true) : goodP (nextF T t d).1 (nextF T t d).2 = true := by
  have hg' : 1 ≤ t ∧ t ≤ 64 ∧ 1 ≤ d ∧ d ≤ 6 := by simpa [goodP] using hg
  simp only [goodP, decide_eq_true_eq]
  unfold nextF
  split
  · exact hg'
  · simp only
    split
    · simp only; omega
    · split
      · simp only; omega
      · split
        · simp only; omega
        · exact hg'
def itP (T : List Int) : Nat → Int × Int → Int × Int
  | 0, p => p
  | k + 1, p => itP T k (nextF T p.1 p.2)
theorem itP_fix {T : List Int} {p : Int × Int} (h : nextF T p.1 p.2 = p) : ∀ k, itP T k p = p
  | 0 => rfl
  | k + 1 => by rw [itP, h]; exact itP_fix h k
theorem wst_eq (n : Int) (h : 0 ≤ n) : ∀ k, wst 0 (List.replicate (k + 1) n) = n := by
  have h1 : ∀ k, wst n (List.replicate k n) = n := by
    intro k
    induction k with
    | zero => rfl
    | succ k ih => rw [List.replicate_succ, wst, if_neg (by omega)]; exact ih
  intro k
  rw [List.replicate_succ, wst]
  split
  · exact h1 k
  · have : n = 0 := by omega
    rw [this] at h1 ⊢; exact h1 k
theorem sm_eq (n : Int) (h : n ≤ 1048576) : ∀ (k : Nat) (s : Int), sm s (List.replicate k n) = s + k * n
  | 0, s => by simp [sm]
  | k + 1, s => by rw [List.replicate_succ, sm, if_neg (by omega), sm_eq n h k, Int.natCast_add, Int.add_mul]; omega
/-- What comes next when all eight took the same time. -/
theorem nextF_same (n t d : Int) (h0 : 0 ≤ n) (h1 : n ≤ 1048576) :
    nextF (List.replicate 8 n) t d = if (n + t - 1) / t > d ∧ d < 6 then (t, d + 1) else if (n + t - 1) / t > d ∧ t < 64 then (t + 1, d) else if (n + t - 1) / t < d ∧ d > 1 ∧ n < t * (d - 1) then (t, d - 1) else (t, d) := by
  have hw : wst 0 (List.replicate 8 n) = n := wst_eq n h0 7
  have hm : meanF (List.replicate 8 n) = n := by
    unfold meanF
    rw [sm_eq n h1, List.length_replicate]
    simp
  unfold nextF
  rw [if_neg (by simp), hw, hm]
  have : capF n = n := by unfold capF; rw [if_neg (by omega)]
  rw [this]
/-- More than d of t: t times d is less. -/
theorem need_gt {n t d : Int} (ht : 1 ≤ t) : (n + t - 1) / t > d ↔ t * d < n := by
  constructor
  · intro h
    have h1 : (d + 1) * t ≤ n + t - 1 := (Int.le_ediv_iff_mul_le (by omega)).1 (by omega)
    have h2 : (d + 1) * t = t * d + t := by rw [Int.add_mul, Int.mul_comm d t]; omega
    omega
  · intro h
    have : d + 1 ≤ (n + t - 1) / t := (Int.le_ediv_iff_mul_le (by omega)).2 (by have h2 : (d + 1) * t = t * d + t := by rw [Int.add_mul, Int.mul_comm d t]; omega
                                                                                omega)
    omega
def mu (n : Int) (p : Int × Int) : Int := if p.1 * p.2 < n then (64 - p.1) + (6 - p.2) + 6 else p.2
theorem step_mu (n t d : Int) (h0 : 0 ≤ n) (h1 : n ≤ 1048576) (hg : goodP t d = true) :
    nextF (List.replicate 8 n) t d = (t, d) ∨ mu n (nextF (List.replicate 8 n) t d) < mu n (t, d) := by
  have hg' : 1 ≤ t ∧ t ≤ 64 ∧ 1 ≤ d ∧ d ≤ 6 := by simpa [goodP] using hg
  rw [nextF_same n t d h0 h1]
  have hn := need_gt (n := n) (t := t) (d := d) hg'.1
  split
  · rename_i h
    have := hn.1 h.1
    right
    unfold mu
    simp only
    rw [if_pos this]
    split <;> omega
  · split
    · rename_i h
      have := hn.1 h.1
      right
      unfold mu
      simp only
      rw [if_pos this]
      split <;> omega
    · split
      · rename_i h
        right
        have : ¬ t * d < n := fun h' => by have := hn.2 h'; omega
        unfold mu
        simp only
        rw [if_neg this, if_neg (by omega)]
        omega
      · exact .inl rfl
theorem mu_pos (n : Int) (p : Int × Int) (hg : goodP p.1 p.2 = true) : 1 ≤ mu n p ∧ mu n p ≤ 74 := by
  have hg' : 1 ≤ p.1 ∧ p.1 ≤ 64 ∧ 1 ≤ p.2 ∧ p.2 ≤ 6 := by simpa [goodP] using hg
  unfold mu
  split <;> omega
theorem rests (n : Int) (h0 : 0 ≤ n) (h1 : n ≤ 1048576) : ∀ (k : Nat) (p : Int × Int), goodP p.1 p.2 = true → mu n p ≤ k →
    nextF (List.replicate 8 n) (itP (List.replicate 8 n) k p).1 (itP (List.replicate 8 n) k p).2 = itP (List.replicate 8 n) k p
  | 0, p, hg, hm => by have := mu_pos n p hg; omega
  | k + 1, p, hg, hm => by
    rcases step_mu n p.1 p.2 h0 h1 hg with h | h
    · rw [itP_fix h]; exact h
    · have h : mu n (nextF (List.replicate 8 n) p.1 p.2) < mu n p := h
      rw [itP]
      exact rests n h0 h1 k _ (nextF_good _ _ _ (fun x hx => by rw [List.eq_of_mem_replicate hx]; exact h0) hg) (by omega)
theorem itP_good (T : List Int) (hp : ∀ x ∈ T, 0 ≤ x) : ∀ (k : Nat) (p : Int × Int), goodP p.1 p.2 = true → goodP (itP T k p).1 (itP T k p).2 = true
  | 0, p, h => h
  | k + 1, p, h => itP_good T hp k _ (nextF_good T _ _ hp h)
theorem rest_end {n : Int} {p : Int × Int} (h0 : 0 ≤ n) (h1 : n ≤ 1048576) (hg : goodP p.1 p.2 = true) (hf : nextF (List.replicate 8 n) p.1 p.2 = p) : p.1 * p.2 ≥ n ∨ p = (64, 6) := by
  have hg' : 1 ≤ p.1 ∧ p.1 ≤ 64 ∧ 1 ≤ p.2 ∧ p.2 ≤ 6 := by simpa [goodP] using hg
  obtain ⟨t, d⟩ := p
  simp only at *
  rw [nextF_same n t d h0 h1] at hf
  by_cases hn : (n + t - 1) / t > d
  · right
    split at hf
    · rw [Prod.mk.injEq] at hf; omega
    · split at hf
      · rw [Prod.mk.injEq] at hf; omega
      · rw [Prod.mk.injEq]; omega
  · left
    have := mt (need_gt (n := n) (t := t) (d := d) hg'.1).2 hn
    omega
theorem add_rep (n : Int) (h : 0 ≤ n) (k : Nat) (hk : k < 8) : addT (List.replicate k n) [n] = List.replicate (k + 1) n := by
  simp only [addT, add1, List.length_replicate]
  rw [if_neg (by omega), List.replicate_succ', Int.max_eq_left h]
theorem paceSteady_spec (a : Int) (ha : (Lit.int .i64 a).wf = true) (b : Int) (hb : (Lit.int .i64 b).wf = true) (c : Int) (hc : (Lit.int .i64 c).wf = true) :
    Tri Try.prog 6 [.int .i64 a, .int .i64 b, .int .i64 c] [] (fun v m => v = .bool true) := by
  obtain ⟨n, hn, hn2⟩ := and_i64 c (k := 1023) (by decide)
  have hn : ibits .and .i64 c 1023 = (n : Int) := hn
  skip
  refine (Tri.asB (Tri.enter (rl := r6) (code := c6) (by kernel_rfl) Try.func6 rfl c6_ok (by kernel_rfl) (by kernel_rfl) ?_))
  refine run_ok 4000 _ _ _ _ ?_
  simp (maxSteps := 10000000) only [go_sem, c6, r6, hn]
  refine sem_call rfl rfl (((awake17_spec).embed [] rfl trivial rfl rfl rfl (by simp)).mono ?_)
  rintro _ _ ⟨_, _, ⟨rfl, rfl⟩, rfl, rfl⟩
  refine run_ok 4000 _ _ _ _ ?_
  simp (maxSteps := 10000000) only [go_sem, hn]
  refine sem_nilbox 0 0 1 rfl rfl ?_
  simp (maxSteps := 10000000) only [go_sem, hn]
  refine sem_rounds (fun x : Nat × List Int => x.1 ≤ 8) (fun x => [(0, .int .i64 a), (1, .int .i64 b), (2, .int .i64 (n : Nat)), (7, .pbox 0 0), (14, .int .i64 (x.1 : Nat))])
    (fun x => [.box [.sl 1 x.2.length x.1 x.1 false], .row 1 (iv .i64 (x.2 ++ List.replicate x.1 (n : Int)))]) (fun x => 8 - x.1) (0, []) [0, 1] (by simp) ?_ ?_
  · simp only [Emb, go_sem]; simp [iv]
  rintro ⟨i, p⟩ h8
  simp only at h8
  refine run_ok 4000 _ _ _ _ ?_
  simp (maxSteps := 10000000) only [go_sem, hn]
  refine ⟨fun hlt => ?_, fun hge => ?_⟩
  · have hlt : i < 8 := by omega
    have had := add_rep n (by omega) i hlt
    skip
    have hadd := add_spec p (List.replicate i (n : Int)) [(n : Int)] true (by simp; omega) (by simp)
    simp only [mtr, mtg, had, List.length_replicate] at hadd
    refine sem_call rfl rfl (((hadd).embed [0, 1] rfl (by repeat' first | exact trivial | rfl | (simp only [go_sem]; done) | constructor) rfl (by first | rfl | simp only [go_sem]) rfl (by simp)).mono ?_)
    rintro _ _ ⟨_, _, ⟨rfl, p1, rfl⟩, rfl, rfl⟩
    refine run_ok 4000 _ _ _ _ ?_
    simp (maxSteps := 10000000) only [go_sem, mtr, mtg, had, List.length_replicate, inc64 (show i < 1000000000000 by omega)]
    refine ⟨(i + 1, p1), by simp only; omega, hlt, [0, 2], ?_⟩
    simp only [Emb, go_sem]
  · have hi : i = 8 := by omega
    subst hi
    have hp : ∀ x ∈ List.replicate 8 (n : Int), 0 ≤ x := fun x hx => by rw [List.eq_of_mem_replicate hx]; omega
    have hg := right_good a b
    generalize hT : List.replicate 8 (n : Int) = T at *
    have hTl : T.length = 8 := by rw [← hT]; rfl
    skip
    refine run_ok 4000 _ _ _ _ ?_
    simp (maxSteps := 10000000) only [go_sem]
    refine sem_call rfl rfl (((right_spec a b).embed [] rfl trivial rfl rfl rfl (by simp)).mono ?_)
    rintro _ _ ⟨_, _, ⟨rfl, rfl⟩, rfl, rfl⟩
    refine run_ok 4000 _ _ _ _ ?_
    simp (maxSteps := 10000000) only [go_sem]
    generalize right a b = q0 at *
    refine sem_rounds (fun x : Nat × Int × Int => x.1 ≤ 200 ∧ goodP x.2.1 x.2.2 = true ∧ itP T (200 - x.1) x.2 = itP T 200 q0)
      (fun x => [(2, .int .i64 (n : Nat)), (7, .pbox 0 0), (8, .pbox 2 0), (23, .int .i64 (x.1 : Nat))])
      (fun x => [.box [.sl 1 p.length 8 8 false], .row 1 (iv .i64 (p ++ T)), .box [.int .i64 x.2.1, .int .i64 x.2.2]]) (fun x => 200 - x.1) (0, q0) [0, 1, 2] ⟨by simp, hg, rfl⟩ ?_ ?_
    · simp only [Emb, go_sem]
    rintro ⟨i, t, d⟩ ⟨h2, h3, h4⟩
    simp only at h2 h3 h4
    refine run_ok 4000 _ _ _ _ ?_
    simp (maxSteps := 10000000) only [go_sem]
    refine ⟨fun hlt => ?_, fun hge => ?_⟩
    · have hlt : i < 200 := by omega
      obtain ⟨f, hf⟩ : ∃ f, 200 - i = f + 1 := ⟨199 - i, by omega⟩
      rw [hf, itP] at h4
      have hnx := next_spec p T t d (by omega) hp h3
      simp only [mtr, hTl] at hnx
      skip
      refine sem_call rfl rfl (((hnx).embed [0, 1] rfl (by repeat' first | exact trivial | rfl | (simp only [go_sem]; done) | constructor) rfl (by first | rfl | simp only [go_sem]) rfl (by simp)).mono ?_)
      rintro _ _ ⟨_, _, ⟨rfl, rfl⟩, rfl, rfl⟩
      refine run_ok 4000 _ _ _ _ ?_
      simp (maxSteps := 10000000) only [go_sem, inc64 (show i < 1000000000000 by omega)]
      refine ⟨(i + 1, nextF T t d), by simp only; omega, ⟨hlt, nextF_good T t d hp h3, ?_⟩, [0, 1, 2], ?_⟩
      · simp only; rw [show 200 - (i + 1) = f by omega]; exact h4
      · simp only [Emb, go_sem]
    · have hi : i = 200 := by omega
      subst hi
      have h4 : (t, d) = itP T 200 q0 := by rw [← h4]; rfl
      have hfix := rests n (by omega) (by omega) 200 q0 hg (by have := mu_pos n q0 hg; omega)
      rw [hT, ← h4] at hfix
      simp only at hfix
      have hend := rest_end (n := n) (p := (t, d)) (by omega) (by omega) h3 (by rw [hT]; exact hfix)
      have hg' : 1 ≤ t ∧ t ≤ 64 ∧ 1 ≤ d ∧ d ≤ 6 := by simpa [goodP] using h3
      have hmul : 0 ≤ t * d ∧ t * d ≤ 64 * d := ⟨Int.mul_nonneg (by omega) (by omega), Int.mul_le_mul_of_nonneg_right (by omega) (by omega)⟩
      have hw : iwrap .i64 (t * d) = t * d := iwrap_i64_in (by omega)
      have hnx := next_spec p T t d (by omega) hp h3
      simp only [mtr, hTl, hfix] at hnx
      skip
      refine run_ok 4000 _ _ _ _ ?_
      simp (maxSteps := 10000000) only [go_sem, hw, h3]
      by_cases hen : t * d ≥ (n : Int)
      · skip
        refine sem_drawG l6_0_ok (by kernel_rfl) ?_
        intro KK hKK
        simp (maxSteps := 10000000) only [go_sem, l6_0, h3, hen]
        refine TriZ.of (((hnx).embed [0, 1] rfl (by repeat' first | exact trivial | rfl | (simp only [go_sem]; done) | constructor) rfl (by first | rfl | simp only [go_sem]) rfl (by simp)).mono ?_)
        rintro _ _ ⟨_, _, ⟨rfl, rfl⟩, rfl, rfl⟩
        simp (maxSteps := 10000000) only [go_sem, h3, hen]
        refine TriZ.of (((check_spec t d).embed [] rfl (by repeat' first | exact trivial | rfl | (simp only [go_sem]; done) | constructor) rfl (by first | rfl | simp only [go_sem]) rfl (by simp)).mono ?_)
        rintro _ _ ⟨_, _, ⟨rfl, rfl⟩, rfl, rfl⟩
        simp (maxSteps := 10000000) only [go_sem, h3, hen]
        subst hKK
        simp (maxSteps := 10000000) only [go_sem, h3, hen]
      · have he : (t, d) = (64, 6) := by rcases hend with h | h; exact absurd h hen; exact h
        rw [Prod.mk.injEq] at he
        obtain ⟨rfl, rfl⟩ := he
        skip
        refine sem_drawG l6_0_ok (by kernel_rfl) ?_
        intro KK hKK
        simp (maxSteps := 10000000) only [go_sem, l6_0, h3, hen]
        refine TriZ.of (((hnx).embed [0, 1] rfl (by repeat' first | exact trivial | rfl | (simp only [go_sem]; done) | constructor) rfl (by first | rfl | simp only [go_sem]) rfl (by simp)).mono ?_)
        rintro _ _ ⟨_, _, ⟨rfl, rfl⟩, rfl, rfl⟩
        simp (maxSteps := 10000000) only [go_sem, h3, hen]
        refine TriZ.of (((check_spec 64 6).embed [] rfl (by repeat' first | exact trivial | rfl | (simp only [go_sem]; done) | constructor) rfl (by first | rfl | simp only [go_sem]) rfl (by simp)).mono ?_)
        rintro _ _ ⟨_, _, ⟨rfl, rfl⟩, rfl, rfl⟩
        simp (maxSteps := 10000000) only [go_sem, h3, hen]
        subst hKK
        simp (maxSteps := 10000000) only [go_sem, h3, hen]
end Go.AEX
