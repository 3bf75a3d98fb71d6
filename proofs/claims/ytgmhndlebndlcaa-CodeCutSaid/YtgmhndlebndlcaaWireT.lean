/- WireTakes: the law's evaluation. -/
import Derived.Test.YtgmhndlebndlcaaWireP
import Derived.Test.YtgmhndlebndlcaaAEsa
namespace Go.AEX
open Go Go.AE Go.Proofs
set_option maxRecDepth 100000
set_option linter.unusedVariables false
set_option linter.unusedSimpArgs false

theorem rnum_bits {n C k : Nat} (hn : n < 128 ^ k) (hk : k ≤ 9) (hC : C < 256) (h9 : k = 9 → C ≤ 1) :
    iwrap .u64 ((n : Int) + iwrap .u64 (iwrap .u64 ((C : Int).tmod 128) * ((128 ^ k : Nat) : Int))) = ((n + C % 128 * 128 ^ k : Nat) : Int) := by
  obtain ⟨hb, _⟩ := num_bits (C := C) hn hk hC h9
  have e0 : (C : Int).tmod 128 = ((C % 128 : Nat) : Int) := by rw [Int.tmod_eq_emod_of_nonneg (by omega)]; omega
  have e1 : iwrap .u64 ((C % 128 : Nat) : Int) = ((C % 128 : Nat) : Int) := by rw [iwrap_u64]; omega
  have e2 : ((C % 128 : Nat) : Int) * ((128 ^ k : Nat) : Int) = ((C % 128 * 128 ^ k : Nat) : Int) := by push_cast; rfl
  rw [e0, e1, e2]
  have e3 : iwrap .u64 ((C % 128 * 128 ^ k : Nat) : Int) = ((C % 128 * 128 ^ k : Nat) : Int) := by rw [iwrap_u64]; omega
  rw [e3, iwrap_u64]
  omega
theorem rraw_spec (s : List UInt8) (e n : Int) : Tri Try.prog 62 [.agg [.str s, .int .i64 e], .int .i64 n] []
    (fun v m => v = .tup [.agg [.str (rawF (s, e) n).1.1, .int .i64 (rawF (s, e) n).1.2], .str (rawF (s, e) n).2] ∧ m = []) := by
  refine Tri.post ?_
  refine (Tri.enter (rl := r62) (code := c62) (by kernel_rfl) Try.func62 rfl c62_ok (by kernel_rfl) (by kernel_rfl) ?_)
  refine run_ok 4000 _ _ _ _ ?_
  simp (maxSteps := 10000000) only [go_sem, c62, r62]
  refine ⟨fun h1 => ?_, fun h1 => ⟨fun h2 => ?_, fun h2 => ⟨fun h3 => ?_, fun h3 => ?_⟩⟩⟩
  · have h1 : e ≠ 0 := by simpa using h1
    have hr : rawF (s, e) n = ((s, e), []) := by simp [rawF, h1]
    rw [hr]
    refine ⟨_, _, .sub [] ?_ .done, rfl, rfl⟩
    simp only [EmbV, go_sem]
  · have hr : rawF (s, e) n = ((s, e), []) := by simp [rawF, h2]
    rw [hr]
    refine ⟨_, _, .sub [] ?_ .done, rfl, rfl⟩
    simp only [EmbV, go_sem]
  · have h1 : e = 0 := by simpa using h1
    have hr : rawF (s, e) n = (([], 1), []) := by unfold rawF; rw [if_neg (by simp only; omega), if_pos h3]
    rw [hr]
    refine ⟨_, _, .sub [] ?_ .done, rfl, rfl⟩
    simp only [EmbV, go_sem]
  · have h1 : e = 0 := by simpa using h1
    have hr : rawF (s, e) n = ((s.drop n.toNat, 0), s.take n.toNat) := by unfold rawF; rw [if_neg (by simp only; omega), if_neg h3]
    rw [hr]
    have hb : 0 ≤ n ∧ n ≤ (s.length : Int) := ⟨by omega, by omega⟩
    skip
    refine sem_drawG l62_0_ok (by kernel_rfl) ?_
    intro KK hKK
    simp (maxSteps := 10000000) only [go_sem, l62_0, hb.1, hb.2]
    subst hKK
    simp (maxSteps := 10000000) only [go_sem, hb.1, hb.2]
    refine ⟨_, _, .sub [] ?_ .done, rfl, rfl⟩
    simp only [EmbV, go_sem]
theorem rfail_spec (s : List UInt8) (e f : Int) : Tri Try.prog 63 [.agg [.str s, .int .i64 e], .int .i64 f] []
    (fun v m => v = .agg [.str (failF (s, e) f).1, .int .i64 (failF (s, e) f).2] ∧ m = []) := by
  refine Tri.post ?_
  refine (Tri.enter (rl := r63) (code := c63) (by kernel_rfl) Try.func63 rfl c63_ok (by kernel_rfl) (by kernel_rfl) ?_)
  refine run_ok 4000 _ _ _ _ ?_
  simp (maxSteps := 10000000) only [go_sem, c63, r63]
  refine ⟨fun h1 => ⟨fun h2 => ?_, fun h2 => ?_⟩, fun h1 => ?_⟩
  · have h1 : e = 0 := by simpa using h1
    have h2 : f ≠ 0 := by simpa using h2
    rw [show failF (s, e) f = ([], f) by simp [failF, h1, h2]]
    refine ⟨_, _, .sub [] ?_ .done, rfl, rfl⟩
    simp only [EmbV, go_sem]
  · have h2 : f = 0 := by simpa using h2
    rw [show failF (s, e) f = (s, e) by simp [failF, h2]]
    refine ⟨_, _, .sub [] ?_ .done, rfl, rfl⟩
    simp only [EmbV, go_sem]
  · have h1 : e ≠ 0 := by simpa using h1
    rw [show failF (s, e) f = (s, e) by simp [failF, h1]]
    refine ⟨_, _, .sub [] ?_ .done, rfl, rfl⟩
    simp only [EmbV, go_sem]
theorem pow_spec (k : Nat) (hk : k ≤ 9) : Tri Try.prog 67 [.int .i64 (k : Nat)] [] (fun v m => v = .int .u64 (128 ^ k : Nat) ∧ m = []) := by
  refine Tri.post ?_
  refine (Tri.enter (rl := r67) (code := c67) (by kernel_rfl) Try.func67 rfl c67_ok (by kernel_rfl) (by kernel_rfl) ?_)
  refine run_ok 4000 _ _ _ _ ?_
  simp (maxSteps := 10000000) only [go_sem, c67, r67]
  refine sem_rounds (fun i : Nat => i ≤ k) (fun i => [(0, .int .i64 (k : Nat)), (3, .int .u64 (128 ^ i : Nat)), (4, .int .i64 (i : Nat))]) (fun i => []) (fun i => k - i) 0 [] (Nat.zero_le _) ?_ ?_
  · simp only [Emb, go_sem]; simp
  intro i hi
  refine run_ok 4000 _ _ _ _ ?_
  simp (maxSteps := 10000000) only [go_sem]
  refine ⟨fun hlt => ?_, fun hge => ?_⟩
  · have hlt : i < k := by omega
    have hp : 128 ^ (i + 1) ≤ 128 ^ 9 := Nat.pow_le_pow_right (by decide) (by omega)
    have he : (128 : Nat) ^ 9 = 9223372036854775808 := by decide
    have hw : iwrap .u64 (((128 ^ i : Nat) : Int) * 128) = ((128 ^ (i + 1) : Nat) : Int) := by
      rw [Nat.pow_succ] at hp ⊢
      rw [he] at hp
      generalize 128 ^ i = p at *
      rw [iwrap_u64]; omega
    refine ⟨i + 1, by omega, hlt, [], ?_⟩
    simp only [Emb, go_sem, hw, inc64 (show i < 1000000000000 by omega)]
  · have : i = k := by omega
    subst this
    refine run_ok 4000 _ _ _ _ ?_
    simp (maxSteps := 10000000) only [go_sem]
    refine ⟨_, _, .sub [] ?_ .done, rfl, rfl⟩
    simp only [EmbV, go_sem]
theorem rnum_take (s : List UInt8) (e : Int) : Tri Try.prog 57 [.agg [.str s, .int .i64 e]] []
    (fun v m => v = .tup [.agg [.str (numI (s, e)).2.1, .int .i64 (numI (s, e)).2.2], .int .u64 ((numI (s, e)).1 : Nat)] ∧ m = []) := by
  by_cases he : e = 0
  · subst he
    have hnum : numI (s, 0) = tk 0 0 s := by simp [numI]
    rw [hnum]
    refine Tri.post ?_
    refine (Tri.enter (rl := r57) (code := c57) (by kernel_rfl) Try.func57 rfl c57_ok (by kernel_rfl) (by kernel_rfl) ?_)
    refine run_ok 4000 _ _ _ _ ?_
    simp (maxSteps := 10000000) only [go_sem, c57, r57]
    refine sem_rounds (fun x : Nat × Nat × List UInt8 => x.1 ≤ 9 ∧ x.2.1 < 128 ^ x.1 ∧ tk x.1 x.2.1 x.2.2 = tk 0 0 s) (fun x => [(1, .pbox 0 0), (2, .pbox 1 0), (4, .int .u64 (x.2.1 : Nat)), (5, .int .i64 (x.1 : Nat))])
      (fun x => [.box [.str x.2.2, .int .i64 0], .box [.str [], .int .i64 0]]) (fun x => 10 - x.1) (0, 0, s) [0, 1] ⟨by simp, by simp, rfl⟩ ?_ ?_
    · simp only [Emb, go_sem]
    rintro ⟨k, n, r⟩ ⟨h1, h2, h3⟩
    simp only at h1 h2 h3
    have hk11 : (k : Int) < 11 := by omega
    have hinc := inc64 (show k < 1000000000000 by omega)
    cases r with
    | nil =>
      have htk : tk 0 0 s = (0, [], 1) := by rw [← h3]; rfl
      have hr : rawF ([], 0) 1 = (([], 1), []) := by decide
      skip
      refine run_ok 4000 _ _ _ _ ?_
      simp (maxSteps := 10000000) only [go_sem, hr, hk11]
      refine sem_call rfl rfl (((rraw_spec [] 0 1).embed [] rfl trivial rfl rfl rfl (by simp)).mono ?_)
      rintro _ _ ⟨_, _, ⟨rfl, rfl⟩, rfl, rfl⟩
      refine run_ok 4000 _ _ _ _ ?_
      simp (maxSteps := 10000000) only [go_sem, hr, hk11]
      refine ⟨_, _, .sub [] ?_ .done, rfl, rfl⟩
      simp only [EmbV, go_sem, htk, Int.natCast_zero]
    | cons c r =>
      have hr : rawF (c :: r, 0) 1 = ((r, 0), [c]) := by simp [rawF]; omega
      have hs : sget [c] 0 = (c.toNat : Int) := by simp [sget]
      have hc256 := c.toNat_lt
      generalize hc : c.toNat = C at *
      simp only [tk, hc] at h3
      by_cases k0 : 0 < k
      · have g1 : (k : Int) > 0 := by omega
        by_cases c0 : C = 0
        · have g2 : ((C : Int) == 0) = true := by simp [c0]
          rw [if_pos (.inl ⟨c0, k0⟩)] at h3
          skip
          refine run_ok 4000 _ _ _ _ ?_
          simp (maxSteps := 10000000) only [go_sem, hr, hs, hk11, hinc, g1, g2, rfl_len1]
          refine sem_call rfl rfl (((rraw_spec (c :: r) 0 1).embed [] rfl trivial rfl rfl rfl (by simp)).mono ?_)
          rintro _ _ ⟨_, _, ⟨rfl, rfl⟩, rfl, rfl⟩
          refine run_ok 4000 _ _ _ _ ?_
          simp (maxSteps := 10000000) only [go_sem, hr, hs, hk11, hinc, g1, g2, rfl_len1]
          refine ⟨_, _, .sub [] ?_ .done, rfl, rfl⟩
          simp only [EmbV, go_sem, ← h3, Int.natCast_zero]
        · have g2 : ((C : Int) == 0) = false := by simp [c0]
          by_cases k9 : k = 9
          · have g3 : ((k : Int) == 9) = true := by simp [k9]
            by_cases c1 : 1 < C
            · have g4 : (C : Int) > 1 := by omega
              rw [if_pos (.inr ⟨k9, c1⟩)] at h3
              skip
              refine run_ok 4000 _ _ _ _ ?_
              simp (maxSteps := 10000000) only [go_sem, hr, hs, hk11, hinc, g1, g2, g3, g4, rfl_len1]
              refine sem_call rfl rfl (((rraw_spec (c :: r) 0 1).embed [] rfl trivial rfl rfl rfl (by simp)).mono ?_)
              rintro _ _ ⟨_, _, ⟨rfl, rfl⟩, rfl, rfl⟩
              refine run_ok 4000 _ _ _ _ ?_
              simp (maxSteps := 10000000) only [go_sem, hr, hs, hk11, hinc, g1, g2, g3, g4, rfl_len1]
              refine ⟨_, _, .sub [] ?_ .done, rfl, rfl⟩
              simp only [EmbV, go_sem, ← h3, Int.natCast_zero]
            · have g4 : ¬ (C : Int) > 1 := by omega
              rw [if_neg (by omega)] at h3
              have hor := rnum_bits (C := C) h2 h1 (by omega) (by omega)
              skip
              refine run_ok 4000 _ _ _ _ ?_
              simp (maxSteps := 10000000) only [go_sem, hr, hs, hk11, hinc, g1, g2, g3, g4, hor, rfl_len1]
              refine sem_call rfl rfl (((rraw_spec (c :: r) 0 1).embed [] rfl trivial rfl rfl rfl (by simp)).mono ?_)
              rintro _ _ ⟨_, _, ⟨rfl, rfl⟩, rfl, rfl⟩
              refine run_ok 4000 _ _ _ _ ?_
              simp (maxSteps := 10000000) only [go_sem, hr, hs, hk11, hinc, g1, g2, g3, g4, hor, rfl_len1]
              refine sem_drawG l57_0_ok (by kernel_rfl) ?_
              intro KK hKK
              simp (maxSteps := 10000000) only [go_sem, l57_0, hr, hs, hk11, hinc, g1, g2, g3, g4, hor, rfl_len1]
              refine TriZ.of (((pow_spec k h1).embed [] rfl (by repeat' first | exact trivial | rfl | (simp only [go_sem]; done) | constructor) rfl (by first | rfl | simp only [go_sem]) rfl (by simp)).mono ?_)
              rintro _ _ ⟨_, _, ⟨rfl, rfl⟩, rfl, rfl⟩
              simp (maxSteps := 10000000) only [go_sem, hr, hs, hk11, hinc, g1, g2, g3, g4, hor, rfl_len1]
              subst hKK
              simp (maxSteps := 10000000) only [go_sem, hr, hs, hk11, hinc, g1, g2, g3, g4, hor, rfl_len1]
              refine ⟨fun hlt => ?_, fun hge => ?_⟩
              · rw [if_pos (by omega)] at h3
                refine ⟨_, _, .sub [] ?_ .done, rfl, rfl⟩
                simp only [EmbV, go_sem, ← h3]
              · rw [if_neg (by omega)] at h3
                refine ⟨(k + 1, n + C % 128 * 128 ^ k, r), by simp only; omega, ⟨by simp only; omega, ?_, h3⟩, [0, 1], ?_⟩
                · simp only
                  rw [Nat.pow_succ]
                  have hp : 0 < 128 ^ k := Nat.pow_pos (by decide)
                  have : C % 128 * 128 ^ k ≤ 127 * 128 ^ k := Nat.mul_le_mul_right _ (by omega)
                  omega
                · simp only [Emb, go_sem]
          · have g3 : ((k : Int) == 9) = false := by simp; omega
            rw [if_neg (by omega)] at h3
            have hor := rnum_bits (C := C) h2 h1 (by omega) (by omega)
            skip
            refine run_ok 4000 _ _ _ _ ?_
            simp (maxSteps := 10000000) only [go_sem, hr, hs, hk11, hinc, g1, g2, g3, hor, rfl_len1]
            refine sem_call rfl rfl (((rraw_spec (c :: r) 0 1).embed [] rfl trivial rfl rfl rfl (by simp)).mono ?_)
            rintro _ _ ⟨_, _, ⟨rfl, rfl⟩, rfl, rfl⟩
            refine run_ok 4000 _ _ _ _ ?_
            simp (maxSteps := 10000000) only [go_sem, hr, hs, hk11, hinc, g1, g2, g3, hor, rfl_len1]
            refine sem_drawG l57_0_ok (by kernel_rfl) ?_
            intro KK hKK
            simp (maxSteps := 10000000) only [go_sem, l57_0, hr, hs, hk11, hinc, g1, g2, g3, hor, rfl_len1]
            refine TriZ.of (((pow_spec k h1).embed [] rfl (by repeat' first | exact trivial | rfl | (simp only [go_sem]; done) | constructor) rfl (by first | rfl | simp only [go_sem]) rfl (by simp)).mono ?_)
            rintro _ _ ⟨_, _, ⟨rfl, rfl⟩, rfl, rfl⟩
            simp (maxSteps := 10000000) only [go_sem, hr, hs, hk11, hinc, g1, g2, g3, hor, rfl_len1]
            subst hKK
            simp (maxSteps := 10000000) only [go_sem, hr, hs, hk11, hinc, g1, g2, g3, hor, rfl_len1]
            refine ⟨fun hlt => ?_, fun hge => ?_⟩
            · rw [if_pos (by omega)] at h3
              refine ⟨_, _, .sub [] ?_ .done, rfl, rfl⟩
              simp only [EmbV, go_sem, ← h3]
            · rw [if_neg (by omega)] at h3
              refine ⟨(k + 1, n + C % 128 * 128 ^ k, r), by simp only; omega, ⟨by simp only; omega, ?_, h3⟩, [0, 1], ?_⟩
              · simp only
                rw [Nat.pow_succ]
                have hp : 0 < 128 ^ k := Nat.pow_pos (by decide)
                have : C % 128 * 128 ^ k ≤ 127 * 128 ^ k := Nat.mul_le_mul_right _ (by omega)
                omega
              · simp only [Emb, go_sem]
      · have g1 : ¬ (k : Int) > 0 := by omega
        have g3 : ((k : Int) == 9) = false := by simp; omega
        rw [if_neg (by omega)] at h3
        have hor := rnum_bits (C := C) h2 h1 (by omega) (by omega)
        skip
        refine run_ok 4000 _ _ _ _ ?_
        simp (maxSteps := 10000000) only [go_sem, hr, hs, hk11, hinc, g1, g3, hor, rfl_len1]
        refine sem_call rfl rfl (((rraw_spec (c :: r) 0 1).embed [] rfl trivial rfl rfl rfl (by simp)).mono ?_)
        rintro _ _ ⟨_, _, ⟨rfl, rfl⟩, rfl, rfl⟩
        refine run_ok 4000 _ _ _ _ ?_
        simp (maxSteps := 10000000) only [go_sem, hr, hs, hk11, hinc, g1, g3, hor, rfl_len1]
        refine sem_drawG l57_0_ok (by kernel_rfl) ?_
        intro KK hKK
        simp (maxSteps := 10000000) only [go_sem, l57_0, hr, hs, hk11, hinc, g1, g3, hor, rfl_len1]
        refine TriZ.of (((pow_spec k h1).embed [] rfl (by repeat' first | exact trivial | rfl | (simp only [go_sem]; done) | constructor) rfl (by first | rfl | simp only [go_sem]) rfl (by simp)).mono ?_)
        rintro _ _ ⟨_, _, ⟨rfl, rfl⟩, rfl, rfl⟩
        simp (maxSteps := 10000000) only [go_sem, hr, hs, hk11, hinc, g1, g3, hor, rfl_len1]
        subst hKK
        simp (maxSteps := 10000000) only [go_sem, hr, hs, hk11, hinc, g1, g3, hor, rfl_len1]
        refine ⟨fun hlt => ?_, fun hge => ?_⟩
        · rw [if_pos (by omega)] at h3
          refine ⟨_, _, .sub [] ?_ .done, rfl, rfl⟩
          simp only [EmbV, go_sem, ← h3]
        · rw [if_neg (by omega)] at h3
          refine ⟨(k + 1, n + C % 128 * 128 ^ k, r), by simp only; omega, ⟨by simp only; omega, ?_, h3⟩, [0, 1], ?_⟩
          · simp only
            rw [Nat.pow_succ]
            have hp : 0 < 128 ^ k := Nat.pow_pos (by decide)
            have : C % 128 * 128 ^ k ≤ 127 * 128 ^ k := Nat.mul_le_mul_right _ (by omega)
            omega
          · simp only [Emb, go_sem]
  · skip
    have hnum : numI (s, e) = (0, s, e) := by simp [numI, he]
    rw [hnum]
    have he' : (e != 0) = true := by simp [he]
    have hr : rawF (s, e) 1 = ((s, e), []) := by simp [rawF, he]
    refine Tri.post ?_
    refine (Tri.enter (rl := r57) (code := c57) (by kernel_rfl) Try.func57 rfl c57_ok (by kernel_rfl) (by kernel_rfl) ?_)
    refine run_ok 4000 _ _ _ _ ?_
    simp (maxSteps := 10000000) only [go_sem, c57, r57]
    refine sem_rounds (fun x : Unit => True) (fun x => [(1, .pbox 0 0), (2, .pbox 1 0), (4, .int .u64 0), (5, .int .i64 0)])
      (fun x => [.box [.str s, .int .i64 e], .box [.str [], .int .i64 0]]) (fun x => 0) () [0, 1] trivial ?_ ?_
    · simp only [Emb, go_sem]
    rintro _ _
    skip
    refine run_ok 4000 _ _ _ _ ?_
    simp (maxSteps := 10000000) only [go_sem, he', hr]
    refine sem_call rfl rfl (((rraw_spec s e 1).embed [] rfl trivial rfl rfl rfl (by simp)).mono ?_)
    rintro _ _ ⟨_, _, ⟨rfl, rfl⟩, rfl, rfl⟩
    refine run_ok 4000 _ _ _ _ ?_
    simp (maxSteps := 10000000) only [go_sem, he', hr]
    refine ⟨_, _, .sub [] ?_ .done, rfl, rfl⟩
    simp only [EmbV, go_sem, Int.natCast_zero]
theorem rtakeInt_spec (s : List UInt8) (e : Int) : Tri Try.prog 58 [.agg [.str s, .int .i64 e]] []
    (fun v m => v = .tup [.agg [.str (numI (s, e)).2.1, .int .i64 (numI (s, e)).2.2], .int .i64 (sg (numI (s, e)).1)] ∧ m = []) := by
  refine Tri.post ?_
  have hlt := numI_lt (s, e)
  have hnt := rnum_take s e
  generalize numI (s, e) = R at *
  obtain ⟨n, r, f⟩ := R
  simp only at hlt hnt
  have q1 : ((n : Int).tmod 2 == 1) = decide (n % 2 = 1) := by
    rw [Int.tmod_eq_emod_of_nonneg (by omega), Bool.eq_iff_iff]; simp; omega
  have q2 : iwrap .i64 (iwrap .u64 ((n : Int).tdiv 2)) = ((n / 2 : Nat) : Int) := by
    rw [Int.tdiv_eq_ediv_of_nonneg (by omega), iwrap_u64, iwrap_i64_in (by omega)]; omega
  have q3 : iwrap .i64 (iwrap .i64 (0 - ((n / 2 : Nat) : Int)) - 1) = -((n / 2 : Nat) : Int) - 1 := by
    rw [iwrap_i64_in (n := 0 - ((n / 2 : Nat) : Int)) (by omega), iwrap_i64_in (by omega)]; omega
  by_cases ho : n % 2 = 1
  · have q1' : ((n : Int).tmod 2 == 1) = true := by rw [q1]; exact decide_eq_true ho
    have hsg : sg n = -((n / 2 : Nat) : Int) - 1 := by unfold sg; rw [if_neg (by omega)]
    skip
    refine (Tri.enter (rl := r58) (code := c58) (by kernel_rfl) Try.func58 rfl c58_ok (by kernel_rfl) (by kernel_rfl) ?_)
    refine run_ok 4000 _ _ _ _ ?_
    simp (maxSteps := 10000000) only [go_sem, c58, r58, q1', q2, q3]
    refine sem_call rfl rfl (((hnt).embed [] rfl trivial rfl rfl rfl (by simp)).mono ?_)
    rintro _ _ ⟨_, _, ⟨rfl, rfl⟩, rfl, rfl⟩
    refine run_ok 4000 _ _ _ _ ?_
    simp (maxSteps := 10000000) only [go_sem, q1', q2, q3]
    refine ⟨_, _, .sub [] ?_ .done, rfl, rfl⟩
    simp only [EmbV, go_sem, hsg]
  · have q1' : ((n : Int).tmod 2 == 1) = false := by rw [q1]; exact decide_eq_false ho
    have hsg : sg n = ((n / 2 : Nat) : Int) := by unfold sg; rw [if_pos (by omega)]
    skip
    refine (Tri.enter (rl := r58) (code := c58) (by kernel_rfl) Try.func58 rfl c58_ok (by kernel_rfl) (by kernel_rfl) ?_)
    refine run_ok 4000 _ _ _ _ ?_
    simp (maxSteps := 10000000) only [go_sem, c58, r58, q1', q2]
    refine sem_call rfl rfl (((hnt).embed [] rfl trivial rfl rfl rfl (by simp)).mono ?_)
    rintro _ _ ⟨_, _, ⟨rfl, rfl⟩, rfl, rfl⟩
    refine run_ok 4000 _ _ _ _ ?_
    simp (maxSteps := 10000000) only [go_sem, q1', q2]
    refine ⟨_, _, .sub [] ?_ .done, rfl, rfl⟩
    simp only [EmbV, go_sem, hsg]
theorem rtakeCount_spec (s : List UInt8) (e most : Int) (hm : I64 most) : Tri Try.prog 60 [.agg [.str s, .int .i64 e], .int .i64 most] []
    (fun v m => v = .tup [.agg [.str (countF (s, e) most).1.1, .int .i64 (countF (s, e) most).1.2], .int .i64 (countF (s, e) most).2] ∧ m = []) := by
  refine Tri.post ?_
  have hz := posN_cvt hm
  have hnt := rnum_take s e
  have hc : countF (s, e) most = if ((numI (s, e)).1 : Int) > (posN most : Int) then (failF (numI (s, e)).2 3, 0) else ((numI (s, e)).2, ((numI (s, e)).1 : Int)) := rfl
  rw [hc]
  generalize numI (s, e) = R at *
  obtain ⟨n, r, f⟩ := R
  simp only at hnt
  have hp : (posN most : Int) ≤ 9223372036854775807 := by unfold posN I64 at *; omega
  by_cases h : (n : Int) > (posN most : Int)
  · rw [if_pos h]
    skip
    refine (Tri.enter (rl := r60) (code := c60) (by kernel_rfl) Try.func60 rfl c60_ok (by kernel_rfl) (by kernel_rfl) ?_)
    refine run_ok 4000 _ _ _ _ ?_
    simp (maxSteps := 10000000) only [go_sem, c60, r60, hz, h]
    refine sem_call rfl rfl (((hnt).embed [] rfl trivial rfl rfl rfl (by simp)).mono ?_)
    rintro _ _ ⟨_, _, ⟨rfl, rfl⟩, rfl, rfl⟩
    refine run_ok 4000 _ _ _ _ ?_
    simp (maxSteps := 10000000) only [go_sem, hz, h]
    refine sem_call rfl rfl (((rfail_spec r f 3).embed [] rfl trivial rfl rfl rfl (by simp)).mono ?_)
    rintro _ _ ⟨_, _, ⟨rfl, rfl⟩, rfl, rfl⟩
    refine run_ok 4000 _ _ _ _ ?_
    simp (maxSteps := 10000000) only [go_sem, hz, h]
    refine ⟨_, _, .sub [] ?_ .done, rfl, rfl⟩
    simp only [EmbV, go_sem]
  · have hw : iwrap .i64 (n : Int) = (n : Int) := iwrap_i64_in (by omega)
    rw [if_neg h]
    skip
    refine (Tri.enter (rl := r60) (code := c60) (by kernel_rfl) Try.func60 rfl c60_ok (by kernel_rfl) (by kernel_rfl) ?_)
    refine run_ok 4000 _ _ _ _ ?_
    simp (maxSteps := 10000000) only [go_sem, c60, r60, hz, h, hw]
    refine sem_call rfl rfl (((hnt).embed [] rfl trivial rfl rfl rfl (by simp)).mono ?_)
    rintro _ _ ⟨_, _, ⟨rfl, rfl⟩, rfl, rfl⟩
    refine run_ok 4000 _ _ _ _ ?_
    simp (maxSteps := 10000000) only [go_sem, hz, h, hw]
    refine ⟨_, _, .sub [] ?_ .done, rfl, rfl⟩
    simp only [EmbV, go_sem]
theorem rtakeStr_spec (s : List UInt8) (e most : Int) (hm : I64 most) : Tri Try.prog 61 [.agg [.str s, .int .i64 e], .int .i64 most] []
    (fun v m => v = .tup [.agg [.str (strF (s, e) most).1.1, .int .i64 (strF (s, e) most).1.2], .str (strF (s, e) most).2] ∧ m = []) := by
  refine Tri.post ?_
  refine (Tri.enter (rl := r61) (code := c61) (by kernel_rfl) Try.func61 rfl c61_ok (by kernel_rfl) (by kernel_rfl) ?_)
  refine run_ok 4000 _ _ _ _ ?_
  simp (maxSteps := 10000000) only [go_sem, c61, r61]
  refine sem_call rfl rfl (((rtakeCount_spec s e most hm).embed [] rfl trivial rfl rfl rfl (by simp)).mono ?_)
  rintro _ _ ⟨_, _, ⟨rfl, rfl⟩, rfl, rfl⟩
  refine run_ok 4000 _ _ _ _ ?_
  simp (maxSteps := 10000000) only [go_sem]
  refine sem_call rfl rfl (((rraw_spec (countF (s, e) most).1.1 (countF (s, e) most).1.2 (countF (s, e) most).2).embed [] rfl trivial rfl rfl rfl (by simp)).mono ?_)
  rintro _ _ ⟨_, _, ⟨rfl, rfl⟩, rfl, rfl⟩
  refine run_ok 4000 _ _ _ _ ?_
  simp (maxSteps := 10000000) only [go_sem]
  refine ⟨_, _, .sub [] ?_ .done, rfl, rfl⟩
  simp only [EmbV, go_sem, strF]
theorem rend_spec (s : List UInt8) (e : Int) : Tri Try.prog 32 [.agg [.str s, .int .i64 e]] [] (fun v m => v = .int .i64 (endF (s, e)).2 ∧ m = []) := by
  refine Tri.post ?_
  have hq := seqb_iff s []
  by_cases he : e = 0
  · have he' : (e == 0) = true := by simp [he]
    by_cases hs : s = []
    · have h1 : seqb s [] = true := by rw [hq]; exact decide_eq_true hs
      have h2 : endF (s, e) = (s, e) := by simp [endF, hs]
      rw [h2]
      skip
      refine (Tri.enter (rl := r32) (code := c32) (by kernel_rfl) Try.func32 rfl c32_ok (by kernel_rfl) (by kernel_rfl) ?_)
      refine run_ok 4000 _ _ _ _ ?_
      simp (maxSteps := 10000000) only [go_sem, c32, r32, he', h1]
      refine ⟨_, _, .sub [] ?_ .done, rfl, rfl⟩
      simp only [EmbV, go_sem]
    · have h1 : seqb s [] = false := by rw [hq]; exact decide_eq_false hs
      have h2 : (endF (s, e)).2 = 2 := by simp [endF, hs, failF, he]
      rw [h2]
      skip
      refine (Tri.enter (rl := r32) (code := c32) (by kernel_rfl) Try.func32 rfl c32_ok (by kernel_rfl) (by kernel_rfl) ?_)
      refine run_ok 4000 _ _ _ _ ?_
      simp (maxSteps := 10000000) only [go_sem, c32, r32, he', h1]
      refine ⟨_, _, .sub [] ?_ .done, rfl, rfl⟩
      simp only [EmbV, go_sem]
  · have he' : (e == 0) = false := by simp [he]
    have h2 : (endF (s, e)).2 = e := by
      unfold endF failF; simp [he]
    rw [h2]
    skip
    refine (Tri.enter (rl := r32) (code := c32) (by kernel_rfl) Try.func32 rfl c32_ok (by kernel_rfl) (by kernel_rfl) ?_)
    refine run_ok 4000 _ _ _ _ ?_
    simp (maxSteps := 10000000) only [go_sem, c32, r32, he']
    refine ⟨_, _, .sub [] ?_ .done, rfl, rfl⟩
    simp only [EmbV, go_sem]
def takeS (x : List UInt8 × Int) (k n : Int) : List UInt8 × Int :=
  if k = 1 then (numI x).2 else if k = 2 then (numI x).2 else if k = 3 then (countF x n).1 else if k = 4 then (strF x n).1 else if k = 5 then (rawF x n).1 else if k = 6 then failF x (ibits .and .i64 n 7) else x
theorem take_spec (s : List UInt8) (e k n : Int) (hn : I64 n) : Tri Try.prog 30 [.pbox 0 0, .agg [.str s, .int .i64 e], .agg [.int .i64 k, .int .i64 n]] (inM s e)
    (fun v m => v = .tup [.agg [.str (takeS (s, e) k n).1, .int .i64 (takeS (s, e) k n).2], .bsym true] ∧ m = inM (takeS (s, e) k n).1 (takeS (s, e) k n).2) := by
  refine Tri.post ?_
  unfold inM
  generalize hT : takeS (s, e) k n = T
  unfold takeS at hT
  have n1 := inum_spec s e; have n2 := rnum_take s e; have n3 := iint_spec s e; have n4 := rtakeInt_spec s e
  have n5 := icount_spec s e n hn; have n6 := rtakeCount_spec s e n hn; have n7 := istr_spec s e n hn; have n8 := rtakeStr_spec s e n hn
  have n9 := raw_spec s e n; have n10 := rraw_spec s e n; have n11 := fail_spec s e (ibits .and .i64 n 7); have n12 := rfail_spec s e (ibits .and .i64 n 7)
  unfold inM at n1 n3 n5 n7 n9 n11
  refine (Tri.enter (rl := r30) (code := c30) (by kernel_rfl) Try.func30 rfl c30_ok (by kernel_rfl) (by kernel_rfl) ?_)
  refine run_ok 4000 _ _ _ _ ?_
  simp (maxSteps := 10000000) only [go_sem, c30, r30]
  refine ⟨fun h1 => ?_, fun h1 => ⟨fun h2 => ?_, fun h2 => ⟨fun h3 => ?_, fun h3 => ⟨fun h4 => ?_, fun h4 => ⟨fun h5 => ?_, fun h5 => ⟨fun h6 => ?_, fun h6 => ?_⟩⟩⟩⟩⟩⟩
  · have h1 : k = 1 := by simpa using h1
    rw [if_pos h1] at hT
    refine sem_call rfl rfl (((n1).embed [0] rfl (by repeat' first | exact trivial | rfl | (simp only [go_sem]; done) | constructor) rfl (by first | rfl | simp only [go_sem]) rfl (by simp)).mono ?_)
    rintro _ _ ⟨_, _, ⟨rfl, rfl⟩, rfl, rfl⟩
    refine run_ok 4000 _ _ _ _ ?_
    simp (maxSteps := 10000000) only [go_sem]
    refine sem_call rfl rfl (((n2).embed [] rfl trivial rfl rfl rfl (by simp)).mono ?_)
    rintro _ _ ⟨_, _, ⟨rfl, rfl⟩, rfl, rfl⟩
    refine run_ok 4000 _ _ _ _ ?_
    simp (maxSteps := 10000000) only [go_sem]
    refine ⟨_, _, .sub [0] ?_ .done, rfl, rfl⟩
    simp only [EmbV, go_sem, hT]
  · have h1 : k ≠ 1 := by simpa using h1
    have h2 : k = 2 := by simpa using h2
    rw [if_neg h1, if_pos h2] at hT
    refine sem_call rfl rfl (((n3).embed [0] rfl (by repeat' first | exact trivial | rfl | (simp only [go_sem]; done) | constructor) rfl (by first | rfl | simp only [go_sem]) rfl (by simp)).mono ?_)
    rintro _ _ ⟨_, _, ⟨rfl, rfl⟩, rfl, rfl⟩
    refine run_ok 4000 _ _ _ _ ?_
    simp (maxSteps := 10000000) only [go_sem]
    refine sem_call rfl rfl (((n4).embed [] rfl trivial rfl rfl rfl (by simp)).mono ?_)
    rintro _ _ ⟨_, _, ⟨rfl, rfl⟩, rfl, rfl⟩
    refine run_ok 4000 _ _ _ _ ?_
    simp (maxSteps := 10000000) only [go_sem]
    refine ⟨_, _, .sub [0] ?_ .done, rfl, rfl⟩
    simp only [EmbV, go_sem, hT]
  · have h1 : k ≠ 1 := by simpa using h1
    have h2 : k ≠ 2 := by simpa using h2
    have h3 : k = 3 := by simpa using h3
    rw [if_neg h1, if_neg h2, if_pos h3] at hT
    refine sem_call rfl rfl (((n5).embed [0] rfl (by repeat' first | exact trivial | rfl | (simp only [go_sem]; done) | constructor) rfl (by first | rfl | simp only [go_sem]) rfl (by simp)).mono ?_)
    rintro _ _ ⟨_, _, ⟨rfl, rfl⟩, rfl, rfl⟩
    refine run_ok 4000 _ _ _ _ ?_
    simp (maxSteps := 10000000) only [go_sem]
    refine sem_call rfl rfl (((n6).embed [] rfl trivial rfl rfl rfl (by simp)).mono ?_)
    rintro _ _ ⟨_, _, ⟨rfl, rfl⟩, rfl, rfl⟩
    refine run_ok 4000 _ _ _ _ ?_
    simp (maxSteps := 10000000) only [go_sem]
    refine ⟨_, _, .sub [0] ?_ .done, rfl, rfl⟩
    simp only [EmbV, go_sem, hT]
  · have h1 : k ≠ 1 := by simpa using h1
    have h2 : k ≠ 2 := by simpa using h2
    have h3 : k ≠ 3 := by simpa using h3
    have h4 : k = 4 := by simpa using h4
    rw [if_neg h1, if_neg h2, if_neg h3, if_pos h4] at hT
    refine sem_call rfl rfl (((n7).embed [0] rfl (by repeat' first | exact trivial | rfl | (simp only [go_sem]; done) | constructor) rfl (by first | rfl | simp only [go_sem]) rfl (by simp)).mono ?_)
    rintro _ _ ⟨_, _, ⟨rfl, rfl⟩, rfl, rfl⟩
    refine run_ok 4000 _ _ _ _ ?_
    simp (maxSteps := 10000000) only [go_sem]
    refine sem_call rfl rfl (((n8).embed [] rfl trivial rfl rfl rfl (by simp)).mono ?_)
    rintro _ _ ⟨_, _, ⟨rfl, rfl⟩, rfl, rfl⟩
    refine run_ok 4000 _ _ _ _ ?_
    simp (maxSteps := 10000000) only [go_sem]
    refine ⟨_, _, .sub [0] ?_ .done, rfl, rfl⟩
    simp only [EmbV, go_sem, hT]
  · have h1 : k ≠ 1 := by simpa using h1
    have h2 : k ≠ 2 := by simpa using h2
    have h3 : k ≠ 3 := by simpa using h3
    have h4 : k ≠ 4 := by simpa using h4
    have h5 : k = 5 := by simpa using h5
    rw [if_neg h1, if_neg h2, if_neg h3, if_neg h4, if_pos h5] at hT
    refine sem_call rfl rfl (((n9).embed [0] rfl (by repeat' first | exact trivial | rfl | (simp only [go_sem]; done) | constructor) rfl (by first | rfl | simp only [go_sem]) rfl (by simp)).mono ?_)
    rintro _ _ ⟨_, _, ⟨rfl, rfl⟩, rfl, rfl⟩
    refine run_ok 4000 _ _ _ _ ?_
    simp (maxSteps := 10000000) only [go_sem]
    refine sem_call rfl rfl (((n10).embed [] rfl trivial rfl rfl rfl (by simp)).mono ?_)
    rintro _ _ ⟨_, _, ⟨rfl, rfl⟩, rfl, rfl⟩
    refine run_ok 4000 _ _ _ _ ?_
    simp (maxSteps := 10000000) only [go_sem]
    refine ⟨_, _, .sub [0] ?_ .done, rfl, rfl⟩
    simp only [EmbV, go_sem, hT]
  · have h1 : k ≠ 1 := by simpa using h1
    have h2 : k ≠ 2 := by simpa using h2
    have h3 : k ≠ 3 := by simpa using h3
    have h4 : k ≠ 4 := by simpa using h4
    have h5 : k ≠ 5 := by simpa using h5
    have h6 : k = 6 := by simpa using h6
    rw [if_neg h1, if_neg h2, if_neg h3, if_neg h4, if_neg h5, if_pos h6] at hT
    refine sem_call rfl rfl (((n11).embed [0] rfl (by repeat' first | exact trivial | rfl | (simp only [go_sem]; done) | constructor) rfl (by first | rfl | simp only [go_sem]) rfl (by simp)).mono ?_)
    rintro _ _ ⟨_, _, ⟨rfl, rfl⟩, rfl, rfl⟩
    refine run_ok 4000 _ _ _ _ ?_
    simp (maxSteps := 10000000) only [go_sem]
    refine sem_call rfl rfl (((n12).embed [] rfl trivial rfl rfl rfl (by simp)).mono ?_)
    rintro _ _ ⟨_, _, ⟨rfl, rfl⟩, rfl, rfl⟩
    refine run_ok 4000 _ _ _ _ ?_
    simp (maxSteps := 10000000) only [go_sem]
    refine ⟨_, _, .like (Like.tup2 (Like.refl _) (Like.bsym true)) (.sub [0] ?_ .done), rfl, rfl⟩
    simp only [EmbV, go_sem, hT]
  · have h1 : k ≠ 1 := by simpa using h1
    have h2 : k ≠ 2 := by simpa using h2
    have h3 : k ≠ 3 := by simpa using h3
    have h4 : k ≠ 4 := by simpa using h4
    have h5 : k ≠ 5 := by simpa using h5
    have h6 : k ≠ 6 := by simpa using h6
    rw [if_neg h1, if_neg h2, if_neg h3, if_neg h4, if_neg h5, if_neg h6] at hT
    subst hT
    refine ⟨_, _, .like (Like.tup2 (Like.refl _) (Like.bsym true)) (.sub [0] ?_ .done), rfl, rfl⟩
    simp only [EmbV, go_sem]
theorem tk_row {x : List AV} (h : HasL [.int .i64, .int .i64] x) : ∃ a b, x = [.int .i64 a, .int .i64 b] ∧ I64 b := by
  simp only [HasL, Has] at h
  obtain ⟨_, _, rfl, ⟨a, rfl, _⟩, _, _, rfl, ⟨b, rfl, hb⟩, rfl⟩ := h
  exact ⟨a, b, rfl, by simp [Lit.wf, IntKind.min, IntKind.max, IntKind.bits, IntKind.signed] at hb; unfold I64; omega⟩
theorem wireTakes_spec (s : List UInt8) (hs : s.length ≤ 140737488351232) (l : AV) (hl : Has (.sl [.int .i64, .int .i64]) l) : Tri Try.prog 8 [.str s, l] [] (fun v m => v = .bool true) := by
  simp only [Has] at hl
  obtain ⟨xs, rfl, hxl, hx⟩ := hl
  simp only [List.length_cons, List.length_nil]
  refine (Tri.asB (Tri.enter (rl := r8) (code := c8) (by kernel_rfl) Try.func8 rfl c8_ok (by kernel_rfl) (by kernel_rfl) ?_))
  refine run_ok 4000 _ _ _ _ ?_
  simp (maxSteps := 10000000) only [go_sem, c8, r8]
  refine sem_call rfl rfl (((cut_spec s 120 (by decide)).embed [] rfl trivial rfl rfl rfl (by simp)).mono ?_)
  rintro _ _ ⟨_, _, ⟨rfl, rfl⟩, rfl, rfl⟩
  refine run_ok 4000 _ _ _ _ ?_
  simp (maxSteps := 10000000) only [go_sem]
  generalize List.take 120 s = S at *
  refine sem_call rfl rfl (((open_spec S).embed [] rfl (by repeat' first | exact trivial | rfl | (simp only [go_sem]; done) | constructor) rfl (by first | rfl | simp only [go_sem]) rfl (by simp)).mono ?_)
  rintro _ _ ⟨_, _, ⟨rfl, rfl⟩, rfl, rfl⟩
  refine run_ok 4000 _ _ _ _ ?_
  simp (maxSteps := 10000000) only [go_sem]
  refine sem_call rfl rfl (((awake02_spec).embed [] rfl trivial rfl rfl rfl (by simp)).mono ?_)
  rintro _ _ ⟨_, _, ⟨rfl, rfl⟩, rfl, rfl⟩
  refine run_ok 4000 _ _ _ _ ?_
  simp (maxSteps := 10000000) only [go_sem]
  refine sem_rounds (fun x : Nat × List UInt8 × Int => x.1 ≤ 15)
    (fun x => [(1, .vsl 2 xs false), (5, .pbox 0 0), (6, .pbox 1 0), (7, .int .i64 (x.1 : Nat))])
    (fun x => [.box [.str x.2.1, .int .i64 x.2.2], .box [.str x.2.1, .int .i64 x.2.2]]) (fun x => 15 - x.1) (0, S, 0) [0, 1] (by simp) ?_ ?_
  · simp only [Emb, go_sem]
  rintro ⟨i, r, e⟩ h1
  simp only at h1
  refine run_ok 4000 _ _ _ _ ?_
  simp (maxSteps := 10000000) only [go_sem]
  refine ⟨fun hlt => ⟨fun h60 => ?_, fun h60 => ?_⟩, fun hge => ?_⟩
  · have hlt : i < xs.length := by omega
    have hin : (i : Int) < (xs.length : Int) := by omega
    obtain ⟨k, n, hrow, hn⟩ := tk_row (hx _ (List.getElem_mem hlt))
    have hg0 : xs[i]? = some [.int .i64 k, .int .i64 n] := by rw [List.getElem?_eq_getElem hlt, hrow]
    have e0 : rint xs i 0 = k := by simp [rint, List.getD_eq_getElem?_getD, hg0]
    have e1 : rint xs i 1 = n := by simp [rint, List.getD_eq_getElem?_getD, hg0]
    have i0 : hasI .i64 xs i 0 := ⟨_, k, hg0, rfl⟩
    have i1 : hasI .i64 xs i 1 := ⟨_, n, hg0, rfl⟩
    have ct := take_spec r e k n hn
    generalize takeS (r, e) k n = T at *
    skip
    refine sem_draw2 l8_0_ok (by kernel_rfl) ?_
    intro KK hKK
    refine ⟨?_, ?_⟩
    · simp (maxSteps := 10000000) only [go_sem, l8_0, e0, e1, i0, i1, hin, Int.natCast_nonneg, inc64 (show i < 1000000000000 by omega)]
      refine TriZ.of (((ct).embed [0] rfl (by repeat' first | exact trivial | rfl | (simp only [go_sem]; done) | constructor) rfl (by first | rfl | simp only [go_sem]) rfl (by simp)).mono ?_)
      rintro _ _ ⟨_, _, ⟨rfl, rfl⟩, rfl, rfl⟩
      simp (maxSteps := 10000000) only [go_sem, e0, e1, i0, i1, hin, Int.natCast_nonneg, inc64 (show i < 1000000000000 by omega)]
      subst hKK
      simp (maxSteps := 10000000) only [go_sem, e0, e1, i0, i1, hin, Int.natCast_nonneg, inc64 (show i < 1000000000000 by omega)]
      refine sem_drawG l8_1_ok (by kernel_rfl) ?_
      intro KK hKK
      simp (maxSteps := 10000000) only [go_sem, l8_1, e0, e1, i0, i1, hin, Int.natCast_nonneg, inc64 (show i < 1000000000000 by omega)]
      refine TriZ.of (((err_spec T.1 T.2).embed [0] rfl (by repeat' first | exact trivial | rfl | (simp only [go_sem]; done) | constructor) rfl (by first | rfl | simp only [go_sem]) rfl (by simp)).mono ?_)
      rintro _ _ ⟨_, _, ⟨rfl, rfl⟩, rfl, rfl⟩
      simp (maxSteps := 10000000) only [go_sem, e0, e1, i0, i1, hin, Int.natCast_nonneg, inc64 (show i < 1000000000000 by omega)]
      refine TriZ.of (((ilen_spec T.1 T.2).embed [0] rfl (by repeat' first | exact trivial | rfl | (simp only [go_sem]; done) | constructor) rfl (by first | rfl | simp only [go_sem]) rfl (by simp)).mono ?_)
      rintro _ _ ⟨_, _, ⟨rfl, rfl⟩, rfl, rfl⟩
      simp (maxSteps := 10000000) only [go_sem, e0, e1, i0, i1, hin, Int.natCast_nonneg, inc64 (show i < 1000000000000 by omega)]
      subst hKK
      simp (maxSteps := 10000000) only [go_sem, e0, e1, i0, i1, hin, Int.natCast_nonneg, inc64 (show i < 1000000000000 by omega)]
      refine ⟨(i + 1, T.1, T.2), by simp only; omega, by simp only; omega, [0, 1], ?_⟩
      simp only [Emb, go_sem]
    · simp (maxSteps := 10000000) only [go_sem, l8_0b, e0, e1, i0, i1, hin, Int.natCast_nonneg, inc64 (show i < 1000000000000 by omega)]
      refine TriZ.of (((ct).embed [0] rfl (by repeat' first | exact trivial | rfl | (simp only [go_sem]; done) | constructor) rfl (by first | rfl | simp only [go_sem]) rfl (by simp)).mono ?_)
      rintro _ _ ⟨_, _, ⟨rfl, rfl⟩, rfl, rfl⟩
      simp (maxSteps := 10000000) only [go_sem, e0, e1, i0, i1, hin, Int.natCast_nonneg, inc64 (show i < 1000000000000 by omega)]
      subst hKK
      simp (maxSteps := 10000000) only [go_sem, e0, e1, i0, i1, hin, Int.natCast_nonneg, inc64 (show i < 1000000000000 by omega)]
      refine sem_drawG l8_1_ok (by kernel_rfl) ?_
      intro KK hKK
      simp (maxSteps := 10000000) only [go_sem, l8_1, e0, e1, i0, i1, hin, Int.natCast_nonneg, inc64 (show i < 1000000000000 by omega)]
      refine TriZ.of (((err_spec T.1 T.2).embed [0] rfl (by repeat' first | exact trivial | rfl | (simp only [go_sem]; done) | constructor) rfl (by first | rfl | simp only [go_sem]) rfl (by simp)).mono ?_)
      rintro _ _ ⟨_, _, ⟨rfl, rfl⟩, rfl, rfl⟩
      simp (maxSteps := 10000000) only [go_sem, e0, e1, i0, i1, hin, Int.natCast_nonneg, inc64 (show i < 1000000000000 by omega)]
      refine TriZ.of (((ilen_spec T.1 T.2).embed [0] rfl (by repeat' first | exact trivial | rfl | (simp only [go_sem]; done) | constructor) rfl (by first | rfl | simp only [go_sem]) rfl (by simp)).mono ?_)
      rintro _ _ ⟨_, _, ⟨rfl, rfl⟩, rfl, rfl⟩
      simp (maxSteps := 10000000) only [go_sem, e0, e1, i0, i1, hin, Int.natCast_nonneg, inc64 (show i < 1000000000000 by omega)]
      subst hKK
      simp (maxSteps := 10000000) only [go_sem, e0, e1, i0, i1, hin, Int.natCast_nonneg, inc64 (show i < 1000000000000 by omega)]
      refine ⟨(i + 1, T.1, T.2), by simp only; omega, by simp only; omega, [0, 1], ?_⟩
      simp only [Emb, go_sem]
  · skip
    refine run_ok 4000 _ _ _ _ ?_
    simp (maxSteps := 10000000) only [go_sem]
    refine sem_drawG l8_2_ok (by kernel_rfl) ?_
    intro KK hKK
    simp (maxSteps := 10000000) only [go_sem, l8_2]
    refine TriZ.of (((iend_spec r e).embed [0] rfl (by repeat' first | exact trivial | rfl | (simp only [go_sem]; done) | constructor) rfl (by first | rfl | simp only [go_sem]) rfl (by simp)).mono ?_)
    rintro _ _ ⟨_, _, ⟨rfl, rfl⟩, rfl, rfl⟩
    simp (maxSteps := 10000000) only [go_sem]
    refine TriZ.of (((rend_spec r e).embed [] rfl (by repeat' first | exact trivial | rfl | (simp only [go_sem]; done) | constructor) rfl (by first | rfl | simp only [go_sem]) rfl (by simp)).mono ?_)
    rintro _ _ ⟨_, _, ⟨rfl, rfl⟩, rfl, rfl⟩
    simp (maxSteps := 10000000) only [go_sem]
    subst hKK
    simp (maxSteps := 10000000) only [go_sem]
  · refine run_ok 4000 _ _ _ _ ?_
    simp (maxSteps := 10000000) only [go_sem]
    refine sem_drawG l8_2_ok (by kernel_rfl) ?_
    intro KK hKK
    simp (maxSteps := 10000000) only [go_sem, l8_2]
    refine TriZ.of (((iend_spec r e).embed [0] rfl (by repeat' first | exact trivial | rfl | (simp only [go_sem]; done) | constructor) rfl (by first | rfl | simp only [go_sem]) rfl (by simp)).mono ?_)
    rintro _ _ ⟨_, _, ⟨rfl, rfl⟩, rfl, rfl⟩
    simp (maxSteps := 10000000) only [go_sem]
    refine TriZ.of (((rend_spec r e).embed [] rfl (by repeat' first | exact trivial | rfl | (simp only [go_sem]; done) | constructor) rfl (by first | rfl | simp only [go_sem]) rfl (by simp)).mono ?_)
    rintro _ _ ⟨_, _, ⟨rfl, rfl⟩, rfl, rfl⟩
    simp (maxSteps := 10000000) only [go_sem]
    subst hKK
    simp (maxSteps := 10000000) only [go_sem]
end Go.AEX
