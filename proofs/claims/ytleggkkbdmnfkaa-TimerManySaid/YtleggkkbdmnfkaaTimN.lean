/- TimerMany: the walk. -/
import Derived.Test.YtleggkkbdmnfkaaTimM
import Derived.Test.YtleggkkbdmnfkaaAEsa
namespace Go.AEX
open Go Go.AE Go.Proofs
set_option maxRecDepth 100000
set_option linter.unusedVariables false
set_option linter.unusedSimpArgs false

theorem iv_app64 (a b : List Int) : iv .i64 a ++ iv .i64 b = iv .i64 (a ++ b) := by simp [iv]
theorem iv_all64 (l : List Int) : sub (iv .i64 l) 0 l.length = iv .i64 l := by rw [iv_sub]; simp
set_option maxHeartbeats 4000000 in
theorem timerMany_spec (S : List Int) (hS : ∀ x ∈ S, (Lit.int .i64 x).wf = true) (x : Int) (hx : (Lit.int .i64 x).wf = true) :
    Tri Try.prog 4 [.vsl 1 (iv .i64 S) false, .int .i64 x] [] (fun v q => v = .bool true) := by
  refine Tri.post ?_
  obtain ⟨a, ha, ha7⟩ := and_i64 x (k := 7) (by decide)
  have ha : ibits .and .i64 x 7 = a := ha
  have wf1 : iwrap .i64 (1 + (a : Int)) = ((a + 1 : Nat) : Int) := by rw [iwrap_i64_in (by omega)]; omega
  generalize hf : a + 1 = f at *
  have hn := tnew_spec f 1000 (by unfold mayF; rw [decide_eq_true_iff]; omega)
  skip
  refine (Tri.enter (rl := r4) (code := c4) (by kernel_rfl) Try.func4 rfl c4_ok (by kernel_rfl) (by kernel_rfl) ?_)
  refine run_ok 4000 _ _ _ _ ?_
  simp (maxSteps := 10000000) only [go_sem, c4, r4, ha, wf1]
  refine sem_call rfl rfl (((hn).embed [] rfl trivial rfl rfl rfl (by simp)).mono ?_)
  rintro _ _ ⟨_, _, ⟨rfl, rfl⟩, rfl, rfl⟩
  refine run_ok 4000 _ _ _ _ ?_
  simp (maxSteps := 10000000) only [go_sem, ha, wf1]
  refine sem_call rfl rfl (((awake14_spec).embed [] rfl trivial rfl rfl rfl (by simp)).mono ?_)
  rintro _ _ ⟨_, _, ⟨rfl, rfl⟩, rfl, rfl⟩
  refine run_ok 4000 _ _ _ _ ?_
  simp (maxSteps := 10000000) only [go_sem, ha, wf1]
  refine sem_nilbox 0 2 4 rfl rfl ?_
  refine sem_virt 8 1 rfl ?_
  simp (maxSteps := 10000000) only [go_sem, ha, wf1]
  refine sem_rounds (fun q : Int × List Int => MnI S q.1 q.2)
    (fun q => [(0, .vsl 1 (iv .i64 S) false), (1, .int .i64 f), (5, .pbox 0 0), (7, .int .i64 q.1), (8, .sl 2 0 q.2.length q.2.length false), (9, .int .i64 q.2.length)])
    (fun q => [.box [.int .i64 f, .int .i64 1000, .sl 1 0 q.2.length q.2.length false], .row 4 (terows (mkL f q.2)), .row 1 (iv .i64 q.2)]) (fun q => S.length - q.2.length) (0, []) [0, 1, 2]
    (by refine ⟨?_, ?_, ?_, ?_, ?_, ?_⟩ <;> simp) ?_ ?_
  · simp [Emb, go_sem, mkL, terows, iv]
  rintro ⟨now, A⟩ hI
  have hI' := hI
  obtain ⟨h1, h2, h3, h4, h5, h6⟩ := hI'
  simp only
  by_cases hlt : A.length < S.length ∧ A.length < 20
  · obtain ⟨k1, k2⟩ := hlt
    have hin : (A.length : Int) < (S.length : Int) := by omega
    have hi2 : (A.length : Int) < 20 := by omega
    obtain ⟨b, hb, hb3⟩ := and_i64 S[A.length] (k := 3) (by decide)
    have hb : ibits .and .i64 S[A.length] 3 = b := hb
    have r0 := iv_rint (k := .i64) k1
    have w1 : iwrap .i64 (now + (b : Int)) = now + b := iwrap_i64_in (by omega)
    have w2 : iwrap .u32 (A.length : Int) = A.length := by rw [iwrap_u32]; omega
    have hnx := hI.next k1 k2 (b := b) (by omega)
    have hs1 := tstart_new f 1000 (mkL f A) (A.length : Nat) (now + b) (by rw [mkL_len]; omega) (fdT_new f A) (by omega)
    have hs2 := tstart_old f 1000 (mkL f (A ++ [now + b])) (A.length : Nat) (now + b) (by rw [mkL_len]; simp; omega) (fdT_old f A (now + b))
    rw [mkL_app] at hs1
    have hl1 : (A ++ [now + (b : Int)]).length = A.length + 1 := by simp
    simp only [tmM, tmM2, mkL_len, hl1] at hs1 hs2
    have hone : [[AV.int .i64 (now + (b : Int))]] = iv .i64 [now + (b : Int)] := rfl
    have hi := inc64 (show A.length < 1000000000000 by omega)
    generalize S[A.length] = y at *
    skip
    refine run_ok 4000 _ _ _ _ ?_
    simp (maxSteps := 10000000) only [go_sem, hin, hi2, r0, iv_hasI k1, iv_len, hb, w1, w2, iv_all64, Int.natCast_nonneg, hi]
    rw [hone, iv_app64]
    refine ⟨by unfold small; omega, ?_⟩
    skip
    refine sem_call rfl rfl (((hs1).embed [0, 1] rfl (by repeat' first | exact trivial | rfl | (simp only [go_sem]; done) | constructor) rfl (by first | rfl | simp only [go_sem]) rfl (by simp)).mono ?_)
    rintro _ _ ⟨_, _, ⟨rfl, rfl⟩, rfl, rfl⟩
    refine run_ok 4000 _ _ _ _ ?_
    simp (maxSteps := 10000000) only [go_sem, hi, w2]
    refine sem_call rfl rfl (((hs2).embed [0, 4] rfl (by repeat' first | exact trivial | rfl | (simp only [go_sem]; done) | constructor) rfl (by first | rfl | simp only [go_sem]) rfl (by simp)).mono ?_)
    rintro _ _ ⟨_, _, ⟨rfl, rfl⟩, rfl, rfl⟩
    refine run_ok 4000 _ _ _ _ ?_
    simp (maxSteps := 10000000) only [go_sem, hi, w2]
    refine ⟨(now + b, A ++ [now + b]), by simp only [hl1]; omega, hnx, [0, 5, 3], ?_⟩
    simp only [Emb, go_sem, hl1]
  · have hm := fun a ha => (h4 a ha).2
    simp only at h1 h2 h3 h4 h5 h6 hm
    have hd1 := due_small f 1000 (now + f) (mkL f A) (by rw [mkL_len]; omega) (mkL_ok f now A (by omega) h4 (by omega)) (by omega) (by omega)
    rw [mkL_due f now A hm, mkL_stab f A h3, mkL_nums, mkL_upd f now A (by omega) hm] at hd1
    have hd2 := due_small f 1000 (now + f) (mkD (now + 3 * f) (2 * f) A.length) (by rw [mkD_len]; omega) (mkD_ok _ _ _ (by omega) (by omega)) (by omega) (by omega)
    rw [mkD_none _ _ _ _ (by omega), mkD_upd _ _ _ _ _ (by omega)] at hd2
    have s0 : stab [] = [] := stab_short (by simp)
    have n0 : uv (numsT []) = [] := rfl
    rw [s0, n0] at hd2
    have hd3 := due_small f 1000 (now + 3 * f) (mkD (now + 3 * f) (2 * f) A.length) (by rw [mkD_len]; omega) (mkD_ok _ _ _ (by omega) (by omega)) (by omega) (by omega)
    rw [mkD_due _ _ _ _ (by omega)] at hd3
    have hsl := stab_len (mkD (now + 3 * f) (2 * f) A.length)
    have hul : (uv (numsT (stab (mkD (now + 3 * f) (2 * f) A.length)))).length = A.length := by rw [iv_len]; simp [numsT, hsl, mkD_len]
    generalize uv (numsT (stab (mkD (now + 3 * f) (2 * f) A.length))) = U3 at *
    have htm : ∀ j : Nat, j < A.length → Tri Try.prog 12 [.pbox 0 0, .int .u32 (j : Nat)] (tmM f 1000 (mkD (now + 3 * f) (2 * f) A.length))
        (fun v q => v = .tup [.int .i64 1, .bool true] ∧ q = tmM f 1000 (mkD (now + 3 * f) (2 * f) A.length)) := by
      intro j hj
      have h := ttimes_spec f 1000 (mkD (now + 3 * f) (2 * f) A.length) (j : Nat) (by rw [mkD_len]; omega)
      rw [fdT_at _ _ hj, Int.toNat_natCast, mkD_times _ _ hj, if_neg (by omega), decide_eq_true (by omega)] at h
      exact h
    have hupl := upto_len A.length
    have hml := mkL_len f A
    have hDl := mkD_len (now + 3 * (f : Int)) (2 * f) A.length
    have wn1 : iwrap .i64 (now + (f : Int)) = now + f := iwrap_i64_in (by omega)
    have wn2 : iwrap .i64 (3 * (f : Int)) = 3 * f := iwrap_i64_in (by omega)
    have wn3 : iwrap .i64 (now + 3 * (f : Int)) = now + 3 * f := iwrap_i64_in (by omega)
    simp only [tmM, hml, hDl] at hd1 hd2 hd3 htm
    generalize mkL f A = L at *
    generalize mkD (now + 3 * (f : Int)) (2 * f) A.length = D at *
    by_cases c : (A.length : Int) < (S.length : Int)
    · have c2 : ¬ (A.length : Int) < 20 := by omega
      skip
      refine run_ok 4000 _ _ _ _ ?_
      simp (maxSteps := 10000000) only [go_sem, c, c2, iv_len, wn1]
      refine run_ok 4000 _ _ _ _ ?_
      simp (maxSteps := 10000000) only [go_sem, c, c2, iv_len, wn1]
      skip
      refine sem_call rfl rfl (((hd1).embed [0, 1] rfl (by repeat' first | exact trivial | rfl | (simp only [go_sem]; done) | constructor) rfl (by first | rfl | simp only [go_sem]) rfl (by simp)).mono ?_)
      rintro _ _ ⟨_, _, ⟨rfl, rfl⟩, rfl, rfl⟩
      refine run_ok 4000 _ _ _ _ ?_
      simp (maxSteps := 10000000) only [go_sem, wn1, hupl, iv_len]
      refine sem_rounds (fun j : Nat => j ≤ A.length)
        (fun j => [(1, .int .i64 f), (5, .pbox 0 0), (7, .int .i64 now), (8, .sl 2 0 A.length A.length false), (75, .vsl 1 (uv (upto A.length)) false), (76, .int .i64 A.length), (77, .int .i64 j)])
        (fun j => [.box [.int .i64 f, .int .i64 1000, .sl 1 0 A.length A.length false], .row 4 (terows D), .row 1 (iv .i64 A)]) (fun j => A.length - j) 0 [0, 1, 2] (Nat.zero_le _) ?_ ?_
      · simp [Emb, go_sem]
      intro j hj
      by_cases hlt : j < A.length
      · have hj2 : j < (upto A.length).length := by rw [hupl]; exact hlt
        have r0 := iv_rint (k := .u32) hj2
        rw [upto_get] at r0
        have htj := htm j hlt
        have wj : iwrap .u32 (j : Int) = j := by rw [iwrap_u32]; omega
        have hin : (j : Int) < (A.length : Int) := by omega
        skip
        refine run_ok 4000 _ _ _ _ ?_
        simp (maxSteps := 10000000) only [go_sem, hin, r0, iv_hasI hj2, wj, iv_len, hupl, Int.natCast_nonneg, inc64 (show j < 1000000000000 by omega)]
        refine sem_call rfl rfl (((htj).embed [0, 1] rfl (by repeat' first | exact trivial | rfl | (simp only [go_sem]; done) | constructor) rfl (by first | rfl | simp only [go_sem]) rfl (by simp)).mono ?_)
        rintro _ _ ⟨_, _, ⟨rfl, rfl⟩, rfl, rfl⟩
        refine run_ok 4000 _ _ _ _ ?_
        simp (maxSteps := 10000000) only [go_sem, hin, r0, iv_hasI hj2, wj, iv_len, hupl, Int.natCast_nonneg, inc64 (show j < 1000000000000 by omega)]
        refine ⟨j + 1, by omega, hlt, [0, 1, 2], ?_⟩
        simp only [Emb, go_sem]
      · have hge : ¬ (j : Int) < (A.length : Int) := by omega
        skip
        refine run_ok 4000 _ _ _ _ ?_
        simp (maxSteps := 10000000) only [go_sem, hge, wn1]
        refine run_ok 4000 _ _ _ _ ?_
        simp (maxSteps := 10000000) only [go_sem, hge, wn1]
        skip
        refine sem_call rfl rfl (((hd2).embed [0, 1] rfl (by repeat' first | exact trivial | rfl | (simp only [go_sem]; done) | constructor) rfl (by first | rfl | simp only [go_sem]) rfl (by simp)).mono ?_)
        rintro _ _ ⟨_, _, ⟨rfl, rfl⟩, rfl, rfl⟩
        refine run_ok 4000 _ _ _ _ ?_
        simp (maxSteps := 10000000) only [go_sem, wn1, wn2, wn3, hul]
        refine sem_call rfl rfl (((hd3).embed [0, 1] rfl (by repeat' first | exact trivial | rfl | (simp only [go_sem]; done) | constructor) rfl (by first | rfl | simp only [go_sem]) rfl (by simp)).mono ?_)
        rintro _ _ ⟨_, _, ⟨rfl, rfl⟩, rfl, rfl⟩
        refine run_ok 4000 _ _ _ _ ?_
        simp (maxSteps := 10000000) only [go_sem, wn1, wn2, wn3, hul]
        refine ⟨_, [], .like (Like.bool true) (.sub [] ?_ .done), rfl⟩
        simp only [EmbV, go_sem]
    · skip
      refine run_ok 4000 _ _ _ _ ?_
      simp (maxSteps := 10000000) only [go_sem, c, iv_len, wn1]
      refine run_ok 4000 _ _ _ _ ?_
      simp (maxSteps := 10000000) only [go_sem, c, iv_len, wn1]
      skip
      refine sem_call rfl rfl (((hd1).embed [0, 1] rfl (by repeat' first | exact trivial | rfl | (simp only [go_sem]; done) | constructor) rfl (by first | rfl | simp only [go_sem]) rfl (by simp)).mono ?_)
      rintro _ _ ⟨_, _, ⟨rfl, rfl⟩, rfl, rfl⟩
      refine run_ok 4000 _ _ _ _ ?_
      simp (maxSteps := 10000000) only [go_sem, wn1, hupl, iv_len]
      refine sem_rounds (fun j : Nat => j ≤ A.length)
        (fun j => [(1, .int .i64 f), (5, .pbox 0 0), (7, .int .i64 now), (8, .sl 2 0 A.length A.length false), (75, .vsl 1 (uv (upto A.length)) false), (76, .int .i64 A.length), (77, .int .i64 j)])
        (fun j => [.box [.int .i64 f, .int .i64 1000, .sl 1 0 A.length A.length false], .row 4 (terows D), .row 1 (iv .i64 A)]) (fun j => A.length - j) 0 [0, 1, 2] (Nat.zero_le _) ?_ ?_
      · simp [Emb, go_sem]
      intro j hj
      by_cases hlt : j < A.length
      · have hj2 : j < (upto A.length).length := by rw [hupl]; exact hlt
        have r0 := iv_rint (k := .u32) hj2
        rw [upto_get] at r0
        have htj := htm j hlt
        have wj : iwrap .u32 (j : Int) = j := by rw [iwrap_u32]; omega
        have hin : (j : Int) < (A.length : Int) := by omega
        skip
        refine run_ok 4000 _ _ _ _ ?_
        simp (maxSteps := 10000000) only [go_sem, hin, r0, iv_hasI hj2, wj, iv_len, hupl, Int.natCast_nonneg, inc64 (show j < 1000000000000 by omega)]
        refine sem_call rfl rfl (((htj).embed [0, 1] rfl (by repeat' first | exact trivial | rfl | (simp only [go_sem]; done) | constructor) rfl (by first | rfl | simp only [go_sem]) rfl (by simp)).mono ?_)
        rintro _ _ ⟨_, _, ⟨rfl, rfl⟩, rfl, rfl⟩
        refine run_ok 4000 _ _ _ _ ?_
        simp (maxSteps := 10000000) only [go_sem, hin, r0, iv_hasI hj2, wj, iv_len, hupl, Int.natCast_nonneg, inc64 (show j < 1000000000000 by omega)]
        refine ⟨j + 1, by omega, hlt, [0, 1, 2], ?_⟩
        simp only [Emb, go_sem]
      · have hge : ¬ (j : Int) < (A.length : Int) := by omega
        skip
        refine run_ok 4000 _ _ _ _ ?_
        simp (maxSteps := 10000000) only [go_sem, hge, wn1]
        refine run_ok 4000 _ _ _ _ ?_
        simp (maxSteps := 10000000) only [go_sem, hge, wn1]
        skip
        refine sem_call rfl rfl (((hd2).embed [0, 1] rfl (by repeat' first | exact trivial | rfl | (simp only [go_sem]; done) | constructor) rfl (by first | rfl | simp only [go_sem]) rfl (by simp)).mono ?_)
        rintro _ _ ⟨_, _, ⟨rfl, rfl⟩, rfl, rfl⟩
        refine run_ok 4000 _ _ _ _ ?_
        simp (maxSteps := 10000000) only [go_sem, wn1, wn2, wn3, hul]
        refine sem_call rfl rfl (((hd3).embed [0, 1] rfl (by repeat' first | exact trivial | rfl | (simp only [go_sem]; done) | constructor) rfl (by first | rfl | simp only [go_sem]) rfl (by simp)).mono ?_)
        rintro _ _ ⟨_, _, ⟨rfl, rfl⟩, rfl, rfl⟩
        refine run_ok 4000 _ _ _ _ ?_
        simp (maxSteps := 10000000) only [go_sem, wn1, wn2, wn3, hul]
        refine ⟨_, [], .like (Like.bool true) (.sub [] ?_ .done), rfl⟩
        simp only [EmbV, go_sem]
end Go.AEX
