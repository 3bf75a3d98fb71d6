/- Seat rT: CotillionVotes. -/
import Derived.Test.YtpbmlaolpfaicaaTChk
import Derived.Test.YtpbmlaolpfaicaaTVote
import Derived.Test.YtpbmlaolpfaicaaTLive
namespace Go.AEX
open Go Go.AE Go.Proofs
set_option maxRecDepth 100000
set_option linter.unusedVariables false
set_option linter.unusedSimpArgs false

theorem Sn_has {n : Nat} (hn : n < 18) {v : Int} (h : 0 ≤ v ∧ v < n) : hasN (Sn n) v = true := by
  have := Sn_has' n hn v.toNat (by omega)
  rwa [show Int.ofNat v.toNat = v by simp only [Int.ofNat_eq_natCast]; omega] at this
theorem v_rg_succ (n : Nat) : r_rg (n + 1) = r_rg n ++ [(n : Int)] := by unfold r_rg; rw [List.range_succ, List.map_append]; rfl
theorem v_rg_len (n : Nat) : (r_rg n).length = n := by simp [r_rg]
theorem out_facts : ∀ n < 12, ∀ q < n, pc (flipS (Sn n) (Int.ofNat q)) = n - 1 ∧ hasN (flipS (Sn n) (Int.ofNat q)) (Int.ofNat q) = false ∧ (allN (flipS (Sn n) (Int.ofNat q)) 32).length = n - 1 := by decide +kernel
theorem allN_up (S k : Nat) : (allN S k).Pairwise (· < ·) := by
  unfold allN
  refine List.Pairwise.filter _ ?_
  rw [List.pairwise_map]
  exact List.pairwise_lt_range.imp fun h => by simp only [Int.ofNat_eq_natCast]; omega
theorem allN_mem {S k : Nat} {p : Int} (h : p ∈ allN S k) : 0 ≤ p ∧ p < k := by
  unfold allN at h
  obtain ⟨h1, _⟩ := List.mem_filter.1 h
  obtain ⟨a, ha, rfl⟩ := List.mem_map.1 h1
  rw [List.mem_range] at ha
  simp only [Int.ofNat_eq_natCast]; omega
theorem fitP_fst (ps : List Int) (G : List (List Ord)) : (fitP ps G).map (·.1) = ps := by
  unfold fitP
  rw [List.map_map]
  have : ((fun x : Ply => x.1) ∘ fun x : Int × Nat => (x.1, fitB G x.2)) = Prod.fst := rfl
  rw [this, List.zipIdx_map_fst]
theorem fitP_nil (ps : List Int) : ∀ x ∈ fitP ps [], x.2 = [] ∧ x.1 ∈ ps := by
  intro x hx
  unfold fitP at hx
  obtain ⟨y, hy, rfl⟩ := List.mem_map.1 hx
  refine ⟨rfl, ?_⟩
  exact (List.mem_zipIdx' hy).2 ▸ List.getElem_mem _
theorem fitP_ok (S : Nat) : PlysOk (fitP (allN S 32) []) := by
  have hm := fitP_fst (allN S 32) []
  have hup := allN_up S 32
  have hl := allN_len S 32
  refine ⟨by rw [fitP_len]; exact hl, fun x hx => ?_, fun i h => ?_⟩
  · obtain ⟨h1, h2⟩ := fitP_nil _ x hx
    have := allN_mem h2
    exact ⟨by omega, by rw [h1]; simp, by rw [h1]; simp⟩
  · have h1 : ((fitP (allN S 32) []).map (·.1)).Pairwise (· < ·) := by rw [hm]; exact hup
    rw [List.pairwise_map] at h1
    exact (List.pairwise_iff_getElem.1 h1) i (i + 1) (by omega) h (by omega)
theorem won_ok {S : Nat} {q : Int} {V : Vts} (h : VOk S q V) (hq : 0 < q ∧ q < 32) (hs : hasN S q = true) (w : 2 * (cntV V true).length > pc S) : chkF S (3, q, cntV V true) = 0 := by
  obtain ⟨h1, h2, h3⟩ := cntV_ok h true
  have hm : mostF S q (cntV V true) = true := by
    rw [mostF_yes, decide_eq_true w]
    intro j hj
    have g1 := h1 _ (List.getElem_mem hj)
    have e1 : (cntV V true).getD j 0 = (cntV V true)[j] := by simp [List.getD_eq_getElem?_getD, List.getElem?_eq_getElem hj]
    unfold okM
    rw [e1, g1.1]
    have e2 : ((cntV V true)[j] == q) = false := by simpa using g1.2
    rw [e2]
    by_cases c : j = 0
    · subst c; rfl
    · have hj' : j - 1 < (cntV V true).length := by omega
      have e3 : (cntV V true).getD (j - 1) 0 = (cntV V true)[j - 1] := by simp [List.getD_eq_getElem?_getD, List.getElem?_eq_getElem hj']
      rw [e3, decide_eq_true ((List.pairwise_iff_getElem.1 h2) (j - 1) j hj' hj (by omega))]
      simp
  unfold chkF
  simp [hm, hs]
  omega
theorem vote_any (S : Nat) (hS : S < 4294967296) (q v : Int) (V : Vts) (y : Bool) (hs : hasN S v = true) (hV : VOk S q V) : ∃ (V' : Vts) (e : Int), VOk S q V' ∧
    Tri Try.prog 31 [.pbox 0 0, .int .i64 v, .int .i64 q, .bsym y] (vM S 0 q V) (fun x m => x = .int .i64 e ∧ m = vM S 0 q V') := by
  by_cases hq : v = q
  · exact ⟨V, 13, hV, vote_who S hS 0 q v V y (.inr hq)⟩
  · cases hg : vg V v with
    | some b => exact ⟨V, 10, hV, vote_there S hS 0 q v V y b hs hq hg⟩
    | none =>
      refine ⟨V ++ [(v, y)], 0, ⟨?_, ?_⟩, vote_spec S hS 0 q v V y hs hq hg⟩
      · rw [List.map_append, List.nodup_append]
        refine ⟨hV.nd, by simp, ?_⟩
        intro a ha b hb e
        simp at hb
        exact (vg_none.1 hg) (by rw [← hb, ← e]; exact ha)
      · intro x hx
        rw [List.map_append] at hx
        rcases List.mem_append.1 hx with hx | hx
        · exact hV.mem x hx
        · simp at hx; rw [hx]; exact ⟨hs, hq⟩
theorem votes_core (n : Int) (target : Int) (l : List Int) (turn : Int) :
    Tri Try.prog 5 [.int .i64 n, .int .i64 target, .vsl 1 (iv .i64 l) false, .int .i64 turn] [] (fun v m => v = .bool true ∧ m = []) := by
  refine Tri.post ?_
  obtain ⟨B, hB, hB2⟩ := and_i64 n (k := 7) (by decide)
  have hB : ibits .and .i64 n 7 = (B : Int) := hB
  obtain ⟨N, hN⟩ : ∃ N : Nat, N = 3 + B := ⟨_, rfl⟩
  have w0 : iwrap .i64 ((3 : Int) + (B : Int)) = (N : Int) := by rw [iwrap_i64_in (by omega)]; omega
  obtain ⟨D, hD, hD2⟩ := and_i64 target (k := 255) (by decide)
  have hD : ibits .and .i64 target 255 = (D : Int) := hD
  obtain ⟨U, hU, hU2⟩ := and_i64 turn (k := 65535) (by decide)
  have hU : ibits .and .i64 turn 65535 = (U : Int) := hU
  have w1 : iwrap .i64 ((N : Int) - 1) = ((N - 1 : Nat) : Int) := by rw [iwrap_i64_in (by omega)]; omega
  have hN0 : ¬ ((N - 1 : Nat) : Int) = 0 := by omega
  have m1 : (D : Int).tmod ((N - 1 : Nat) : Int) = ((D % (N - 1) : Nat) : Int) := rfl
  have hY : D % (N - 1) < N - 1 := Nat.mod_lt _ (by omega)
  generalize D % (N - 1) = Y at *
  obtain ⟨q, hq⟩ : ∃ q : Nat, q = 1 + Y := ⟨_, rfl⟩
  have w2 : iwrap .i64 ((1 : Int) + (Y : Int)) = (q : Int) := by rw [iwrap_i64_in (by omega)]; omega
  skip
  refine (Tri.asB (Tri.enter (rl := r5) (code := c5) (by kernel_rfl) Try.func5 rfl c5_ok (by kernel_rfl) (by kernel_rfl) ?_))
  refine run_ok 4000 _ _ _ _ ?_
  simp (maxSteps := 10000000) only [go_sem, c5, r5, hB, w0, hD, hU, w1, hN0, m1, w2]
  refine sem_call rfl rfl ((live_spec).mono ?_)
  rintro _ _ ⟨rfl, rfl⟩
  refine run_ok 4000 _ _ _ _ ?_
  simp (maxSteps := 10000000) only [go_sem, hB, w0, hD, hU, w1, hN0, m1, w2]
  refine sem_virt 9 1 rfl ?_
  simp (maxSteps := 10000000) only [go_sem, hB, w0, hD, hU, w1, hN0, m1, w2]
  refine sem_rounds (fun i : Nat => i ≤ N)
    (fun i => [(0, .int .i64 (N : Nat)), (1, .int .i64 (q : Nat)), (2, .vsl 1 (iv .i64 l) false), (3, .int .i64 (U : Nat)), (9, .sl 0 0 i i false), (35, .int .i64 (N : Nat)), (36, .int .i64 (i : Nat))])
    (fun i => [.row 1 (iv .i64 (r_rg i))]) (fun i => N - i) 0 [0] (Nat.zero_le _) ?_ ?_
  · simp [Emb, go_sem, iv, r_rg]
  intro i hi
  have hl := v_rg_len i
  have hfa := r_iv_all (r_rg i)
  rw [hl] at hfa
  by_cases c : i < N
  · have hin : (i : Int) < (N : Int) := by omega
    have w4 := inc64 (show i < 1000000000000 by omega)
    have hsm : small (i + 1) := by unfold small; omega
    have hnx : iv .i64 (r_rg (i + 1)) = iv .i64 (r_rg i) ++ iv .i64 [(i : Int)] := by rw [v_rg_succ, r_iv_app]
    generalize r_rg i = R at *
    skip
    refine run_ok 4000 _ _ _ _ ?_
    simp (maxSteps := 10000000) only [go_sem, hin, w4, iv_len, hl, hsm, Int.natCast_nonneg, Nat.le_refl]
    refine ⟨i + 1, by omega, c, [1], ?_⟩
    simp only [Emb, go_sem, hnx, r_iv_one, hfa]
  have hin : ¬ (i : Int) < (N : Int) := by omega
  obtain rfl : N = i := by omega
  have hof := r_of_spec (r_rg N) false (by omega)
  rw [show ofN (r_rg N) 0 = Sn N from rfl] at hof
  have hN18 : N < 18 := by omega
  have hS := Sn_lt N hN18
  have hP := Sn_pc N hN18
  have hqs : hasN (Sn N) (q : Int) = true := Sn_has hN18 (by omega)
  have hnew := vnew_spec (Sn N) 0
  have hask := ask_spec (Sn N) hS 0 (q : Int) hqs (by omega)
  have hfa2 := hfa
  skip
  refine run_ok 4000 _ _ _ _ ?_
  simp (maxSteps := 10000000) only [go_sem, hin]
  refine run_ok 4000 _ _ _ _ ?_
  simp (maxSteps := 10000000) only [go_sem, hin]
  refine sem_freeze 0 rfl (by simp only [go_sem, iv_len, hl, Nat.le_refl]) ?_
  skip
  refine run_ok 4000 _ _ _ _ ?_
  simp (maxSteps := 10000000) only [go_sem, hfa]
  refine sem_call rfl rfl (((hof).embed [] rfl trivial rfl rfl rfl (by simp)).mono ?_)
  rintro _ _ ⟨_, _, ⟨rfl, rfl⟩, rfl, rfl⟩
  refine run_ok 4000 _ _ _ _ ?_
  simp (maxSteps := 10000000) only [go_sem, hfa]
  refine sem_call rfl rfl (((hnew).embed [] rfl trivial rfl rfl rfl (by simp)).mono ?_)
  rintro _ _ ⟨_, _, ⟨rfl, rfl⟩, rfl, rfl⟩
  refine run_ok 4000 _ _ _ _ ?_
  simp (maxSteps := 10000000) only [go_sem, hfa]
  refine sem_call rfl rfl (((hask).embed [2, 3] rfl (by repeat' first | exact trivial | rfl | (simp only [go_sem]; done) | constructor) rfl (by first | rfl | simp only [go_sem]) rfl (by simp)).mono ?_)
  rintro _ _ ⟨_, _, ⟨rfl, rfl⟩, rfl, rfl⟩
  refine run_ok 4000 _ _ _ _ ?_
  simp (maxSteps := 10000000) only [go_sem, hfa]
  clear hof hnew hask hfa hfa2
  refine sem_rounds (fun x : Nat × Vts => x.1 ≤ l.length ∧ x.1 ≤ 30 ∧ VOk (Sn N) (q : Int) x.2)
    (fun x => [(0, .int .i64 (N : Nat)), (1, .int .i64 (q : Nat)), (2, .vsl 1 (iv .i64 l) false), (3, .int .i64 (U : Nat)), (11, .pbox 3 0), (12, .pbox 0 0), (13, .int .i64 (x.1 : Nat))])
    (fun x => [vBox (Sn N) 0, .map [(.int .i64 (q : Nat), .map 2)], .map (vb x.2), .box [.int .u32 (Sn N : Nat), .int .i64 0]]) (fun x => l.length - x.1) (0, []) [2, 3, 4, 1] ⟨Nat.zero_le _, Nat.zero_le _, ⟨by simp, by simp⟩⟩ ?_ ?_
  · simp [Emb, go_sem]
  rintro ⟨j, V⟩ ⟨hj, h30, hV⟩
  simp only at hj h30 hV ⊢
  by_cases cj : j < l.length ∧ j < 30
  · have hin : (j : Int) < (l.length : Int) := by omega
    have hin2 : (j : Int) < 30 := by omega
    have w4 := inc64 (show j < 1000000000000 by omega)
    have r0 := iv_rint (k := .i64) cj.1
    have h0 := iv_hasI (k := .i64) cj.1
    obtain ⟨b, hb, hb2⟩ := and_i64 l[j] (k := 255) (by decide)
    have hb : ibits .and .i64 l[j] 255 = (b : Int) := hb
    have hN1 : ¬ (N : Int) = 0 := by omega
    have m2 : (b : Int).tmod (N : Int) = ((b % N : Nat) : Int) := rfl
    have hv : b % N < N := Nat.mod_lt _ (by omega)
    generalize b % N = v at *
    obtain ⟨V', e, hV', hvt⟩ := vote_any (Sn N) hS (q : Int) (v : Int) V (ibits .and .i64 l[j] 256 == 0) (Sn_has hN18 (by omega)) hV
    generalize l[j] = x at *
    skip
    refine run_ok 4000 _ _ _ _ ?_
    simp (maxSteps := 10000000) only [go_sem, hin, hin2, w4, r0, h0, hb, hN1, m2, iv_len, Int.natCast_nonneg]
    refine sem_drawG l5_0_ok (by kernel_rfl) ?_
    intro KK hKK
    simp (maxSteps := 10000000) only [go_sem, l5_0, hin, hin2, w4, r0, h0, hb, hN1, m2, iv_len, Int.natCast_nonneg]
    refine TriZ.of (((hvt).embed [0, 1, 2] rfl (by repeat' first | exact trivial | rfl | (simp only [go_sem]; done) | constructor) rfl (by first | rfl | simp only [go_sem]) rfl (by simp)).mono ?_)
    rintro _ _ ⟨_, _, ⟨rfl, rfl⟩, rfl, rfl⟩
    simp (maxSteps := 10000000) only [go_sem, hin, hin2, w4, r0, h0, hb, hN1, m2, iv_len, Int.natCast_nonneg]
    subst hKK
    simp (maxSteps := 10000000) only [go_sem, hin, hin2, w4, r0, h0, hb, hN1, m2, iv_len, Int.natCast_nonneg]
    refine ⟨(j + 1, V'), by simp only; omega, ⟨cj.1, cj.2, hV'⟩, [0, 1, 2, 3], ?_⟩
    simp only [Emb, go_sem]
  have hend : ¬ ((j : Int) < (l.length : Int)) ∨ ((j : Int) < (l.length : Int)) ∧ ¬ ((j : Int) < 30) := by omega
  by_cases hw : 2 * (cntV V true).length > N
  · have hwon := won_spec (Sn N) hS 0 (q : Int) V hV (by rw [hP]; exact hw)
    have hck := won_ok hV (by omega) hqs (by rw [hP]; exact hw)
    obtain ⟨hcm, _, hcl⟩ := cntV_ok hV true
    generalize cntV V true = L at *
    obtain ⟨o1, o2, o3⟩ := out_facts N (by omega) q (by omega)
    rw [show Int.ofNat q = (q : Int) from rfl] at o1 o2 o3
    have hT : flipS (Sn N) (q : Int) < 4294967296 := flipS_lt hS (by omega)
    have hwF : withF (Sn N) 0 [(3, (q : Int), L)] = (some (flipS (Sn N) q, 1), 0) := by simp [withF, hck]
    have hfw : fewC [(3, (q : Int), L)] = [(3, (q : Int), L)] := by simp [fewC, List.take_of_length_le (show L.length ≤ 34 by omega)]
    have hft : fitC (Sn N) 0 [] [(3, (q : Int), L)] = ([(3, (q : Int), L)], flipS (Sn N) q, 1) := by simp [fitC, hck]
    have hfit := fit_spec (U : Int) (Sn N) hS 0 (by omega) [(3, (q : Int), L)] true [] false
    rw [hfw, hft] at hfit
    simp only at hfit
    have hPl := fitP_ok (flipS (Sn N) q)
    have hPf := fitP_fst (allN (flipS (Sn N) q) 32) []
    have hPn : (fitP (allN (flipS (Sn N) q) 32) []).length = N - 1 := by rw [fitP_len, o3]
    generalize fitP (allN (flipS (Sn N) q) 32) [] = Q at *
    have hC : ∀ c ∈ [((3 : Int), (q : Int), L)], ChgOk c := by
      intro c hc; simp at hc; subst hc
      exact ⟨by simp only; omega, by simp only; omega, hcl, fun x hx => by have := hasN_rg (hcm x hx).1; omega⟩
    have hRk : RecOk (U : Int) [(3, (q : Int), L)] 0 0 Q := ⟨by omega, by simp, hC, by omega, by omega, hPl.l, hPl.ok⟩
    have hv1 : ∀ c ∈ [((3 : Int), (q : Int), L)], c.2.2.length ≤ 1000 := by intro c hc; have := (hC c hc).l; omega
    have hros := recros_spec (U : Int) [(3, (q : Int), L)] 0 0 Q (by simp) hv1 (Sn N) hS 0 (by omega)
    have er : withR (Sn N) 0 [(3, (q : Int), L)] = .tup [ros (flipS (Sn N) q) 1, .int .i64 0] := by unfold withR; rw [hwF]
    rw [er] at hros
    have htx := rtext_spec _ _ _ _ _ hRk
    have hpa := parse_spec _ _ _ _ _ hRk
    have hchk := reccheck_spec (U : Int) [(3, (q : Int), L)] Q (by simp) hv1 (Sn N) hS 0 (by omega) _ hT 1 hwF hPl hPf
    have hhas := r_has_spec _ hT 1 (q : Int)
    rw [o2] at hhas
    have hlen := r_len_spec _ hT 1
    rw [o1] at hlen
    have hf2 : Tri Try.prog 34 [.int .i64 (U : Int), ros (Sn N) 0, .vsl 3 (crows [(3, (q : Int), L)]) true, .nilsl] [] (fun v m => v = recV (U : Int) [(3, (q : Int), L)] 0 0 Q ∧ m = []) :=
      hfit.recast fun φ σ vs hv => by
        cases hv with
        | cons h1 hv => cases hv with
          | cons h2 hv => cases hv with
            | cons h3 hv => cases hv with
              | cons h4 hv => exact .cons h1 (.cons h2 (.cons h3 (.cons (h4.nilv 1 false) hv)))
    clear hfit
    have hcr : crows [(3, (q : Int), L)] = [[AV.int .i64 3, .int .i64 (q : Int), .vsl 1 (iv .i64 L) false]] := rfl
    have c0 : 0 < [((3 : Int), (q : Int), L)].length := by simp
    have k1 := crows_h1 c0
    have k2 := crows_r1 c0
    simp only [List.getElem_cons_zero] at k2
    have k3 : (crows [(3, (q : Int), L)]).length = 1 := rfl
    rw [hcr] at hf2
    unfold recV at *
    generalize recB (U : Int) [(3, (q : Int), L)] 0 0 Q = B9 at *
    generalize crows [(3, (q : Int), L)] = R at *
    generalize flipS (Sn N) q = T at *
    rcases hend with h1 | ⟨h1, h2⟩
    · skip
      refine run_ok 4000 _ _ _ _ ?_
      simp (maxSteps := 10000000) only [go_sem, h1, iv_len, k1, k2, k3, w1, pros_len, hPn, Int.natCast_nonneg, beq_self_eq_true]
      refine run_ok 4000 _ _ _ _ ?_
      simp (maxSteps := 10000000) only [go_sem, h1, iv_len, k1, k2, k3, w1, pros_len, hPn, Int.natCast_nonneg, beq_self_eq_true]
      refine sem_call rfl rfl (((hwon).embed [0, 1, 2] rfl (by repeat' first | exact trivial | rfl | (simp only [go_sem]; done) | constructor) rfl (by first | rfl | simp only [go_sem]) rfl (by simp)).mono ?_)
      rintro _ _ ⟨_, _, ⟨rfl, rfl⟩, rfl, rfl⟩
      refine run_ok 4000 _ _ _ _ ?_
      simp (maxSteps := 10000000) only [go_sem, h1, iv_len, k1, k2, k3, w1, pros_len, hPn, Int.natCast_nonneg, beq_self_eq_true]
      refine sem_call rfl rfl (((hf2).embed [] rfl trivial rfl rfl rfl (by simp)).mono ?_)
      rintro _ _ ⟨_, _, ⟨rfl, rfl⟩, rfl, rfl⟩
      refine run_ok 4000 _ _ _ _ ?_
      simp (maxSteps := 10000000) only [go_sem, h1, iv_len, k1, k2, k3, w1, pros_len, hPn, Int.natCast_nonneg, beq_self_eq_true]
      refine sem_call rfl rfl (((hros).embed [] rfl trivial rfl rfl rfl (by simp)).mono ?_)
      rintro _ _ ⟨_, _, ⟨rfl, rfl⟩, rfl, rfl⟩
      refine run_ok 4000 _ _ _ _ ?_
      simp (maxSteps := 10000000) only [go_sem, h1, iv_len, k1, k2, k3, w1, pros_len, hPn, Int.natCast_nonneg, beq_self_eq_true]
      refine sem_call rfl rfl (((htx).embed [] rfl trivial rfl rfl rfl (by simp)).mono ?_)
      rintro _ _ ⟨_, _, ⟨rfl, rfl⟩, rfl, rfl⟩
      refine run_ok 4000 _ _ _ _ ?_
      simp (maxSteps := 10000000) only [go_sem, h1, iv_len, k1, k2, k3, w1, pros_len, hPn, Int.natCast_nonneg, beq_self_eq_true]
      refine sem_call rfl rfl (((hpa).embed [] rfl trivial rfl rfl rfl (by simp)).mono ?_)
      rintro _ _ ⟨_, _, ⟨rfl, rfl⟩, rfl, rfl⟩
      refine run_ok 4000 _ _ _ _ ?_
      simp (maxSteps := 10000000) only [go_sem, h1, iv_len, k1, k2, k3, w1, pros_len, hPn, Int.natCast_nonneg, beq_self_eq_true]
      refine sem_call rfl rfl (((hchk).embed [] rfl trivial rfl rfl rfl (by simp)).mono ?_)
      rintro _ _ ⟨_, _, ⟨rfl, rfl⟩, rfl, rfl⟩
      refine run_ok 4000 _ _ _ _ ?_
      simp (maxSteps := 10000000) only [go_sem, h1, iv_len, k1, k2, k3, w1, pros_len, hPn, Int.natCast_nonneg, beq_self_eq_true]
      refine sem_call rfl rfl (((hhas).embed [] rfl trivial rfl rfl rfl (by simp)).mono ?_)
      rintro _ _ ⟨_, _, ⟨rfl, rfl⟩, rfl, rfl⟩
      refine run_ok 4000 _ _ _ _ ?_
      simp (maxSteps := 10000000) only [go_sem, h1, iv_len, k1, k2, k3, w1, pros_len, hPn, Int.natCast_nonneg, beq_self_eq_true]
      refine sem_call rfl rfl (((hlen).embed [] rfl trivial rfl rfl rfl (by simp)).mono ?_)
      rintro _ _ ⟨_, _, ⟨rfl, rfl⟩, rfl, rfl⟩
      refine run_ok 4000 _ _ _ _ ?_
      simp (maxSteps := 10000000) only [go_sem, h1, iv_len, k1, k2, k3, w1, pros_len, hPn, Int.natCast_nonneg, beq_self_eq_true]
      refine sem_call rfl rfl (((hchk).embed [] rfl trivial rfl rfl rfl (by simp)).mono ?_)
      rintro _ _ ⟨_, _, ⟨rfl, rfl⟩, rfl, rfl⟩
      refine run_ok 4000 _ _ _ _ ?_
      simp (maxSteps := 10000000) only [go_sem, h1, iv_len, k1, k2, k3, w1, pros_len, hPn, Int.natCast_nonneg, beq_self_eq_true]
      refine ⟨_, _, .sub [] ?_ .done, rfl, rfl⟩
      simp only [EmbV, go_sem]
    · skip
      refine run_ok 4000 _ _ _ _ ?_
      simp (maxSteps := 10000000) only [go_sem, h1, h2, iv_len, k1, k2, k3, w1, pros_len, hPn, Int.natCast_nonneg, beq_self_eq_true]
      refine run_ok 4000 _ _ _ _ ?_
      simp (maxSteps := 10000000) only [go_sem, h1, h2, iv_len, k1, k2, k3, w1, pros_len, hPn, Int.natCast_nonneg, beq_self_eq_true]
      refine sem_call rfl rfl (((hwon).embed [0, 1, 2] rfl (by repeat' first | exact trivial | rfl | (simp only [go_sem]; done) | constructor) rfl (by first | rfl | simp only [go_sem]) rfl (by simp)).mono ?_)
      rintro _ _ ⟨_, _, ⟨rfl, rfl⟩, rfl, rfl⟩
      refine run_ok 4000 _ _ _ _ ?_
      simp (maxSteps := 10000000) only [go_sem, h1, h2, iv_len, k1, k2, k3, w1, pros_len, hPn, Int.natCast_nonneg, beq_self_eq_true]
      refine sem_call rfl rfl (((hf2).embed [] rfl trivial rfl rfl rfl (by simp)).mono ?_)
      rintro _ _ ⟨_, _, ⟨rfl, rfl⟩, rfl, rfl⟩
      refine run_ok 4000 _ _ _ _ ?_
      simp (maxSteps := 10000000) only [go_sem, h1, h2, iv_len, k1, k2, k3, w1, pros_len, hPn, Int.natCast_nonneg, beq_self_eq_true]
      refine sem_call rfl rfl (((hros).embed [] rfl trivial rfl rfl rfl (by simp)).mono ?_)
      rintro _ _ ⟨_, _, ⟨rfl, rfl⟩, rfl, rfl⟩
      refine run_ok 4000 _ _ _ _ ?_
      simp (maxSteps := 10000000) only [go_sem, h1, h2, iv_len, k1, k2, k3, w1, pros_len, hPn, Int.natCast_nonneg, beq_self_eq_true]
      refine sem_call rfl rfl (((htx).embed [] rfl trivial rfl rfl rfl (by simp)).mono ?_)
      rintro _ _ ⟨_, _, ⟨rfl, rfl⟩, rfl, rfl⟩
      refine run_ok 4000 _ _ _ _ ?_
      simp (maxSteps := 10000000) only [go_sem, h1, h2, iv_len, k1, k2, k3, w1, pros_len, hPn, Int.natCast_nonneg, beq_self_eq_true]
      refine sem_call rfl rfl (((hpa).embed [] rfl trivial rfl rfl rfl (by simp)).mono ?_)
      rintro _ _ ⟨_, _, ⟨rfl, rfl⟩, rfl, rfl⟩
      refine run_ok 4000 _ _ _ _ ?_
      simp (maxSteps := 10000000) only [go_sem, h1, h2, iv_len, k1, k2, k3, w1, pros_len, hPn, Int.natCast_nonneg, beq_self_eq_true]
      refine sem_call rfl rfl (((hchk).embed [] rfl trivial rfl rfl rfl (by simp)).mono ?_)
      rintro _ _ ⟨_, _, ⟨rfl, rfl⟩, rfl, rfl⟩
      refine run_ok 4000 _ _ _ _ ?_
      simp (maxSteps := 10000000) only [go_sem, h1, h2, iv_len, k1, k2, k3, w1, pros_len, hPn, Int.natCast_nonneg, beq_self_eq_true]
      refine sem_call rfl rfl (((hhas).embed [] rfl trivial rfl rfl rfl (by simp)).mono ?_)
      rintro _ _ ⟨_, _, ⟨rfl, rfl⟩, rfl, rfl⟩
      refine run_ok 4000 _ _ _ _ ?_
      simp (maxSteps := 10000000) only [go_sem, h1, h2, iv_len, k1, k2, k3, w1, pros_len, hPn, Int.natCast_nonneg, beq_self_eq_true]
      refine sem_call rfl rfl (((hlen).embed [] rfl trivial rfl rfl rfl (by simp)).mono ?_)
      rintro _ _ ⟨_, _, ⟨rfl, rfl⟩, rfl, rfl⟩
      refine run_ok 4000 _ _ _ _ ?_
      simp (maxSteps := 10000000) only [go_sem, h1, h2, iv_len, k1, k2, k3, w1, pros_len, hPn, Int.natCast_nonneg, beq_self_eq_true]
      refine sem_call rfl rfl (((hchk).embed [] rfl trivial rfl rfl rfl (by simp)).mono ?_)
      rintro _ _ ⟨_, _, ⟨rfl, rfl⟩, rfl, rfl⟩
      refine run_ok 4000 _ _ _ _ ?_
      simp (maxSteps := 10000000) only [go_sem, h1, h2, iv_len, k1, k2, k3, w1, pros_len, hPn, Int.natCast_nonneg, beq_self_eq_true]
      refine ⟨_, _, .sub [] ?_ .done, rfl, rfl⟩
      simp only [EmbV, go_sem]
  · have hwon := won_no (Sn N) hS 0 (q : Int) V hV (by rw [hP]; exact hw)
    have hy := yes_spec (Sn N) 0 (q : Int) V hV
    have hcl := (cntV_ok hV true).2.2
    have w5 : iwrap .i64 ((2 : Int) * ((cntV V true).length : Int)) = ((2 * (cntV V true).length : Nat) : Int) := by rw [iwrap_i64_in (by omega)]; omega
    have hle : ((2 * (cntV V true).length : Nat) : Int) ≤ (N : Int) := by omega
    generalize cntV V true = L at *
    rcases hend with h1 | ⟨h1, h2⟩
    · skip
      refine run_ok 4000 _ _ _ _ ?_
      simp (maxSteps := 10000000) only [go_sem, h1, iv_len, w5, hle]
      refine run_ok 4000 _ _ _ _ ?_
      simp (maxSteps := 10000000) only [go_sem, h1, iv_len, w5, hle]
      refine sem_call rfl rfl (((hwon).embed [0, 1, 2] rfl (by repeat' first | exact trivial | rfl | (simp only [go_sem]; done) | constructor) rfl (by first | rfl | simp only [go_sem]) rfl (by simp)).mono ?_)
      rintro _ _ ⟨_, _, ⟨rfl, rfl⟩, rfl, rfl⟩
      refine run_ok 4000 _ _ _ _ ?_
      simp (maxSteps := 10000000) only [go_sem, h1, iv_len, w5, hle]
      refine sem_call rfl rfl (((hy).embed [0, 1, 2] rfl (by repeat' first | exact trivial | rfl | (simp only [go_sem]; done) | constructor) rfl (by first | rfl | simp only [go_sem]) rfl (by simp)).mono ?_)
      rintro _ _ ⟨_, _, ⟨rfl, rfl⟩, rfl, rfl⟩
      refine run_ok 4000 _ _ _ _ ?_
      simp (maxSteps := 10000000) only [go_sem, h1, iv_len, w5, hle]
      refine ⟨_, _, .sub [] ?_ .done, rfl, rfl⟩
      simp only [EmbV, go_sem]
    · skip
      refine run_ok 4000 _ _ _ _ ?_
      simp (maxSteps := 10000000) only [go_sem, h1, h2, iv_len, w5, hle]
      refine run_ok 4000 _ _ _ _ ?_
      simp (maxSteps := 10000000) only [go_sem, h1, h2, iv_len, w5, hle]
      refine sem_call rfl rfl (((hwon).embed [0, 1, 2] rfl (by repeat' first | exact trivial | rfl | (simp only [go_sem]; done) | constructor) rfl (by first | rfl | simp only [go_sem]) rfl (by simp)).mono ?_)
      rintro _ _ ⟨_, _, ⟨rfl, rfl⟩, rfl, rfl⟩
      refine run_ok 4000 _ _ _ _ ?_
      simp (maxSteps := 10000000) only [go_sem, h1, h2, iv_len, w5, hle]
      refine sem_call rfl rfl (((hy).embed [0, 1, 2] rfl (by repeat' first | exact trivial | rfl | (simp only [go_sem]; done) | constructor) rfl (by first | rfl | simp only [go_sem]) rfl (by simp)).mono ?_)
      rintro _ _ ⟨_, _, ⟨rfl, rfl⟩, rfl, rfl⟩
      refine run_ok 4000 _ _ _ _ ?_
      simp (maxSteps := 10000000) only [go_sem, h1, h2, iv_len, w5, hle]
      refine ⟨_, _, .sub [] ?_ .done, rfl, rfl⟩
      simp only [EmbV, go_sem]
theorem cotillionVotes_spec (n : Int) (hn : (Lit.int .i64 n).wf = true) (target : Int) (ht : (Lit.int .i64 target).wf = true) (l : List Int) (hl : ∀ x ∈ l, (Lit.int .i64 x).wf = true) (turn : Int) (hu : (Lit.int .i64 turn).wf = true) :
    Tri Try.prog 5 [.int .i64 n, .int .i64 target, .vsl 1 (iv .i64 l) false, .int .i64 turn] [] (fun v m => v = .bool true) :=
  (votes_core n target l turn).mono fun v m h => h.1
end Go.AEX
