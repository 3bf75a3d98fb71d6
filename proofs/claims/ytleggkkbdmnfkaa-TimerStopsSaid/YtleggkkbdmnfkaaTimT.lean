/- TimerStops. -/
import Derived.Test.YtleggkkbdmnfkaaTimG
import Derived.Test.YtleggkkbdmnfkaaTimA
namespace Go.AEX
open Go Go.AE Go.Proofs
set_option maxRecDepth 100000
set_option linter.unusedVariables false
set_option linter.unusedSimpArgs false

def stE (j : Nat) : TE := ⟨(j : Int), 3, 3, 0⟩
def stL (k : Nat) : List TE := (List.range k).map stE
theorem stL_len (k : Nat) : (stL k).length = k := by simp [stL]
theorem stL_next (k : Nat) : stL k ++ [⟨(k : Int), 0 + 3, 3, 0⟩] = stL (k + 1) := by simp [stL, List.range_succ, stE]
theorem stL_new (k : Nat) : fdT (stL k) (k : Nat) < 0 := by
  by_cases h : fdT (stL k) (k : Nat) < 0
  · exact h
  · obtain ⟨i, hi, _, e⟩ := fdT_ge (show 0 ≤ fdT (stL k) (k : Nat) by omega)
    have : (stL k)[i].n = (i : Nat) := by simp [stL, stE]
    rw [stL_len] at hi
    omega
/-- Those left. -/
def lfL (k : Nat) (ns : List Int) : List TE := ((List.range k).filter fun j : Nat => !decide ((j : Int) ∈ ns)).map stE
theorem out_lf (k : Nat) (ns : List Int) : outL ns (stL k) = lfL k ns := by
  unfold outL stL lfL
  rw [List.filter_map]; rfl
theorem filt2 {α : Type} (p : α → Bool) : ∀ l : List α, (l.filter fun x => !p x).length + (l.filter p).length = l.length
  | [] => rfl
  | x :: l => by
    have := filt2 p l
    cases h : p x <;> simp [h] <;> omega
theorem lf_len (k : Nat) (ns : List Int) : (lfL k ns).length + ((List.range k).filter fun j : Nat => decide ((j : Int) ∈ ns)).length = k := by
  unfold lfL
  rw [List.length_map]
  have := filt2 (fun j : Nat => decide ((j : Int) ∈ ns)) (List.range k)
  rw [List.length_range] at this
  exact this
theorem lf_mem {k : Nat} {ns : List Int} {e : TE} (h : e ∈ lfL k ns) : ∃ j : Nat, j < k ∧ (j : Int) ∉ ns ∧ e = stE j := by
  simp only [lfL, List.mem_map, List.mem_filter, List.mem_range] at h
  obtain ⟨j, ⟨h1, h2⟩, rfl⟩ := h
  exact ⟨j, h1, by simpa using h2, rfl⟩
theorem lf_due (k : Nat) (ns : List Int) : dueL 3 (lfL k ns) = lfL k ns := by
  unfold dueL
  rw [List.filter_eq_self]
  intro e he
  obtain ⟨j, _, _, rfl⟩ := lf_mem he
  simp [stE]
theorem lf_stab (k : Nat) (ns : List Int) : stab (lfL k ns) = lfL k ns := by
  unfold stab
  apply List.mergeSort_of_pairwise
  rw [List.pairwise_iff_getElem]
  intro i j hi hj hij
  obtain ⟨_, _, _, e1⟩ := lf_mem (List.getElem_mem hi)
  obtain ⟨_, _, _, e2⟩ := lf_mem (List.getElem_mem hj)
  rw [e1, e2]
  simp [leT, stE]
theorem lf_ok (k : Nat) (ns : List Int) : TmOk (lfL k ns) := by
  intro e he
  obtain ⟨j, _, _, rfl⟩ := lf_mem he
  simp [stE]
theorem lf_out (k : Nat) (ns : List Int) : outL ns ((lfL k ns).map (updE 9 3)) = (lfL k ns).map (updE 9 3) := by
  unfold outL
  rw [List.filter_eq_self]
  intro e he
  obtain ⟨x, hx, rfl⟩ := List.mem_map.1 he
  obtain ⟨j, _, hj, rfl⟩ := lf_mem hx
  simp [updE, stE, hj]
theorem lf_nums {k : Nat} {ns : List Int} {x : Int} (h : x ∈ numsT (lfL k ns)) : x ∉ ns := by
  unfold numsT at h
  obtain ⟨e, he, rfl⟩ := List.mem_map.1 h
  obtain ⟨j, _, hj, rfl⟩ := lf_mem he
  exact hj
set_option maxHeartbeats 4000000 in
theorem timerStops_spec (n : Int) (hn : (Lit.int .i64 n).wf = true) (S : List Int) (hS : ∀ x ∈ S, (Lit.int .u32 x).wf = true) :
    Tri Try.prog 6 [.int .i64 n, .vsl 1 (uv S) false] [] (fun v q => v = .bool true) := by
  refine Tri.post ?_
  obtain ⟨k, ha, ha15⟩ := and_i64 n (k := 15) (by decide)
  have ha : ibits .and .i64 n 15 = k := ha
  have hnw := tnew_spec 3 9 (by decide)
  have wk : iwrap .u32 (k : Int) = k := by rw [iwrap_u32]; omega
  have hS0 : ∀ x ∈ S, 0 ≤ x := fun x hx => by
    have := hS x hx
    simp [Lit.wf, IntKind.min, IntKind.max, IntKind.bits, IntKind.signed] at this; omega
  skip
  refine (Tri.enter (rl := r6) (code := c6) (by kernel_rfl) Try.func6 rfl c6_ok (by kernel_rfl) (by kernel_rfl) ?_)
  refine run_ok 4000 _ _ _ _ ?_
  simp (maxSteps := 10000000) only [go_sem, c6, r6, ha]
  refine sem_call rfl rfl (((hnw).embed [] rfl trivial rfl rfl rfl (by simp)).mono ?_)
  rintro _ _ ⟨_, _, ⟨rfl, rfl⟩, rfl, rfl⟩
  refine run_ok 4000 _ _ _ _ ?_
  simp (maxSteps := 10000000) only [go_sem, ha]
  refine sem_call rfl rfl (((awake14_spec).embed [] rfl trivial rfl rfl rfl (by simp)).mono ?_)
  rintro _ _ ⟨_, _, ⟨rfl, rfl⟩, rfl, rfl⟩
  refine run_ok 4000 _ _ _ _ ?_
  simp (maxSteps := 10000000) only [go_sem, ha]
  refine sem_nilbox 0 2 4 rfl rfl ?_
  simp (maxSteps := 10000000) only [go_sem, ha]
  refine sem_rounds (fun i : Nat => i ≤ k)
    (fun i => [(0, .int .i64 k), (1, .vsl 1 (uv S) false), (5, .pbox 0 0), (28, .int .i64 k), (29, .int .i64 i)])
    (fun i => [.box [.int .i64 3, .int .i64 9, .sl 1 0 i i false], .row 4 (terows (stL i))]) (fun i => k - i) 0 [0, 1] (Nat.zero_le _) ?_ ?_
  · simp [Emb, go_sem, stL, terows]
  intro i hi
  by_cases hlt : i < k
  · have hin : (i : Int) < (k : Int) := by omega
    have hs := tstart_new 3 9 (stL i) (i : Nat) 0 (by rw [stL_len]; omega) (stL_new i) (by omega)
    rw [stL_next] at hs
    simp only [tmM, tmM2, stL_len] at hs
    have wi : iwrap .u32 (i : Int) = i := by rw [iwrap_u32]; omega
    skip
    refine run_ok 4000 _ _ _ _ ?_
    simp (maxSteps := 10000000) only [go_sem, hin, wi, inc64 (show i < 1000000000000 by omega)]
    refine sem_call rfl rfl (((hs).embed [0, 1] rfl (by repeat' first | exact trivial | rfl | (simp only [go_sem]; done) | constructor) rfl (by first | rfl | simp only [go_sem]) rfl (by simp)).mono ?_)
    rintro _ _ ⟨_, _, ⟨rfl, rfl⟩, rfl, rfl⟩
    refine run_ok 4000 _ _ _ _ ?_
    simp (maxSteps := 10000000) only [go_sem, hin, wi, inc64 (show i < 1000000000000 by omega)]
    refine ⟨i + 1, by omega, hlt, [0, 2], ?_⟩
    simp only [Emb, go_sem]
  have hi : k = i := by omega
  subst hi
  have hge : ¬ (k : Int) < (k : Int) := by omega
  by_cases c : (S.length : Int) > 12
  · skip
    refine run_ok 4000 _ _ _ _ ?_
    simp (maxSteps := 10000000) only [go_sem, hge, c, iv_len]
    refine run_ok 4000 _ _ _ _ ?_
    simp (maxSteps := 10000000) only [go_sem, hge, c, iv_len]
    refine ⟨by omega, ?_⟩
    have he : sub (uv S) 0 12 = uv (S.take 12) := by rw [iv_sub]; simp
    rw [he, iv_len]
    have hns : ∀ x ∈ S.take 12, 0 ≤ x := fun x hx => hS0 x (List.mem_of_mem_take hx)
    have hnl : (S.take 12).length ≤ 12 := by rw [List.length_take]; omega
    generalize S.take 12 = ns at *
    refine sem_rounds (fun q : Nat × Cnt => q.1 ≤ ns.length ∧ CtI k (ns.take q.1) q.2)
      (fun q => [(0, .int .i64 k), (1, .vsl 1 (uv ns) false), (5, .pbox 0 0), (8, .map 2), (43, .vsl 1 (uv ns) false), (44, .int .i64 ns.length), (45, .int .i64 q.1)])
      (fun q => [.box [.int .i64 3, .int .i64 9, .sl 1 0 k k false], .row 4 (terows (stL k)), .map (gme q.2)]) (fun q => ns.length - q.1) (0, []) [0, 1, 2] ⟨Nat.zero_le _, CtI.begin k⟩ ?_ ?_
    · simp [Emb, go_sem, gme]
    rintro ⟨i, D⟩ ⟨hi, hD⟩
    simp only at hi hD ⊢
    by_cases hlt : i < ns.length
    · have r0 := iv_rint (k := .u32) hlt
      have hin : (i : Int) < (ns.length : Int) := by omega
      have htk : ns.take (i + 1) = ns.take i ++ [ns[i]] := List.take_succ_eq_append_getElem hlt
      by_cases c : ns[i] < (k : Int)
      · have hp := hD.put c
        rw [← htk] at hp
        have hrg := cget_rg hD ns[i]
        rw [List.length_take] at hrg
        have hci := gme_int (k := ns[i]) (D := D)
        have hcv := gme_val (k := ns[i]) (D := D)
        have hcp := gme_put (k := ns[i]) ((cget D ns[i]).getD 0 + 1) (D := D)
        generalize (cget D ns[i]).getD 0 = v at *
        generalize cput D ns[i] (v + 1) = D2 at *
        generalize ns[i] = y at *
        have w1 : iwrap .i64 (v + 1) = v + 1 := iwrap_i64_in (by omega)
        skip
        refine run_ok 4000 _ _ _ _ ?_
        simp (maxSteps := 10000000) only [go_sem, hin, r0, iv_hasI hlt, iv_len, wk, c, hci, hcv, hcp, w1, Int.natCast_nonneg, inc64 (show i < 1000000000000 by omega)]
        refine ⟨(i + 1, D2), by simp only; omega, ⟨hlt, hp⟩, [0, 1, 2], ?_⟩
        simp only [Emb, go_sem]
      · have hp := hD.skip c
        rw [← htk] at hp
        generalize ns[i] = y at *
        skip
        refine run_ok 4000 _ _ _ _ ?_
        simp (maxSteps := 10000000) only [go_sem, hin, r0, iv_hasI hlt, iv_len, wk, c, Int.natCast_nonneg, inc64 (show i < 1000000000000 by omega)]
        refine ⟨(i + 1, D), by simp only; omega, ⟨hlt, hp⟩, [0, 1, 2], ?_⟩
        simp only [Emb, go_sem]
    have hge : ¬ (i : Int) < (ns.length : Int) := by omega
    have hi : i = ns.length := by omega
    subst hi
    rw [List.take_length] at hD
    have hlen := hD.len hns
    have hlf := lf_len k ns
    rw [← hlen] at hlf
    have hs := tstop_spec 3 9 (stL k) ns false (by rw [stL_len]; omega) (by omega)
    rw [out_lf, stL_len] at hs
    have hsv : (k : Int) - ((lfL k ns).length : Int) = D.length := by omega
    rw [hsv] at hs
    have hl := tlen_spec 3 9 (lfL k ns)
    have hd := due_small 3 9 3 (lfL k ns) (by omega) (lf_ok k ns) (by omega) (by omega)
    rw [lf_due, lf_stab] at hd
    have hx := tnext_spec 3 9 ((lfL k ns).map (updE 9 3)) (by rw [List.length_map]; omega)
    have hs2 := tstop_spec 3 9 ((lfL k ns).map (updE 9 3)) ns false (by rw [List.length_map]; omega) (by omega)
    rw [lf_out] at hs2
    have hml : ((lfL k ns).map (updE 9 3)).length = (lfL k ns).length := List.length_map ..
    have hnu : ∀ x ∈ numsT (lfL k ns), cget D x = none := fun x hx => hD.get (lf_nums hx)
    have hnl : (numsT (lfL k ns)).length = (lfL k ns).length := by simp [numsT]
    rw [hml, Int.sub_self] at hs2
    simp only [tmM, tmM2, stL_len, hml] at hs hl hd hx hs2
    have w2 : iwrap .i64 ((k : Int) - (D.length : Int)) = ((lfL k ns).length : Int) := by rw [iwrap_i64_in (by omega)]; omega
    have hemp : ((lfL k ns).map (updE 9 3)).isEmpty = decide ((lfL k ns).length = 0) := by
      rw [← hml]; cases (lfL k ns).map (updE 9 3) <;> simp
    generalize (lfL k ns).map (updE 9 3) = L2 at *
    generalize numsT (lfL k ns) = NU at *
    generalize lfL k ns = L1 at *
    skip
    refine run_ok 4000 _ _ _ _ ?_
    simp (maxSteps := 10000000) only [go_sem, hge, w2, iv_len]
    refine run_ok 4000 _ _ _ _ ?_
    simp (maxSteps := 10000000) only [go_sem, hge, w2, iv_len]
    refine sem_call rfl rfl (((hs).embed [0, 1] rfl (by repeat' first | exact trivial | rfl | (simp only [go_sem]; done) | constructor) rfl (by first | rfl | simp only [go_sem]) rfl (by simp)).mono ?_)
    rintro _ _ ⟨_, _, ⟨rfl, rfl⟩, rfl, rfl⟩
    refine run_ok 4000 _ _ _ _ ?_
    simp (maxSteps := 10000000) only [go_sem, hge, w2, iv_len]
    refine sem_call rfl rfl (((hl).embed [0, 3] rfl (by repeat' first | exact trivial | rfl | (simp only [go_sem]; done) | constructor) rfl (by first | rfl | simp only [go_sem]) rfl (by simp)).mono ?_)
    rintro _ _ ⟨_, _, ⟨rfl, rfl⟩, rfl, rfl⟩
    refine run_ok 4000 _ _ _ _ ?_
    simp (maxSteps := 10000000) only [go_sem, hge, w2, iv_len]
    refine sem_call rfl rfl (((hd).embed [0, 3] rfl (by repeat' first | exact trivial | rfl | (simp only [go_sem]; done) | constructor) rfl (by first | rfl | simp only [go_sem]) rfl (by simp)).mono ?_)
    rintro _ _ ⟨_, _, ⟨rfl, rfl⟩, rfl, rfl⟩
    refine run_ok 4000 _ _ _ _ ?_
    simp (maxSteps := 10000000) only [go_sem, hge, w2, iv_len]
    refine sem_rounds (fun j : Nat => j ≤ NU.length)
      (fun j => [(0, .int .i64 k), (1, .vsl 1 (uv ns) false), (5, .pbox 0 0), (8, .map 2), (74, .vsl 1 (uv NU) false), (75, .int .i64 NU.length), (76, .int .i64 j)])
      (fun j => [.box [.int .i64 3, .int .i64 9, .sl 1 0 L1.length L1.length false], .row 4 (terows L2), .map (gme D)]) (fun j => NU.length - j) 0 [0, 3, 2] (Nat.zero_le _) ?_ ?_
    · simp [Emb, go_sem]
    intro j hj
    by_cases hlt : j < NU.length
    · have r0 := iv_rint (k := .u32) hlt
      have hin : (j : Int) < (NU.length : Int) := by omega
      have hg := hnu _ (List.getElem_mem hlt)
      have hci := gme_int (k := NU[j]) (D := D)
      have hcv := gme_val (k := NU[j]) (D := D)
      rw [hg] at hci
      simp only [Option.getD_none] at hci
      generalize NU[j] = y at *
      skip
      refine run_ok 4000 _ _ _ _ ?_
      simp (maxSteps := 10000000) only [go_sem, hin, r0, iv_hasI hlt, iv_len, hci, hcv, Int.natCast_nonneg, inc64 (show j < 1000000000000 by omega)]
      refine ⟨j + 1, by omega, hlt, [0, 1, 2], ?_⟩
      simp only [Emb, go_sem]
    have hge : ¬ (j : Int) < (NU.length : Int) := by omega
    by_cases hz : L1.length = 0
    · have hk : ¬ (k : Int) > (D.length : Int) := by omega
      rw [decide_eq_true hz] at hemp
      rw [hemp] at hx
      skip
      refine run_ok 4000 _ _ _ _ ?_
      simp (maxSteps := 10000000) only [go_sem, hge, hk]
      refine run_ok 4000 _ _ _ _ ?_
      simp (maxSteps := 10000000) only [go_sem, hge, hk]
      refine sem_call rfl rfl (((hx).embed [0, 1] rfl (by repeat' first | exact trivial | rfl | (simp only [go_sem]; done) | constructor) rfl (by first | rfl | simp only [go_sem]) rfl (by simp)).mono ?_)
      rintro _ _ ⟨_, _, ⟨rfl, rfl⟩, rfl, rfl⟩
      refine run_ok 4000 _ _ _ _ ?_
      simp (maxSteps := 10000000) only [go_sem, hge, hk]
      refine sem_call rfl rfl (((hs2).embed [0, 1] rfl (by repeat' first | exact trivial | rfl | (simp only [go_sem]; done) | constructor) rfl (by first | rfl | simp only [go_sem]) rfl (by simp)).mono ?_)
      rintro _ _ ⟨_, _, ⟨rfl, rfl⟩, rfl, rfl⟩
      refine run_ok 4000 _ _ _ _ ?_
      simp (maxSteps := 10000000) only [go_sem, hge, hk]
      refine ⟨_, [], .like (Like.bool true) (.sub [] ?_ .done), rfl⟩
      simp only [EmbV, go_sem]
    · have hk : (k : Int) > (D.length : Int) := by omega
      rw [decide_eq_false hz] at hemp
      rw [hemp] at hx
      skip
      refine run_ok 4000 _ _ _ _ ?_
      simp (maxSteps := 10000000) only [go_sem, hge, hk]
      refine run_ok 4000 _ _ _ _ ?_
      simp (maxSteps := 10000000) only [go_sem, hge, hk]
      refine sem_call rfl rfl (((hx).embed [0, 1] rfl (by repeat' first | exact trivial | rfl | (simp only [go_sem]; done) | constructor) rfl (by first | rfl | simp only [go_sem]) rfl (by simp)).mono ?_)
      rintro _ _ ⟨_, _, ⟨rfl, rfl⟩, rfl, rfl⟩
      refine run_ok 4000 _ _ _ _ ?_
      simp (maxSteps := 10000000) only [go_sem, hge, hk]
      refine sem_call rfl rfl (((hs2).embed [0, 1] rfl (by repeat' first | exact trivial | rfl | (simp only [go_sem]; done) | constructor) rfl (by first | rfl | simp only [go_sem]) rfl (by simp)).mono ?_)
      rintro _ _ ⟨_, _, ⟨rfl, rfl⟩, rfl, rfl⟩
      refine run_ok 4000 _ _ _ _ ?_
      simp (maxSteps := 10000000) only [go_sem, hge, hk]
      refine ⟨_, [], .like (Like.bool true) (.sub [] ?_ .done), rfl⟩
      simp only [EmbV, go_sem]
  · have hns := hS0
    have hnl : S.length ≤ 12 := by omega
    generalize S = ns at *
    skip
    refine run_ok 4000 _ _ _ _ ?_
    simp (maxSteps := 10000000) only [go_sem, hge, c, iv_len]
    refine run_ok 4000 _ _ _ _ ?_
    simp (maxSteps := 10000000) only [go_sem, hge, c, iv_len]
    refine sem_rounds (fun q : Nat × Cnt => q.1 ≤ ns.length ∧ CtI k (ns.take q.1) q.2)
      (fun q => [(0, .int .i64 k), (1, .vsl 1 (uv ns) false), (5, .pbox 0 0), (8, .map 2), (43, .vsl 1 (uv ns) false), (44, .int .i64 ns.length), (45, .int .i64 q.1)])
      (fun q => [.box [.int .i64 3, .int .i64 9, .sl 1 0 k k false], .row 4 (terows (stL k)), .map (gme q.2)]) (fun q => ns.length - q.1) (0, []) [0, 1, 2] ⟨Nat.zero_le _, CtI.begin k⟩ ?_ ?_
    · simp [Emb, go_sem, gme]
    rintro ⟨i, D⟩ ⟨hi, hD⟩
    simp only at hi hD ⊢
    by_cases hlt : i < ns.length
    · have r0 := iv_rint (k := .u32) hlt
      have hin : (i : Int) < (ns.length : Int) := by omega
      have htk : ns.take (i + 1) = ns.take i ++ [ns[i]] := List.take_succ_eq_append_getElem hlt
      by_cases c : ns[i] < (k : Int)
      · have hp := hD.put c
        rw [← htk] at hp
        have hrg := cget_rg hD ns[i]
        rw [List.length_take] at hrg
        have hci := gme_int (k := ns[i]) (D := D)
        have hcv := gme_val (k := ns[i]) (D := D)
        have hcp := gme_put (k := ns[i]) ((cget D ns[i]).getD 0 + 1) (D := D)
        generalize (cget D ns[i]).getD 0 = v at *
        generalize cput D ns[i] (v + 1) = D2 at *
        generalize ns[i] = y at *
        have w1 : iwrap .i64 (v + 1) = v + 1 := iwrap_i64_in (by omega)
        skip
        refine run_ok 4000 _ _ _ _ ?_
        simp (maxSteps := 10000000) only [go_sem, hin, r0, iv_hasI hlt, iv_len, wk, c, hci, hcv, hcp, w1, Int.natCast_nonneg, inc64 (show i < 1000000000000 by omega)]
        refine ⟨(i + 1, D2), by simp only; omega, ⟨hlt, hp⟩, [0, 1, 2], ?_⟩
        simp only [Emb, go_sem]
      · have hp := hD.skip c
        rw [← htk] at hp
        generalize ns[i] = y at *
        skip
        refine run_ok 4000 _ _ _ _ ?_
        simp (maxSteps := 10000000) only [go_sem, hin, r0, iv_hasI hlt, iv_len, wk, c, Int.natCast_nonneg, inc64 (show i < 1000000000000 by omega)]
        refine ⟨(i + 1, D), by simp only; omega, ⟨hlt, hp⟩, [0, 1, 2], ?_⟩
        simp only [Emb, go_sem]
    have hge : ¬ (i : Int) < (ns.length : Int) := by omega
    have hi : i = ns.length := by omega
    subst hi
    rw [List.take_length] at hD
    have hlen := hD.len hns
    have hlf := lf_len k ns
    rw [← hlen] at hlf
    have hs := tstop_spec 3 9 (stL k) ns false (by rw [stL_len]; omega) (by omega)
    rw [out_lf, stL_len] at hs
    have hsv : (k : Int) - ((lfL k ns).length : Int) = D.length := by omega
    rw [hsv] at hs
    have hl := tlen_spec 3 9 (lfL k ns)
    have hd := due_small 3 9 3 (lfL k ns) (by omega) (lf_ok k ns) (by omega) (by omega)
    rw [lf_due, lf_stab] at hd
    have hx := tnext_spec 3 9 ((lfL k ns).map (updE 9 3)) (by rw [List.length_map]; omega)
    have hs2 := tstop_spec 3 9 ((lfL k ns).map (updE 9 3)) ns false (by rw [List.length_map]; omega) (by omega)
    rw [lf_out] at hs2
    have hml : ((lfL k ns).map (updE 9 3)).length = (lfL k ns).length := List.length_map ..
    have hnu : ∀ x ∈ numsT (lfL k ns), cget D x = none := fun x hx => hD.get (lf_nums hx)
    have hnl : (numsT (lfL k ns)).length = (lfL k ns).length := by simp [numsT]
    rw [hml, Int.sub_self] at hs2
    simp only [tmM, tmM2, stL_len, hml] at hs hl hd hx hs2
    have w2 : iwrap .i64 ((k : Int) - (D.length : Int)) = ((lfL k ns).length : Int) := by rw [iwrap_i64_in (by omega)]; omega
    have hemp : ((lfL k ns).map (updE 9 3)).isEmpty = decide ((lfL k ns).length = 0) := by
      rw [← hml]; cases (lfL k ns).map (updE 9 3) <;> simp
    generalize (lfL k ns).map (updE 9 3) = L2 at *
    generalize numsT (lfL k ns) = NU at *
    generalize lfL k ns = L1 at *
    skip
    refine run_ok 4000 _ _ _ _ ?_
    simp (maxSteps := 10000000) only [go_sem, hge, w2, iv_len]
    refine run_ok 4000 _ _ _ _ ?_
    simp (maxSteps := 10000000) only [go_sem, hge, w2, iv_len]
    refine sem_call rfl rfl (((hs).embed [0, 1] rfl (by repeat' first | exact trivial | rfl | (simp only [go_sem]; done) | constructor) rfl (by first | rfl | simp only [go_sem]) rfl (by simp)).mono ?_)
    rintro _ _ ⟨_, _, ⟨rfl, rfl⟩, rfl, rfl⟩
    refine run_ok 4000 _ _ _ _ ?_
    simp (maxSteps := 10000000) only [go_sem, hge, w2, iv_len]
    refine sem_call rfl rfl (((hl).embed [0, 3] rfl (by repeat' first | exact trivial | rfl | (simp only [go_sem]; done) | constructor) rfl (by first | rfl | simp only [go_sem]) rfl (by simp)).mono ?_)
    rintro _ _ ⟨_, _, ⟨rfl, rfl⟩, rfl, rfl⟩
    refine run_ok 4000 _ _ _ _ ?_
    simp (maxSteps := 10000000) only [go_sem, hge, w2, iv_len]
    refine sem_call rfl rfl (((hd).embed [0, 3] rfl (by repeat' first | exact trivial | rfl | (simp only [go_sem]; done) | constructor) rfl (by first | rfl | simp only [go_sem]) rfl (by simp)).mono ?_)
    rintro _ _ ⟨_, _, ⟨rfl, rfl⟩, rfl, rfl⟩
    refine run_ok 4000 _ _ _ _ ?_
    simp (maxSteps := 10000000) only [go_sem, hge, w2, iv_len]
    refine sem_rounds (fun j : Nat => j ≤ NU.length)
      (fun j => [(0, .int .i64 k), (1, .vsl 1 (uv ns) false), (5, .pbox 0 0), (8, .map 2), (74, .vsl 1 (uv NU) false), (75, .int .i64 NU.length), (76, .int .i64 j)])
      (fun j => [.box [.int .i64 3, .int .i64 9, .sl 1 0 L1.length L1.length false], .row 4 (terows L2), .map (gme D)]) (fun j => NU.length - j) 0 [0, 3, 2] (Nat.zero_le _) ?_ ?_
    · simp [Emb, go_sem]
    intro j hj
    by_cases hlt : j < NU.length
    · have r0 := iv_rint (k := .u32) hlt
      have hin : (j : Int) < (NU.length : Int) := by omega
      have hg := hnu _ (List.getElem_mem hlt)
      have hci := gme_int (k := NU[j]) (D := D)
      have hcv := gme_val (k := NU[j]) (D := D)
      rw [hg] at hci
      simp only [Option.getD_none] at hci
      generalize NU[j] = y at *
      skip
      refine run_ok 4000 _ _ _ _ ?_
      simp (maxSteps := 10000000) only [go_sem, hin, r0, iv_hasI hlt, iv_len, hci, hcv, Int.natCast_nonneg, inc64 (show j < 1000000000000 by omega)]
      refine ⟨j + 1, by omega, hlt, [0, 1, 2], ?_⟩
      simp only [Emb, go_sem]
    have hge : ¬ (j : Int) < (NU.length : Int) := by omega
    by_cases hz : L1.length = 0
    · have hk : ¬ (k : Int) > (D.length : Int) := by omega
      rw [decide_eq_true hz] at hemp
      rw [hemp] at hx
      skip
      refine run_ok 4000 _ _ _ _ ?_
      simp (maxSteps := 10000000) only [go_sem, hge, hk]
      refine run_ok 4000 _ _ _ _ ?_
      simp (maxSteps := 10000000) only [go_sem, hge, hk]
      refine sem_call rfl rfl (((hx).embed [0, 1] rfl (by repeat' first | exact trivial | rfl | (simp only [go_sem]; done) | constructor) rfl (by first | rfl | simp only [go_sem]) rfl (by simp)).mono ?_)
      rintro _ _ ⟨_, _, ⟨rfl, rfl⟩, rfl, rfl⟩
      refine run_ok 4000 _ _ _ _ ?_
      simp (maxSteps := 10000000) only [go_sem, hge, hk]
      refine sem_call rfl rfl (((hs2).embed [0, 1] rfl (by repeat' first | exact trivial | rfl | (simp only [go_sem]; done) | constructor) rfl (by first | rfl | simp only [go_sem]) rfl (by simp)).mono ?_)
      rintro _ _ ⟨_, _, ⟨rfl, rfl⟩, rfl, rfl⟩
      refine run_ok 4000 _ _ _ _ ?_
      simp (maxSteps := 10000000) only [go_sem, hge, hk]
      refine ⟨_, [], .like (Like.bool true) (.sub [] ?_ .done), rfl⟩
      simp only [EmbV, go_sem]
    · have hk : (k : Int) > (D.length : Int) := by omega
      rw [decide_eq_false hz] at hemp
      rw [hemp] at hx
      skip
      refine run_ok 4000 _ _ _ _ ?_
      simp (maxSteps := 10000000) only [go_sem, hge, hk]
      refine run_ok 4000 _ _ _ _ ?_
      simp (maxSteps := 10000000) only [go_sem, hge, hk]
      refine sem_call rfl rfl (((hx).embed [0, 1] rfl (by repeat' first | exact trivial | rfl | (simp only [go_sem]; done) | constructor) rfl (by first | rfl | simp only [go_sem]) rfl (by simp)).mono ?_)
      rintro _ _ ⟨_, _, ⟨rfl, rfl⟩, rfl, rfl⟩
      refine run_ok 4000 _ _ _ _ ?_
      simp (maxSteps := 10000000) only [go_sem, hge, hk]
      refine sem_call rfl rfl (((hs2).embed [0, 1] rfl (by repeat' first | exact trivial | rfl | (simp only [go_sem]; done) | constructor) rfl (by first | rfl | simp only [go_sem]) rfl (by simp)).mono ?_)
      rintro _ _ ⟨_, _, ⟨rfl, rfl⟩, rfl, rfl⟩
      refine run_ok 4000 _ _ _ _ ?_
      simp (maxSteps := 10000000) only [go_sem, hge, hk]
      refine ⟨_, [], .like (Like.bool true) (.sub [] ?_ .done), rfl⟩
      simp only [EmbV, go_sem]
end Go.AEX
