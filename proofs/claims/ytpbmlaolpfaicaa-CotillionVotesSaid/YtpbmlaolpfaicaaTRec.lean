/- Seat rT: records that fit: Few, Fit. -/
import Derived.Test.YtpbmlaolpfaicaaTRos3
import Derived.Test.YtpbmlaolpfaicaaTBatC
namespace Go.AEX
open Go Go.AE Go.Proofs
set_option maxRecDepth 100000
set_option linter.unusedVariables false
set_option linter.unusedSimpArgs false

theorem fewC_take (l : List Chg) {i : Nat} (h : i < l.length) (h10 : i < 10) : fewC (l.take (i + 1)) = fewC (l.take i) ++ [(l[i].1, l[i].2.1, l[i].2.2.take 34)] := by
  unfold fewC
  rw [List.take_take, List.take_take, show min 10 (i + 1) = i + 1 by omega, show min 10 i = i by omega, List.take_succ_eq_append_getElem h, List.map_append]; rfl
theorem few_spec (l : List Chg) (tight : Bool) : Tri Try.prog 66 [.vsl 3 (crows l) tight] [] (fun v m => v = .vsl 3 (crows (fewC l)) false ∧ m = []) := by
  refine Tri.post ?_
  skip
  refine (Tri.enter (rl := r66) (code := c66) (by kernel_rfl) Try.func66 rfl c66_ok (by kernel_rfl) (by kernel_rfl) ?_)
  refine run_ok 4000 _ _ _ _ ?_
  simp (maxSteps := 10000000) only [go_sem, c66, r66, crows_len]
  refine sem_virt 3 3 rfl ?_
  simp (maxSteps := 10000000) only [go_sem, crows_len]
  refine sem_rounds (fun i : Nat => i ≤ l.length ∧ i ≤ 10) (fun i => [(0, .vsl 3 (crows l) tight), (3, .sl 0 0 (fewC (l.take i)).length (fewC (l.take i)).length false), (4, .int .i64 (i : Nat))])
    (fun i => [.row 3 (crows (fewC (l.take i)))]) (fun i => l.length - i) 0 [0] ⟨Nat.zero_le _, Nat.zero_le _⟩ ?_ ?_
  · simp [Emb, go_sem, fewC, crows]
  rintro i ⟨hi, h10⟩
  by_cases c : i < l.length
  · have hin : (i : Int) < (l.length : Int) := by omega
    by_cases c2 : i < 10
    · have hin2 : (i : Int) < 10 := by omega
      have r0 := crows_r0 c; have r1 := crows_r1 c; have r2 := crows_r2 c
      have h0 := crows_h0 c; have h1 := crows_h1 c; have h2 := crows_h2 c
      have w1 := inc64 (show i < 1000000000000 by omega)
      have hnx := fewC_take l c c2
      have hfl := fewC_len (l.take i)
      have hsm : small ((fewC (l.take i)).length + 1) := by unfold small; omega
      generalize l[i] = ch at *
      obtain ⟨k, p, vs⟩ := ch
      simp only at r0 r1 r2 hnx
      by_cases c3 : vs.length > 34
      · have g1 : (vs.length : Int) > 34 := by omega
        have g2 : (34 : Int) ≤ (vs.length : Int) := by omega
        have g3 : sub (iv .i64 vs) 0 34 = iv .i64 (vs.take 34) := by rw [iv_sub]; simp
        skip
        refine run_ok 4000 _ _ _ _ ?_
        simp (maxSteps := 10000000) only [go_sem, hin, hin2, r0, r1, r2, h0, h1, h2, w1, hsm, g1, g2, g3, iv_len, crows_len, Int.natCast_nonneg, Nat.le_refl]
        refine ⟨i + 1, by omega, ⟨c, by omega⟩, [2], ?_⟩
        simp only [Emb, go_sem, hnx, crows_one, crows_app, crows_all, List.length_append, List.length_singleton]
      · have g1 : ¬ (vs.length : Int) > 34 := by omega
        rw [show vs.take 34 = vs from List.take_of_length_le (by omega)] at hnx
        skip
        refine run_ok 4000 _ _ _ _ ?_
        simp (maxSteps := 10000000) only [go_sem, hin, hin2, r0, r1, r2, h0, h1, h2, w1, hsm, g1, iv_len, crows_len, Int.natCast_nonneg, Nat.le_refl]
        refine ⟨i + 1, by omega, ⟨c, by omega⟩, [2], ?_⟩
        simp only [Emb, go_sem, hnx, crows_one, crows_app, crows_all, List.length_append, List.length_singleton]
    · have hin2 : ¬ (i : Int) < 10 := by omega
      have e : fewC (l.take i) = fewC l := by unfold fewC; rw [List.take_take, show min 10 i = 10 by omega]
      rw [e]
      skip
      refine run_ok 4000 _ _ _ _ ?_
      simp (maxSteps := 10000000) only [go_sem, hin, hin2, crows_len]
      refine run_ok 4000 _ _ _ _ ?_
      simp (maxSteps := 10000000) only [go_sem, hin, hin2, crows_len]
      refine ⟨_, _, .fz 0 rfl (by simp only [go_sem, crows_len, Nat.le_refl]) (.sub [] ?_ .done), rfl, rfl⟩
      simp only [EmbV, go_sem, crows_all]
  · have hin : ¬ (i : Int) < (l.length : Int) := by omega
    have e : fewC (l.take i) = fewC l := by rw [List.take_of_length_le (by omega)]
    rw [e]
    skip
    refine run_ok 4000 _ _ _ _ ?_
    simp (maxSteps := 10000000) only [go_sem, hin, crows_len]
    refine run_ok 4000 _ _ _ _ ?_
    simp (maxSteps := 10000000) only [go_sem, hin, crows_len]
    refine ⟨_, _, .fz 0 rfl (by simp only [go_sem, crows_len, Nat.le_refl]) (.sub [] ?_ .done), rfl, rfl⟩
    simp only [EmbV, go_sem, crows_all]
def fitC : Nat → Int → List Chg → List Chg → List Chg × Nat × Int
  | S, ep, acc, [] => (acc, S, ep)
  | S, ep, acc, c :: l => if acc.length < 8 ∧ chkF S c = 0 then fitC (flipS S c.2.1) (ep + 1) (acc ++ [c]) l else fitC S ep acc l
abbrev Ply := Int × List Ord
def pro (x : Ply) : List AV := [.int .i64 x.1, .vsl 4 (orows x.2) false]
def pros (l : List Ply) : List (List AV) := l.map pro
theorem pros_len (l : List Ply) : (pros l).length = l.length := by simp [pros]
theorem pros_get {l : List Ply} {i : Nat} (h : i < l.length) : (pros l)[i]? = some (pro l[i]) := by simp [pros, h]
theorem pros_h0 {l : List Ply} {i : Nat} (h : i < l.length) : hasI .i64 (pros l) i 0 := ⟨_, _, pros_get h, rfl⟩
theorem pros_h1 {l : List Ply} {i : Nat} (h : i < l.length) : hasA (pros l) i 1 := ⟨_, _, pros_get h, rfl⟩
theorem pros_r0 {l : List Ply} {i : Nat} (h : i < l.length) : rint (pros l) i 0 = l[i].1 := by simp [rint, List.getD_eq_getElem?_getD, pros_get h, pro]
theorem pros_r1 {l : List Ply} {i : Nat} (h : i < l.length) : rany (pros l) i 1 = .vsl 4 (orows l[i].2) false := by simp [rany, List.getD_eq_getElem?_getD, pros_get h, pro]
theorem pros_app (l k : List Ply) : pros l ++ pros k = pros (l ++ k) := by simp [pros]
theorem pros_one (a : Int) (L : List Ord) : [[AV.int .i64 a, .vsl 4 (orows L) false]] = pros [(a, L)] := rfl
theorem pros_all (l : List Ply) : sub (pros l) 0 l.length = pros l := by
  unfold sub; rw [List.drop_zero, ← pros_len l, List.take_length]
def gro (G : List (List Ord)) : List (List AV) := G.map fun L => [.vsl 4 (orows L) false]
theorem gro_len (G : List (List Ord)) : (gro G).length = G.length := by simp [gro]
theorem gro_get {G : List (List Ord)} {i : Nat} (h : i < G.length) : (gro G)[i]? = some [.vsl 4 (orows G[i]) false] := by simp [gro, h]
theorem gro_r {G : List (List Ord)} {i : Nat} (h : i < G.length) : rany (gro G) i 0 = .vsl 4 (orows G[i]) false := by simp [rany, List.getD_eq_getElem?_getD, gro_get h]
theorem gro_h {G : List (List Ord)} {i : Nat} (h : i < G.length) : hasA (gro G) i 0 := ⟨_, _, gro_get h, rfl⟩
def fitB (G : List (List Ord)) (i : Nat) : List Ord := match G[i]? with | some L => td L | none => []
def fitP (ps : List Int) (G : List (List Ord)) : List Ply := ps.zipIdx.map fun x => (x.1, fitB G x.2)
theorem fitP_take (ps : List Int) (G : List (List Ord)) {i : Nat} (h : i < ps.length) : fitP (ps.take (i + 1)) G = fitP (ps.take i) G ++ [(ps[i], fitB G i)] := by
  unfold fitP
  rw [List.take_succ_eq_append_getElem h, List.zipIdx_append, List.map_append]
  simp [Nat.min_eq_left (Nat.le_of_lt h)]
theorem fitP_len (ps : List Int) (G : List (List Ord)) : (fitP ps G).length = ps.length := by simp [fitP]
def recV (turn : Int) (C : List Chg) (t d : Int) (Q : List Ply) : AV := .agg [.int .i64 turn, .vsl 3 (crows C) false, .int .i64 t, .int .i64 d, .vsl 2 (pros Q) false]
theorem withR_one {S : Nat} {ep : Int} {c : Chg} (h : chkF S c = 0) : withR S ep [c] = .tup [ros (flipS S c.2.1) (ep + 1), .int .i64 0] := by
  unfold withR
  have : withF S ep [c] = (some (flipS S c.2.1, ep + 1), 0) := by simp [withF, h]
  rw [this]
theorem fit_spec (turn : Int) (S : Nat) (hS : S < 4294967296) (ep : Int) (he : 0 ≤ ep ∧ ep ≤ 100000) (l : List Chg) (tight : Bool) (G : List (List Ord)) (tight2 : Bool) :
    Tri Try.prog 34 [.int .i64 turn, ros S ep, .vsl 3 (crows l) tight, .vsl 1 (gro G) tight2] []
      (fun v m => v = recV turn (fitC S ep [] (fewC l)).1 0 0 (fitP (allN (fitC S ep [] (fewC l)).2.1 32) G) ∧ m = []) := by
  refine Tri.post ?_
  have hfw := few_spec l tight
  have hFl := fewC_len l
  have hFv := fewC_v l
  generalize fewC l = F at *
  skip
  refine (Tri.enter (rl := r34) (code := c34) (by kernel_rfl) Try.func34 rfl c34_ok (by kernel_rfl) (by kernel_rfl) ?_)
  refine run_ok 4000 _ _ _ _ ?_
  simp (maxSteps := 10000000) only [go_sem, c34, r34, crows_len]
  refine sem_call rfl rfl (((hfw).embed [] rfl trivial rfl rfl rfl (by simp)).mono ?_)
  rintro _ _ ⟨_, _, ⟨rfl, rfl⟩, rfl, rfl⟩
  refine run_ok 4000 _ _ _ _ ?_
  simp (maxSteps := 10000000) only [go_sem, crows_len]
  refine sem_nilbox 2 1 3 rfl rfl ?_
  simp (maxSteps := 10000000) only [go_sem, crows_len]
  refine sem_rounds (fun x : Nat × List Chg × Nat × Int => x.1 ≤ F.length ∧ x.2.1.length ≤ 8 ∧ x.2.2.1 < 4294967296 ∧ (0 ≤ x.2.2.2 ∧ x.2.2.2 ≤ 100000 + (x.1 : Int)) ∧ (∀ c ∈ x.2.1, c.2.2.length ≤ 34) ∧ fitC S ep [] F = fitC x.2.2.1 x.2.2.2 x.2.1 (F.drop x.1))
    (fun x => [(3, .vsl 1 (gro G) tight2), (5, .pbox 0 0), (8, .pbox 1 0), (9, .pbox 2 0), (10, .pbox 3 0), (20, .vsl 3 (crows F) false), (21, .int .i64 F.length), (22, .int .i64 (x.1 : Nat))])
    (fun x => [.box [.int .u32 (S : Nat), .int .i64 ep], .box [.int .i64 0, .nilsl, .int .i64 0, .int .i64 0, .nilsl], .box [.int .i64 turn, .sl 4 0 x.2.1.length x.2.1.length false, .int .i64 0, .int .i64 0, .nilsl], .box [.int .u32 (x.2.2.1 : Nat), .int .i64 x.2.2.2], .row 3 (crows x.2.1)])
    (fun x => F.length - x.1) (0, [], S, ep) [0, 1, 2, 3, 4] ⟨Nat.zero_le _, by simp, hS, by simp only; omega, by simp, by simp⟩ ?_ ?_
  · simp [Emb, go_sem, crows]
  rintro ⟨i, acc, T, e⟩ ⟨hi, ha, hT, hee, hav, hw⟩
  simp only at hi ha hT hee hav hw ⊢
  by_cases c : i < F.length
  · have hin : (i : Int) < (F.length : Int) := by omega
    have hd : F.drop i = F[i] :: F.drop (i + 1) := List.drop_eq_getElem_cons c
    rw [hd] at hw
    have r0 := crows_r0 c; have r1 := crows_r1 c; have r2 := crows_r2 c
    have h0 := crows_h0 c; have h1 := crows_h1 c; have h2 := crows_h2 c
    have hcl := hFv _ (List.getElem_mem c)
    have w1 := inc64 (show i < 1000000000000 by omega)
    generalize F[i] = ch at *
    obtain ⟨k, p, vs⟩ := ch
    simp only at r0 r1 r2 hcl
    have hc := check_spec T hT e k p vs (by omega)
    simp only [fitC] at hw
    by_cases c8 : acc.length < 8
    · have g1 : (acc.length : Int) < 8 := by omega
      have hsm : small (acc.length + 1) := by unfold small; omega
      by_cases hz : chkF T (k, p, vs) = 0
      · rw [if_pos ⟨c8, hz⟩] at hw
        have hp := chkF_rg hz
        simp only at hp
        rw [hz] at hc
        have hwi := rwith_spec T hT e (by omega) [(k, p, vs)] true (by simp) (by intro c hc; simp at hc; rw [hc]; simp only; omega)
        rw [withR_one hz] at hwi
        have hcr : crows [(k, p, vs)] = [[AV.int .i64 k, .int .i64 p, .vsl 1 (iv .i64 vs) false]] := rfl
        rw [hcr] at hwi
        skip
        refine run_ok 4000 _ _ _ _ ?_
        simp (maxSteps := 10000000) only [go_sem, hin, r0, r1, r2, h0, h1, h2, w1, g1, hsm, Int.natCast_nonneg, crows_len, Nat.le_refl]
        refine sem_call rfl rfl (((hc).embed [] rfl trivial rfl rfl rfl (by simp)).mono ?_)
        rintro _ _ ⟨_, _, ⟨rfl, rfl⟩, rfl, rfl⟩
        refine run_ok 4000 _ _ _ _ ?_
        simp (maxSteps := 10000000) only [go_sem, hin, r0, r1, r2, h0, h1, h2, w1, g1, hsm, Int.natCast_nonneg, crows_len, Nat.le_refl]
        refine sem_call rfl rfl (((hwi).embed [] rfl trivial rfl rfl rfl (by simp)).mono ?_)
        rintro _ _ ⟨_, _, ⟨rfl, rfl⟩, rfl, rfl⟩
        refine run_ok 4000 _ _ _ _ ?_
        simp (maxSteps := 10000000) only [go_sem, hin, r0, r1, r2, h0, h1, h2, w1, g1, hsm, Int.natCast_nonneg, crows_len, Nat.le_refl]
        refine ⟨(i + 1, acc ++ [(k, p, vs)], flipS T p, e + 1), by simp only; omega, ⟨by simp only; omega, by simp; omega, flipS_lt hT hp, by simp only; omega, ?_, hw⟩, [0, 1, 2, 3, 6], ?_⟩
        · intro x hx
          rcases List.mem_append.1 hx with hx | hx
          · exact hav x hx
          · simp at hx; rw [hx]; exact hcl
        · simp only [Emb, go_sem, crows_one, crows_app, crows_all, List.length_append, List.length_singleton]
      · rw [if_neg (fun h => hz h.2)] at hw
        have hne : (chkF T (k, p, vs) == 0) = false := by simpa using hz
        skip
        refine run_ok 4000 _ _ _ _ ?_
        simp (maxSteps := 10000000) only [go_sem, hin, r0, r1, r2, h0, h1, h2, w1, g1, hne, Int.natCast_nonneg, crows_len, Nat.le_refl]
        refine sem_call rfl rfl (((hc).embed [] rfl trivial rfl rfl rfl (by simp)).mono ?_)
        rintro _ _ ⟨_, _, ⟨rfl, rfl⟩, rfl, rfl⟩
        refine run_ok 4000 _ _ _ _ ?_
        simp (maxSteps := 10000000) only [go_sem, hin, r0, r1, r2, h0, h1, h2, w1, g1, hne, Int.natCast_nonneg, crows_len, Nat.le_refl]
        refine ⟨(i + 1, acc, T, e), by simp only; omega, ⟨by simp only; omega, ha, hT, by simp only; omega, hav, hw⟩, [0, 1, 2, 3, 4], ?_⟩
        simp only [Emb, go_sem]
    · rw [if_neg (fun h => c8 h.1)] at hw
      have g1 : ¬ (acc.length : Int) < 8 := by omega
      skip
      refine run_ok 4000 _ _ _ _ ?_
      simp (maxSteps := 10000000) only [go_sem, hin, r0, r1, r2, h0, h1, h2, w1, g1, Int.natCast_nonneg, crows_len, Nat.le_refl]
      refine ⟨(i + 1, acc, T, e), by simp only; omega, ⟨by simp only; omega, ha, hT, by simp only; omega, hav, hw⟩, [0, 1, 2, 3, 4], ?_⟩
      simp only [Emb, go_sem]
  have hin : ¬ (i : Int) < (F.length : Int) := by omega
  rw [List.drop_eq_nil_of_le (by omega)] at hw
  simp only [fitC] at hw
  rw [hw]
  simp only
  clear hw
  have hal := rall_spec T hT e
  have hPl := allN_len T 32
  generalize allN T 32 = P at *
  skip
  refine run_ok 4000 _ _ _ _ ?_
  simp (maxSteps := 10000000) only [go_sem, hin, iv_len]
  refine run_ok 4000 _ _ _ _ ?_
  simp (maxSteps := 10000000) only [go_sem, hin, iv_len]
  refine sem_call rfl rfl (((hal).embed [] rfl trivial rfl rfl rfl (by simp)).mono ?_)
  rintro _ _ ⟨_, _, ⟨rfl, rfl⟩, rfl, rfl⟩
  refine run_ok 4000 _ _ _ _ ?_
  simp (maxSteps := 10000000) only [go_sem, hin, iv_len]
  refine sem_nilbox 2 4 2 rfl rfl ?_
  simp (maxSteps := 10000000) only [go_sem, hin, iv_len]
  refine sem_rounds (fun j : Nat => j ≤ P.length)
    (fun j => [(3, .vsl 1 (gro G) tight2), (8, .pbox 1 0), (9, .pbox 2 0), (51, .vsl 1 (iv .i64 P) false), (52, .int .i64 P.length), (53, .int .i64 (j : Nat))])
    (fun j => [.box [.int .u32 (S : Nat), .int .i64 ep], .box [.int .i64 0, .nilsl, .int .i64 0, .int .i64 0, .nilsl], .box [.int .i64 turn, .sl 4 0 acc.length acc.length false, .int .i64 0, .int .i64 0, .sl 5 0 j j false], .box [.int .u32 (T : Nat), .int .i64 e], .row 3 (crows acc), .row 2 (pros (fitP (P.take j) G))])
    (fun j => P.length - j) 0 [0, 1, 2, 3, 4, 5] (Nat.zero_le _) ?_ ?_
  · simp [Emb, go_sem, pros, fitP]
  intro j hj
  have hfl : (fitP (P.take j) G).length = j := by rw [fitP_len, List.length_take]; omega
  have hfa := pros_all (fitP (P.take j) G)
  rw [hfl] at hfa
  by_cases cj : j < P.length
  · have hin : (j : Int) < (P.length : Int) := by omega
    have r0 := iv_rint (k := .i64) cj
    have h0 := iv_hasI (k := .i64) cj
    have w1 := inc64 (show j < 1000000000000 by omega)
    have hnx := fitP_take P G cj
    have hsm : small (j + 1) := by unfold small; omega
    generalize P[j] = p at *
    by_cases cg : j < G.length
    · have g1 : (j : Int) < (G.length : Int) := by omega
      have q0 := gro_r cg
      have q1 := gro_h cg
      have hb : fitB G j = td G[j] := by unfold fitB; rw [List.getElem?_eq_getElem cg]
      rw [hb] at hnx
      have hti := tidy_spec G[j]
      skip
      refine run_ok 4000 _ _ _ _ ?_
      simp (maxSteps := 10000000) only [go_sem, hin, r0, h0, w1, g1, q0, q1, hsm, iv_len, gro_len, pros_len, hfl, Int.natCast_nonneg, Nat.le_refl]
      refine sem_call rfl rfl (((hti).embed [] rfl trivial rfl rfl rfl (by simp)).mono ?_)
      rintro _ _ ⟨_, _, ⟨rfl, rfl⟩, rfl, rfl⟩
      refine run_ok 4000 _ _ _ _ ?_
      simp (maxSteps := 10000000) only [go_sem, hin, r0, h0, w1, g1, q0, q1, hsm, iv_len, gro_len, pros_len, hfl, Int.natCast_nonneg, Nat.le_refl]
      refine ⟨j + 1, by omega, cj, [0, 1, 2, 3, 4, 7], ?_⟩
      simp only [Emb, go_sem, hnx, pros_one, pros_app, hfa]
    · have g1 : ¬ (j : Int) < (G.length : Int) := by omega
      have hb : fitB G j = [] := by unfold fitB; rw [List.getElem?_eq_none (by omega)]
      rw [hb] at hnx
      have ho : orows [] = [] := rfl
      skip
      skip
      refine run_ok 12 _ _ _ _ ?_
      simp (maxSteps := 10000000) only [go_sem, hin, r0, h0, w1, g1, hsm, iv_len, gro_len, pros_len, hfl, Int.natCast_nonneg, Nat.le_refl]
      skip
      refine sem_likebox 6 1 (.vsl 4 (orows []) false) rfl rfl (Like.nilv 4 false) ?_
      refine run_ok 4000 _ _ _ _ ?_
      simp (maxSteps := 10000000) only [go_sem, hin, r0, h0, w1, g1, hsm, iv_len, gro_len, pros_len, hfl, Int.natCast_nonneg, Nat.le_refl]
      refine ⟨j + 1, by omega, cj, [0, 1, 2, 3, 4, 7], ?_⟩
      simp only [Emb, go_sem, hnx, pros_one, pros_app, hfa]
  · have hin : ¬ (j : Int) < (P.length : Int) := by omega
    obtain rfl : j = P.length := by omega
    rw [List.take_length] at hfl hfa ⊢
    skip
    refine run_ok 4000 _ _ _ _ ?_
    simp (maxSteps := 10000000) only [go_sem, hin]
    refine run_ok 4000 _ _ _ _ ?_
    simp (maxSteps := 10000000) only [go_sem, hin]
    refine ⟨_, _, .fz 4 rfl (by simp only [go_sem, crows_len, Nat.le_refl]) (.fz 5 rfl (by simp only [go_sem, pros_len, hfl, Nat.le_refl]) (.sub [] ?_ .done)), rfl, rfl⟩
    simp only [EmbV, go_sem, recV, crows_all, hfa]
end Go.AEX
