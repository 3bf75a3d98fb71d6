/- Vote: VoteMoves, the walk. -/
import Derived.Test.YthdkobfafncpcaaVoteI
namespace Go.AEX
open Go Go.AE Go.Proofs
set_option maxRecDepth 100000
set_option linter.unusedVariables false
set_option linter.unusedSimpArgs false

def sdk (M : Sd) : List Int := M.map (·.1)
theorem voteMoves_spec (n : Int) (hn : (Lit.int .i64 n).wf = true) (ys : List Int) (hys : ∀ x ∈ ys, (Lit.int .i64 x).wf = true) (gone : Int) (hgone : (Lit.int .i64 gone).wf = true) :
    Tri Try.prog 8 [.int .i64 n, .vsl 1 (iv .i64 ys) false, .int .i64 gone] [] (fun v m => v = .bool true) := by
  refine Tri.mono (K := fun v m => v = .bool true ∧ m = []) ?_ fun v m h => h.1
  refine Tri.post ?_
  obtain ⟨B, hB, hB2⟩ := and_i64 n (k := 7) (by decide)
  have hB : ibits .and .i64 n 7 = (B : Int) := hB
  obtain ⟨N, hN⟩ : ∃ N : Nat, N = 4 + B := ⟨_, rfl⟩
  have w0 : iwrap .i64 ((4 : Int) + (B : Int)) = (N : Int) := by rw [iwrap_i64_in (by omega)]; omega
  have hN12 : N < 12 := by omega
  have w2 : iwrap .i64 ((N : Int) - 1) = ((N - 1 : Nat) : Int) := by rw [iwrap_i64_in (by omega)]; omega
  have hof := of_spec (rg N) false (by rw [rg_len]; omega)
  rw [show ofN (rg N) 0 = Sn N from rfl] at hof
  have hia := iv_all (rg N)
  rw [rg_len] at hia
  rw [← hia] at hof
  have hS := Sn_lt N (by omega)
  have hnew := vnew_spec (Sn N) 0
  have hask := ask_spec (Sn N) hS 0 ((N - 1 : Nat) : Int) (Sn_has (by omega) (by omega)) (by omega)
  skip
  refine (Tri.asB (Tri.enter (rl := r8) (code := c8) (by kernel_rfl) Try.func8 rfl c8_ok (by kernel_rfl) (by kernel_rfl) ?_))
  refine run_ok 4000 _ _ _ _ ?_
  simp (maxSteps := 10000000) only [go_sem, c8, r8, hB, w0]
  refine sem_call rfl rfl ((awake_spec).mono ?_)
  rintro _ _ ⟨rfl, rfl⟩
  refine run_ok 4000 _ _ _ _ ?_
  simp (maxSteps := 10000000) only [go_sem, hB, w0]
  refine sem_virt 7 1 rfl ?_
  simp (maxSteps := 10000000) only [go_sem, hB, w0]
  refine sem_rounds (fun i : Nat => i ≤ N)
    (fun i => [(0, .int .i64 (N : Nat)), (1, .vsl 1 (iv .i64 ys) false), (2, .int .i64 gone), (7, .sl 0 0 (rg i).length (rg i).length false), (23, .int .i64 (N : Nat)), (24, .int .i64 (i : Nat))])
    (fun i => [.row 1 (iv .i64 (rg i))]) (fun i => N - i) 0 [0] (Nat.zero_le _) ?_ ?_
  · simp [Emb, go_sem, iv, rg]
  intro i hi
  by_cases c : i < N
  · have hin : (i : Int) < (N : Int) := by omega
    have w4 := inc64 (show i < 1000000000000 by omega)
    have hl := rg_len i
    have hsm : small ((rg i).length + 1) := by unfold small; omega
    have hnext := rg_succ i
    generalize rg i = R at *
    skip
    refine run_ok 4000 _ _ _ _ ?_
    simp (maxSteps := 10000000) only [go_sem, hin, w4, iv_len, iv_all, Int.natCast_nonneg, Nat.le_refl]
    refine ⟨hsm, ?_⟩
    refine ⟨i + 1, by omega, c, [1], ?_⟩
    simp only [hnext, List.length_append, List.length_singleton]
    rw [iv_one, iv_app]
    simp only [Emb, go_sem]
  have hge : ¬ (i : Int) < (N : Int) := by omega
  obtain rfl : N = i := by omega
  skip
  refine run_ok 4000 _ _ _ _ ?_
  simp (maxSteps := 10000000) only [go_sem, hge, w2, iv_len, iv_all, rg_len, hia]
  refine run_ok 4000 _ _ _ _ ?_
  simp (maxSteps := 10000000) only [go_sem, hge, w2, iv_len, iv_all, rg_len, hia]
  refine sem_freeze 0 rfl (by simp only [go_sem, iv_len, rg_len, Nat.le_refl]) ?_
  refine sem_call rfl rfl (((hof).embed [] rfl trivial rfl rfl rfl (by simp)).mono ?_)
  rintro _ _ ⟨_, _, ⟨rfl, rfl⟩, rfl, rfl⟩
  refine run_ok 4000 _ _ _ _ ?_
  simp (maxSteps := 10000000) only [go_sem, hge, w2, iv_len, iv_all, rg_len, hia]
  refine sem_call rfl rfl (((hnew).embed [] rfl trivial rfl rfl rfl (by simp)).mono ?_)
  rintro _ _ ⟨_, _, ⟨rfl, rfl⟩, rfl, rfl⟩
  refine run_ok 4000 _ _ _ _ ?_
  simp (maxSteps := 10000000) only [go_sem, hge, w2, iv_len, iv_all, rg_len, hia]
  refine sem_call rfl rfl (((hask).embed [1, 2] rfl (by repeat' first | exact trivial | rfl | (simp only [go_sem]; done) | constructor) rfl (by first | rfl | simp only [go_sem]) rfl (by simp)).mono ?_)
  rintro _ _ ⟨_, _, ⟨rfl, rfl⟩, rfl, rfl⟩
  refine run_ok 4000 _ _ _ _ ?_
  simp (maxSteps := 10000000) only [go_sem, hge, w2, iv_len, iv_all, rg_len, hia]
  refine sem_rounds (fun x : Nat × Sd => x.1 ≤ ys.length ∧ x.1 ≤ 20 ∧ SOk N x.1 x.2)
    (fun x => [(0, .int .i64 (N : Nat)), (1, .vsl 1 (iv .i64 ys) false), (2, .int .i64 gone), (9, .pbox 0 0), (10, .map 3), (11, .int .i64 (x.1 : Nat))])
    (fun x => vM (Sn N) 0 (N - 1 : Nat) (Vy (sdk x.2)) ++ [.map (sb x.2)]) (fun x => ys.length - x.1) (0, []) [1, 2, 3, 4] ⟨Nat.zero_le _, Nat.zero_le _, by simp [SOk]⟩ ?_ ?_
  · simp [Emb, go_sem, Vy, sdk, sb]
  rintro ⟨i, M⟩ ⟨hi1, hi2, hM⟩
  simp only at hi1 hi2 hM ⊢
  simp only [List.cons_append, List.nil_append]
  obtain ⟨G, hG, hG2⟩ := and_i64 gone (k := 255) (by decide)
  have hG : ibits .and .i64 gone 255 = (G : Int) := hG
  have v2 : iwrap .i64 ((N : Int) - 2) = ((N - 2 : Nat) : Int) := by rw [iwrap_i64_in (by omega)]; omega
  have hN2 : ¬ ((N - 2 : Nat) : Int) = 0 := by omega
  have mg1 : (G : Int).tmod ((N - 2 : Nat) : Int) = ((G % (N - 2) : Nat) : Int) := rfl
  have hg0 : G % (N - 2) < N - 2 := Nat.mod_lt _ (by omega)
  generalize G % (N - 2) = g0 at *
  obtain ⟨g, hg⟩ : ∃ g, g = 1 + g0 := ⟨_, rfl⟩
  have v3 : iwrap .i64 ((1 : Int) + (g0 : Int)) = (g : Int) := by rw [iwrap_i64_in (by omega)]; omega
  have hro := ros_spec (Sn N) 0 ((N - 1 : Nat) : Int) (Vy (sdk M))
  have hwi := with_spec (Sn N) hS 0 (g : Int) (by omega) (Sn_has (by omega) (by omega)) (by omega) true
  rw [Int.toNat_natCast, Int.zero_add] at hwi
  have hS1 := Sx_lt N hN12 g (by omega)
  have hS1h := fun (v : Int) (h : 0 ≤ v ∧ v < N) => Sx_has hN12 (show g < N by omega) h
  have hS2 := Sy_no N hN12 g (by omega)
  have hKn : (sdk M).Nodup := hM.1
  have hKr : ∀ v ∈ sdk M, 0 ≤ v ∧ v < (N : Int) - 1 := fun v hv => by
    obtain ⟨p, hp, rfl⟩ := List.mem_map.1 hv
    exact (hM.2 p hp).1
  obtain ⟨hS1l, hS1p⟩ := hS1
  obtain ⟨hS2l, hS2n⟩ := hS2
  generalize Sn N ^^^ 2 ^ g = S1 at *
  have hmv := moveK_spec (Sn N) S1 hS1l 0 1 ((N - 1 : Nat) : Int) (Vy (sdk M)) (by rw [Vy_keys]; exact hKn) (by rw [hS1h _ (by omega)]; simp; omega)
  have hK1 : (Vy (sdk M)).filter (fun p => hasN S1 p.1) = Vy (sdk (sdl M (g : Int))) := by
    rw [Vy_filter, sdk, sdk, sdl_keys]
    congr 1
    exact List.filter_congr fun v hv => hS1h v (by have := hKr v hv; omega)
  rw [hK1] at hmv
  have hsd := sb_del M (g : Int) hM.1
  have hL : (sdl M (g : Int)).length ≤ M.length := List.length_filter_le _ _
  have hok1 : VOk S1 ((N - 1 : Nat) : Int) (Vy (sdk (sdl M (g : Int)))) := by
    refine ⟨by rw [Vy_keys]; unfold sdk; rw [sdl_keys]; exact hKn.sublist List.filter_sublist, fun v hv => ?_⟩
    rw [Vy_keys, sdk, sdl_keys, List.mem_filter] at hv
    have := hKr v hv.1
    exact ⟨by rw [hS1h v (by omega)]; exact hv.2, by omega⟩
  have hcn : (cntV (Vy (sdk (sdl M (g : Int)))) true).length = (sdl M (g : Int)).length := by rw [Vy_cnt]; simp [sdk]
  have hL32 : (sdl M (g : Int)).length ≤ 32 := by have := hok1.len; simpa [Vy, sdk] using this
  have hsl := sb_len (sdl M (g : Int))
  generalize sdl M (g : Int) = M1 at *
  have ho1 := open_yes S1 1 ((N - 1 : Nat) : Int) (Vy (sdk M1))
  have hy1 := yes_spec S1 1 ((N - 1 : Nat) : Int) (Vy (sdk M1)) hok1
  have hwi2 := with_spec S1 hS1l 1 ((N - 1 : Nat) : Int) (by omega) (by rw [hS1h _ (by omega)]; simp; omega) (by omega) true
  rw [Int.toNat_natCast] at hwi2
  generalize S1 ^^^ 2 ^ (N - 1) = S2 at *
  have hmv2 := moveG_spec S1 S2 hS2l 1 2 ((N - 1 : Nat) : Int) (Vy (sdk M1)) hS2n
  have ho2 := open_nil S2 2 ((N - 1 : Nat) : Int)
  have ha2 := all_nil S2 2
  have hk2 := ask_no S2 hS2l 2 ((N - 1 : Nat) : Int) hS2n (by omega)
  have v5 : iwrap .i64 ((2 : Int) * (M1.length : Int)) = ((2 * M1.length : Nat) : Int) := by rw [iwrap_i64_in (by omega)]; omega
  by_cases c : i < ys.length ∧ i < 20
  · obtain ⟨c1, c2⟩ := c
    have hin : (i : Int) < (ys.length : Int) := by omega
    have hin2 : (i : Int) < 20 := by omega
    have w4 := inc64 (show i < 1000000000000 by omega)
    have r0 := iv_rint (k := .i64) c1
    have h0 := iv_hasI (k := .i64) c1
    obtain ⟨C, hC, hC2⟩ := and_i64 ys[i] (k := 255) (by decide)
    have hC : ibits .and .i64 ys[i] 255 = (C : Int) := hC
    generalize ys[i] = y0 at *
    have hN1 : ¬ ((N - 1 : Nat) : Int) = 0 := by omega
    have m1 : (C : Int).tmod ((N - 1 : Nat) : Int) = ((C % (N - 1) : Nat) : Int) := rfl
    have hY : C % (N - 1) < N - 1 := Nat.mod_lt _ (by omega)
    generalize C % (N - 1) = Y at *
    have k1 := sb_int M (Y : Int)
    have k2 := sb_val M (Y : Int)
    have k3 := sb_set M (Y : Int)
    have hp := sg_pos hM (Y : Int)
    have w5 : iwrap .i64 (sg M (Y : Int) + 1) = sg M (Y : Int) + 1 := iwrap_i64_in (by omega)
    have hM' := hM.sup (v := (Y : Int)) (by omega)
    have hkeys := sup_keys M (Y : Int)
    by_cases hin3 : (Y : Int) ∈ M.map (·.1)
    · rw [if_pos hin3] at hkeys
      have hv := Go.AEX.Tri.word (vote_there (Sn N) hS 0 ((N - 1 : Nat) : Int) (Y : Int) (Vy (sdk M)) true true (Sn_has (by omega) (by omega)) (by omega) (by rw [Vy_get, if_pos (show (Y : Int) ∈ sdk M from hin3)]))
      have hz : (sg M (Y : Int) == 0) = false := by simpa using fun e => (hp.1.1 e) hin3
      skip
      refine run_ok 4000 _ _ _ _ ?_
      simp (maxSteps := 10000000) only [go_sem, hin, hin2, w2, w4, r0, h0, hC, hN1, m1, k1, k2, k3, w5, hz, iv_len, Int.natCast_nonneg]
      refine sem_drawG l8_0_ok (by kernel_rfl) ?_
      intro KK hKK
      simp (maxSteps := 10000000) only [go_sem, l8_0, hin, hin2, w2, w4, r0, h0, hC, hN1, m1, k1, k2, k3, w5, hz, iv_len, Int.natCast_nonneg]
      refine TriZ.of (((hv).embed [0, 1, 2] rfl (by repeat' first | exact trivial | rfl | (simp only [go_sem]; done) | constructor) rfl (by first | rfl | simp only [go_sem]) rfl (by simp)).mono ?_)
      rintro _ _ ⟨_, _, ⟨rfl, rfl⟩, rfl, rfl⟩
      simp (maxSteps := 10000000) only [go_sem, hin, hin2, w2, w4, r0, h0, hC, hN1, m1, k1, k2, k3, w5, hz, iv_len, Int.natCast_nonneg]
      subst hKK
      simp (maxSteps := 10000000) only [go_sem, hin, hin2, w2, w4, r0, h0, hC, hN1, m1, k1, k2, k3, w5, hz, iv_len, Int.natCast_nonneg]
      refine ⟨(i + 1, sup M (Y : Int)), by simp only; omega, ⟨c1, c2, hM'⟩, [0, 1, 2, 3], ?_⟩
      simp only [Emb, go_sem, sdk, hkeys]
    · rw [if_neg hin3] at hkeys
      have hv := Go.AEX.Tri.word (vote_spec (Sn N) hS 0 ((N - 1 : Nat) : Int) (Y : Int) (Vy (sdk M)) true (Sn_has (by omega) (by omega)) (by omega) (by rw [Vy_get, if_neg (show ¬ (Y : Int) ∈ sdk M from hin3)]))
      have hV : Vy (sdk M) ++ [((Y : Int), true)] = Vy (sdk (sup M (Y : Int))) := by unfold sdk; rw [hkeys]; simp [Vy]
      rw [hV] at hv
      have hz := hp.1.2 hin3
      rw [hz] at k1
      have k3 : mset (sb M) (.int .i64 (Y : Int)) (.int .i64 1) = sb (sup M (Y : Int)) := by have := sb_set M (Y : Int); rw [hz] at this; exact this
      have w5 : iwrap .i64 (1 : Int) = 1 := rfl
      skip
      refine run_ok 4000 _ _ _ _ ?_
      simp (maxSteps := 10000000) only [go_sem, hin, hin2, w2, w4, r0, h0, hC, hN1, m1, k1, k2, k3, w5, iv_len, Int.natCast_nonneg]
      refine sem_drawG l8_0_ok (by kernel_rfl) ?_
      intro KK hKK
      simp (maxSteps := 10000000) only [go_sem, l8_0, hin, hin2, w2, w4, r0, h0, hC, hN1, m1, k1, k2, k3, w5, iv_len, Int.natCast_nonneg]
      refine TriZ.of (((hv).embed [0, 1, 2] rfl (by repeat' first | exact trivial | rfl | (simp only [go_sem]; done) | constructor) rfl (by first | rfl | simp only [go_sem]) rfl (by simp)).mono ?_)
      rintro _ _ ⟨_, _, ⟨rfl, rfl⟩, rfl, rfl⟩
      simp (maxSteps := 10000000) only [go_sem, hin, hin2, w2, w4, r0, h0, hC, hN1, m1, k1, k2, k3, w5, iv_len, Int.natCast_nonneg]
      subst hKK
      simp (maxSteps := 10000000) only [go_sem, hin, hin2, w2, w4, r0, h0, hC, hN1, m1, k1, k2, k3, w5, iv_len, Int.natCast_nonneg]
      refine ⟨(i + 1, sup M (Y : Int)), by simp only; omega, ⟨c1, c2, hM'⟩, [0, 1, 2, 3], ?_⟩
      simp only [Emb, go_sem]
  by_cases c1 : i < ys.length
  · have hin : (i : Int) < (ys.length : Int) := by omega
    have hin2 : ¬ (i : Int) < 20 := by omega
    skip
    refine run_ok 4000 _ _ _ _ ?_
    simp (maxSteps := 10000000) only [go_sem, hin, hin2, w2, v2, hN2, mg1, hG, v3, v5, hsd, hsl, iv_len, hcn]
    refine run_ok 4000 _ _ _ _ ?_
    simp (maxSteps := 10000000) only [go_sem, hin, hin2, w2, v2, hN2, mg1, hG, v3, v5, hsd, hsl, iv_len, hcn]
    refine sem_call rfl rfl (((hro).embed [0, 1, 2] rfl (by repeat' first | exact trivial | rfl | (simp only [go_sem]; done) | constructor) rfl (by first | rfl | simp only [go_sem]) rfl (by simp)).mono ?_)
    rintro _ _ ⟨_, _, ⟨rfl, rfl⟩, rfl, rfl⟩
    refine run_ok 4000 _ _ _ _ ?_
    simp (maxSteps := 10000000) only [go_sem, hin, hin2, w2, v2, hN2, mg1, hG, v3, v5, hsd, hsl, iv_len, hcn]
    refine sem_call rfl rfl (((hwi).embed [] rfl trivial rfl rfl rfl (by simp)).mono ?_)
    rintro _ _ ⟨_, _, ⟨rfl, rfl⟩, rfl, rfl⟩
    refine run_ok 4000 _ _ _ _ ?_
    simp (maxSteps := 10000000) only [go_sem, hin, hin2, w2, v2, hN2, mg1, hG, v3, v5, hsd, hsl, iv_len, hcn]
    refine sem_call rfl rfl (((hmv).embed [0, 1, 2] rfl (by repeat' first | exact trivial | rfl | (simp only [go_sem]; done) | constructor) rfl (by first | rfl | simp only [go_sem]) rfl (by simp)).mono ?_)
    rintro _ _ ⟨_, _, ⟨rfl, rfl⟩, rfl, rfl⟩
    refine run_ok 4000 _ _ _ _ ?_
    simp (maxSteps := 10000000) only [go_sem, hin, hin2, w2, v2, hN2, mg1, hG, v3, v5, hsd, hsl, iv_len, hcn]
    by_cases hw : 2 * M1.length > N - 1
    · have hwi : ((2 * M1.length : Nat) : Int) > ((N - 1 : Nat) : Int) := by omega
      have hwon := won_spec S1 hS1l 1 ((N - 1 : Nat) : Int) _ hok1 (by rw [hcn, hS1p]; exact hw)
      generalize cntV (Vy (sdk M1)) true = Y1 at *
      generalize Vy (sdk M1) = V1 at *
      skip
      refine sem_call rfl rfl (((hwon).embed [0, 1, 2] rfl (by repeat' first | exact trivial | rfl | (simp only [go_sem]; done) | constructor) rfl (by first | rfl | simp only [go_sem]) rfl (by simp)).mono ?_)
      rintro _ _ ⟨_, _, ⟨rfl, rfl⟩, rfl, rfl⟩
      refine run_ok 4000 _ _ _ _ ?_
      simp (maxSteps := 10000000) only [go_sem, hin, hin2, w2, v2, hN2, mg1, hG, v3, v5, hsd, hsl, iv_len, hcn, hwi]
      refine sem_call rfl rfl (((ho1).embed [0, 1, 2] rfl (by repeat' first | exact trivial | rfl | (simp only [go_sem]; done) | constructor) rfl (by first | rfl | simp only [go_sem]) rfl (by simp)).mono ?_)
      rintro _ _ ⟨_, _, ⟨rfl, rfl⟩, rfl, rfl⟩
      refine run_ok 4000 _ _ _ _ ?_
      simp (maxSteps := 10000000) only [go_sem, hin, hin2, w2, v2, hN2, mg1, hG, v3, v5, hsd, hsl, iv_len, hcn, hwi]
      refine sem_call rfl rfl (((hy1).embed [0, 1, 2] rfl (by repeat' first | exact trivial | rfl | (simp only [go_sem]; done) | constructor) rfl (by first | rfl | simp only [go_sem]) rfl (by simp)).mono ?_)
      rintro _ _ ⟨_, _, ⟨rfl, rfl⟩, rfl, rfl⟩
      refine run_ok 4000 _ _ _ _ ?_
      simp (maxSteps := 10000000) only [go_sem, hin, hin2, w2, v2, hN2, mg1, hG, v3, v5, hsd, hsl, iv_len, hcn, hwi]
      refine sem_call rfl rfl (((hwi2).embed [] rfl trivial rfl rfl rfl (by simp)).mono ?_)
      rintro _ _ ⟨_, _, ⟨rfl, rfl⟩, rfl, rfl⟩
      refine run_ok 4000 _ _ _ _ ?_
      simp (maxSteps := 10000000) only [go_sem, hin, hin2, w2, v2, hN2, mg1, hG, v3, v5, hsd, hsl, iv_len, hcn, hwi]
      refine sem_call rfl rfl (((hmv2).embed [0, 1, 2] rfl (by repeat' first | exact trivial | rfl | (simp only [go_sem]; done) | constructor) rfl (by first | rfl | simp only [go_sem]) rfl (by simp)).mono ?_)
      rintro _ _ ⟨_, _, ⟨rfl, rfl⟩, rfl, rfl⟩
      refine run_ok 4000 _ _ _ _ ?_
      simp (maxSteps := 10000000) only [go_sem, hin, hin2, w2, v2, hN2, mg1, hG, v3, v5, hsd, hsl, iv_len, hcn, hwi]
      refine sem_call rfl rfl (((ho2).embed [0, 1] rfl (by repeat' first | exact trivial | rfl | (simp only [go_sem]; done) | constructor) rfl (by first | rfl | simp only [go_sem]) rfl (by simp)).mono ?_)
      rintro _ _ ⟨_, _, ⟨rfl, rfl⟩, rfl, rfl⟩
      refine run_ok 4000 _ _ _ _ ?_
      simp (maxSteps := 10000000) only [go_sem, hin, hin2, w2, v2, hN2, mg1, hG, v3, v5, hsd, hsl, iv_len, hcn, hwi]
      refine sem_call rfl rfl (((ha2).embed [0, 1] rfl (by repeat' first | exact trivial | rfl | (simp only [go_sem]; done) | constructor) rfl (by first | rfl | simp only [go_sem]) rfl (by simp)).mono ?_)
      rintro _ _ ⟨_, _, ⟨rfl, rfl⟩, rfl, rfl⟩
      refine run_ok 4000 _ _ _ _ ?_
      simp (maxSteps := 10000000) only [go_sem, hin, hin2, w2, v2, hN2, mg1, hG, v3, v5, hsd, hsl, iv_len, hcn, hwi]
      refine sem_call rfl rfl (((hk2).embed [0, 1] rfl (by repeat' first | exact trivial | rfl | (simp only [go_sem]; done) | constructor) rfl (by first | rfl | simp only [go_sem]) rfl (by simp)).mono ?_)
      rintro _ _ ⟨_, _, ⟨rfl, rfl⟩, rfl, rfl⟩
      refine run_ok 4000 _ _ _ _ ?_
      simp (maxSteps := 10000000) only [go_sem, hin, hin2, w2, v2, hN2, mg1, hG, v3, v5, hsd, hsl, iv_len, hcn, hwi]
      refine ⟨_, _, .sub [] ?_ .done, rfl, rfl⟩
      simp only [EmbV, go_sem]
    · have hwi : ¬ ((2 * M1.length : Nat) : Int) > ((N - 1 : Nat) : Int) := by omega
      have hwon := won_no S1 hS1l 1 ((N - 1 : Nat) : Int) _ hok1 (by rw [hcn, hS1p]; exact hw)
      generalize cntV (Vy (sdk M1)) true = Y1 at *
      generalize Vy (sdk M1) = V1 at *
      skip
      refine sem_call rfl rfl (((hwon).embed [0, 1, 2] rfl (by repeat' first | exact trivial | rfl | (simp only [go_sem]; done) | constructor) rfl (by first | rfl | simp only [go_sem]) rfl (by simp)).mono ?_)
      rintro _ _ ⟨_, _, ⟨rfl, rfl⟩, rfl, rfl⟩
      refine run_ok 4000 _ _ _ _ ?_
      simp (maxSteps := 10000000) only [go_sem, hin, hin2, w2, v2, hN2, mg1, hG, v3, v5, hsd, hsl, iv_len, hcn, hwi]
      refine sem_call rfl rfl (((ho1).embed [0, 1, 2] rfl (by repeat' first | exact trivial | rfl | (simp only [go_sem]; done) | constructor) rfl (by first | rfl | simp only [go_sem]) rfl (by simp)).mono ?_)
      rintro _ _ ⟨_, _, ⟨rfl, rfl⟩, rfl, rfl⟩
      refine run_ok 4000 _ _ _ _ ?_
      simp (maxSteps := 10000000) only [go_sem, hin, hin2, w2, v2, hN2, mg1, hG, v3, v5, hsd, hsl, iv_len, hcn, hwi]
      refine sem_call rfl rfl (((hy1).embed [0, 1, 2] rfl (by repeat' first | exact trivial | rfl | (simp only [go_sem]; done) | constructor) rfl (by first | rfl | simp only [go_sem]) rfl (by simp)).mono ?_)
      rintro _ _ ⟨_, _, ⟨rfl, rfl⟩, rfl, rfl⟩
      refine run_ok 4000 _ _ _ _ ?_
      simp (maxSteps := 10000000) only [go_sem, hin, hin2, w2, v2, hN2, mg1, hG, v3, v5, hsd, hsl, iv_len, hcn, hwi]
      refine sem_call rfl rfl (((hwi2).embed [] rfl trivial rfl rfl rfl (by simp)).mono ?_)
      rintro _ _ ⟨_, _, ⟨rfl, rfl⟩, rfl, rfl⟩
      refine run_ok 4000 _ _ _ _ ?_
      simp (maxSteps := 10000000) only [go_sem, hin, hin2, w2, v2, hN2, mg1, hG, v3, v5, hsd, hsl, iv_len, hcn, hwi]
      refine sem_call rfl rfl (((hmv2).embed [0, 1, 2] rfl (by repeat' first | exact trivial | rfl | (simp only [go_sem]; done) | constructor) rfl (by first | rfl | simp only [go_sem]) rfl (by simp)).mono ?_)
      rintro _ _ ⟨_, _, ⟨rfl, rfl⟩, rfl, rfl⟩
      refine run_ok 4000 _ _ _ _ ?_
      simp (maxSteps := 10000000) only [go_sem, hin, hin2, w2, v2, hN2, mg1, hG, v3, v5, hsd, hsl, iv_len, hcn, hwi]
      refine sem_call rfl rfl (((ho2).embed [0, 1] rfl (by repeat' first | exact trivial | rfl | (simp only [go_sem]; done) | constructor) rfl (by first | rfl | simp only [go_sem]) rfl (by simp)).mono ?_)
      rintro _ _ ⟨_, _, ⟨rfl, rfl⟩, rfl, rfl⟩
      refine run_ok 4000 _ _ _ _ ?_
      simp (maxSteps := 10000000) only [go_sem, hin, hin2, w2, v2, hN2, mg1, hG, v3, v5, hsd, hsl, iv_len, hcn, hwi]
      refine sem_call rfl rfl (((ha2).embed [0, 1] rfl (by repeat' first | exact trivial | rfl | (simp only [go_sem]; done) | constructor) rfl (by first | rfl | simp only [go_sem]) rfl (by simp)).mono ?_)
      rintro _ _ ⟨_, _, ⟨rfl, rfl⟩, rfl, rfl⟩
      refine run_ok 4000 _ _ _ _ ?_
      simp (maxSteps := 10000000) only [go_sem, hin, hin2, w2, v2, hN2, mg1, hG, v3, v5, hsd, hsl, iv_len, hcn, hwi]
      refine sem_call rfl rfl (((hk2).embed [0, 1] rfl (by repeat' first | exact trivial | rfl | (simp only [go_sem]; done) | constructor) rfl (by first | rfl | simp only [go_sem]) rfl (by simp)).mono ?_)
      rintro _ _ ⟨_, _, ⟨rfl, rfl⟩, rfl, rfl⟩
      refine run_ok 4000 _ _ _ _ ?_
      simp (maxSteps := 10000000) only [go_sem, hin, hin2, w2, v2, hN2, mg1, hG, v3, v5, hsd, hsl, iv_len, hcn, hwi]
      refine ⟨_, _, .sub [] ?_ .done, rfl, rfl⟩
      simp only [EmbV, go_sem]
  · have hin : ¬ (i : Int) < (ys.length : Int) := by omega
    skip
    refine run_ok 4000 _ _ _ _ ?_
    simp (maxSteps := 10000000) only [go_sem, hin, w2, v2, hN2, mg1, hG, v3, v5, hsd, hsl, iv_len, hcn]
    refine run_ok 4000 _ _ _ _ ?_
    simp (maxSteps := 10000000) only [go_sem, hin, w2, v2, hN2, mg1, hG, v3, v5, hsd, hsl, iv_len, hcn]
    refine sem_call rfl rfl (((hro).embed [0, 1, 2] rfl (by repeat' first | exact trivial | rfl | (simp only [go_sem]; done) | constructor) rfl (by first | rfl | simp only [go_sem]) rfl (by simp)).mono ?_)
    rintro _ _ ⟨_, _, ⟨rfl, rfl⟩, rfl, rfl⟩
    refine run_ok 4000 _ _ _ _ ?_
    simp (maxSteps := 10000000) only [go_sem, hin, w2, v2, hN2, mg1, hG, v3, v5, hsd, hsl, iv_len, hcn]
    refine sem_call rfl rfl (((hwi).embed [] rfl trivial rfl rfl rfl (by simp)).mono ?_)
    rintro _ _ ⟨_, _, ⟨rfl, rfl⟩, rfl, rfl⟩
    refine run_ok 4000 _ _ _ _ ?_
    simp (maxSteps := 10000000) only [go_sem, hin, w2, v2, hN2, mg1, hG, v3, v5, hsd, hsl, iv_len, hcn]
    refine sem_call rfl rfl (((hmv).embed [0, 1, 2] rfl (by repeat' first | exact trivial | rfl | (simp only [go_sem]; done) | constructor) rfl (by first | rfl | simp only [go_sem]) rfl (by simp)).mono ?_)
    rintro _ _ ⟨_, _, ⟨rfl, rfl⟩, rfl, rfl⟩
    refine run_ok 4000 _ _ _ _ ?_
    simp (maxSteps := 10000000) only [go_sem, hin, w2, v2, hN2, mg1, hG, v3, v5, hsd, hsl, iv_len, hcn]
    by_cases hw : 2 * M1.length > N - 1
    · have hwi : ((2 * M1.length : Nat) : Int) > ((N - 1 : Nat) : Int) := by omega
      have hwon := won_spec S1 hS1l 1 ((N - 1 : Nat) : Int) _ hok1 (by rw [hcn, hS1p]; exact hw)
      generalize cntV (Vy (sdk M1)) true = Y1 at *
      generalize Vy (sdk M1) = V1 at *
      skip
      refine sem_call rfl rfl (((hwon).embed [0, 1, 2] rfl (by repeat' first | exact trivial | rfl | (simp only [go_sem]; done) | constructor) rfl (by first | rfl | simp only [go_sem]) rfl (by simp)).mono ?_)
      rintro _ _ ⟨_, _, ⟨rfl, rfl⟩, rfl, rfl⟩
      refine run_ok 4000 _ _ _ _ ?_
      simp (maxSteps := 10000000) only [go_sem, hin, w2, v2, hN2, mg1, hG, v3, v5, hsd, hsl, iv_len, hcn, hwi]
      refine sem_call rfl rfl (((ho1).embed [0, 1, 2] rfl (by repeat' first | exact trivial | rfl | (simp only [go_sem]; done) | constructor) rfl (by first | rfl | simp only [go_sem]) rfl (by simp)).mono ?_)
      rintro _ _ ⟨_, _, ⟨rfl, rfl⟩, rfl, rfl⟩
      refine run_ok 4000 _ _ _ _ ?_
      simp (maxSteps := 10000000) only [go_sem, hin, w2, v2, hN2, mg1, hG, v3, v5, hsd, hsl, iv_len, hcn, hwi]
      refine sem_call rfl rfl (((hy1).embed [0, 1, 2] rfl (by repeat' first | exact trivial | rfl | (simp only [go_sem]; done) | constructor) rfl (by first | rfl | simp only [go_sem]) rfl (by simp)).mono ?_)
      rintro _ _ ⟨_, _, ⟨rfl, rfl⟩, rfl, rfl⟩
      refine run_ok 4000 _ _ _ _ ?_
      simp (maxSteps := 10000000) only [go_sem, hin, w2, v2, hN2, mg1, hG, v3, v5, hsd, hsl, iv_len, hcn, hwi]
      refine sem_call rfl rfl (((hwi2).embed [] rfl trivial rfl rfl rfl (by simp)).mono ?_)
      rintro _ _ ⟨_, _, ⟨rfl, rfl⟩, rfl, rfl⟩
      refine run_ok 4000 _ _ _ _ ?_
      simp (maxSteps := 10000000) only [go_sem, hin, w2, v2, hN2, mg1, hG, v3, v5, hsd, hsl, iv_len, hcn, hwi]
      refine sem_call rfl rfl (((hmv2).embed [0, 1, 2] rfl (by repeat' first | exact trivial | rfl | (simp only [go_sem]; done) | constructor) rfl (by first | rfl | simp only [go_sem]) rfl (by simp)).mono ?_)
      rintro _ _ ⟨_, _, ⟨rfl, rfl⟩, rfl, rfl⟩
      refine run_ok 4000 _ _ _ _ ?_
      simp (maxSteps := 10000000) only [go_sem, hin, w2, v2, hN2, mg1, hG, v3, v5, hsd, hsl, iv_len, hcn, hwi]
      refine sem_call rfl rfl (((ho2).embed [0, 1] rfl (by repeat' first | exact trivial | rfl | (simp only [go_sem]; done) | constructor) rfl (by first | rfl | simp only [go_sem]) rfl (by simp)).mono ?_)
      rintro _ _ ⟨_, _, ⟨rfl, rfl⟩, rfl, rfl⟩
      refine run_ok 4000 _ _ _ _ ?_
      simp (maxSteps := 10000000) only [go_sem, hin, w2, v2, hN2, mg1, hG, v3, v5, hsd, hsl, iv_len, hcn, hwi]
      refine sem_call rfl rfl (((ha2).embed [0, 1] rfl (by repeat' first | exact trivial | rfl | (simp only [go_sem]; done) | constructor) rfl (by first | rfl | simp only [go_sem]) rfl (by simp)).mono ?_)
      rintro _ _ ⟨_, _, ⟨rfl, rfl⟩, rfl, rfl⟩
      refine run_ok 4000 _ _ _ _ ?_
      simp (maxSteps := 10000000) only [go_sem, hin, w2, v2, hN2, mg1, hG, v3, v5, hsd, hsl, iv_len, hcn, hwi]
      refine sem_call rfl rfl (((hk2).embed [0, 1] rfl (by repeat' first | exact trivial | rfl | (simp only [go_sem]; done) | constructor) rfl (by first | rfl | simp only [go_sem]) rfl (by simp)).mono ?_)
      rintro _ _ ⟨_, _, ⟨rfl, rfl⟩, rfl, rfl⟩
      refine run_ok 4000 _ _ _ _ ?_
      simp (maxSteps := 10000000) only [go_sem, hin, w2, v2, hN2, mg1, hG, v3, v5, hsd, hsl, iv_len, hcn, hwi]
      refine ⟨_, _, .sub [] ?_ .done, rfl, rfl⟩
      simp only [EmbV, go_sem]
    · have hwi : ¬ ((2 * M1.length : Nat) : Int) > ((N - 1 : Nat) : Int) := by omega
      have hwon := won_no S1 hS1l 1 ((N - 1 : Nat) : Int) _ hok1 (by rw [hcn, hS1p]; exact hw)
      generalize cntV (Vy (sdk M1)) true = Y1 at *
      generalize Vy (sdk M1) = V1 at *
      skip
      refine sem_call rfl rfl (((hwon).embed [0, 1, 2] rfl (by repeat' first | exact trivial | rfl | (simp only [go_sem]; done) | constructor) rfl (by first | rfl | simp only [go_sem]) rfl (by simp)).mono ?_)
      rintro _ _ ⟨_, _, ⟨rfl, rfl⟩, rfl, rfl⟩
      refine run_ok 4000 _ _ _ _ ?_
      simp (maxSteps := 10000000) only [go_sem, hin, w2, v2, hN2, mg1, hG, v3, v5, hsd, hsl, iv_len, hcn, hwi]
      refine sem_call rfl rfl (((ho1).embed [0, 1, 2] rfl (by repeat' first | exact trivial | rfl | (simp only [go_sem]; done) | constructor) rfl (by first | rfl | simp only [go_sem]) rfl (by simp)).mono ?_)
      rintro _ _ ⟨_, _, ⟨rfl, rfl⟩, rfl, rfl⟩
      refine run_ok 4000 _ _ _ _ ?_
      simp (maxSteps := 10000000) only [go_sem, hin, w2, v2, hN2, mg1, hG, v3, v5, hsd, hsl, iv_len, hcn, hwi]
      refine sem_call rfl rfl (((hy1).embed [0, 1, 2] rfl (by repeat' first | exact trivial | rfl | (simp only [go_sem]; done) | constructor) rfl (by first | rfl | simp only [go_sem]) rfl (by simp)).mono ?_)
      rintro _ _ ⟨_, _, ⟨rfl, rfl⟩, rfl, rfl⟩
      refine run_ok 4000 _ _ _ _ ?_
      simp (maxSteps := 10000000) only [go_sem, hin, w2, v2, hN2, mg1, hG, v3, v5, hsd, hsl, iv_len, hcn, hwi]
      refine sem_call rfl rfl (((hwi2).embed [] rfl trivial rfl rfl rfl (by simp)).mono ?_)
      rintro _ _ ⟨_, _, ⟨rfl, rfl⟩, rfl, rfl⟩
      refine run_ok 4000 _ _ _ _ ?_
      simp (maxSteps := 10000000) only [go_sem, hin, w2, v2, hN2, mg1, hG, v3, v5, hsd, hsl, iv_len, hcn, hwi]
      refine sem_call rfl rfl (((hmv2).embed [0, 1, 2] rfl (by repeat' first | exact trivial | rfl | (simp only [go_sem]; done) | constructor) rfl (by first | rfl | simp only [go_sem]) rfl (by simp)).mono ?_)
      rintro _ _ ⟨_, _, ⟨rfl, rfl⟩, rfl, rfl⟩
      refine run_ok 4000 _ _ _ _ ?_
      simp (maxSteps := 10000000) only [go_sem, hin, w2, v2, hN2, mg1, hG, v3, v5, hsd, hsl, iv_len, hcn, hwi]
      refine sem_call rfl rfl (((ho2).embed [0, 1] rfl (by repeat' first | exact trivial | rfl | (simp only [go_sem]; done) | constructor) rfl (by first | rfl | simp only [go_sem]) rfl (by simp)).mono ?_)
      rintro _ _ ⟨_, _, ⟨rfl, rfl⟩, rfl, rfl⟩
      refine run_ok 4000 _ _ _ _ ?_
      simp (maxSteps := 10000000) only [go_sem, hin, w2, v2, hN2, mg1, hG, v3, v5, hsd, hsl, iv_len, hcn, hwi]
      refine sem_call rfl rfl (((ha2).embed [0, 1] rfl (by repeat' first | exact trivial | rfl | (simp only [go_sem]; done) | constructor) rfl (by first | rfl | simp only [go_sem]) rfl (by simp)).mono ?_)
      rintro _ _ ⟨_, _, ⟨rfl, rfl⟩, rfl, rfl⟩
      refine run_ok 4000 _ _ _ _ ?_
      simp (maxSteps := 10000000) only [go_sem, hin, w2, v2, hN2, mg1, hG, v3, v5, hsd, hsl, iv_len, hcn, hwi]
      refine sem_call rfl rfl (((hk2).embed [0, 1] rfl (by repeat' first | exact trivial | rfl | (simp only [go_sem]; done) | constructor) rfl (by first | rfl | simp only [go_sem]) rfl (by simp)).mono ?_)
      rintro _ _ ⟨_, _, ⟨rfl, rfl⟩, rfl, rfl⟩
      refine run_ok 4000 _ _ _ _ ?_
      simp (maxSteps := 10000000) only [go_sem, hin, w2, v2, hN2, mg1, hG, v3, v5, hsd, hsl, iv_len, hcn, hwi]
      refine ⟨_, _, .sub [] ?_ .done, rfl, rfl⟩
      simp only [EmbV, go_sem]
end Go.AEX
