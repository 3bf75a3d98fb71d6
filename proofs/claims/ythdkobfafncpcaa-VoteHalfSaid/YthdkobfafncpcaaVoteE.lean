/- Vote: VoteHalf. -/
import Derived.Test.YthdkobfafncpcaaVoteD
namespace Go.AEX
open Go Go.AE Go.Proofs
set_option maxRecDepth 100000
set_option linter.unusedVariables false
set_option linter.unusedSimpArgs false

def rg (n : Nat) : List Int := (List.range n).map Int.ofNat
theorem rg_succ (n : Nat) : rg (n + 1) = rg n ++ [(n : Int)] := by unfold rg; rw [List.range_succ, List.map_append]; rfl
theorem rg_len (n : Nat) : (rg n).length = n := by simp [rg]
theorem rg_mem {n : Nat} {v : Int} : v ∈ rg n ↔ 0 ≤ v ∧ v < n := by
  unfold rg
  simp only [List.mem_map, List.mem_range]
  constructor
  · rintro ⟨k, h, rfl⟩; simp only [Int.ofNat_eq_natCast]; omega
  · intro h; exact ⟨v.toNat, by omega, by simp only [Int.ofNat_eq_natCast]; omega⟩
def Sn (n : Nat) : Nat := ofN (rg n) 0
theorem Sn_lt : ∀ n < 18, Sn n < 4294967296 := by decide +kernel
theorem Sn_pc : ∀ n < 18, pc (Sn n) = n := by decide +kernel
theorem Sn_has' : ∀ n < 18, ∀ v < n, hasN (Sn n) (Int.ofNat v) = true := by decide +kernel
theorem Sn_has {n : Nat} (hn : n < 18) {v : Int} (h : 0 ≤ v ∧ v < n) : hasN (Sn n) v = true := by
  have := Sn_has' n hn v.toNat (by omega)
  rwa [show Int.ofNat v.toNat = v by simp only [Int.ofNat_eq_natCast]; omega] at this
def Vh (Y m : Nat) : Vts := (List.range m).map fun v => ((v : Nat), decide (v < Y))
theorem Vh_succ (Y m : Nat) : Vh Y (m + 1) = Vh Y m ++ [(((m : Nat) : Int), decide (m < Y))] := by unfold Vh; rw [List.range_succ, List.map_append]; rfl
theorem Vh_keys (Y m : Nat) : (Vh Y m).map (·.1) = rg m := by unfold Vh rg; rw [List.map_map]; rfl
theorem rg_sorted (m : Nat) : (rg m).Pairwise (fun a b => decide (a ≤ b) = true) := by
  unfold rg
  rw [List.pairwise_map]
  exact List.pairwise_lt_range.imp fun h => by simp only [Int.ofNat_eq_natCast, decide_eq_true_eq]; omega
theorem rg_nodup (m : Nat) : (rg m).Nodup := by
  unfold rg
  rw [List.nodup_iff_pairwise_ne, List.pairwise_map]
  exact List.pairwise_lt_range.imp fun h => by simp only [Int.ofNat_eq_natCast, ne_eq]; omega
theorem Vh_ok {n m : Nat} (hn : n < 18) (hm : m ≤ n - 1) (h1 : 1 ≤ n) (Y : Nat) : VOk (Sn n) ((n - 1 : Nat) : Int) (Vh Y m) := by
  refine ⟨by rw [Vh_keys]; exact rg_nodup m, fun v hv => ?_⟩
  rw [Vh_keys, rg_mem] at hv
  exact ⟨Sn_has hn (by omega), by omega⟩
theorem Vh_no {Y m : Nat} : vg (Vh Y m) (m : Nat) = none := by
  rw [vg_none, Vh_keys, rg_mem]; omega
theorem Vh_get {Y m : Nat} : ∀ v : Nat, v < m → vg (Vh Y m) (v : Nat) = some (decide (v < Y)) := by
  induction m with
  | zero => intro v h; omega
  | succ m ih =>
    intro v h
    rw [Vh_succ]
    have app : ∀ (A B : Vts) (v : Int), vg (A ++ B) v = match vg A v with | some b => some b | none => vg B v := by
      intro A B v
      induction A with
      | nil => rfl
      | cons a A ih2 => simp only [List.cons_append, vg]; split; rfl; exact ih2
    rw [app]
    by_cases c : v < m
    · rw [ih v c]
    · obtain rfl : v = m := by omega
      rw [Vh_no]; simp [vg]
theorem filt_lt (Y m : Nat) : ((rg m).filter fun v => decide (v < (Y : Int))) = rg (min m Y) := by
  induction m with
  | zero => simp [rg]
  | succ m ih =>
    rw [rg_succ, List.filter_append, ih, List.filter_cons, List.filter_nil]
    by_cases c : m < Y
    · rw [if_pos (by simp; omega), show min m Y = m by omega, show min (m + 1) Y = m + 1 by omega, rg_succ]
    · rw [if_neg (by simp; omega), List.append_nil, show min m Y = Y by omega, show min (m + 1) Y = Y by omega]
theorem cntT (Y m : Nat) : (cntV (Vh Y m) true).length = min m Y := by
  unfold cntV
  rw [Vh_keys, sort_of (rg_sorted m)]
  have : (rg m).filter (fun v => (vg (Vh Y m) v).getD false == true) = (rg m).filter fun v => decide (v < (Y : Int)) := by
    refine List.filter_congr fun v hv => ?_
    rw [rg_mem] at hv
    obtain ⟨k, rfl⟩ : ∃ k : Nat, v = (k : Int) := ⟨v.toNat, by omega⟩
    rw [Vh_get k (by omega)]
    by_cases c : k < Y <;> simp [c]
  rw [this, filt_lt, rg_len]
theorem cntF (Y m : Nat) : (cntV (Vh Y m) false).length = m - Y := by
  have h1 := cntT Y m
  unfold cntV at *
  rw [Vh_keys, sort_of (rg_sorted m)] at *
  have h2 : ∀ l : List Int, (l.filter fun v => (vg (Vh Y m) v).getD false == true).length + (l.filter fun v => (vg (Vh Y m) v).getD false == false).length = l.length := by
    intro l
    induction l with
    | nil => rfl
    | cons a l ih =>
      rw [List.filter_cons, List.filter_cons]
      cases (vg (Vh Y m) a).getD false <;> simp <;> simp at ih <;> omega
  have := h2 (rg m)
  rw [rg_len, h1] at this
  omega
theorem voteHalf_spec (n : Int) (hn : (Lit.int .i64 n).wf = true) (yes : Int) (hyes : (Lit.int .i64 yes).wf = true) (no : Int) (hno : (Lit.int .i64 no).wf = true) :
    Tri Try.prog 5 [.int .i64 n, .int .i64 yes, .int .i64 no] [] (fun v m => v = .bool true) := by
  refine Tri.mono (K := fun v m => v = .bool true ∧ m = []) ?_ fun v m h => h.1
  refine Tri.post ?_
  obtain ⟨B, hB, hB2⟩ := and_i64 n (k := 15) (by decide)
  have hB : ibits .and .i64 n 15 = (B : Int) := hB
  obtain ⟨N, hN⟩ : ∃ N : Nat, N = 2 + B := ⟨_, rfl⟩
  have w0 : iwrap .i64 ((2 : Int) + (B : Int)) = (N : Int) := by rw [iwrap_i64_in (by omega)]; omega
  obtain ⟨C, hC, hC2⟩ := and_i64 yes (k := 255) (by decide)
  have hC : ibits .and .i64 yes 255 = (C : Int) := hC
  obtain ⟨D, hD, hD2⟩ := and_i64 no (k := 255) (by decide)
  have hD : ibits .and .i64 no 255 = (D : Int) := hD
  have hN0 : ¬ (N : Int) = 0 := by omega
  have m1 : (C : Int).tmod (N : Int) = ((C % N : Nat) : Int) := rfl
  have hY : C % N < N := Nat.mod_lt _ (by omega)
  generalize C % N = Y at *
  have w1 : iwrap .i64 ((N : Int) - (Y : Int)) = ((N - Y : Nat) : Int) := by rw [iwrap_i64_in (by omega)]; omega
  have hNY : ¬ ((N - Y : Nat) : Int) = 0 := by omega
  have m2 : (D : Int).tmod ((N - Y : Nat) : Int) = ((D % (N - Y) : Nat) : Int) := rfl
  have hZ : D % (N - Y) < N - Y := Nat.mod_lt _ (by omega)
  generalize D % (N - Y) = Z at *
  have hN18 : N < 18 := by omega
  have w2 : iwrap .i64 ((N : Int) - 1) = ((N - 1 : Nat) : Int) := by rw [iwrap_i64_in (by omega)]; omega
  have w3 : iwrap .i64 ((Y : Int) + (Z : Int)) = ((Y + Z : Nat) : Int) := by rw [iwrap_i64_in (by omega)]; omega
  have hof := of_spec (rg N) false (by rw [rg_len]; omega)
  rw [show ofN (rg N) 0 = Sn N from rfl] at hof
  have hS := Sn_lt N hN18
  have hP := Sn_pc N hN18
  have hnew := vnew_spec (Sn N) 0
  have hask := ask_spec (Sn N) hS 0 ((N - 1 : Nat) : Int) (Sn_has hN18 (by omega)) (by omega)
  skip
  refine (Tri.asB (Tri.enter (rl := r5) (code := c5) (by kernel_rfl) Try.func5 rfl c5_ok (by kernel_rfl) (by kernel_rfl) ?_))
  refine run_ok 4000 _ _ _ _ ?_
  simp (maxSteps := 10000000) only [go_sem, c5, r5, hB, w0]
  refine sem_call rfl rfl ((awake_spec).mono ?_)
  rintro _ _ ⟨rfl, rfl⟩
  refine run_ok 4000 _ _ _ _ ?_
  simp (maxSteps := 10000000) only [go_sem, hB, w0]
  refine sem_virt 7 1 rfl ?_
  simp (maxSteps := 10000000) only [go_sem, hB, w0]
  refine sem_rounds (fun i : Nat => i ≤ N)
    (fun i => [(0, .int .i64 (N : Nat)), (1, .int .i64 yes), (2, .int .i64 no), (7, .sl 0 0 (rg i).length (rg i).length false), (20, .int .i64 (N : Nat)), (21, .int .i64 (i : Nat))])
    (fun i => [.row 1 (iv .i64 (rg i))]) (fun i => N - i) 0 [0] (Nat.zero_le _) ?_ ?_
  · simp [Emb, go_sem, iv, rg]
  intro i hi
  by_cases c : i < N
  · have hin : (i : Int) < (N : Int) := by omega
    have w4 := inc64 (show i < 1000000000000 by omega)
    have hl := rg_len i
    have hsm : small ((rg i).length + 1) := by unfold small; omega
    have hnext := rg_succ i
    generalize rg i = R at *
    skip
    refine run_ok 4000 _ _ _ _ ?_
    simp (maxSteps := 10000000) only [go_sem, hin, w4, iv_len, iv_all, Int.natCast_nonneg, Nat.le_refl]
    refine ⟨hsm, ?_⟩
    refine ⟨i + 1, by omega, c, [1], ?_⟩
    simp only [hnext, List.length_append, List.length_singleton]
    rw [iv_one, iv_app]
    simp only [Emb, go_sem]
  have hge : ¬ (i : Int) < (N : Int) := by omega
  obtain rfl : N = i := by omega
  skip
  refine run_ok 4000 _ _ _ _ ?_
  simp (maxSteps := 10000000) only [go_sem, hge, hC, hD, m1, m2, hN0, hNY, w1, w2, w3, iv_len, iv_all, rg_len]
  refine run_ok 4000 _ _ _ _ ?_
  simp (maxSteps := 10000000) only [go_sem, hge, hC, hD, m1, m2, hN0, hNY, w1, w2, w3, iv_len, iv_all, rg_len]
  refine sem_freeze 0 rfl (by simp only [go_sem, iv_len, rg_len, Nat.le_refl]) ?_
  have hia := iv_all (rg N)
  rw [rg_len] at hia
  rw [← hia] at hof
  skip
  refine sem_call rfl rfl (((hof).embed [] rfl trivial rfl rfl rfl (by simp)).mono ?_)
  rintro _ _ ⟨_, _, ⟨rfl, rfl⟩, rfl, rfl⟩
  refine run_ok 4000 _ _ _ _ ?_
  simp (maxSteps := 10000000) only [go_sem, hge, hC, hD, m1, m2, hN0, hNY, w1, w2, w3, iv_len, iv_all, rg_len, hia]
  refine sem_call rfl rfl (((hnew).embed [] rfl trivial rfl rfl rfl (by simp)).mono ?_)
  rintro _ _ ⟨_, _, ⟨rfl, rfl⟩, rfl, rfl⟩
  refine run_ok 4000 _ _ _ _ ?_
  simp (maxSteps := 10000000) only [go_sem, hge, hC, hD, m1, m2, hN0, hNY, w1, w2, w3, iv_len, iv_all, rg_len, hia]
  refine sem_call rfl rfl (((hask).embed [1, 2] rfl (by repeat' first | exact trivial | rfl | (simp only [go_sem]; done) | constructor) rfl (by first | rfl | simp only [go_sem]) rfl (by simp)).mono ?_)
  rintro _ _ ⟨_, _, ⟨rfl, rfl⟩, rfl, rfl⟩
  refine run_ok 4000 _ _ _ _ ?_
  simp (maxSteps := 10000000) only [go_sem, hge, hC, hD, m1, m2, hN0, hNY, w1, w2, w3, iv_len, iv_all, rg_len, hia]
  refine sem_rounds (fun i : Nat => i ≤ Y + Z)
    (fun i => [(0, .int .i64 (N : Nat)), (1, .int .i64 (Y : Nat)), (2, .int .i64 (Z : Nat)), (9, .pbox 0 0), (10, .int .i64 (N - 1 : Nat)), (50, .int .i64 (Y + Z : Nat)), (51, .int .i64 (i : Nat))])
    (fun i => vM (Sn N) 0 (N - 1 : Nat) (Vh Y (min i (N - 1)))) (fun i => Y + Z - i) 0 [1, 2, 3] (Nat.zero_le _) ?_ ?_
  · simp [Emb, go_sem, Vh]
  intro i hi
  by_cases c : i < Y + Z
  · have hin : (i : Int) < ((Y + Z : Nat) : Int) := by omega
    have w4 := inc64 (show i < 1000000000000 by omega)
    by_cases c2 : i < N - 1
    · have hin2 : (i : Int) < ((N - 1 : Nat) : Int) := by omega
      have hd : decide (i < Y) = decide ((i : Int) < (Y : Int)) := by simp
      have hv := vote_spec (Sn N) hS 0 ((N - 1 : Nat) : Int) (i : Nat) (Vh Y i) (decide ((i : Int) < (Y : Int))) (Sn_has hN18 (by omega)) (by omega) Vh_no
      rw [← hd, ← Vh_succ, hd] at hv
      rw [show min i (N - 1) = i by omega]
      skip
      refine run_ok 4000 _ _ _ _ ?_
      simp (maxSteps := 10000000) only [go_sem, hin, hin2, w4]
      refine sem_call rfl rfl (((hv).embed [0, 1, 2] rfl (by repeat' first | exact trivial | rfl | (simp only [go_sem]; done) | constructor) rfl (by first | rfl | simp only [go_sem]) rfl (by simp)).mono ?_)
      rintro _ _ ⟨_, _, ⟨rfl, rfl⟩, rfl, rfl⟩
      refine run_ok 4000 _ _ _ _ ?_
      simp (maxSteps := 10000000) only [go_sem, hin, hin2, w4]
      refine ⟨i + 1, by omega, c, [0, 1, 2], ?_⟩
      rw [show min (i + 1) (N - 1) = i + 1 by omega]
      simp only [Emb, go_sem]
    · have hin2 : ¬ (i : Int) < ((N - 1 : Nat) : Int) := by omega
      skip
      refine run_ok 4000 _ _ _ _ ?_
      simp (maxSteps := 10000000) only [go_sem, hin, hin2, w4]
      refine ⟨i + 1, by omega, c, [0, 1, 2], ?_⟩
      rw [show min (i + 1) (N - 1) = min i (N - 1) by omega]
      simp only [Emb, go_sem]
  have hge : ¬ (i : Int) < ((Y + Z : Nat) : Int) := by omega
  obtain rfl : i = Y + Z := by omega
  obtain ⟨M, hM⟩ : ∃ M, M = min (Y + Z) (N - 1) := ⟨_, rfl⟩
  rw [← hM]
  have hok := Vh_ok hN18 (show M ≤ N - 1 by omega) (by omega) Y
  have cT := cntT Y M
  have cF := cntF Y M
  rw [show min M Y = Y by omega] at cT
  obtain ⟨Z', hZ'⟩ : ∃ Z' : Nat, Z' = M - Y := ⟨_, rfl⟩
  rw [← hZ'] at cF
  have w5 : iwrap .i64 (((N - 1 : Nat) : Int) - (Y : Int)) = ((N - 1 - Y : Nat) : Int) := by rw [iwrap_i64_in (by omega)]; omega
  have hmin : (if ((N - 1 - Y : Nat) : Int) < (Z : Int) then ((N - 1 - Y : Nat) : Int) else (Z : Int)) = (Z' : Int) := by split <;> omega
  have w6 : iwrap .i64 ((2 : Int) * (Y : Int)) = ((2 * Y : Nat) : Int) := by rw [iwrap_i64_in (by omega)]; omega
  have w7 : iwrap .i64 (((N - 1 : Nat) : Int) - (Z' : Int)) = ((N - 1 - Z' : Nat) : Int) := by rw [iwrap_i64_in (by omega)]; omega
  have w8 : iwrap .i64 ((2 : Int) * ((N - 1 - Z' : Nat) : Int)) = ((2 * (N - 1 - Z') : Nat) : Int) := by rw [iwrap_i64_in (by omega)]; omega
  have hlo := lost_spec (Sn N) hS 0 ((N - 1 : Nat) : Int) _ hok
  have hvt := Go.AEX.Tri.word (vote_who (Sn N) hS 0 ((N - 1 : Nat) : Int) ((N - 1 : Nat) : Int) (Vh Y M) true (.inr rfl))
  rw [cF, hP] at hlo
  have hL : decide (2 * ((N : Int) - 1 - (Z' : Int)) ≤ (N : Int)) = decide (((2 * (N - 1 - Z') : Nat) : Int) ≤ (N : Int)) := by congr 1; rw [eq_iff_iff]; omega
  rw [hL] at hlo
  by_cases hw : 2 * Y > N
  · have hwi : ((2 * Y : Nat) : Int) > (N : Int) := by omega
    have hln : ¬ ((2 * (N - 1 - Z') : Nat) : Int) ≤ (N : Int) := by omega
    have hwon := won_spec (Sn N) hS 0 ((N - 1 : Nat) : Int) _ hok (by rw [cT, hP]; exact hw)
    rw [decide_eq_false hln] at hlo
    generalize cntV (Vh Y M) true = L at *
    generalize Vh Y M = V at *
    skip
    refine run_ok 4000 _ _ _ _ ?_
    simp (maxSteps := 10000000) only [go_sem, hge, w2, w5, hmin, w6, w7, w8, hwi, hln]
    refine run_ok 4000 _ _ _ _ ?_
    simp (maxSteps := 10000000) only [go_sem, hge, w2, w5, hmin, w6, w7, w8, hwi, hln]
    refine sem_call rfl rfl (((hwon).embed [0, 1, 2] rfl (by repeat' first | exact trivial | rfl | (simp only [go_sem]; done) | constructor) rfl (by first | rfl | simp only [go_sem]) rfl (by simp)).mono ?_)
    rintro _ _ ⟨_, _, ⟨rfl, rfl⟩, rfl, rfl⟩
    refine run_ok 4000 _ _ _ _ ?_
    simp (maxSteps := 10000000) only [go_sem, hge, w2, w5, hmin, w6, w7, w8, hwi, hln]
    refine sem_call rfl rfl (((hlo).embed [0, 1, 2] rfl (by repeat' first | exact trivial | rfl | (simp only [go_sem]; done) | constructor) rfl (by first | rfl | simp only [go_sem]) rfl (by simp)).mono ?_)
    rintro _ _ ⟨_, _, ⟨rfl, rfl⟩, rfl, rfl⟩
    refine run_ok 4000 _ _ _ _ ?_
    simp (maxSteps := 10000000) only [go_sem, hge, w2, w5, hmin, w6, w7, w8, hwi, hln]
    refine sem_call rfl rfl (((hlo).embed [0, 1, 2] rfl (by repeat' first | exact trivial | rfl | (simp only [go_sem]; done) | constructor) rfl (by first | rfl | simp only [go_sem]) rfl (by simp)).mono ?_)
    rintro _ _ ⟨_, _, ⟨rfl, rfl⟩, rfl, rfl⟩
    refine run_ok 4000 _ _ _ _ ?_
    simp (maxSteps := 10000000) only [go_sem, hge, w2, w5, hmin, w6, w7, w8, hwi, hln]
    refine sem_call rfl rfl (((hvt).embed [0, 1, 2] rfl (by repeat' first | exact trivial | rfl | (simp only [go_sem]; done) | constructor) rfl (by first | rfl | simp only [go_sem]) rfl (by simp)).mono ?_)
    rintro _ _ ⟨_, _, ⟨rfl, rfl⟩, rfl, rfl⟩
    refine run_ok 4000 _ _ _ _ ?_
    simp (maxSteps := 10000000) only [go_sem, hge, w2, w5, hmin, w6, w7, w8, hwi, hln]
    refine ⟨_, _, .sub [] ?_ .done, rfl, rfl⟩
    simp only [EmbV, go_sem]
  · have hwi : ¬ ((2 * Y : Nat) : Int) > (N : Int) := by omega
    have hwon := won_no (Sn N) hS 0 ((N - 1 : Nat) : Int) _ hok (by rw [cT, hP]; exact hw)
    generalize Vh Y M = V at *
    by_cases hln : ((2 * (N - 1 - Z') : Nat) : Int) ≤ (N : Int)
    · rw [decide_eq_true hln] at hlo
      skip
      refine run_ok 4000 _ _ _ _ ?_
      simp (maxSteps := 10000000) only [go_sem, hge, w2, w5, hmin, w6, w7, w8, hwi, hln]
      refine run_ok 4000 _ _ _ _ ?_
      simp (maxSteps := 10000000) only [go_sem, hge, w2, w5, hmin, w6, w7, w8, hwi, hln]
      refine sem_call rfl rfl (((hwon).embed [0, 1, 2] rfl (by repeat' first | exact trivial | rfl | (simp only [go_sem]; done) | constructor) rfl (by first | rfl | simp only [go_sem]) rfl (by simp)).mono ?_)
      rintro _ _ ⟨_, _, ⟨rfl, rfl⟩, rfl, rfl⟩
      refine run_ok 4000 _ _ _ _ ?_
      simp (maxSteps := 10000000) only [go_sem, hge, w2, w5, hmin, w6, w7, w8, hwi, hln]
      refine sem_call rfl rfl (((hlo).embed [0, 1, 2] rfl (by repeat' first | exact trivial | rfl | (simp only [go_sem]; done) | constructor) rfl (by first | rfl | simp only [go_sem]) rfl (by simp)).mono ?_)
      rintro _ _ ⟨_, _, ⟨rfl, rfl⟩, rfl, rfl⟩
      refine run_ok 4000 _ _ _ _ ?_
      simp (maxSteps := 10000000) only [go_sem, hge, w2, w5, hmin, w6, w7, w8, hwi, hln]
      refine sem_call rfl rfl (((hvt).embed [0, 1, 2] rfl (by repeat' first | exact trivial | rfl | (simp only [go_sem]; done) | constructor) rfl (by first | rfl | simp only [go_sem]) rfl (by simp)).mono ?_)
      rintro _ _ ⟨_, _, ⟨rfl, rfl⟩, rfl, rfl⟩
      refine run_ok 4000 _ _ _ _ ?_
      simp (maxSteps := 10000000) only [go_sem, hge, w2, w5, hmin, w6, w7, w8, hwi, hln]
      refine ⟨_, _, .sub [] ?_ .done, rfl, rfl⟩
      simp only [EmbV, go_sem]
    · rw [decide_eq_false hln] at hlo
      skip
      refine run_ok 4000 _ _ _ _ ?_
      simp (maxSteps := 10000000) only [go_sem, hge, w2, w5, hmin, w6, w7, w8, hwi, hln]
      refine run_ok 4000 _ _ _ _ ?_
      simp (maxSteps := 10000000) only [go_sem, hge, w2, w5, hmin, w6, w7, w8, hwi, hln]
      refine sem_call rfl rfl (((hwon).embed [0, 1, 2] rfl (by repeat' first | exact trivial | rfl | (simp only [go_sem]; done) | constructor) rfl (by first | rfl | simp only [go_sem]) rfl (by simp)).mono ?_)
      rintro _ _ ⟨_, _, ⟨rfl, rfl⟩, rfl, rfl⟩
      refine run_ok 4000 _ _ _ _ ?_
      simp (maxSteps := 10000000) only [go_sem, hge, w2, w5, hmin, w6, w7, w8, hwi, hln]
      refine sem_call rfl rfl (((hlo).embed [0, 1, 2] rfl (by repeat' first | exact trivial | rfl | (simp only [go_sem]; done) | constructor) rfl (by first | rfl | simp only [go_sem]) rfl (by simp)).mono ?_)
      rintro _ _ ⟨_, _, ⟨rfl, rfl⟩, rfl, rfl⟩
      refine run_ok 4000 _ _ _ _ ?_
      simp (maxSteps := 10000000) only [go_sem, hge, w2, w5, hmin, w6, w7, w8, hwi, hln]
      refine sem_call rfl rfl (((hvt).embed [0, 1, 2] rfl (by repeat' first | exact trivial | rfl | (simp only [go_sem]; done) | constructor) rfl (by first | rfl | simp only [go_sem]) rfl (by simp)).mono ?_)
      rintro _ _ ⟨_, _, ⟨rfl, rfl⟩, rfl, rfl⟩
      refine run_ok 4000 _ _ _ _ ?_
      simp (maxSteps := 10000000) only [go_sem, hge, w2, w5, hmin, w6, w7, w8, hwi, hln]
      refine ⟨_, _, .sub [] ?_ .done, rfl, rfl⟩
      simp only [EmbV, go_sem]
end Go.AEX
