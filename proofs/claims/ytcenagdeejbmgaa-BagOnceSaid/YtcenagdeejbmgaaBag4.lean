/- Bag: what finds no room is lost (BagFull). -/
import Derived.Test.YtcenagdeejbmgaaBag3
namespace Go.AEX
open Go Go.AE Go.Proofs
set_option maxRecDepth 100000
set_option linter.unusedVariables false
set_option linter.unusedSimpArgs false

theorem cut_spec (s : List UInt8) (n : Int) (hn : 0 ≤ n) : Tri Try.prog 13 [.str s, .int .i64 n] [] (fun v m => v = .str (s.take n.toNat) ∧ m = []) := by
  refine (Tri.enter (rl := r13) (code := c13) (by kernel_rfl) Try.func13 rfl c13_ok (by kernel_rfl) (by kernel_rfl) ?_)
  refine run_ok 4000 _ _ _ _ ?_
  simp (maxSteps := 10000000) only [go_sem, c13, r13]
  refine ⟨fun h => ⟨by omega, ?_⟩, fun h => ?_⟩
  · omega
  · rw [List.take_of_length_le (by omega)]
theorem put_one {L : List Itm} {k a b : Int} {t : List UInt8} (h : L.length < 400) : putN a b [t] (L, k) = ((L ++ [⟨a, b, t⟩], k), 1) := by
  simp only [putN]; rw [if_neg (by omega)]
theorem put_one_full {L : List Itm} {k a b : Int} {t : List UInt8} (h : 400 ≤ L.length) : putN a b [t] (L, k) = ((L, k + 1), 0) := by
  simp only [putN]; rw [if_pos h]
theorem awake25_spec : Tri Try.prog 12 [] [] (fun v m => v = .bool true ∧ m = []) := by
  refine Tri.asB (Tri.post ?_)
  refine (Tri.enter (rl := r12) (code := c12) (by kernel_rfl) Try.func12 rfl c12_ok (by kernel_rfl) (by kernel_rfl) ?_)
  refine run_ok 4000 _ _ _ _ ?_
  simp (maxSteps := 10000000) only [go_sem, c12, r12]
  refine sem_nilbox 0 0 3 rfl rfl ?_
  refine run_ok 4000 _ _ _ _ ?_
  simp (maxSteps := 10000000) only [go_sem]
  have hp := put_spec [] 0 1 2 [[97], [98]] true (by simp) (by simp) (by simp)
  have e : putN 1 2 [[97], [98]] ([], 0) = (([⟨1, 2, [97]⟩, ⟨1, 2, [98]⟩], 0), 2) := rfl
  rw [e] at hp
  have ht := take_spec [⟨1, 2, [97]⟩, ⟨1, 2, [98]⟩] 0 3 (by decide) (by decide)
  have e2 : place 2 3 = 1 := by decide
  simp only [List.length_cons, List.length_nil, Nat.reduceAdd, e2] at ht
  have e3 : wout [⟨1, 2, [97]⟩, ⟨1, 2, [98]⟩] 1 = [⟨1, 2, [97]⟩] := rfl
  have e4 : ga [⟨1, 2, [97]⟩, ⟨1, 2, [98]⟩] 1 = ⟨1, 2, [98]⟩ := rfl
  rw [e3, e4] at ht
  have hl := blen_spec [⟨1, 2, [97]⟩] 0
  unfold bagM bagG bagT at *
  simp only [brows, brow, List.map_cons, List.map_nil, List.length_cons, List.length_nil, Nat.reduceAdd] at hp ht hl
  refine sem_call rfl rfl (((hp).embed [0, 1] rfl (by repeat' first | exact trivial | rfl | (simp only [go_sem]; done) | constructor) rfl (by first | rfl | simp only [go_sem]) rfl (by simp)).mono ?_)
  rintro _ _ ⟨_, _, ⟨rfl, rfl⟩, rfl, rfl⟩
  refine run_ok 4000 _ _ _ _ ?_
  simp (maxSteps := 10000000) only [go_sem]
  refine sem_call rfl rfl (((ht).embed [0, 2] rfl (by repeat' first | exact trivial | rfl | (simp only [go_sem]; done) | constructor) rfl (by first | rfl | simp only [go_sem]) rfl (by simp)).mono ?_)
  rintro _ _ ⟨_, _, ⟨rfl, rfl⟩, rfl, rfl⟩
  refine run_ok 4000 _ _ _ _ ?_
  simp (maxSteps := 10000000) only [go_sem]
  refine sem_call rfl rfl (((hl).embed [0, 3] rfl (by repeat' first | exact trivial | rfl | (simp only [go_sem]; done) | constructor) rfl (by first | rfl | simp only [go_sem]) rfl (by simp)).mono ?_)
  rintro _ _ ⟨_, _, ⟨rfl, rfl⟩, rfl, rfl⟩
  refine run_ok 4000 _ _ _ _ ?_
  simp (maxSteps := 10000000) only [go_sem]
  exact ⟨.bsym true, _, .sub [] (by simp only [EmbV, go_sem]) .done, rfl, rfl⟩
/-- A bag of n of the same, as many as have room. -/
def fullL (n : Nat) : List Itm := List.replicate (min n 400) ⟨0, 1, [120]⟩
theorem fullL_len (n : Nat) : (fullL n).length = min n 400 := by simp [fullL]
theorem fullL_put (n : Nat) : putN 0 1 [[120]] (fullL n, ((n - 400 : Nat) : Int)) = ((fullL (n + 1), ((n + 1 - 400 : Nat) : Int)), if n < 400 then 1 else 0) := by
  by_cases h : n < 400
  · rw [put_one (by rw [fullL_len]; omega), if_pos h]
    have e : n - 400 = n + 1 - 400 := by omega
    have e2 : fullL n ++ [⟨0, 1, [120]⟩] = fullL (n + 1) := by
      unfold fullL
      rw [Nat.min_eq_left (by omega), Nat.min_eq_left (by omega), List.replicate_succ']
    rw [e, e2]
  · rw [put_one_full (by rw [fullL_len]; omega), if_neg h]
    have e : ((n - 400 : Nat) : Int) + 1 = ((n + 1 - 400 : Nat) : Int) := by omega
    have e2 : fullL n = fullL (n + 1) := by
      unfold fullL
      rw [Nat.min_eq_right (by omega), Nat.min_eq_right (by omega)]
    rw [e, e2]
theorem bagFull_spec (n : Int) (hn : (Lit.int .i64 n).wf = true) (more : Bool) :
    Tri Try.prog 10 [.int .i64 n, .bsym more] [] (fun v m => v = .bool true) := by
  obtain ⟨N, hN, hN5⟩ := and_i64 n (k := 511) (by decide)
  have hN : ibits .and .i64 n 511 = (N : Int) := hN
  skip
  refine (Tri.asB (Tri.enter (rl := r10) (code := c10) (by kernel_rfl) Try.func10 rfl c10_ok (by kernel_rfl) (by kernel_rfl) ?_))
  refine run_ok 4000 _ _ _ _ ?_
  simp (maxSteps := 10000000) only [go_sem, c10, r10, hN]
  refine sem_call rfl rfl (((awake25_spec).embed [] rfl trivial rfl rfl rfl (by simp)).mono ?_)
  rintro _ _ ⟨_, _, ⟨rfl, rfl⟩, rfl, rfl⟩
  refine run_ok 4000 _ _ _ _ ?_
  simp (maxSteps := 10000000) only [go_sem, hN]
  refine sem_nilbox 0 0 3 rfl rfl ?_
  simp (maxSteps := 10000000) only [go_sem, hN]
  refine sem_rounds (fun i => i ≤ N) (fun i => [(0, .int .i64 (N : Nat)), (1, .bsym more), (5, .pbox 0 0), (12, .int .i64 (N : Nat)), (13, .int .i64 (i : Nat))])
    (fun i => [.box [.sl 1 0 (fullL i).length (fullL i).length false, .int .i64 ((i - 400 : Nat) : Int)], .row 3 (brows (fullL i))]) (fun i => N - i) 0 [0, 1] (by omega) ?_ ?_
  · simp only [Emb, go_sem, show fullL 0 = [] from rfl, brows, List.map_nil, List.length_nil]
  rintro i hi
  refine run_ok 4000 _ _ _ _ ?_
  simp (maxSteps := 10000000) only [go_sem, hN]
  refine ⟨fun hlt => ?_, fun hge => ?_⟩
  · have hp := put_spec (fullL i) ((i - 400 : Nat) : Int) 0 1 [[120]] true (by rw [fullL_len]; omega) ⟨by omega, by simp; omega⟩ (by simp)
    rw [fullL_put] at hp
    unfold bagM bagG at hp
    skip
    refine sem_call rfl rfl (((hp).embed [0, 1] rfl (by repeat' first | exact trivial | rfl | (simp only [go_sem]; done) | constructor) rfl (by first | rfl | simp only [go_sem]) rfl (by simp)).mono ?_)
    rintro _ _ ⟨_, _, ⟨rfl, rfl⟩, rfl, rfl⟩
    refine run_ok 4000 _ _ _ _ ?_
    simp (maxSteps := 10000000) only [go_sem, inc64 (show i < 1000000000000 by omega)]
    refine ⟨i + 1, by omega, by omega, [0, 2], ?_⟩
    simp only [Emb, go_sem]
  have hi : i = N := by omega
  subst hi
  have hl := blen_spec (fullL i) ((i - 400 : Nat) : Int)
  have hk := blost_spec (fullL i) ((i - 400 : Nat) : Int)
  unfold bagM at hl hk
  have w1 : iwrap .i64 ((i : Int) - 400) = (i : Int) - 400 := iwrap_i64_in (by omega)
  have hfl := fullL_len i
  have c1 : (((fullL i).length : Int) != (if (400 : Int) < (i : Int) then 400 else (i : Int))) = false := by
    rw [bne_eq_false_iff_eq, hfl]; split <;> omega
  have c2 : (((i - 400 : Nat) : Int) != (if (0 : Int) > (i : Int) - 400 then 0 else (i : Int) - 400)) = false := by
    rw [bne_eq_false_iff_eq]; split <;> omega
  by_cases h0 : i = 0
  · have f1 : ((i : Int) == 0) = true := by rw [beq_iff_eq]; omega
    have ht : Tri Try.prog 38 [.pbox 0 0, .int .i64 0] (bagM (fullL i) ((i - 400 : Nat) : Int)) (fun v m => v = .int .i64 9 ∧ m = bagM (fullL i) ((i - 400 : Nat) : Int)) := by
      subst h0; exact twice_nil 0 0
    unfold bagM at *
    skip
    refine sem_call rfl rfl (((hl).embed [0, 1] rfl (by repeat' first | exact trivial | rfl | (simp only [go_sem]; done) | constructor) rfl (by first | rfl | simp only [go_sem]) rfl (by simp)).mono ?_)
    rintro _ _ ⟨_, _, ⟨rfl, rfl⟩, rfl, rfl⟩
    refine run_ok 4000 _ _ _ _ ?_
    simp (maxSteps := 10000000) only [go_sem, w1, f1, c1, c2]
    refine sem_call rfl rfl (((hk).embed [0, 1] rfl (by repeat' first | exact trivial | rfl | (simp only [go_sem]; done) | constructor) rfl (by first | rfl | simp only [go_sem]) rfl (by simp)).mono ?_)
    rintro _ _ ⟨_, _, ⟨rfl, rfl⟩, rfl, rfl⟩
    refine run_ok 4000 _ _ _ _ ?_
    simp (maxSteps := 10000000) only [go_sem, w1, f1, c1, c2]
    refine sem_call rfl rfl (((ht).embed [0, 1] rfl (by repeat' first | exact trivial | rfl | (simp only [go_sem]; done) | constructor) rfl (by first | rfl | simp only [go_sem]) rfl (by simp)).mono ?_)
    rintro _ _ ⟨_, _, ⟨rfl, rfl⟩, rfl, rfl⟩
    refine run_ok 4000 _ _ _ _ ?_
    simp (maxSteps := 10000000) only [go_sem, w1, f1, c1, c2]
  by_cases h4 : 400 ≤ i
  · have f1 : ((i : Int) == 0) = false := by rw [beq_eq_false_iff_ne]; omega
    have f2 : (i : Int) ≥ 400 := by omega
    have ht := twice_full (fullL i) ((i - 400 : Nat) : Int) 0 (by omega) (by omega)
    have hp := put_spec (fullL i) ((i - 400 : Nat) : Int) 5 6 [[97], [98]] true (by omega) ⟨by omega, by simp; omega⟩ (by simp)
    have e : putN 5 6 [[97], [98]] (fullL i, ((i - 400 : Nat) : Int)) = ((fullL i, ((i - 400 : Nat) : Int) + 1 + 1), 0) := by
      simp only [putN]; rw [if_pos (by omega), if_pos (by omega)]
    rw [e] at hp
    have hk2 := blost_spec (fullL i) (((i - 400 : Nat) : Int) + 1 + 1)
    have w2 : iwrap .i64 ((i : Int) - 400 + 2) = (i : Int) - 400 + 2 := iwrap_i64_in (by omega)
    have f3 : (((i - 400 : Nat) : Int) + 1 + 1 == (i : Int) - 400 + 2) = true := by rw [beq_iff_eq]; omega
    unfold bagM bagG at *
    skip
    refine sem_call rfl rfl (((hl).embed [0, 1] rfl (by repeat' first | exact trivial | rfl | (simp only [go_sem]; done) | constructor) rfl (by first | rfl | simp only [go_sem]) rfl (by simp)).mono ?_)
    rintro _ _ ⟨_, _, ⟨rfl, rfl⟩, rfl, rfl⟩
    refine run_ok 4000 _ _ _ _ ?_
    simp (maxSteps := 10000000) only [go_sem, w1, w2, f1, f2, f3, c1, c2]
    refine sem_call rfl rfl (((hk).embed [0, 1] rfl (by repeat' first | exact trivial | rfl | (simp only [go_sem]; done) | constructor) rfl (by first | rfl | simp only [go_sem]) rfl (by simp)).mono ?_)
    rintro _ _ ⟨_, _, ⟨rfl, rfl⟩, rfl, rfl⟩
    refine run_ok 4000 _ _ _ _ ?_
    simp (maxSteps := 10000000) only [go_sem, w1, w2, f1, f2, f3, c1, c2]
    refine sem_call rfl rfl (((ht).embed [0, 1] rfl (by repeat' first | exact trivial | rfl | (simp only [go_sem]; done) | constructor) rfl (by first | rfl | simp only [go_sem]) rfl (by simp)).mono ?_)
    rintro _ _ ⟨_, _, ⟨rfl, rfl⟩, rfl, rfl⟩
    refine run_ok 4000 _ _ _ _ ?_
    simp (maxSteps := 10000000) only [go_sem, w1, w2, f1, f2, f3, c1, c2]
    refine sem_call rfl rfl (((hp).embed [0, 1] rfl (by repeat' first | exact trivial | rfl | (simp only [go_sem]; done) | constructor) rfl (by first | rfl | simp only [go_sem]) rfl (by simp)).mono ?_)
    rintro _ _ ⟨_, _, ⟨rfl, rfl⟩, rfl, rfl⟩
    refine run_ok 4000 _ _ _ _ ?_
    simp (maxSteps := 10000000) only [go_sem, w1, w2, f1, f2, f3, c1, c2]
    refine sem_call rfl rfl (((hk2).embed [0, 2] rfl (by repeat' first | exact trivial | rfl | (simp only [go_sem]; done) | constructor) rfl (by first | rfl | simp only [go_sem]) rfl (by simp)).mono ?_)
    rintro _ _ ⟨_, _, ⟨rfl, rfl⟩, rfl, rfl⟩
    refine run_ok 4000 _ _ _ _ ?_
    simp (maxSteps := 10000000) only [go_sem, w1, w2, f1, f2, f3, c1, c2]
  have f1 : ((i : Int) == 0) = false := by rw [beq_eq_false_iff_ne]; omega
  have f2 : ¬ (i : Int) ≥ 400 := by omega
  have ht := twice_spec (fullL i) ((i - 400 : Nat) : Int) 0 (by omega) (by omega)
  have e0 : fullL i ++ [ga (fullL i) (place (fullL i).length 0)] = fullL (i + 1) := by
    have hp := place_lt (n := (fullL i).length) (by omega) 0
    rw [← ga_eq hp]
    unfold fullL at hp ⊢
    rw [List.getElem_replicate, Nat.min_eq_left (by omega), Nat.min_eq_left (by omega), List.replicate_succ']
  rw [e0] at ht
  have hfl1 := fullL_len (i + 1)
  have hp := put_spec (fullL (i + 1)) ((i - 400 : Nat) : Int) 5 6 [[97], [98]] true (by omega) ⟨by omega, by simp; omega⟩ (by simp)
  obtain ⟨M, q, k, e, hk0, hq0, hq1, hM, hd⟩ : ∃ M q k, putN 5 6 [[97], [98]] (fullL (i + 1), ((i - 400 : Nat) : Int)) = ((M, q), k) ∧ (k : Int) = (if (400 : Int) - (i : Int) - 1 < 2 then (400 : Int) - (i : Int) - 1 else 2) ∧ 0 ≤ q ∧ q ≤ 1000 ∧ M.length ≤ 400 ∧
      M.length - (M.filter fun x => !hit 1 x).length = i + 1 := by
    have hf : (fullL (i + 1)).filter (fun x => !hit 1 x) = [] := by
      unfold fullL; rw [List.filter_replicate]; rfl
    by_cases g1 : i = 399
    · refine ⟨fullL (i + 1), ((i - 400 : Nat) : Int) + 1 + 1, 0, ?_, by subst g1; decide, by omega, by omega, by omega, by rw [hf, hfl1]; simp; omega⟩
      simp only [putN]; rw [if_pos (by omega), if_pos (by omega)]
    by_cases g2 : i = 398
    · refine ⟨fullL (i + 1) ++ [⟨5, 6, [97]⟩], ((i - 400 : Nat) : Int) + 1, 1, ?_, by subst g2; decide, by omega, by omega, by simp; omega, ?_⟩
      · simp only [putN]; rw [if_neg (by omega), if_pos (by simp; omega)]
      · rw [List.filter_append, hf, List.length_append, List.length_append, hfl1]; subst g2; decide
    · refine ⟨fullL (i + 1) ++ [⟨5, 6, [97]⟩] ++ [⟨5, 6, [98]⟩], ((i - 400 : Nat) : Int), 2, ?_, by rw [if_neg (by omega)]; rfl, by omega, by omega, by simp; omega, ?_⟩
      · simp only [putN]; rw [if_neg (by omega), if_neg (by simp; omega)]
      · rw [List.filter_append, List.filter_append, hf]
        have : ∀ t, List.filter (fun x => !hit 1 x) [(⟨5, 6, t⟩ : Itm)] = [⟨5, 6, t⟩] := fun t => rfl
        rw [this, this]; simp; omega
  rw [e] at hp
  have hdr := drop_spec M q 1 (by omega) ⟨hq0, by omega⟩
  rw [hd] at hdr
  have w3 : iwrap .i64 (400 - (i : Int)) = 400 - (i : Int) := iwrap_i64_in (by omega)
  have w4 : iwrap .i64 (400 - (i : Int) - 1) = 400 - (i : Int) - 1 := iwrap_i64_in (by omega)
  have w5 : iwrap .i64 ((i : Int) + 1) = (i : Int) + 1 := iwrap_i64_in (by omega)
  have f4 : ((k : Int) == (if (400 : Int) - (i : Int) - 1 < 2 then (400 : Int) - (i : Int) - 1 else 2)) = true := by rw [beq_iff_eq]; exact hk0
  have f5 : (((i + 1 : Nat) : Int) == (i : Int) + 1) = true := by rw [beq_iff_eq]; omega
  unfold bagM bagG bagT at *
  skip
  refine sem_call rfl rfl (((hl).embed [0, 1] rfl (by repeat' first | exact trivial | rfl | (simp only [go_sem]; done) | constructor) rfl (by first | rfl | simp only [go_sem]) rfl (by simp)).mono ?_)
  rintro _ _ ⟨_, _, ⟨rfl, rfl⟩, rfl, rfl⟩
  refine run_ok 4000 _ _ _ _ ?_
  simp (maxSteps := 10000000) only [go_sem, w1, w3, w4, w5, f1, f2, f4, f5, c1, c2]
  refine sem_call rfl rfl (((hk).embed [0, 1] rfl (by repeat' first | exact trivial | rfl | (simp only [go_sem]; done) | constructor) rfl (by first | rfl | simp only [go_sem]) rfl (by simp)).mono ?_)
  rintro _ _ ⟨_, _, ⟨rfl, rfl⟩, rfl, rfl⟩
  refine run_ok 4000 _ _ _ _ ?_
  simp (maxSteps := 10000000) only [go_sem, w1, w3, w4, w5, f1, f2, f4, f5, c1, c2]
  refine sem_call rfl rfl (((ht).embed [0, 1] rfl (by repeat' first | exact trivial | rfl | (simp only [go_sem]; done) | constructor) rfl (by first | rfl | simp only [go_sem]) rfl (by simp)).mono ?_)
  rintro _ _ ⟨_, _, ⟨rfl, rfl⟩, rfl, rfl⟩
  refine run_ok 4000 _ _ _ _ ?_
  simp (maxSteps := 10000000) only [go_sem, w1, w3, w4, w5, f1, f2, f4, f5, c1, c2]
  refine sem_call rfl rfl (((hp).embed [0, 2] rfl (by repeat' first | exact trivial | rfl | (simp only [go_sem]; done) | constructor) rfl (by first | rfl | simp only [go_sem]) rfl (by simp)).mono ?_)
  rintro _ _ ⟨_, _, ⟨rfl, rfl⟩, rfl, rfl⟩
  refine run_ok 4000 _ _ _ _ ?_
  simp (maxSteps := 10000000) only [go_sem, w1, w3, w4, w5, f1, f2, f4, f5, c1, c2]
  intro hm
  refine sem_call rfl rfl (((hdr).embed [0, 3] rfl (by repeat' first | exact trivial | rfl | (simp only [go_sem]; done) | constructor) rfl (by first | rfl | simp only [go_sem]) rfl (by simp)).mono ?_)
  rintro _ _ ⟨_, _, ⟨rfl, rfl⟩, rfl, rfl⟩
  refine run_ok 4000 _ _ _ _ ?_
  simp (maxSteps := 10000000) only [go_sem, w1, w3, w4, w5, f1, f2, f4, f5, c1, c2]
end Go.AEX
