/- Seat rT: orders, changes and records as bytes: read. -/
import Derived.Test.YtpbmlaolpfaicaaTCod
namespace Go.AEX
open Go Go.AE Go.Proofs
set_option maxRecDepth 100000
set_option linter.unusedVariables false
set_option linter.unusedSimpArgs false

theorem icnt_spec (n most : Int) (h : 0 ≤ n ∧ n ≤ most) (hm : most ≤ 1000000000000000) (r : List UInt8) : Tri Try.prog 81 [.pbox 0 0, .int .i64 most] (inM (numB (posN n) ++ r) 0)
    (fun v m => v = .int .i64 n ∧ m = inM r 0) := by
  have hc := icount_spec (numB (posN n) ++ r) 0 most (i64_of (by omega))
  have e : countF (numB (posN n) ++ r, 0) most = ((r, 0), n) := by
    unfold countF
    rw [numI_put _ _ (by unfold posN; omega), if_neg (by unfold posN; omega)]
    simp only [posN_of h.1]
  rw [e] at hc
  exact hc
theorem iin_spec (n : Int) (h : I64 n) (r : List UInt8) : Tri Try.prog 118 [.pbox 0 0] (inM (numB (zg n) ++ r) 0)
    (fun v m => v = .int .i64 n ∧ m = inM r 0) := by
  have hc := iint_spec (numB (zg n) ++ r) 0
  rw [numI_put _ _ (zg_lt h)] at hc
  simp only [sg_zg h] at hc
  exact hc
theorem fail0_spec (r : List UInt8) : Tri Try.prog 110 [.pbox 0 0, .int .i64 0] (inM r 0) (fun v m => v = .tup [] ∧ m = inM r 0) := by
  have hc := fail_spec r 0 0
  have e : failF (r, 0) 0 = (r, 0) := by unfold failF; simp
  rw [e] at hc
  exact hc
theorem iend0_spec : Tri Try.prog 72 [.pbox 0 0] (inM [] 0) (fun v m => v = .int .i64 0 ∧ m = inM [] 0) := by
  have hc := iend_spec [] 0
  have e : endF (([] : List UInt8), 0) = ([], 0) := by unfold endF; simp
  rw [e] at hc
  exact hc
theorem flat_drop {α : Type} (f : α → List UInt8) {l : List α} {i : Nat} (h : i < l.length) : ((l.drop i).map f).flatten = f l[i] ++ ((l.drop (i + 1)).map f).flatten := by
  rw [List.drop_eq_getElem_cons h, List.map_cons, List.flatten_cons]
theorem dec64 {n i : Nat} (h : i < n) (hn : n ≤ 1000000) : iwrap .i64 (((n - i : Nat) : Int) - 1) = ((n - (i + 1) : Nat) : Int) := by
  rw [iwrap_i64_in (by omega)]; omega
theorem numsB_app4 (a b c d : Nat) (X : List UInt8) : numsB [a] ++ (numsB [b] ++ numsB [c, d]) ++ X = numB a ++ (numB b ++ (numB c ++ (numB d ++ X))) := by simp [numsB]
theorem oread_spec (L : List Ord) (hL : L.length ≤ 8) (h : ∀ o ∈ L, okO o) (r : List UInt8) :
    Tri Try.prog 109 [.pbox 0 0] (inM (batB L ++ r) 0) (fun v m => v = .vsl 4 (orows L) false ∧ m = inM r 0) := by
  refine Tri.post ?_
  have c1 := icnt_spec L.length 8 (by omega) (by omega) ((L.map ordB).flatten ++ r)
  have e1 : batB L ++ r = numB (posN (L.length : Int)) ++ ((L.map ordB).flatten ++ r) := by unfold batB; rw [posN_nat]; simp [numsB]
  rw [← e1] at c1
  unfold inM at c1
  unfold inM
  skip
  refine (Tri.enter (rl := r109) (code := c109) (by kernel_rfl) Try.func109 rfl c109_ok (by kernel_rfl) (by kernel_rfl) ?_)
  refine run_ok 4000 _ _ _ _ ?_
  simp (maxSteps := 10000000) only [go_sem, c109, r109, orows_len]
  refine sem_call rfl rfl (((c1).embed [0] rfl (by repeat' first | exact trivial | rfl | (simp only [go_sem]; done) | constructor) rfl (by first | rfl | simp only [go_sem]) rfl (by simp)).mono ?_)
  rintro _ _ ⟨_, _, ⟨rfl, rfl⟩, rfl, rfl⟩
  refine run_ok 4000 _ _ _ _ ?_
  simp (maxSteps := 10000000) only [go_sem, orows_len]
  refine sem_virt 3 4 rfl ?_
  simp (maxSteps := 10000000) only [go_sem, orows_len]
  refine sem_rounds (fun i : Nat => i ≤ L.length) (fun i => [(0, .pbox 0 0), (3, .sl 1 0 i i false), (4, .int .i64 ((L.length - i : Nat) : Int))])
    (fun i => [.box [.str (((L.drop i).map ordB).flatten ++ r), .int .i64 0], .row 4 (orows (L.take i))]) (fun i => L.length - i) 0 [0, 1] (Nat.zero_le _) ?_ ?_
  · simp [Emb, go_sem, orows]
  intro i hi
  have hfl : (L.take i).length = i := by rw [List.length_take]; omega
  have hfa := orows_all (L.take i)
  rw [hfl] at hfa
  by_cases c : i < L.length
  · have hin : ((L.length - i : Nat) : Int) > 0 := by omega
    have w1 := dec64 c (by omega)
    have hd := flat_drop ordB c
    have hnx : orows (L.take (i + 1)) = orows (L.take i) ++ orows [L[i]] := by rw [List.take_succ_eq_append_getElem c, orows_app]
    have hok := h _ (List.getElem_mem c)
    have hsm : small (i + 1) := by unfold small; omega
    generalize L[i] = o at *
    have hck := ocheck_spec o hok
    obtain ⟨g1, g2, g3, g4⟩ := okO_rg hok
    obtain ⟨k, u, a, b⟩ := o
    simp only at g1 g2 g3 g4
    have eo : ordB (k, u, a, b) = numsB [posN k] ++ (numsB [posN u] ++ numsB [zg a, zg b]) := by unfold ordB posN; simp only; rw [show (max u 0) = u by omega]
    rw [hd, eo, List.append_assoc, numsB_app4]
    generalize hD : ((L.drop (i + 1)).map ordB).flatten = D at *
    generalize hN : L.length - (i + 1) = N1 at *
    generalize ((L.length - i : Nat) : Int) = N0 at *
    have p1 := icnt_spec k 4 g1 (by omega) (numB (posN u) ++ (numB (zg a) ++ (numB (zg b) ++ (D ++ r))))
    have p2 := icnt_spec u 1099511627776 g2 (by omega) (numB (zg a) ++ (numB (zg b) ++ (D ++ r)))
    have p3 := iin_spec a (i64_of (by omega)) (numB (zg b) ++ (D ++ r))
    have p4 := iin_spec b (i64_of (by omega)) (D ++ r)
    have p5 := fail0_spec (D ++ r)
    have pe := err_spec (numB (posN k) ++ (numB (posN u) ++ (numB (zg a) ++ (numB (zg b) ++ (D ++ r))))) 0
    unfold inM at p1 p2 p3 p4 p5 pe
    unfold orow at hck
    simp only at hck
    skip
    refine run_ok 4000 _ _ _ _ ?_
    simp (maxSteps := 10000000) only [go_sem, hin, w1, hsm, orows_len, hfl, Int.natCast_nonneg, Nat.le_refl]
    refine sem_call rfl rfl (((pe).embed [0] rfl (by repeat' first | exact trivial | rfl | (simp only [go_sem]; done) | constructor) rfl (by first | rfl | simp only [go_sem]) rfl (by simp)).mono ?_)
    rintro _ _ ⟨_, _, ⟨rfl, rfl⟩, rfl, rfl⟩
    refine run_ok 4000 _ _ _ _ ?_
    simp (maxSteps := 10000000) only [go_sem, hin, w1, hsm, orows_len, hfl, Int.natCast_nonneg, Nat.le_refl]
    refine sem_call rfl rfl (((p1).embed [0] rfl (by repeat' first | exact trivial | rfl | (simp only [go_sem]; done) | constructor) rfl (by first | rfl | simp only [go_sem]) rfl (by simp)).mono ?_)
    rintro _ _ ⟨_, _, ⟨rfl, rfl⟩, rfl, rfl⟩
    refine run_ok 4000 _ _ _ _ ?_
    simp (maxSteps := 10000000) only [go_sem, hin, w1, hsm, orows_len, hfl, Int.natCast_nonneg, Nat.le_refl]
    refine sem_call rfl rfl (((p2).embed [0] rfl (by repeat' first | exact trivial | rfl | (simp only [go_sem]; done) | constructor) rfl (by first | rfl | simp only [go_sem]) rfl (by simp)).mono ?_)
    rintro _ _ ⟨_, _, ⟨rfl, rfl⟩, rfl, rfl⟩
    refine run_ok 4000 _ _ _ _ ?_
    simp (maxSteps := 10000000) only [go_sem, hin, w1, hsm, orows_len, hfl, Int.natCast_nonneg, Nat.le_refl]
    refine sem_call rfl rfl (((p3).embed [0] rfl (by repeat' first | exact trivial | rfl | (simp only [go_sem]; done) | constructor) rfl (by first | rfl | simp only [go_sem]) rfl (by simp)).mono ?_)
    rintro _ _ ⟨_, _, ⟨rfl, rfl⟩, rfl, rfl⟩
    refine run_ok 4000 _ _ _ _ ?_
    simp (maxSteps := 10000000) only [go_sem, hin, w1, hsm, orows_len, hfl, Int.natCast_nonneg, Nat.le_refl]
    refine sem_call rfl rfl (((p4).embed [0] rfl (by repeat' first | exact trivial | rfl | (simp only [go_sem]; done) | constructor) rfl (by first | rfl | simp only [go_sem]) rfl (by simp)).mono ?_)
    rintro _ _ ⟨_, _, ⟨rfl, rfl⟩, rfl, rfl⟩
    refine run_ok 4000 _ _ _ _ ?_
    simp (maxSteps := 10000000) only [go_sem, hin, w1, hsm, orows_len, hfl, Int.natCast_nonneg, Nat.le_refl]
    refine sem_call rfl rfl (((hck).embed [] rfl trivial rfl rfl rfl (by simp)).mono ?_)
    rintro _ _ ⟨_, _, ⟨rfl, rfl⟩, rfl, rfl⟩
    refine run_ok 4000 _ _ _ _ ?_
    simp (maxSteps := 10000000) only [go_sem, hin, w1, hsm, orows_len, hfl, Int.natCast_nonneg, Nat.le_refl]
    refine sem_call rfl rfl (((p5).embed [0] rfl (by repeat' first | exact trivial | rfl | (simp only [go_sem]; done) | constructor) rfl (by first | rfl | simp only [go_sem]) rfl (by simp)).mono ?_)
    rintro _ _ ⟨_, _, ⟨rfl, rfl⟩, rfl, rfl⟩
    refine run_ok 4000 _ _ _ _ ?_
    simp (maxSteps := 10000000) only [go_sem, hin, w1, hsm, orows_len, hfl, Int.natCast_nonneg, Nat.le_refl]
    refine ⟨i + 1, by omega, c, [0, 3], ?_⟩
    simp only [Emb, go_sem, hnx, orows_one, orows_app, hfa, hD, hN]
  · have hin : ¬ ((L.length - i : Nat) : Int) > 0 := by omega
    obtain rfl : i = L.length := by omega
    rw [List.drop_length, List.map_nil, List.flatten_nil, List.nil_append, List.take_length] at *
    have pe := err_spec r 0
    unfold inM at pe
    skip
    refine run_ok 4000 _ _ _ _ ?_
    simp (maxSteps := 10000000) only [go_sem, hin]
    refine run_ok 4000 _ _ _ _ ?_
    simp (maxSteps := 10000000) only [go_sem, hin]
    refine sem_call rfl rfl (((pe).embed [0] rfl (by repeat' first | exact trivial | rfl | (simp only [go_sem]; done) | constructor) rfl (by first | rfl | simp only [go_sem]) rfl (by simp)).mono ?_)
    rintro _ _ ⟨_, _, ⟨rfl, rfl⟩, rfl, rfl⟩
    refine run_ok 4000 _ _ _ _ ?_
    simp (maxSteps := 10000000) only [go_sem, hin]
    refine ⟨_, _, .fz 1 rfl (by simp only [go_sem, orows_len, Nat.le_refl]) (.sub [0] ?_ .done), rfl, rfl⟩
    simp only [EmbV, go_sem, hfa]
theorem cread_spec (c : Chg) (h : ChgOk c) (r : List UInt8) :
    Tri Try.prog 108 [.pbox 0 0] (inM (chgB c ++ r) 0) (fun v m => v = .agg (crow c) ∧ m = inM r 0) := by
  refine Tri.post ?_
  obtain ⟨k, p, vs⟩ := c
  have hk := h.k; have hp := h.p; have hl := h.l; have hv := h.v
  simp only at hk hp hl hv
  have e1 : chgB (k, p, vs) ++ r = numB (posN k) ++ (numB (posN p) ++ (numB (posN (vs.length : Int)) ++ ((vs.map fun x => numB (posN x)).flatten ++ r))) := by
    unfold chgB numsB; rw [posN_nat]; simp [List.map_map, Function.comp_def]
  have p1 := icnt_spec k 3 hk (by omega) (numB (posN p) ++ (numB (posN (vs.length : Int)) ++ ((vs.map fun x => numB (posN x)).flatten ++ r)))
  have p2 := icnt_spec p 31 hp (by omega) (numB (posN (vs.length : Int)) ++ ((vs.map fun x => numB (posN x)).flatten ++ r))
  have p3 := icnt_spec vs.length 32 (by omega) (by omega) ((vs.map fun x => numB (posN x)).flatten ++ r)
  rw [e1]
  unfold inM at p1 p2 p3
  unfold inM crow
  simp only
  refine (Tri.enter (rl := r108) (code := c108) (by kernel_rfl) Try.func108 rfl c108_ok (by kernel_rfl) (by kernel_rfl) ?_)
  refine run_ok 4000 _ _ _ _ ?_
  simp (maxSteps := 10000000) only [go_sem, c108, r108]
  refine sem_call rfl rfl (((p1).embed [0] rfl (by repeat' first | exact trivial | rfl | (simp only [go_sem]; done) | constructor) rfl (by first | rfl | simp only [go_sem]) rfl (by simp)).mono ?_)
  rintro _ _ ⟨_, _, ⟨rfl, rfl⟩, rfl, rfl⟩
  refine run_ok 4000 _ _ _ _ ?_
  simp (maxSteps := 10000000) only [go_sem]
  refine sem_call rfl rfl (((p2).embed [0] rfl (by repeat' first | exact trivial | rfl | (simp only [go_sem]; done) | constructor) rfl (by first | rfl | simp only [go_sem]) rfl (by simp)).mono ?_)
  rintro _ _ ⟨_, _, ⟨rfl, rfl⟩, rfl, rfl⟩
  refine run_ok 4000 _ _ _ _ ?_
  simp (maxSteps := 10000000) only [go_sem]
  refine sem_call rfl rfl (((p3).embed [0] rfl (by repeat' first | exact trivial | rfl | (simp only [go_sem]; done) | constructor) rfl (by first | rfl | simp only [go_sem]) rfl (by simp)).mono ?_)
  rintro _ _ ⟨_, _, ⟨rfl, rfl⟩, rfl, rfl⟩
  refine run_ok 4000 _ _ _ _ ?_
  simp (maxSteps := 10000000) only [go_sem]
  refine sem_nilbox 2 2 1 rfl rfl ?_
  simp (maxSteps := 10000000) only [go_sem]
  refine sem_rounds (fun i : Nat => i ≤ vs.length) (fun i => [(0, .pbox 0 0), (2, .pbox 1 0), (3, .pbox 2 0), (4, .int .i64 ((vs.length - i : Nat) : Int))])
    (fun i => [.box [.str (((vs.drop i).map fun x => numB (posN x)).flatten ++ r), .int .i64 0], .box [.int .i64 0, .int .i64 0, .nilsl], .box [.int .i64 k, .int .i64 p, .sl 3 0 i i false], .row 1 (iv .i64 (vs.take i))]) (fun i => vs.length - i) 0 [0, 1, 2, 3] (Nat.zero_le _) ?_ ?_
  · simp [Emb, go_sem, iv]
  intro i hi
  have hfl : (vs.take i).length = i := by rw [List.length_take]; omega
  have hfa := r_iv_all (vs.take i)
  rw [hfl] at hfa
  by_cases c : i < vs.length
  · have hin : ((vs.length - i : Nat) : Int) > 0 := by omega
    have w1 := dec64 c (by omega)
    have hd := flat_drop (fun x => numB (posN x)) c
    have hnx : iv .i64 (vs.take (i + 1)) = iv .i64 (vs.take i) ++ iv .i64 [vs[i]] := by rw [List.take_succ_eq_append_getElem c, r_iv_app]
    have hok := hv _ (List.getElem_mem c)
    have hsm : small (i + 1) := by unfold small; omega
    generalize vs[i] = x at *
    rw [hd, List.append_assoc]
    generalize hD : ((vs.drop (i + 1)).map fun x => numB (posN x)).flatten = D at *
    generalize hN : vs.length - (i + 1) = N1 at *
    generalize ((vs.length - i : Nat) : Int) = N0 at *
    have q1 := icnt_spec x 31 hok (by omega) (D ++ r)
    have pe := err_spec (numB (posN x) ++ (D ++ r)) 0
    unfold inM at q1 pe
    skip
    refine run_ok 4000 _ _ _ _ ?_
    simp (maxSteps := 10000000) only [go_sem, hin, w1, hsm, iv_len, hfl, Int.natCast_nonneg, Nat.le_refl]
    refine sem_call rfl rfl (((pe).embed [0] rfl (by repeat' first | exact trivial | rfl | (simp only [go_sem]; done) | constructor) rfl (by first | rfl | simp only [go_sem]) rfl (by simp)).mono ?_)
    rintro _ _ ⟨_, _, ⟨rfl, rfl⟩, rfl, rfl⟩
    refine run_ok 4000 _ _ _ _ ?_
    simp (maxSteps := 10000000) only [go_sem, hin, w1, hsm, iv_len, hfl, Int.natCast_nonneg, Nat.le_refl]
    refine sem_drawG l108_0_ok (by kernel_rfl) ?_
    intro KK hKK
    simp (maxSteps := 10000000) only [go_sem, l108_0, hin, w1, hsm, iv_len, hfl, Int.natCast_nonneg, Nat.le_refl]
    refine TriZ.of (((q1).embed [0] rfl (by repeat' first | exact trivial | rfl | (simp only [go_sem]; done) | constructor) rfl (by first | rfl | simp only [go_sem]) rfl (by simp)).mono ?_)
    rintro _ _ ⟨_, _, ⟨rfl, rfl⟩, rfl, rfl⟩
    simp (maxSteps := 10000000) only [go_sem, hin, w1, hsm, iv_len, hfl, Int.natCast_nonneg, Nat.le_refl]
    subst hKK
    simp (maxSteps := 10000000) only [go_sem, hin, w1, hsm, iv_len, hfl, Int.natCast_nonneg, Nat.le_refl]
    refine ⟨i + 1, by omega, c, [0, 1, 2, 4], ?_⟩
    simp only [Emb, go_sem, hnx, r_iv_one, r_iv_app, hfa, hD, hN]
  · have hin : ¬ ((vs.length - i : Nat) : Int) > 0 := by omega
    obtain rfl : i = vs.length := by omega
    rw [List.drop_length, List.map_nil, List.flatten_nil, List.nil_append, List.take_length] at *
    have pe := err_spec r 0
    unfold inM at pe
    skip
    refine run_ok 4000 _ _ _ _ ?_
    simp (maxSteps := 10000000) only [go_sem, hin]
    refine run_ok 4000 _ _ _ _ ?_
    simp (maxSteps := 10000000) only [go_sem, hin]
    refine sem_call rfl rfl (((pe).embed [0] rfl (by repeat' first | exact trivial | rfl | (simp only [go_sem]; done) | constructor) rfl (by first | rfl | simp only [go_sem]) rfl (by simp)).mono ?_)
    rintro _ _ ⟨_, _, ⟨rfl, rfl⟩, rfl, rfl⟩
    refine run_ok 4000 _ _ _ _ ?_
    simp (maxSteps := 10000000) only [go_sem, hin]
    refine ⟨_, _, .fz 3 rfl (by simp only [go_sem, iv_len, Nat.le_refl]) (.sub [0] ?_ .done), rfl, rfl⟩
    simp only [EmbV, go_sem, hfa]
theorem recread_spec (turn : Int) (C : List Chg) (t d : Int) (Q : List Ply) (h : RecOk turn C t d Q) (r : List UInt8) :
    Tri Try.prog 71 [.pbox 0 0] (inM (recB turn C t d Q ++ r) 0) (fun v m => v = recV turn C t d Q ∧ m = inM r 0) := by
  refine Tri.post ?_
  have hu := h.u; have hcl := h.c; have hch := h.ch; have ht := h.t; have hd := h.d; have hql := h.q; have hqh := h.qh
  have e1 : recB turn C t d Q ++ r = numB (posN turn) ++ (numB (posN (C.length : Int)) ++ ((C.map chgB).flatten ++ (numB (posN t) ++ (numB (posN d) ++ (numB (posN (Q.length : Int)) ++ ((Q.map plyB).flatten ++ r)))))) := by
    unfold recB; rw [posN_nat, posN_nat]; simp [numsB]
  have p1 := icnt_spec turn 1099511627776 hu (by omega) (numB (posN (C.length : Int)) ++ ((C.map chgB).flatten ++ (numB (posN t) ++ (numB (posN d) ++ (numB (posN (Q.length : Int)) ++ ((Q.map plyB).flatten ++ r))))))
  have p2 := icnt_spec C.length 8 (by omega) (by omega) ((C.map chgB).flatten ++ (numB (posN t) ++ (numB (posN d) ++ (numB (posN (Q.length : Int)) ++ ((Q.map plyB).flatten ++ r)))))
  have p3 := icnt_spec t 64 ht (by omega) (numB (posN d) ++ (numB (posN (Q.length : Int)) ++ ((Q.map plyB).flatten ++ r)))
  have p4 := icnt_spec d 6 hd (by omega) (numB (posN (Q.length : Int)) ++ ((Q.map plyB).flatten ++ r))
  have p5 := icnt_spec Q.length 32 (by omega) (by omega) ((Q.map plyB).flatten ++ r)
  rw [e1]
  have pe3 := err_spec (numB (posN t) ++ (numB (posN d) ++ (numB (posN (Q.length : Int)) ++ ((Q.map plyB).flatten ++ r)))) 0
  generalize hR : numB (posN t) ++ (numB (posN d) ++ (numB (posN (Q.length : Int)) ++ ((Q.map plyB).flatten ++ r))) = R at *
  unfold inM at p1 p2 p3 p4 p5 pe3
  unfold inM recV
  refine (Tri.enter (rl := r71) (code := c71) (by kernel_rfl) Try.func71 rfl c71_ok (by kernel_rfl) (by kernel_rfl) ?_)
  refine run_ok 4000 _ _ _ _ ?_
  simp (maxSteps := 10000000) only [go_sem, c71, r71]
  refine sem_call rfl rfl (((p1).embed [0] rfl (by repeat' first | exact trivial | rfl | (simp only [go_sem]; done) | constructor) rfl (by first | rfl | simp only [go_sem]) rfl (by simp)).mono ?_)
  rintro _ _ ⟨_, _, ⟨rfl, rfl⟩, rfl, rfl⟩
  refine run_ok 4000 _ _ _ _ ?_
  simp (maxSteps := 10000000) only [go_sem]
  refine sem_call rfl rfl (((p2).embed [0] rfl (by repeat' first | exact trivial | rfl | (simp only [go_sem]; done) | constructor) rfl (by first | rfl | simp only [go_sem]) rfl (by simp)).mono ?_)
  rintro _ _ ⟨_, _, ⟨rfl, rfl⟩, rfl, rfl⟩
  refine run_ok 4000 _ _ _ _ ?_
  simp (maxSteps := 10000000) only [go_sem]
  refine sem_nilbox 2 1 3 rfl rfl ?_
  simp (maxSteps := 10000000) only [go_sem]
  refine sem_rounds (fun i : Nat => i ≤ C.length) (fun i => [(0, .pbox 0 0), (2, .pbox 1 0), (3, .pbox 2 0), (4, .int .i64 ((C.length - i : Nat) : Int))])
    (fun i => [.box [.str (((C.drop i).map chgB).flatten ++ R), .int .i64 0], .box [.int .i64 0, .nilsl, .int .i64 0, .int .i64 0, .nilsl], .box [.int .i64 turn, .sl 3 0 i i false, .int .i64 0, .int .i64 0, .nilsl], .row 3 (crows (C.take i))]) (fun i => C.length - i) 0 [0, 1, 2, 3] (Nat.zero_le _) ?_ ?_
  · simp [Emb, go_sem, crows]
  intro i hi
  have hfl : (C.take i).length = i := by rw [List.length_take]; omega
  have hfa := crows_all (C.take i)
  rw [hfl] at hfa
  by_cases c : i < C.length
  · have hin : ((C.length - i : Nat) : Int) > 0 := by omega
    have w1 := dec64 c (by omega)
    have hdr := flat_drop chgB c
    have hnx : crows (C.take (i + 1)) = crows (C.take i) ++ crows [C[i]] := by rw [List.take_succ_eq_append_getElem c, crows_app]
    have hok := hch _ (List.getElem_mem c)
    have hsm : small (i + 1) := by unfold small; omega
    generalize C[i] = x at *
    rw [hdr, List.append_assoc]
    generalize hD : ((C.drop (i + 1)).map chgB).flatten = D at *
    generalize hN : C.length - (i + 1) = N1 at *
    generalize ((C.length - i : Nat) : Int) = N0 at *
    have q1 := cread_spec x hok (D ++ R)
    have pe := err_spec (chgB x ++ (D ++ R)) 0
    obtain ⟨k, p, vs⟩ := x
    unfold crow at q1
    unfold inM at q1 pe
    skip
    refine run_ok 4000 _ _ _ _ ?_
    simp (maxSteps := 10000000) only [go_sem, hin, w1, hsm, crows_len, hfl, Int.natCast_nonneg, Nat.le_refl]
    refine sem_call rfl rfl (((pe).embed [0] rfl (by repeat' first | exact trivial | rfl | (simp only [go_sem]; done) | constructor) rfl (by first | rfl | simp only [go_sem]) rfl (by simp)).mono ?_)
    rintro _ _ ⟨_, _, ⟨rfl, rfl⟩, rfl, rfl⟩
    refine run_ok 4000 _ _ _ _ ?_
    simp (maxSteps := 10000000) only [go_sem, hin, w1, hsm, crows_len, hfl, Int.natCast_nonneg, Nat.le_refl]
    refine sem_drawG l71_0_ok (by kernel_rfl) ?_
    intro KK hKK
    simp (maxSteps := 10000000) only [go_sem, l71_0, hin, w1, hsm, crows_len, hfl, Int.natCast_nonneg, Nat.le_refl]
    refine TriZ.of (((q1).embed [0] rfl (by repeat' first | exact trivial | rfl | (simp only [go_sem]; done) | constructor) rfl (by first | rfl | simp only [go_sem]) rfl (by simp)).mono ?_)
    rintro _ _ ⟨_, _, ⟨rfl, rfl⟩, rfl, rfl⟩
    simp (maxSteps := 10000000) only [go_sem, hin, w1, hsm, crows_len, hfl, Int.natCast_nonneg, Nat.le_refl]
    subst hKK
    simp (maxSteps := 10000000) only [go_sem, hin, w1, hsm, crows_len, hfl, Int.natCast_nonneg, Nat.le_refl]
    refine ⟨i + 1, by omega, c, [0, 1, 2, 4], ?_⟩
    simp only [Emb, go_sem, hnx, crows_one, crows_app, hfa, hD, hN]
  have hin : ¬ ((C.length - i : Nat) : Int) > 0 := by omega
  obtain rfl : i = C.length := by omega
  rw [List.drop_length, List.map_nil, List.flatten_nil, List.nil_append, List.take_length] at *
  skip
  refine run_ok 4000 _ _ _ _ ?_
  simp (maxSteps := 10000000) only [go_sem, hin]
  refine run_ok 4000 _ _ _ _ ?_
  simp (maxSteps := 10000000) only [go_sem, hin]
  refine sem_call rfl rfl (((p3).embed [0] rfl (by repeat' first | exact trivial | rfl | (simp only [go_sem]; done) | constructor) rfl (by first | rfl | simp only [go_sem]) rfl (by simp)).mono ?_)
  rintro _ _ ⟨_, _, ⟨rfl, rfl⟩, rfl, rfl⟩
  refine run_ok 4000 _ _ _ _ ?_
  simp (maxSteps := 10000000) only [go_sem, hin]
  refine sem_call rfl rfl (((p4).embed [0] rfl (by repeat' first | exact trivial | rfl | (simp only [go_sem]; done) | constructor) rfl (by first | rfl | simp only [go_sem]) rfl (by simp)).mono ?_)
  rintro _ _ ⟨_, _, ⟨rfl, rfl⟩, rfl, rfl⟩
  refine run_ok 4000 _ _ _ _ ?_
  simp (maxSteps := 10000000) only [go_sem, hin]
  refine sem_call rfl rfl (((p5).embed [0] rfl (by repeat' first | exact trivial | rfl | (simp only [go_sem]; done) | constructor) rfl (by first | rfl | simp only [go_sem]) rfl (by simp)).mono ?_)
  rintro _ _ ⟨_, _, ⟨rfl, rfl⟩, rfl, rfl⟩
  refine run_ok 4000 _ _ _ _ ?_
  simp (maxSteps := 10000000) only [go_sem, hin]
  refine sem_nilbox 2 4 2 rfl rfl ?_
  simp (maxSteps := 10000000) only [go_sem, hin]
  refine sem_rounds (fun j : Nat => j ≤ Q.length) (fun j => [(0, .pbox 0 0), (2, .pbox 1 0), (3, .pbox 2 0), (5, .int .i64 ((Q.length - j : Nat) : Int))])
    (fun j => [.box [.str (((Q.drop j).map plyB).flatten ++ r), .int .i64 0], .box [.int .i64 0, .nilsl, .int .i64 0, .int .i64 0, .nilsl], .box [.int .i64 turn, .sl 3 0 C.length C.length false, .int .i64 t, .int .i64 d, .sl 4 0 j j false], .row 3 (crows C), .row 2 (pros (Q.take j))]) (fun j => Q.length - j) 0 [0, 1, 2, 3, 4] (Nat.zero_le _) ?_ ?_
  · simp [Emb, go_sem, pros]
  intro j hj
  have hfl2 : (Q.take j).length = j := by rw [List.length_take]; omega
  have hfa2 := pros_all (Q.take j)
  rw [hfl2] at hfa2
  by_cases cj : j < Q.length
  · have hin : ((Q.length - j : Nat) : Int) > 0 := by omega
    have w1 := dec64 cj (by omega)
    have hdr := flat_drop plyB cj
    have hnx : pros (Q.take (j + 1)) = pros (Q.take j) ++ pros [Q[j]] := by rw [List.take_succ_eq_append_getElem cj, pros_app]
    have hok := hqh _ (List.getElem_mem cj)
    have hsm : small (j + 1) := by unfold small; omega
    generalize Q[j] = x at *
    rw [hdr, List.append_assoc]
    generalize hD : ((Q.drop (j + 1)).map plyB).flatten = D at *
    generalize hN : Q.length - (j + 1) = N1 at *
    generalize ((Q.length - j : Nat) : Int) = N0 at *
    obtain ⟨p, L⟩ := x
    have hp := hok.p; have hl := hok.l; have ho := hok.o
    simp only at hp hl ho
    have eo : plyB (p, L) ++ (D ++ r) = numB (posN p) ++ (batB L ++ (D ++ r)) := by unfold plyB; simp [numsB]
    rw [eo]
    have pe := err_spec (numB (posN p) ++ (batB L ++ (D ++ r))) 0
    have q1 := icnt_spec p 31 hp (by omega) (batB L ++ (D ++ r))
    have q2 := oread_spec L hl ho (D ++ r)
    unfold inM at q1 q2 pe
    skip
    refine run_ok 4000 _ _ _ _ ?_
    simp (maxSteps := 10000000) only [go_sem, hin, w1, hsm, pros_len, hfl2, Int.natCast_nonneg, Nat.le_refl]
    refine sem_call rfl rfl (((pe).embed [0] rfl (by repeat' first | exact trivial | rfl | (simp only [go_sem]; done) | constructor) rfl (by first | rfl | simp only [go_sem]) rfl (by simp)).mono ?_)
    rintro _ _ ⟨_, _, ⟨rfl, rfl⟩, rfl, rfl⟩
    refine run_ok 4000 _ _ _ _ ?_
    simp (maxSteps := 10000000) only [go_sem, hin, w1, hsm, pros_len, hfl2, Int.natCast_nonneg, Nat.le_refl]
    refine sem_drawG l71_1_ok (by kernel_rfl) ?_
    intro KK hKK
    simp (maxSteps := 10000000) only [go_sem, l71_1, hin, w1, hsm, pros_len, hfl2, Int.natCast_nonneg, Nat.le_refl]
    refine TriZ.of (((q1).embed [0] rfl (by repeat' first | exact trivial | rfl | (simp only [go_sem]; done) | constructor) rfl (by first | rfl | simp only [go_sem]) rfl (by simp)).mono ?_)
    rintro _ _ ⟨_, _, ⟨rfl, rfl⟩, rfl, rfl⟩
    simp (maxSteps := 10000000) only [go_sem, hin, w1, hsm, pros_len, hfl2, Int.natCast_nonneg, Nat.le_refl]
    refine TriZ.of (((q2).embed [0] rfl (by repeat' first | exact trivial | rfl | (simp only [go_sem]; done) | constructor) rfl (by first | rfl | simp only [go_sem]) rfl (by simp)).mono ?_)
    rintro _ _ ⟨_, _, ⟨rfl, rfl⟩, rfl, rfl⟩
    simp (maxSteps := 10000000) only [go_sem, hin, w1, hsm, pros_len, hfl2, Int.natCast_nonneg, Nat.le_refl]
    subst hKK
    simp (maxSteps := 10000000) only [go_sem, hin, w1, hsm, pros_len, hfl2, Int.natCast_nonneg, Nat.le_refl]
    refine ⟨j + 1, by omega, cj, [0, 1, 2, 3, 5], ?_⟩
    simp only [Emb, go_sem, hnx, pros_one, pros_app, hfa2, hD, hN]
  · have hin : ¬ ((Q.length - j : Nat) : Int) > 0 := by omega
    obtain rfl : j = Q.length := by omega
    rw [List.drop_length, List.map_nil, List.flatten_nil, List.nil_append, List.take_length] at *
    have pe := err_spec r 0
    unfold inM at pe
    skip
    refine run_ok 4000 _ _ _ _ ?_
    simp (maxSteps := 10000000) only [go_sem, hin]
    refine run_ok 4000 _ _ _ _ ?_
    simp (maxSteps := 10000000) only [go_sem, hin]
    refine sem_call rfl rfl (((pe).embed [0] rfl (by repeat' first | exact trivial | rfl | (simp only [go_sem]; done) | constructor) rfl (by first | rfl | simp only [go_sem]) rfl (by simp)).mono ?_)
    rintro _ _ ⟨_, _, ⟨rfl, rfl⟩, rfl, rfl⟩
    refine run_ok 4000 _ _ _ _ ?_
    simp (maxSteps := 10000000) only [go_sem, hin]
    refine ⟨_, _, .fz 3 rfl (by simp only [go_sem, crows_len, Nat.le_refl]) (.fz 4 rfl (by simp only [go_sem, pros_len, Nat.le_refl]) (.sub [0] ?_ .done)), rfl, rfl⟩
    simp only [EmbV, go_sem, hfa, hfa2]
end Go.AEX
