/- DIx, DIy, DIz. -/
import Derived.Test.YthdkobfafncpcaaDoorDPm
import Derived.Test.YthdkobfafncpcaaDoorDFr
/- Door seat: law19.Is: a box is the reference's: the draws of a round. -/
namespace Go.AEX
open Go Go.AE Go.Proofs
set_option maxRecDepth 100000
set_option linter.unusedVariables false
set_option linter.unusedSimpArgs false

theorem idsM_front {A ex : Mem} (hA : idsM A.length A = true) (he : idsM (A ++ ex).length ex = true) : idsM (A ++ ex).length (A ++ ex) = true := by
  rw [idsM_appE, he, idsM_mono (by simp) hA]; rfl
abbrev xBox (R : List Int) (ep : Int) (Open : List Int) (L : List Wd) : Blk := .box [.vsl 1 (iv .i64 R) false, .int .i64 ep, .vsl 1 (iv .i64 Open) false, .vsl 3 (wrows L) false]
theorem is19_d1 {A : Mem} (hA : idsM A.length A = true) (R : List Int) (ep : Int) (Open : List Int) (L : List Wd) (Y : List Int) (p : Int) (o W lo : Bool) (cb : List AV) (hcb : idss 0 cb = true)
    (hOpen : Tri Tryd.prog 25 [.pbox 0 0, .int .i64 p] (A ++ [xBox R ep Open L, .box cb]) (fun v m => v = .bool o ∧ m = A ++ [xBox R ep Open L, .box cb]))
    (hYes : Tri Tryd.prog 38 [.pbox 0 0, .int .i64 p] (A ++ [xBox R ep Open L, .box cb]) (fun v m => v = .vsl 1 (iv .i64 Y) false ∧ m = A ++ [xBox R ep Open L, .box cb]))
    (hLost : Tri Tryd.prog 39 [.pbox 0 0, .int .i64 p] (A ++ [xBox R ep Open L, .box cb]) (fun v m => v = .bsym lo ∧ m = A ++ [xBox R ep Open L, .box cb]))
    (hris : Tri Tryd.prog 12 [.vsl 1 (iv .i64 Open) false, .int .i64 p] [] (fun v m => v = .bool o ∧ m = []))
    (hSame : Tri Tryd.prog 37 [.vsl 1 (iv .i64 Y) false, .vsl 1 (iv .i64 Y) false] [] (fun v m => v = .int .i64 0 ∧ m = []))
    (hrlost : Tri Tryd.prog 40 [rbox R ep Open L, .int .i64 p] [] (fun v m => v = .bsym lo ∧ m = []))
    {k0 : Nat} (hk : k0 ≤ A.length) {k : List C} {Q : Exit → Tr → Mem → Prop}
    (h : SemW Tryd.prog Tryd.f21.ntmps k0 k (mkP [(0, .pbox 0 0), (3, .pbox A.length 0), (5, .int .i64 p), (6, .vsl 1 (iv .i64 Y) false), (7, .pbox (A.length + 1) 0), (8, .bool W), (78, .bsym false)]) (A ++ [xBox R ep Open L, .box cb]) Q) :
    SemW Tryd.prog Tryd.f21.ntmps k0 (.draw d21_1 :: k) (mkP [(0, .pbox 0 0), (3, .pbox A.length 0), (5, .int .i64 p), (6, .vsl 1 (iv .i64 Y) false), (7, .pbox (A.length + 1) 0), (8, .bool W), (9, .bool W)]) (A ++ [xBox R ep Open L, .box cb]) Q := by
  have h1 := fun x ex => mg_app0 A (x :: ex)
  have h2 := fun x ex j => mg_app A (x :: ex) j
  have h5 := app_len A
  have e1 : (o == o) = true := beq_self_eq_true o
  have e2 : (W == W) = true := beq_self_eq_true W
  have e3 : (lo == lo) = true := beq_self_eq_true lo
  skip
  simp (maxSteps := 10000000) only [go_sem, h1, h2, h5, e1, e2, e3, beq_self_eq_true]
  refine sem_drawS l21_1_ok (by kernel_rfl) ?_
  intro KK hKK
  simp (maxSteps := 10000000) only [go_sem, l21_1, h1, h2, h5, e1, e2, e3, beq_self_eq_true]
  refine TriZ.of (hOpen.mono ?_)
  rintro _ _ ⟨rfl, rfl⟩
  simp (maxSteps := 10000000) only [go_sem, h1, h2, h5, e1, e2, e3, beq_self_eq_true]
  refine TriZ.of (((hris).embed [] rfl (by repeat' first | exact trivial | rfl | (simp only [go_sem]; done) | constructor) rfl (by first | rfl | simp only [go_sem]) rfl (by simp)).mono ?_)
  rintro _ _ ⟨_, _, ⟨rfl, rfl⟩, rfl, rfl⟩
  simp (maxSteps := 10000000) only [go_sem, h1, h2, h5, e1, e2, e3, beq_self_eq_true]
  refine TriZ.of (hYes.mono ?_)
  rintro _ _ ⟨rfl, rfl⟩
  simp (maxSteps := 10000000) only [go_sem, h1, h2, h5, e1, e2, e3, beq_self_eq_true]
  refine TriZ.of (((hSame).embed [] rfl (by repeat' first | exact trivial | rfl | (simp only [go_sem]; done) | constructor) rfl (by first | rfl | simp only [go_sem]) rfl (by simp)).mono ?_)
  rintro _ _ ⟨_, _, ⟨rfl, rfl⟩, rfl, rfl⟩
  simp (maxSteps := 10000000) only [go_sem, h1, h2, h5, e1, e2, e3, beq_self_eq_true]
  refine TriZ.of (hLost.mono ?_)
  rintro _ _ ⟨rfl, rfl⟩
  simp (maxSteps := 10000000) only [go_sem, h1, h2, h5, e1, e2, e3, beq_self_eq_true]
  refine TriZ.of (((hrlost).embed [] rfl (by repeat' first | exact trivial | rfl | (simp only [go_sem]; done) | constructor) rfl (by first | rfl | simp only [go_sem]) rfl (by simp)).mono ?_)
  rintro _ _ ⟨_, _, ⟨rfl, rfl⟩, rfl, rfl⟩
  simp (maxSteps := 10000000) only [go_sem, h1, h2, h5, e1, e2, e3, beq_self_eq_true]
  subst hKK
  refine (show SemW _ _ _ _ _ _ _ from ?_)
  refine sem_sub0 _ (idsM_front hA (by simp only [idsM, idsB, idss, ids, Bool.and_true, Bool.true_and]; exact idss_mono (Nat.zero_le _) hcb)) (by simp; omega) (by simp [idsT, ids]) ?_ h
  simp only [go_sem]
end Go.AEX

/- Door seat: law19.Is: a box is the reference's. -/
namespace Go.AEX
open Go Go.AE Go.Proofs
set_option maxRecDepth 100000
set_option linter.unusedVariables false
set_option linter.unusedSimpArgs false

theorem is19_d2 {A : Mem} (hA : idsM A.length A = true) (S : Nat) (ep : Int) (R : List Int) (Open : List Int) (L : List Wd) (Y : List Int) (p : Int)
    (hRos : Tri Tryd.prog 16 [.pbox 0 0] (A ++ [xBox R ep Open L, .box [.int .i64 3, .int .i64 p, .vsl 1 (iv .i64 Y) false]]) (fun v m => v = ros S ep ∧ m = A ++ [xBox R ep Open L, .box [.int .i64 3, .int .i64 p, .vsl 1 (iv .i64 Y) false]]))
    (hLost : Tri Tryd.prog 39 [.pbox 0 0, .int .i64 p] (A ++ [xBox R ep Open L, .box [.int .i64 3, .int .i64 p, .vsl 1 (iv .i64 Y) false]]) (fun v m => v = .bsym false ∧ m = A ++ [xBox R ep Open L, .box [.int .i64 3, .int .i64 p, .vsl 1 (iv .i64 Y) false]]))
    (hSame : Tri Tryd.prog 37 [.vsl 1 (iv .i64 Y) false, .vsl 1 (iv .i64 Y) false] [] (fun v m => v = .int .i64 0 ∧ m = []))
    (hChk : Tri Tryd.prog 26 [ros S ep, .agg [.int .i64 3, .int .i64 p, .vsl 1 (iv .i64 Y) false]] [] (fun v m => v = .int .i64 0 ∧ m = []))
    {k0 : Nat} (hk : k0 ≤ A.length) {k : List C} {Q : Exit → Tr → Mem → Prop}
    (h : SemW Tryd.prog Tryd.f21.ntmps k0 k (mkP [(0, .pbox 0 0), (3, .pbox A.length 0), (5, .int .i64 p), (109, .bsym false)]) (A ++ [xBox R ep Open L, .box [.int .i64 3, .int .i64 p, .vsl 1 (iv .i64 Y) false]]) Q) :
    SemW Tryd.prog Tryd.f21.ntmps k0 (.draw d21_2 :: k) (mkP [(0, .pbox 0 0), (3, .pbox A.length 0), (5, .int .i64 p), (6, .vsl 1 (iv .i64 Y) false), (7, .pbox (A.length + 1) 0), (8, .bool true)]) (A ++ [xBox R ep Open L, .box [.int .i64 3, .int .i64 p, .vsl 1 (iv .i64 Y) false]]) Q := by
  have h1 := fun x ex => mg_app0 A (x :: ex)
  have h2 := fun x ex j => mg_app A (x :: ex) j
  have h5 := app_len A
  have e1 : (p != p) = false := by simp
  skip
  simp (maxSteps := 10000000) only [go_sem, h1, h2, h5, e1, beq_self_eq_true]
  refine sem_drawS l21_2_ok (by kernel_rfl) ?_
  intro KK hKK
  simp (maxSteps := 10000000) only [go_sem, l21_2, h1, h2, h5, e1, beq_self_eq_true]
  refine TriZ.of (((hSame).embed [] rfl (by repeat' first | exact trivial | rfl | (simp only [go_sem]; done) | constructor) rfl (by first | rfl | simp only [go_sem]) rfl (by simp)).mono ?_)
  rintro _ _ ⟨_, _, ⟨rfl, rfl⟩, rfl, rfl⟩
  simp (maxSteps := 10000000) only [go_sem, h1, h2, h5, e1, beq_self_eq_true]
  refine TriZ.of (hRos.mono ?_)
  rintro _ _ ⟨rfl, rfl⟩
  simp (maxSteps := 10000000) only [go_sem, h1, h2, h5, e1, beq_self_eq_true]
  refine TriZ.of (((hChk).embed [] rfl (by repeat' first | exact trivial | rfl | (simp only [go_sem]; done) | constructor) rfl (by first | rfl | simp only [go_sem]) rfl (by simp)).mono ?_)
  rintro _ _ ⟨_, _, ⟨rfl, rfl⟩, rfl, rfl⟩
  simp (maxSteps := 10000000) only [go_sem, h1, h2, h5, e1, beq_self_eq_true]
  refine TriZ.of (hLost.mono ?_)
  rintro _ _ ⟨rfl, rfl⟩
  simp (maxSteps := 10000000) only [go_sem, h1, h2, h5, e1, beq_self_eq_true]
  subst hKK
  refine (show SemW _ _ _ _ _ _ _ from ?_)
  refine sem_sub0 _ (idsM_front hA (by simp only [idsM, idsB, idss, ids, Bool.and_true, Bool.true_and])) (by simp; omega) (by simp [idsT, ids]) ?_ h
  simp only [go_sem]
end Go.AEX

/- Door seat: law19.Is, whole. -/
namespace Go.AEX
open Go Go.AE Go.Proofs
set_option maxRecDepth 100000
set_option linter.unusedVariables false
set_option linter.unusedSimpArgs false

theorem is19_spec (S : Nat) (hS : S < 4294967296) (ep : Int) {O : Outr} {F : List Vts} {Open : List Int} {L : List Wd} (hI : VI S Open L) (hF : VF O F Open L) (hOl : Open.length ≤ 1000) (hL : L.length ≤ 1000) :
    Tri Tryd.prog 21 [.pbox 0 0, rbox (allN S 32) ep Open L] (bM S ep O F) (fun v m => v = .int .i64 0 ∧ m = bM S ep O F) := by
  refine Tri.post ?_
  have hid := bM_ids S ep O F hF.okO
  have hg := bM_gone S ep O F
  have hAll : ∀ ex, Tri Tryd.prog 33 [.pbox 0 0] (bM S ep O F ++ ex) (fun v m => v = .vsl 1 (iv .i64 (sortI Open)) false ∧ m = bM S ep O F ++ ex) := fun ex => (vall_spec ep hI hF).front ex rfl hid hg rfl hid rfl
  have hRos : ∀ ex, Tri Tryd.prog 16 [.pbox 0 0] (bM S ep O F ++ ex) (fun v m => v = ros S ep ∧ m = bM S ep O F ++ ex) := fun ex => (bros_spec S ep O F hF.okO).front ex rfl hid hg rfl hid rfl
  have hOpen : ∀ (p : Int) ex, Tri Tryd.prog 25 [.pbox 0 0, .int .i64 p] (bM S ep O F ++ ex) (fun v m => v = .bool (decide (p ∈ Open)) ∧ m = bM S ep O F ++ ex) := fun p ex => (vopen_spec (S := S) ep hF p).front ex rfl hid hg rfl hid rfl
  have hYes : ∀ (p : Int) ex, Tri Tryd.prog 38 [.pbox 0 0, .int .i64 p] (bM S ep O F ++ ex) (fun v m => v = .vsl 1 (iv .i64 (refC L p true 32)) false ∧ m = bM S ep O F ++ ex) := fun p ex => (vyes_spec ep hI hF p).front ex rfl hid hg rfl hid rfl
  have hLost : ∀ (p : Int) ex, Tri Tryd.prog 39 [.pbox 0 0, .int .i64 p] (bM S ep O F ++ ex) (fun v m => v = .bsym (lostV S Open L p) ∧ m = bM S ep O F ++ ex) := fun p ex => (vlost_spec hS ep hI hF p).front ex rfl hid hg rfl hid rfl
  have hWonY : ∀ (p : Int) ex, wonV S Open L p = true → Tri Tryd.prog 22 [.pbox 0 0, .int .i64 p] (bM S ep O F ++ ex) (fun v m => v = .tup [.agg [.int .i64 3, .int .i64 p, .vsl 1 (iv .i64 (refC L p true 32)) false], .bool true] ∧ m = bM S ep O F ++ ex) := fun p ex h => (vwon_yes hS ep hI hF p h).front ex rfl hid hg rfl hid rfl
  have hWonN : ∀ (p : Int) ex, wonV S Open L p = false → Tri Tryd.prog 22 [.pbox 0 0, .int .i64 p] (bM S ep O F ++ ex) (fun v m => v = .tup [.agg [.int .i64 0, .int .i64 0, .nilsl], .bool false] ∧ m = bM S ep O F ++ ex) := fun p ex h => (vwon_no hS ep hI hF p h).front ex rfl hid hg rfl hid rfl
  have hlen : (iv .i64 (sortI Open)).length = Open.length := by rw [iv_len]; exact List.length_mergeSort _
  have his := is_spec S hS ep
  have hChk : ∀ p, wonV S Open L p = true → Tri Tryd.prog 26 [ros S ep, .agg [.int .i64 3, .int .i64 p, .vsl 1 (iv .i64 (refC L p true 32)) false]] [] (fun v m => v = .int .i64 0 ∧ m = []) := fun p h => by
    have hcl : (refC L p true 32).length ≤ 32 := by
      rw [refC_cnt hI]; exact (cntV_ok (hI.vok p) true).2.2
    have := check_spec S hS ep 3 p (refC L p true 32) (by omega)
    rwa [wonV_chk hI h] at this
  have hwl : ∀ p, wonV S Open L p = true → lostV S Open L p = false := fun p h => wonV_lost hI h
  have hcl : ∀ p, (refC L p true 32).length ≤ 32 := fun p => by
      rw [refC_cnt hI]; exact (cntV_ok (hI.vok p) true).2.2
  have hcnt := fun p => rcount_spec (allN S 32) ep Open L hL p true
  have hrlost : ∀ p, Tri Tryd.prog 40 [rbox (allN S 32) ep Open L, .int .i64 p] [] (fun v m => v = .bsym (lostV S Open L p) ∧ m = []) := fun p => rlost_spec S ep Open hOl L hL p
  have hmost := fun p => rmost_spec S false ep p (refC L p true 32) false (by have := hcl p; omega)
  have hris := fun p => ris_spec Open false (by omega) p
  generalize bM S ep O F = A at *
  generalize hR : allN S 32 = R at *
  have h1 := fun x ex => mg_app0 A (x :: ex)
  have h2 := fun x ex j => mg_app A (x :: ex) j
  have h3 := fun x ex y => ms_app0 A (x :: ex) y
  have h4 := fun x ex j y => ms_app A (x :: ex) j y
  have h5 := app_len A
  have hb : ((Open.length : Int) != (Open.length : Int)) = false := by simp
  skip
  refine (Tri.enter (rl := r21) (code := c21) (by kernel_rfl) Tryd.func21 rfl c21_ok (by kernel_rfl) (by kernel_rfl) ?_)
  refine run_ok 4000 _ _ _ _ ?_
  simp (maxSteps := 10000000) only [go_sem, c21, r21, h1, h2, h3, h4, h5, hlen, iv_len, hb, List.append_assoc, List.cons_append, List.nil_append]
  refine sem_drawG l21_0_ok (by kernel_rfl) ?_
  intro KK hKK
  simp (maxSteps := 10000000) only [go_sem, l21_0, h1, h2, h3, h4, h5, hlen, iv_len, hb, List.append_assoc, List.cons_append, List.nil_append]
  refine TriZ.of ((hAll _).mono ?_)
  rintro _ _ ⟨rfl, rfl⟩
  simp (maxSteps := 10000000) only [go_sem, h1, h2, h3, h4, h5, hlen, iv_len, hb, List.append_assoc, List.cons_append, List.nil_append]
  refine TriZ.of ((hRos _).mono ?_)
  rintro _ _ ⟨rfl, rfl⟩
  simp (maxSteps := 10000000) only [go_sem, h1, h2, h3, h4, h5, hlen, iv_len, hb, List.append_assoc, List.cons_append, List.nil_append]
  refine TriZ.of (((his).embed [] rfl (by repeat' first | exact trivial | rfl | (simp only [go_sem]; done) | constructor) rfl (by first | rfl | simp only [go_sem]) rfl (by simp)).mono ?_)
  rintro _ _ ⟨_, _, ⟨rfl, rfl⟩, rfl, rfl⟩
  simp (maxSteps := 10000000) only [go_sem, h1, h2, h3, h4, h5, hlen, iv_len, hb, List.append_assoc, List.cons_append, List.nil_append]
  subst hKK
  simp (maxSteps := 10000000) only [go_sem, h1, h2, h3, h4, h5, hlen, iv_len, hb, List.append_assoc, List.cons_append, List.nil_append]
  have hnx : ∀ x : Nat, x < 100 → iwrap .i64 ((x : Int) - 1 + 1) = ((x + 1 : Nat) : Int) - 1 := fun x hx => by rw [iwrap_i64_in (by omega)]; omega
  refine sem_roundsJ (fun x : Nat => x ≤ 10) (fun x => [(0, .pbox 0 0), (3, .pbox A.length 0), (5, .int .i64 ((x : Int) - 1))]) (fun x => A ++ [xBox R ep Open L]) (fun x => 10 - x) 0
    (fun _ _ => idsM_front hid (by simp only [idsM, idsB, idss, ids, Bool.and_true, Bool.true_and])) (fun _ _ => by simp) (fun x _ => by simp [idsT, ids]) (Nat.zero_le _) (by simp only [go_sem]) ?_
  intro x hx
  by_cases c : x < 10
  · have hin : (x : Int) - 1 < 9 := by omega
    have w1 := hnx x (by omega)
    generalize hP : (x : Int) - 1 = p at *
    replace hcnt := hcnt p
    replace hmost := hmost p
    replace hris := hris p
    replace hrlost := hrlost p
    replace hcl := hcl p
    have hsame := lsame_spec (refC L p true 32) (by omega) false false
    have hOpen := hOpen p
    have hYes := hYes p
    have hLost := hLost p
    skip
    refine run_ok 4000 _ _ _ _ ?_
    simp (maxSteps := 10000000) only [go_sem, hin, w1, h1, h2, h3, h4, h5, iv_len, List.append_assoc, List.cons_append, List.nil_append]
    refine sem_call rfl rfl (((hcnt).embed [] rfl trivial rfl rfl rfl (by simp)).mono ?_)
    rintro _ _ ⟨_, _, ⟨rfl, rfl⟩, rfl, rfl⟩
    refine run_ok 4000 _ _ _ _ ?_
    simp (maxSteps := 10000000) only [go_sem, hin, w1, h1, h2, h3, h4, h5, iv_len, List.append_assoc, List.cons_append, List.nil_append]
    cases hW : wonV S Open L p with
    | true =>
      have hWon := hWonY p [xBox R ep Open L] hW
      have hck := hChk p hW
      have hlo := hwl p hW
      have hW' := hW
      unfold wonV at hW'
      rw [Bool.and_eq_true] at hW'
      rw [hW'.1] at hOpen hris
      rw [hW'.2] at hmost
      rw [hlo] at hLost hrlost
      generalize refC L p true 32 = Y at *
      refine sem_call rfl rfl (hWon.mono ?_)
      rintro _ _ ⟨rfl, rfl⟩
      refine run_ok 4000 _ _ _ _ ?_
      simp (maxSteps := 10000000) only [go_sem, hin, w1, h1, h2, h3, h4, h5, iv_len, List.append_assoc, List.cons_append, List.nil_append]
      refine sem_call rfl rfl (((hris).embed [] rfl trivial rfl rfl rfl (by simp)).mono ?_)
      rintro _ _ ⟨_, _, ⟨rfl, rfl⟩, rfl, rfl⟩
      refine run_ok 4000 _ _ _ _ ?_
      simp (maxSteps := 10000000) only [go_sem, hin, w1, h1, h2, h3, h4, h5, iv_len, List.append_assoc, List.cons_append, List.nil_append]
      refine sem_call rfl rfl (((hmost).embed [] rfl trivial rfl rfl rfl (by simp)).mono ?_)
      rintro _ _ ⟨_, _, ⟨rfl, rfl⟩, rfl, rfl⟩
      refine run_ok 4000 _ _ _ _ ?_
      simp (maxSteps := 10000000) only [go_sem, hin, w1, h1, h2, h3, h4, h5, iv_len, List.append_assoc, List.cons_append, List.nil_append]
      refine sem_like 9 (.bool true) rfl (Like.bool _) ?_
      simp (maxSteps := 10000000) only [go_sem, hin, w1, h1, h2, h3, h4, h5, iv_len, List.append_assoc, List.cons_append, List.nil_append]
      refine sem_sub0 [(0, .pbox 0 0), (3, .pbox A.length 0), (5, .int .i64 p), (6, .vsl 1 (iv .i64 Y) false), (7, .pbox (A.length + 1) 0), (8, .bool true), (9, .bool true)] (idsM_front hid (by simp only [idsM, idsB, idss, ids, Bool.and_true, Bool.true_and])) (by simp) (by simp [idsT, ids]) (by simp only [go_sem]) ?_
      refine is19_d1 hid R ep Open L Y p true true false _ rfl (hOpen _) (hYes _) (hLost _) hris hsame hrlost (by omega) ?_
      refine run_ok 4000 _ _ _ _ ?_
      simp (maxSteps := 10000000) only [go_sem, hin, w1, h1, h2, h3, h4, h5, iv_len, List.append_assoc, List.cons_append, List.nil_append]
      refine sem_sub0 [(0, .pbox 0 0), (3, .pbox A.length 0), (5, .int .i64 p), (6, .vsl 1 (iv .i64 Y) false), (7, .pbox (A.length + 1) 0), (8, .bool true)] (idsM_front hid (by simp only [idsM, idsB, idss, ids, Bool.and_true, Bool.true_and])) (by simp) (by simp [idsT, ids]) (by simp only [go_sem]) ?_
      refine is19_d2 hid S ep R Open L Y p (hRos _) (hLost _) hsame hck (by omega) ?_
      refine run_ok 4000 _ _ _ _ ?_
      simp (maxSteps := 10000000) only [go_sem, hin, w1, h1, h2, h3, h4, h5, iv_len, List.append_assoc, List.cons_append, List.nil_append]
      refine ⟨x + 1, by omega, c, ?_⟩
      simp
    | false =>
      have hWon := hWonN p [xBox R ep Open L] hW
      have hW' := hW
      unfold wonV at hW'
      generalize lostV S Open L p = lo at *
      by_cases ho : p ∈ Open
      · rw [decide_eq_true ho] at hOpen hris hW'
        rw [Bool.true_and] at hW'
        rw [hW'] at hmost
        generalize refC L p true 32 = Y at *
        refine sem_call rfl rfl (hWon.mono ?_)
        rintro _ _ ⟨rfl, rfl⟩
        refine run_ok 4000 _ _ _ _ ?_
        simp (maxSteps := 10000000) only [go_sem, hin, w1, h1, h2, h3, h4, h5, iv_len, List.append_assoc, List.cons_append, List.nil_append]
        refine sem_call rfl rfl (((hris).embed [] rfl trivial rfl rfl rfl (by simp)).mono ?_)
        rintro _ _ ⟨_, _, ⟨rfl, rfl⟩, rfl, rfl⟩
        refine run_ok 4000 _ _ _ _ ?_
        simp (maxSteps := 10000000) only [go_sem, hin, w1, h1, h2, h3, h4, h5, iv_len, List.append_assoc, List.cons_append, List.nil_append]
        refine sem_call rfl rfl (((hmost).embed [] rfl trivial rfl rfl rfl (by simp)).mono ?_)
        rintro _ _ ⟨_, _, ⟨rfl, rfl⟩, rfl, rfl⟩
        refine run_ok 4000 _ _ _ _ ?_
        simp (maxSteps := 10000000) only [go_sem, hin, w1, h1, h2, h3, h4, h5, iv_len, List.append_assoc, List.cons_append, List.nil_append]
        refine sem_like 9 (.bool false) rfl (Like.bool _) ?_
        simp (maxSteps := 10000000) only [go_sem, hin, w1, h1, h2, h3, h4, h5, iv_len, List.append_assoc, List.cons_append, List.nil_append]
        refine sem_sub0 [(0, .pbox 0 0), (3, .pbox A.length 0), (5, .int .i64 p), (6, .vsl 1 (iv .i64 Y) false), (7, .pbox (A.length + 1) 0), (8, .bool false), (9, .bool false)] (idsM_front hid (by simp only [idsM, idsB, idss, ids, Bool.and_true, Bool.true_and])) (by simp) (by simp [idsT, ids]) (by simp only [go_sem]) ?_
        refine is19_d1 hid R ep Open L Y p true false lo _ rfl (hOpen _) (hYes _) (hLost _) hris hsame hrlost (by omega) ?_
        refine run_ok 4000 _ _ _ _ ?_
        simp (maxSteps := 10000000) only [go_sem, hin, w1, h1, h2, h3, h4, h5, iv_len, List.append_assoc, List.cons_append, List.nil_append]
        refine sem_drawG l21_2_ok (by kernel_rfl) ?_
        intro KK hKK
        simp (maxSteps := 10000000) only [go_sem, l21_2, hin, w1, h1, h2, h3, h4, h5, iv_len, List.append_assoc, List.cons_append, List.nil_append]
        subst hKK
        simp (maxSteps := 10000000) only [go_sem, hin, w1, h1, h2, h3, h4, h5, iv_len, List.append_assoc, List.cons_append, List.nil_append]
        refine ⟨x + 1, by omega, c, ?_⟩
        simp
      · rw [decide_eq_false ho] at hOpen hris
        generalize refC L p true 32 = Y at *
        refine sem_call rfl rfl (hWon.mono ?_)
        rintro _ _ ⟨rfl, rfl⟩
        refine run_ok 4000 _ _ _ _ ?_
        simp (maxSteps := 10000000) only [go_sem, hin, w1, h1, h2, h3, h4, h5, iv_len, List.append_assoc, List.cons_append, List.nil_append]
        refine sem_call rfl rfl (((hris).embed [] rfl trivial rfl rfl rfl (by simp)).mono ?_)
        rintro _ _ ⟨_, _, ⟨rfl, rfl⟩, rfl, rfl⟩
        refine run_ok 4000 _ _ _ _ ?_
        simp (maxSteps := 10000000) only [go_sem, hin, w1, h1, h2, h3, h4, h5, iv_len, List.append_assoc, List.cons_append, List.nil_append]
        refine sem_sub0 [(0, .pbox 0 0), (3, .pbox A.length 0), (5, .int .i64 p), (6, .vsl 1 (iv .i64 Y) false), (7, .pbox (A.length + 1) 0), (8, .bool false), (9, .bool false)] (idsM_front hid (by simp only [idsM, idsB, idss, ids, Bool.and_true, Bool.true_and])) (by simp) (by simp [idsT, ids]) (by simp only [go_sem]) ?_
        refine is19_d1 hid R ep Open L Y p false false lo _ rfl (hOpen _) (hYes _) (hLost _) hris hsame hrlost (by omega) ?_
        refine run_ok 4000 _ _ _ _ ?_
        simp (maxSteps := 10000000) only [go_sem, hin, w1, h1, h2, h3, h4, h5, iv_len, List.append_assoc, List.cons_append, List.nil_append]
        refine sem_drawG l21_2_ok (by kernel_rfl) ?_
        intro KK hKK
        simp (maxSteps := 10000000) only [go_sem, l21_2, hin, w1, h1, h2, h3, h4, h5, iv_len, List.append_assoc, List.cons_append, List.nil_append]
        subst hKK
        simp (maxSteps := 10000000) only [go_sem, hin, w1, h1, h2, h3, h4, h5, iv_len, List.append_assoc, List.cons_append, List.nil_append]
        refine ⟨x + 1, by omega, c, ?_⟩
        simp
  · have hin : ¬ (x : Int) - 1 < 9 := by omega
    skip
    refine run_ok 4000 _ _ _ _ ?_
    simp (maxSteps := 10000000) only [go_sem, hin]
    refine run_ok 4000 _ _ _ _ ?_
    simp (maxSteps := 10000000) only [go_sem, hin]
    exact ⟨_, _, post_front _ hid (Nat.le_refl _) rfl .done, rfl, rfl⟩
end Go.AEX
