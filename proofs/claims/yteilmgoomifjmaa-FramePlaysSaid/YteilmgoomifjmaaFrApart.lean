/- Frame: two calls have nothing to do with each other (FrameApart). -/
import Derived.Test.YteilmgoomifjmaaFrCells
namespace Go.AEX
open Go Go.AE Go.Proofs
set_option maxRecDepth 100000
set_option linter.unusedVariables false
set_option linter.unusedSimpArgs false

theorem locs_16 (a : List Int) (h : a.length ≤ 16) : locs 16 a = a ++ List.replicate (16 - a.length) 0 := by
  rw [← locs_eq]
  have : locN 16 = 16 := rfl
  rw [this, List.take_of_length_le h]
/-- A list's first i numbers, each one more. -/
def bumpI (l : List Int) (i : Nat) : List Int := (l.take i).map (fun x => iwrap .i64 (x + 1)) ++ l.drop i
theorem bumpI_len (l : List Int) (i : Nat) : (bumpI l i).length = l.length := by simp [bumpI]; omega
theorem bumpI_get (l : List Int) (i : Nat) (h : i < l.length) : (bumpI l i)[i]'(by rw [bumpI_len]; exact h) = l[i] := by
  unfold bumpI
  rw [List.getElem_append_right (by rw [List.length_map, List.length_take]; omega)]
  simp only [List.getElem_drop, List.length_map, List.length_take]
  congr 1
  omega
theorem bumpI_set (l : List Int) (i : Nat) (h : i < l.length) : (bumpI l i).set i (iwrap .i64 (l[i] + 1)) = bumpI l (i + 1) := by
  unfold bumpI
  rw [List.set_append_right _ _ (by rw [List.length_map, List.length_take]; omega), List.take_succ_eq_append_getElem h, List.map_append, List.length_map, List.length_take, show i - min i l.length = 0 by omega, List.drop_eq_getElem_cons h, List.set_cons_zero, List.append_assoc]
  rfl
theorem make_own (fn : Int) (a : List Int) (ha : a.length ≤ 16) : Tri Try.prog 15 [.int .i64 fn, .int .i64 16, .sl 0 0 a.length a.length false] [.row 1 (iv .i64 a)]
    (fun v m => v = .pbox 1 0 ∧ m = [.row 1 (iv .i64 a), .box [.pbox 2 0, .int .i64 fn, .int .i64 0, .sl 4 0 16 16 false], .box [.sl 3 0 0 0 false], .row 1 [], .row 1 (iv .i64 (locs 16 a))]) := by
  refine Tri.post ?_
  have e2 : (iv .i64 a).take (min a.length 16) ++ (List.replicate 16 [AV.int .i64 0]).drop (min a.length 16) = iv .i64 (locs 16 a) := by
    rw [locs_16 a ha, Nat.min_eq_left ha]
    unfold iv
    rw [List.map_append, List.map_replicate, List.drop_replicate, List.take_of_length_le (by simp)]
  have e0 : (if (16 : Int) > 0 then (16 : Int) else 0) = 16 := rfl
  have e1 : small 16 := by unfold small; decide
  skip
  skip
  refine (Tri.enter (rl := r15) (code := c15) (by kernel_rfl) Try.func15 rfl c15_ok (by kernel_rfl) (by kernel_rfl) ?_)
  refine run_ok 13 _ _ _ _ ?_
  simp (maxSteps := 10000000) only [go_sem, c15, r15, e0, e1, iv_len, ivs_all, Nat.zero_add]
  refine sem_nilbox 2 0 1 rfl rfl ?_
  skip
  refine run_ok 4000 _ _ _ _ ?_
  simp (maxSteps := 10000000) only [go_sem, e0, e1, iv_len, ivs_all, Nat.zero_add]
  rw [e2]
  refine ⟨_, _, .sub [0, 4, 2, 3, 1] ?_ .done, rfl, rfl⟩
  simp only [EmbV, go_sem]
/-- The first i are x. -/
def firstX (l : List Int) (x : Int) (i : Nat) : List Int := List.replicate i x ++ l.drop i
theorem firstX_len (l : List Int) (x : Int) (i : Nat) (h : i ≤ l.length) : (firstX l x i).length = l.length := by simp [firstX]; omega
theorem firstX_set (l : List Int) (x : Int) (i : Nat) (h : i < l.length) : (firstX l x i).set i x = firstX l x (i + 1) := by
  unfold firstX
  rw [List.set_append_right _ _ (by simp), List.length_replicate, Nat.sub_self, List.drop_eq_getElem_cons h, List.set_cons_zero, List.replicate_succ', List.append_assoc]
  rfl
theorem firstX_get (l : List Int) (x : Int) (i : Nat) (h : i < l.length) : (firstX l x i).getD i 0 = l.getD i 0 := by
  unfold firstX
  rw [List.getD_eq_getElem?_getD, List.getElem?_append_right (by simp), List.length_replicate, Nat.sub_self, List.getElem?_drop, List.getD_eq_getElem?_getD, Nat.add_zero]
theorem locs_get (a : List Int) (h : a.length ≤ 16) (i : Nat) (hi : i < a.length) : (locs 16 a).getD i 0 = a[i] := by
  rw [locs_16 a h, List.getD_eq_getElem?_getD, List.getElem?_append_left hi, List.getElem?_eq_getElem hi]; rfl
theorem frameApart_spec (l : List Int) (hw : ∀ n ∈ l, (Lit.int .i64 n).wf = true) (x : Int) (hx : (Lit.int .i64 x).wf = true) :
    Tri Try.prog 5 [.vsl 1 (iv .i64 l) false, .int .i64 x] [] (fun v m => v = .bool true) := by
  skip
  refine (Tri.asB (Tri.enter (rl := r5) (code := c5) (by kernel_rfl) Try.func5 rfl c5_ok (by kernel_rfl) (by kernel_rfl) ?_))
  refine run_ok 4000 _ _ _ _ ?_
  simp (maxSteps := 10000000) only [go_sem, c5, r5, iv_len, iv_sub]
  refine sem_call rfl rfl (((awake06_spec).embed [] rfl trivial rfl rfl rfl (by simp)).mono ?_)
  rintro _ _ ⟨_, _, ⟨rfl, rfl⟩, rfl, rfl⟩
  refine run_ok 4000 _ _ _ _ ?_
  simp (maxSteps := 10000000) only [go_sem, iv_len, iv_sub]
  refine ⟨fun h => ⟨by omega, ?_⟩, fun h => ?_⟩
  · have hA : (l.take 10).length ≤ 10 := by rw [List.length_take]; omega
    generalize l.take 10 = A at *
    refine ⟨by unfold small; omega, ?_⟩
    have hL : (locs 16 A).length = 16 := by simp [locs]; rfl
    have m1 := make_own 1 A (by omega)
    have m2 := make_own 2 A (by omega)
    have p1 := push_spec [] [1, 2] true (by simp)
    unfold stackM stackG at p1
    simp only [List.nil_append, List.length_cons, List.length_nil, Nat.reduceAdd, iv, List.map_cons, List.map_nil] at p1
    skip
    refine run_ok 4000 _ _ _ _ ?_
    simp (maxSteps := 10000000) only [go_sem]
    refine sem_call rfl rfl (((m1).embed [0] rfl (by repeat' first | exact trivial | rfl | (simp only [go_sem]; done) | constructor) rfl (by first | rfl | simp only [go_sem]) rfl (by simp)).mono ?_)
    rintro _ _ ⟨_, _, ⟨rfl, rfl⟩, rfl, rfl⟩
    refine run_ok 4000 _ _ _ _ ?_
    simp (maxSteps := 10000000) only [go_sem]
    refine sem_call rfl rfl (((m2).embed [0] rfl (by repeat' first | exact trivial | rfl | (simp only [go_sem]; done) | constructor) rfl (by first | rfl | simp only [go_sem]) rfl (by simp)).mono ?_)
    rintro _ _ ⟨_, _, ⟨rfl, rfl⟩, rfl, rfl⟩
    refine run_ok 4000 _ _ _ _ ?_
    simp (maxSteps := 10000000) only [go_sem]
    refine sem_call rfl rfl (((p1).embed [2, 3] rfl (by repeat' first | exact trivial | rfl | (simp only [go_sem]; done) | constructor) rfl (by first | rfl | simp only [go_sem]) rfl (by simp)).mono ?_)
    rintro _ _ ⟨_, _, ⟨rfl, rfl⟩, rfl, rfl⟩
    refine run_ok 4000 _ _ _ _ ?_
    simp (maxSteps := 10000000) only [go_sem]
    refine sem_rounds (fun i => i ≤ A.length) (fun i => [(0, .sl 0 0 A.length A.length false), (1, .int .i64 x), (5, .pbox 1 0), (6, .pbox 5 0), (32, .int .i64 A.length), (33, .int .i64 (i : Nat))])
      (fun i => [.row 1 (iv .i64 (bumpI A i)), .box [.pbox 2 0, .int .i64 1, .int .i64 0, .sl 4 0 16 16 false], .box [.sl 3 0 2 2 false], .row 1 [[.int .i64 1], [.int .i64 2]], .row 1 (iv .i64 (firstX (locs 16 A) x i)),
        .box [.pbox 6 0, .int .i64 2, .int .i64 0, .sl 8 0 16 16 false], .box [.sl 7 0 0 0 false], .row 1 [], .row 1 (iv .i64 (locs 16 A))]) (fun i => A.length - i) 0 [0, 1, 2, 9, 4, 5, 6, 7, 8] (by omega) ?_ ?_
    · simp only [Emb, go_sem, bumpI, firstX, List.take_zero, List.map_nil, List.nil_append, List.drop_zero, List.replicate_zero]
    intro i hi
    refine run_ok 4000 _ _ _ _ ?_
    simp (maxSteps := 10000000) only [go_sem]
    refine ⟨fun hlt => ?_, fun hge => ?_⟩
    · have hlt : i < A.length := by omega
      have hb : i < (bumpI A i).length := by rw [bumpI_len]; exact hlt
      have f1 : (i : Int) < (A.length : Int) := by omega
      have hF := firstX_len (locs 16 A) x i (by omega)
      have l1 := local_spec 1 [1, 2] (firstX (locs 16 A) x i) (i : Nat)
      rw [hF, hL, if_pos ⟨by omega, by omega⟩, Int.toNat_natCast, firstX_get _ _ _ (by omega), locs_get A (by omega) i hlt] at l1
      have s1 := setl_spec 1 [1, 2] (firstX (locs 16 A) x i) i (by omega) x
      rw [firstX_set _ _ _ (by omega)] at s1
      have l2 := local_spec 2 [] (locs 16 A) (i : Nat)
      rw [hL, if_pos ⟨by omega, by omega⟩, Int.toNat_natCast, locs_get A (by omega) i hlt] at l2
      have hF2 := firstX_len (locs 16 A) x (i + 1) (by omega)
      have hrp : rput (iv .i64 (bumpI A i)) i 0 [.int .i64 (iwrap .i64 (A[i] + 1))] = iv .i64 (bumpI A (i + 1)) := by
        rw [ivs_rput hb, bumpI_set A i hlt]
      have hne : (A[i] != A[i]) = false := by simp
      unfold frameM at l1 s1 l2
      rw [hF, hL] at l1 s1
      rw [hF2, hL] at s1
      rw [hL] at l2
      have i12 : iv .i64 [1, 2] = [[.int .i64 1], [.int .i64 2]] := rfl
      have i0 : iv .i64 [] = [] := rfl
      simp only [List.length_cons, List.length_nil, Nat.reduceAdd, i12, i0] at l1 s1 l2
      skip
      simp (maxSteps := 10000000) only [go_sem, f1, iv_hasI hb, iv_rint hb, bumpI_get A i hlt, ivs_inR hb, hrp, hne, Int.natCast_nonneg, Nat.zero_add, inc64 (show i < 1000000000000 by omega)]
      refine sem_call rfl rfl (((l1).embed [1, 2, 3, 4] rfl (by repeat' first | exact trivial | rfl | (simp only [go_sem]; done) | constructor) rfl (by first | rfl | simp only [go_sem]) rfl (by simp)).mono ?_)
      rintro _ _ ⟨_, _, ⟨rfl, rfl⟩, rfl, rfl⟩
      refine run_ok 4000 _ _ _ _ ?_
      simp (maxSteps := 10000000) only [go_sem, f1, iv_hasI hb, iv_rint hb, bumpI_get A i hlt, ivs_inR hb, hrp, hne, Int.natCast_nonneg, Nat.zero_add, inc64 (show i < 1000000000000 by omega)]
      refine sem_call rfl rfl (((s1).embed [1, 2, 3, 4] rfl (by repeat' first | exact trivial | rfl | (simp only [go_sem]; done) | constructor) rfl (by first | rfl | simp only [go_sem]) rfl (by simp)).mono ?_)
      rintro _ _ ⟨_, _, ⟨rfl, rfl⟩, rfl, rfl⟩
      refine run_ok 4000 _ _ _ _ ?_
      simp (maxSteps := 10000000) only [go_sem, f1, iv_hasI hb, iv_rint hb, bumpI_get A i hlt, ivs_inR hb, hrp, hne, Int.natCast_nonneg, Nat.zero_add, inc64 (show i < 1000000000000 by omega)]
      refine sem_call rfl rfl (((l2).embed [5, 6, 7, 8] rfl (by repeat' first | exact trivial | rfl | (simp only [go_sem]; done) | constructor) rfl (by first | rfl | simp only [go_sem]) rfl (by simp)).mono ?_)
      rintro _ _ ⟨_, _, ⟨rfl, rfl⟩, rfl, rfl⟩
      refine run_ok 4000 _ _ _ _ ?_
      simp (maxSteps := 10000000) only [go_sem, f1, iv_hasI hb, iv_rint hb, bumpI_get A i hlt, ivs_inR hb, hrp, hne, Int.natCast_nonneg, Nat.zero_add, inc64 (show i < 1000000000000 by omega)]
      refine ⟨i + 1, by omega, by omega, [0, 1, 2, 3, 4, 5, 6, 7, 8], ?_⟩
      simp only [Emb, go_sem]
    · have t1 := take_spec [1, 2] 1 (by simp) (by simp)
      have p9 := push_spec [1] [9] true (by simp)
      have l0 := slen_spec []
      have q9 := pop_spec [1] 9 (by simp)
      unfold stackM stackG at *
      simp only [List.nil_append, List.cons_append, List.length_cons, List.length_nil, Nat.reduceAdd, Nat.reduceSub, List.drop_succ_cons, List.drop_zero, List.take_succ_cons, List.take_zero, iv, List.map_cons, List.map_nil] at t1 p9 l0 q9
      skip
      refine run_ok 4000 _ _ _ _ ?_
      simp (maxSteps := 10000000) only [go_sem]
      refine sem_call rfl rfl (((t1).embed [2, 3] rfl (by repeat' first | exact trivial | rfl | (simp only [go_sem]; done) | constructor) rfl (by first | rfl | simp only [go_sem]) rfl (by simp)).mono ?_)
      rintro _ _ ⟨_, _, ⟨rfl, rfl⟩, rfl, rfl⟩
      refine run_ok 4000 _ _ _ _ ?_
      simp (maxSteps := 10000000) only [go_sem]
      refine sem_call rfl rfl (((p9).embed [2, 3] rfl (by repeat' first | exact trivial | rfl | (simp only [go_sem]; done) | constructor) rfl (by first | rfl | simp only [go_sem]) rfl (by simp)).mono ?_)
      rintro _ _ ⟨_, _, ⟨rfl, rfl⟩, rfl, rfl⟩
      refine run_ok 4000 _ _ _ _ ?_
      simp (maxSteps := 10000000) only [go_sem]
      refine sem_call rfl rfl (((l0).embed [6, 7] rfl (by repeat' first | exact trivial | rfl | (simp only [go_sem]; done) | constructor) rfl (by first | rfl | simp only [go_sem]) rfl (by simp)).mono ?_)
      rintro _ _ ⟨_, _, ⟨rfl, rfl⟩, rfl, rfl⟩
      refine run_ok 4000 _ _ _ _ ?_
      simp (maxSteps := 10000000) only [go_sem]
      refine sem_call rfl rfl (((q9).embed [2, 9] rfl (by repeat' first | exact trivial | rfl | (simp only [go_sem]; done) | constructor) rfl (by first | rfl | simp only [go_sem]) rfl (by simp)).mono ?_)
      rintro _ _ ⟨_, _, ⟨rfl, rfl⟩, rfl, rfl⟩
      refine run_ok 4000 _ _ _ _ ?_
      simp (maxSteps := 10000000) only [go_sem]
  · have hA : l.length ≤ 10 := by omega
    generalize l = A at *
    refine ⟨by unfold small; omega, ?_⟩
    have hL : (locs 16 A).length = 16 := by simp [locs]; rfl
    have m1 := make_own 1 A (by omega)
    have m2 := make_own 2 A (by omega)
    have p1 := push_spec [] [1, 2] true (by simp)
    unfold stackM stackG at p1
    simp only [List.nil_append, List.length_cons, List.length_nil, Nat.reduceAdd, iv, List.map_cons, List.map_nil] at p1
    skip
    refine run_ok 4000 _ _ _ _ ?_
    simp (maxSteps := 10000000) only [go_sem]
    refine sem_call rfl rfl (((m1).embed [0] rfl (by repeat' first | exact trivial | rfl | (simp only [go_sem]; done) | constructor) rfl (by first | rfl | simp only [go_sem]) rfl (by simp)).mono ?_)
    rintro _ _ ⟨_, _, ⟨rfl, rfl⟩, rfl, rfl⟩
    refine run_ok 4000 _ _ _ _ ?_
    simp (maxSteps := 10000000) only [go_sem]
    refine sem_call rfl rfl (((m2).embed [0] rfl (by repeat' first | exact trivial | rfl | (simp only [go_sem]; done) | constructor) rfl (by first | rfl | simp only [go_sem]) rfl (by simp)).mono ?_)
    rintro _ _ ⟨_, _, ⟨rfl, rfl⟩, rfl, rfl⟩
    refine run_ok 4000 _ _ _ _ ?_
    simp (maxSteps := 10000000) only [go_sem]
    refine sem_call rfl rfl (((p1).embed [2, 3] rfl (by repeat' first | exact trivial | rfl | (simp only [go_sem]; done) | constructor) rfl (by first | rfl | simp only [go_sem]) rfl (by simp)).mono ?_)
    rintro _ _ ⟨_, _, ⟨rfl, rfl⟩, rfl, rfl⟩
    refine run_ok 4000 _ _ _ _ ?_
    simp (maxSteps := 10000000) only [go_sem]
    refine sem_rounds (fun i => i ≤ A.length) (fun i => [(0, .sl 0 0 A.length A.length false), (1, .int .i64 x), (5, .pbox 1 0), (6, .pbox 5 0), (32, .int .i64 A.length), (33, .int .i64 (i : Nat))])
      (fun i => [.row 1 (iv .i64 (bumpI A i)), .box [.pbox 2 0, .int .i64 1, .int .i64 0, .sl 4 0 16 16 false], .box [.sl 3 0 2 2 false], .row 1 [[.int .i64 1], [.int .i64 2]], .row 1 (iv .i64 (firstX (locs 16 A) x i)),
        .box [.pbox 6 0, .int .i64 2, .int .i64 0, .sl 8 0 16 16 false], .box [.sl 7 0 0 0 false], .row 1 [], .row 1 (iv .i64 (locs 16 A))]) (fun i => A.length - i) 0 [0, 1, 2, 9, 4, 5, 6, 7, 8] (by omega) ?_ ?_
    · simp only [Emb, go_sem, bumpI, firstX, List.take_zero, List.map_nil, List.nil_append, List.drop_zero, List.replicate_zero]
    intro i hi
    refine run_ok 4000 _ _ _ _ ?_
    simp (maxSteps := 10000000) only [go_sem]
    refine ⟨fun hlt => ?_, fun hge => ?_⟩
    · have hlt : i < A.length := by omega
      have hb : i < (bumpI A i).length := by rw [bumpI_len]; exact hlt
      have f1 : (i : Int) < (A.length : Int) := by omega
      have hF := firstX_len (locs 16 A) x i (by omega)
      have l1 := local_spec 1 [1, 2] (firstX (locs 16 A) x i) (i : Nat)
      rw [hF, hL, if_pos ⟨by omega, by omega⟩, Int.toNat_natCast, firstX_get _ _ _ (by omega), locs_get A (by omega) i hlt] at l1
      have s1 := setl_spec 1 [1, 2] (firstX (locs 16 A) x i) i (by omega) x
      rw [firstX_set _ _ _ (by omega)] at s1
      have l2 := local_spec 2 [] (locs 16 A) (i : Nat)
      rw [hL, if_pos ⟨by omega, by omega⟩, Int.toNat_natCast, locs_get A (by omega) i hlt] at l2
      have hF2 := firstX_len (locs 16 A) x (i + 1) (by omega)
      have hrp : rput (iv .i64 (bumpI A i)) i 0 [.int .i64 (iwrap .i64 (A[i] + 1))] = iv .i64 (bumpI A (i + 1)) := by
        rw [ivs_rput hb, bumpI_set A i hlt]
      have hne : (A[i] != A[i]) = false := by simp
      unfold frameM at l1 s1 l2
      rw [hF, hL] at l1 s1
      rw [hF2, hL] at s1
      rw [hL] at l2
      have i12 : iv .i64 [1, 2] = [[.int .i64 1], [.int .i64 2]] := rfl
      have i0 : iv .i64 [] = [] := rfl
      simp only [List.length_cons, List.length_nil, Nat.reduceAdd, i12, i0] at l1 s1 l2
      skip
      simp (maxSteps := 10000000) only [go_sem, f1, iv_hasI hb, iv_rint hb, bumpI_get A i hlt, ivs_inR hb, hrp, hne, Int.natCast_nonneg, Nat.zero_add, inc64 (show i < 1000000000000 by omega)]
      refine sem_call rfl rfl (((l1).embed [1, 2, 3, 4] rfl (by repeat' first | exact trivial | rfl | (simp only [go_sem]; done) | constructor) rfl (by first | rfl | simp only [go_sem]) rfl (by simp)).mono ?_)
      rintro _ _ ⟨_, _, ⟨rfl, rfl⟩, rfl, rfl⟩
      refine run_ok 4000 _ _ _ _ ?_
      simp (maxSteps := 10000000) only [go_sem, f1, iv_hasI hb, iv_rint hb, bumpI_get A i hlt, ivs_inR hb, hrp, hne, Int.natCast_nonneg, Nat.zero_add, inc64 (show i < 1000000000000 by omega)]
      refine sem_call rfl rfl (((s1).embed [1, 2, 3, 4] rfl (by repeat' first | exact trivial | rfl | (simp only [go_sem]; done) | constructor) rfl (by first | rfl | simp only [go_sem]) rfl (by simp)).mono ?_)
      rintro _ _ ⟨_, _, ⟨rfl, rfl⟩, rfl, rfl⟩
      refine run_ok 4000 _ _ _ _ ?_
      simp (maxSteps := 10000000) only [go_sem, f1, iv_hasI hb, iv_rint hb, bumpI_get A i hlt, ivs_inR hb, hrp, hne, Int.natCast_nonneg, Nat.zero_add, inc64 (show i < 1000000000000 by omega)]
      refine sem_call rfl rfl (((l2).embed [5, 6, 7, 8] rfl (by repeat' first | exact trivial | rfl | (simp only [go_sem]; done) | constructor) rfl (by first | rfl | simp only [go_sem]) rfl (by simp)).mono ?_)
      rintro _ _ ⟨_, _, ⟨rfl, rfl⟩, rfl, rfl⟩
      refine run_ok 4000 _ _ _ _ ?_
      simp (maxSteps := 10000000) only [go_sem, f1, iv_hasI hb, iv_rint hb, bumpI_get A i hlt, ivs_inR hb, hrp, hne, Int.natCast_nonneg, Nat.zero_add, inc64 (show i < 1000000000000 by omega)]
      refine ⟨i + 1, by omega, by omega, [0, 1, 2, 3, 4, 5, 6, 7, 8], ?_⟩
      simp only [Emb, go_sem]
    · have t1 := take_spec [1, 2] 1 (by simp) (by simp)
      have p9 := push_spec [1] [9] true (by simp)
      have l0 := slen_spec []
      have q9 := pop_spec [1] 9 (by simp)
      unfold stackM stackG at *
      simp only [List.nil_append, List.cons_append, List.length_cons, List.length_nil, Nat.reduceAdd, Nat.reduceSub, List.drop_succ_cons, List.drop_zero, List.take_succ_cons, List.take_zero, iv, List.map_cons, List.map_nil] at t1 p9 l0 q9
      skip
      refine run_ok 4000 _ _ _ _ ?_
      simp (maxSteps := 10000000) only [go_sem]
      refine sem_call rfl rfl (((t1).embed [2, 3] rfl (by repeat' first | exact trivial | rfl | (simp only [go_sem]; done) | constructor) rfl (by first | rfl | simp only [go_sem]) rfl (by simp)).mono ?_)
      rintro _ _ ⟨_, _, ⟨rfl, rfl⟩, rfl, rfl⟩
      refine run_ok 4000 _ _ _ _ ?_
      simp (maxSteps := 10000000) only [go_sem]
      refine sem_call rfl rfl (((p9).embed [2, 3] rfl (by repeat' first | exact trivial | rfl | (simp only [go_sem]; done) | constructor) rfl (by first | rfl | simp only [go_sem]) rfl (by simp)).mono ?_)
      rintro _ _ ⟨_, _, ⟨rfl, rfl⟩, rfl, rfl⟩
      refine run_ok 4000 _ _ _ _ ?_
      simp (maxSteps := 10000000) only [go_sem]
      refine sem_call rfl rfl (((l0).embed [6, 7] rfl (by repeat' first | exact trivial | rfl | (simp only [go_sem]; done) | constructor) rfl (by first | rfl | simp only [go_sem]) rfl (by simp)).mono ?_)
      rintro _ _ ⟨_, _, ⟨rfl, rfl⟩, rfl, rfl⟩
      refine run_ok 4000 _ _ _ _ ?_
      simp (maxSteps := 10000000) only [go_sem]
      refine sem_call rfl rfl (((q9).embed [2, 9] rfl (by repeat' first | exact trivial | rfl | (simp only [go_sem]; done) | constructor) rfl (by first | rfl | simp only [go_sem]) rfl (by simp)).mono ?_)
      rintro _ _ ⟨_, _, ⟨rfl, rfl⟩, rfl, rfl⟩
      refine run_ok 4000 _ _ _ _ ?_
      simp (maxSteps := 10000000) only [go_sem]
end Go.AEX
