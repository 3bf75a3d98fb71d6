/- Bag: places, what is taken. -/
import Derived.Test.YtcenagdeejbmgaaBag
namespace Go.AEX
open Go Go.AE Go.Proofs
set_option maxRecDepth 100000
set_option linter.unusedVariables false
set_option linter.unusedSimpArgs false

/-- The place that a number names. -/
def place (n : Nat) (k : Int) : Nat := (k % (n : Int)).toNat
theorem place_lt {n : Nat} (h : 0 < n) (k : Int) : place n k < n := by
  unfold place
  have := Int.emod_lt_of_pos k (show (0 : Int) < n by omega)
  have := Int.emod_nonneg k (show (n : Int) ≠ 0 by omega)
  omega
theorem place_int {n : Nat} (h : 0 < n) (k : Int) : (place n k : Int) = k % (n : Int) := by
  unfold place
  have := Int.emod_nonneg k (show (n : Int) ≠ 0 by omega)
  omega
theorem tmod_add {n k : Int} (h : 0 < n) : -n < k.tmod n ∧ k.tmod n < n ∧ (k.tmod n + n).tmod n = k % n := by
  have h1 : -n < k.tmod n := by have := Int.lt_tmod_of_pos k h; omega
  have h2 : k.tmod n < n := Int.tmod_lt_of_pos k h
  refine ⟨h1, h2, ?_⟩
  rw [Int.tmod_eq_emod_of_nonneg (by omega), Int.add_emod_right, Int.tmod_def, Int.sub_mul_emod_self_left]
theorem bat_spec (L : List Itm) (q k : Int) (h0 : 0 < L.length) (hL : L.length ≤ 1000) : Tri Try.prog 45 [.pbox 0 0, .int .i64 k] (bagM L q) (fun v m => v = .tup [.int .i64 (place L.length k : Nat), .bool true] ∧ m = bagM L q) := by
  unfold bagM
  refine Tri.post ?_
  obtain ⟨t1, t2, t3⟩ := tmod_add (n := (L.length : Int)) (k := k) (by omega)
  rw [← place_int h0 k] at t3
  have hne : ((L.length : Int) == 0) = false := by rw [beq_eq_false_iff_ne]; omega
  have hn0 : (L.length : Int) ≠ 0 := by omega
  have w1 : iwrap .i64 (k.tmod L.length + L.length) = k.tmod L.length + L.length := iwrap_i64_in (by omega)
  skip
  refine (Tri.enter (rl := r45) (code := c45) (by kernel_rfl) Try.func45 rfl c45_ok (by kernel_rfl) (by kernel_rfl) ?_)
  refine run_ok 4000 _ _ _ _ ?_
  simp (maxSteps := 10000000) only [go_sem, c45, r45, hne, hn0, w1, t3]
  refine sem_drawG l45_0_ok (by kernel_rfl) ?_
  intro KK hKK
  simp (maxSteps := 10000000) only [go_sem, l45_0, hne, hn0, w1, t3]
  subst hKK
  simp (maxSteps := 10000000) only [go_sem, hne, hn0, w1, t3]
  exact ⟨_, _, .sub [0, 1] (by simp only [EmbV, go_sem]) .done, rfl, rfl⟩
theorem bat_nil (q k : Int) : Tri Try.prog 45 [.pbox 0 0, .int .i64 k] (bagM [] q) (fun v m => v = .tup [.int .i64 0, .bool false] ∧ m = bagM [] q) := by
  unfold bagM
  refine Tri.post ?_
  refine (Tri.enter (rl := r45) (code := c45) (by kernel_rfl) Try.func45 rfl c45_ok (by kernel_rfl) (by kernel_rfl) ?_)
  refine run_ok 4000 _ _ _ _ ?_
  simp (maxSteps := 10000000) only [go_sem, c45, r45]
  exact ⟨_, _, .sub [0, 1] (by simp only [EmbV, go_sem]) .done, rfl, rfl⟩
/-- The item of a place. -/
def ga (L : List Itm) (p : Nat) : Itm := L.getD p ⟨0, 0, []⟩
theorem ga_eq {L : List Itm} {p : Nat} (h : p < L.length) : L[p] = ga L p := by unfold ga; rw [List.getD_eq_getElem?_getD, List.getElem?_eq_getElem h]; rfl
theorem item_spec (L : List Itm) (q k : Int) (h0 : 0 < L.length) (hL : L.length ≤ 1000) : Tri Try.prog 44 [.pbox 0 0, .int .i64 k] (bagM L q)
    (fun v m => v = .tup [.agg (brow (ga L (place L.length k))), .int .i64 0] ∧ m = bagM L q) := by
  have ha := bat_spec L q k h0 hL
  have hp := place_lt h0 k
  have hin : ((place L.length k : Nat) : Int) < (L.length : Int) := by omega
  unfold bagM at *
  refine Tri.post ?_
  generalize place L.length k = p at *
  have hga := ga_eq hp
  skip
  refine (Tri.enter (rl := r44) (code := c44) (by kernel_rfl) Try.func44 rfl c44_ok (by kernel_rfl) (by kernel_rfl) ?_)
  refine run_ok 4000 _ _ _ _ ?_
  simp (maxSteps := 10000000) only [go_sem, c44, r44, hga, brows_h0 hp, brows_h1 hp, brows_h2 hp, brows_r0 hp, brows_r1 hp, brows_r2 hp, hin, Int.natCast_nonneg]
  refine sem_call rfl rfl (((ha).embed [0, 1] rfl (by repeat' first | exact trivial | rfl | (simp only [go_sem]; done) | constructor) rfl (by first | rfl | simp only [go_sem]) rfl (by simp)).mono ?_)
  rintro _ _ ⟨_, _, ⟨rfl, rfl⟩, rfl, rfl⟩
  refine run_ok 4000 _ _ _ _ ?_
  simp (maxSteps := 10000000) only [go_sem, hga, brows_h0 hp, brows_h1 hp, brows_h2 hp, brows_r0 hp, brows_r1 hp, brows_r2 hp, hin, Int.natCast_nonneg]
  exact ⟨_, _, .sub [0, 1] (by simp only [EmbV, go_sem, brow]) .done, rfl, rfl⟩
theorem item_nil (q k : Int) : Tri Try.prog 44 [.pbox 0 0, .int .i64 k] (bagM [] q) (fun v m => v = .tup [.agg [.int .i64 0, .int .i64 0, .str []], .int .i64 9] ∧ m = bagM [] q) := by
  have ha := bat_nil q k
  unfold bagM at *
  refine Tri.post ?_
  refine (Tri.enter (rl := r44) (code := c44) (by kernel_rfl) Try.func44 rfl c44_ok (by kernel_rfl) (by kernel_rfl) ?_)
  refine run_ok 4000 _ _ _ _ ?_
  simp (maxSteps := 10000000) only [go_sem, c44, r44]
  refine sem_call rfl rfl (((ha).embed [0, 1] rfl (by repeat' first | exact trivial | rfl | (simp only [go_sem]; done) | constructor) rfl (by first | rfl | simp only [go_sem]) rfl (by simp)).mono ?_)
  rintro _ _ ⟨_, _, ⟨rfl, rfl⟩, rfl, rfl⟩
  refine run_ok 4000 _ _ _ _ ?_
  simp (maxSteps := 10000000) only [go_sem]
  exact ⟨_, _, .sub [0, 1] (by simp only [EmbV, go_sem]) .done, rfl, rfl⟩
theorem clone_spec (L : List Itm) (hL : L.length ≤ 100000) : Tri Try.prog 47 [.sl 0 0 L.length L.length false] [.row 3 (brows L)] (fun v m => v = .sl 1 0 L.length L.length false ∧ m = [.row 3 (brows L), .row 3 (brows L)]) := by
  refine Tri.post ?_
  refine (Tri.enter (rl := r47) (code := c47) (by kernel_rfl) Try.func47 rfl c47_ok (by kernel_rfl) (by kernel_rfl) ?_)
  refine run_ok 4000 _ _ _ _ ?_
  simp (maxSteps := 10000000) only [go_sem, c47, r47]
  refine sem_eqn rfl rfl rfl fun b hb => ?_
  cases b with
  | false =>
    skip
    refine run_ok 4000 _ _ _ _ ?_
    simp (maxSteps := 10000000) only [go_sem, brows_all]
    refine ⟨⟨by rw [brows_len]; omega, by unfold small; omega⟩, _, _, .sub [0, 1] ?_ .done, rfl, rfl⟩
    simp only [EmbV, go_sem]
  | true =>
    have h0 : L.length = 0 := by
      by_cases h : L.length = 0
      · exact h
      · exact absurd (hb h) (by simp)
    have : L = [] := List.length_eq_zero_iff.1 h0
    subst this
    skip
    refine run_ok 2 _ _ _ _ ?_
    simp (maxSteps := 10000000) only [go_sem, brows_all]
    skip
    refine sem_virt 2 3 rfl ?_
    refine run_ok 4000 _ _ _ _ ?_
    simp (maxSteps := 10000000) only [go_sem, brows_all]
    refine ⟨_, _, .sub [0, 1] ?_ .done, rfl, rfl⟩
    simp only [EmbV, go_sem, brows, List.map_nil]
theorem delete_spec (L : List Itm) (p : Nat) (hp : p < L.length) (hL : L.length ≤ 100000) : Tri Try.prog 46 [.sl 0 0 L.length L.length false, .int .i64 (p : Nat), .int .i64 ((p + 1 : Nat) : Int)] [.row 3 (brows L)]
    (fun v m => v = .sl 1 0 (L.length - 1) (L.length - 1) false ∧ m = [.gone, .row 3 (brows (L.take p ++ L.drop (p + 1)))]) := by
  refine Tri.post ?_
  have f1 : ((p : Int) == ((p + 1 : Nat) : Int)) = false := by rw [beq_eq_false_iff_ne]; omega
  have f2 : (p : Int) ≤ ((p + 1 : Nat) : Int) := by omega
  have f3 : ((p + 1 : Nat) : Int) ≤ (L.length : Int) := by omega
  have f4 : (p : Int) ≤ (L.length : Int) := by omega
  skip
  refine (Tri.enter (rl := r46) (code := c46) (by kernel_rfl) Try.func46 rfl c46_ok (by kernel_rfl) (by kernel_rfl) ?_)
  refine run_ok 4000 _ _ _ _ ?_
  simp (maxSteps := 10000000) only [go_sem, c46, r46, f1, f2, f3, f4, Int.natCast_nonneg]
  refine ⟨Int.le_refl _, ?_⟩
  have e1 : p + (L.length - (p + 1)) = L.length - 1 := by omega
  have e2 : max (L.length - 1) L.length = L.length := by omega
  have e3 : sub (brows L) 0 p ++ sub (brows L) (p + 1) (L.length - (p + 1)) = brows (L.take p ++ L.drop (p + 1)) := by
    rw [brows_sub, brows_sub, brows_app, List.drop_zero, List.take_of_length_le (l := L.drop (p + 1)) (by simp)]
  have e4 : (brows (L.take p ++ L.drop (p + 1))).length = L.length - 1 := by
    rw [brows_len, List.length_append, List.length_take, List.length_drop]; omega
  have e5 : ((L.length - 1 : Nat) : Int) ≤ (L.length : Int) := by omega
  skip
  refine sem_drawS l46_0_ok (by kernel_rfl) ?_
  intro KK hKK
  simp (maxSteps := 10000000) only [go_sem, l46_0, Nat.sub_zero, e1, e2, e3, f1, f2, f3, f4, Int.natCast_nonneg, brows_len]
  refine ⟨⟨by omega, by omega, by unfold small; omega⟩, ?_⟩
  subst hKK
  refine (show SemW _ _ _ _ _ _ _ from ?_)
  skip
  skip
  refine run_ok 5 _ _ _ _ ?_
  simp (maxSteps := 10000000) only [go_sem, e5, Int.natCast_nonneg]
  skip
  refine ⟨Int.le_refl _, ?_⟩
  refine sem_clrT rfl rfl rfl (by rw [e4]; exact Nat.le_refl _) ?_
  refine run_ok 4000 _ _ _ _ ?_
  simp (maxSteps := 10000000) only [go_sem, e5, Int.natCast_nonneg]
  refine ⟨_, _, .like Like.cap (.sub [0, 1] ?_ .done), rfl, rfl⟩
  simp only [EmbV, go_sem]
theorem wout_len {L : List Itm} {p : Nat} (h : p < L.length) : (L.take p ++ L.drop (p + 1)).length = L.length - 1 := by
  rw [List.length_append, List.length_take, List.length_drop]; omega
/-- Without the item of a place. -/
def wout (L : List Itm) (p : Nat) : List Itm := L.take p ++ L.drop (p + 1)
/-- Changed, with the items of before still there. -/
def bagT (L0 L : List Itm) (lost : Int) : Mem := [.box [.sl 2 0 L.length L.length false, .int .i64 lost], .row 3 (brows L0), .row 3 (brows L)]
theorem take_spec (L : List Itm) (q k : Int) (h0 : 0 < L.length) (hL : L.length ≤ 1000) : Tri Try.prog 16 [.pbox 0 0, .int .i64 k] (bagM L q)
    (fun v m => v = .tup [.agg (brow (ga L (place L.length k))), .int .i64 0] ∧ m = bagT L (wout L (place L.length k)) q) := by
  have ha := bat_spec L q k h0 hL
  have hi := item_spec L q k h0 hL
  have hp := place_lt h0 k
  have hw : iwrap .i64 ((place L.length k : Nat) + 1 : Int) = ((place L.length k + 1 : Nat) : Int) := inc64 (by omega)
  have hl := wout_len hp
  have hd := delete_spec L (place L.length k) hp (by omega)
  have hc := clone_spec L (by omega)
  unfold bagM at *
  unfold bagT wout
  refine Tri.post ?_
  generalize place L.length k = p at *
  skip
  refine (Tri.enter (rl := r16) (code := c16) (by kernel_rfl) Try.func16 rfl c16_ok (by kernel_rfl) (by kernel_rfl) ?_)
  refine run_ok 4000 _ _ _ _ ?_
  simp (maxSteps := 10000000) only [go_sem, c16, r16, hw, brow]
  refine sem_call rfl rfl (((hi).embed [0, 1] rfl (by repeat' first | exact trivial | rfl | (simp only [go_sem]; done) | constructor) rfl (by first | rfl | simp only [go_sem]) rfl (by simp)).mono ?_)
  rintro _ _ ⟨_, _, ⟨rfl, rfl⟩, rfl, rfl⟩
  refine run_ok 4000 _ _ _ _ ?_
  simp (maxSteps := 10000000) only [go_sem, hw, brow]
  refine sem_call rfl rfl (((ha).embed [0, 1] rfl (by repeat' first | exact trivial | rfl | (simp only [go_sem]; done) | constructor) rfl (by first | rfl | simp only [go_sem]) rfl (by simp)).mono ?_)
  rintro _ _ ⟨_, _, ⟨rfl, rfl⟩, rfl, rfl⟩
  refine run_ok 4000 _ _ _ _ ?_
  simp (maxSteps := 10000000) only [go_sem, hw, brow]
  refine sem_call rfl rfl (((hc).embed [1] rfl (by repeat' first | exact trivial | rfl | (simp only [go_sem]; done) | constructor) rfl (by first | rfl | simp only [go_sem]) rfl (by simp)).mono ?_)
  rintro _ _ ⟨_, _, ⟨rfl, rfl⟩, rfl, rfl⟩
  refine run_ok 4000 _ _ _ _ ?_
  simp (maxSteps := 10000000) only [go_sem, hw, brow]
  refine sem_call rfl rfl (((hd).embed [4] rfl (by repeat' first | exact trivial | rfl | (simp only [go_sem]; done) | constructor) rfl (by first | rfl | simp only [go_sem]) rfl (by simp)).mono ?_)
  rintro _ _ ⟨_, _, ⟨rfl, rfl⟩, rfl, rfl⟩
  refine run_ok 4000 _ _ _ _ ?_
  simp (maxSteps := 10000000) only [go_sem, hw, brow]
  refine ⟨_, _, .sub [0, 1, 5] ?_ .done, rfl, rfl⟩
  simp only [EmbV, go_sem, brow, hl]
theorem take_nil (q k : Int) : Tri Try.prog 16 [.pbox 0 0, .int .i64 k] (bagM [] q)
    (fun v m => v = .tup [.agg [.int .i64 0, .int .i64 0, .str []], .int .i64 9] ∧ m = bagM [] q) := by
  have hi := item_nil q k
  unfold bagM at *
  refine Tri.post ?_
  refine (Tri.enter (rl := r16) (code := c16) (by kernel_rfl) Try.func16 rfl c16_ok (by kernel_rfl) (by kernel_rfl) ?_)
  refine run_ok 4000 _ _ _ _ ?_
  simp (maxSteps := 10000000) only [go_sem, c16, r16]
  refine sem_call rfl rfl (((hi).embed [0, 1] rfl (by repeat' first | exact trivial | rfl | (simp only [go_sem]; done) | constructor) rfl (by first | rfl | simp only [go_sem]) rfl (by simp)).mono ?_)
  rintro _ _ ⟨_, _, ⟨rfl, rfl⟩, rfl, rfl⟩
  refine run_ok 4000 _ _ _ _ ?_
  simp (maxSteps := 10000000) only [go_sem]
  refine ⟨_, _, .sub [0, 1] ?_ .done, rfl, rfl⟩
  simp only [EmbV, go_sem]
theorem lose_spec (L : List Itm) (q k : Int) (h0 : 0 < L.length) (hL : L.length ≤ 1000) (hq : 0 ≤ q ∧ q ≤ 1000000) : Tri Try.prog 51 [.pbox 0 0, .int .i64 k] (bagM L q)
    (fun v m => v = .int .i64 0 ∧ m = bagT L (wout L (place L.length k)) (q + 1)) := by
  have ht := take_spec L q k h0 hL
  have hw : iwrap .i64 (q + 1) = q + 1 := iwrap_i64_in (by omega)
  unfold bagM bagT at *
  refine Tri.post ?_
  skip
  refine (Tri.enter (rl := r51) (code := c51) (by kernel_rfl) Try.func51 rfl c51_ok (by kernel_rfl) (by kernel_rfl) ?_)
  refine run_ok 4000 _ _ _ _ ?_
  simp (maxSteps := 10000000) only [go_sem, c51, r51, hw, brow]
  refine sem_call rfl rfl (((ht).embed [0, 1] rfl (by repeat' first | exact trivial | rfl | (simp only [go_sem]; done) | constructor) rfl (by first | rfl | simp only [go_sem]) rfl (by simp)).mono ?_)
  rintro _ _ ⟨_, _, ⟨rfl, rfl⟩, rfl, rfl⟩
  refine run_ok 4000 _ _ _ _ ?_
  simp (maxSteps := 10000000) only [go_sem, hw, brow]
  refine ⟨_, _, .sub [0, 1, 2] ?_ .done, rfl, rfl⟩
  simp only [EmbV, go_sem]
theorem lose_nil (q k : Int) : Tri Try.prog 51 [.pbox 0 0, .int .i64 k] (bagM [] q)
    (fun v m => v = .int .i64 9 ∧ m = bagM [] q) := by
  have ht := take_nil q k
  unfold bagM at *
  refine Tri.post ?_
  refine (Tri.enter (rl := r51) (code := c51) (by kernel_rfl) Try.func51 rfl c51_ok (by kernel_rfl) (by kernel_rfl) ?_)
  refine run_ok 4000 _ _ _ _ ?_
  simp (maxSteps := 10000000) only [go_sem, c51, r51]
  refine sem_call rfl rfl (((ht).embed [0, 1] rfl (by repeat' first | exact trivial | rfl | (simp only [go_sem]; done) | constructor) rfl (by first | rfl | simp only [go_sem]) rfl (by simp)).mono ?_)
  rintro _ _ ⟨_, _, ⟨rfl, rfl⟩, rfl, rfl⟩
  refine run_ok 4000 _ _ _ _ ?_
  simp (maxSteps := 10000000) only [go_sem]
  refine ⟨_, _, .sub [0, 1] ?_ .done, rfl, rfl⟩
  simp only [EmbV, go_sem]
theorem twice_spec (L : List Itm) (q k : Int) (h0 : 0 < L.length) (hL : L.length < 400) : Tri Try.prog 38 [.pbox 0 0, .int .i64 k] (bagM L q)
    (fun v m => v = .int .i64 0 ∧ m = bagG (L ++ [ga L (place L.length k)]) q) := by
  have hi := item_spec L q k h0 (by omega)
  have hp := place_lt h0 k
  unfold bagM at *
  unfold bagG
  refine Tri.post ?_
  generalize place L.length k = p at *
  have hf : ¬ (L.length : Int) ≥ 400 := by omega
  have hb : [[AV.int .i64 (ga L p).src, AV.int .i64 (ga L p).dst, AV.str (ga L p).text]] = brows [ga L p] := rfl
  skip
  refine (Tri.enter (rl := r38) (code := c38) (by kernel_rfl) Try.func38 rfl c38_ok (by kernel_rfl) (by kernel_rfl) ?_)
  refine run_ok 4000 _ _ _ _ ?_
  simp (maxSteps := 10000000) only [go_sem, c38, r38, hf, brow, brows_all]
  refine sem_call rfl rfl (((hi).embed [0, 1] rfl (by repeat' first | exact trivial | rfl | (simp only [go_sem]; done) | constructor) rfl (by first | rfl | simp only [go_sem]) rfl (by simp)).mono ?_)
  rintro _ _ ⟨_, _, ⟨rfl, rfl⟩, rfl, rfl⟩
  refine run_ok 4000 _ _ _ _ ?_
  simp (maxSteps := 10000000) only [go_sem, hf, brow, brows_all]
  refine sem_move 1 rfl ?_
  simp (maxSteps := 10000000) only [go_sem, hf, brow, brows_all]
  refine sem_drawG l38_0_ok (by kernel_rfl) ?_
  intro KK hKK
  simp (maxSteps := 10000000) only [go_sem, l38_0, hf, brow, brows_all]
  subst hKK
  simp (maxSteps := 10000000) only [go_sem, hf, brow, brows_all]
  refine ⟨⟨by rw [brows_len]; omega, by unfold small; omega⟩, _, _, .sub [0, 1, 4] ?_ .done, rfl, rfl⟩
  rw [hb, brows_app]
  simp only [EmbV, go_sem, List.length_append]
theorem twice_nil (q k : Int) : Tri Try.prog 38 [.pbox 0 0, .int .i64 k] (bagM [] q)
    (fun v m => v = .int .i64 9 ∧ m = bagM [] q) := by
  have hi := item_nil q k
  unfold bagM at *
  refine Tri.post ?_
  refine (Tri.enter (rl := r38) (code := c38) (by kernel_rfl) Try.func38 rfl c38_ok (by kernel_rfl) (by kernel_rfl) ?_)
  refine run_ok 4000 _ _ _ _ ?_
  simp (maxSteps := 10000000) only [go_sem, c38, r38]
  refine sem_call rfl rfl (((hi).embed [0, 1] rfl (by repeat' first | exact trivial | rfl | (simp only [go_sem]; done) | constructor) rfl (by first | rfl | simp only [go_sem]) rfl (by simp)).mono ?_)
  rintro _ _ ⟨_, _, ⟨rfl, rfl⟩, rfl, rfl⟩
  refine run_ok 4000 _ _ _ _ ?_
  simp (maxSteps := 10000000) only [go_sem]
  refine ⟨_, _, .sub [0, 1] ?_ .done, rfl, rfl⟩
  simp only [EmbV, go_sem]
theorem twice_full (L : List Itm) (q k : Int) (h0 : 0 < L.length) (hL : 400 ≤ L.length ∧ L.length ≤ 1000) : Tri Try.prog 38 [.pbox 0 0, .int .i64 k] (bagM L q)
    (fun v m => v = .int .i64 8 ∧ m = bagM L q) := by
  have hi := item_spec L q k h0 (by omega)
  unfold bagM at *
  refine Tri.post ?_
  have hf : (L.length : Int) ≥ 400 := by omega
  skip
  refine (Tri.enter (rl := r38) (code := c38) (by kernel_rfl) Try.func38 rfl c38_ok (by kernel_rfl) (by kernel_rfl) ?_)
  refine run_ok 4000 _ _ _ _ ?_
  simp (maxSteps := 10000000) only [go_sem, c38, r38, hf, brow]
  refine sem_call rfl rfl (((hi).embed [0, 1] rfl (by repeat' first | exact trivial | rfl | (simp only [go_sem]; done) | constructor) rfl (by first | rfl | simp only [go_sem]) rfl (by simp)).mono ?_)
  rintro _ _ ⟨_, _, ⟨rfl, rfl⟩, rfl, rfl⟩
  refine run_ok 4000 _ _ _ _ ?_
  simp (maxSteps := 10000000) only [go_sem, hf, brow]
  refine ⟨_, _, .sub [0, 1] ?_ .done, rfl, rfl⟩
  simp only [EmbV, go_sem]
end Go.AEX
