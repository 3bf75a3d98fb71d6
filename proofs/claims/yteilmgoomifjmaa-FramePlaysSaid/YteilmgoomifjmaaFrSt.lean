/- Frame: a stack, a call. -/
import Derived.Test.YteilmgoomifjmaaHeap
namespace Go.AEX
open Go Go.AE Go.Proofs
set_option maxRecDepth 100000
set_option linter.unusedVariables false
set_option linter.unusedSimpArgs false

theorem ivs_app (a b : List Int) : iv .i64 a ++ iv .i64 b = iv .i64 (a ++ b) := by simp [iv]
theorem ivs_all (l : List Int) : sub (iv .i64 l) 0 l.length = iv .i64 l := by rw [iv_sub]; simp
def stackM (l : List Int) : Mem := [.box [.sl 1 0 l.length l.length false], .row 1 (iv .i64 l)]
def stackG (l : List Int) : Mem := [.box [.sl 2 0 l.length l.length false], .gone, .row 1 (iv .i64 l)]
theorem slen_spec (l : List Int) : Tri Try.prog 19 [.pbox 0 0] (stackM l) (fun v m => v = .int .i64 l.length ∧ m = stackM l) := by
  unfold stackM
  refine Tri.post ?_
  refine (Tri.enter (rl := r19) (code := c19) (by kernel_rfl) Try.func19 rfl c19_ok (by kernel_rfl) (by kernel_rfl) ?_)
  refine run_ok 4000 _ _ _ _ ?_
  simp (maxSteps := 10000000) only [go_sem, c19, r19]
  exact ⟨_, _, .sub [0, 1] (by simp only [EmbV, go_sem]) .done, rfl, rfl⟩
theorem push_spec (l k : List Int) (tight : Bool) (h : l.length + k.length ≤ 64) : Tri Try.prog 21 [.pbox 0 0, .vsl 1 (iv .i64 k) tight] (stackM l) (fun v m => v = .bool true ∧ m = stackG (l ++ k)) := by
  unfold stackM stackG
  refine Tri.post ?_
  have w1 : iwrap .i64 ((l.length : Int) + k.length) = ((l.length + k.length : Nat) : Int) := by rw [iwrap_i64_in (by omega)]; omega
  have f1 : ¬ ((l.length + k.length : Nat) : Int) > 64 := by omega
  have f2 : small (l.length + k.length) := by unfold small; omega
  have f3 : max (l.length + k.length) l.length = l.length + k.length := by omega
  skip
  refine (Tri.enter (rl := r21) (code := c21) (by kernel_rfl) Try.func21 rfl c21_ok (by kernel_rfl) (by kernel_rfl) ?_)
  refine run_ok 4000 _ _ _ _ ?_
  simp (maxSteps := 10000000) only [go_sem, c21, r21, w1, f1, f2, f3, iv_len, ivs_all, ivs_app, Nat.zero_add]
  refine ⟨_, _, .sub [0, 1, 2] ?_ .done, rfl, rfl⟩
  simp only [EmbV, go_sem, List.length_append]
theorem push_full (l k : List Int) (tight : Bool) (h : 64 < l.length + k.length) (h2 : l.length ≤ 64 ∧ k.length ≤ 1000) : Tri Try.prog 21 [.pbox 0 0, .vsl 1 (iv .i64 k) tight] (stackM l) (fun v m => v = .bool false ∧ m = stackM l) := by
  unfold stackM
  refine Tri.post ?_
  have w1 : iwrap .i64 ((l.length : Int) + k.length) = ((l.length + k.length : Nat) : Int) := by rw [iwrap_i64_in (by omega)]; omega
  have f1 : ((l.length + k.length : Nat) : Int) > 64 := by omega
  skip
  refine (Tri.enter (rl := r21) (code := c21) (by kernel_rfl) Try.func21 rfl c21_ok (by kernel_rfl) (by kernel_rfl) ?_)
  refine run_ok 4000 _ _ _ _ ?_
  simp (maxSteps := 10000000) only [go_sem, c21, r21, w1, f1, iv_len]
  exact ⟨_, _, .sub [0, 1] (by simp only [EmbV, go_sem]) .done, rfl, rfl⟩
theorem pop_nil : Tri Try.prog 23 [.pbox 0 0] (stackM []) (fun v m => v = .int .i64 0 ∧ m = stackM []) := by
  unfold stackM
  refine Tri.post ?_
  refine (Tri.enter (rl := r23) (code := c23) (by kernel_rfl) Try.func23 rfl c23_ok (by kernel_rfl) (by kernel_rfl) ?_)
  refine run_ok 4000 _ _ _ _ ?_
  simp (maxSteps := 10000000) only [go_sem, c23, r23]
  exact ⟨_, _, .sub [0, 1] (by simp only [EmbV, go_sem]) .done, rfl, rfl⟩
theorem pop_spec (l : List Int) (x : Int) (h : l.length ≤ 1000) : Tri Try.prog 23 [.pbox 0 0] (stackM (l ++ [x])) (fun v m => v = .int .i64 x ∧ m = stackM l) := by
  unfold stackM
  refine Tri.post ?_
  have hl : (l ++ [x]).length = l.length + 1 := by simp
  have hi : l.length < (l ++ [x]).length := by omega
  have hx : (l ++ [x])[l.length] = x := by simp
  have w1 : iwrap .i64 (((l.length + 1 : Nat) : Int) - 1) = (l.length : Int) := by rw [iwrap_i64_in (by omega)]; omega
  have f0 : ¬ ((l.length + 1 : Nat) : Int) = 0 := by omega
  have f1 : (((l.length + 1 : Nat) : Int) == 0) = false := by rw [beq_eq_false_iff_ne]; exact f0
  have f2 : (l.length : Int) < ((l.length + 1 : Nat) : Int) := by omega
  have f3 : (l.length : Int) ≤ ((l.length + 1 : Nat) : Int) := by omega
  have hr := iv_rint (k := .i64) hi
  rw [hx] at hr
  skip
  refine (Tri.enter (rl := r23) (code := c23) (by kernel_rfl) Try.func23 rfl c23_ok (by kernel_rfl) (by kernel_rfl) ?_)
  refine run_ok 4000 _ _ _ _ ?_
  simp (maxSteps := 10000000) only [go_sem, c23, r23, hl, w1, f1, f2, f3, Int.natCast_nonneg, iv_hasI hi, hr, Nat.zero_add, Nat.sub_zero]
  refine sem_drawG l23_0_ok (by kernel_rfl) ?_
  intro KK hKK
  simp (maxSteps := 10000000) only [go_sem, l23_0, hl, w1, f1, f2, f3, Int.natCast_nonneg, iv_hasI hi, hr, Nat.zero_add, Nat.sub_zero]
  subst hKK
  simp (maxSteps := 10000000) only [go_sem, hl, w1, f1, f2, f3, Int.natCast_nonneg, iv_hasI hi, hr, Nat.zero_add, Nat.sub_zero]
  refine sem_drawS l23_1_ok (by kernel_rfl) ?_
  intro KK hKK
  simp (maxSteps := 10000000) only [go_sem, l23_1, hl, w1, f1, f2, f3, Int.natCast_nonneg, iv_hasI hi, hr, Nat.zero_add, Nat.sub_zero]
  subst hKK
  refine (show SemW _ _ _ _ _ _ _ from ?_)
  refine sem_tell 1 l.length rfl ?_
  refine sem_likebox 0 0 (.sl 1 0 l.length l.length false) rfl rfl Like.cap ?_
  refine run_ok 4000 _ _ _ _ ?_
  simp (maxSteps := 10000000) only [go_sem, hl, w1, f1, f2, f3, Int.natCast_nonneg, iv_hasI hi, hr, Nat.zero_add, Nat.sub_zero]
  have ht : (iv .i64 (l ++ [x])).take l.length = iv .i64 l := by simp [iv]
  refine ⟨_, _, .sub [0, 1] ?_ .done, rfl, rfl⟩
  simp only [EmbV, go_sem, ht]
theorem clone_spec (tight : Bool) (xs : List Int) (i k c : Nat) (h : i + k ≤ xs.length) (hx : xs.length ≤ 100000) : Tri Try.prog 54 [.sl 0 i k c tight] [.row 1 (iv .i64 xs)] (fun v m => v = .sl 1 0 k k false ∧ m = [.row 1 (iv .i64 xs), .row 1 (iv .i64 ((xs.drop i).take k))]) := by
  refine Tri.post ?_
  refine (Tri.enter (rl := r54) (code := c54) (by kernel_rfl) Try.func54 rfl c54_ok (by kernel_rfl) (by kernel_rfl) ?_)
  refine run_ok 4000 _ _ _ _ ?_
  simp (maxSteps := 10000000) only [go_sem, c54, r54]
  refine sem_eqn rfl rfl rfl fun b hb => ?_
  cases b with
  | false =>
    skip
    refine run_ok 4000 _ _ _ _ ?_
    simp (maxSteps := 10000000) only [go_sem, iv_sub, iv_len]
    refine ⟨⟨h, by unfold small; omega⟩, _, _, .sub [0, 1] ?_ .done, rfl, rfl⟩
    simp only [EmbV, go_sem]
  | true =>
    have hk : k = 0 := by
      by_cases h : k = 0
      · exact h
      · exact absurd (hb h) (by simp)
    subst hk
    skip
    refine run_ok 2 _ _ _ _ ?_
    simp (maxSteps := 10000000) only [go_sem, iv_sub, iv_len]
    skip
    refine sem_virt 2 1 rfl ?_
    refine run_ok 4000 _ _ _ _ ?_
    simp (maxSteps := 10000000) only [go_sem, iv_sub, iv_len]
    refine ⟨_, _, .sub [0, 1] ?_ .done, rfl, rfl⟩
    simp only [EmbV, go_sem, iv, List.map_nil]
theorem take_spec (l : List Int) (n : Nat) (h : n ≤ l.length) (hl : l.length ≤ 1000) : Tri Try.prog 22 [.pbox 0 0, .int .i64 n] (stackM l)
    (fun v m => v = .tup [.vsl 1 (iv .i64 (l.drop (l.length - n))) false, .bool true] ∧ m = stackM (l.take (l.length - n))) := by
  unfold stackM
  refine Tri.post ?_
  have w1 : iwrap .i64 ((l.length : Int) - n) = ((l.length - n : Nat) : Int) := by rw [iwrap_i64_in (by omega)]; omega
  have f0 : ¬ (n : Int) < 0 := by omega
  have f1 : ¬ (n : Int) > (l.length : Int) := by omega
  have f2 : ((l.length - n : Nat) : Int) ≤ (l.length : Int) := by omega
  have hc := clone_spec false l (l.length - n) n n (by omega) (by omega)
  have e1 : l.length - (l.length - n) = n := by omega
  have e2 : (l.drop (l.length - n)).take n = l.drop (l.length - n) := List.take_of_length_le (by rw [List.length_drop]; omega)
  have e3 : (l.take (l.length - n)).length = l.length - n := by rw [List.length_take]; omega
  have e4 : (l.drop (l.length - n)).length = n := by rw [List.length_drop]; omega
  rw [e2] at hc
  skip
  refine (Tri.enter (rl := r22) (code := c22) (by kernel_rfl) Try.func22 rfl c22_ok (by kernel_rfl) (by kernel_rfl) ?_)
  refine run_ok 4000 _ _ _ _ ?_
  simp (maxSteps := 10000000) only [go_sem, c22, r22, w1, f0, f1, f2, e1, Int.natCast_nonneg, Nat.zero_add, Nat.sub_zero]
  refine sem_drawG l22_0_ok (by kernel_rfl) ?_
  intro KK hKK
  simp (maxSteps := 10000000) only [go_sem, l22_0, w1, f0, f1, f2, e1, Int.natCast_nonneg, Nat.zero_add, Nat.sub_zero]
  subst hKK
  simp (maxSteps := 10000000) only [go_sem, w1, f0, f1, f2, e1, Int.natCast_nonneg, Nat.zero_add, Nat.sub_zero]
  refine TriZ.of (((hc).embed [1] rfl (by repeat' first | exact trivial | rfl | (simp only [go_sem]; done) | constructor) rfl (by first | rfl | simp only [go_sem]) rfl (by simp)).mono ?_)
  rintro _ _ ⟨_, _, ⟨rfl, rfl⟩, rfl, rfl⟩
  simp (maxSteps := 10000000) only [go_sem, w1, f0, f1, f2, e1, Int.natCast_nonneg, Nat.zero_add, Nat.sub_zero]
  refine sem_drawS l22_1_ok (by kernel_rfl) ?_
  intro KK hKK
  simp (maxSteps := 10000000) only [go_sem, l22_1, w1, f0, f1, f2, e1, Int.natCast_nonneg, Nat.zero_add, Nat.sub_zero]
  subst hKK
  refine (show SemW _ _ _ _ _ _ _ from ?_)
  refine sem_tell 1 (l.length - n) rfl ?_
  refine sem_likebox 0 0 (.sl 1 0 (l.length - n) (l.length - n) false) rfl rfl Like.cap ?_
  refine run_ok 4000 _ _ _ _ ?_
  simp (maxSteps := 10000000) only [go_sem, w1, f0, f1, f2, e1, Int.natCast_nonneg, Nat.zero_add, Nat.sub_zero]
  have ht : (iv .i64 l).take (l.length - n) = iv .i64 (l.take (l.length - n)) := by simp [iv, List.map_take]
  have hs : sub (iv .i64 (l.drop (l.length - n))) 0 n = iv .i64 (l.drop (l.length - n)) := by
    have := ivs_all (l.drop (l.length - n)); rwa [e4] at this
  refine ⟨_, _, .fz 2 rfl (by simp only [go_sem, iv_len, e4, Nat.le_refl]) (.sub [0, 1] ?_ .done), rfl, rfl⟩
  simp only [EmbV, go_sem, ht, hs, e3]
theorem take_no (l : List Int) (n : Int) (h : n < 0 ∨ (l.length : Int) < n) : Tri Try.prog 22 [.pbox 0 0, .int .i64 n] (stackM l)
    (fun v m => v = .tup [.nilsl, .bool false] ∧ m = stackM l) := by
  unfold stackM
  refine Tri.post ?_
  by_cases f0 : n < 0
  · skip
    refine (Tri.enter (rl := r22) (code := c22) (by kernel_rfl) Try.func22 rfl c22_ok (by kernel_rfl) (by kernel_rfl) ?_)
    refine run_ok 4000 _ _ _ _ ?_
    simp (maxSteps := 10000000) only [go_sem, c22, r22, f0]
    exact ⟨_, _, .sub [0, 1] (by simp only [EmbV, go_sem]) .done, rfl, rfl⟩
  · have f1 : n > (l.length : Int) := by omega
    skip
    refine (Tri.enter (rl := r22) (code := c22) (by kernel_rfl) Try.func22 rfl c22_ok (by kernel_rfl) (by kernel_rfl) ?_)
    refine run_ok 4000 _ _ _ _ ?_
    simp (maxSteps := 10000000) only [go_sem, c22, r22, f0, f1]
    exact ⟨_, _, .sub [0, 1] (by simp only [EmbV, go_sem]) .done, rfl, rfl⟩
/-- A call: its stack, its locals. -/
def frameM (fn : Int) (l v : List Int) : Mem := [.box [.pbox 1 0, .int .i64 fn, .int .i64 0, .sl 3 0 v.length v.length false], .box [.sl 2 0 l.length l.length false], .row 1 (iv .i64 l), .row 1 (iv .i64 v)]
theorem local_spec (fn : Int) (l v : List Int) (n : Int) : Tri Try.prog 20 [.pbox 0 0, .int .i64 n] (frameM fn l v) (fun x m => x = .int .i64 (if 0 ≤ n ∧ n < v.length then v.getD n.toNat 0 else 0) ∧ m = frameM fn l v) := by
  unfold frameM
  refine Tri.post ?_
  by_cases f0 : n < 0
  · skip
    refine (Tri.enter (rl := r20) (code := c20) (by kernel_rfl) Try.func20 rfl c20_ok (by kernel_rfl) (by kernel_rfl) ?_)
    refine run_ok 4000 _ _ _ _ ?_
    simp (maxSteps := 10000000) only [go_sem, c20, r20, f0]
    refine ⟨.int .i64 0, _, .sub [0, 1, 2, 3] (by simp only [EmbV, go_sem]) .done, ?_, rfl⟩
    rw [if_neg (by omega)]
  · by_cases f1 : n ≥ (v.length : Int)
    · skip
      refine (Tri.enter (rl := r20) (code := c20) (by kernel_rfl) Try.func20 rfl c20_ok (by kernel_rfl) (by kernel_rfl) ?_)
      refine run_ok 4000 _ _ _ _ ?_
      simp (maxSteps := 10000000) only [go_sem, c20, r20, f0, f1]
      refine ⟨.int .i64 0, _, .sub [0, 1, 2, 3] (by simp only [EmbV, go_sem]) .done, ?_, rfl⟩
      rw [if_neg (by omega)]
    · obtain ⟨k, rfl⟩ : ∃ k : Nat, n = (k : Int) := ⟨n.toNat, by omega⟩
      have hk : k < v.length := by omega
      have f2 : (k : Int) < (v.length : Int) := by omega
      have hg : v.getD k 0 = v[k] := by rw [List.getD_eq_getElem?_getD, List.getElem?_eq_getElem hk]; rfl
      skip
      refine (Tri.enter (rl := r20) (code := c20) (by kernel_rfl) Try.func20 rfl c20_ok (by kernel_rfl) (by kernel_rfl) ?_)
      refine run_ok 4000 _ _ _ _ ?_
      simp (maxSteps := 10000000) only [go_sem, c20, r20, f0, f1, f2, iv_hasI hk, iv_rint hk, Int.natCast_nonneg, Nat.zero_add]
      refine ⟨.int .i64 v[k], _, .sub [0, 1, 2, 3] (by simp only [EmbV, go_sem]) .done, ?_, rfl⟩
      have hc : (0 : Int) ≤ (k : Int) ∧ (k : Int) < (v.length : Int) := ⟨by omega, f2⟩
      simp only [hc, and_self, if_true, Int.toNat_natCast, hg]
theorem ivs_inR {l : List Int} {i : Nat} (h : i < l.length) : inR (iv .i64 l) i 0 1 := ⟨_, iv_get (List.getElem?_eq_getElem h), by simp⟩
theorem ivs_rput {l : List Int} {i : Nat} (h : i < l.length) (x : Int) : rput (iv .i64 l) i 0 [.int .i64 x] = iv .i64 (l.set i x) := by
  unfold rput iv
  apply List.ext_getElem?
  intro j
  rw [List.getElem?_modify, List.getElem?_map, List.getElem?_map, List.getElem?_set]
  by_cases hj : i = j
  · subst hj; simp [h]
  · simp [hj]
theorem setl_spec (fn : Int) (l v : List Int) (k : Nat) (hk : k < v.length) (x : Int) : Tri Try.prog 18 [.pbox 0 0, .int .i64 k, .int .i64 x] (frameM fn l v) (fun y m => y = .bool true ∧ m = frameM fn l (v.set k x)) := by
  unfold frameM
  refine Tri.post ?_
  have f0 : ¬ (k : Int) < 0 := by omega
  have f1 : ¬ (k : Int) ≥ (v.length : Int) := by omega
  have f2 : (k : Int) < (v.length : Int) := by omega
  skip
  refine (Tri.enter (rl := r18) (code := c18) (by kernel_rfl) Try.func18 rfl c18_ok (by kernel_rfl) (by kernel_rfl) ?_)
  refine run_ok 4000 _ _ _ _ ?_
  simp (maxSteps := 10000000) only [go_sem, c18, r18, f0, f1, f2, ivs_inR hk, ivs_rput hk, Int.natCast_nonneg, Nat.zero_add]
  refine ⟨_, _, .sub [0, 1, 2, 3] ?_ .done, rfl, rfl⟩
  simp only [EmbV, go_sem, List.length_set]
theorem setl_no (fn : Int) (l v : List Int) (n : Int) (hn : n < 0 ∨ (v.length : Int) ≤ n) (x : Int) : Tri Try.prog 18 [.pbox 0 0, .int .i64 n, .int .i64 x] (frameM fn l v) (fun y m => y = .bool false ∧ m = frameM fn l v) := by
  unfold frameM
  refine Tri.post ?_
  by_cases f0 : n < 0
  · skip
    refine (Tri.enter (rl := r18) (code := c18) (by kernel_rfl) Try.func18 rfl c18_ok (by kernel_rfl) (by kernel_rfl) ?_)
    refine run_ok 4000 _ _ _ _ ?_
    simp (maxSteps := 10000000) only [go_sem, c18, r18, f0]
    exact ⟨_, _, .sub [0, 1, 2, 3] (by simp only [EmbV, go_sem]) .done, rfl, rfl⟩
  · have f1 : n ≥ (v.length : Int) := by omega
    skip
    refine (Tri.enter (rl := r18) (code := c18) (by kernel_rfl) Try.func18 rfl c18_ok (by kernel_rfl) (by kernel_rfl) ?_)
    refine run_ok 4000 _ _ _ _ ?_
    simp (maxSteps := 10000000) only [go_sem, c18, r18, f0, f1]
    exact ⟨_, _, .sub [0, 1, 2, 3] (by simp only [EmbV, go_sem]) .done, rfl, rfl⟩
/-- A call's locals at its beginning. -/
def locN (n : Int) : Nat := (max 0 (min n 16)).toNat
def locs (n : Int) (a : List Int) : List Int := (List.range (locN n)).map fun i => a.getD i 0
theorem locs_eq (n : Int) (a : List Int) : a.take (locN n) ++ List.replicate (locN n - a.length) 0 = locs n a := by
  unfold locs
  apply List.ext_getElem?
  intro i
  generalize locN n = k
  rw [List.getElem?_append, List.getElem?_map, List.length_take]
  by_cases h1 : i < min k a.length
  · rw [if_pos h1, List.getElem?_take, if_pos (by omega), List.getElem?_range (by omega)]
    simp [List.getD_eq_getElem?_getD, List.getElem?_eq_getElem (show i < a.length by omega)]
  · rw [if_neg h1, List.getElem?_replicate]
    by_cases h2 : i < k
    · rw [if_pos (by omega), List.getElem?_range h2]
      simp [List.getD_eq_getElem?_getD, List.getElem?_eq_none (show a.length ≤ i by omega)]
    · rw [if_neg (by omega), List.getElem?_eq_none (by simp; omega)]; rfl
theorem make_spec (fn n : Int) (hn : I64 n) (a : List Int) (tight : Bool) : Tri Try.prog 15 [.int .i64 fn, .int .i64 n, .vsl 1 (iv .i64 a) tight] [] (fun v m => v = .pbox 0 0 ∧ m = frameM fn [] (locs n a)) := by
  unfold frameM
  refine Tri.post ?_
  have e1 : (if (if (16 : Int) < n then 16 else n) > 0 then (if (16 : Int) < n then 16 else n) else 0) = ((locN n : Nat) : Int) := by unfold locN; split <;> split <;> omega
  have hle : locN n ≤ 16 := by unfold locN; omega
  have f1 : small (locN n) := by unfold small; omega
  have e2 : (iv .i64 a).take (min a.length (locN n)) ++ (List.replicate (locN n) [AV.int .i64 0]).drop (min a.length (locN n)) = iv .i64 (locs n a) := by
    rw [← locs_eq]
    unfold iv
    rw [List.map_append, List.map_take, List.map_replicate, List.drop_replicate]
    congr 1
    · by_cases h : a.length ≤ locN n
      · rw [Nat.min_eq_left h, List.take_of_length_le (by simp), List.take_of_length_le (by simp; omega)]
      · rw [Nat.min_eq_right (by omega)]
    · congr 1; omega
  have e3 : (locs n a).length = locN n := by simp [locs]
  skip
  skip
  refine (Tri.enter (rl := r15) (code := c15) (by kernel_rfl) Try.func15 rfl c15_ok (by kernel_rfl) (by kernel_rfl) ?_)
  refine run_ok 13 _ _ _ _ ?_
  simp (maxSteps := 10000000) only [go_sem, c15, r15, e1, f1, iv_len, Int.natCast_nonneg]
  refine sem_nilbox 1 0 1 rfl rfl ?_
  skip
  refine run_ok 4000 _ _ _ _ ?_
  simp (maxSteps := 10000000) only [go_sem, e1, f1, iv_len, Int.natCast_nonneg]
  rw [e2]
  refine ⟨_, _, .sub [3, 1, 2, 0] ?_ .done, rfl, rfl⟩
  simp only [EmbV, go_sem, e3, iv, List.map_nil]
/-- The reference's. -/
theorem rlocs_spec (n : Int) (hn : I64 n) (a : List Int) (tight : Bool) (ha : a.length ≤ 1000) : Tri Try.prog 16 [.int .i64 n, .vsl 1 (iv .i64 a) tight] [] (fun v m => v = .sl 0 0 (locs n a).length (locs n a).length false ∧ m = [.row 1 (iv .i64 (locs n a))]) := by
  refine Tri.post ?_
  have hle : locN n ≤ 16 := by unfold locN; omega
  skip
  skip
  refine (Tri.enter (rl := r16) (code := c16) (by kernel_rfl) Try.func16 rfl c16_ok (by kernel_rfl) (by kernel_rfl) ?_)
  refine run_ok 2 _ _ _ _ ?_
  simp (maxSteps := 10000000) only [go_sem, c16, r16, iv_len]
  skip
  refine sem_virt 7 1 rfl ?_
  refine run_ok 4000 _ _ _ _ ?_
  simp (maxSteps := 10000000) only [go_sem, iv_len]
  have hget : ∀ i, i < locN n → (locs n a).take (i + 1) = (locs n a).take i ++ [a.getD i 0] := by
    intro i hi
    have hl : (locs n a).length = locN n := by simp [locs]
    rw [List.take_succ_eq_append_getElem (by omega)]
    congr 2
    simp [locs]
  refine sem_rounds (fun i => i ≤ locN n) (fun i => [(0, .int .i64 n), (1, .vsl 1 (iv .i64 a) tight), (5, .sl 0 0 ((locs n a).take i).length ((locs n a).take i).length false), (6, .int .i64 (i : Nat))])
    (fun i => [.row 1 (iv .i64 ((locs n a).take i))]) (fun i => locN n - i) 0 [0] (by omega) ?_ ?_
  · simp only [Emb, go_sem, List.take_zero, List.length_nil, iv, List.map_nil]
  rintro i hi
  skip
  refine run_ok 4000 _ _ _ _ ?_
  simp (maxSteps := 10000000) only [go_sem, iv_len]
  refine ⟨fun hlt => ?_, fun hge => ?_⟩
  · have hlt : i < locN n := by unfold locN; split at hlt <;> omega
    have hgt := hget i hlt
    have hl1 : (locs n a).length = locN n := by simp [locs]
    have hl2 : ((locs n a).take i).length = i := by rw [List.length_take]; omega
    refine ⟨fun ha => ?_, fun ha => ?_⟩
    · have hia : i < a.length := by omega
      have f1 : (i : Int) < (a.length : Int) := by omega
      have hg : a.getD i 0 = a[i] := by rw [List.getD_eq_getElem?_getD, List.getElem?_eq_getElem hia]; rfl
      have hone : [[AV.int .i64 a[i]]] = iv .i64 [a.getD i 0] := by rw [hg]; rfl
      skip
      simp (maxSteps := 10000000) only [go_sem, f1, iv_hasI hia, iv_rint hia, hone, ivs_app, ivs_all, iv_len, Int.natCast_nonneg, Nat.zero_add, inc64 (show i < 1000000000000 by omega)]
      refine ⟨by unfold small; omega, i + 1, by omega, by omega, [1], ?_⟩
      rw [← hgt]
      have hl3 : ((locs n a).take (i + 1)).length = i + 1 := by rw [List.length_take]; omega
      simp only [Emb, go_sem, hl2, hl3]
    · have hg : a.getD i 0 = 0 := by rw [List.getD_eq_getElem?_getD, List.getElem?_eq_none (by omega)]; rfl
      have hone : [[AV.int .i64 0]] = iv .i64 [a.getD i 0] := by rw [hg]; rfl
      skip
      simp (maxSteps := 10000000) only [go_sem, hone, ivs_app, ivs_all, iv_len, Int.natCast_nonneg, Nat.zero_add, inc64 (show i < 1000000000000 by omega)]
      refine ⟨by unfold small; omega, i + 1, by omega, by omega, [1], ?_⟩
      rw [← hgt]
      have hl3 : ((locs n a).take (i + 1)).length = i + 1 := by rw [List.length_take]; omega
      simp only [Emb, go_sem, hl2, hl3]
  · have hi : i = locN n := by unfold locN at hi ⊢; split at hge <;> omega
    subst hi
    have hl1 : (locs n a).length = locN n := by simp [locs]
    have ht : (locs n a).take (locN n) = locs n a := by rw [← hl1]; exact List.take_length
    rw [ht]
    skip
    refine run_ok 4000 _ _ _ _ ?_
    simp (maxSteps := 10000000) only [go_sem]
    refine ⟨_, _, .sub [0] ?_ .done, rfl, rfl⟩
    simp only [EmbV, go_sem]
/-- The reference's stack. -/
theorem rpush_spec (l k : List Int) (t1 t2 : Bool) (h : l.length + k.length ≤ 64) : Tri Try.prog 51 [.vsl 1 (iv .i64 l) t1, .vsl 1 (iv .i64 k) t2] [] (fun v m => v = .tup [.vsl 1 (iv .i64 (l ++ k)) false, .bool true] ∧ m = []) := by
  refine Tri.post ?_
  have w1 : iwrap .i64 ((l.length : Int) + k.length) = ((l.length + k.length : Nat) : Int) := by rw [iwrap_i64_in (by omega)]; omega
  have f1 : ¬ ((l.length + k.length : Nat) : Int) > 64 := by omega
  skip
  refine (Tri.enter (rl := r51) (code := c51) (by kernel_rfl) Try.func51 rfl c51_ok (by kernel_rfl) (by kernel_rfl) ?_)
  refine run_ok 4000 _ _ _ _ ?_
  simp (maxSteps := 10000000) only [go_sem, c51, r51, w1, f1, iv_len, ivs_app, ivs_all]
  have hs : sub (iv .i64 (l ++ k)) 0 (l.length + k.length) = iv .i64 (l ++ k) := by have := ivs_all (l ++ k); rwa [List.length_append] at this
  refine ⟨by unfold small; omega, by unfold small; omega, _, _, .fz 1 rfl (by simp only [go_sem, iv_len, List.length_append, Nat.le_refl]) (.sub [] ?_ .done), rfl, rfl⟩
  simp only [EmbV, go_sem, hs]
theorem rpush_full (l k : List Int) (t1 t2 : Bool) (h : 64 < l.length + k.length) (h2 : l.length ≤ 64 ∧ k.length ≤ 1000) : Tri Try.prog 51 [.vsl 1 (iv .i64 l) t1, .vsl 1 (iv .i64 k) t2] [] (fun v m => v = .tup [.vsl 1 (iv .i64 l) t1, .bool false] ∧ m = []) := by
  refine Tri.post ?_
  have w1 : iwrap .i64 ((l.length : Int) + k.length) = ((l.length + k.length : Nat) : Int) := by rw [iwrap_i64_in (by omega)]; omega
  have f1 : ((l.length + k.length : Nat) : Int) > 64 := by omega
  skip
  refine (Tri.enter (rl := r51) (code := c51) (by kernel_rfl) Try.func51 rfl c51_ok (by kernel_rfl) (by kernel_rfl) ?_)
  refine run_ok 4000 _ _ _ _ ?_
  simp (maxSteps := 10000000) only [go_sem, c51, r51, w1, f1, iv_len]
  exact ⟨_, _, .sub [] (by simp only [EmbV, go_sem]) .done, rfl, rfl⟩
theorem rtake_spec (l : List Int) (n : Nat) (h : n ≤ l.length) (hl : l.length ≤ 1000) : Tri Try.prog 52 [.vsl 1 (iv .i64 l) false, .int .i64 n] []
    (fun v m => v = .tup [.vsl 1 (iv .i64 (l.take (l.length - n))) false, .vsl 1 (iv .i64 (l.drop (l.length - n))) false, .bool true] ∧ m = []) := by
  refine Tri.post ?_
  have w1 : iwrap .i64 ((l.length : Int) - n) = ((l.length - n : Nat) : Int) := by rw [iwrap_i64_in (by omega)]; omega
  have f0 : ¬ (n : Int) < 0 := by omega
  have f1 : ¬ (n : Int) > (l.length : Int) := by omega
  have f2 : ((l.length - n : Nat) : Int) ≤ (l.length : Int) := by omega
  have e1 : l.length - (l.length - n) = n := by omega
  have e2 : (l.drop (l.length - n)).take n = l.drop (l.length - n) := List.take_of_length_le (by rw [List.length_drop]; omega)
  skip
  refine (Tri.enter (rl := r52) (code := c52) (by kernel_rfl) Try.func52 rfl c52_ok (by kernel_rfl) (by kernel_rfl) ?_)
  refine run_ok 4000 _ _ _ _ ?_
  simp (maxSteps := 10000000) only [go_sem, c52, r52, w1, f0, f1, f2, e1, e2, iv_len, iv_sub, Int.natCast_nonneg, Nat.zero_add, Nat.sub_zero]
  refine sem_drawG l52_0_ok (by kernel_rfl) ?_
  intro KK hKK
  simp (maxSteps := 10000000) only [go_sem, l52_0, w1, f0, f1, f2, e1, e2, iv_len, iv_sub, Int.natCast_nonneg, Nat.zero_add, Nat.sub_zero]
  subst hKK
  simp (maxSteps := 10000000) only [go_sem, w1, f0, f1, f2, e1, e2, iv_len, iv_sub, Int.natCast_nonneg, Nat.zero_add, Nat.sub_zero]
  trace_state
  refine ⟨_, _, .sub [] ?_ .done, rfl, rfl⟩
  simp only [EmbV, go_sem]
theorem rtake_no (l : List Int) (t1 : Bool) (n : Int) (h : n < 0 ∨ (l.length : Int) < n) : Tri Try.prog 52 [.vsl 1 (iv .i64 l) t1, .int .i64 n] []
    (fun v m => v = .tup [.vsl 1 (iv .i64 l) t1, .nilsl, .bool false] ∧ m = []) := by
  refine Tri.post ?_
  by_cases f0 : n < 0
  · skip
    refine (Tri.enter (rl := r52) (code := c52) (by kernel_rfl) Try.func52 rfl c52_ok (by kernel_rfl) (by kernel_rfl) ?_)
    refine run_ok 4000 _ _ _ _ ?_
    simp (maxSteps := 10000000) only [go_sem, c52, r52, f0]
    exact ⟨_, _, .sub [] (by simp only [EmbV, go_sem]) .done, rfl, rfl⟩
  · have f1 : n > (l.length : Int) := by omega
    skip
    refine (Tri.enter (rl := r52) (code := c52) (by kernel_rfl) Try.func52 rfl c52_ok (by kernel_rfl) (by kernel_rfl) ?_)
    refine run_ok 4000 _ _ _ _ ?_
    simp (maxSteps := 10000000) only [go_sem, c52, r52, f0, f1, iv_len]
    exact ⟨_, _, .sub [] (by simp only [EmbV, go_sem]) .done, rfl, rfl⟩
theorem same_spec (l : List Int) (hl : l.length ≤ 100000) (t1 t2 : Bool) : Tri Try.prog 53 [.vsl 1 (iv .i64 l) t1, .vsl 1 (iv .i64 l) t2] [] (fun v m => v = .int .i64 0 ∧ m = []) := by
  refine Tri.post ?_
  have hne : ((l.length : Int) != (l.length : Int)) = false := by simp
  skip
  refine (Tri.enter (rl := r53) (code := c53) (by kernel_rfl) Try.func53 rfl c53_ok (by kernel_rfl) (by kernel_rfl) ?_)
  refine run_ok 4000 _ _ _ _ ?_
  simp (maxSteps := 10000000) only [go_sem, c53, r53, iv_len, hne]
  refine sem_rounds (fun i => i ≤ l.length) (fun i => [(0, .vsl 1 (iv .i64 l) t1), (1, .vsl 1 (iv .i64 l) t2), (12, .int .i64 l.length), (13, .int .i64 (i : Nat))]) (fun i => []) (fun i => l.length - i) 0 [] (by omega) ?_ ?_
  · simp only [Emb, go_sem]
  rintro i hi
  skip
  refine run_ok 4000 _ _ _ _ ?_
  simp (maxSteps := 10000000) only [go_sem]
  refine ⟨fun hlt => ?_, fun hge => ?_⟩
  · have hlt : i < l.length := by omega
    have f1 : (i : Int) < (l.length : Int) := by omega
    have hne : (l[i] != l[i]) = false := by simp
    skip
    simp (maxSteps := 10000000) only [go_sem, iv_len, f1, iv_hasI hlt, iv_rint hlt, hne, Int.natCast_nonneg, Nat.zero_add, inc64 (show i < 1000000000000 by omega)]
    refine sem_drawG l53_0_ok (by kernel_rfl) ?_
    intro KK hKK
    simp (maxSteps := 10000000) only [go_sem, l53_0, iv_len, f1, iv_hasI hlt, iv_rint hlt, hne, Int.natCast_nonneg, Nat.zero_add, inc64 (show i < 1000000000000 by omega)]
    subst hKK
    simp (maxSteps := 10000000) only [go_sem, iv_len, f1, iv_hasI hlt, iv_rint hlt, hne, Int.natCast_nonneg, Nat.zero_add, inc64 (show i < 1000000000000 by omega)]
    refine ⟨i + 1, by omega, by omega, [], ?_⟩
    simp only [Emb, go_sem]
  · skip
    refine run_ok 4000 _ _ _ _ ?_
    simp (maxSteps := 10000000) only [go_sem]
    exact ⟨_, _, .sub [] (by simp only [EmbV, go_sem]) .done, rfl, rfl⟩
end Go.AEX
