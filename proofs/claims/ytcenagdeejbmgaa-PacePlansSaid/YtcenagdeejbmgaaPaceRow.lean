/- PaceRow, PaceSteady: the laws' evaluations. -/
import Derived.Test.YtcenagdeejbmgaaPace3
import Derived.Test.YtcenagdeejbmgaaAEsa
namespace Go.AEX
open Go Go.AE Go.Proofs
set_option maxRecDepth 100000
set_option linter.unusedVariables false
set_option linter.unusedSimpArgs false

theorem addT_app (T a b : List Int) : addT T (a ++ b) = addT (addT T a) b := by
  induction a generalizing T with
  | nil => rfl
  | cons x a ih => simpa [addT] using ih _
theorem add1_pos {T : List Int} {x : Int} (h : ∀ y ∈ T, 0 ≤ y) : ∀ y ∈ add1 T x, 0 ≤ y := by
  have hp : ∀ y ∈ T ++ [max x 0], 0 ≤ y := by
    intro y hy
    rcases List.mem_append.1 hy with h' | h'
    · exact h y h'
    · simp at h'; omega
  intro y hy
  unfold add1 at hy
  split at hy
  · exact hp y (List.mem_of_mem_drop hy)
  · exact hp y hy
theorem addT_pos : ∀ (l T : List Int), (∀ y ∈ T, 0 ≤ y) → ∀ y ∈ addT T l, 0 ≤ y
  | [], T, h => h
  | x :: l, T, h => addT_pos l _ (add1_pos h)
theorem last8_app (l : List Int) (x : Int) : last8 (l ++ [x]) = if (last8 l).length + 1 > 8 then (last8 l ++ [x]).drop 1 else last8 l ++ [x] := by
  have hlen : (last8 l).length = l.length - (l.length - 8) := by unfold last8; simp
  unfold last8
  rw [List.length_append, List.length_drop]
  simp only [List.length_cons, List.length_nil]
  split
  · rw [show l.length + (0 + 1) - 8 = (l.length - 8) + 1 by omega, ← List.drop_append_of_le_length (by omega : l.length - 8 ≤ l.length), List.drop_drop]
  · rw [show l.length + (0 + 1) - 8 = 0 by omega, show l.length - 8 = 0 by omega]; rfl
/-- What is looked at: the last eight of all that came. -/
theorem addT_last (l : List Int) : ∀ (k : List Int), addT (last8 k) l = last8 (k ++ l.map (max · 0)) := by
  induction l with
  | nil => intro k; simp [addT]
  | cons x l ih =>
    intro k
    have : add1 (last8 k) x = last8 (k ++ [max x 0]) := by rw [last8_app]; rfl
    rw [addT, this, ih]
    simp
theorem last8_len (l : List Int) : (last8 l).length = min l.length 8 := by unfold last8; rw [List.length_drop]; omega
theorem last8_long (k l : List Int) (h : 8 ≤ l.length) : last8 (k ++ l) = last8 l := by
  unfold last8
  rw [List.length_append, show k.length + l.length - 8 = k.length + (l.length - 8) by omega, List.drop_append]
  simp
theorem addT_nil (l : List Int) : addT [] l = last8 (l.map (max · 0)) := by have := addT_last l []; simpa [last8] using this
theorem ints_row {xs : List (List AV)} (h : ∀ x ∈ xs, HasL [.int .i64] x) : ∃ l : List Int, xs = iv .i64 l ∧ ∀ n ∈ l, (Lit.int .i64 n).wf = true := by
  induction xs with
  | nil => exact ⟨[], rfl, by simp⟩
  | cons x xs ih =>
    obtain ⟨l, rfl, hl⟩ := ih fun y hy => h y (by simp [hy])
    have hx := h x (by simp)
    simp only [HasL, Has] at hx
    obtain ⟨_, _, rfl, ⟨n, rfl, hn⟩, rfl⟩ := hx
    exact ⟨n :: l, rfl, fun m hm => by rcases List.mem_cons.1 hm with rfl | hm; exact hn; exact hl m hm⟩
theorem addT_len (l : List Int) : (addT [] l).length = min l.length 8 := by rw [addT_nil, last8_len, List.length_map]
theorem paceRow_spec (a : List Int) (ha : ∀ n ∈ a, (Lit.int .i64 n).wf = true) (b : List Int) (hb : ∀ n ∈ b, (Lit.int .i64 n).wf = true) (x : Int) (hx : (Lit.int .i64 x).wf = true) (y : Int) (hy : (Lit.int .i64 y).wf = true) :
    Tri Try.prog 7 [.vsl 1 (iv .i64 a) false, .vsl 1 (iv .i64 b) false, .int .i64 x, .int .i64 y] [] (fun v m => v = .bool true) := by
  skip
  refine (Tri.asB (Tri.enter (rl := r7) (code := c7) (by kernel_rfl) Try.func7 rfl c7_ok (by kernel_rfl) (by kernel_rfl) ?_))
  refine run_ok 4000 _ _ _ _ ?_
  simp (maxSteps := 10000000) only [go_sem, c7, r7, iv_len]
  refine sem_call rfl rfl (((awake17_spec).embed [] rfl trivial rfl rfl rfl (by simp)).mono ?_)
  rintro _ _ ⟨_, _, ⟨rfl, rfl⟩, rfl, rfl⟩
  refine run_ok 4000 _ _ _ _ ?_
  simp (maxSteps := 10000000) only [go_sem, iv_len]
  have hs : ∀ l : List Int, sub (iv .i64 l) 0 30 = iv .i64 (l.take 30) := fun l => by rw [iv_sub]; rfl
  refine ⟨fun h1 => ⟨by omega, fun h2 => ⟨by omega, ?_⟩, fun h2 => ?_⟩, fun h1 => ⟨fun h2 => ⟨by omega, ?_⟩, fun h2 => ?_⟩⟩
  · have l1 : (a.take 30).length ≤ 30 := by rw [List.length_take]; omega
    have l2 : (b.take 30).length ≤ 30 := by rw [List.length_take]; omega
    rw [hs, hs]
    generalize a.take 30 = A at *
    generalize b.take 30 = B at *
    refine sem_nilbox 0 0 1 rfl rfl ?_
    simp (maxSteps := 10000000) only [go_sem, iv_len]
    refine sem_nilbox 1 0 1 rfl rfl ?_
    skip
    simp (maxSteps := 10000000) only [go_sem, iv_len, mtr, mtg]
    refine sem_call rfl rfl (((add_spec [] [] A false (by simp) (by omega)).embed [0, 2] rfl (by repeat' first | exact trivial | rfl | (simp only [go_sem]; done) | constructor) rfl (by first | rfl | simp only [go_sem]) rfl (by simp)).mono ?_)
    rintro _ _ ⟨_, _, ⟨rfl, p1, rfl⟩, rfl, rfl⟩
    refine run_ok 4000 _ _ _ _ ?_
    simp (maxSteps := 10000000) only [go_sem, iv_len, mtr, mtg]
    refine sem_call rfl rfl (((add_spec p1 (addT [] A) B false (by rw [addT_len]; omega) (by omega)).embed [0, 4] rfl (by repeat' first | exact trivial | rfl | (simp only [go_sem]; done) | constructor) rfl (by first | rfl | simp only [go_sem]) rfl (by simp)).mono ?_)
    rintro _ _ ⟨_, _, ⟨rfl, p2, rfl⟩, rfl, rfl⟩
    refine run_ok 4000 _ _ _ _ ?_
    simp (maxSteps := 10000000) only [go_sem, iv_len, mtr, mtg]
    refine sem_call rfl rfl (((add_spec [] [] B false (by simp) (by omega)).embed [1, 3] rfl (by repeat' first | exact trivial | rfl | (simp only [go_sem]; done) | constructor) rfl (by first | rfl | simp only [go_sem]) rfl (by simp)).mono ?_)
    rintro _ _ ⟨_, _, ⟨rfl, p3, rfl⟩, rfl, rfl⟩
    refine run_ok 4000 _ _ _ _ ?_
    simp (maxSteps := 10000000) only [go_sem, iv_len, mtr, mtg]
    have hT : addT (addT [] A) B = addT [] (A ++ B) := (addT_app [] A B).symm
    refine ⟨fun h8 => ?_, fun h8 => ?_⟩
    · have hw : iwrap .i64 ((A.length : Int) + B.length) = (A.length : Int) + B.length := iwrap_i64_in (by omega)
      have hl := addT_len (A ++ B)
      rw [← hT, List.length_append] at hl
      have he : (((addT (addT [] A) B).length : Int) == if (8 : Int) < (A.length : Int) + B.length then 8 else (A.length : Int) + B.length) = true := by
        rw [hl, beq_iff_eq]; split <;> omega
      skip
      refine sem_call rfl rfl (((mlen_spec p2 (addT (addT [] A) B)).embed [0, 5] rfl (by repeat' first | exact trivial | rfl | (simp only [go_sem]; done) | constructor) rfl (by first | rfl | simp only [go_sem]) rfl (by simp)).mono ?_)
      rintro _ _ ⟨_, _, ⟨rfl, rfl⟩, rfl, rfl⟩
      refine run_ok 4000 _ _ _ _ ?_
      simp (maxSteps := 10000000) only [go_sem, iv_len, mtr, mtg, hw, he]
    · have hT2 : addT [] (A ++ B) = addT [] B := by
        rw [addT_nil, addT_nil, List.map_append, last8_long _ _ (by rw [List.length_map]; omega)]
      rw [hT2] at hT
      have hl := addT_len B
      have hp := addT_pos B [] (by simp)
      rw [hT]
      generalize addT [] B = T at *
      skip
      refine sem_call rfl rfl (((right_spec x y).embed [] rfl trivial rfl rfl rfl (by simp)).mono ?_)
      rintro _ _ ⟨_, _, ⟨rfl, rfl⟩, rfl, rfl⟩
      refine run_ok 4000 _ _ _ _ ?_
      simp (maxSteps := 10000000) only [go_sem, iv_len, mtr, mtg]
      have hg := right_good x y
      generalize right x y = q at *
      refine sem_drawG l7_0_ok (by kernel_rfl) ?_
      intro KK hKK
      simp (maxSteps := 10000000) only [go_sem, l7_0, iv_len, mtr, mtg]
      refine TriZ.of (((worst_spec p2 T (by omega)).embed [0, 5] rfl (by repeat' first | exact trivial | rfl | (simp only [go_sem]; done) | constructor) rfl (by first | rfl | simp only [go_sem]) rfl (by simp)).mono ?_)
      rintro _ _ ⟨_, _, ⟨rfl, rfl⟩, rfl, rfl⟩
      simp (maxSteps := 10000000) only [go_sem, iv_len, mtr, mtg]
      refine TriZ.of (((worst_spec p3 T (by omega)).embed [1, 6] rfl (by repeat' first | exact trivial | rfl | (simp only [go_sem]; done) | constructor) rfl (by first | rfl | simp only [go_sem]) rfl (by simp)).mono ?_)
      rintro _ _ ⟨_, _, ⟨rfl, rfl⟩, rfl, rfl⟩
      simp (maxSteps := 10000000) only [go_sem, iv_len, mtr, mtg]
      refine TriZ.of (((mean_spec p2 T (by omega) hp).embed [0, 5] rfl (by repeat' first | exact trivial | rfl | (simp only [go_sem]; done) | constructor) rfl (by first | rfl | simp only [go_sem]) rfl (by simp)).mono ?_)
      rintro _ _ ⟨_, _, ⟨rfl, rfl⟩, rfl, rfl⟩
      simp (maxSteps := 10000000) only [go_sem, iv_len, mtr, mtg]
      refine TriZ.of (((mean_spec p3 T (by omega) hp).embed [1, 6] rfl (by repeat' first | exact trivial | rfl | (simp only [go_sem]; done) | constructor) rfl (by first | rfl | simp only [go_sem]) rfl (by simp)).mono ?_)
      rintro _ _ ⟨_, _, ⟨rfl, rfl⟩, rfl, rfl⟩
      simp (maxSteps := 10000000) only [go_sem, iv_len, mtr, mtg]
      refine TriZ.of (((mlen_spec p2 T).embed [0, 5] rfl (by repeat' first | exact trivial | rfl | (simp only [go_sem]; done) | constructor) rfl (by first | rfl | simp only [go_sem]) rfl (by simp)).mono ?_)
      rintro _ _ ⟨_, _, ⟨rfl, rfl⟩, rfl, rfl⟩
      simp (maxSteps := 10000000) only [go_sem, iv_len, mtr, mtg]
      refine TriZ.of (((mlen_spec p3 T).embed [1, 6] rfl (by repeat' first | exact trivial | rfl | (simp only [go_sem]; done) | constructor) rfl (by first | rfl | simp only [go_sem]) rfl (by simp)).mono ?_)
      rintro _ _ ⟨_, _, ⟨rfl, rfl⟩, rfl, rfl⟩
      simp (maxSteps := 10000000) only [go_sem, iv_len, mtr, mtg]
      refine TriZ.of (((next_spec p2 T q.1 q.2 (by omega) hp hg).embed [0, 5] rfl (by repeat' first | exact trivial | rfl | (simp only [go_sem]; done) | constructor) rfl (by first | rfl | simp only [go_sem]) rfl (by simp)).mono ?_)
      rintro _ _ ⟨_, _, ⟨rfl, rfl⟩, rfl, rfl⟩
      simp (maxSteps := 10000000) only [go_sem, iv_len, mtr, mtg]
      refine TriZ.of (((next_spec p3 T q.1 q.2 (by omega) hp hg).embed [1, 6] rfl (by repeat' first | exact trivial | rfl | (simp only [go_sem]; done) | constructor) rfl (by first | rfl | simp only [go_sem]) rfl (by simp)).mono ?_)
      rintro _ _ ⟨_, _, ⟨rfl, rfl⟩, rfl, rfl⟩
      simp (maxSteps := 10000000) only [go_sem, iv_len, mtr, mtg]
      subst hKK
      simp (maxSteps := 10000000) only [go_sem, iv_len, mtr, mtg]
  · have l1 : (a.take 30).length ≤ 30 := by rw [List.length_take]; omega
    have l2 : b.length ≤ 30 := by omega
    rw [hs]
    generalize a.take 30 = A at *
    generalize b = B at *
    refine sem_nilbox 0 0 1 rfl rfl ?_
    simp (maxSteps := 10000000) only [go_sem, iv_len, mtr, mtg]
    refine sem_nilbox 1 0 1 rfl rfl ?_
    skip
    simp (maxSteps := 10000000) only [go_sem, iv_len, mtr, mtg]
    refine sem_call rfl rfl (((add_spec [] [] A false (by simp) (by omega)).embed [0, 2] rfl (by repeat' first | exact trivial | rfl | (simp only [go_sem]; done) | constructor) rfl (by first | rfl | simp only [go_sem]) rfl (by simp)).mono ?_)
    rintro _ _ ⟨_, _, ⟨rfl, p1, rfl⟩, rfl, rfl⟩
    refine run_ok 4000 _ _ _ _ ?_
    simp (maxSteps := 10000000) only [go_sem, iv_len, mtr, mtg]
    refine sem_call rfl rfl (((add_spec p1 (addT [] A) B false (by rw [addT_len]; omega) (by omega)).embed [0, 4] rfl (by repeat' first | exact trivial | rfl | (simp only [go_sem]; done) | constructor) rfl (by first | rfl | simp only [go_sem]) rfl (by simp)).mono ?_)
    rintro _ _ ⟨_, _, ⟨rfl, p2, rfl⟩, rfl, rfl⟩
    refine run_ok 4000 _ _ _ _ ?_
    simp (maxSteps := 10000000) only [go_sem, iv_len, mtr, mtg]
    refine sem_call rfl rfl (((add_spec [] [] B false (by simp) (by omega)).embed [1, 3] rfl (by repeat' first | exact trivial | rfl | (simp only [go_sem]; done) | constructor) rfl (by first | rfl | simp only [go_sem]) rfl (by simp)).mono ?_)
    rintro _ _ ⟨_, _, ⟨rfl, p3, rfl⟩, rfl, rfl⟩
    refine run_ok 4000 _ _ _ _ ?_
    simp (maxSteps := 10000000) only [go_sem, iv_len, mtr, mtg]
    have hT : addT (addT [] A) B = addT [] (A ++ B) := (addT_app [] A B).symm
    refine ⟨fun h8 => ?_, fun h8 => ?_⟩
    · have hw : iwrap .i64 ((A.length : Int) + B.length) = (A.length : Int) + B.length := iwrap_i64_in (by omega)
      have hl := addT_len (A ++ B)
      rw [← hT, List.length_append] at hl
      have he : (((addT (addT [] A) B).length : Int) == if (8 : Int) < (A.length : Int) + B.length then 8 else (A.length : Int) + B.length) = true := by
        rw [hl, beq_iff_eq]; split <;> omega
      skip
      refine sem_call rfl rfl (((mlen_spec p2 (addT (addT [] A) B)).embed [0, 5] rfl (by repeat' first | exact trivial | rfl | (simp only [go_sem]; done) | constructor) rfl (by first | rfl | simp only [go_sem]) rfl (by simp)).mono ?_)
      rintro _ _ ⟨_, _, ⟨rfl, rfl⟩, rfl, rfl⟩
      refine run_ok 4000 _ _ _ _ ?_
      simp (maxSteps := 10000000) only [go_sem, iv_len, mtr, mtg, hw, he]
    · have hT2 : addT [] (A ++ B) = addT [] B := by
        rw [addT_nil, addT_nil, List.map_append, last8_long _ _ (by rw [List.length_map]; omega)]
      rw [hT2] at hT
      have hl := addT_len B
      have hp := addT_pos B [] (by simp)
      rw [hT]
      generalize addT [] B = T at *
      skip
      refine sem_call rfl rfl (((right_spec x y).embed [] rfl trivial rfl rfl rfl (by simp)).mono ?_)
      rintro _ _ ⟨_, _, ⟨rfl, rfl⟩, rfl, rfl⟩
      refine run_ok 4000 _ _ _ _ ?_
      simp (maxSteps := 10000000) only [go_sem, iv_len, mtr, mtg]
      have hg := right_good x y
      generalize right x y = q at *
      refine sem_drawG l7_0_ok (by kernel_rfl) ?_
      intro KK hKK
      simp (maxSteps := 10000000) only [go_sem, l7_0, iv_len, mtr, mtg]
      refine TriZ.of (((worst_spec p2 T (by omega)).embed [0, 5] rfl (by repeat' first | exact trivial | rfl | (simp only [go_sem]; done) | constructor) rfl (by first | rfl | simp only [go_sem]) rfl (by simp)).mono ?_)
      rintro _ _ ⟨_, _, ⟨rfl, rfl⟩, rfl, rfl⟩
      simp (maxSteps := 10000000) only [go_sem, iv_len, mtr, mtg]
      refine TriZ.of (((worst_spec p3 T (by omega)).embed [1, 6] rfl (by repeat' first | exact trivial | rfl | (simp only [go_sem]; done) | constructor) rfl (by first | rfl | simp only [go_sem]) rfl (by simp)).mono ?_)
      rintro _ _ ⟨_, _, ⟨rfl, rfl⟩, rfl, rfl⟩
      simp (maxSteps := 10000000) only [go_sem, iv_len, mtr, mtg]
      refine TriZ.of (((mean_spec p2 T (by omega) hp).embed [0, 5] rfl (by repeat' first | exact trivial | rfl | (simp only [go_sem]; done) | constructor) rfl (by first | rfl | simp only [go_sem]) rfl (by simp)).mono ?_)
      rintro _ _ ⟨_, _, ⟨rfl, rfl⟩, rfl, rfl⟩
      simp (maxSteps := 10000000) only [go_sem, iv_len, mtr, mtg]
      refine TriZ.of (((mean_spec p3 T (by omega) hp).embed [1, 6] rfl (by repeat' first | exact trivial | rfl | (simp only [go_sem]; done) | constructor) rfl (by first | rfl | simp only [go_sem]) rfl (by simp)).mono ?_)
      rintro _ _ ⟨_, _, ⟨rfl, rfl⟩, rfl, rfl⟩
      simp (maxSteps := 10000000) only [go_sem, iv_len, mtr, mtg]
      refine TriZ.of (((mlen_spec p2 T).embed [0, 5] rfl (by repeat' first | exact trivial | rfl | (simp only [go_sem]; done) | constructor) rfl (by first | rfl | simp only [go_sem]) rfl (by simp)).mono ?_)
      rintro _ _ ⟨_, _, ⟨rfl, rfl⟩, rfl, rfl⟩
      simp (maxSteps := 10000000) only [go_sem, iv_len, mtr, mtg]
      refine TriZ.of (((mlen_spec p3 T).embed [1, 6] rfl (by repeat' first | exact trivial | rfl | (simp only [go_sem]; done) | constructor) rfl (by first | rfl | simp only [go_sem]) rfl (by simp)).mono ?_)
      rintro _ _ ⟨_, _, ⟨rfl, rfl⟩, rfl, rfl⟩
      simp (maxSteps := 10000000) only [go_sem, iv_len, mtr, mtg]
      refine TriZ.of (((next_spec p2 T q.1 q.2 (by omega) hp hg).embed [0, 5] rfl (by repeat' first | exact trivial | rfl | (simp only [go_sem]; done) | constructor) rfl (by first | rfl | simp only [go_sem]) rfl (by simp)).mono ?_)
      rintro _ _ ⟨_, _, ⟨rfl, rfl⟩, rfl, rfl⟩
      simp (maxSteps := 10000000) only [go_sem, iv_len, mtr, mtg]
      refine TriZ.of (((next_spec p3 T q.1 q.2 (by omega) hp hg).embed [1, 6] rfl (by repeat' first | exact trivial | rfl | (simp only [go_sem]; done) | constructor) rfl (by first | rfl | simp only [go_sem]) rfl (by simp)).mono ?_)
      rintro _ _ ⟨_, _, ⟨rfl, rfl⟩, rfl, rfl⟩
      simp (maxSteps := 10000000) only [go_sem, iv_len, mtr, mtg]
      subst hKK
      simp (maxSteps := 10000000) only [go_sem, iv_len, mtr, mtg]
  · have l1 : a.length ≤ 30 := by omega
    have l2 : (b.take 30).length ≤ 30 := by rw [List.length_take]; omega
    rw [hs]
    generalize b.take 30 = B at *
    generalize a = A at *
    refine sem_nilbox 0 0 1 rfl rfl ?_
    simp (maxSteps := 10000000) only [go_sem, iv_len, mtr, mtg]
    refine sem_nilbox 1 0 1 rfl rfl ?_
    skip
    simp (maxSteps := 10000000) only [go_sem, iv_len, mtr, mtg]
    refine sem_call rfl rfl (((add_spec [] [] A false (by simp) (by omega)).embed [0, 2] rfl (by repeat' first | exact trivial | rfl | (simp only [go_sem]; done) | constructor) rfl (by first | rfl | simp only [go_sem]) rfl (by simp)).mono ?_)
    rintro _ _ ⟨_, _, ⟨rfl, p1, rfl⟩, rfl, rfl⟩
    refine run_ok 4000 _ _ _ _ ?_
    simp (maxSteps := 10000000) only [go_sem, iv_len, mtr, mtg]
    refine sem_call rfl rfl (((add_spec p1 (addT [] A) B false (by rw [addT_len]; omega) (by omega)).embed [0, 4] rfl (by repeat' first | exact trivial | rfl | (simp only [go_sem]; done) | constructor) rfl (by first | rfl | simp only [go_sem]) rfl (by simp)).mono ?_)
    rintro _ _ ⟨_, _, ⟨rfl, p2, rfl⟩, rfl, rfl⟩
    refine run_ok 4000 _ _ _ _ ?_
    simp (maxSteps := 10000000) only [go_sem, iv_len, mtr, mtg]
    refine sem_call rfl rfl (((add_spec [] [] B false (by simp) (by omega)).embed [1, 3] rfl (by repeat' first | exact trivial | rfl | (simp only [go_sem]; done) | constructor) rfl (by first | rfl | simp only [go_sem]) rfl (by simp)).mono ?_)
    rintro _ _ ⟨_, _, ⟨rfl, p3, rfl⟩, rfl, rfl⟩
    refine run_ok 4000 _ _ _ _ ?_
    simp (maxSteps := 10000000) only [go_sem, iv_len, mtr, mtg]
    have hT : addT (addT [] A) B = addT [] (A ++ B) := (addT_app [] A B).symm
    refine ⟨fun h8 => ?_, fun h8 => ?_⟩
    · have hw : iwrap .i64 ((A.length : Int) + B.length) = (A.length : Int) + B.length := iwrap_i64_in (by omega)
      have hl := addT_len (A ++ B)
      rw [← hT, List.length_append] at hl
      have he : (((addT (addT [] A) B).length : Int) == if (8 : Int) < (A.length : Int) + B.length then 8 else (A.length : Int) + B.length) = true := by
        rw [hl, beq_iff_eq]; split <;> omega
      skip
      refine sem_call rfl rfl (((mlen_spec p2 (addT (addT [] A) B)).embed [0, 5] rfl (by repeat' first | exact trivial | rfl | (simp only [go_sem]; done) | constructor) rfl (by first | rfl | simp only [go_sem]) rfl (by simp)).mono ?_)
      rintro _ _ ⟨_, _, ⟨rfl, rfl⟩, rfl, rfl⟩
      refine run_ok 4000 _ _ _ _ ?_
      simp (maxSteps := 10000000) only [go_sem, iv_len, mtr, mtg, hw, he]
    · have hT2 : addT [] (A ++ B) = addT [] B := by
        rw [addT_nil, addT_nil, List.map_append, last8_long _ _ (by rw [List.length_map]; omega)]
      rw [hT2] at hT
      have hl := addT_len B
      have hp := addT_pos B [] (by simp)
      rw [hT]
      generalize addT [] B = T at *
      skip
      refine sem_call rfl rfl (((right_spec x y).embed [] rfl trivial rfl rfl rfl (by simp)).mono ?_)
      rintro _ _ ⟨_, _, ⟨rfl, rfl⟩, rfl, rfl⟩
      refine run_ok 4000 _ _ _ _ ?_
      simp (maxSteps := 10000000) only [go_sem, iv_len, mtr, mtg]
      have hg := right_good x y
      generalize right x y = q at *
      refine sem_drawG l7_0_ok (by kernel_rfl) ?_
      intro KK hKK
      simp (maxSteps := 10000000) only [go_sem, l7_0, iv_len, mtr, mtg]
      refine TriZ.of (((worst_spec p2 T (by omega)).embed [0, 5] rfl (by repeat' first | exact trivial | rfl | (simp only [go_sem]; done) | constructor) rfl (by first | rfl | simp only [go_sem]) rfl (by simp)).mono ?_)
      rintro _ _ ⟨_, _, ⟨rfl, rfl⟩, rfl, rfl⟩
      simp (maxSteps := 10000000) only [go_sem, iv_len, mtr, mtg]
      refine TriZ.of (((worst_spec p3 T (by omega)).embed [1, 6] rfl (by repeat' first | exact trivial | rfl | (simp only [go_sem]; done) | constructor) rfl (by first | rfl | simp only [go_sem]) rfl (by simp)).mono ?_)
      rintro _ _ ⟨_, _, ⟨rfl, rfl⟩, rfl, rfl⟩
      simp (maxSteps := 10000000) only [go_sem, iv_len, mtr, mtg]
      refine TriZ.of (((mean_spec p2 T (by omega) hp).embed [0, 5] rfl (by repeat' first | exact trivial | rfl | (simp only [go_sem]; done) | constructor) rfl (by first | rfl | simp only [go_sem]) rfl (by simp)).mono ?_)
      rintro _ _ ⟨_, _, ⟨rfl, rfl⟩, rfl, rfl⟩
      simp (maxSteps := 10000000) only [go_sem, iv_len, mtr, mtg]
      refine TriZ.of (((mean_spec p3 T (by omega) hp).embed [1, 6] rfl (by repeat' first | exact trivial | rfl | (simp only [go_sem]; done) | constructor) rfl (by first | rfl | simp only [go_sem]) rfl (by simp)).mono ?_)
      rintro _ _ ⟨_, _, ⟨rfl, rfl⟩, rfl, rfl⟩
      simp (maxSteps := 10000000) only [go_sem, iv_len, mtr, mtg]
      refine TriZ.of (((mlen_spec p2 T).embed [0, 5] rfl (by repeat' first | exact trivial | rfl | (simp only [go_sem]; done) | constructor) rfl (by first | rfl | simp only [go_sem]) rfl (by simp)).mono ?_)
      rintro _ _ ⟨_, _, ⟨rfl, rfl⟩, rfl, rfl⟩
      simp (maxSteps := 10000000) only [go_sem, iv_len, mtr, mtg]
      refine TriZ.of (((mlen_spec p3 T).embed [1, 6] rfl (by repeat' first | exact trivial | rfl | (simp only [go_sem]; done) | constructor) rfl (by first | rfl | simp only [go_sem]) rfl (by simp)).mono ?_)
      rintro _ _ ⟨_, _, ⟨rfl, rfl⟩, rfl, rfl⟩
      simp (maxSteps := 10000000) only [go_sem, iv_len, mtr, mtg]
      refine TriZ.of (((next_spec p2 T q.1 q.2 (by omega) hp hg).embed [0, 5] rfl (by repeat' first | exact trivial | rfl | (simp only [go_sem]; done) | constructor) rfl (by first | rfl | simp only [go_sem]) rfl (by simp)).mono ?_)
      rintro _ _ ⟨_, _, ⟨rfl, rfl⟩, rfl, rfl⟩
      simp (maxSteps := 10000000) only [go_sem, iv_len, mtr, mtg]
      refine TriZ.of (((next_spec p3 T q.1 q.2 (by omega) hp hg).embed [1, 6] rfl (by repeat' first | exact trivial | rfl | (simp only [go_sem]; done) | constructor) rfl (by first | rfl | simp only [go_sem]) rfl (by simp)).mono ?_)
      rintro _ _ ⟨_, _, ⟨rfl, rfl⟩, rfl, rfl⟩
      simp (maxSteps := 10000000) only [go_sem, iv_len, mtr, mtg]
      subst hKK
      simp (maxSteps := 10000000) only [go_sem, iv_len, mtr, mtg]
  · have l1 : a.length ≤ 30 := by omega
    have l2 : b.length ≤ 30 := by omega
    generalize a = A at *
    generalize b = B at *
    refine sem_nilbox 0 0 1 rfl rfl ?_
    simp (maxSteps := 10000000) only [go_sem, iv_len, mtr, mtg]
    refine sem_nilbox 1 0 1 rfl rfl ?_
    skip
    simp (maxSteps := 10000000) only [go_sem, iv_len, mtr, mtg]
    refine sem_call rfl rfl (((add_spec [] [] A false (by simp) (by omega)).embed [0, 2] rfl (by repeat' first | exact trivial | rfl | (simp only [go_sem]; done) | constructor) rfl (by first | rfl | simp only [go_sem]) rfl (by simp)).mono ?_)
    rintro _ _ ⟨_, _, ⟨rfl, p1, rfl⟩, rfl, rfl⟩
    refine run_ok 4000 _ _ _ _ ?_
    simp (maxSteps := 10000000) only [go_sem, iv_len, mtr, mtg]
    refine sem_call rfl rfl (((add_spec p1 (addT [] A) B false (by rw [addT_len]; omega) (by omega)).embed [0, 4] rfl (by repeat' first | exact trivial | rfl | (simp only [go_sem]; done) | constructor) rfl (by first | rfl | simp only [go_sem]) rfl (by simp)).mono ?_)
    rintro _ _ ⟨_, _, ⟨rfl, p2, rfl⟩, rfl, rfl⟩
    refine run_ok 4000 _ _ _ _ ?_
    simp (maxSteps := 10000000) only [go_sem, iv_len, mtr, mtg]
    refine sem_call rfl rfl (((add_spec [] [] B false (by simp) (by omega)).embed [1, 3] rfl (by repeat' first | exact trivial | rfl | (simp only [go_sem]; done) | constructor) rfl (by first | rfl | simp only [go_sem]) rfl (by simp)).mono ?_)
    rintro _ _ ⟨_, _, ⟨rfl, p3, rfl⟩, rfl, rfl⟩
    refine run_ok 4000 _ _ _ _ ?_
    simp (maxSteps := 10000000) only [go_sem, iv_len, mtr, mtg]
    have hT : addT (addT [] A) B = addT [] (A ++ B) := (addT_app [] A B).symm
    refine ⟨fun h8 => ?_, fun h8 => ?_⟩
    · have hw : iwrap .i64 ((A.length : Int) + B.length) = (A.length : Int) + B.length := iwrap_i64_in (by omega)
      have hl := addT_len (A ++ B)
      rw [← hT, List.length_append] at hl
      have he : (((addT (addT [] A) B).length : Int) == if (8 : Int) < (A.length : Int) + B.length then 8 else (A.length : Int) + B.length) = true := by
        rw [hl, beq_iff_eq]; split <;> omega
      skip
      refine sem_call rfl rfl (((mlen_spec p2 (addT (addT [] A) B)).embed [0, 5] rfl (by repeat' first | exact trivial | rfl | (simp only [go_sem]; done) | constructor) rfl (by first | rfl | simp only [go_sem]) rfl (by simp)).mono ?_)
      rintro _ _ ⟨_, _, ⟨rfl, rfl⟩, rfl, rfl⟩
      refine run_ok 4000 _ _ _ _ ?_
      simp (maxSteps := 10000000) only [go_sem, iv_len, mtr, mtg, hw, he]
    · have hT2 : addT [] (A ++ B) = addT [] B := by
        rw [addT_nil, addT_nil, List.map_append, last8_long _ _ (by rw [List.length_map]; omega)]
      rw [hT2] at hT
      have hl := addT_len B
      have hp := addT_pos B [] (by simp)
      rw [hT]
      generalize addT [] B = T at *
      skip
      refine sem_call rfl rfl (((right_spec x y).embed [] rfl trivial rfl rfl rfl (by simp)).mono ?_)
      rintro _ _ ⟨_, _, ⟨rfl, rfl⟩, rfl, rfl⟩
      refine run_ok 4000 _ _ _ _ ?_
      simp (maxSteps := 10000000) only [go_sem, iv_len, mtr, mtg]
      have hg := right_good x y
      generalize right x y = q at *
      refine sem_drawG l7_0_ok (by kernel_rfl) ?_
      intro KK hKK
      simp (maxSteps := 10000000) only [go_sem, l7_0, iv_len, mtr, mtg]
      refine TriZ.of (((worst_spec p2 T (by omega)).embed [0, 5] rfl (by repeat' first | exact trivial | rfl | (simp only [go_sem]; done) | constructor) rfl (by first | rfl | simp only [go_sem]) rfl (by simp)).mono ?_)
      rintro _ _ ⟨_, _, ⟨rfl, rfl⟩, rfl, rfl⟩
      simp (maxSteps := 10000000) only [go_sem, iv_len, mtr, mtg]
      refine TriZ.of (((worst_spec p3 T (by omega)).embed [1, 6] rfl (by repeat' first | exact trivial | rfl | (simp only [go_sem]; done) | constructor) rfl (by first | rfl | simp only [go_sem]) rfl (by simp)).mono ?_)
      rintro _ _ ⟨_, _, ⟨rfl, rfl⟩, rfl, rfl⟩
      simp (maxSteps := 10000000) only [go_sem, iv_len, mtr, mtg]
      refine TriZ.of (((mean_spec p2 T (by omega) hp).embed [0, 5] rfl (by repeat' first | exact trivial | rfl | (simp only [go_sem]; done) | constructor) rfl (by first | rfl | simp only [go_sem]) rfl (by simp)).mono ?_)
      rintro _ _ ⟨_, _, ⟨rfl, rfl⟩, rfl, rfl⟩
      simp (maxSteps := 10000000) only [go_sem, iv_len, mtr, mtg]
      refine TriZ.of (((mean_spec p3 T (by omega) hp).embed [1, 6] rfl (by repeat' first | exact trivial | rfl | (simp only [go_sem]; done) | constructor) rfl (by first | rfl | simp only [go_sem]) rfl (by simp)).mono ?_)
      rintro _ _ ⟨_, _, ⟨rfl, rfl⟩, rfl, rfl⟩
      simp (maxSteps := 10000000) only [go_sem, iv_len, mtr, mtg]
      refine TriZ.of (((mlen_spec p2 T).embed [0, 5] rfl (by repeat' first | exact trivial | rfl | (simp only [go_sem]; done) | constructor) rfl (by first | rfl | simp only [go_sem]) rfl (by simp)).mono ?_)
      rintro _ _ ⟨_, _, ⟨rfl, rfl⟩, rfl, rfl⟩
      simp (maxSteps := 10000000) only [go_sem, iv_len, mtr, mtg]
      refine TriZ.of (((mlen_spec p3 T).embed [1, 6] rfl (by repeat' first | exact trivial | rfl | (simp only [go_sem]; done) | constructor) rfl (by first | rfl | simp only [go_sem]) rfl (by simp)).mono ?_)
      rintro _ _ ⟨_, _, ⟨rfl, rfl⟩, rfl, rfl⟩
      simp (maxSteps := 10000000) only [go_sem, iv_len, mtr, mtg]
      refine TriZ.of (((next_spec p2 T q.1 q.2 (by omega) hp hg).embed [0, 5] rfl (by repeat' first | exact trivial | rfl | (simp only [go_sem]; done) | constructor) rfl (by first | rfl | simp only [go_sem]) rfl (by simp)).mono ?_)
      rintro _ _ ⟨_, _, ⟨rfl, rfl⟩, rfl, rfl⟩
      simp (maxSteps := 10000000) only [go_sem, iv_len, mtr, mtg]
      refine TriZ.of (((next_spec p3 T q.1 q.2 (by omega) hp hg).embed [1, 6] rfl (by repeat' first | exact trivial | rfl | (simp only [go_sem]; done) | constructor) rfl (by first | rfl | simp only [go_sem]) rfl (by simp)).mono ?_)
      rintro _ _ ⟨_, _, ⟨rfl, rfl⟩, rfl, rfl⟩
      simp (maxSteps := 10000000) only [go_sem, iv_len, mtr, mtg]
      subst hKK
      simp (maxSteps := 10000000) only [go_sem, iv_len, mtr, mtg]
end Go.AEX
