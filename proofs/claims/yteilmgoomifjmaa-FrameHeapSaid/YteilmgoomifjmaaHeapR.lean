/- Frame: a heap's bytes read. -/
import Derived.Test.YteilmgoomifjmaaFrCells
namespace Go.AEX
open Go Go.AE Go.Proofs
set_option maxRecDepth 100000
set_option linter.unusedVariables false
set_option linter.unusedSimpArgs false

theorem rheap_spec : Tri Try.prog 45 [] [] (fun v m => v = .sl 0 0 64 64 false ∧ m = [.row 1 (iv .i64 hz)]) := by
  refine Tri.post ?_
  have e : List.replicate 64 [AV.int .i64 0] = iv .i64 hz := by unfold hz iv; rw [List.map_replicate]
  have f : small 64 := by unfold small; decide
  skip
  refine (Tri.enter (rl := r45) (code := c45) (by kernel_rfl) Try.func45 rfl c45_ok (by kernel_rfl) (by kernel_rfl) ?_)
  refine run_ok 4000 _ _ _ _ ?_
  simp (maxSteps := 10000000) only [go_sem, c45, r45, f]
  rw [e]
  refine ⟨_, _, .sub [0] ?_ .done, rfl, rfl⟩
  simp only [EmbV, go_sem]
theorem rtext_spec (l : List Int) (hl : l.length = 64) (h64 : ∀ n ∈ l, I64 n) : Tri Try.prog 43 [.vsl 1 (iv .i64 l) false] [] (fun v m => v = .str (textH l) ∧ m = []) := by
  refine Tri.post ?_
  skip
  refine (Tri.enter (rl := r43) (code := c43) (by kernel_rfl) Try.func43 rfl c43_ok (by kernel_rfl) (by kernel_rfl) ?_)
  refine run_ok 4000 _ _ _ _ ?_
  simp (maxSteps := 10000000) only [go_sem, c43, r43, iv_len]
  refine sem_rounds (fun i => i ≤ 64) (fun i => [(0, .vsl 1 (iv .i64 l) false), (3, .int .i64 (lastK l i : Nat)), (9, .vsl 1 (iv .i64 l) false), (10, .int .i64 l.length), (11, .int .i64 (i : Nat))]) (fun i => []) (fun i => 64 - i) 0 [] (by omega) ?_ ?_
  · simp only [Emb, go_sem, lastK]
  intro i hi
  skip
  refine run_ok 4000 _ _ _ _ ?_
  simp (maxSteps := 10000000) only [go_sem]
  refine ⟨fun hlt => ?_, fun hge => ?_⟩
  · have hlt : i < l.length := by omega
    have hin : (i : Int) < (l.length : Int) := by omega
    have hg : l.getD i 0 = l[i] := by rw [List.getD_eq_getElem?_getD, List.getElem?_eq_getElem hlt]; rfl
    have inc := inc64 (show i < 1000000000000 by omega)
    by_cases hz : l[i] = 0
    · have hne : (l[i] != 0) = false := by rw [hz]; rfl
      have hk : lastK l (i + 1) = lastK l i := by rw [lastK, hg, if_pos hz]
      skip
      simp (maxSteps := 10000000) only [go_sem, iv_len, iv_hasI hlt, iv_rint hlt, hin, hne, inc, Int.natCast_nonneg, Nat.zero_add]
      refine ⟨i + 1, by omega, by omega, [], ?_⟩
      simp only [Emb, go_sem, hk]
    · have hne : (l[i] != 0) = true := by rw [bne_iff_ne]; exact hz
      have hk : lastK l (i + 1) = i + 1 := by rw [lastK, hg, if_neg hz]
      skip
      simp (maxSteps := 10000000) only [go_sem, iv_len, iv_hasI hlt, iv_rint hlt, hin, hne, inc, Int.natCast_nonneg, Nat.zero_add]
      refine ⟨i + 1, by omega, by omega, [], ?_⟩
      simp only [Emb, go_sem, hk]
  have hi : i = 64 := by omega
  subst hi
  have hle := lastK_le l 64
  unfold textH
  generalize lastK l 64 = n at *
  have hc := rcount_spec (n : Int) (by unfold I64; omega)
  have hpos : posN (n : Int) = n := by unfold posN; omega
  have f1 : (n : Int) ≤ (l.length : Int) := by omega
  have e3 : (l.take n).length = n := by rw [List.length_take]; omega
  rw [hpos] at hc
  have hnl : (numB n).length ≤ 10 := by
    have := numsB_len [n] (by intro k hk; simp at hk; omega)
    simpa [numsB] using this
  skip
  refine run_ok 4000 _ _ _ _ ?_
  simp (maxSteps := 10000000) only [go_sem, f1, iv_len, iv_sub, List.drop_zero, e3, Int.natCast_nonneg, Nat.sub_zero]
  refine sem_call rfl rfl (((hc).embed [] rfl trivial rfl rfl rfl (by simp)).mono ?_)
  rintro _ _ ⟨_, _, ⟨rfl, rfl⟩, rfl, rfl⟩
  refine run_ok 4000 _ _ _ _ ?_
  simp (maxSteps := 10000000) only [go_sem, f1, iv_len, iv_sub, List.drop_zero, e3, Int.natCast_nonneg, Nat.sub_zero]
  refine sem_rounds (fun i => i ≤ n) (fun i => [(6, .str (numB n ++ numsB ((l.take i).map zg))), (25, .vsl 1 (iv .i64 (l.take n)) false), (26, .int .i64 (n : Nat)), (27, .int .i64 (i : Nat))]) (fun i => []) (fun i => n - i) 0 [] (by omega) ?_ ?_
  · simp only [Emb, go_sem, List.take_zero, List.map_nil]
    simp [numsB]
  intro i hi
  skip
  refine run_ok 4000 _ _ _ _ ?_
  simp (maxSteps := 10000000) only [go_sem]
  refine ⟨fun hlt => ?_, fun hge => ?_⟩
  · have hlt : i < n := by omega
    have hll : i < l.length := by omega
    have hlt2 : i < (l.take n).length := by omega
    have hin : (i : Int) < ((l.take n).length : Int) := by omega
    have h6 := h64 _ (List.getElem_mem hll)
    have hri := rint_spec l[i] h6
    have hr := iv_rint (k := .i64) hlt2
    rw [List.getElem_take] at hr
    have hnext : (numB n ++ numsB ((l.take i).map zg)) ++ numB (zg l[i]) = numB n ++ numsB ((l.take (i + 1)).map zg) := by
      rw [List.take_succ_eq_append_getElem hll, List.map_append, List.append_assoc]
      simp [numsB]
    have hlen : (numsB ((l.take i).map zg)).length ≤ 10 * i := by
      have := numsB_len ((l.take i).map zg) (by intro n hn; obtain ⟨k, hk, rfl⟩ := List.mem_map.1 hn; exact zg_lt (h64 k (List.mem_of_mem_take hk)))
      rw [List.length_map, List.length_take] at this; omega
    have hz10 := numB_len10 (zg_lt h6)
    skip
    simp (maxSteps := 10000000) only [go_sem, iv_len, iv_hasI hlt2, hr, hin, inc64 (show i < 1000000000000 by omega), Int.natCast_nonneg, Nat.zero_add]
    refine sem_call rfl rfl (((hri).embed [] rfl trivial rfl rfl rfl (by simp)).mono ?_)
    rintro _ _ ⟨_, _, ⟨rfl, rfl⟩, rfl, rfl⟩
    refine run_ok 4000 _ _ _ _ ?_
    simp (maxSteps := 10000000) only [go_sem, iv_len, iv_hasI hlt2, hr, hin, inc64 (show i < 1000000000000 by omega), Int.natCast_nonneg, Nat.zero_add]
    refine ⟨?_, i + 1, by omega, by omega, [], ?_⟩
    · rw [List.length_append]; omega
    · simp only [Emb, go_sem, hnext]
  · have hi : i = n := by omega
    subst hi
    skip
    refine run_ok 4000 _ _ _ _ ?_
    simp (maxSteps := 10000000) only [go_sem]
    refine ⟨_, _, .sub [] ?_ .done, rfl, rfl⟩
    simp only [EmbV, go_sem]
/-- Numbers read one by one. -/
def rdS (x : List UInt8 × Int) : Nat → List UInt8 × Int
  | 0 => x
  | k + 1 => (numI (rdS x k)).2
def rdV (x : List UInt8 × Int) (k : Nat) : Int := sg (numI (rdS x k)).1
def rdH (x : List UInt8 × Int) (k : Nat) : List Int := (List.range 64).map fun j => if j < k then rdV x j else 0
theorem rdH_len (x : List UInt8 × Int) (k : Nat) : (rdH x k).length = 64 := by simp [rdH]
theorem rdH_zero (x : List UInt8 × Int) : rdH x 0 = hz := by
  unfold rdH hz
  rw [List.eq_replicate_iff]
  refine ⟨by simp, fun y hy => ?_⟩
  obtain ⟨j, _, rfl⟩ := List.mem_map.1 hy
  rw [if_neg (by omega)]
theorem rdH_set (x : List UInt8 × Int) (k : Nat) : (rdH x k).set k (rdV x k) = rdH x (k + 1) := by
  unfold rdH
  apply List.ext_getElem
  · simp
  · intro j h1 h2
    simp only [List.getElem_set, List.getElem_map, List.getElem_range]
    by_cases e : k = j
    · subst e; rw [if_pos rfl, if_pos (by omega)]
    · rw [if_neg e]
      by_cases c : j < k
      · rw [if_pos c, if_pos (by omega)]
      · rw [if_neg c, if_neg (by omega)]
theorem rdH_get (x : List UInt8 × Int) (k j : Nat) (h : j < k) (hj : j < 64) : (rdH x k)[j]'(by rw [rdH_len]; exact hj) = rdV x j := by
  unfold rdH
  simp only [List.getElem_map, List.getElem_range, h, if_true]
/-- A heap read: what is left, the heap. -/
def cnt (x : List UInt8 × Int) : Nat := (countF x 64).2.toNat
def readF (x : List UInt8 × Int) : List UInt8 × Int :=
  if 0 < cnt x ∧ rdV (countF x 64).1 (cnt x - 1) = 0 then failF (rdS (countF x 64).1 (cnt x)) 2 else rdS (countF x 64).1 (cnt x)
def readH (x : List UInt8 × Int) : List Int := rdH (countF x 64).1 (cnt x)
theorem cnt_le (x : List UInt8 × Int) : 0 ≤ (countF x 64).2 ∧ (countF x 64).2 ≤ 64 := by
  unfold countF
  have : posN 64 = 64 := rfl
  split <;> simp only <;> omega
theorem hread_spec (s : List UInt8) (e : Int) : Tri Try.prog 40 [.pbox 0 0] (inM s e)
    (fun v m => (v = (if (readF (s, e)).2 = 0 then .pbox 1 0 else .nilptr)) ∧ m = [.box [.str (readF (s, e)).1, .int .i64 (readF (s, e)).2], .box (hc (readH (s, e)))]) := by
  refine Tri.post ?_
  have hco := icount_spec s e 64 (by unfold I64; omega)
  obtain ⟨c1, c2⟩ := cnt_le (s, e)
  have hcn : (countF (s, e) 64).2 = (cnt (s, e) : Int) := by unfold cnt; omega
  unfold readF readH
  rw [hcn] at hco c2
  generalize cnt (s, e) = n at *
  generalize (countF (s, e) 64).1 = x at *
  unfold inM at *
  refine (Tri.enter (rl := r40) (code := c40) (by kernel_rfl) Try.func40 rfl c40_ok (by kernel_rfl) (by kernel_rfl) ?_)
  refine run_ok 4000 _ _ _ _ ?_
  simp (maxSteps := 10000000) only [go_sem, c40, r40]
  refine sem_call rfl rfl (((hco).embed [0] rfl (by repeat' first | exact trivial | rfl | (simp only [go_sem]; done) | constructor) rfl (by first | rfl | simp only [go_sem]) rfl (by simp)).mono ?_)
  rintro _ _ ⟨_, _, ⟨rfl, rfl⟩, rfl, rfl⟩
  refine run_ok 4000 _ _ _ _ ?_
  simp (maxSteps := 10000000) only [go_sem]
  refine sem_rounds (fun k => k ≤ n) (fun k => [(0, .pbox 0 0), (3, .pbox 1 0), (4, .int .i64 (n : Nat)), (8, .int .i64 (n : Nat)), (9, .int .i64 (k : Nat))])
    (fun k => [.box [.str (rdS x k).1, .int .i64 (rdS x k).2], .box (hc (rdH x k))]) (fun k => n - k) 0 [0, 1] (by omega) ?_ ?_
  · rw [rdH_zero]
    have e0 : rdS x 0 = x := rfl
    rw [e0]
    simp only [Emb, go_sem]
    rfl
  intro k hk
  refine run_ok 4000 _ _ _ _ ?_
  simp (maxSteps := 10000000) only [go_sem]
  refine ⟨fun hlt => ?_, fun hge => ?_⟩
  · have hlt : k < n := by omega
    have hii := iint_spec (rdS x k).1 (rdS x k).2
    have hset := rdH_set x k
    have hl := rdH_len x k
    have f1 : (k : Int) < 64 := by omega
    have f2 : k < 64 := by omega
    unfold inM at hii
    have hv : sg (numI ((rdS x k).1, (rdS x k).2)).1 = rdV x k := rfl
    rw [hv] at hii
    skip
    refine sem_call rfl rfl (((hii).embed [0] rfl (by repeat' first | exact trivial | rfl | (simp only [go_sem]; done) | constructor) rfl (by first | rfl | simp only [go_sem]) rfl (by simp)).mono ?_)
    rintro _ _ ⟨_, _, ⟨rfl, rfl⟩, rfl, rfl⟩
    refine run_ok 4000 _ _ _ _ ?_
    simp (maxSteps := 10000000) only [go_sem, f1, f2, hc_set, hset, hc_len, hl, Int.natCast_nonneg, Nat.zero_add, inc64 (show k < 1000000000000 by omega)]
    refine ⟨k + 1, by omega, by omega, [0, 1], ?_⟩
    simp only [Emb, go_sem, rdS]
  have hk : k = n := by omega
  subst hk
  have hz : ∀ y : List UInt8 × Int, y = (if 0 < k ∧ rdV x (k - 1) = 0 then failF (rdS x k) 2 else rdS x k) →
      (y.2 = 0 → ((y.2 != 0) = false)) ∧ (y.2 ≠ 0 → ((y.2 != 0) = true)) := fun y _ => ⟨fun h => by rw [h]; rfl, fun h => by rw [bne_iff_ne]; exact h⟩
  cases k with
  | zero =>
    have z0 : ¬ ((0 : Nat) : Int) > 0 := by omega
    have e0 : (if 0 < 0 ∧ rdV x (0 - 1) = 0 then failF (rdS x 0) 2 else rdS x 0) = rdS x 0 := if_neg (by omega)
    rw [e0]
    have her := err_spec (rdS x 0).1 (rdS x 0).2
    unfold inM at her
    generalize rdS x 0 = y at *
    generalize rdH x 0 = H at *
    by_cases hy : y.2 = 0
    · have hyb : (y.2 != 0) = false := by rw [hy]; rfl
      skip
      refine run_ok 4000 _ _ _ _ ?_
      simp (maxSteps := 10000000) only [go_sem, z0, hyb]
      refine ⟨fun h => absurd h z0, fun _ => ?_⟩
      refine run_ok 4000 _ _ _ _ ?_
      simp (maxSteps := 10000000) only [go_sem, z0, hyb]
      refine sem_call rfl rfl (((her).embed [0] rfl (by repeat' first | exact trivial | rfl | (simp only [go_sem]; done) | constructor) rfl (by first | rfl | simp only [go_sem]) rfl (by simp)).mono ?_)
      rintro _ _ ⟨_, _, ⟨rfl, rfl⟩, rfl, rfl⟩
      refine run_ok 4000 _ _ _ _ ?_
      simp (maxSteps := 10000000) only [go_sem, z0, hyb]
      refine ⟨.pbox 1 0, _, .sub [0, 1] ?_ .done, by first | rfl | rw [if_pos hy], rfl⟩
      simp only [EmbV, go_sem]
    · have hyb : (y.2 != 0) = true := by rw [bne_iff_ne]; exact hy
      skip
      refine run_ok 4000 _ _ _ _ ?_
      simp (maxSteps := 10000000) only [go_sem, z0, hyb]
      refine ⟨fun h => absurd h z0, fun _ => ?_⟩
      refine run_ok 4000 _ _ _ _ ?_
      simp (maxSteps := 10000000) only [go_sem, z0, hyb]
      refine sem_call rfl rfl (((her).embed [0] rfl (by repeat' first | exact trivial | rfl | (simp only [go_sem]; done) | constructor) rfl (by first | rfl | simp only [go_sem]) rfl (by simp)).mono ?_)
      rintro _ _ ⟨_, _, ⟨rfl, rfl⟩, rfl, rfl⟩
      refine run_ok 4000 _ _ _ _ ?_
      simp (maxSteps := 10000000) only [go_sem, z0, hyb]
      refine ⟨.nilptr, _, .sub [0, 1] ?_ .done, by first | rfl | rw [if_neg hy], rfl⟩
      simp only [EmbV, go_sem]
  | succ k =>
    have z0 : ((k + 1 : Nat) : Int) > 0 := by omega
    have w1 : iwrap .i64 (((k + 1 : Nat) : Int) - 1) = (k : Int) := by rw [iwrap_i64_in (by omega)]; omega
    have hl := rdH_len x (k + 1)
    have hkl : k < (rdH x (k + 1)).length := by omega
    have f1 : (k : Int) < 64 := by omega
    have hget := rdH_get x (k + 1) k (by omega) (by omega)
    have hr := iv_rint (k := .i64) hkl
    rw [hget] at hr
    have hi := iv_hasI (k := .i64) hkl
    rw [Nat.add_sub_cancel]
    clear hget
    generalize rdH x (k + 1) = H at *
    generalize rdS x (k + 1) = y at *
    by_cases hv : rdV x k = 0
    · have hvb : (rdV x k == 0) = true := by rw [hv]; rfl
      have hcond : 0 < k + 1 ∧ rdV x k = 0 := ⟨by omega, hv⟩
      simp only [if_pos hcond]
      have hfl := fail_spec y.1 y.2 2
      have hyy : (y.1, y.2) = y := rfl
      rw [hyy] at hfl
      generalize failF y 2 = z at *
      have her := err_spec z.1 z.2
      unfold inM at her hfl
      by_cases hy : z.2 = 0
      · have hyb : (z.2 != 0) = false := by rw [hy]; rfl
        skip
        refine run_ok 4000 _ _ _ _ ?_
        simp (maxSteps := 10000000) only [go_sem, z0, w1, f1, hc_map, hr, hi, hvb, hyb, Int.natCast_nonneg, Nat.zero_add]
        refine sem_call rfl rfl (((hfl).embed [0] rfl (by repeat' first | exact trivial | rfl | (simp only [go_sem]; done) | constructor) rfl (by first | rfl | simp only [go_sem]) rfl (by simp)).mono ?_)
        rintro _ _ ⟨_, _, ⟨rfl, rfl⟩, rfl, rfl⟩
        refine run_ok 4000 _ _ _ _ ?_
        simp (maxSteps := 10000000) only [go_sem, z0, w1, f1, hc_map, hr, hi, hvb, hyb, Int.natCast_nonneg, Nat.zero_add]
        refine sem_call rfl rfl (((her).embed [0] rfl (by repeat' first | exact trivial | rfl | (simp only [go_sem]; done) | constructor) rfl (by first | rfl | simp only [go_sem]) rfl (by simp)).mono ?_)
        rintro _ _ ⟨_, _, ⟨rfl, rfl⟩, rfl, rfl⟩
        refine run_ok 4000 _ _ _ _ ?_
        simp (maxSteps := 10000000) only [go_sem, z0, w1, f1, hc_map, hr, hi, hvb, hyb, Int.natCast_nonneg, Nat.zero_add]
        refine ⟨.pbox 1 0, _, .sub [0, 1] ?_ .done, by first | rfl | rw [if_pos hy], rfl⟩
        simp only [EmbV, go_sem]
      · have hyb : (z.2 != 0) = true := by rw [bne_iff_ne]; exact hy
        skip
        refine run_ok 4000 _ _ _ _ ?_
        simp (maxSteps := 10000000) only [go_sem, z0, w1, f1, hc_map, hr, hi, hvb, hyb, Int.natCast_nonneg, Nat.zero_add]
        refine sem_call rfl rfl (((hfl).embed [0] rfl (by repeat' first | exact trivial | rfl | (simp only [go_sem]; done) | constructor) rfl (by first | rfl | simp only [go_sem]) rfl (by simp)).mono ?_)
        rintro _ _ ⟨_, _, ⟨rfl, rfl⟩, rfl, rfl⟩
        refine run_ok 4000 _ _ _ _ ?_
        simp (maxSteps := 10000000) only [go_sem, z0, w1, f1, hc_map, hr, hi, hvb, hyb, Int.natCast_nonneg, Nat.zero_add]
        refine sem_call rfl rfl (((her).embed [0] rfl (by repeat' first | exact trivial | rfl | (simp only [go_sem]; done) | constructor) rfl (by first | rfl | simp only [go_sem]) rfl (by simp)).mono ?_)
        rintro _ _ ⟨_, _, ⟨rfl, rfl⟩, rfl, rfl⟩
        refine run_ok 4000 _ _ _ _ ?_
        simp (maxSteps := 10000000) only [go_sem, z0, w1, f1, hc_map, hr, hi, hvb, hyb, Int.natCast_nonneg, Nat.zero_add]
        refine ⟨.nilptr, _, .sub [0, 1] ?_ .done, by first | rfl | rw [if_neg hy], rfl⟩
        simp only [EmbV, go_sem]
    · have hvb : (rdV x k == 0) = false := by rw [beq_eq_false_iff_ne]; exact hv
      have hcond : ¬ (0 < k + 1 ∧ rdV x k = 0) := fun h => hv h.2
      simp only [if_neg hcond]
      have her := err_spec y.1 y.2
      unfold inM at her
      by_cases hy : y.2 = 0
      · have hyb : (y.2 != 0) = false := by rw [hy]; rfl
        skip
        refine run_ok 4000 _ _ _ _ ?_
        simp (maxSteps := 10000000) only [go_sem, z0, w1, f1, hc_map, hr, hi, hvb, hyb, Int.natCast_nonneg, Nat.zero_add]
        refine sem_call rfl rfl (((her).embed [0] rfl (by repeat' first | exact trivial | rfl | (simp only [go_sem]; done) | constructor) rfl (by first | rfl | simp only [go_sem]) rfl (by simp)).mono ?_)
        rintro _ _ ⟨_, _, ⟨rfl, rfl⟩, rfl, rfl⟩
        refine run_ok 4000 _ _ _ _ ?_
        simp (maxSteps := 10000000) only [go_sem, z0, w1, f1, hc_map, hr, hi, hvb, hyb, Int.natCast_nonneg, Nat.zero_add]
        refine ⟨.pbox 1 0, _, .sub [0, 1] ?_ .done, by first | rfl | rw [if_pos hy], rfl⟩
        simp only [EmbV, go_sem]
      · have hyb : (y.2 != 0) = true := by rw [bne_iff_ne]; exact hy
        skip
        refine run_ok 4000 _ _ _ _ ?_
        simp (maxSteps := 10000000) only [go_sem, z0, w1, f1, hc_map, hr, hi, hvb, hyb, Int.natCast_nonneg, Nat.zero_add]
        refine sem_call rfl rfl (((her).embed [0] rfl (by repeat' first | exact trivial | rfl | (simp only [go_sem]; done) | constructor) rfl (by first | rfl | simp only [go_sem]) rfl (by simp)).mono ?_)
        rintro _ _ ⟨_, _, ⟨rfl, rfl⟩, rfl, rfl⟩
        refine run_ok 4000 _ _ _ _ ?_
        simp (maxSteps := 10000000) only [go_sem, z0, w1, f1, hc_map, hr, hi, hvb, hyb, Int.natCast_nonneg, Nat.zero_add]
        refine ⟨.nilptr, _, .sub [0, 1] ?_ .done, by first | rfl | rw [if_neg hy], rfl⟩
        simp only [EmbV, go_sem]
end Go.AEX
