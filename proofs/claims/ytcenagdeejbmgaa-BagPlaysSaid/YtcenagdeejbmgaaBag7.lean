/- Bag: any calls (BagPlays). -/
import Derived.Test.YtcenagdeejbmgaaBag6
namespace Go.AEX
open Go Go.AE Go.Proofs
set_option maxRecDepth 100000
set_option linter.unusedVariables false
set_option linter.unusedSimpArgs false

structure Act where
  kind : Int
  src : Int
  dst : Int
  k : Int
  i : Int
  b : UInt8
  s : List UInt8
def arow (a : Act) : List AV := [.int .i64 a.kind, .int .i64 a.src, .int .i64 a.dst, .int .i64 a.k, .int .i64 a.i, .int .u8 a.b.toNat, .str a.s]
theorem Like.tupB {a : AV} {b : AV} (h : b = .bool true ∨ b = .bsym true := by first | exact .inl rfl | exact .inr rfl) : Like (.tup [a, b]) (.tup [a, .bsym true]) := fun φ σ x hx => by
  rcases h with rfl | rfl
  · cases hx with | tup h => cases h with | cons h1 h2 => cases h2 with | cons h3 h4 => cases h3; exact .tup (.cons h1 (.cons .bsym h4))
  · exact hx
theorem places_take (L : List Itm) (q : Int) (a : Act) (h0 : 0 < L.length) (hL : L.length ≤ 400) (hk : a.kind = 2) : Tri Try.prog 42 [.pbox 0 0, refB L q, .agg (arow a)] (bagM L q)
    (fun v m => v = .tup [refB (wout L (place L.length a.k)) q, .bsym true] ∧ m = bagG (wout L (place L.length a.k)) q) := by
  have e0 : ((L.length : Int) == 0) = false := by rw [beq_eq_false_iff_ne]; omega
  have hp := place_lt h0 a.k
  have hra := rat_spec L q a.k h0 (by omega)
  have hat := bat_spec L q a.k h0 (by omega)
  have hit := item_spec L q a.k h0 (by omega)
  have htk := take_spec L q a.k h0 (by omega)
  generalize place L.length a.k = p at *
  have hw := rwout_spec L q p hp (by omega)
  unfold bagM bagG bagT at *
  have hin : (p : Int) < (L.length : Int) := by omega
  have hne : ((p : Int) != (p : Int)) = false := by simp
  have g := ga_eq hp
  refine Tri.post ?_
  skip
  refine (Tri.enter (rl := r42) (code := c42) (by kernel_rfl) Try.func42 rfl c42_ok (by kernel_rfl) (by kernel_rfl) ?_)
  refine run_ok 4000 _ _ _ _ ?_
  simp (maxSteps := 10000000) only [go_sem, c42, r42, arow, brow, e0, brows_len, hne, hk, refB, brows_h0 hp, brows_h1 hp, brows_h2 hp, brows_r0 hp, brows_r1 hp, brows_r2 hp, hin, g, Int.natCast_nonneg, seqb_self]
  refine sem_move 1 rfl ?_
  refine run_ok 4000 _ _ _ _ ?_
  simp (maxSteps := 10000000) only [go_sem, arow, brow, e0, brows_len, hne, hk, refB, brows_h0 hp, brows_h1 hp, brows_h2 hp, brows_r0 hp, brows_r1 hp, brows_r2 hp, hin, g, Int.natCast_nonneg, seqb_self]
  refine sem_call rfl rfl (((hra).embed [] rfl (by repeat' first | exact trivial | rfl | (simp only [go_sem]; done) | constructor) rfl (by first | rfl | simp only [go_sem]) rfl (by simp)).mono ?_)
  rintro _ _ ⟨_, _, ⟨rfl, rfl⟩, rfl, rfl⟩
  refine run_ok 4000 _ _ _ _ ?_
  simp (maxSteps := 10000000) only [go_sem, arow, brow, e0, brows_len, hne, hk, refB, brows_h0 hp, brows_h1 hp, brows_h2 hp, brows_r0 hp, brows_r1 hp, brows_r2 hp, hin, g, Int.natCast_nonneg, seqb_self]
  refine sem_call rfl rfl (((hat).embed [0, 5] rfl (by repeat' first | exact trivial | rfl | (simp only [go_sem]; done) | constructor) rfl (by first | rfl | simp only [go_sem]) rfl (by simp)).mono ?_)
  rintro _ _ ⟨_, _, ⟨rfl, rfl⟩, rfl, rfl⟩
  refine run_ok 4000 _ _ _ _ ?_
  simp (maxSteps := 10000000) only [go_sem, arow, brow, e0, brows_len, hne, hk, refB, brows_h0 hp, brows_h1 hp, brows_h2 hp, brows_r0 hp, brows_r1 hp, brows_r2 hp, hin, g, Int.natCast_nonneg, seqb_self]
  refine sem_call rfl rfl (((hit).embed [0, 5] rfl (by repeat' first | exact trivial | rfl | (simp only [go_sem]; done) | constructor) rfl (by first | rfl | simp only [go_sem]) rfl (by simp)).mono ?_)
  rintro _ _ ⟨_, _, ⟨rfl, rfl⟩, rfl, rfl⟩
  refine run_ok 4000 _ _ _ _ ?_
  simp (maxSteps := 10000000) only [go_sem, arow, brow, e0, brows_len, hne, hk, refB, brows_h0 hp, brows_h1 hp, brows_h2 hp, brows_r0 hp, brows_r1 hp, brows_r2 hp, hin, g, Int.natCast_nonneg, seqb_self]
  refine sem_drawG l42_1_ok (by kernel_rfl) ?_
  intro KK hKK
  simp (maxSteps := 10000000) only [go_sem, l42_1, arow, brow, e0, brows_len, hne, hk, refB, brows_h0 hp, brows_h1 hp, brows_h2 hp, brows_r0 hp, brows_r1 hp, brows_r2 hp, hin, g, Int.natCast_nonneg, seqb_self]
  subst hKK
  simp (maxSteps := 10000000) only [go_sem, arow, brow, e0, brows_len, hne, hk, refB, brows_h0 hp, brows_h1 hp, brows_h2 hp, brows_r0 hp, brows_r1 hp, brows_r2 hp, hin, g, Int.natCast_nonneg, seqb_self]
  refine sem_call rfl rfl (((htk).embed [0, 5] rfl (by repeat' first | exact trivial | rfl | (simp only [go_sem]; done) | constructor) rfl (by first | rfl | simp only [go_sem]) rfl (by simp)).mono ?_)
  rintro _ _ ⟨_, _, ⟨rfl, rfl⟩, rfl, rfl⟩
  refine run_ok 4000 _ _ _ _ ?_
  simp (maxSteps := 10000000) only [go_sem, arow, brow, e0, brows_len, hne, hk, refB, brows_h0 hp, brows_h1 hp, brows_h2 hp, brows_r0 hp, brows_r1 hp, brows_r2 hp, hin, g, Int.natCast_nonneg, seqb_self]
  refine sem_drawG l42_2_ok (by kernel_rfl) ?_
  intro KK hKK
  simp (maxSteps := 10000000) only [go_sem, l42_2, arow, brow, e0, brows_len, hne, hk, refB, brows_h0 hp, brows_h1 hp, brows_h2 hp, brows_r0 hp, brows_r1 hp, brows_r2 hp, hin, g, Int.natCast_nonneg, seqb_self]
  subst hKK
  simp (maxSteps := 10000000) only [go_sem, arow, brow, e0, brows_len, hne, hk, refB, brows_h0 hp, brows_h1 hp, brows_h2 hp, brows_r0 hp, brows_r1 hp, brows_r2 hp, hin, g, Int.natCast_nonneg, seqb_self]
  refine TriZ.of (((hw).embed [] rfl (by repeat' first | exact trivial | rfl | (simp only [go_sem]; done) | constructor) rfl (by first | rfl | simp only [go_sem]) rfl (by simp)).mono ?_)
  rintro _ _ ⟨_, _, ⟨rfl, rfl⟩, rfl, rfl⟩
  simp (maxSteps := 10000000) only [go_sem, arow, brow, e0, brows_len, hne, hk, refB, brows_h0 hp, brows_h1 hp, brows_h2 hp, brows_r0 hp, brows_r1 hp, brows_r2 hp, hin, g, Int.natCast_nonneg, seqb_self]
  refine ⟨_, _, .like Like.tupB (.sub [0, 1, 7] ?_ .done), rfl, rfl⟩
  simp only [EmbV, go_sem]
theorem places_lose (L : List Itm) (q : Int) (a : Act) (h0 : 0 < L.length) (hL : L.length ≤ 400) (hq : 0 ≤ q ∧ q ≤ 100000) (hk : a.kind = 3) : Tri Try.prog 42 [.pbox 0 0, refB L q, .agg (arow a)] (bagM L q)
    (fun v m => v = .tup [refB (wout L (place L.length a.k)) (q + 1), .bsym true] ∧ m = bagG (wout L (place L.length a.k)) (q + 1)) := by
  have e0 : ((L.length : Int) == 0) = false := by rw [beq_eq_false_iff_ne]; omega
  have hp := place_lt h0 a.k
  have hra := rat_spec L q a.k h0 (by omega)
  have hat := bat_spec L q a.k h0 (by omega)
  have hit := item_spec L q a.k h0 (by omega)
  have htk := lose_spec L q a.k h0 (by omega) (by omega)
  generalize place L.length a.k = p at *
  have hw := rwout_spec L q p hp (by omega)
  have w1 : iwrap .i64 (q + 1) = q + 1 := iwrap_i64_in (by omega)
  unfold bagM bagG bagT at *
  have hin : (p : Int) < (L.length : Int) := by omega
  have hne : ((p : Int) != (p : Int)) = false := by simp
  have g := ga_eq hp
  refine Tri.post ?_
  skip
  refine (Tri.enter (rl := r42) (code := c42) (by kernel_rfl) Try.func42 rfl c42_ok (by kernel_rfl) (by kernel_rfl) ?_)
  refine run_ok 4000 _ _ _ _ ?_
  simp (maxSteps := 10000000) only [go_sem, c42, r42, arow, brow, e0, brows_len, hne, hk, refB, w1, brows_h0 hp, brows_h1 hp, brows_h2 hp, brows_r0 hp, brows_r1 hp, brows_r2 hp, hin, g, Int.natCast_nonneg, seqb_self]
  refine sem_move 1 rfl ?_
  refine run_ok 4000 _ _ _ _ ?_
  simp (maxSteps := 10000000) only [go_sem, arow, brow, e0, brows_len, hne, hk, refB, w1, brows_h0 hp, brows_h1 hp, brows_h2 hp, brows_r0 hp, brows_r1 hp, brows_r2 hp, hin, g, Int.natCast_nonneg, seqb_self]
  refine sem_call rfl rfl (((hra).embed [] rfl (by repeat' first | exact trivial | rfl | (simp only [go_sem]; done) | constructor) rfl (by first | rfl | simp only [go_sem]) rfl (by simp)).mono ?_)
  rintro _ _ ⟨_, _, ⟨rfl, rfl⟩, rfl, rfl⟩
  refine run_ok 4000 _ _ _ _ ?_
  simp (maxSteps := 10000000) only [go_sem, arow, brow, e0, brows_len, hne, hk, refB, w1, brows_h0 hp, brows_h1 hp, brows_h2 hp, brows_r0 hp, brows_r1 hp, brows_r2 hp, hin, g, Int.natCast_nonneg, seqb_self]
  refine sem_call rfl rfl (((hat).embed [0, 5] rfl (by repeat' first | exact trivial | rfl | (simp only [go_sem]; done) | constructor) rfl (by first | rfl | simp only [go_sem]) rfl (by simp)).mono ?_)
  rintro _ _ ⟨_, _, ⟨rfl, rfl⟩, rfl, rfl⟩
  refine run_ok 4000 _ _ _ _ ?_
  simp (maxSteps := 10000000) only [go_sem, arow, brow, e0, brows_len, hne, hk, refB, w1, brows_h0 hp, brows_h1 hp, brows_h2 hp, brows_r0 hp, brows_r1 hp, brows_r2 hp, hin, g, Int.natCast_nonneg, seqb_self]
  refine sem_call rfl rfl (((hit).embed [0, 5] rfl (by repeat' first | exact trivial | rfl | (simp only [go_sem]; done) | constructor) rfl (by first | rfl | simp only [go_sem]) rfl (by simp)).mono ?_)
  rintro _ _ ⟨_, _, ⟨rfl, rfl⟩, rfl, rfl⟩
  refine run_ok 4000 _ _ _ _ ?_
  simp (maxSteps := 10000000) only [go_sem, arow, brow, e0, brows_len, hne, hk, refB, w1, brows_h0 hp, brows_h1 hp, brows_h2 hp, brows_r0 hp, brows_r1 hp, brows_r2 hp, hin, g, Int.natCast_nonneg, seqb_self]
  refine sem_drawG l42_1_ok (by kernel_rfl) ?_
  intro KK hKK
  simp (maxSteps := 10000000) only [go_sem, l42_1, arow, brow, e0, brows_len, hne, hk, refB, w1, brows_h0 hp, brows_h1 hp, brows_h2 hp, brows_r0 hp, brows_r1 hp, brows_r2 hp, hin, g, Int.natCast_nonneg, seqb_self]
  subst hKK
  simp (maxSteps := 10000000) only [go_sem, arow, brow, e0, brows_len, hne, hk, refB, w1, brows_h0 hp, brows_h1 hp, brows_h2 hp, brows_r0 hp, brows_r1 hp, brows_r2 hp, hin, g, Int.natCast_nonneg, seqb_self]
  refine sem_call rfl rfl (((htk).embed [0, 5] rfl (by repeat' first | exact trivial | rfl | (simp only [go_sem]; done) | constructor) rfl (by first | rfl | simp only [go_sem]) rfl (by simp)).mono ?_)
  rintro _ _ ⟨_, _, ⟨rfl, rfl⟩, rfl, rfl⟩
  refine run_ok 4000 _ _ _ _ ?_
  simp (maxSteps := 10000000) only [go_sem, arow, brow, e0, brows_len, hne, hk, refB, w1, brows_h0 hp, brows_h1 hp, brows_h2 hp, brows_r0 hp, brows_r1 hp, brows_r2 hp, hin, g, Int.natCast_nonneg, seqb_self]
  refine sem_call rfl rfl (((hw).embed [] rfl (by repeat' first | exact trivial | rfl | (simp only [go_sem]; done) | constructor) rfl (by first | rfl | simp only [go_sem]) rfl (by simp)).mono ?_)
  rintro _ _ ⟨_, _, ⟨rfl, rfl⟩, rfl, rfl⟩
  refine run_ok 4000 _ _ _ _ ?_
  simp (maxSteps := 10000000) only [go_sem, arow, brow, e0, brows_len, hne, hk, refB, w1, brows_h0 hp, brows_h1 hp, brows_h2 hp, brows_r0 hp, brows_r1 hp, brows_r2 hp, hin, g, Int.natCast_nonneg, seqb_self]
  refine ⟨_, _, .like Like.tupB (.sub [0, 1, 7] ?_ .done), rfl, rfl⟩
  simp only [EmbV, go_sem]
theorem places_twice (L : List Itm) (q : Int) (a : Act) (h0 : 0 < L.length) (hL : L.length < 400) (hk : a.kind = 4) : Tri Try.prog 42 [.pbox 0 0, refB L q, .agg (arow a)] (bagM L q)
    (fun v m => v = .tup [refB (L ++ [ga L (place L.length a.k)]) q, .bsym true] ∧ m = bagG (L ++ [ga L (place L.length a.k)]) q) := by
  have e0 : ((L.length : Int) == 0) = false := by rw [beq_eq_false_iff_ne]; omega
  have hp := place_lt h0 a.k
  have hra := rat_spec L q a.k h0 (by omega)
  have hat := bat_spec L q a.k h0 (by omega)
  have hit := item_spec L q a.k h0 (by omega)
  have htk := twice_spec L q a.k h0 hL
  generalize place L.length a.k = p at *
  have hw := rput_spec L q (ga L p) hL
  have hfull : ¬ (L.length : Int) ≥ 400 := by omega
  unfold bagM bagG at *
  have hin : (p : Int) < (L.length : Int) := by omega
  have hne : ((p : Int) != (p : Int)) = false := by simp
  have g := ga_eq hp
  refine Tri.post ?_
  skip
  refine (Tri.enter (rl := r42) (code := c42) (by kernel_rfl) Try.func42 rfl c42_ok (by kernel_rfl) (by kernel_rfl) ?_)
  refine run_ok 4000 _ _ _ _ ?_
  simp (maxSteps := 10000000) only [go_sem, c42, r42, arow, brow, e0, brows_len, hne, hk, refB, hfull, brows_h0 hp, brows_h1 hp, brows_h2 hp, brows_r0 hp, brows_r1 hp, brows_r2 hp, hin, g, Int.natCast_nonneg, seqb_self]
  refine sem_move 1 rfl ?_
  refine run_ok 4000 _ _ _ _ ?_
  simp (maxSteps := 10000000) only [go_sem, arow, brow, e0, brows_len, hne, hk, refB, hfull, brows_h0 hp, brows_h1 hp, brows_h2 hp, brows_r0 hp, brows_r1 hp, brows_r2 hp, hin, g, Int.natCast_nonneg, seqb_self]
  refine sem_call rfl rfl (((hra).embed [] rfl (by repeat' first | exact trivial | rfl | (simp only [go_sem]; done) | constructor) rfl (by first | rfl | simp only [go_sem]) rfl (by simp)).mono ?_)
  rintro _ _ ⟨_, _, ⟨rfl, rfl⟩, rfl, rfl⟩
  refine run_ok 4000 _ _ _ _ ?_
  simp (maxSteps := 10000000) only [go_sem, arow, brow, e0, brows_len, hne, hk, refB, hfull, brows_h0 hp, brows_h1 hp, brows_h2 hp, brows_r0 hp, brows_r1 hp, brows_r2 hp, hin, g, Int.natCast_nonneg, seqb_self]
  refine sem_call rfl rfl (((hat).embed [0, 5] rfl (by repeat' first | exact trivial | rfl | (simp only [go_sem]; done) | constructor) rfl (by first | rfl | simp only [go_sem]) rfl (by simp)).mono ?_)
  rintro _ _ ⟨_, _, ⟨rfl, rfl⟩, rfl, rfl⟩
  refine run_ok 4000 _ _ _ _ ?_
  simp (maxSteps := 10000000) only [go_sem, arow, brow, e0, brows_len, hne, hk, refB, hfull, brows_h0 hp, brows_h1 hp, brows_h2 hp, brows_r0 hp, brows_r1 hp, brows_r2 hp, hin, g, Int.natCast_nonneg, seqb_self]
  refine sem_call rfl rfl (((hit).embed [0, 5] rfl (by repeat' first | exact trivial | rfl | (simp only [go_sem]; done) | constructor) rfl (by first | rfl | simp only [go_sem]) rfl (by simp)).mono ?_)
  rintro _ _ ⟨_, _, ⟨rfl, rfl⟩, rfl, rfl⟩
  refine run_ok 4000 _ _ _ _ ?_
  simp (maxSteps := 10000000) only [go_sem, arow, brow, e0, brows_len, hne, hk, refB, hfull, brows_h0 hp, brows_h1 hp, brows_h2 hp, brows_r0 hp, brows_r1 hp, brows_r2 hp, hin, g, Int.natCast_nonneg, seqb_self]
  refine sem_drawG l42_1_ok (by kernel_rfl) ?_
  intro KK hKK
  simp (maxSteps := 10000000) only [go_sem, l42_1, arow, brow, e0, brows_len, hne, hk, refB, hfull, brows_h0 hp, brows_h1 hp, brows_h2 hp, brows_r0 hp, brows_r1 hp, brows_r2 hp, hin, g, Int.natCast_nonneg, seqb_self]
  subst hKK
  simp (maxSteps := 10000000) only [go_sem, arow, brow, e0, brows_len, hne, hk, refB, hfull, brows_h0 hp, brows_h1 hp, brows_h2 hp, brows_r0 hp, brows_r1 hp, brows_r2 hp, hin, g, Int.natCast_nonneg, seqb_self]
  refine sem_call rfl rfl (((htk).embed [0, 5] rfl (by repeat' first | exact trivial | rfl | (simp only [go_sem]; done) | constructor) rfl (by first | rfl | simp only [go_sem]) rfl (by simp)).mono ?_)
  rintro _ _ ⟨_, _, ⟨rfl, rfl⟩, rfl, rfl⟩
  refine run_ok 4000 _ _ _ _ ?_
  simp (maxSteps := 10000000) only [go_sem, arow, brow, e0, brows_len, hne, hk, refB, hfull, brows_h0 hp, brows_h1 hp, brows_h2 hp, brows_r0 hp, brows_r1 hp, brows_r2 hp, hin, g, Int.natCast_nonneg, seqb_self]
  refine sem_drawG l42_3_ok (by kernel_rfl) ?_
  intro KK hKK
  simp (maxSteps := 10000000) only [go_sem, l42_3, arow, brow, e0, brows_len, hne, hk, refB, hfull, brows_h0 hp, brows_h1 hp, brows_h2 hp, brows_r0 hp, brows_r1 hp, brows_r2 hp, hin, g, Int.natCast_nonneg, seqb_self]
  subst hKK
  simp (maxSteps := 10000000) only [go_sem, arow, brow, e0, brows_len, hne, hk, refB, hfull, brows_h0 hp, brows_h1 hp, brows_h2 hp, brows_r0 hp, brows_r1 hp, brows_r2 hp, hin, g, Int.natCast_nonneg, seqb_self]
  refine TriZ.of (((hw).embed [] rfl (by repeat' first | exact trivial | rfl | (simp only [go_sem]; done) | constructor) rfl (by first | rfl | simp only [go_sem]) rfl (by simp)).mono ?_)
  rintro _ _ ⟨_, _, ⟨rfl, rfl⟩, rfl, rfl⟩
  simp (maxSteps := 10000000) only [go_sem, arow, brow, e0, brows_len, hne, hk, refB, hfull, brows_h0 hp, brows_h1 hp, brows_h2 hp, brows_r0 hp, brows_r1 hp, brows_r2 hp, hin, g, Int.natCast_nonneg, seqb_self]
  refine ⟨_, _, .like Like.tupB (.sub [0, 1, 7] ?_ .done), rfl, rfl⟩
  simp only [EmbV, go_sem]
theorem places_full (L : List Itm) (q : Int) (a : Act) (h0 : 0 < L.length) (hL : L.length = 400) (hk : a.kind = 4) : Tri Try.prog 42 [.pbox 0 0, refB L q, .agg (arow a)] (bagM L q)
    (fun v m => v = .tup [refB L q, .bsym true] ∧ m = bagG L q) := by
  have hL := Nat.le_of_eq hL
  have hL2 : 400 ≤ L.length := by omega
  have e0 : ((L.length : Int) == 0) = false := by rw [beq_eq_false_iff_ne]; omega
  have hp := place_lt h0 a.k
  have hra := rat_spec L q a.k h0 (by omega)
  have hat := bat_spec L q a.k h0 (by omega)
  have hit := item_spec L q a.k h0 (by omega)
  have htk := twice_full L q a.k h0 ⟨hL2, by omega⟩
  generalize place L.length a.k = p at *
  have hfull : (L.length : Int) ≥ 400 := by omega
  unfold bagM bagG at *
  have hin : (p : Int) < (L.length : Int) := by omega
  have hne : ((p : Int) != (p : Int)) = false := by simp
  have g := ga_eq hp
  refine Tri.post ?_
  skip
  refine (Tri.enter (rl := r42) (code := c42) (by kernel_rfl) Try.func42 rfl c42_ok (by kernel_rfl) (by kernel_rfl) ?_)
  refine run_ok 4000 _ _ _ _ ?_
  simp (maxSteps := 10000000) only [go_sem, c42, r42, arow, brow, e0, brows_len, hne, hk, refB, hfull, brows_h0 hp, brows_h1 hp, brows_h2 hp, brows_r0 hp, brows_r1 hp, brows_r2 hp, hin, g, Int.natCast_nonneg, seqb_self]
  refine sem_move 1 rfl ?_
  refine run_ok 4000 _ _ _ _ ?_
  simp (maxSteps := 10000000) only [go_sem, arow, brow, e0, brows_len, hne, hk, refB, hfull, brows_h0 hp, brows_h1 hp, brows_h2 hp, brows_r0 hp, brows_r1 hp, brows_r2 hp, hin, g, Int.natCast_nonneg, seqb_self]
  refine sem_call rfl rfl (((hra).embed [] rfl (by repeat' first | exact trivial | rfl | (simp only [go_sem]; done) | constructor) rfl (by first | rfl | simp only [go_sem]) rfl (by simp)).mono ?_)
  rintro _ _ ⟨_, _, ⟨rfl, rfl⟩, rfl, rfl⟩
  refine run_ok 4000 _ _ _ _ ?_
  simp (maxSteps := 10000000) only [go_sem, arow, brow, e0, brows_len, hne, hk, refB, hfull, brows_h0 hp, brows_h1 hp, brows_h2 hp, brows_r0 hp, brows_r1 hp, brows_r2 hp, hin, g, Int.natCast_nonneg, seqb_self]
  refine sem_call rfl rfl (((hat).embed [0, 5] rfl (by repeat' first | exact trivial | rfl | (simp only [go_sem]; done) | constructor) rfl (by first | rfl | simp only [go_sem]) rfl (by simp)).mono ?_)
  rintro _ _ ⟨_, _, ⟨rfl, rfl⟩, rfl, rfl⟩
  refine run_ok 4000 _ _ _ _ ?_
  simp (maxSteps := 10000000) only [go_sem, arow, brow, e0, brows_len, hne, hk, refB, hfull, brows_h0 hp, brows_h1 hp, brows_h2 hp, brows_r0 hp, brows_r1 hp, brows_r2 hp, hin, g, Int.natCast_nonneg, seqb_self]
  refine sem_call rfl rfl (((hit).embed [0, 5] rfl (by repeat' first | exact trivial | rfl | (simp only [go_sem]; done) | constructor) rfl (by first | rfl | simp only [go_sem]) rfl (by simp)).mono ?_)
  rintro _ _ ⟨_, _, ⟨rfl, rfl⟩, rfl, rfl⟩
  refine run_ok 4000 _ _ _ _ ?_
  simp (maxSteps := 10000000) only [go_sem, arow, brow, e0, brows_len, hne, hk, refB, hfull, brows_h0 hp, brows_h1 hp, brows_h2 hp, brows_r0 hp, brows_r1 hp, brows_r2 hp, hin, g, Int.natCast_nonneg, seqb_self]
  refine sem_drawG l42_1_ok (by kernel_rfl) ?_
  intro KK hKK
  simp (maxSteps := 10000000) only [go_sem, l42_1, arow, brow, e0, brows_len, hne, hk, refB, hfull, brows_h0 hp, brows_h1 hp, brows_h2 hp, brows_r0 hp, brows_r1 hp, brows_r2 hp, hin, g, Int.natCast_nonneg, seqb_self]
  subst hKK
  simp (maxSteps := 10000000) only [go_sem, arow, brow, e0, brows_len, hne, hk, refB, hfull, brows_h0 hp, brows_h1 hp, brows_h2 hp, brows_r0 hp, brows_r1 hp, brows_r2 hp, hin, g, Int.natCast_nonneg, seqb_self]
  refine sem_call rfl rfl (((htk).embed [0, 5] rfl (by repeat' first | exact trivial | rfl | (simp only [go_sem]; done) | constructor) rfl (by first | rfl | simp only [go_sem]) rfl (by simp)).mono ?_)
  rintro _ _ ⟨_, _, ⟨rfl, rfl⟩, rfl, rfl⟩
  refine run_ok 4000 _ _ _ _ ?_
  simp (maxSteps := 10000000) only [go_sem, arow, brow, e0, brows_len, hne, hk, refB, hfull, brows_h0 hp, brows_h1 hp, brows_h2 hp, brows_r0 hp, brows_r1 hp, brows_r2 hp, hin, g, Int.natCast_nonneg, seqb_self]
  refine ⟨_, _, .like Like.tupB (.sub [0, 1, 5] ?_ .done), rfl, rfl⟩
  simp only [EmbV, go_sem]
theorem places_nil (q : Int) (a : Act) : Tri Try.prog 42 [.pbox 0 0, refB [] q, .agg (arow a)] (bagM [] q)
    (fun v m => v = .tup [refB [] q, .bsym true] ∧ m = bagG [] q) := by
  have h1 := take_nil q a.k
  have h2 := item_nil q a.k
  have h3 := lose_nil q a.k
  have h4 := twice_nil q a.k
  have h5 := bend_nil q a.k a.i a.b
  unfold bagM bagG at *
  have e0 : (([] : List Itm).length == 0) = true := rfl
  refine Tri.post ?_
  skip
  refine (Tri.enter (rl := r42) (code := c42) (by kernel_rfl) Try.func42 rfl c42_ok (by kernel_rfl) (by kernel_rfl) ?_)
  refine run_ok 4000 _ _ _ _ ?_
  simp (maxSteps := 10000000) only [go_sem, c42, r42, arow, brow, e0, brows_len, refB]
  refine sem_move 1 rfl ?_
  refine run_ok 4000 _ _ _ _ ?_
  simp (maxSteps := 10000000) only [go_sem, arow, brow, e0, brows_len, refB]
  refine sem_call rfl rfl (((h1).embed [0, 5] rfl (by repeat' first | exact trivial | rfl | (simp only [go_sem]; done) | constructor) rfl (by first | rfl | simp only [go_sem]) rfl (by simp)).mono ?_)
  rintro _ _ ⟨_, _, ⟨rfl, rfl⟩, rfl, rfl⟩
  refine run_ok 4000 _ _ _ _ ?_
  simp (maxSteps := 10000000) only [go_sem, arow, brow, e0, brows_len, refB]
  refine sem_call rfl rfl (((h2).embed [0, 5] rfl (by repeat' first | exact trivial | rfl | (simp only [go_sem]; done) | constructor) rfl (by first | rfl | simp only [go_sem]) rfl (by simp)).mono ?_)
  rintro _ _ ⟨_, _, ⟨rfl, rfl⟩, rfl, rfl⟩
  refine run_ok 4000 _ _ _ _ ?_
  simp (maxSteps := 10000000) only [go_sem, arow, brow, e0, brows_len, refB]
  refine sem_drawG l42_0_ok (by kernel_rfl) ?_
  intro KK hKK
  simp (maxSteps := 10000000) only [go_sem, l42_0, arow, brow, e0, brows_len, refB]
  subst hKK
  simp (maxSteps := 10000000) only [go_sem, arow, brow, e0, brows_len, refB]
  refine TriZ.of (((h3).embed [0, 5] rfl (by repeat' first | exact trivial | rfl | (simp only [go_sem]; done) | constructor) rfl (by first | rfl | simp only [go_sem]) rfl (by simp)).mono ?_)
  rintro _ _ ⟨_, _, ⟨rfl, rfl⟩, rfl, rfl⟩
  simp (maxSteps := 10000000) only [go_sem, arow, brow, e0, brows_len, refB]
  refine TriZ.of (((h4).embed [0, 5] rfl (by repeat' first | exact trivial | rfl | (simp only [go_sem]; done) | constructor) rfl (by first | rfl | simp only [go_sem]) rfl (by simp)).mono ?_)
  rintro _ _ ⟨_, _, ⟨rfl, rfl⟩, rfl, rfl⟩
  simp (maxSteps := 10000000) only [go_sem, arow, brow, e0, brows_len, refB]
  refine TriZ.of (((h5).embed [0, 5] rfl (by repeat' first | exact trivial | rfl | (simp only [go_sem]; done) | constructor) rfl (by first | rfl | simp only [go_sem]) rfl (by simp)).mono ?_)
  rintro _ _ ⟨_, _, ⟨rfl, rfl⟩, rfl, rfl⟩
  simp (maxSteps := 10000000) only [go_sem, arow, brow, e0, brows_len, refB]
  refine ⟨_, _, .like Like.tupB (.sub [0, 1, 5] ?_ .done), rfl, rfl⟩
  simp only [EmbV, go_sem]
theorem places_bendno (L : List Itm) (q : Int) (a : Act) (h0 : 0 < L.length) (hL : L.length ≤ 400) (hk : a.kind = 5) (hn : a.i < 0 ∨ ((ga L (place L.length a.k)).text.length : Int) ≤ a.i ∨ a.b = 0) : Tri Try.prog 42 [.pbox 0 0, refB L q, .agg (arow a)] (bagM L q)
    (fun v m => v = .tup [refB L q, .bsym true] ∧ m = bagG L q) := by
  have e0 : ((L.length : Int) == 0) = false := by rw [beq_eq_false_iff_ne]; omega
  have hp := place_lt h0 a.k
  have hra := rat_spec L q a.k h0 (by omega)
  have hat := bat_spec L q a.k h0 (by omega)
  have hit := item_spec L q a.k h0 (by omega)
  have htk := bend_no L q a.k a.i a.b h0 (by omega) hn
  generalize place L.length a.k = p at *
  unfold bagM bagG at *
  have hin : (p : Int) < (L.length : Int) := by omega
  have hne : ((p : Int) != (p : Int)) = false := by simp
  have g := ga_eq hp
  refine Tri.post ?_
  by_cases c1 : a.i < 0
  · skip
    refine (Tri.enter (rl := r42) (code := c42) (by kernel_rfl) Try.func42 rfl c42_ok (by kernel_rfl) (by kernel_rfl) ?_)
    refine run_ok 4000 _ _ _ _ ?_
    simp (maxSteps := 10000000) only [go_sem, c42, r42, arow, brow, e0, brows_len, hne, hk, refB, c1, brows_h0 hp, brows_h1 hp, brows_h2 hp, brows_r0 hp, brows_r1 hp, brows_r2 hp, hin, g, Int.natCast_nonneg, seqb_self]
    refine sem_move 1 rfl ?_
    refine run_ok 4000 _ _ _ _ ?_
    simp (maxSteps := 10000000) only [go_sem, arow, brow, e0, brows_len, hne, hk, refB, c1, brows_h0 hp, brows_h1 hp, brows_h2 hp, brows_r0 hp, brows_r1 hp, brows_r2 hp, hin, g, Int.natCast_nonneg, seqb_self]
    refine sem_call rfl rfl (((hra).embed [] rfl (by repeat' first | exact trivial | rfl | (simp only [go_sem]; done) | constructor) rfl (by first | rfl | simp only [go_sem]) rfl (by simp)).mono ?_)
    rintro _ _ ⟨_, _, ⟨rfl, rfl⟩, rfl, rfl⟩
    refine run_ok 4000 _ _ _ _ ?_
    simp (maxSteps := 10000000) only [go_sem, arow, brow, e0, brows_len, hne, hk, refB, c1, brows_h0 hp, brows_h1 hp, brows_h2 hp, brows_r0 hp, brows_r1 hp, brows_r2 hp, hin, g, Int.natCast_nonneg, seqb_self]
    refine sem_call rfl rfl (((hat).embed [0, 5] rfl (by repeat' first | exact trivial | rfl | (simp only [go_sem]; done) | constructor) rfl (by first | rfl | simp only [go_sem]) rfl (by simp)).mono ?_)
    rintro _ _ ⟨_, _, ⟨rfl, rfl⟩, rfl, rfl⟩
    refine run_ok 4000 _ _ _ _ ?_
    simp (maxSteps := 10000000) only [go_sem, arow, brow, e0, brows_len, hne, hk, refB, c1, brows_h0 hp, brows_h1 hp, brows_h2 hp, brows_r0 hp, brows_r1 hp, brows_r2 hp, hin, g, Int.natCast_nonneg, seqb_self]
    refine sem_call rfl rfl (((hit).embed [0, 5] rfl (by repeat' first | exact trivial | rfl | (simp only [go_sem]; done) | constructor) rfl (by first | rfl | simp only [go_sem]) rfl (by simp)).mono ?_)
    rintro _ _ ⟨_, _, ⟨rfl, rfl⟩, rfl, rfl⟩
    refine run_ok 4000 _ _ _ _ ?_
    simp (maxSteps := 10000000) only [go_sem, arow, brow, e0, brows_len, hne, hk, refB, c1, brows_h0 hp, brows_h1 hp, brows_h2 hp, brows_r0 hp, brows_r1 hp, brows_r2 hp, hin, g, Int.natCast_nonneg, seqb_self]
    refine sem_drawG l42_1_ok (by kernel_rfl) ?_
    intro KK hKK
    simp (maxSteps := 10000000) only [go_sem, l42_1, arow, brow, e0, brows_len, hne, hk, refB, c1, brows_h0 hp, brows_h1 hp, brows_h2 hp, brows_r0 hp, brows_r1 hp, brows_r2 hp, hin, g, Int.natCast_nonneg, seqb_self]
    subst hKK
    simp (maxSteps := 10000000) only [go_sem, arow, brow, e0, brows_len, hne, hk, refB, c1, brows_h0 hp, brows_h1 hp, brows_h2 hp, brows_r0 hp, brows_r1 hp, brows_r2 hp, hin, g, Int.natCast_nonneg, seqb_self]
    refine sem_call rfl rfl (((htk).embed [0, 5] rfl (by repeat' first | exact trivial | rfl | (simp only [go_sem]; done) | constructor) rfl (by first | rfl | simp only [go_sem]) rfl (by simp)).mono ?_)
    rintro _ _ ⟨_, _, ⟨rfl, rfl⟩, rfl, rfl⟩
    refine run_ok 4000 _ _ _ _ ?_
    simp (maxSteps := 10000000) only [go_sem, arow, brow, e0, brows_len, hne, hk, refB, c1, brows_h0 hp, brows_h1 hp, brows_h2 hp, brows_r0 hp, brows_r1 hp, brows_r2 hp, hin, g, Int.natCast_nonneg, seqb_self]
    refine ⟨_, _, .like Like.tupB (.sub [0, 1, 5] ?_ .done), rfl, rfl⟩
    simp only [EmbV, go_sem]
  by_cases c2 : a.i ≥ ((ga L p).text.length : Int)
  · skip
    refine (Tri.enter (rl := r42) (code := c42) (by kernel_rfl) Try.func42 rfl c42_ok (by kernel_rfl) (by kernel_rfl) ?_)
    refine run_ok 4000 _ _ _ _ ?_
    simp (maxSteps := 10000000) only [go_sem, c42, r42, arow, brow, e0, brows_len, hne, hk, refB, c1, c2, brows_h0 hp, brows_h1 hp, brows_h2 hp, brows_r0 hp, brows_r1 hp, brows_r2 hp, hin, g, Int.natCast_nonneg, seqb_self]
    refine sem_move 1 rfl ?_
    refine run_ok 4000 _ _ _ _ ?_
    simp (maxSteps := 10000000) only [go_sem, arow, brow, e0, brows_len, hne, hk, refB, c1, c2, brows_h0 hp, brows_h1 hp, brows_h2 hp, brows_r0 hp, brows_r1 hp, brows_r2 hp, hin, g, Int.natCast_nonneg, seqb_self]
    refine sem_call rfl rfl (((hra).embed [] rfl (by repeat' first | exact trivial | rfl | (simp only [go_sem]; done) | constructor) rfl (by first | rfl | simp only [go_sem]) rfl (by simp)).mono ?_)
    rintro _ _ ⟨_, _, ⟨rfl, rfl⟩, rfl, rfl⟩
    refine run_ok 4000 _ _ _ _ ?_
    simp (maxSteps := 10000000) only [go_sem, arow, brow, e0, brows_len, hne, hk, refB, c1, c2, brows_h0 hp, brows_h1 hp, brows_h2 hp, brows_r0 hp, brows_r1 hp, brows_r2 hp, hin, g, Int.natCast_nonneg, seqb_self]
    refine sem_call rfl rfl (((hat).embed [0, 5] rfl (by repeat' first | exact trivial | rfl | (simp only [go_sem]; done) | constructor) rfl (by first | rfl | simp only [go_sem]) rfl (by simp)).mono ?_)
    rintro _ _ ⟨_, _, ⟨rfl, rfl⟩, rfl, rfl⟩
    refine run_ok 4000 _ _ _ _ ?_
    simp (maxSteps := 10000000) only [go_sem, arow, brow, e0, brows_len, hne, hk, refB, c1, c2, brows_h0 hp, brows_h1 hp, brows_h2 hp, brows_r0 hp, brows_r1 hp, brows_r2 hp, hin, g, Int.natCast_nonneg, seqb_self]
    refine sem_call rfl rfl (((hit).embed [0, 5] rfl (by repeat' first | exact trivial | rfl | (simp only [go_sem]; done) | constructor) rfl (by first | rfl | simp only [go_sem]) rfl (by simp)).mono ?_)
    rintro _ _ ⟨_, _, ⟨rfl, rfl⟩, rfl, rfl⟩
    refine run_ok 4000 _ _ _ _ ?_
    simp (maxSteps := 10000000) only [go_sem, arow, brow, e0, brows_len, hne, hk, refB, c1, c2, brows_h0 hp, brows_h1 hp, brows_h2 hp, brows_r0 hp, brows_r1 hp, brows_r2 hp, hin, g, Int.natCast_nonneg, seqb_self]
    refine sem_drawG l42_1_ok (by kernel_rfl) ?_
    intro KK hKK
    simp (maxSteps := 10000000) only [go_sem, l42_1, arow, brow, e0, brows_len, hne, hk, refB, c1, c2, brows_h0 hp, brows_h1 hp, brows_h2 hp, brows_r0 hp, brows_r1 hp, brows_r2 hp, hin, g, Int.natCast_nonneg, seqb_self]
    subst hKK
    simp (maxSteps := 10000000) only [go_sem, arow, brow, e0, brows_len, hne, hk, refB, c1, c2, brows_h0 hp, brows_h1 hp, brows_h2 hp, brows_r0 hp, brows_r1 hp, brows_r2 hp, hin, g, Int.natCast_nonneg, seqb_self]
    refine sem_call rfl rfl (((htk).embed [0, 5] rfl (by repeat' first | exact trivial | rfl | (simp only [go_sem]; done) | constructor) rfl (by first | rfl | simp only [go_sem]) rfl (by simp)).mono ?_)
    rintro _ _ ⟨_, _, ⟨rfl, rfl⟩, rfl, rfl⟩
    refine run_ok 4000 _ _ _ _ ?_
    simp (maxSteps := 10000000) only [go_sem, arow, brow, e0, brows_len, hne, hk, refB, c1, c2, brows_h0 hp, brows_h1 hp, brows_h2 hp, brows_r0 hp, brows_r1 hp, brows_r2 hp, hin, g, Int.natCast_nonneg, seqb_self]
    refine ⟨_, _, .like Like.tupB (.sub [0, 1, 5] ?_ .done), rfl, rfl⟩
    simp only [EmbV, go_sem]
  have c3 : a.b = 0 := by rcases hn with h | h | h; exact absurd h c1; exact absurd h c2; exact h
  have c4 : ((a.b.toNat : Int) == 0) = true := by rw [c3]; rfl
  skip
  refine (Tri.enter (rl := r42) (code := c42) (by kernel_rfl) Try.func42 rfl c42_ok (by kernel_rfl) (by kernel_rfl) ?_)
  refine run_ok 4000 _ _ _ _ ?_
  simp (maxSteps := 10000000) only [go_sem, c42, r42, arow, brow, e0, brows_len, hne, hk, refB, c1, c2, c4, brows_h0 hp, brows_h1 hp, brows_h2 hp, brows_r0 hp, brows_r1 hp, brows_r2 hp, hin, g, Int.natCast_nonneg, seqb_self]
  refine sem_move 1 rfl ?_
  refine run_ok 4000 _ _ _ _ ?_
  simp (maxSteps := 10000000) only [go_sem, arow, brow, e0, brows_len, hne, hk, refB, c1, c2, c4, brows_h0 hp, brows_h1 hp, brows_h2 hp, brows_r0 hp, brows_r1 hp, brows_r2 hp, hin, g, Int.natCast_nonneg, seqb_self]
  refine sem_call rfl rfl (((hra).embed [] rfl (by repeat' first | exact trivial | rfl | (simp only [go_sem]; done) | constructor) rfl (by first | rfl | simp only [go_sem]) rfl (by simp)).mono ?_)
  rintro _ _ ⟨_, _, ⟨rfl, rfl⟩, rfl, rfl⟩
  refine run_ok 4000 _ _ _ _ ?_
  simp (maxSteps := 10000000) only [go_sem, arow, brow, e0, brows_len, hne, hk, refB, c1, c2, c4, brows_h0 hp, brows_h1 hp, brows_h2 hp, brows_r0 hp, brows_r1 hp, brows_r2 hp, hin, g, Int.natCast_nonneg, seqb_self]
  refine sem_call rfl rfl (((hat).embed [0, 5] rfl (by repeat' first | exact trivial | rfl | (simp only [go_sem]; done) | constructor) rfl (by first | rfl | simp only [go_sem]) rfl (by simp)).mono ?_)
  rintro _ _ ⟨_, _, ⟨rfl, rfl⟩, rfl, rfl⟩
  refine run_ok 4000 _ _ _ _ ?_
  simp (maxSteps := 10000000) only [go_sem, arow, brow, e0, brows_len, hne, hk, refB, c1, c2, c4, brows_h0 hp, brows_h1 hp, brows_h2 hp, brows_r0 hp, brows_r1 hp, brows_r2 hp, hin, g, Int.natCast_nonneg, seqb_self]
  refine sem_call rfl rfl (((hit).embed [0, 5] rfl (by repeat' first | exact trivial | rfl | (simp only [go_sem]; done) | constructor) rfl (by first | rfl | simp only [go_sem]) rfl (by simp)).mono ?_)
  rintro _ _ ⟨_, _, ⟨rfl, rfl⟩, rfl, rfl⟩
  refine run_ok 4000 _ _ _ _ ?_
  simp (maxSteps := 10000000) only [go_sem, arow, brow, e0, brows_len, hne, hk, refB, c1, c2, c4, brows_h0 hp, brows_h1 hp, brows_h2 hp, brows_r0 hp, brows_r1 hp, brows_r2 hp, hin, g, Int.natCast_nonneg, seqb_self]
  refine sem_drawG l42_1_ok (by kernel_rfl) ?_
  intro KK hKK
  simp (maxSteps := 10000000) only [go_sem, l42_1, arow, brow, e0, brows_len, hne, hk, refB, c1, c2, c4, brows_h0 hp, brows_h1 hp, brows_h2 hp, brows_r0 hp, brows_r1 hp, brows_r2 hp, hin, g, Int.natCast_nonneg, seqb_self]
  subst hKK
  simp (maxSteps := 10000000) only [go_sem, arow, brow, e0, brows_len, hne, hk, refB, c1, c2, c4, brows_h0 hp, brows_h1 hp, brows_h2 hp, brows_r0 hp, brows_r1 hp, brows_r2 hp, hin, g, Int.natCast_nonneg, seqb_self]
  refine sem_call rfl rfl (((htk).embed [0, 5] rfl (by repeat' first | exact trivial | rfl | (simp only [go_sem]; done) | constructor) rfl (by first | rfl | simp only [go_sem]) rfl (by simp)).mono ?_)
  rintro _ _ ⟨_, _, ⟨rfl, rfl⟩, rfl, rfl⟩
  refine run_ok 4000 _ _ _ _ ?_
  simp (maxSteps := 10000000) only [go_sem, arow, brow, e0, brows_len, hne, hk, refB, c1, c2, c4, brows_h0 hp, brows_h1 hp, brows_h2 hp, brows_r0 hp, brows_r1 hp, brows_r2 hp, hin, g, Int.natCast_nonneg, seqb_self]
  refine ⟨_, _, .like Like.tupB (.sub [0, 1, 5] ?_ .done), rfl, rfl⟩
  simp only [EmbV, go_sem]
theorem places_bend (L : List Itm) (q : Int) (a : Act) (h0 : 0 < L.length) (hL : L.length ≤ 400) (hk : a.kind = 5) (i : Nat) (hi : a.i = i) (hn : i < (ga L (place L.length a.k)).text.length) (hs : (ga L (place L.length a.k)).text.length ≤ 10000) (hb : a.b ≠ 0) : Tri Try.prog 42 [.pbox 0 0, refB L q, .agg (arow a)] (bagM L q)
    (fun v m => v = .tup [refB (setT L (place L.length a.k) (bendT (ga L (place L.length a.k)).text i a.b)) q, .bsym true] ∧ m = bagG (setT L (place L.length a.k) (bendT (ga L (place L.length a.k)).text i a.b)) q) := by
  have e0 : ((L.length : Int) == 0) = false := by rw [beq_eq_false_iff_ne]; omega
  have hp := place_lt h0 a.k
  have hra := rat_spec L q a.k h0 (by omega)
  have hat := bat_spec L q a.k h0 (by omega)
  have hit := item_spec L q a.k h0 (by omega)
  have htk := bend_spec L q a.k i a.b h0 (by omega) hn hb (by omega)
  generalize place L.length a.k = p at *
  have hrb := rbend_spec (ga L p).text i a.b hn (by omega)
  have c1 : ¬ (i : Int) < 0 := by omega
  have c2 : ¬ (i : Int) ≥ ((ga L p).text.length : Int) := by omega
  have c4 : ((a.b.toNat : Int) == 0) = false := by rw [beq_eq_false_iff_ne]; intro h; apply hb; apply UInt8.toNat_inj.1; simpa using h
  have hrp : rput (brows L) p 2 [.str (bendT (ga L p).text i a.b)] = brows (setT L p (bendT (ga L p).text i a.b)) := brows_rput2 hp _
  have hin2 := brows_inR2 hp
  have hsl := setT_len L p (bendT (ga L p).text i a.b)
  generalize hT : setT L p (bendT (ga L p).text i a.b) = T at *
  unfold bagM bagG bagT at *
  have hin : (p : Int) < (L.length : Int) := by omega
  have hne : ((p : Int) != (p : Int)) = false := by simp
  have g := ga_eq hp
  refine Tri.post ?_
  skip
  refine (Tri.enter (rl := r42) (code := c42) (by kernel_rfl) Try.func42 rfl c42_ok (by kernel_rfl) (by kernel_rfl) ?_)
  refine run_ok 4000 _ _ _ _ ?_
  simp (maxSteps := 10000000) only [go_sem, c42, r42, arow, brow, e0, brows_len, hne, hk, hi, refB, c1, c2, c4, hrp, hin2, brows_h0 hp, brows_h1 hp, brows_h2 hp, brows_r0 hp, brows_r1 hp, brows_r2 hp, hin, g, Int.natCast_nonneg, seqb_self]
  refine sem_move 1 rfl ?_
  refine run_ok 4000 _ _ _ _ ?_
  simp (maxSteps := 10000000) only [go_sem, arow, brow, e0, brows_len, hne, hk, hi, refB, c1, c2, c4, hrp, hin2, brows_h0 hp, brows_h1 hp, brows_h2 hp, brows_r0 hp, brows_r1 hp, brows_r2 hp, hin, g, Int.natCast_nonneg, seqb_self]
  refine sem_call rfl rfl (((hra).embed [] rfl (by repeat' first | exact trivial | rfl | (simp only [go_sem]; done) | constructor) rfl (by first | rfl | simp only [go_sem]) rfl (by simp)).mono ?_)
  rintro _ _ ⟨_, _, ⟨rfl, rfl⟩, rfl, rfl⟩
  refine run_ok 4000 _ _ _ _ ?_
  simp (maxSteps := 10000000) only [go_sem, arow, brow, e0, brows_len, hne, hk, hi, refB, c1, c2, c4, hrp, hin2, brows_h0 hp, brows_h1 hp, brows_h2 hp, brows_r0 hp, brows_r1 hp, brows_r2 hp, hin, g, Int.natCast_nonneg, seqb_self]
  refine sem_call rfl rfl (((hat).embed [0, 5] rfl (by repeat' first | exact trivial | rfl | (simp only [go_sem]; done) | constructor) rfl (by first | rfl | simp only [go_sem]) rfl (by simp)).mono ?_)
  rintro _ _ ⟨_, _, ⟨rfl, rfl⟩, rfl, rfl⟩
  refine run_ok 4000 _ _ _ _ ?_
  simp (maxSteps := 10000000) only [go_sem, arow, brow, e0, brows_len, hne, hk, hi, refB, c1, c2, c4, hrp, hin2, brows_h0 hp, brows_h1 hp, brows_h2 hp, brows_r0 hp, brows_r1 hp, brows_r2 hp, hin, g, Int.natCast_nonneg, seqb_self]
  refine sem_call rfl rfl (((hit).embed [0, 5] rfl (by repeat' first | exact trivial | rfl | (simp only [go_sem]; done) | constructor) rfl (by first | rfl | simp only [go_sem]) rfl (by simp)).mono ?_)
  rintro _ _ ⟨_, _, ⟨rfl, rfl⟩, rfl, rfl⟩
  refine run_ok 4000 _ _ _ _ ?_
  simp (maxSteps := 10000000) only [go_sem, arow, brow, e0, brows_len, hne, hk, hi, refB, c1, c2, c4, hrp, hin2, brows_h0 hp, brows_h1 hp, brows_h2 hp, brows_r0 hp, brows_r1 hp, brows_r2 hp, hin, g, Int.natCast_nonneg, seqb_self]
  refine sem_drawG l42_1_ok (by kernel_rfl) ?_
  intro KK hKK
  simp (maxSteps := 10000000) only [go_sem, l42_1, arow, brow, e0, brows_len, hne, hk, hi, refB, c1, c2, c4, hrp, hin2, brows_h0 hp, brows_h1 hp, brows_h2 hp, brows_r0 hp, brows_r1 hp, brows_r2 hp, hin, g, Int.natCast_nonneg, seqb_self]
  subst hKK
  simp (maxSteps := 10000000) only [go_sem, arow, brow, e0, brows_len, hne, hk, hi, refB, c1, c2, c4, hrp, hin2, brows_h0 hp, brows_h1 hp, brows_h2 hp, brows_r0 hp, brows_r1 hp, brows_r2 hp, hin, g, Int.natCast_nonneg, seqb_self]
  refine sem_call rfl rfl (((htk).embed [0, 5] rfl (by repeat' first | exact trivial | rfl | (simp only [go_sem]; done) | constructor) rfl (by first | rfl | simp only [go_sem]) rfl (by simp)).mono ?_)
  rintro _ _ ⟨_, _, ⟨rfl, rfl⟩, rfl, rfl⟩
  refine run_ok 4000 _ _ _ _ ?_
  simp (maxSteps := 10000000) only [go_sem, arow, brow, e0, brows_len, hne, hk, hi, refB, c1, c2, c4, hrp, hin2, brows_h0 hp, brows_h1 hp, brows_h2 hp, brows_r0 hp, brows_r1 hp, brows_r2 hp, hin, g, Int.natCast_nonneg, seqb_self]
  refine ⟨by unfold small; omega, ?_⟩
  refine sem_call rfl rfl (((hrb).embed [] rfl (by repeat' first | exact trivial | rfl | (simp only [go_sem]; done) | constructor) rfl (by first | rfl | simp only [go_sem]) rfl (by simp)).mono ?_)
  rintro _ _ ⟨_, _, ⟨rfl, rfl⟩, rfl, rfl⟩
  refine run_ok 4000 _ _ _ _ ?_
  simp (maxSteps := 10000000) only [go_sem, arow, brow, e0, brows_len, hne, hk, hi, refB, c1, c2, c4, hrp, hin2, brows_h0 hp, brows_h1 hp, brows_h2 hp, brows_r0 hp, brows_r1 hp, brows_r2 hp, hin, g, Int.natCast_nonneg, seqb_self]
  refine ⟨_, _, .fz 8 rfl (by simp only [go_sem, brows_len, hsl, Nat.le_refl]) (.like Like.tupB (.sub [0, 1, 7] ?_ .done)), rfl, rfl⟩
  have hs2 : sub (brows T) 0 L.length = brows T := by rw [← hsl]; exact brows_all T
  simp only [EmbV, go_sem, hs2]
end Go.AEX
