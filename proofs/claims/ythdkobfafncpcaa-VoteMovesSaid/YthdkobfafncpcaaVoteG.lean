/- Vote: Move, With; VoteMoves. -/
import Derived.Test.YthdkobfafncpcaaVoteF
import Derived.Test.YthdkobfafncpcaaVoteE
namespace Go.AEX
open Go Go.AE Go.Proofs
set_option maxRecDepth 100000
set_option linter.unusedVariables false
set_option linter.unusedSimpArgs false

theorem moveK_spec (S S' : Nat) (hS : S' < 4294967296) (ep ep' q : Int) (V : Vts) (hn : (V.map (·.1)).Nodup) (hq : hasN S' q = true) : Tri Try.prog 33 [.pbox 0 0, ros S' ep'] (vM S ep q V)
    (fun v m => v = .tup [] ∧ m = vM S' ep' q (V.filter fun p => hasN S' p.1)) := by
  refine Tri.post ?_
  have h1 := delK_spec S' hS ep' q V hq
  have h2 := del_spec S' hS ep' V hn
  refine (Tri.enter (rl := r33) (code := c33) (by kernel_rfl) Try.func33 rfl c33_ok (by kernel_rfl) (by kernel_rfl) ?_)
  refine run_ok 4000 _ _ _ _ ?_
  simp (maxSteps := 10000000) only [go_sem, c33, r33]
  refine sem_call rfl rfl (((h1).embed [1, 2, 3] rfl (by repeat' first | exact trivial | rfl | (simp only [go_sem]; done) | constructor) rfl (by first | rfl | simp only [go_sem]) rfl (by simp)).mono ?_)
  rintro _ _ ⟨_, _, ⟨rfl, rfl⟩, rfl, rfl⟩
  refine run_ok 4000 _ _ _ _ ?_
  simp (maxSteps := 10000000) only [go_sem]
  refine sem_births 1 rfl ?_
  intro bm clock bs hl hlt hnb
  obtain ⟨b0, rfl⟩ : ∃ b, bs = [b] := by
    match bs, hl with
    | [b], _ => exact ⟨b, rfl⟩
  simp (maxSteps := 10000000) only [go_sem]
  refine sem_rng rfl rfl rfl ?_
  refine run_ok 4000 _ _ _ _ ?_
  simp (maxSteps := 10000000) only [go_sem]
  refine sem_rounds (fun x : Bool => True)
    (fun x => [(0, .pbox 0 0), (3, .pbox 3 0), (20, .pbox 4 0)])
    (fun x => [vBox S' ep', .mapb bm clock [b0] [(.int .i64 q, .map 2)], .map (vb (cond x V (V.filter fun p => hasN S' p.1))), .box [.int .u32 (S' : Nat), .int .i64 ep'], .iter (some bm) clock (cond x [] [b0]) clock]) (fun x => (cond x 1 0 : Nat)) true [0, 1, 2, 3, 4] trivial ?_ ?_
  · simp only [Emb, go_sem, cond_true]
  intro al _
  cases al with
  | true =>
    simp only [cond_true]
    refine run_ok 4000 _ _ _ _ ?_
    simp (maxSteps := 10000000) only [go_sem]
    refine sem_nxt (i := 4) (b := 1) rfl rfl rfl rfl hlt (Nat.le_refl _) ?_ ?_
    · intro hd; simp at hd
    · intro j born key val h1 h2' h3
      obtain ⟨rfl, rfl, rfl⟩ : key = .int .i64 q ∧ val = .map 2 ∧ b0 = born := by
        cases j with
        | zero => cases h2'; cases h1; exact ⟨rfl, rfl, rfl⟩
        | succ j => simp at h2'
      refine run_ok 4000 _ _ _ _ ?_
      simp (maxSteps := 10000000) only [go_sem]
      refine sem_ent (i := 4) (b := 1) (j := j) (seen := []) rfl rfl rfl rfl h1 h2' ?_
      refine run_ok 4000 _ _ _ _ ?_
      simp (maxSteps := 10000000) only [go_sem]
      refine sem_call rfl rfl (((h2).embed [2, 3] rfl (by repeat' first | exact trivial | rfl | (simp only [go_sem]; done) | constructor) rfl (by first | rfl | simp only [go_sem]) rfl (by simp)).mono ?_)
      rintro _ _ ⟨_, _, ⟨rfl, rfl⟩, rfl, rfl⟩
      refine run_ok 4000 _ _ _ _ ?_
      simp (maxSteps := 10000000) only [go_sem]
      refine ⟨false, by simp, [0, 1, 2, 3, 4], ?_⟩
      simp only [Emb, go_sem, cond_false]
  | false =>
    simp only [cond_false]
    refine run_ok 4000 _ _ _ _ ?_
    simp (maxSteps := 10000000) only [go_sem]
    refine sem_nxt (i := 4) (b := 1) rfl rfl rfl rfl hlt (Nat.le_refl _) ?_ ?_
    · intro hd
      refine run_ok 4000 _ _ _ _ ?_
      simp (maxSteps := 10000000) only [go_sem]
      refine sem_unborn 1 rfl ?_
      refine run_ok 4000 _ _ _ _ ?_
      simp (maxSteps := 10000000) only [go_sem]
      refine ⟨_, _, .sub [0, 1, 2] ?_ .done, rfl, rfl⟩
      simp only [EmbV, go_sem]
    · intro j born key val h1 h2' h3
      exfalso
      cases j with
      | zero => cases h1; simp at h3
      | succ j => simp at h1
theorem moveG_spec (S S' : Nat) (hS : S' < 4294967296) (ep ep' q : Int) (V : Vts) (hq : hasN S' q = false) : Tri Try.prog 33 [.pbox 0 0, ros S' ep'] (vM S ep q V)
    (fun v m => v = .tup [] ∧ m = [vBox S' ep', .map [], .map (vb V)]) := by
  refine Tri.post ?_
  have h1 := delG_spec S' hS ep' q V hq
  refine (Tri.enter (rl := r33) (code := c33) (by kernel_rfl) Try.func33 rfl c33_ok (by kernel_rfl) (by kernel_rfl) ?_)
  refine run_ok 4000 _ _ _ _ ?_
  simp (maxSteps := 10000000) only [go_sem, c33, r33]
  refine sem_call rfl rfl (((h1).embed [1, 2, 3] rfl (by repeat' first | exact trivial | rfl | (simp only [go_sem]; done) | constructor) rfl (by first | rfl | simp only [go_sem]) rfl (by simp)).mono ?_)
  rintro _ _ ⟨_, _, ⟨rfl, rfl⟩, rfl, rfl⟩
  refine run_ok 4000 _ _ _ _ ?_
  simp (maxSteps := 10000000) only [go_sem]
  refine sem_births 1 rfl ?_
  intro bm clock bs hl hlt hnb
  obtain rfl : bs = [] := by
    match bs, hl with
    | [], _ => rfl
  simp (maxSteps := 10000000) only [go_sem]
  refine sem_rng rfl rfl rfl ?_
  refine run_ok 4000 _ _ _ _ ?_
  simp (maxSteps := 10000000) only [go_sem]
  refine sem_rounds (fun x : Nat => True)
    (fun x => [(0, .pbox 0 0), (3, .pbox 3 0), (20, .pbox 4 0)])
    (fun x => [vBox S' ep', .mapb bm clock [] [], .map (vb V), .box [.int .u32 (S' : Nat), .int .i64 ep'], .iter (some bm) clock [] clock]) (fun x => 0) 0 [0, 1, 2, 3, 4] trivial ?_ ?_
  · simp only [Emb, go_sem]
  intro al _
  refine run_ok 4000 _ _ _ _ ?_
  simp (maxSteps := 10000000) only [go_sem]
  refine sem_nxt (i := 4) (b := 1) rfl rfl rfl rfl (by simp) (Nat.le_refl _) ?_ ?_
  · intro hd
    refine run_ok 4000 _ _ _ _ ?_
    simp (maxSteps := 10000000) only [go_sem]
    refine sem_unborn 1 rfl ?_
    refine run_ok 4000 _ _ _ _ ?_
    simp (maxSteps := 10000000) only [go_sem]
    refine ⟨_, _, .sub [0, 1, 2] ?_ .done, rfl, rfl⟩
    simp only [EmbV, go_sem]
  · intro j born key val h1 h2' h3
    simp at h1
attribute [go_sem] Int.reduceGE Int.reduceGT
theorem xor_u32 (a b : Nat) (ha : a < 4294967296) (hb : b < 4294967296) : ibits .xor .u32 (a : Int) (b : Int) = ((a ^^^ b : Nat) : Int) := by
  show iwrap .u32 ((BitVec.ofInt 32 (a : Int) ^^^ BitVec.ofInt 32 (b : Int)).toNat : Int) = _
  have h : a ^^^ b < 2 ^ 32 := Nat.xor_lt_two_pow ha hb
  rw [BitVec.ofInt_natCast, BitVec.ofInt_natCast, BitVec.toNat_xor, BitVec.toNat_ofNat, BitVec.toNat_ofNat, Nat.mod_eq_of_lt (show a < 2 ^ 32 by omega), Nat.mod_eq_of_lt (show b < 2 ^ 32 by omega), iwrap_u32]
  omega
theorem check_spec (S : Nat) (hS : S < 4294967296) (ep p : Int) (hp : 1 ≤ p) (h : hasN S p = true) : Tri Try.prog 46 [ros S ep, .agg [.int .i64 2, .int .i64 p, .nilsl]] [] (fun v m => v = .int .i64 0 ∧ m = []) := by
  refine Tri.post ?_
  have hr := hasN_rg h
  have hh := has_spec S hS ep p
  rw [h] at hh
  have e0 : (p == 0) = false := by simp; omega
  have g0 : ¬ p < 0 := by omega
  have g1 : ¬ p ≥ 32 := by omega
  skip
  refine (Tri.enter (rl := r46) (code := c46) (by kernel_rfl) Try.func46 rfl c46_ok (by kernel_rfl) (by kernel_rfl) ?_)
  refine run_ok 4000 _ _ _ _ ?_
  simp (maxSteps := 10000000) only [go_sem, c46, r46, e0, g0, g1]
  refine sem_call rfl rfl (((hh).embed [] rfl trivial rfl rfl rfl (by simp)).mono ?_)
  rintro _ _ ⟨_, _, ⟨rfl, rfl⟩, rfl, rfl⟩
  refine run_ok 4000 _ _ _ _ ?_
  simp (maxSteps := 10000000) only [go_sem, e0, g0, g1]
  refine ⟨_, _, .sub [] ?_ .done, rfl, rfl⟩
  simp only [EmbV, go_sem]
theorem with_spec (S : Nat) (hS : S < 4294967296) (ep p : Int) (hp : 1 ≤ p) (h : hasN S p = true) (he : -1000 ≤ ep ∧ ep ≤ 1000) (tight : Bool) : Tri Try.prog 32 [ros S ep, .vsl 3 [[.int .i64 2, .int .i64 p, .nilsl]] tight] []
    (fun v m => v = .tup [ros (S ^^^ 2 ^ p.toNat) (ep + 1), .int .i64 0] ∧ m = []) := by
  refine Tri.post ?_
  have hc := check_spec S hS ep p hp h
  have hr := hasN_rg h
  obtain ⟨k, rfl⟩ : ∃ k : Nat, p = (k : Int) := ⟨p.toNat, by omega⟩
  rw [Int.toNat_natCast]
  have e1 := shl1_u32 k (by omega)
  have hp2 : 2 ^ k < 4294967296 := Nat.lt_of_le_of_lt (Nat.pow_le_pow_right (by decide) (by omega : k ≤ 31)) (by decide : 2 ^ 31 < 4294967296)
  have w1 : iwrap .i64 (ep + 1) = ep + 1 := iwrap_i64_in (by omega)
  have hx : ibits .xor .u32 (S : Int) ((2 ^ k : Nat) : Int) = ((S ^^^ 2 ^ k : Nat) : Int) := xor_u32 S (2 ^ k) hS hp2
  have g0 : (k : Int) ≥ 0 := by omega
  generalize S ^^^ 2 ^ k = S' at *
  generalize 2 ^ k = K2 at *
  have hA : hasA [[.int .i64 2, .int .i64 (k : Nat), .nilsl]] 0 2 := by simp [hasA]
  have rA : rany [[.int .i64 2, .int .i64 (k : Nat), .nilsl]] 0 2 = .nilsl := rfl
  skip
  refine (Tri.enter (rl := r32) (code := c32) (by kernel_rfl) Try.func32 rfl c32_ok (by kernel_rfl) (by kernel_rfl) ?_)
  refine run_ok 4000 _ _ _ _ ?_
  simp (maxSteps := 10000000) only [go_sem, c32, r32, e1, w1, hx, g0, hA, rA]
  refine sem_rounds (fun i : Bool => True)
    (fun i => [(2, .pbox 0 0), (4, .pbox 1 0), (5, .int .i64 0), (6, .pbox 2 0), (11, .vsl 3 [[.int .i64 2, .int .i64 (k : Nat), .nilsl]] tight), (12, .int .i64 1), (13, .int .i64 (cond i 0 1))])
    (fun i => [.box [.int .u32 (cond i S S' : Nat), .int .i64 (cond i ep (ep + 1))], .box [.int .u32 0, .int .i64 0], .box [.int .u32 (S : Nat), .int .i64 ep]]) (fun i => (cond i 1 0 : Nat)) true [0, 1, 2] trivial ?_ ?_
  · simp [Emb, go_sem]
  intro i _
  cases i with
  | true =>
    simp only [cond_true]
    refine run_ok 4000 _ _ _ _ ?_
    simp (maxSteps := 10000000) only [go_sem, e1, w1, hx, g0, hA, rA]
    refine sem_call rfl rfl (((hc).embed [] rfl trivial rfl rfl rfl (by simp)).mono ?_)
    rintro _ _ ⟨_, _, ⟨rfl, rfl⟩, rfl, rfl⟩
    refine run_ok 4000 _ _ _ _ ?_
    simp (maxSteps := 10000000) only [go_sem, e1, w1, hx, g0, hA, rA]
    refine sem_drawG l32_0_ok (by kernel_rfl) ?_
    intro KK hKK
    simp (maxSteps := 10000000) only [go_sem, l32_0, e1, w1, hx, g0, hA, rA]
    subst hKK
    simp (maxSteps := 10000000) only [go_sem, e1, w1, hx, g0, hA, rA]
    refine ⟨false, by simp, [0, 1, 2], ?_⟩
    simp only [Emb, go_sem, cond_false]
    rfl
  | false =>
    simp only [cond_false]
    refine run_ok 4000 _ _ _ _ ?_
    simp (maxSteps := 10000000) only [go_sem, e1, w1, hx, g0, hA, rA]
    refine run_ok 4000 _ _ _ _ ?_
    simp (maxSteps := 10000000) only [go_sem, e1, w1, hx, g0, hA, rA]
    refine ⟨_, _, .sub [] ?_ .done, rfl, rfl⟩
    simp only [EmbV, go_sem]
end Go.AEX
