/- HPair, HPairD, HPairE in one. -/
import Derived.Test.YthpfmahafgfbeaaHLinkT
/- Two ends: what comes. -/
namespace Go.AEX
open Go Go.AE Go.Proofs
set_option maxRecDepth 100000
set_option linter.unusedVariables false
set_option linter.unusedSimpArgs false

theorem hasA2 {x0 x1 : List AV} {u : AV} {xs : List (List AV)} : hasA (x0 :: x1 :: [u] :: xs) 2 0 := ⟨_, _, rfl, rfl⟩
theorem rany2 {x0 x1 : List AV} {u : AV} {xs : List (List AV)} : rany (x0 :: x1 :: [u] :: xs) 2 0 = u := rfl
theorem hasA3 {x0 x1 x2 : List AV} {u : AV} {xs : List (List AV)} : hasA (x0 :: x1 :: x2 :: [u] :: xs) 3 0 := ⟨_, _, rfl, rfl⟩
theorem rany3 {x0 x1 x2 : List AV} {u : AV} {xs : List (List AV)} : rany (x0 :: x1 :: x2 :: [u] :: xs) 3 0 = u := rfl
theorem hasA4 {x0 x1 x2 x3 : List AV} {u : AV} {xs : List (List AV)} : hasA (x0 :: x1 :: x2 :: x3 :: [u] :: xs) 4 0 := ⟨_, _, rfl, rfl⟩
theorem rany4 {x0 x1 x2 x3 : List AV} {u : AV} {xs : List (List AV)} : rany (x0 :: x1 :: x2 :: x3 :: [u] :: xs) 4 0 = u := rfl
theorem hasA5 {x0 x1 x2 x3 x4 : List AV} {u : AV} {xs : List (List AV)} : hasA (x0 :: x1 :: x2 :: x3 :: x4 :: [u] :: xs) 5 0 := ⟨_, _, rfl, rfl⟩
theorem rany5 {x0 x1 x2 x3 x4 : List AV} {u : AV} {xs : List (List AV)} : rany (x0 :: x1 :: x2 :: x3 :: x4 :: [u] :: xs) 5 0 = u := rfl
theorem hasA6 {x0 x1 x2 x3 x4 x5 : List AV} {u : AV} {xs : List (List AV)} : hasA (x0 :: x1 :: x2 :: x3 :: x4 :: x5 :: [u] :: xs) 6 0 := ⟨_, _, rfl, rfl⟩
theorem rany6 {x0 x1 x2 x3 x4 x5 : List AV} {u : AV} {xs : List (List AV)} : rany (x0 :: x1 :: x2 :: x3 :: x4 :: x5 :: [u] :: xs) 6 0 = u := rfl
theorem hasA7 {x0 x1 x2 x3 x4 x5 x6 : List AV} {u : AV} {xs : List (List AV)} : hasA (x0 :: x1 :: x2 :: x3 :: x4 :: x5 :: x6 :: [u] :: xs) 7 0 := ⟨_, _, rfl, rfl⟩
theorem rany7 {x0 x1 x2 x3 x4 x5 x6 : List AV} {u : AV} {xs : List (List AV)} : rany (x0 :: x1 :: x2 :: x3 :: x4 :: x5 :: x6 :: [u] :: xs) 7 0 = u := rfl
theorem hasA8 {x0 x1 x2 x3 x4 x5 x6 x7 : List AV} {u : AV} {xs : List (List AV)} : hasA (x0 :: x1 :: x2 :: x3 :: x4 :: x5 :: x6 :: x7 :: [u] :: xs) 8 0 := ⟨_, _, rfl, rfl⟩
theorem rany8 {x0 x1 x2 x3 x4 x5 x6 x7 : List AV} {u : AV} {xs : List (List AV)} : rany (x0 :: x1 :: x2 :: x3 :: x4 :: x5 :: x6 :: x7 :: [u] :: xs) 8 0 = u := rfl
theorem w64_0 : iwrap .i64 (0 : Int) = 0 := rfl
theorem w64_1 : iwrap .i64 (1 : Int) = 1 := rfl
attribute [go_sem] hasA2 hasA3 hasA4 hasA5 hasA6 hasA7 hasA8 rany2 rany3 rany4 rany5 rany6 rany7 rany8 w64_0 w64_1
def sw (p : PS) : PS := ⟨p.b, p.a, p.w1, p.w0, p.s1, p.s0, p.c1, p.c0, p.now⟩
abbrev pN (p : PS) : Mem := [.box [.pbox 1 0, .pbox 8 0, .sl 15 0 p.w0.length p.w0.length false, .sl 16 0 p.w1.length p.w1.length false, .sl 17 0 p.s0.length p.s0.length false, .sl 18 0 p.s1.length p.s1.length false, .sl 19 0 p.c0.length p.c0.length false, .sl 20 0 p.c1.length p.c1.length false, .int .i64 p.now],
  .box [.pbox 2 0, .pbox 3 0, .pbox 4 0, .str p.a.js, .int .i64 p.a.jn, .vsl 2 (prows p.a.ws) false, .bsym p.a.tell, .int .i64 p.a.bad, .int .i64 p.a.car],
  .box [.int .u32 p.a.on, .sl 5 0 p.a.ol.length p.a.ol.length false], .box [.int .u32 p.a.inx, .map 6], .box [.int .i64 p.a.cf, .int .i64 p.a.cm, .sl 7 0 p.a.tl.length p.a.tl.length false],
  .row 2 (irows p.a.ol), .map (me p.a.im), .row 4 (terows p.a.tl),
  .box [.pbox 9 0, .pbox 10 0, .pbox 11 0, .str p.b.js, .int .i64 p.b.jn, .vsl 2 (prows p.b.ws) false, .bsym p.b.tell, .int .i64 p.b.bad, .int .i64 p.b.car],
  .box [.int .u32 p.b.on, .sl 12 0 p.b.ol.length p.b.ol.length false], .box [.int .u32 p.b.inx, .map 13], .box [.int .i64 p.b.cf, .int .i64 p.b.cm, .sl 14 0 p.b.tl.length p.b.tl.length false],
  .row 2 (irows p.b.ol), .map (me p.b.im), .row 4 (terows p.b.tl),
  .row 1 (sv p.w0), .row 1 (sv p.w1), .row 1 (sv p.s0), .row 1 (sv p.s1), .row 1 (sv p.c0), .row 1 (sv p.c1)]
abbrev pN2 (p : PS) : Mem := [.box [.pbox 1 0, .pbox 8 0, .sl 25 0 p.w0.length p.w0.length false, .sl 26 0 p.w1.length p.w1.length false, .sl 27 0 p.s0.length p.s0.length false, .sl 28 0 p.s1.length p.s1.length false, .sl 29 0 p.c0.length p.c0.length false, .sl 30 0 p.c1.length p.c1.length false, .int .i64 p.now],
  .box [.pbox 2 0, .pbox 3 0, .pbox 4 0, .str p.a.js, .int .i64 p.a.jn, .vsl 2 (prows p.a.ws) false, .bsym p.a.tell, .int .i64 p.a.bad, .int .i64 p.a.car],
  .box [.int .u32 p.a.on, .sl 21 0 p.a.ol.length p.a.ol.length false], .box [.int .u32 p.a.inx, .map 6], .box [.int .i64 p.a.cf, .int .i64 p.a.cm, .sl 22 0 p.a.tl.length p.a.tl.length false],
  .gone, .map (me p.a.im), .gone,
  .box [.pbox 9 0, .pbox 10 0, .pbox 11 0, .str p.b.js, .int .i64 p.b.jn, .vsl 2 (prows p.b.ws) false, .bsym p.b.tell, .int .i64 p.b.bad, .int .i64 p.b.car],
  .box [.int .u32 p.b.on, .sl 23 0 p.b.ol.length p.b.ol.length false], .box [.int .u32 p.b.inx, .map 13], .box [.int .i64 p.b.cf, .int .i64 p.b.cm, .sl 24 0 p.b.tl.length p.b.tl.length false],
  .gone, .map (me p.b.im), .gone,
  .gone, .gone, .gone, .gone, .gone, .gone,
  .row 2 (irows p.a.ol), .row 4 (terows p.a.tl), .row 2 (irows p.b.ol), .row 4 (terows p.b.tl), .row 1 (sv p.w0), .row 1 (sv p.w1), .row 1 (sv p.s0), .row 1 (sv p.s1), .row 1 (sv p.c0), .row 1 (sv p.c1)]
def recv0 (p : PS) (d : List UInt8) : PS := { p with a := (recvF p.a d).1, c0 := p.c0 ++ (recvF p.a d).2.1 }
def recv1 (p : PS) (d : List UInt8) : PS := { p with b := (recvF p.b d).1, c1 := p.c1 ++ (recvF p.b d).2.1 }
set_option maxHeartbeats 40000000 in
theorem prec0_spec (p : PS) (d : List UInt8) (ok : LOk p.a) (hd : d.length ≤ 1000000) (hb : RB 0 p.a 0) (R : List (List UInt8)) (hR : p.s1 = p.c0 ++ (recvF p.a d).2.1 ++ R) (hl : p.s1.length ≤ 100000) :
    Tri Try.prog 12 [.pbox 0 0, .int .i64 0, .str d] (pN p) (fun v m => v = .bool true ∧ m = pN2 (recv0 p d)) := by
  refine Tri.post ?_
  have hr := lrecv_spec p.a d ok hd hb
  unfold recv0
  generalize recvF p.a d = Q at *
  obtain ⟨a', l, e⟩ := Q
  simp only at hr hR ⊢
  skip
  refine (Tri.enter (rl := r12) (code := c12) (by kernel_rfl) Try.func12 rfl c12_ok (by kernel_rfl) (by kernel_rfl) ?_)
  refine run_ok 4000 _ _ _ _ ?_
  simp (maxSteps := 10000000) only [go_sem, c12, r12, lkM, lkM2, lkB, lkA, lkC, pBox, List.cons_append, List.nil_append]
  refine sem_move 5 rfl ?_
  simp (maxSteps := 10000000) only [go_sem, lkM, lkM2, lkB, lkA, lkC, pBox, List.cons_append, List.nil_append]
  refine sem_move 7 rfl ?_
  simp (maxSteps := 10000000) only [go_sem, lkM, lkM2, lkB, lkA, lkC, pBox, List.cons_append, List.nil_append]
  refine sem_move 12 rfl ?_
  simp (maxSteps := 10000000) only [go_sem, lkM, lkM2, lkB, lkA, lkC, pBox, List.cons_append, List.nil_append]
  refine sem_move 14 rfl ?_
  simp (maxSteps := 10000000) only [go_sem, lkM, lkM2, lkB, lkA, lkC, pBox, List.cons_append, List.nil_append]
  refine sem_move 15 rfl ?_
  simp (maxSteps := 10000000) only [go_sem, lkM, lkM2, lkB, lkA, lkC, pBox, List.cons_append, List.nil_append]
  refine sem_move 16 rfl ?_
  simp (maxSteps := 10000000) only [go_sem, lkM, lkM2, lkB, lkA, lkC, pBox, List.cons_append, List.nil_append]
  refine sem_move 17 rfl ?_
  simp (maxSteps := 10000000) only [go_sem, lkM, lkM2, lkB, lkA, lkC, pBox, List.cons_append, List.nil_append]
  refine sem_move 18 rfl ?_
  simp (maxSteps := 10000000) only [go_sem, lkM, lkM2, lkB, lkA, lkC, pBox, List.cons_append, List.nil_append]
  refine sem_move 19 rfl ?_
  simp (maxSteps := 10000000) only [go_sem, lkM, lkM2, lkB, lkA, lkC, pBox, List.cons_append, List.nil_append]
  refine sem_move 20 rfl ?_
  simp (maxSteps := 10000000) only [go_sem, lkM, lkM2, lkB, lkA, lkC, pBox, List.cons_append, List.nil_append]
  refine sem_call rfl rfl (((hr).embed [1, 2, 3, 4, 21, 6, 22] rfl (by repeat' first | exact trivial | rfl | (simp only [go_sem]; done) | constructor) rfl (by first | rfl | simp only [go_sem]) rfl (by simp)).mono ?_)
  rintro _ _ ⟨_, _, ⟨rfl, rfl⟩, rfl, rfl⟩
  refine run_ok 4000 _ _ _ _ ?_
  simp (maxSteps := 10000000) only [go_sem, lkM, lkM2, lkB, lkA, lkC, pBox, List.cons_append, List.nil_append]
  refine sem_rounds (fun i : Nat => i ≤ l.length)
    (fun i => [(0, .pbox 0 0), (1, .int .i64 0), (23, .vsl 1 (sv l) false), (24, .int .i64 l.length), (25, .int .i64 i)])
    (fun i => pN2 { p with a := a', c0 := p.c0 ++ l.take i }) (fun i => l.length - i) 0 [0, 1, 2, 3, 4, 5, 6, 7, 8, 9, 10, 11, 12, 13, 14, 15, 16, 17, 18, 19, 20, 31, 32, 23, 24, 25, 26, 27, 28, 29, 30] (Nat.zero_le _) ?_ ?_
  · simp [Emb, go_sem, sv_len]
  intro i hi
  have hpl := congrArg List.length hR
  simp only [List.length_append] at hpl
  have hcl : (p.c0 ++ l.take i).length = p.c0.length + i := by rw [List.length_append, List.length_take]; omega
  by_cases hlt : i < l.length
  · have hin : (i : Int) < (l.length : Int) := by omega
    have r0 := sv_rstr hlt
    have h0 := sv_hasS hlt
    have hk : p.c0.length + i < p.s1.length := by omega
    have r1 := sv_rstr hk
    have h1 := sv_hasS hk
    have he : p.s1[p.c0.length + i] = l[i] := by
      have : p.s1[p.c0.length + i]? = some l[i] := by
        rw [hR, List.append_assoc, List.getElem?_append_right (by omega), Nat.add_sub_cancel_left, List.getElem?_append_left hlt, List.getElem?_eq_getElem hlt]
      rw [List.getElem?_eq_getElem hk] at this
      exact Option.some.inj this
    rw [he] at r1
    have hc1 : ¬ ((p.c0.length + i : Nat) : Int) ≥ (p.s1.length : Int) := by omega
    have hc2 : ((p.c0.length + i : Nat) : Int) < (p.s1.length : Int) := by omega
    have htk : p.c0 ++ l.take (i + 1) = p.c0 ++ l.take i ++ [l[i]] := by rw [List.take_succ_eq_append_getElem hlt, List.append_assoc]
    have hsub := sub_sv (p.c0 ++ l.take i)
    rw [hcl] at hsub
    generalize l[i] = x at *
    generalize p.c0 ++ l.take i = C at *
    skip
    refine run_ok 4000 _ _ _ _ ?_
    simp (maxSteps := 10000000) only [go_sem, hin, r0, h0, r1, h1, hcl, sv_len, hc1, hc2, hsub, Int.natCast_nonneg, pBox, List.cons_append, List.nil_append, inc64 (show i < 1000000000000 by omega)]
    refine sem_drawG l12_0_ok (by kernel_rfl) ?_
    intro KK hKK
    simp (maxSteps := 10000000) only [go_sem, l12_0, hin, r0, h0, r1, h1, hcl, sv_len, hc1, hc2, hsub, Int.natCast_nonneg, pBox, List.cons_append, List.nil_append, inc64 (show i < 1000000000000 by omega)]
    refine ⟨by unfold small; omega, ?_⟩
    subst hKK
    simp (maxSteps := 10000000) only [go_sem, hin, r0, h0, r1, h1, hcl, sv_len, hc1, hc2, hsub, Int.natCast_nonneg, pBox, List.cons_append, List.nil_append, inc64 (show i < 1000000000000 by omega)]
    rw [svl_one]
    refine ⟨i + 1, by omega, hlt, [0, 1, 2, 3, 4, 5, 6, 7, 8, 9, 10, 11, 12, 13, 14, 15, 16, 17, 18, 19, 20, 21, 22, 23, 24, 25, 26, 27, 28, 31, 30], ?_⟩
    rw [htk]
    simp [Emb, go_sem, hcl]
  · have hge : ¬ (i : Int) < (l.length : Int) := by omega
    have hie : i = l.length := by omega
    subst hie
    rw [List.take_length]
    skip
    refine run_ok 4000 _ _ _ _ ?_
    simp (maxSteps := 10000000) only [go_sem, hge, List.cons_append, List.nil_append]
    refine run_ok 4000 _ _ _ _ ?_
    simp (maxSteps := 10000000) only [go_sem, hge, List.cons_append, List.nil_append]
    refine ⟨_, _, .sub [0, 1, 2, 3, 4, 5, 6, 7, 8, 9, 10, 11, 12, 13, 14, 15, 16, 17, 18, 19, 20, 21, 22, 23, 24, 25, 26, 27, 28, 29, 30] ?_ .done, rfl, rfl⟩
    simp only [EmbV, go_sem]
set_option maxHeartbeats 40000000 in
theorem prec1_spec (p : PS) (d : List UInt8) (ok : LOk p.b) (hd : d.length ≤ 1000000) (hb : RB 0 p.b 0) (R : List (List UInt8)) (hR : p.s0 = p.c1 ++ (recvF p.b d).2.1 ++ R) (hl : p.s0.length ≤ 100000) :
    Tri Try.prog 12 [.pbox 0 0, .int .i64 1, .str d] (pN p) (fun v m => v = .bool true ∧ m = pN2 (recv1 p d)) := by
  refine Tri.post ?_
  have hr := lrecv_spec p.b d ok hd hb
  unfold recv1
  generalize recvF p.b d = Q at *
  obtain ⟨a', l, e⟩ := Q
  simp only at hr hR ⊢
  skip
  refine (Tri.enter (rl := r12) (code := c12) (by kernel_rfl) Try.func12 rfl c12_ok (by kernel_rfl) (by kernel_rfl) ?_)
  refine run_ok 4000 _ _ _ _ ?_
  simp (maxSteps := 10000000) only [go_sem, c12, r12, lkM, lkM2, lkB, lkA, lkC, pBox, List.cons_append, List.nil_append]
  refine sem_move 5 rfl ?_
  simp (maxSteps := 10000000) only [go_sem, lkM, lkM2, lkB, lkA, lkC, pBox, List.cons_append, List.nil_append]
  refine sem_move 7 rfl ?_
  simp (maxSteps := 10000000) only [go_sem, lkM, lkM2, lkB, lkA, lkC, pBox, List.cons_append, List.nil_append]
  refine sem_move 12 rfl ?_
  simp (maxSteps := 10000000) only [go_sem, lkM, lkM2, lkB, lkA, lkC, pBox, List.cons_append, List.nil_append]
  refine sem_move 14 rfl ?_
  simp (maxSteps := 10000000) only [go_sem, lkM, lkM2, lkB, lkA, lkC, pBox, List.cons_append, List.nil_append]
  refine sem_move 15 rfl ?_
  simp (maxSteps := 10000000) only [go_sem, lkM, lkM2, lkB, lkA, lkC, pBox, List.cons_append, List.nil_append]
  refine sem_move 16 rfl ?_
  simp (maxSteps := 10000000) only [go_sem, lkM, lkM2, lkB, lkA, lkC, pBox, List.cons_append, List.nil_append]
  refine sem_move 17 rfl ?_
  simp (maxSteps := 10000000) only [go_sem, lkM, lkM2, lkB, lkA, lkC, pBox, List.cons_append, List.nil_append]
  refine sem_move 18 rfl ?_
  simp (maxSteps := 10000000) only [go_sem, lkM, lkM2, lkB, lkA, lkC, pBox, List.cons_append, List.nil_append]
  refine sem_move 19 rfl ?_
  simp (maxSteps := 10000000) only [go_sem, lkM, lkM2, lkB, lkA, lkC, pBox, List.cons_append, List.nil_append]
  refine sem_move 20 rfl ?_
  simp (maxSteps := 10000000) only [go_sem, lkM, lkM2, lkB, lkA, lkC, pBox, List.cons_append, List.nil_append]
  refine sem_call rfl rfl (((hr).embed [8, 9, 10, 11, 23, 13, 24] rfl (by repeat' first | exact trivial | rfl | (simp only [go_sem]; done) | constructor) rfl (by first | rfl | simp only [go_sem]) rfl (by simp)).mono ?_)
  rintro _ _ ⟨_, _, ⟨rfl, rfl⟩, rfl, rfl⟩
  refine run_ok 4000 _ _ _ _ ?_
  simp (maxSteps := 10000000) only [go_sem, lkM, lkM2, lkB, lkA, lkC, pBox, List.cons_append, List.nil_append]
  refine sem_rounds (fun i : Nat => i ≤ l.length)
    (fun i => [(0, .pbox 0 0), (1, .int .i64 1), (23, .vsl 1 (sv l) false), (24, .int .i64 l.length), (25, .int .i64 i)])
    (fun i => pN2 { p with b := a', c1 := p.c1 ++ l.take i }) (fun i => l.length - i) 0 [0, 1, 2, 3, 4, 5, 6, 7, 8, 9, 10, 11, 12, 13, 14, 15, 16, 17, 18, 19, 20, 21, 22, 31, 32, 25, 26, 27, 28, 29, 30] (Nat.zero_le _) ?_ ?_
  · simp [Emb, go_sem, sv_len]
  intro i hi
  have hpl := congrArg List.length hR
  simp only [List.length_append] at hpl
  have hcl : (p.c1 ++ l.take i).length = p.c1.length + i := by rw [List.length_append, List.length_take]; omega
  by_cases hlt : i < l.length
  · have hin : (i : Int) < (l.length : Int) := by omega
    have r0 := sv_rstr hlt
    have h0 := sv_hasS hlt
    have hk : p.c1.length + i < p.s0.length := by omega
    have r1 := sv_rstr hk
    have h1 := sv_hasS hk
    have he : p.s0[p.c1.length + i] = l[i] := by
      have : p.s0[p.c1.length + i]? = some l[i] := by
        rw [hR, List.append_assoc, List.getElem?_append_right (by omega), Nat.add_sub_cancel_left, List.getElem?_append_left hlt, List.getElem?_eq_getElem hlt]
      rw [List.getElem?_eq_getElem hk] at this
      exact Option.some.inj this
    rw [he] at r1
    have hc1 : ¬ ((p.c1.length + i : Nat) : Int) ≥ (p.s0.length : Int) := by omega
    have hc2 : ((p.c1.length + i : Nat) : Int) < (p.s0.length : Int) := by omega
    have htk : p.c1 ++ l.take (i + 1) = p.c1 ++ l.take i ++ [l[i]] := by rw [List.take_succ_eq_append_getElem hlt, List.append_assoc]
    have hsub := sub_sv (p.c1 ++ l.take i)
    rw [hcl] at hsub
    generalize l[i] = x at *
    generalize p.c1 ++ l.take i = C at *
    skip
    refine run_ok 4000 _ _ _ _ ?_
    simp (maxSteps := 10000000) only [go_sem, hin, r0, h0, r1, h1, hcl, sv_len, hc1, hc2, hsub, Int.natCast_nonneg, pBox, List.cons_append, List.nil_append, inc64 (show i < 1000000000000 by omega)]
    refine sem_drawG l12_0_ok (by kernel_rfl) ?_
    intro KK hKK
    simp (maxSteps := 10000000) only [go_sem, l12_0, hin, r0, h0, r1, h1, hcl, sv_len, hc1, hc2, hsub, Int.natCast_nonneg, pBox, List.cons_append, List.nil_append, inc64 (show i < 1000000000000 by omega)]
    refine ⟨by unfold small; omega, ?_⟩
    subst hKK
    simp (maxSteps := 10000000) only [go_sem, hin, r0, h0, r1, h1, hcl, sv_len, hc1, hc2, hsub, Int.natCast_nonneg, pBox, List.cons_append, List.nil_append, inc64 (show i < 1000000000000 by omega)]
    rw [svl_one]
    refine ⟨i + 1, by omega, hlt, [0, 1, 2, 3, 4, 5, 6, 7, 8, 9, 10, 11, 12, 13, 14, 15, 16, 17, 18, 19, 20, 21, 22, 23, 24, 25, 26, 27, 28, 29, 31], ?_⟩
    rw [htk]
    simp [Emb, go_sem, hcl]
  · have hge : ¬ (i : Int) < (l.length : Int) := by omega
    have hie : i = l.length := by omega
    subst hie
    rw [List.take_length]
    skip
    refine run_ok 4000 _ _ _ _ ?_
    simp (maxSteps := 10000000) only [go_sem, hge, List.cons_append, List.nil_append]
    refine run_ok 4000 _ _ _ _ ?_
    simp (maxSteps := 10000000) only [go_sem, hge, List.cons_append, List.nil_append]
    refine ⟨_, _, .sub [0, 1, 2, 3, 4, 5, 6, 7, 8, 9, 10, 11, 12, 13, 14, 15, 16, 17, 18, 19, 20, 21, 22, 23, 24, 25, 26, 27, 28, 29, 30] ?_ .done, rfl, rfl⟩
    simp only [EmbV, go_sem]

def addW : List (List UInt8) → List (List UInt8) → List (List UInt8)
  | w, [] => w
  | w, x :: o => addW (if w.length < 60 then w ++ [x] else w) o
theorem addW_snoc (x : List UInt8) : ∀ (o w : List (List UInt8)), addW w (o ++ [x]) = if (addW w o).length < 60 then addW w o ++ [x] else addW w o
  | [], w => rfl
  | y :: o, w => by rw [List.cons_append, addW, addW_snoc x o]; rfl
theorem addW_len : ∀ (o w : List (List UInt8)), (addW w o).length ≤ max 60 w.length
  | [], w => by simp [addW]; omega
  | y :: o, w => by
    rw [addW]
    have := addW_len o (if w.length < 60 then w ++ [y] else w)
    split at this
    · rw [if_pos ‹_›]; simp at this; omega
    · rw [if_neg ‹_›]; omega
def poll0 (p : PS) : PS := { p with a := (pollF p.a p.now).1, w1 := addW p.w1 (pollF p.a p.now).2 }
def poll1 (p : PS) : PS := { p with b := (pollF p.b p.now).1, w0 := addW p.w0 (pollF p.b p.now).2 }
def tick (p : PS) : PS := { p with now := p.now + 1 }
def pollP (p : PS) : PS := poll1 (poll0 (tick p))
theorem pollF_len (s : LS) (now : Int) (ok : LOk s) : (pollF s now).2.length ≤ 3000 := by
  have h1 := ok.ol
  have h2 := ok.ws
  have h3 := fillF_len s.cf now s.ws ⟨s.on, s.ol, s.tl.map (updE s.cm now)⟩
  have h4 : (pollI s now).length ≤ s.ol.length := List.length_filter_le _ _
  have h5 : (pollT s now).2.2.length ≤ s.ws.length := h3
  unfold pollF
  simp only
  split
  · simp
  · unfold pollO; rw [List.length_append, List.length_map, List.length_map]; omega
set_option maxHeartbeats 40000000 in
theorem ppoll_spec (p : PS) (oka : LOk p.a) (okb : LOk p.b) (hnow : 0 ≤ p.now ∧ p.now ≤ 1000000) :
    Tri Try.prog 11 [.pbox 0 0] (pN p) (fun v m => v = .tup [] ∧ m = pN2 (pollP p)) := by
  refine Tri.post ?_
  have h0 := lpoll_spec p.a (p.now + 1) oka (by omega)
  have h1 := lpoll_spec p.b (p.now + 1) okb (by omega)
  have g0 := pollF_len p.a (p.now + 1) oka
  have g1 := pollF_len p.b (p.now + 1) okb
  have hq : pollP p = { p with now := p.now + 1, a := (pollF p.a (p.now + 1)).1, w1 := addW p.w1 (pollF p.a (p.now + 1)).2, b := (pollF p.b (p.now + 1)).1, w0 := addW p.w0 (pollF p.b (p.now + 1)).2 } := rfl
  rw [hq]
  clear hq
  generalize pollF p.a (p.now + 1) = Q0 at *
  generalize pollF p.b (p.now + 1) = Q1 at *
  obtain ⟨a0, l0⟩ := Q0
  obtain ⟨a1, l1⟩ := Q1
  simp only at h0 h1 g0 g1 ⊢
  have wn : iwrap .i64 (p.now + 1) = p.now + 1 := iwrap_i64_in (by omega)
  skip
  refine (Tri.enter (rl := r11) (code := c11) (by kernel_rfl) Try.func11 rfl c11_ok (by kernel_rfl) (by kernel_rfl) ?_)
  refine run_ok 4000 _ _ _ _ ?_
  simp (maxSteps := 10000000) only [go_sem, c11, r11, wn, lkM, lkM2, lkB, pBox, List.cons_append, List.nil_append]
  refine sem_move 5 rfl ?_
  simp (maxSteps := 10000000) only [go_sem, wn, lkM, lkM2, lkB, pBox, List.cons_append, List.nil_append]
  refine sem_move 7 rfl ?_
  simp (maxSteps := 10000000) only [go_sem, wn, lkM, lkM2, lkB, pBox, List.cons_append, List.nil_append]
  refine sem_move 12 rfl ?_
  simp (maxSteps := 10000000) only [go_sem, wn, lkM, lkM2, lkB, pBox, List.cons_append, List.nil_append]
  refine sem_move 14 rfl ?_
  simp (maxSteps := 10000000) only [go_sem, wn, lkM, lkM2, lkB, pBox, List.cons_append, List.nil_append]
  refine sem_move 15 rfl ?_
  simp (maxSteps := 10000000) only [go_sem, wn, lkM, lkM2, lkB, pBox, List.cons_append, List.nil_append]
  refine sem_move 16 rfl ?_
  simp (maxSteps := 10000000) only [go_sem, wn, lkM, lkM2, lkB, pBox, List.cons_append, List.nil_append]
  refine sem_move 17 rfl ?_
  simp (maxSteps := 10000000) only [go_sem, wn, lkM, lkM2, lkB, pBox, List.cons_append, List.nil_append]
  refine sem_move 18 rfl ?_
  simp (maxSteps := 10000000) only [go_sem, wn, lkM, lkM2, lkB, pBox, List.cons_append, List.nil_append]
  refine sem_move 19 rfl ?_
  simp (maxSteps := 10000000) only [go_sem, wn, lkM, lkM2, lkB, pBox, List.cons_append, List.nil_append]
  refine sem_move 20 rfl ?_
  simp (maxSteps := 10000000) only [go_sem, wn, lkM, lkM2, lkB, pBox, List.cons_append, List.nil_append]
  generalize hp0 : ({ p with now := p.now + 1 } : PS) = p0
  generalize hp1 : ({ p with now := p.now + 1, a := a0, w1 := addW p.w1 l0 } : PS) = p1
  refine sem_rounds (fun i : Nat => i ≤ 2)
    (fun i => [(0, .pbox 0 0), (12, .int .i64 i)])
    (fun i => pN2 (if i = 0 then p0 else if i = 1 then p1 else { p1 with b := a1, w0 := addW p1.w0 l1 })) (fun i => 2 - i) 0 [0, 1, 2, 3, 4, 5, 6, 7, 8, 9, 10, 11, 12, 13, 14, 15, 16, 17, 18, 19, 20, 21, 22, 23, 24, 25, 26, 27, 28, 29, 30] (Nat.zero_le _) ?_ ?_
  · subst hp0; simp [Emb, go_sem]
  intro i hi
  by_cases hi0 : i = 0
  · subst hi0
    rw [if_pos rfl]
    have e0 : p0.now = p.now + 1 := by rw [← hp0]
    have e1 : p0.a = p.a := by rw [← hp0]
    rw [← e0, ← e1] at h0
    have hin0 : (0 : Int) < 2 := by omega
    skip
    refine run_ok 4000 _ _ _ _ ?_
    simp (maxSteps := 10000000) only [go_sem, hin0, lkM, lkM2, lkB, pBox, List.cons_append, List.nil_append]
    refine sem_drawG l11_0_ok (by kernel_rfl) ?_
    intro KK hKK
    simp (maxSteps := 10000000) only [go_sem, l11_0, hin0, lkM, lkM2, lkB, pBox, List.cons_append, List.nil_append]
    refine TriZ.of (((h0).embed [1, 2, 3, 4, 21, 6, 22] rfl (by repeat' first | exact trivial | rfl | (simp only [go_sem]; done) | constructor) rfl (by first | rfl | simp only [go_sem]) rfl (by simp)).mono ?_)
    rintro _ _ ⟨_, _, ⟨rfl, rfl⟩, rfl, rfl⟩
    simp (maxSteps := 10000000) only [go_sem, hin0, lkM, lkM2, lkB, pBox, List.cons_append, List.nil_append]
    subst hKK
    simp (maxSteps := 10000000) only [go_sem, hin0, lkM, lkM2, lkB, pBox, List.cons_append, List.nil_append]
    refine sem_rounds (fun k : Nat => k ≤ l0.length)
      (fun k => [(0, .pbox 0 0), (2, .int .i64 0), (12, .int .i64 0), (25, .vsl 1 (sv l0) false), (26, .int .i64 l0.length), (27, .int .i64 k)])
      (fun k => pN2 { p0 with a := a0, w1 := addW p0.w1 (l0.take k) }) (fun k => l0.length - k) 0 [0, 1, 2, 3, 4, 5, 6, 7, 8, 9, 10, 11, 12, 13, 14, 15, 16, 17, 18, 19, 20, 31, 32, 23, 24, 25, 26, 27, 28, 29, 30] (Nat.zero_le _) ?_ ?_
    · simp [Emb, go_sem, sv_len, addW]
    intro k hk
    by_cases hlt : k < l0.length
    · have hin : (k : Int) < (l0.length : Int) := by omega
      have r0 := sv_rstr hlt
      have h0 := sv_hasS hlt
      have htk : addW p0.w1 (l0.take (k + 1)) = if (addW p0.w1 (l0.take k)).length < 60 then addW p0.w1 (l0.take k) ++ [l0[k]] else addW p0.w1 (l0.take k) := by
        rw [List.take_succ_eq_append_getElem hlt, addW_snoc]
      have hsub := sub_sv (addW p0.w1 (l0.take k))
      generalize l0[k] = x at *
      generalize addW p0.w1 (l0.take k) = C at *
      by_cases c : C.length < 60
      · have hc : (C.length : Int) < 60 := by omega
        rw [if_pos c] at htk
        skip
        refine run_ok 4000 _ _ _ _ ?_
        simp (maxSteps := 10000000) only [go_sem, hin, r0, h0, hc, sv_len, hsub, Int.natCast_nonneg, pBox, List.cons_append, List.nil_append, inc64 (show k < 1000000000000 by omega)]
        refine sem_drawG l11_1_ok (by kernel_rfl) ?_
        intro KK hKK
        simp (maxSteps := 10000000) only [go_sem, l11_1, hin, r0, h0, hc, sv_len, hsub, Int.natCast_nonneg, pBox, List.cons_append, List.nil_append, inc64 (show k < 1000000000000 by omega)]
        refine ⟨by unfold small; omega, ?_⟩
        subst hKK
        simp (maxSteps := 10000000) only [go_sem, hin, r0, h0, hc, sv_len, hsub, Int.natCast_nonneg, pBox, List.cons_append, List.nil_append, inc64 (show k < 1000000000000 by omega)]
        rw [svl_one]
        refine ⟨k + 1, by omega, hlt, [0, 1, 2, 3, 4, 5, 6, 7, 8, 9, 10, 11, 12, 13, 14, 15, 16, 17, 18, 19, 20, 21, 22, 23, 24, 25, 31, 27, 28, 29, 30], ?_⟩
        rw [htk]
        simp [Emb, go_sem]
      · have hc : ¬ (C.length : Int) < 60 := by omega
        rw [if_neg c] at htk
        skip
        refine run_ok 4000 _ _ _ _ ?_
        simp (maxSteps := 10000000) only [go_sem, hin, r0, h0, hc, sv_len, hsub, Int.natCast_nonneg, pBox, List.cons_append, List.nil_append, inc64 (show k < 1000000000000 by omega)]
        refine ⟨k + 1, by omega, hlt, [0, 1, 2, 3, 4, 5, 6, 7, 8, 9, 10, 11, 12, 13, 14, 15, 16, 17, 18, 19, 20, 21, 22, 23, 24, 25, 26, 27, 28, 29, 30], ?_⟩
        rw [htk]
        simp [Emb, go_sem]
    have hge : ¬ (k : Int) < (l0.length : Int) := by omega
    have hke : k = l0.length := by omega
    subst hke
    rw [List.take_length]
    skip
    refine run_ok 4000 _ _ _ _ ?_
    simp (maxSteps := 10000000) only [go_sem, hge, w64_1, show iwrap .i64 ((1 : Int) + 1) = 2 from rfl, show iwrap .i64 (2 : Int) = 2 from rfl, List.cons_append, List.nil_append]
    refine run_ok 4000 _ _ _ _ ?_
    simp (maxSteps := 10000000) only [go_sem, hge, w64_1, show iwrap .i64 ((1 : Int) + 1) = 2 from rfl, show iwrap .i64 (2 : Int) = 2 from rfl, List.cons_append, List.nil_append]
    refine ⟨1, by omega, by omega, [0, 1, 2, 3, 4, 5, 6, 7, 8, 9, 10, 11, 12, 13, 14, 15, 16, 17, 18, 19, 20, 21, 22, 23, 24, 25, 26, 27, 28, 29, 30], ?_⟩
    have hp1' : ({ p0 with a := a0, w1 := addW p0.w1 l0 } : PS) = p1 := by rw [← hp0, ← hp1]
    simp [Emb, go_sem, ← hp1']
  by_cases hi1 : i = 1
  · subst hi1
    rw [if_neg (by omega), if_pos rfl]
    have e0 : p1.now = p.now + 1 := by rw [← hp1]
    have e1 : p1.b = p.b := by rw [← hp1]
    rw [← e0, ← e1] at h1
    have hin0 : (1 : Int) < 2 := by omega
    skip
    refine run_ok 4000 _ _ _ _ ?_
    simp (maxSteps := 10000000) only [go_sem, hin0, lkM, lkM2, lkB, pBox, List.cons_append, List.nil_append]
    refine sem_drawG l11_0_ok (by kernel_rfl) ?_
    intro KK hKK
    simp (maxSteps := 10000000) only [go_sem, l11_0, hin0, lkM, lkM2, lkB, pBox, List.cons_append, List.nil_append]
    refine TriZ.of (((h1).embed [8, 9, 10, 11, 23, 13, 24] rfl (by repeat' first | exact trivial | rfl | (simp only [go_sem]; done) | constructor) rfl (by first | rfl | simp only [go_sem]) rfl (by simp)).mono ?_)
    rintro _ _ ⟨_, _, ⟨rfl, rfl⟩, rfl, rfl⟩
    simp (maxSteps := 10000000) only [go_sem, hin0, lkM, lkM2, lkB, pBox, List.cons_append, List.nil_append]
    subst hKK
    simp (maxSteps := 10000000) only [go_sem, hin0, lkM, lkM2, lkB, pBox, List.cons_append, List.nil_append]
    refine sem_rounds (fun k : Nat => k ≤ l1.length)
      (fun k => [(0, .pbox 0 0), (2, .int .i64 1), (12, .int .i64 1), (25, .vsl 1 (sv l1) false), (26, .int .i64 l1.length), (27, .int .i64 k)])
      (fun k => pN2 { p1 with b := a1, w0 := addW p1.w0 (l1.take k) }) (fun k => l1.length - k) 0 [0, 1, 2, 3, 4, 5, 6, 7, 8, 9, 10, 11, 12, 13, 14, 15, 16, 17, 18, 19, 20, 21, 22, 31, 32, 25, 26, 27, 28, 29, 30] (Nat.zero_le _) ?_ ?_
    · simp [Emb, go_sem, sv_len, addW]
    intro k hk
    by_cases hlt : k < l1.length
    · have hin : (k : Int) < (l1.length : Int) := by omega
      have r0 := sv_rstr hlt
      have h0 := sv_hasS hlt
      have htk : addW p1.w0 (l1.take (k + 1)) = if (addW p1.w0 (l1.take k)).length < 60 then addW p1.w0 (l1.take k) ++ [l1[k]] else addW p1.w0 (l1.take k) := by
        rw [List.take_succ_eq_append_getElem hlt, addW_snoc]
      have hsub := sub_sv (addW p1.w0 (l1.take k))
      generalize l1[k] = x at *
      generalize addW p1.w0 (l1.take k) = C at *
      by_cases c : C.length < 60
      · have hc : (C.length : Int) < 60 := by omega
        rw [if_pos c] at htk
        skip
        refine run_ok 4000 _ _ _ _ ?_
        simp (maxSteps := 10000000) only [go_sem, hin, r0, h0, hc, sv_len, hsub, Int.natCast_nonneg, pBox, List.cons_append, List.nil_append, inc64 (show k < 1000000000000 by omega)]
        refine sem_drawG l11_1_ok (by kernel_rfl) ?_
        intro KK hKK
        simp (maxSteps := 10000000) only [go_sem, l11_1, hin, r0, h0, hc, sv_len, hsub, Int.natCast_nonneg, pBox, List.cons_append, List.nil_append, inc64 (show k < 1000000000000 by omega)]
        refine ⟨by unfold small; omega, ?_⟩
        subst hKK
        simp (maxSteps := 10000000) only [go_sem, hin, r0, h0, hc, sv_len, hsub, Int.natCast_nonneg, pBox, List.cons_append, List.nil_append, inc64 (show k < 1000000000000 by omega)]
        rw [svl_one]
        refine ⟨k + 1, by omega, hlt, [0, 1, 2, 3, 4, 5, 6, 7, 8, 9, 10, 11, 12, 13, 14, 15, 16, 17, 18, 19, 20, 21, 22, 23, 24, 31, 26, 27, 28, 29, 30], ?_⟩
        rw [htk]
        simp [Emb, go_sem]
      · have hc : ¬ (C.length : Int) < 60 := by omega
        rw [if_neg c] at htk
        skip
        refine run_ok 4000 _ _ _ _ ?_
        simp (maxSteps := 10000000) only [go_sem, hin, r0, h0, hc, sv_len, hsub, Int.natCast_nonneg, pBox, List.cons_append, List.nil_append, inc64 (show k < 1000000000000 by omega)]
        refine ⟨k + 1, by omega, hlt, [0, 1, 2, 3, 4, 5, 6, 7, 8, 9, 10, 11, 12, 13, 14, 15, 16, 17, 18, 19, 20, 21, 22, 23, 24, 25, 26, 27, 28, 29, 30], ?_⟩
        rw [htk]
        simp [Emb, go_sem]
    have hge : ¬ (k : Int) < (l1.length : Int) := by omega
    have hke : k = l1.length := by omega
    subst hke
    rw [List.take_length]
    skip
    refine run_ok 4000 _ _ _ _ ?_
    simp (maxSteps := 10000000) only [go_sem, hge, w64_1, show iwrap .i64 ((1 : Int) + 1) = 2 from rfl, show iwrap .i64 (2 : Int) = 2 from rfl, List.cons_append, List.nil_append]
    refine run_ok 4000 _ _ _ _ ?_
    simp (maxSteps := 10000000) only [go_sem, hge, w64_1, show iwrap .i64 ((1 : Int) + 1) = 2 from rfl, show iwrap .i64 (2 : Int) = 2 from rfl, List.cons_append, List.nil_append]
    refine ⟨2, by omega, by omega, [0, 1, 2, 3, 4, 5, 6, 7, 8, 9, 10, 11, 12, 13, 14, 15, 16, 17, 18, 19, 20, 21, 22, 23, 24, 25, 26, 27, 28, 29, 30], ?_⟩
    simp [Emb, go_sem]
  have hi2 : i = 2 := by omega
  subst hi2
  rw [if_neg (by omega), if_neg (by omega)]
  subst hp1
  have hge : ¬ (2 : Int) < 2 := by omega
  skip
  refine run_ok 4000 _ _ _ _ ?_
  simp (maxSteps := 10000000) only [go_sem, hge, List.cons_append, List.nil_append]
  refine run_ok 4000 _ _ _ _ ?_
  simp (maxSteps := 10000000) only [go_sem, hge, List.cons_append, List.nil_append]
  refine ⟨_, _, .sub [0, 1, 2, 3, 4, 5, 6, 7, 8, 9, 10, 11, 12, 13, 14, 15, 16, 17, 18, 19, 20, 21, 22, 23, 24, 25, 26, 27, 28, 29, 30] ?_ .done, rfl, rfl⟩
  simp only [EmbV, go_sem]
end Go.AEX

/- Two ends: an event. -/
namespace Go.AEX
open Go Go.AE Go.Proofs
set_option maxRecDepth 100000
set_option linter.unusedVariables false
set_option linter.unusedSimpArgs false

def send0 (p : PS) (t : List UInt8) : PS := if p.a.ws.length + (cutP t).length ≤ 700 then { p with a := { p.a with ws := p.a.ws ++ cutP t }, s0 := p.s0 ++ [t] } else p
def send1 (p : PS) (t : List UInt8) : PS := if p.b.ws.length + (cutP t).length ≤ 700 then { p with b := { p.b with ws := p.b.ws ++ cutP t }, s1 := p.s1 ++ [t] } else p
def ixW (n : Int) (len : Nat) : Nat := (ibits .and .i64 n 255).toNat % len
def atW (w : List (List UInt8)) (n : Int) : List UInt8 := w.getD (ixW n w.length) []
def delW (w : List (List UInt8)) (n : Int) : List (List UInt8) := w.take (ixW n w.length) ++ w.drop (ixW n w.length + 1)
def bendD (d : List UInt8) (n : Int) (y : UInt8) : List UInt8 := d.set (ixW n d.length) (d.getD (ixW n d.length) 0 ^^^ y)
theorem sub_sv2 (l : List (List UInt8)) (i n : Nat) : sub (sv l) i n = sv ((l.drop i).take n) := by simp [sub, sv, List.map_take, List.map_drop]
set_option maxHeartbeats 40000000 in
theorem pdo1_0 (p : PS) (who n at' : Int) (y : UInt8) (s : List UInt8) (hw : ibits .and .i64 who 1 = 0) (hws : p.a.ws.length ≤ 700) (hl : p.s0.length ≤ 100000) :
    Tri Try.prog 9 [.pbox 0 0, .agg [.int .i64 1, .int .i64 who, .int .i64 n, .int .i64 at', .int .u8 y.toNat, .str s]] (pN p) (fun v m => v = .bool true ∧ m = pN2 (send0 p (s.take 500))) := by
  refine Tri.post ?_
  have hcut := cut_spec s 500 (by omega)
  have ht : (s.take (500 : Int).toNat).length ≤ 500 := by rw [List.length_take]; omega
  have e5 : (500 : Int).toNat = 500 := rfl
  rw [e5] at hcut ht
  have hcl := cutP_len 2 (s.take 500) (by omega)
  have hsd := lsend_spec p.a (s.take 500) (by omega) (by omega) (by omega)
  have hwt := lwaits_spec p.a
  have hss := sub_sv p.s0
  unfold send0
  generalize s.take 500 = t at *
  by_cases c : p.a.ws.length + (cutP t).length ≤ 700
  · rw [if_pos c, if_pos c] at hsd
    rw [if_pos c]
    skip
    refine (Tri.enter (rl := r9) (code := c9) (by kernel_rfl) Try.func9 rfl c9_ok (by kernel_rfl) (by kernel_rfl) ?_)
    refine run_ok 4000 _ _ _ _ ?_
    simp (maxSteps := 10000000) only [go_sem, c9, r9, hw, hss, sv_len, lkM, lkM2, lkB, pBox, List.cons_append, List.nil_append]
    refine sem_move 5 rfl ?_
    simp (maxSteps := 10000000) only [go_sem, hw, hss, sv_len, lkM, lkM2, lkB, pBox, List.cons_append, List.nil_append]
    refine sem_move 7 rfl ?_
    simp (maxSteps := 10000000) only [go_sem, hw, hss, sv_len, lkM, lkM2, lkB, pBox, List.cons_append, List.nil_append]
    refine sem_move 12 rfl ?_
    simp (maxSteps := 10000000) only [go_sem, hw, hss, sv_len, lkM, lkM2, lkB, pBox, List.cons_append, List.nil_append]
    refine sem_move 14 rfl ?_
    simp (maxSteps := 10000000) only [go_sem, hw, hss, sv_len, lkM, lkM2, lkB, pBox, List.cons_append, List.nil_append]
    refine sem_move 15 rfl ?_
    simp (maxSteps := 10000000) only [go_sem, hw, hss, sv_len, lkM, lkM2, lkB, pBox, List.cons_append, List.nil_append]
    refine sem_move 16 rfl ?_
    simp (maxSteps := 10000000) only [go_sem, hw, hss, sv_len, lkM, lkM2, lkB, pBox, List.cons_append, List.nil_append]
    refine sem_move 17 rfl ?_
    simp (maxSteps := 10000000) only [go_sem, hw, hss, sv_len, lkM, lkM2, lkB, pBox, List.cons_append, List.nil_append]
    refine sem_move 18 rfl ?_
    simp (maxSteps := 10000000) only [go_sem, hw, hss, sv_len, lkM, lkM2, lkB, pBox, List.cons_append, List.nil_append]
    refine sem_move 19 rfl ?_
    simp (maxSteps := 10000000) only [go_sem, hw, hss, sv_len, lkM, lkM2, lkB, pBox, List.cons_append, List.nil_append]
    refine sem_move 20 rfl ?_
    simp (maxSteps := 10000000) only [go_sem, hw, hss, sv_len, lkM, lkM2, lkB, pBox, List.cons_append, List.nil_append]
    refine sem_call rfl rfl (((hcut).embed [] rfl trivial rfl rfl rfl (by simp)).mono ?_)
    rintro _ _ ⟨_, _, ⟨rfl, rfl⟩, rfl, rfl⟩
    refine run_ok 4000 _ _ _ _ ?_
    simp (maxSteps := 10000000) only [go_sem, hw, hss, sv_len, lkM, lkM2, lkB, pBox, List.cons_append, List.nil_append]
    refine sem_call rfl rfl (((hsd).embed [1, 2, 3, 4, 22, 6, 23] rfl (by repeat' first | exact trivial | rfl | (simp only [go_sem]; done) | constructor) rfl (by first | rfl | simp only [go_sem]) rfl (by simp)).mono ?_)
    rintro _ _ ⟨_, _, ⟨rfl, rfl⟩, rfl, rfl⟩
    refine run_ok 4000 _ _ _ _ ?_
    simp (maxSteps := 10000000) only [go_sem, hw, hss, sv_len, lkM, lkM2, lkB, pBox, List.cons_append, List.nil_append]
    refine sem_drawG l9_0_ok (by kernel_rfl) ?_
    intro KK hKK
    simp (maxSteps := 10000000) only [go_sem, l9_0, hw, hss, sv_len, lkM, lkM2, lkB, pBox, List.cons_append, List.nil_append]
    refine ⟨by unfold small; omega, ?_⟩
    subst hKK
    simp (maxSteps := 10000000) only [go_sem, hw, hss, sv_len, lkM, lkM2, lkB, pBox, List.cons_append, List.nil_append]
    rw [svl_one, sv_app]
    refine ⟨_, _, .sub [0, 1, 2, 3, 4, 5, 6, 7, 8, 9, 10, 11, 12, 13, 14, 15, 16, 17, 18, 19, 20, 22, 23, 24, 25, 26, 27, 32, 29, 30, 31] ?_ .done, rfl, rfl⟩
    simp [EmbV, go_sem]
  · rw [if_neg c, if_neg c] at hsd
    rw [if_neg c]
    have hw690 : (p.a.ws.length : Int) > 690 := by omega
    skip
    refine (Tri.enter (rl := r9) (code := c9) (by kernel_rfl) Try.func9 rfl c9_ok (by kernel_rfl) (by kernel_rfl) ?_)
    refine run_ok 4000 _ _ _ _ ?_
    simp (maxSteps := 10000000) only [go_sem, c9, r9, hw, hss, hw690, sv_len, lkM, lkM2, lkB, pBox, List.cons_append, List.nil_append]
    refine sem_move 5 rfl ?_
    simp (maxSteps := 10000000) only [go_sem, hw, hss, hw690, sv_len, lkM, lkM2, lkB, pBox, List.cons_append, List.nil_append]
    refine sem_move 7 rfl ?_
    simp (maxSteps := 10000000) only [go_sem, hw, hss, hw690, sv_len, lkM, lkM2, lkB, pBox, List.cons_append, List.nil_append]
    refine sem_move 12 rfl ?_
    simp (maxSteps := 10000000) only [go_sem, hw, hss, hw690, sv_len, lkM, lkM2, lkB, pBox, List.cons_append, List.nil_append]
    refine sem_move 14 rfl ?_
    simp (maxSteps := 10000000) only [go_sem, hw, hss, hw690, sv_len, lkM, lkM2, lkB, pBox, List.cons_append, List.nil_append]
    refine sem_move 15 rfl ?_
    simp (maxSteps := 10000000) only [go_sem, hw, hss, hw690, sv_len, lkM, lkM2, lkB, pBox, List.cons_append, List.nil_append]
    refine sem_move 16 rfl ?_
    simp (maxSteps := 10000000) only [go_sem, hw, hss, hw690, sv_len, lkM, lkM2, lkB, pBox, List.cons_append, List.nil_append]
    refine sem_move 17 rfl ?_
    simp (maxSteps := 10000000) only [go_sem, hw, hss, hw690, sv_len, lkM, lkM2, lkB, pBox, List.cons_append, List.nil_append]
    refine sem_move 18 rfl ?_
    simp (maxSteps := 10000000) only [go_sem, hw, hss, hw690, sv_len, lkM, lkM2, lkB, pBox, List.cons_append, List.nil_append]
    refine sem_move 19 rfl ?_
    simp (maxSteps := 10000000) only [go_sem, hw, hss, hw690, sv_len, lkM, lkM2, lkB, pBox, List.cons_append, List.nil_append]
    refine sem_move 20 rfl ?_
    simp (maxSteps := 10000000) only [go_sem, hw, hss, hw690, sv_len, lkM, lkM2, lkB, pBox, List.cons_append, List.nil_append]
    refine sem_call rfl rfl (((hcut).embed [] rfl trivial rfl rfl rfl (by simp)).mono ?_)
    rintro _ _ ⟨_, _, ⟨rfl, rfl⟩, rfl, rfl⟩
    refine run_ok 4000 _ _ _ _ ?_
    simp (maxSteps := 10000000) only [go_sem, hw, hss, hw690, sv_len, lkM, lkM2, lkB, pBox, List.cons_append, List.nil_append]
    refine sem_call rfl rfl (((hsd).embed [1, 2, 3, 4, 22, 6, 23] rfl (by repeat' first | exact trivial | rfl | (simp only [go_sem]; done) | constructor) rfl (by first | rfl | simp only [go_sem]) rfl (by simp)).mono ?_)
    rintro _ _ ⟨_, _, ⟨rfl, rfl⟩, rfl, rfl⟩
    refine run_ok 4000 _ _ _ _ ?_
    simp (maxSteps := 10000000) only [go_sem, hw, hss, hw690, sv_len, lkM, lkM2, lkB, pBox, List.cons_append, List.nil_append]
    refine sem_call rfl rfl (((hwt).embed [1, 2, 3, 4, 22, 6, 23] rfl (by repeat' first | exact trivial | rfl | (simp only [go_sem]; done) | constructor) rfl (by first | rfl | simp only [go_sem]) rfl (by simp)).mono ?_)
    rintro _ _ ⟨_, _, ⟨rfl, rfl⟩, rfl, rfl⟩
    refine run_ok 4000 _ _ _ _ ?_
    simp (maxSteps := 10000000) only [go_sem, hw, hss, hw690, sv_len, lkM, lkM2, lkB, pBox, List.cons_append, List.nil_append]
    refine ⟨_, _, .like (Like.bool true) (.sub [0, 1, 2, 3, 4, 5, 6, 7, 8, 9, 10, 11, 12, 13, 14, 15, 16, 17, 18, 19, 20, 22, 23, 24, 25, 26, 27, 28, 29, 30, 31] ?_ .done), rfl, rfl⟩
    simp only [EmbV, go_sem]
set_option maxHeartbeats 40000000 in
theorem pdo3_0 (p : PS) (who n at' : Int) (y : UInt8) (s : List UInt8) (hw : ibits .and .i64 who 1 = 0) (h0 : 0 < p.w0.length) (hlw : p.w0.length ≤ 1000) (ok : LOk p.a) (hd : (atW p.w0 n).length ≤ 1000000) (hb : RB 0 p.a 0)
    (R : List (List UInt8)) (hR : p.s1 = p.c0 ++ (recvF p.a (atW p.w0 n)).2.1 ++ R) (hl : p.s1.length ≤ 100000) :
    Tri Try.prog 9 [.pbox 0 0, .agg [.int .i64 3, .int .i64 who, .int .i64 n, .int .i64 at', .int .u8 y.toNat, .str s]] (pN p) (fun v m => v = .bool true ∧ m = pN2 (recv0 { p with w0 := delW p.w0 n } (atW p.w0 n))) := by
  refine Tri.post ?_
  obtain ⟨j, hj, hj2⟩ := and255 n
  have hp := prec0_spec { p with w0 := delW p.w0 n } (atW p.w0 n) ok hd hb R hR hl
  generalize hrr : recv0 { p with w0 := delW p.w0 n } (atW p.w0 n) = RR at *
  clear hrr
  have hix : ixW n p.w0.length = j % p.w0.length := by unfold ixW; rw [hj]; rfl
  unfold atW delW at hp
  rw [hix] at hp
  have hlt : j % p.w0.length < p.w0.length := Nat.mod_lt _ h0
  have wadd : iwrap .i64 ((j : Int) + (p.w0.length : Int)) = ((j + p.w0.length : Nat) : Int) := by rw [iwrap_i64_in (by omega)]; omega
  have hrem : ((j + p.w0.length : Nat) : Int).tmod (p.w0.length : Int) = ((j % p.w0.length : Nat) : Int) := by
    have h1 : (j + p.w0.length) % p.w0.length = j % p.w0.length := Nat.add_mod_right _ _
    rw [Int.tmod_eq_emod_of_nonneg (by omega), ← h1]
    exact (Int.natCast_emod _ _).symm
  have hg : p.w0.getD (j % p.w0.length) [] = p.w0[j % p.w0.length] := by rw [List.getD_eq_getElem?_getD, List.getElem?_eq_getElem hlt]; rfl
  rw [hg] at hp
  have hz : ((p.w0.length : Int) == 0) = false := by simp; exact fun h => by simp [h] at h0
  generalize hk : j % p.w0.length = k at *
  have r0 := sv_rstr hlt
  have hh := sv_hasS hlt
  have hin : (k : Int) < (p.w0.length : Int) := by omega
  have wk1 := inc64 (show k < 1000000000000 by omega)
  have hle1 : ((k + 1 : Nat) : Int) ≤ (p.w0.length : Int) := by omega
  have hkle : (k : Int) ≤ (p.w0.length : Int) := by omega
  have hkle2 : k ≤ p.w0.length := by omega
  have hsub1 : sub (sv p.w0) 0 k = sv (p.w0.take k) := by rw [sub_sv2]; rfl
  have hsub2 : sub (sv p.w0) (k + 1) (p.w0.length - (k + 1)) = sv (p.w0.drop (k + 1)) := by rw [sub_sv2, List.take_of_length_le (by rw [List.length_drop]; exact Nat.le_refl _)]
  have hsl : (sv (p.w0.take k)).length = k := by rw [sv_len, List.length_take]; omega
  have hsub3 : sub (sv (p.w0.take k)) 0 k = sv (p.w0.take k) := by have := sub_sv (p.w0.take k); rwa [show (p.w0.take k).length = k by rw [List.length_take]; omega] at this
  have hdl : k + (p.w0.length - (k + 1)) = (p.w0.take k ++ p.w0.drop (k + 1)).length := by rw [List.length_append, List.length_take, List.length_drop]; omega
  have hfit : k + 1 + (p.w0.length - (k + 1)) ≤ p.w0.length := by omega
  skip
  refine (Tri.enter (rl := r9) (code := c9) (by kernel_rfl) Try.func9 rfl c9_ok (by kernel_rfl) (by kernel_rfl) ?_)
  refine run_ok 4000 _ _ _ _ ?_
  simp (maxSteps := 10000000) only [go_sem, c9, r9, hw, hj, wadd, hrem, hz, wk1, hle1, hkle, hkle2, hsub1, hsub2, hsub3, hsl, hfit, Nat.sub_zero, Nat.le_refl, sv_app, r0, hh, hin, Int.natCast_nonneg, sv_len, lkM, lkM2, lkB, pBox, List.cons_append, List.nil_append]
  refine ⟨by omega, ?_⟩
  refine sem_drawG l9_1_ok (by kernel_rfl) ?_
  intro KK hKK
  simp (maxSteps := 10000000) only [go_sem, l9_1, hw, hj, wadd, hrem, hz, wk1, hle1, hkle, hkle2, hsub1, hsub2, hsub3, hsl, hfit, Nat.sub_zero, Nat.le_refl, sv_app, r0, hh, hin, Int.natCast_nonneg, sv_len, lkM, lkM2, lkB, pBox, List.cons_append, List.nil_append]
  refine ⟨by unfold small; omega, by unfold small; omega, ?_⟩
  simp only [hdl]
  generalize p.w0.take k ++ p.w0.drop (k + 1) = W' at *
  generalize p.w0[k] = D at *
  simp only [pN, pN2] at hp
  subst hKK
  simp (maxSteps := 10000000) only [go_sem, hw, hj, wadd, hrem, hz, wk1, hle1, hkle, hkle2, hsub1, hsub2, hsub3, hsl, hfit, Nat.sub_zero, Nat.le_refl, sv_app, r0, hh, hin, Int.natCast_nonneg, sv_len, lkM, lkM2, lkB, pBox, List.cons_append, List.nil_append]
  refine sem_call rfl rfl (((hp).embed [0, 1, 2, 3, 4, 5, 6, 7, 8, 9, 10, 11, 12, 13, 14, 23, 16, 17, 18, 19, 20] rfl (by repeat' first | exact trivial | rfl | (simp only [go_sem]; done) | constructor) rfl (by first | rfl | simp only [go_sem]) rfl (by simp)).mono ?_)
  rintro _ _ ⟨v2, m2, ⟨h1, h2⟩, h3, h4⟩
  subst h3
  subst h4
  subst h1
  subst h2
  refine run_ok 4000 _ _ _ _ ?_
  simp (maxSteps := 10000000) only [go_sem, hw, hj, wadd, hrem, hz, wk1, hle1, hkle, hkle2, hsub1, hsub2, hsub3, hsl, hfit, Nat.sub_zero, Nat.le_refl, sv_app, r0, hh, hin, Int.natCast_nonneg, sv_len, lkM, lkM2, lkB, pBox, List.cons_append, List.nil_append]
  refine ⟨_, _, .sub [0, 1, 2, 3, 4, 5, 6, 7, 8, 9, 10, 11, 12, 13, 14, 15, 16, 17, 18, 19, 20, 24, 25, 26, 27, 28, 29, 30, 31, 32, 33] ?_ .done, rfl, rfl⟩
  simp only [EmbV, go_sem]
set_option maxHeartbeats 40000000 in
theorem pdo5_0 (p : PS) (who n at' : Int) (y : UInt8) (s : List UInt8) (hw : ibits .and .i64 who 1 = 0) (h0 : 0 < p.w0.length) (hlw : p.w0.length ≤ 1000) (ok : LOk p.a) (hd : (atW p.w0 n).length ≤ 1000000) (hb : RB 0 p.a 0)
    (R : List (List UInt8)) (hR : p.s1 = p.c0 ++ (recvF p.a (atW p.w0 n)).2.1 ++ R) (hl : p.s1.length ≤ 100000) :
    Tri Try.prog 9 [.pbox 0 0, .agg [.int .i64 5, .int .i64 who, .int .i64 n, .int .i64 at', .int .u8 y.toNat, .str s]] (pN p) (fun v m => v = .bool true ∧ m = pN2 (recv0 p (atW p.w0 n))) := by
  refine Tri.post ?_
  obtain ⟨j, hj, hj2⟩ := and255 n
  have hp := prec0_spec p (atW p.w0 n) ok hd hb R hR hl
  generalize hrr : recv0 p (atW p.w0 n) = RR at *
  clear hrr
  have hix : ixW n p.w0.length = j % p.w0.length := by unfold ixW; rw [hj]; rfl
  unfold atW at hp
  rw [hix] at hp
  have hlt : j % p.w0.length < p.w0.length := Nat.mod_lt _ h0
  have wadd : iwrap .i64 ((j : Int) + (p.w0.length : Int)) = ((j + p.w0.length : Nat) : Int) := by rw [iwrap_i64_in (by omega)]; omega
  have hrem : ((j + p.w0.length : Nat) : Int).tmod (p.w0.length : Int) = ((j % p.w0.length : Nat) : Int) := by
    have h1 : (j + p.w0.length) % p.w0.length = j % p.w0.length := Nat.add_mod_right _ _
    rw [Int.tmod_eq_emod_of_nonneg (by omega), ← h1]
    exact (Int.natCast_emod _ _).symm
  have hg : p.w0.getD (j % p.w0.length) [] = p.w0[j % p.w0.length] := by rw [List.getD_eq_getElem?_getD, List.getElem?_eq_getElem hlt]; rfl
  rw [hg] at hp
  have hz : ((p.w0.length : Int) == 0) = false := by simp; exact fun h => by simp [h] at h0
  generalize hk : j % p.w0.length = k at *
  have r0 := sv_rstr hlt
  have hh := sv_hasS hlt
  have hin : (k : Int) < (p.w0.length : Int) := by omega
  have wk1 := inc64 (show k < 1000000000000 by omega)
  have hle1 : ((k + 1 : Nat) : Int) ≤ (p.w0.length : Int) := by omega
  have hkle : (k : Int) ≤ (p.w0.length : Int) := by omega
  have hkle2 : k ≤ p.w0.length := by omega
  have hsub1 : sub (sv p.w0) 0 k = sv (p.w0.take k) := by rw [sub_sv2]; rfl
  have hsub2 : sub (sv p.w0) (k + 1) (p.w0.length - (k + 1)) = sv (p.w0.drop (k + 1)) := by rw [sub_sv2, List.take_of_length_le (by rw [List.length_drop]; exact Nat.le_refl _)]
  have hsl : (sv (p.w0.take k)).length = k := by rw [sv_len, List.length_take]; omega
  have hsub3 : sub (sv (p.w0.take k)) 0 k = sv (p.w0.take k) := by have := sub_sv (p.w0.take k); rwa [show (p.w0.take k).length = k by rw [List.length_take]; omega] at this
  have hdl : k + (p.w0.length - (k + 1)) = (p.w0.take k ++ p.w0.drop (k + 1)).length := by rw [List.length_append, List.length_take, List.length_drop]; omega
  have hfit : k + 1 + (p.w0.length - (k + 1)) ≤ p.w0.length := by omega
  skip
  refine (Tri.enter (rl := r9) (code := c9) (by kernel_rfl) Try.func9 rfl c9_ok (by kernel_rfl) (by kernel_rfl) ?_)
  refine run_ok 4000 _ _ _ _ ?_
  simp (maxSteps := 10000000) only [go_sem, c9, r9, hw, hj, wadd, hrem, hz, wk1, hle1, hkle, hkle2, hsub1, hsub2, hsub3, hsl, hfit, Nat.sub_zero, Nat.le_refl, sv_app, r0, hh, hin, Int.natCast_nonneg, sv_len, lkM, lkM2, lkB, pBox, List.cons_append, List.nil_append]
  refine ⟨by omega, ?_⟩
  generalize p.w0[k] = D at *
  simp only [pN, pN2] at hp
  refine sem_call rfl rfl (((hp).embed [0, 1, 2, 3, 4, 5, 6, 7, 8, 9, 10, 11, 12, 13, 14, 15, 16, 17, 18, 19, 20] rfl (by repeat' first | exact trivial | rfl | (simp only [go_sem]; done) | constructor) rfl (by first | rfl | simp only [go_sem]) rfl (by simp)).mono ?_)
  rintro _ _ ⟨v2, m2, ⟨h1, h2⟩, h3, h4⟩
  subst h3
  subst h4
  subst h1
  subst h2
  refine run_ok 4000 _ _ _ _ ?_
  simp (maxSteps := 10000000) only [go_sem, hw, hj, wadd, hrem, hz, wk1, hle1, hkle, hkle2, hsub1, hsub2, hsub3, hsl, hfit, Nat.sub_zero, Nat.le_refl, sv_app, r0, hh, hin, Int.natCast_nonneg, sv_len, lkM, lkM2, lkB, pBox, List.cons_append, List.nil_append]
  refine ⟨_, _, .sub [0, 1, 2, 3, 4, 5, 6, 7, 8, 9, 10, 11, 12, 13, 14, 15, 16, 17, 18, 19, 20, 22, 23, 24, 25, 26, 27, 28, 29, 30, 31] ?_ .done, rfl, rfl⟩
  simp only [EmbV, go_sem]
set_option maxHeartbeats 40000000 in
theorem pdo4_0 (p : PS) (who n at' : Int) (y : UInt8) (s : List UInt8) (hw : ibits .and .i64 who 1 = 0) (h0 : 0 < p.w0.length) (hlw : p.w0.length ≤ 1000) :
    Tri Try.prog 9 [.pbox 0 0, .agg [.int .i64 4, .int .i64 who, .int .i64 n, .int .i64 at', .int .u8 y.toNat, .str s]] (pN p) (fun v m => v = .bool true ∧ m = pN2 ({ p with w0 := delW p.w0 n })) := by
  refine Tri.post ?_
  obtain ⟨j, hj, hj2⟩ := and255 n
  have hix : ixW n p.w0.length = j % p.w0.length := by unfold ixW; rw [hj]; rfl
  unfold delW
  rw [hix]
  have hlt : j % p.w0.length < p.w0.length := Nat.mod_lt _ h0
  have wadd : iwrap .i64 ((j : Int) + (p.w0.length : Int)) = ((j + p.w0.length : Nat) : Int) := by rw [iwrap_i64_in (by omega)]; omega
  have hrem : ((j + p.w0.length : Nat) : Int).tmod (p.w0.length : Int) = ((j % p.w0.length : Nat) : Int) := by
    have h1 : (j + p.w0.length) % p.w0.length = j % p.w0.length := Nat.add_mod_right _ _
    rw [Int.tmod_eq_emod_of_nonneg (by omega), ← h1]
    exact (Int.natCast_emod _ _).symm
  have hg : p.w0.getD (j % p.w0.length) [] = p.w0[j % p.w0.length] := by rw [List.getD_eq_getElem?_getD, List.getElem?_eq_getElem hlt]; rfl
  have hz : ((p.w0.length : Int) == 0) = false := by simp; exact fun h => by simp [h] at h0
  generalize hk : j % p.w0.length = k at *
  have r0 := sv_rstr hlt
  have hh := sv_hasS hlt
  have hin : (k : Int) < (p.w0.length : Int) := by omega
  have wk1 := inc64 (show k < 1000000000000 by omega)
  have hle1 : ((k + 1 : Nat) : Int) ≤ (p.w0.length : Int) := by omega
  have hkle : (k : Int) ≤ (p.w0.length : Int) := by omega
  have hkle2 : k ≤ p.w0.length := by omega
  have hsub1 : sub (sv p.w0) 0 k = sv (p.w0.take k) := by rw [sub_sv2]; rfl
  have hsub2 : sub (sv p.w0) (k + 1) (p.w0.length - (k + 1)) = sv (p.w0.drop (k + 1)) := by rw [sub_sv2, List.take_of_length_le (by rw [List.length_drop]; exact Nat.le_refl _)]
  have hsl : (sv (p.w0.take k)).length = k := by rw [sv_len, List.length_take]; omega
  have hsub3 : sub (sv (p.w0.take k)) 0 k = sv (p.w0.take k) := by have := sub_sv (p.w0.take k); rwa [show (p.w0.take k).length = k by rw [List.length_take]; omega] at this
  have hdl : k + (p.w0.length - (k + 1)) = (p.w0.take k ++ p.w0.drop (k + 1)).length := by rw [List.length_append, List.length_take, List.length_drop]; omega
  have hfit : k + 1 + (p.w0.length - (k + 1)) ≤ p.w0.length := by omega
  skip
  refine (Tri.enter (rl := r9) (code := c9) (by kernel_rfl) Try.func9 rfl c9_ok (by kernel_rfl) (by kernel_rfl) ?_)
  refine run_ok 4000 _ _ _ _ ?_
  simp (maxSteps := 10000000) only [go_sem, c9, r9, hw, hj, wadd, hrem, hz, wk1, hle1, hkle, hkle2, hsub1, hsub2, hsub3, hsl, hfit, Nat.sub_zero, Nat.le_refl, sv_app, r0, hh, hin, Int.natCast_nonneg, sv_len, lkM, lkM2, lkB, pBox, List.cons_append, List.nil_append]
  refine ⟨by omega, ?_⟩
  refine sem_move 5 rfl ?_
  simp (maxSteps := 10000000) only [go_sem, hw, hj, wadd, hrem, hz, wk1, hle1, hkle, hkle2, hsub1, hsub2, hsub3, hsl, hfit, Nat.sub_zero, Nat.le_refl, sv_app, r0, hh, hin, Int.natCast_nonneg, sv_len, lkM, lkM2, lkB, pBox, List.cons_append, List.nil_append]
  refine sem_move 7 rfl ?_
  simp (maxSteps := 10000000) only [go_sem, hw, hj, wadd, hrem, hz, wk1, hle1, hkle, hkle2, hsub1, hsub2, hsub3, hsl, hfit, Nat.sub_zero, Nat.le_refl, sv_app, r0, hh, hin, Int.natCast_nonneg, sv_len, lkM, lkM2, lkB, pBox, List.cons_append, List.nil_append]
  refine sem_move 12 rfl ?_
  simp (maxSteps := 10000000) only [go_sem, hw, hj, wadd, hrem, hz, wk1, hle1, hkle, hkle2, hsub1, hsub2, hsub3, hsl, hfit, Nat.sub_zero, Nat.le_refl, sv_app, r0, hh, hin, Int.natCast_nonneg, sv_len, lkM, lkM2, lkB, pBox, List.cons_append, List.nil_append]
  refine sem_move 14 rfl ?_
  simp (maxSteps := 10000000) only [go_sem, hw, hj, wadd, hrem, hz, wk1, hle1, hkle, hkle2, hsub1, hsub2, hsub3, hsl, hfit, Nat.sub_zero, Nat.le_refl, sv_app, r0, hh, hin, Int.natCast_nonneg, sv_len, lkM, lkM2, lkB, pBox, List.cons_append, List.nil_append]
  refine sem_move 15 rfl ?_
  simp (maxSteps := 10000000) only [go_sem, hw, hj, wadd, hrem, hz, wk1, hle1, hkle, hkle2, hsub1, hsub2, hsub3, hsl, hfit, Nat.sub_zero, Nat.le_refl, sv_app, r0, hh, hin, Int.natCast_nonneg, sv_len, lkM, lkM2, lkB, pBox, List.cons_append, List.nil_append]
  refine sem_move 16 rfl ?_
  simp (maxSteps := 10000000) only [go_sem, hw, hj, wadd, hrem, hz, wk1, hle1, hkle, hkle2, hsub1, hsub2, hsub3, hsl, hfit, Nat.sub_zero, Nat.le_refl, sv_app, r0, hh, hin, Int.natCast_nonneg, sv_len, lkM, lkM2, lkB, pBox, List.cons_append, List.nil_append]
  refine sem_move 17 rfl ?_
  simp (maxSteps := 10000000) only [go_sem, hw, hj, wadd, hrem, hz, wk1, hle1, hkle, hkle2, hsub1, hsub2, hsub3, hsl, hfit, Nat.sub_zero, Nat.le_refl, sv_app, r0, hh, hin, Int.natCast_nonneg, sv_len, lkM, lkM2, lkB, pBox, List.cons_append, List.nil_append]
  refine sem_move 18 rfl ?_
  simp (maxSteps := 10000000) only [go_sem, hw, hj, wadd, hrem, hz, wk1, hle1, hkle, hkle2, hsub1, hsub2, hsub3, hsl, hfit, Nat.sub_zero, Nat.le_refl, sv_app, r0, hh, hin, Int.natCast_nonneg, sv_len, lkM, lkM2, lkB, pBox, List.cons_append, List.nil_append]
  refine sem_move 19 rfl ?_
  simp (maxSteps := 10000000) only [go_sem, hw, hj, wadd, hrem, hz, wk1, hle1, hkle, hkle2, hsub1, hsub2, hsub3, hsl, hfit, Nat.sub_zero, Nat.le_refl, sv_app, r0, hh, hin, Int.natCast_nonneg, sv_len, lkM, lkM2, lkB, pBox, List.cons_append, List.nil_append]
  refine sem_move 20 rfl ?_
  simp (maxSteps := 10000000) only [go_sem, hw, hj, wadd, hrem, hz, wk1, hle1, hkle, hkle2, hsub1, hsub2, hsub3, hsl, hfit, Nat.sub_zero, Nat.le_refl, sv_app, r0, hh, hin, Int.natCast_nonneg, sv_len, lkM, lkM2, lkB, pBox, List.cons_append, List.nil_append]
  refine sem_drawG l9_1_ok (by kernel_rfl) ?_
  intro KK hKK
  simp (maxSteps := 10000000) only [go_sem, l9_1, hw, hj, wadd, hrem, hz, wk1, hle1, hkle, hkle2, hsub1, hsub2, hsub3, hsl, hfit, Nat.sub_zero, Nat.le_refl, sv_app, r0, hh, hin, Int.natCast_nonneg, sv_len, lkM, lkM2, lkB, pBox, List.cons_append, List.nil_append]
  refine ⟨by unfold small; omega, by unfold small; omega, ?_⟩
  simp only [hdl]
  generalize p.w0.take k ++ p.w0.drop (k + 1) = W' at *
  subst hKK
  simp (maxSteps := 10000000) only [go_sem, hw, hj, wadd, hrem, hz, wk1, hle1, hkle, hkle2, hsub1, hsub2, hsub3, hsl, hfit, Nat.sub_zero, Nat.le_refl, sv_app, r0, hh, hin, Int.natCast_nonneg, sv_len, lkM, lkM2, lkB, pBox, List.cons_append, List.nil_append]
  refine ⟨_, _, .sub [0, 1, 2, 3, 4, 5, 6, 7, 8, 9, 10, 11, 12, 13, 14, 15, 16, 17, 18, 19, 20, 22, 23, 24, 25, 33, 27, 28, 29, 30, 31] ?_ .done, rfl, rfl⟩
  simp only [EmbV, go_sem]
set_option maxHeartbeats 40000000 in
theorem pdo6_0 (p : PS) (who n at' : Int) (y : UInt8) (s : List UInt8) (hw : ibits .and .i64 who 1 = 0) (h0 : 0 < p.w0.length) (hlw : p.w0.length ≤ 1000) (hne : 0 < (atW p.w0 n).length) (ok : LOk p.a) (hd : (bendD (atW p.w0 n) at' y).length ≤ 1000000) (hb : RB 0 p.a 0)
    (R : List (List UInt8)) (hR : p.s1 = p.c0 ++ (recvF p.a (bendD (atW p.w0 n) at' y)).2.1 ++ R) (hl : p.s1.length ≤ 100000) :
    Tri Try.prog 9 [.pbox 0 0, .agg [.int .i64 6, .int .i64 who, .int .i64 n, .int .i64 at', .int .u8 y.toNat, .str s]] (pN p) (fun v m => v = .bool true ∧ m = pN2 (recv0 { p with w0 := delW p.w0 n } (bendD (atW p.w0 n) at' y))) := by
  refine Tri.post ?_
  obtain ⟨j, hj, hj2⟩ := and255 n
  obtain ⟨j2, hj3, hj4⟩ := and255 at'
  have hp := prec0_spec { p with w0 := delW p.w0 n } (bendD (atW p.w0 n) at' y) ok hd hb R hR hl
  generalize hrr : recv0 { p with w0 := delW p.w0 n } (bendD (atW p.w0 n) at' y) = RR at *
  clear hrr hR
  have hix : ixW n p.w0.length = j % p.w0.length := by unfold ixW; rw [hj]; rfl
  unfold atW delW at hp
  unfold atW at hne hd
  rw [hix] at hp hne hd
  have hlt : j % p.w0.length < p.w0.length := Nat.mod_lt _ h0
  have wadd : iwrap .i64 ((j : Int) + (p.w0.length : Int)) = ((j + p.w0.length : Nat) : Int) := by rw [iwrap_i64_in (by omega)]; omega
  have hrem : ((j + p.w0.length : Nat) : Int).tmod (p.w0.length : Int) = ((j % p.w0.length : Nat) : Int) := by
    have h1 : (j + p.w0.length) % p.w0.length = j % p.w0.length := Nat.add_mod_right _ _
    rw [Int.tmod_eq_emod_of_nonneg (by omega), ← h1]
    exact (Int.natCast_emod _ _).symm
  have hg : p.w0.getD (j % p.w0.length) [] = p.w0[j % p.w0.length] := by rw [List.getD_eq_getElem?_getD, List.getElem?_eq_getElem hlt]; rfl
  rw [hg] at hp hne hd
  have hz : ((p.w0.length : Int) == 0) = false := by simp; exact fun h => by simp [h] at h0
  generalize hk : j % p.w0.length = k at *
  have r0 := sv_rstr hlt
  have hh := sv_hasS hlt
  have hin : (k : Int) < (p.w0.length : Int) := by omega
  have wk1 := inc64 (show k < 1000000000000 by omega)
  have hle1 : ((k + 1 : Nat) : Int) ≤ (p.w0.length : Int) := by omega
  have hkle : (k : Int) ≤ (p.w0.length : Int) := by omega
  have hkle2 : k ≤ p.w0.length := by omega
  have hsub1 : sub (sv p.w0) 0 k = sv (p.w0.take k) := by rw [sub_sv2]; rfl
  have hsub2 : sub (sv p.w0) (k + 1) (p.w0.length - (k + 1)) = sv (p.w0.drop (k + 1)) := by rw [sub_sv2, List.take_of_length_le (by rw [List.length_drop]; exact Nat.le_refl _)]
  have hsl : (sv (p.w0.take k)).length = k := by rw [sv_len, List.length_take]; omega
  have hsub3 : sub (sv (p.w0.take k)) 0 k = sv (p.w0.take k) := by have := sub_sv (p.w0.take k); rwa [show (p.w0.take k).length = k by rw [List.length_take]; omega] at this
  have hdl : k + (p.w0.length - (k + 1)) = (p.w0.take k ++ p.w0.drop (k + 1)).length := by rw [List.length_append, List.length_take, List.length_drop]; omega
  have hfit : k + 1 + (p.w0.length - (k + 1)) ≤ p.w0.length := by omega
  have hin0 : 0 ≤ (k : Int) := by omega
  generalize hD : p.w0[k] = D at *
  have hlt2 : j2 % D.length < D.length := Nat.mod_lt _ hne
  have hrem2 : (j2 : Int).tmod (D.length : Int) = ((j2 % D.length : Nat) : Int) := by
    rw [Int.tmod_eq_emod_of_nonneg (by omega)]
    exact (Int.natCast_emod _ _).symm
  have hDz : ¬ (D.length : Int) = 0 := by omega
  have hix2 : ixW at' D.length = j2 % D.length := by unfold ixW; rw [hj3]; rfl
  have hD1 : D.length ≤ 1000000 := by simpa [bendD] using hd
  unfold bendD at hp
  rw [hix2] at hp
  have hg2 : D.getD (j2 % D.length) 0 = D[j2 % D.length] := by rw [List.getD_eq_getElem?_getD, List.getElem?_eq_getElem hlt2]; rfl
  rw [hg2] at hp
  generalize hk2 : j2 % D.length = k2 at *
  have hin2 : (k2 : Int) < (D.length : Int) := by omega
  have b1 := bytes_rint hlt2
  have b2 := bytes_hasI hlt2
  have b3 := bytes_inR hlt2
  have e1 := bytes_rput hlt2 (D[k2] ^^^ y)
  have e2 : sub (AE.bytes (D.set k2 (D[k2] ^^^ y))) 0 D.length = AE.bytes (D.set k2 (D[k2] ^^^ y)) := by
    have := sub_bytes_all (D.set k2 (D[k2] ^^^ y)); rwa [List.length_set] at this
  have e3 := bytes_all (D.set k2 (D[k2] ^^^ y))
  have e4 := bytes_to (D.set k2 (D[k2] ^^^ y))
  have hDl : (D.set k2 (D[k2] ^^^ y)).length = D.length := List.length_set ..
  generalize D.set k2 (D[k2] ^^^ y) = D2 at *
  skip
  refine (Tri.enter (rl := r9) (code := c9) (by kernel_rfl) Try.func9 rfl c9_ok (by kernel_rfl) (by kernel_rfl) ?_)
  refine run_ok 4000 _ _ _ _ ?_
  simp (maxSteps := 10000000) only [go_sem, c9, r9, hj3, hrem2, hDz, hin2, b1, b2, b3, xor_u8, e1, e2, e3, e4, bytes_len, hw, hj, wadd, hrem, hz, wk1, hle1, hkle, hkle2, hsub1, hsub2, hsub3, hsl, hfit, Nat.sub_zero, Nat.le_refl, sv_app, r0, hh, hin, Int.natCast_nonneg, sv_len, lkM, lkM2, lkB, pBox, List.cons_append, List.nil_append]
  refine ⟨by omega, ?_⟩
  refine sem_drawG l9_1_ok (by kernel_rfl) ?_
  intro KK hKK
  simp (maxSteps := 10000000) only [go_sem, l9_1, hj3, hrem2, hDz, hin2, b1, b2, b3, xor_u8, e1, e2, e3, e4, bytes_len, hw, hj, wadd, hrem, hz, wk1, hle1, hkle, hkle2, hsub1, hsub2, hsub3, hsl, hfit, Nat.sub_zero, Nat.le_refl, sv_app, r0, hh, hin, Int.natCast_nonneg, sv_len, lkM, lkM2, lkB, pBox, List.cons_append, List.nil_append]
  refine ⟨by unfold small; omega, by unfold small; omega, ?_⟩
  simp only [hdl]
  generalize p.w0.take k ++ p.w0.drop (k + 1) = W' at *
  simp only [pN, pN2] at hp
  subst hKK
  simp (maxSteps := 10000000) only [go_sem, hj3, hrem2, hDz, hin2, b1, b2, b3, xor_u8, e1, e2, e3, e4, bytes_len, hw, hj, wadd, hrem, hz, wk1, hle1, hkle, hkle2, hsub1, hsub2, hsub3, hsl, hfit, Nat.sub_zero, Nat.le_refl, sv_app, r0, hh, hin, Int.natCast_nonneg, sv_len, lkM, lkM2, lkB, pBox, List.cons_append, List.nil_append]
  refine ⟨by unfold small; omega, ?_⟩
  refine sem_drawG l9_2_ok (by kernel_rfl) ?_
  intro KK hKK
  simp (maxSteps := 10000000) only [go_sem, l9_2, hj3, hrem2, hDz, hin2, b1, b2, b3, xor_u8, e1, e2, e3, e4, bytes_len, hw, hj, wadd, hrem, hz, wk1, hle1, hkle, hkle2, hsub1, hsub2, hsub3, hsl, hfit, Nat.sub_zero, Nat.le_refl, sv_app, r0, hh, hin, Int.natCast_nonneg, sv_len, lkM, lkM2, lkB, pBox, List.cons_append, List.nil_append]
  subst hKK
  simp (maxSteps := 10000000) only [go_sem, hj3, hrem2, hDz, hin2, b1, b2, b3, xor_u8, e1, e2, e3, e4, bytes_len, hw, hj, wadd, hrem, hz, wk1, hle1, hkle, hkle2, hsub1, hsub2, hsub3, hsl, hfit, Nat.sub_zero, Nat.le_refl, sv_app, r0, hh, hin, Int.natCast_nonneg, sv_len, lkM, lkM2, lkB, pBox, List.cons_append, List.nil_append]
  refine ⟨by omega, ?_⟩
  refine sem_call rfl rfl (((hp).embed [0, 1, 2, 3, 4, 5, 6, 7, 8, 9, 10, 11, 12, 13, 14, 23, 16, 17, 18, 19, 20] rfl (by repeat' first | exact trivial | rfl | (simp only [go_sem]; done) | constructor) rfl (by first | rfl | simp only [go_sem]) rfl (by simp)).mono ?_)
  rintro _ _ ⟨v2, m2, ⟨h1, h2⟩, h3, h4⟩
  subst h3
  subst h4
  subst h1
  subst h2
  refine run_ok 4000 _ _ _ _ ?_
  simp (maxSteps := 10000000) only [go_sem, hj3, hrem2, hDz, hin2, b1, b2, b3, xor_u8, e1, e2, e3, e4, bytes_len, hw, hj, wadd, hrem, hz, wk1, hle1, hkle, hkle2, hsub1, hsub2, hsub3, hsl, hfit, Nat.sub_zero, Nat.le_refl, sv_app, r0, hh, hin, Int.natCast_nonneg, sv_len, lkM, lkM2, lkB, pBox, List.cons_append, List.nil_append]
  refine ⟨_, _, .sub [0, 1, 2, 3, 4, 5, 6, 7, 8, 9, 10, 11, 12, 13, 14, 15, 16, 17, 18, 19, 20, 25, 26, 27, 28, 29, 30, 31, 32, 33, 34] ?_ .done, rfl, rfl⟩
  simp only [EmbV, go_sem]
set_option maxHeartbeats 40000000 in
theorem pdo7_0 (p : PS) (who n at' : Int) (y : UInt8) (s : List UInt8) (hw : ibits .and .i64 who 1 = 0) (h0 : (refP (s.take 60)).2 ≠ 0) (ok : LOk p.a) (hd : (s.take 60).length ≤ 1000000) (hb : RB 0 p.a 0)
    (R : List (List UInt8)) (hR : p.s1 = p.c0 ++ (recvF p.a (s.take 60)).2.1 ++ R) (hl : p.s1.length ≤ 100000) :
    Tri Try.prog 9 [.pbox 0 0, .agg [.int .i64 7, .int .i64 who, .int .i64 n, .int .i64 at', .int .u8 y.toNat, .str s]] (pN p) (fun v m => v = .bool true ∧ m = pN2 (recv0 p (s.take 60))) := by
  refine Tri.post ?_
  have hcut := cut_spec s 60 (by omega)
  have ht : (s.take (60 : Int).toNat).length ≤ 60 := by rw [List.length_take]; omega
  have e5 : (60 : Int).toNat = 60 := rfl
  rw [e5] at hcut ht
  have hrp := rparse_spec (s.take 60) (by omega)
  have hp := prec0_spec p (s.take 60) ok hd hb R hR hl
  generalize recv0 p (s.take 60) = RR at *
  generalize s.take 60 = T at *
  generalize refP T = F at *
  have h00 : (F.2 == 0) = false := by simpa using h0
  simp only [pN, pN2] at hp
  skip
  refine (Tri.enter (rl := r9) (code := c9) (by kernel_rfl) Try.func9 rfl c9_ok (by kernel_rfl) (by kernel_rfl) ?_)
  refine run_ok 4000 _ _ _ _ ?_
  simp (maxSteps := 10000000) only [go_sem, c9, r9, hw, h00, List.cons_append, List.nil_append]
  refine sem_call rfl rfl (((hcut).embed [] rfl trivial rfl rfl rfl (by simp)).mono ?_)
  rintro _ _ ⟨_, _, ⟨rfl, rfl⟩, rfl, rfl⟩
  refine run_ok 4000 _ _ _ _ ?_
  simp (maxSteps := 10000000) only [go_sem, hw, h00, List.cons_append, List.nil_append]
  refine sem_call rfl rfl (((hrp).embed [] rfl trivial rfl rfl rfl (by simp)).mono ?_)
  rintro _ _ ⟨_, _, ⟨rfl, rfl⟩, rfl, rfl⟩
  refine run_ok 4000 _ _ _ _ ?_
  simp (maxSteps := 10000000) only [go_sem, hw, h00, List.cons_append, List.nil_append]
  refine sem_call rfl rfl (((hp).embed [0, 1, 2, 3, 4, 5, 6, 7, 8, 9, 10, 11, 12, 13, 14, 15, 16, 17, 18, 19, 20] rfl (by repeat' first | exact trivial | rfl | (simp only [go_sem]; done) | constructor) rfl (by first | rfl | simp only [go_sem]) rfl (by simp)).mono ?_)
  rintro _ _ ⟨v2, m2, ⟨h1, h2⟩, h3, h4⟩
  subst h3
  subst h4
  subst h1
  subst h2
  refine run_ok 4000 _ _ _ _ ?_
  simp (maxSteps := 10000000) only [go_sem, hw, h00, List.cons_append, List.nil_append]
  refine ⟨_, _, .sub [0, 1, 2, 3, 4, 5, 6, 7, 8, 9, 10, 11, 12, 13, 14, 15, 16, 17, 18, 19, 20, 23, 24, 25, 26, 27, 28, 29, 30, 31, 32] ?_ .done, rfl, rfl⟩
  simp only [EmbV, go_sem]
set_option maxHeartbeats 40000000 in
theorem pdo7n_0 (p : PS) (who n at' : Int) (y : UInt8) (s : List UInt8) (hw : ibits .and .i64 who 1 = 0) (h0 : (refP (s.take 60)).2 = 0) :
    Tri Try.prog 9 [.pbox 0 0, .agg [.int .i64 7, .int .i64 who, .int .i64 n, .int .i64 at', .int .u8 y.toNat, .str s]] (pN p) (fun v m => v = .bool true ∧ m = pN2 (p)) := by
  refine Tri.post ?_
  have hcut := cut_spec s 60 (by omega)
  have ht : (s.take (60 : Int).toNat).length ≤ 60 := by rw [List.length_take]; omega
  have e5 : (60 : Int).toNat = 60 := rfl
  rw [e5] at hcut ht
  have hrp := rparse_spec (s.take 60) (by omega)
  generalize s.take 60 = T at *
  rw [h0] at hrp
  generalize refP T = F at *
  have h00 : ((0 : Int) == 0) = true := rfl
  skip
  refine (Tri.enter (rl := r9) (code := c9) (by kernel_rfl) Try.func9 rfl c9_ok (by kernel_rfl) (by kernel_rfl) ?_)
  refine run_ok 4000 _ _ _ _ ?_
  simp (maxSteps := 10000000) only [go_sem, c9, r9, hw, h00, List.cons_append, List.nil_append]
  refine sem_move 5 rfl ?_
  simp (maxSteps := 10000000) only [go_sem, hw, h00, List.cons_append, List.nil_append]
  refine sem_move 7 rfl ?_
  simp (maxSteps := 10000000) only [go_sem, hw, h00, List.cons_append, List.nil_append]
  refine sem_move 12 rfl ?_
  simp (maxSteps := 10000000) only [go_sem, hw, h00, List.cons_append, List.nil_append]
  refine sem_move 14 rfl ?_
  simp (maxSteps := 10000000) only [go_sem, hw, h00, List.cons_append, List.nil_append]
  refine sem_move 15 rfl ?_
  simp (maxSteps := 10000000) only [go_sem, hw, h00, List.cons_append, List.nil_append]
  refine sem_move 16 rfl ?_
  simp (maxSteps := 10000000) only [go_sem, hw, h00, List.cons_append, List.nil_append]
  refine sem_move 17 rfl ?_
  simp (maxSteps := 10000000) only [go_sem, hw, h00, List.cons_append, List.nil_append]
  refine sem_move 18 rfl ?_
  simp (maxSteps := 10000000) only [go_sem, hw, h00, List.cons_append, List.nil_append]
  refine sem_move 19 rfl ?_
  simp (maxSteps := 10000000) only [go_sem, hw, h00, List.cons_append, List.nil_append]
  refine sem_move 20 rfl ?_
  simp (maxSteps := 10000000) only [go_sem, hw, h00, List.cons_append, List.nil_append]
  refine sem_call rfl rfl (((hcut).embed [] rfl trivial rfl rfl rfl (by simp)).mono ?_)
  rintro _ _ ⟨_, _, ⟨rfl, rfl⟩, rfl, rfl⟩
  refine run_ok 4000 _ _ _ _ ?_
  simp (maxSteps := 10000000) only [go_sem, hw, h00, List.cons_append, List.nil_append]
  refine sem_call rfl rfl (((hrp).embed [] rfl trivial rfl rfl rfl (by simp)).mono ?_)
  rintro _ _ ⟨_, _, ⟨rfl, rfl⟩, rfl, rfl⟩
  refine run_ok 4000 _ _ _ _ ?_
  simp (maxSteps := 10000000) only [go_sem, hw, h00, List.cons_append, List.nil_append]
  refine ⟨_, _, .sub [0, 1, 2, 3, 4, 5, 6, 7, 8, 9, 10, 11, 12, 13, 14, 15, 16, 17, 18, 19, 20, 22, 23, 24, 25, 26, 27, 28, 29, 30, 31] ?_ .done, rfl, rfl⟩
  simp only [EmbV, go_sem]
set_option maxHeartbeats 40000000 in
theorem pdo2_0 (p : PS) (who n at' : Int) (y : UInt8) (s : List UInt8) (hw : ibits .and .i64 who 1 = 0) (oka : LOk p.a) (okb : LOk p.b) (hnow : 0 ≤ p.now ∧ p.now ≤ 1000000) :
    Tri Try.prog 9 [.pbox 0 0, .agg [.int .i64 2, .int .i64 who, .int .i64 n, .int .i64 at', .int .u8 y.toNat, .str s]] (pN p) (fun v m => v = .bool true ∧ m = pN2 (pollP p)) := by
  refine Tri.post ?_
  have hp := ppoll_spec p oka okb hnow
  generalize pollP p = RR at *
  simp only [pN, pN2] at hp
  skip
  refine (Tri.enter (rl := r9) (code := c9) (by kernel_rfl) Try.func9 rfl c9_ok (by kernel_rfl) (by kernel_rfl) ?_)
  refine run_ok 4000 _ _ _ _ ?_
  simp (maxSteps := 10000000) only [go_sem, c9, r9, hw, List.cons_append, List.nil_append]
  refine sem_call rfl rfl (((hp).embed [0, 1, 2, 3, 4, 5, 6, 7, 8, 9, 10, 11, 12, 13, 14, 15, 16, 17, 18, 19, 20] rfl (by repeat' first | exact trivial | rfl | (simp only [go_sem]; done) | constructor) rfl (by first | rfl | simp only [go_sem]) rfl (by simp)).mono ?_)
  rintro _ _ ⟨v2, m2, ⟨h1, h2⟩, h3, h4⟩
  subst h3
  subst h4
  subst h1
  subst h2
  refine run_ok 4000 _ _ _ _ ?_
  simp (maxSteps := 10000000) only [go_sem, hw, List.cons_append, List.nil_append]
  refine ⟨_, _, .sub [0, 1, 2, 3, 4, 5, 6, 7, 8, 9, 10, 11, 12, 13, 14, 15, 16, 17, 18, 19, 20, 22, 23, 24, 25, 26, 27, 28, 29, 30, 31] ?_ .done, rfl, rfl⟩
  simp only [EmbV, go_sem]
set_option maxHeartbeats 40000000 in
theorem pdoL_0 (p : PS) (kind who n at' : Int) (y : UInt8) (s : List UInt8) (hw : ibits .and .i64 who 1 = 0) (hk : kind ≠ 1 ∧ kind ≠ 2 ∧ kind < 3) :
    Tri Try.prog 9 [.pbox 0 0, .agg [.int .i64 kind, .int .i64 who, .int .i64 n, .int .i64 at', .int .u8 y.toNat, .str s]] (pN p) (fun v m => v = .bool true ∧ m = pN2 (p)) := by
  refine Tri.post ?_
  have k1 : (kind == 1) = false := by simp; omega
  have k2 : (kind == 2) = false := by simp; omega
  have k7 : (kind == 7) = false := by simp; omega
  have c1 : kind < 3 := hk.2.2
  skip
  refine (Tri.enter (rl := r9) (code := c9) (by kernel_rfl) Try.func9 rfl c9_ok (by kernel_rfl) (by kernel_rfl) ?_)
  refine sem_move 5 rfl ?_
  simp (maxSteps := 10000000) only [go_sem, hw, k1, k2, k7, c1, List.cons_append, List.nil_append]
  refine sem_move 7 rfl ?_
  simp (maxSteps := 10000000) only [go_sem, hw, k1, k2, k7, c1, List.cons_append, List.nil_append]
  refine sem_move 12 rfl ?_
  simp (maxSteps := 10000000) only [go_sem, hw, k1, k2, k7, c1, List.cons_append, List.nil_append]
  refine sem_move 14 rfl ?_
  simp (maxSteps := 10000000) only [go_sem, hw, k1, k2, k7, c1, List.cons_append, List.nil_append]
  refine sem_move 15 rfl ?_
  simp (maxSteps := 10000000) only [go_sem, hw, k1, k2, k7, c1, List.cons_append, List.nil_append]
  refine sem_move 16 rfl ?_
  simp (maxSteps := 10000000) only [go_sem, hw, k1, k2, k7, c1, List.cons_append, List.nil_append]
  refine sem_move 17 rfl ?_
  simp (maxSteps := 10000000) only [go_sem, hw, k1, k2, k7, c1, List.cons_append, List.nil_append]
  refine sem_move 18 rfl ?_
  simp (maxSteps := 10000000) only [go_sem, hw, k1, k2, k7, c1, List.cons_append, List.nil_append]
  refine sem_move 19 rfl ?_
  simp (maxSteps := 10000000) only [go_sem, hw, k1, k2, k7, c1, List.cons_append, List.nil_append]
  refine sem_move 20 rfl ?_
  simp (maxSteps := 10000000) only [go_sem, hw, k1, k2, k7, c1, List.cons_append, List.nil_append]
  refine run_ok 4000 _ _ _ _ ?_
  simp (maxSteps := 10000000) only [go_sem, c9, r9, hw, k1, k2, k7, c1, List.cons_append, List.nil_append]
  refine ⟨_, _, .sub [0, 1, 2, 3, 4, 5, 6, 7, 8, 9, 10, 11, 12, 13, 14, 15, 16, 17, 18, 19, 20, 21, 22, 23, 24, 25, 26, 27, 28, 29, 30] ?_ .done, rfl, rfl⟩
  simp only [EmbV, go_sem]
set_option maxHeartbeats 40000000 in
theorem pdoH_0 (p : PS) (kind who n at' : Int) (y : UInt8) (s : List UInt8) (hw : ibits .and .i64 who 1 = 0) (hk : kind ≠ 7 ∧ 6 < kind) :
    Tri Try.prog 9 [.pbox 0 0, .agg [.int .i64 kind, .int .i64 who, .int .i64 n, .int .i64 at', .int .u8 y.toNat, .str s]] (pN p) (fun v m => v = .bool true ∧ m = pN2 (p)) := by
  refine Tri.post ?_
  have k1 : (kind == 1) = false := by simp; omega
  have k2 : (kind == 2) = false := by simp; omega
  have k7 : (kind == 7) = false := by simp; omega
  have c1 : ¬ kind < 3 := by omega
  have c2 : kind > 6 := hk.2
  skip
  refine (Tri.enter (rl := r9) (code := c9) (by kernel_rfl) Try.func9 rfl c9_ok (by kernel_rfl) (by kernel_rfl) ?_)
  refine sem_move 5 rfl ?_
  simp (maxSteps := 10000000) only [go_sem, hw, k1, k2, k7, c1, c2, List.cons_append, List.nil_append]
  refine sem_move 7 rfl ?_
  simp (maxSteps := 10000000) only [go_sem, hw, k1, k2, k7, c1, c2, List.cons_append, List.nil_append]
  refine sem_move 12 rfl ?_
  simp (maxSteps := 10000000) only [go_sem, hw, k1, k2, k7, c1, c2, List.cons_append, List.nil_append]
  refine sem_move 14 rfl ?_
  simp (maxSteps := 10000000) only [go_sem, hw, k1, k2, k7, c1, c2, List.cons_append, List.nil_append]
  refine sem_move 15 rfl ?_
  simp (maxSteps := 10000000) only [go_sem, hw, k1, k2, k7, c1, c2, List.cons_append, List.nil_append]
  refine sem_move 16 rfl ?_
  simp (maxSteps := 10000000) only [go_sem, hw, k1, k2, k7, c1, c2, List.cons_append, List.nil_append]
  refine sem_move 17 rfl ?_
  simp (maxSteps := 10000000) only [go_sem, hw, k1, k2, k7, c1, c2, List.cons_append, List.nil_append]
  refine sem_move 18 rfl ?_
  simp (maxSteps := 10000000) only [go_sem, hw, k1, k2, k7, c1, c2, List.cons_append, List.nil_append]
  refine sem_move 19 rfl ?_
  simp (maxSteps := 10000000) only [go_sem, hw, k1, k2, k7, c1, c2, List.cons_append, List.nil_append]
  refine sem_move 20 rfl ?_
  simp (maxSteps := 10000000) only [go_sem, hw, k1, k2, k7, c1, c2, List.cons_append, List.nil_append]
  refine run_ok 4000 _ _ _ _ ?_
  simp (maxSteps := 10000000) only [go_sem, c9, r9, hw, k1, k2, k7, c1, c2, List.cons_append, List.nil_append]
  refine ⟨_, _, .sub [0, 1, 2, 3, 4, 5, 6, 7, 8, 9, 10, 11, 12, 13, 14, 15, 16, 17, 18, 19, 20, 21, 22, 23, 24, 25, 26, 27, 28, 29, 30] ?_ .done, rfl, rfl⟩
  simp only [EmbV, go_sem]
set_option maxHeartbeats 40000000 in
theorem pdoE_0 (p : PS) (kind who n at' : Int) (y : UInt8) (s : List UInt8) (hw : ibits .and .i64 who 1 = 0) (hk : 3 ≤ kind ∧ kind ≤ 6) (h0 : p.w0.length = 0) :
    Tri Try.prog 9 [.pbox 0 0, .agg [.int .i64 kind, .int .i64 who, .int .i64 n, .int .i64 at', .int .u8 y.toNat, .str s]] (pN p) (fun v m => v = .bool true ∧ m = pN2 (p)) := by
  refine Tri.post ?_
  have k1 : (kind == 1) = false := by simp; omega
  have k2 : (kind == 2) = false := by simp; omega
  have k7 : (kind == 7) = false := by simp; omega
  have c1 : ¬ kind < 3 := by omega
  have c2 : ¬ kind > 6 := by omega
  have c3 : ((p.w0.length : Int) == 0) = true := by simp; exact List.length_eq_zero_iff.1 h0
  skip
  refine (Tri.enter (rl := r9) (code := c9) (by kernel_rfl) Try.func9 rfl c9_ok (by kernel_rfl) (by kernel_rfl) ?_)
  refine sem_move 5 rfl ?_
  simp (maxSteps := 10000000) only [go_sem, hw, k1, k2, k7, c1, c2, c3, List.cons_append, List.nil_append]
  refine sem_move 7 rfl ?_
  simp (maxSteps := 10000000) only [go_sem, hw, k1, k2, k7, c1, c2, c3, List.cons_append, List.nil_append]
  refine sem_move 12 rfl ?_
  simp (maxSteps := 10000000) only [go_sem, hw, k1, k2, k7, c1, c2, c3, List.cons_append, List.nil_append]
  refine sem_move 14 rfl ?_
  simp (maxSteps := 10000000) only [go_sem, hw, k1, k2, k7, c1, c2, c3, List.cons_append, List.nil_append]
  refine sem_move 15 rfl ?_
  simp (maxSteps := 10000000) only [go_sem, hw, k1, k2, k7, c1, c2, c3, List.cons_append, List.nil_append]
  refine sem_move 16 rfl ?_
  simp (maxSteps := 10000000) only [go_sem, hw, k1, k2, k7, c1, c2, c3, List.cons_append, List.nil_append]
  refine sem_move 17 rfl ?_
  simp (maxSteps := 10000000) only [go_sem, hw, k1, k2, k7, c1, c2, c3, List.cons_append, List.nil_append]
  refine sem_move 18 rfl ?_
  simp (maxSteps := 10000000) only [go_sem, hw, k1, k2, k7, c1, c2, c3, List.cons_append, List.nil_append]
  refine sem_move 19 rfl ?_
  simp (maxSteps := 10000000) only [go_sem, hw, k1, k2, k7, c1, c2, c3, List.cons_append, List.nil_append]
  refine sem_move 20 rfl ?_
  simp (maxSteps := 10000000) only [go_sem, hw, k1, k2, k7, c1, c2, c3, List.cons_append, List.nil_append]
  refine run_ok 4000 _ _ _ _ ?_
  simp (maxSteps := 10000000) only [go_sem, c9, r9, hw, k1, k2, k7, c1, c2, c3, List.cons_append, List.nil_append]
  refine ⟨_, _, .sub [0, 1, 2, 3, 4, 5, 6, 7, 8, 9, 10, 11, 12, 13, 14, 15, 16, 17, 18, 19, 20, 21, 22, 23, 24, 25, 26, 27, 28, 29, 30] ?_ .done, rfl, rfl⟩
  simp only [EmbV, go_sem]
end Go.AEX

/- Two ends: an event at the other one. -/
namespace Go.AEX
open Go Go.AE Go.Proofs
set_option maxRecDepth 100000
set_option linter.unusedVariables false
set_option linter.unusedSimpArgs false

set_option maxHeartbeats 40000000 in
theorem pdo1_1 (p : PS) (who n at' : Int) (y : UInt8) (s : List UInt8) (hw : ibits .and .i64 who 1 = 1) (hws : p.b.ws.length ≤ 700) (hl : p.s1.length ≤ 100000) :
    Tri Try.prog 9 [.pbox 0 0, .agg [.int .i64 1, .int .i64 who, .int .i64 n, .int .i64 at', .int .u8 y.toNat, .str s]] (pN p) (fun v m => v = .bool true ∧ m = pN2 (send1 p (s.take 500))) := by
  refine Tri.post ?_
  have hcut := cut_spec s 500 (by omega)
  have ht : (s.take (500 : Int).toNat).length ≤ 500 := by rw [List.length_take]; omega
  have e5 : (500 : Int).toNat = 500 := rfl
  rw [e5] at hcut ht
  have hcl := cutP_len 2 (s.take 500) (by omega)
  have hsd := lsend_spec p.b (s.take 500) (by omega) (by omega) (by omega)
  have hwt := lwaits_spec p.b
  have hss := sub_sv p.s1
  unfold send1
  generalize s.take 500 = t at *
  by_cases c : p.b.ws.length + (cutP t).length ≤ 700
  · rw [if_pos c, if_pos c] at hsd
    rw [if_pos c]
    skip
    refine (Tri.enter (rl := r9) (code := c9) (by kernel_rfl) Try.func9 rfl c9_ok (by kernel_rfl) (by kernel_rfl) ?_)
    refine run_ok 4000 _ _ _ _ ?_
    simp (maxSteps := 10000000) only [go_sem, c9, r9, hw, hss, sv_len, lkM, lkM2, lkB, pBox, List.cons_append, List.nil_append]
    refine sem_move 5 rfl ?_
    simp (maxSteps := 10000000) only [go_sem, hw, hss, sv_len, lkM, lkM2, lkB, pBox, List.cons_append, List.nil_append]
    refine sem_move 7 rfl ?_
    simp (maxSteps := 10000000) only [go_sem, hw, hss, sv_len, lkM, lkM2, lkB, pBox, List.cons_append, List.nil_append]
    refine sem_move 12 rfl ?_
    simp (maxSteps := 10000000) only [go_sem, hw, hss, sv_len, lkM, lkM2, lkB, pBox, List.cons_append, List.nil_append]
    refine sem_move 14 rfl ?_
    simp (maxSteps := 10000000) only [go_sem, hw, hss, sv_len, lkM, lkM2, lkB, pBox, List.cons_append, List.nil_append]
    refine sem_move 15 rfl ?_
    simp (maxSteps := 10000000) only [go_sem, hw, hss, sv_len, lkM, lkM2, lkB, pBox, List.cons_append, List.nil_append]
    refine sem_move 16 rfl ?_
    simp (maxSteps := 10000000) only [go_sem, hw, hss, sv_len, lkM, lkM2, lkB, pBox, List.cons_append, List.nil_append]
    refine sem_move 17 rfl ?_
    simp (maxSteps := 10000000) only [go_sem, hw, hss, sv_len, lkM, lkM2, lkB, pBox, List.cons_append, List.nil_append]
    refine sem_move 18 rfl ?_
    simp (maxSteps := 10000000) only [go_sem, hw, hss, sv_len, lkM, lkM2, lkB, pBox, List.cons_append, List.nil_append]
    refine sem_move 19 rfl ?_
    simp (maxSteps := 10000000) only [go_sem, hw, hss, sv_len, lkM, lkM2, lkB, pBox, List.cons_append, List.nil_append]
    refine sem_move 20 rfl ?_
    simp (maxSteps := 10000000) only [go_sem, hw, hss, sv_len, lkM, lkM2, lkB, pBox, List.cons_append, List.nil_append]
    refine sem_call rfl rfl (((hcut).embed [] rfl trivial rfl rfl rfl (by simp)).mono ?_)
    rintro _ _ ⟨_, _, ⟨rfl, rfl⟩, rfl, rfl⟩
    refine run_ok 4000 _ _ _ _ ?_
    simp (maxSteps := 10000000) only [go_sem, hw, hss, sv_len, lkM, lkM2, lkB, pBox, List.cons_append, List.nil_append]
    refine sem_call rfl rfl (((hsd).embed [8, 9, 10, 11, 24, 13, 25] rfl (by repeat' first | exact trivial | rfl | (simp only [go_sem]; done) | constructor) rfl (by first | rfl | simp only [go_sem]) rfl (by simp)).mono ?_)
    rintro _ _ ⟨_, _, ⟨rfl, rfl⟩, rfl, rfl⟩
    refine run_ok 4000 _ _ _ _ ?_
    simp (maxSteps := 10000000) only [go_sem, hw, hss, sv_len, lkM, lkM2, lkB, pBox, List.cons_append, List.nil_append]
    refine sem_drawG l9_0_ok (by kernel_rfl) ?_
    intro KK hKK
    simp (maxSteps := 10000000) only [go_sem, l9_0, hw, hss, sv_len, lkM, lkM2, lkB, pBox, List.cons_append, List.nil_append]
    refine ⟨by unfold small; omega, ?_⟩
    subst hKK
    simp (maxSteps := 10000000) only [go_sem, hw, hss, sv_len, lkM, lkM2, lkB, pBox, List.cons_append, List.nil_append]
    rw [svl_one, sv_app]
    refine ⟨_, _, .sub [0, 1, 2, 3, 4, 5, 6, 7, 8, 9, 10, 11, 12, 13, 14, 15, 16, 17, 18, 19, 20, 22, 23, 24, 25, 26, 27, 28, 32, 30, 31] ?_ .done, rfl, rfl⟩
    simp [EmbV, go_sem]
  · rw [if_neg c, if_neg c] at hsd
    rw [if_neg c]
    have hw690 : (p.b.ws.length : Int) > 690 := by omega
    skip
    refine (Tri.enter (rl := r9) (code := c9) (by kernel_rfl) Try.func9 rfl c9_ok (by kernel_rfl) (by kernel_rfl) ?_)
    refine run_ok 4000 _ _ _ _ ?_
    simp (maxSteps := 10000000) only [go_sem, c9, r9, hw, hss, hw690, sv_len, lkM, lkM2, lkB, pBox, List.cons_append, List.nil_append]
    refine sem_move 5 rfl ?_
    simp (maxSteps := 10000000) only [go_sem, hw, hss, hw690, sv_len, lkM, lkM2, lkB, pBox, List.cons_append, List.nil_append]
    refine sem_move 7 rfl ?_
    simp (maxSteps := 10000000) only [go_sem, hw, hss, hw690, sv_len, lkM, lkM2, lkB, pBox, List.cons_append, List.nil_append]
    refine sem_move 12 rfl ?_
    simp (maxSteps := 10000000) only [go_sem, hw, hss, hw690, sv_len, lkM, lkM2, lkB, pBox, List.cons_append, List.nil_append]
    refine sem_move 14 rfl ?_
    simp (maxSteps := 10000000) only [go_sem, hw, hss, hw690, sv_len, lkM, lkM2, lkB, pBox, List.cons_append, List.nil_append]
    refine sem_move 15 rfl ?_
    simp (maxSteps := 10000000) only [go_sem, hw, hss, hw690, sv_len, lkM, lkM2, lkB, pBox, List.cons_append, List.nil_append]
    refine sem_move 16 rfl ?_
    simp (maxSteps := 10000000) only [go_sem, hw, hss, hw690, sv_len, lkM, lkM2, lkB, pBox, List.cons_append, List.nil_append]
    refine sem_move 17 rfl ?_
    simp (maxSteps := 10000000) only [go_sem, hw, hss, hw690, sv_len, lkM, lkM2, lkB, pBox, List.cons_append, List.nil_append]
    refine sem_move 18 rfl ?_
    simp (maxSteps := 10000000) only [go_sem, hw, hss, hw690, sv_len, lkM, lkM2, lkB, pBox, List.cons_append, List.nil_append]
    refine sem_move 19 rfl ?_
    simp (maxSteps := 10000000) only [go_sem, hw, hss, hw690, sv_len, lkM, lkM2, lkB, pBox, List.cons_append, List.nil_append]
    refine sem_move 20 rfl ?_
    simp (maxSteps := 10000000) only [go_sem, hw, hss, hw690, sv_len, lkM, lkM2, lkB, pBox, List.cons_append, List.nil_append]
    refine sem_call rfl rfl (((hcut).embed [] rfl trivial rfl rfl rfl (by simp)).mono ?_)
    rintro _ _ ⟨_, _, ⟨rfl, rfl⟩, rfl, rfl⟩
    refine run_ok 4000 _ _ _ _ ?_
    simp (maxSteps := 10000000) only [go_sem, hw, hss, hw690, sv_len, lkM, lkM2, lkB, pBox, List.cons_append, List.nil_append]
    refine sem_call rfl rfl (((hsd).embed [8, 9, 10, 11, 24, 13, 25] rfl (by repeat' first | exact trivial | rfl | (simp only [go_sem]; done) | constructor) rfl (by first | rfl | simp only [go_sem]) rfl (by simp)).mono ?_)
    rintro _ _ ⟨_, _, ⟨rfl, rfl⟩, rfl, rfl⟩
    refine run_ok 4000 _ _ _ _ ?_
    simp (maxSteps := 10000000) only [go_sem, hw, hss, hw690, sv_len, lkM, lkM2, lkB, pBox, List.cons_append, List.nil_append]
    refine sem_call rfl rfl (((hwt).embed [8, 9, 10, 11, 24, 13, 25] rfl (by repeat' first | exact trivial | rfl | (simp only [go_sem]; done) | constructor) rfl (by first | rfl | simp only [go_sem]) rfl (by simp)).mono ?_)
    rintro _ _ ⟨_, _, ⟨rfl, rfl⟩, rfl, rfl⟩
    refine run_ok 4000 _ _ _ _ ?_
    simp (maxSteps := 10000000) only [go_sem, hw, hss, hw690, sv_len, lkM, lkM2, lkB, pBox, List.cons_append, List.nil_append]
    refine ⟨_, _, .like (Like.bool true) (.sub [0, 1, 2, 3, 4, 5, 6, 7, 8, 9, 10, 11, 12, 13, 14, 15, 16, 17, 18, 19, 20, 22, 23, 24, 25, 26, 27, 28, 29, 30, 31] ?_ .done), rfl, rfl⟩
    simp only [EmbV, go_sem]
set_option maxHeartbeats 40000000 in
theorem pdo3_1 (p : PS) (who n at' : Int) (y : UInt8) (s : List UInt8) (hw : ibits .and .i64 who 1 = 1) (h0 : 0 < p.w1.length) (hlw : p.w1.length ≤ 1000) (ok : LOk p.b) (hd : (atW p.w1 n).length ≤ 1000000) (hb : RB 0 p.b 0)
    (R : List (List UInt8)) (hR : p.s0 = p.c1 ++ (recvF p.b (atW p.w1 n)).2.1 ++ R) (hl : p.s0.length ≤ 100000) :
    Tri Try.prog 9 [.pbox 0 0, .agg [.int .i64 3, .int .i64 who, .int .i64 n, .int .i64 at', .int .u8 y.toNat, .str s]] (pN p) (fun v m => v = .bool true ∧ m = pN2 (recv1 { p with w1 := delW p.w1 n } (atW p.w1 n))) := by
  refine Tri.post ?_
  obtain ⟨j, hj, hj2⟩ := and255 n
  have hp := prec1_spec { p with w1 := delW p.w1 n } (atW p.w1 n) ok hd hb R hR hl
  generalize hrr : recv1 { p with w1 := delW p.w1 n } (atW p.w1 n) = RR at *
  clear hrr
  have hix : ixW n p.w1.length = j % p.w1.length := by unfold ixW; rw [hj]; rfl
  unfold atW delW at hp
  rw [hix] at hp
  have hlt : j % p.w1.length < p.w1.length := Nat.mod_lt _ h0
  have wadd : iwrap .i64 ((j : Int) + (p.w1.length : Int)) = ((j + p.w1.length : Nat) : Int) := by rw [iwrap_i64_in (by omega)]; omega
  have hrem : ((j + p.w1.length : Nat) : Int).tmod (p.w1.length : Int) = ((j % p.w1.length : Nat) : Int) := by
    have h1 : (j + p.w1.length) % p.w1.length = j % p.w1.length := Nat.add_mod_right _ _
    rw [Int.tmod_eq_emod_of_nonneg (by omega), ← h1]
    exact (Int.natCast_emod _ _).symm
  have hg : p.w1.getD (j % p.w1.length) [] = p.w1[j % p.w1.length] := by rw [List.getD_eq_getElem?_getD, List.getElem?_eq_getElem hlt]; rfl
  rw [hg] at hp
  have hz : ((p.w1.length : Int) == 0) = false := by simp; exact fun h => by simp [h] at h0
  generalize hk : j % p.w1.length = k at *
  have r0 := sv_rstr hlt
  have hh := sv_hasS hlt
  have hin : (k : Int) < (p.w1.length : Int) := by omega
  have wk1 := inc64 (show k < 1000000000000 by omega)
  have hle1 : ((k + 1 : Nat) : Int) ≤ (p.w1.length : Int) := by omega
  have hkle : (k : Int) ≤ (p.w1.length : Int) := by omega
  have hkle2 : k ≤ p.w1.length := by omega
  have hsub1 : sub (sv p.w1) 0 k = sv (p.w1.take k) := by rw [sub_sv2]; rfl
  have hsub2 : sub (sv p.w1) (k + 1) (p.w1.length - (k + 1)) = sv (p.w1.drop (k + 1)) := by rw [sub_sv2, List.take_of_length_le (by rw [List.length_drop]; exact Nat.le_refl _)]
  have hsl : (sv (p.w1.take k)).length = k := by rw [sv_len, List.length_take]; omega
  have hsub3 : sub (sv (p.w1.take k)) 0 k = sv (p.w1.take k) := by have := sub_sv (p.w1.take k); rwa [show (p.w1.take k).length = k by rw [List.length_take]; omega] at this
  have hdl : k + (p.w1.length - (k + 1)) = (p.w1.take k ++ p.w1.drop (k + 1)).length := by rw [List.length_append, List.length_take, List.length_drop]; omega
  have hfit : k + 1 + (p.w1.length - (k + 1)) ≤ p.w1.length := by omega
  skip
  refine (Tri.enter (rl := r9) (code := c9) (by kernel_rfl) Try.func9 rfl c9_ok (by kernel_rfl) (by kernel_rfl) ?_)
  refine run_ok 4000 _ _ _ _ ?_
  simp (maxSteps := 10000000) only [go_sem, c9, r9, hw, hj, wadd, hrem, hz, wk1, hle1, hkle, hkle2, hsub1, hsub2, hsub3, hsl, hfit, Nat.sub_zero, Nat.le_refl, sv_app, r0, hh, hin, Int.natCast_nonneg, sv_len, lkM, lkM2, lkB, pBox, List.cons_append, List.nil_append]
  refine ⟨by omega, ?_⟩
  refine sem_drawG l9_1_ok (by kernel_rfl) ?_
  intro KK hKK
  simp (maxSteps := 10000000) only [go_sem, l9_1, hw, hj, wadd, hrem, hz, wk1, hle1, hkle, hkle2, hsub1, hsub2, hsub3, hsl, hfit, Nat.sub_zero, Nat.le_refl, sv_app, r0, hh, hin, Int.natCast_nonneg, sv_len, lkM, lkM2, lkB, pBox, List.cons_append, List.nil_append]
  refine ⟨by unfold small; omega, by unfold small; omega, ?_⟩
  simp only [hdl]
  generalize p.w1.take k ++ p.w1.drop (k + 1) = W' at *
  generalize p.w1[k] = D at *
  simp only [pN, pN2] at hp
  subst hKK
  simp (maxSteps := 10000000) only [go_sem, hw, hj, wadd, hrem, hz, wk1, hle1, hkle, hkle2, hsub1, hsub2, hsub3, hsl, hfit, Nat.sub_zero, Nat.le_refl, sv_app, r0, hh, hin, Int.natCast_nonneg, sv_len, lkM, lkM2, lkB, pBox, List.cons_append, List.nil_append]
  refine sem_call rfl rfl (((hp).embed [0, 1, 2, 3, 4, 5, 6, 7, 8, 9, 10, 11, 12, 13, 14, 15, 23, 17, 18, 19, 20] rfl (by repeat' first | exact trivial | rfl | (simp only [go_sem]; done) | constructor) rfl (by first | rfl | simp only [go_sem]) rfl (by simp)).mono ?_)
  rintro _ _ ⟨v2, m2, ⟨h1, h2⟩, h3, h4⟩
  subst h3
  subst h4
  subst h1
  subst h2
  refine run_ok 4000 _ _ _ _ ?_
  simp (maxSteps := 10000000) only [go_sem, hw, hj, wadd, hrem, hz, wk1, hle1, hkle, hkle2, hsub1, hsub2, hsub3, hsl, hfit, Nat.sub_zero, Nat.le_refl, sv_app, r0, hh, hin, Int.natCast_nonneg, sv_len, lkM, lkM2, lkB, pBox, List.cons_append, List.nil_append]
  refine ⟨_, _, .sub [0, 1, 2, 3, 4, 5, 6, 7, 8, 9, 10, 11, 12, 13, 14, 15, 16, 17, 18, 19, 20, 24, 25, 26, 27, 28, 29, 30, 31, 32, 33] ?_ .done, rfl, rfl⟩
  simp only [EmbV, go_sem]
set_option maxHeartbeats 40000000 in
theorem pdo5_1 (p : PS) (who n at' : Int) (y : UInt8) (s : List UInt8) (hw : ibits .and .i64 who 1 = 1) (h0 : 0 < p.w1.length) (hlw : p.w1.length ≤ 1000) (ok : LOk p.b) (hd : (atW p.w1 n).length ≤ 1000000) (hb : RB 0 p.b 0)
    (R : List (List UInt8)) (hR : p.s0 = p.c1 ++ (recvF p.b (atW p.w1 n)).2.1 ++ R) (hl : p.s0.length ≤ 100000) :
    Tri Try.prog 9 [.pbox 0 0, .agg [.int .i64 5, .int .i64 who, .int .i64 n, .int .i64 at', .int .u8 y.toNat, .str s]] (pN p) (fun v m => v = .bool true ∧ m = pN2 (recv1 p (atW p.w1 n))) := by
  refine Tri.post ?_
  obtain ⟨j, hj, hj2⟩ := and255 n
  have hp := prec1_spec p (atW p.w1 n) ok hd hb R hR hl
  generalize hrr : recv1 p (atW p.w1 n) = RR at *
  clear hrr
  have hix : ixW n p.w1.length = j % p.w1.length := by unfold ixW; rw [hj]; rfl
  unfold atW at hp
  rw [hix] at hp
  have hlt : j % p.w1.length < p.w1.length := Nat.mod_lt _ h0
  have wadd : iwrap .i64 ((j : Int) + (p.w1.length : Int)) = ((j + p.w1.length : Nat) : Int) := by rw [iwrap_i64_in (by omega)]; omega
  have hrem : ((j + p.w1.length : Nat) : Int).tmod (p.w1.length : Int) = ((j % p.w1.length : Nat) : Int) := by
    have h1 : (j + p.w1.length) % p.w1.length = j % p.w1.length := Nat.add_mod_right _ _
    rw [Int.tmod_eq_emod_of_nonneg (by omega), ← h1]
    exact (Int.natCast_emod _ _).symm
  have hg : p.w1.getD (j % p.w1.length) [] = p.w1[j % p.w1.length] := by rw [List.getD_eq_getElem?_getD, List.getElem?_eq_getElem hlt]; rfl
  rw [hg] at hp
  have hz : ((p.w1.length : Int) == 0) = false := by simp; exact fun h => by simp [h] at h0
  generalize hk : j % p.w1.length = k at *
  have r0 := sv_rstr hlt
  have hh := sv_hasS hlt
  have hin : (k : Int) < (p.w1.length : Int) := by omega
  have wk1 := inc64 (show k < 1000000000000 by omega)
  have hle1 : ((k + 1 : Nat) : Int) ≤ (p.w1.length : Int) := by omega
  have hkle : (k : Int) ≤ (p.w1.length : Int) := by omega
  have hkle2 : k ≤ p.w1.length := by omega
  have hsub1 : sub (sv p.w1) 0 k = sv (p.w1.take k) := by rw [sub_sv2]; rfl
  have hsub2 : sub (sv p.w1) (k + 1) (p.w1.length - (k + 1)) = sv (p.w1.drop (k + 1)) := by rw [sub_sv2, List.take_of_length_le (by rw [List.length_drop]; exact Nat.le_refl _)]
  have hsl : (sv (p.w1.take k)).length = k := by rw [sv_len, List.length_take]; omega
  have hsub3 : sub (sv (p.w1.take k)) 0 k = sv (p.w1.take k) := by have := sub_sv (p.w1.take k); rwa [show (p.w1.take k).length = k by rw [List.length_take]; omega] at this
  have hdl : k + (p.w1.length - (k + 1)) = (p.w1.take k ++ p.w1.drop (k + 1)).length := by rw [List.length_append, List.length_take, List.length_drop]; omega
  have hfit : k + 1 + (p.w1.length - (k + 1)) ≤ p.w1.length := by omega
  skip
  refine (Tri.enter (rl := r9) (code := c9) (by kernel_rfl) Try.func9 rfl c9_ok (by kernel_rfl) (by kernel_rfl) ?_)
  refine run_ok 4000 _ _ _ _ ?_
  simp (maxSteps := 10000000) only [go_sem, c9, r9, hw, hj, wadd, hrem, hz, wk1, hle1, hkle, hkle2, hsub1, hsub2, hsub3, hsl, hfit, Nat.sub_zero, Nat.le_refl, sv_app, r0, hh, hin, Int.natCast_nonneg, sv_len, lkM, lkM2, lkB, pBox, List.cons_append, List.nil_append]
  refine ⟨by omega, ?_⟩
  generalize p.w1[k] = D at *
  simp only [pN, pN2] at hp
  refine sem_call rfl rfl (((hp).embed [0, 1, 2, 3, 4, 5, 6, 7, 8, 9, 10, 11, 12, 13, 14, 15, 16, 17, 18, 19, 20] rfl (by repeat' first | exact trivial | rfl | (simp only [go_sem]; done) | constructor) rfl (by first | rfl | simp only [go_sem]) rfl (by simp)).mono ?_)
  rintro _ _ ⟨v2, m2, ⟨h1, h2⟩, h3, h4⟩
  subst h3
  subst h4
  subst h1
  subst h2
  refine run_ok 4000 _ _ _ _ ?_
  simp (maxSteps := 10000000) only [go_sem, hw, hj, wadd, hrem, hz, wk1, hle1, hkle, hkle2, hsub1, hsub2, hsub3, hsl, hfit, Nat.sub_zero, Nat.le_refl, sv_app, r0, hh, hin, Int.natCast_nonneg, sv_len, lkM, lkM2, lkB, pBox, List.cons_append, List.nil_append]
  refine ⟨_, _, .sub [0, 1, 2, 3, 4, 5, 6, 7, 8, 9, 10, 11, 12, 13, 14, 15, 16, 17, 18, 19, 20, 22, 23, 24, 25, 26, 27, 28, 29, 30, 31] ?_ .done, rfl, rfl⟩
  simp only [EmbV, go_sem]
set_option maxHeartbeats 40000000 in
theorem pdo4_1 (p : PS) (who n at' : Int) (y : UInt8) (s : List UInt8) (hw : ibits .and .i64 who 1 = 1) (h0 : 0 < p.w1.length) (hlw : p.w1.length ≤ 1000) :
    Tri Try.prog 9 [.pbox 0 0, .agg [.int .i64 4, .int .i64 who, .int .i64 n, .int .i64 at', .int .u8 y.toNat, .str s]] (pN p) (fun v m => v = .bool true ∧ m = pN2 ({ p with w1 := delW p.w1 n })) := by
  refine Tri.post ?_
  obtain ⟨j, hj, hj2⟩ := and255 n
  have hix : ixW n p.w1.length = j % p.w1.length := by unfold ixW; rw [hj]; rfl
  unfold delW
  rw [hix]
  have hlt : j % p.w1.length < p.w1.length := Nat.mod_lt _ h0
  have wadd : iwrap .i64 ((j : Int) + (p.w1.length : Int)) = ((j + p.w1.length : Nat) : Int) := by rw [iwrap_i64_in (by omega)]; omega
  have hrem : ((j + p.w1.length : Nat) : Int).tmod (p.w1.length : Int) = ((j % p.w1.length : Nat) : Int) := by
    have h1 : (j + p.w1.length) % p.w1.length = j % p.w1.length := Nat.add_mod_right _ _
    rw [Int.tmod_eq_emod_of_nonneg (by omega), ← h1]
    exact (Int.natCast_emod _ _).symm
  have hg : p.w1.getD (j % p.w1.length) [] = p.w1[j % p.w1.length] := by rw [List.getD_eq_getElem?_getD, List.getElem?_eq_getElem hlt]; rfl
  have hz : ((p.w1.length : Int) == 0) = false := by simp; exact fun h => by simp [h] at h0
  generalize hk : j % p.w1.length = k at *
  have r0 := sv_rstr hlt
  have hh := sv_hasS hlt
  have hin : (k : Int) < (p.w1.length : Int) := by omega
  have wk1 := inc64 (show k < 1000000000000 by omega)
  have hle1 : ((k + 1 : Nat) : Int) ≤ (p.w1.length : Int) := by omega
  have hkle : (k : Int) ≤ (p.w1.length : Int) := by omega
  have hkle2 : k ≤ p.w1.length := by omega
  have hsub1 : sub (sv p.w1) 0 k = sv (p.w1.take k) := by rw [sub_sv2]; rfl
  have hsub2 : sub (sv p.w1) (k + 1) (p.w1.length - (k + 1)) = sv (p.w1.drop (k + 1)) := by rw [sub_sv2, List.take_of_length_le (by rw [List.length_drop]; exact Nat.le_refl _)]
  have hsl : (sv (p.w1.take k)).length = k := by rw [sv_len, List.length_take]; omega
  have hsub3 : sub (sv (p.w1.take k)) 0 k = sv (p.w1.take k) := by have := sub_sv (p.w1.take k); rwa [show (p.w1.take k).length = k by rw [List.length_take]; omega] at this
  have hdl : k + (p.w1.length - (k + 1)) = (p.w1.take k ++ p.w1.drop (k + 1)).length := by rw [List.length_append, List.length_take, List.length_drop]; omega
  have hfit : k + 1 + (p.w1.length - (k + 1)) ≤ p.w1.length := by omega
  skip
  refine (Tri.enter (rl := r9) (code := c9) (by kernel_rfl) Try.func9 rfl c9_ok (by kernel_rfl) (by kernel_rfl) ?_)
  refine run_ok 4000 _ _ _ _ ?_
  simp (maxSteps := 10000000) only [go_sem, c9, r9, hw, hj, wadd, hrem, hz, wk1, hle1, hkle, hkle2, hsub1, hsub2, hsub3, hsl, hfit, Nat.sub_zero, Nat.le_refl, sv_app, r0, hh, hin, Int.natCast_nonneg, sv_len, lkM, lkM2, lkB, pBox, List.cons_append, List.nil_append]
  refine ⟨by omega, ?_⟩
  refine sem_move 5 rfl ?_
  simp (maxSteps := 10000000) only [go_sem, hw, hj, wadd, hrem, hz, wk1, hle1, hkle, hkle2, hsub1, hsub2, hsub3, hsl, hfit, Nat.sub_zero, Nat.le_refl, sv_app, r0, hh, hin, Int.natCast_nonneg, sv_len, lkM, lkM2, lkB, pBox, List.cons_append, List.nil_append]
  refine sem_move 7 rfl ?_
  simp (maxSteps := 10000000) only [go_sem, hw, hj, wadd, hrem, hz, wk1, hle1, hkle, hkle2, hsub1, hsub2, hsub3, hsl, hfit, Nat.sub_zero, Nat.le_refl, sv_app, r0, hh, hin, Int.natCast_nonneg, sv_len, lkM, lkM2, lkB, pBox, List.cons_append, List.nil_append]
  refine sem_move 12 rfl ?_
  simp (maxSteps := 10000000) only [go_sem, hw, hj, wadd, hrem, hz, wk1, hle1, hkle, hkle2, hsub1, hsub2, hsub3, hsl, hfit, Nat.sub_zero, Nat.le_refl, sv_app, r0, hh, hin, Int.natCast_nonneg, sv_len, lkM, lkM2, lkB, pBox, List.cons_append, List.nil_append]
  refine sem_move 14 rfl ?_
  simp (maxSteps := 10000000) only [go_sem, hw, hj, wadd, hrem, hz, wk1, hle1, hkle, hkle2, hsub1, hsub2, hsub3, hsl, hfit, Nat.sub_zero, Nat.le_refl, sv_app, r0, hh, hin, Int.natCast_nonneg, sv_len, lkM, lkM2, lkB, pBox, List.cons_append, List.nil_append]
  refine sem_move 15 rfl ?_
  simp (maxSteps := 10000000) only [go_sem, hw, hj, wadd, hrem, hz, wk1, hle1, hkle, hkle2, hsub1, hsub2, hsub3, hsl, hfit, Nat.sub_zero, Nat.le_refl, sv_app, r0, hh, hin, Int.natCast_nonneg, sv_len, lkM, lkM2, lkB, pBox, List.cons_append, List.nil_append]
  refine sem_move 16 rfl ?_
  simp (maxSteps := 10000000) only [go_sem, hw, hj, wadd, hrem, hz, wk1, hle1, hkle, hkle2, hsub1, hsub2, hsub3, hsl, hfit, Nat.sub_zero, Nat.le_refl, sv_app, r0, hh, hin, Int.natCast_nonneg, sv_len, lkM, lkM2, lkB, pBox, List.cons_append, List.nil_append]
  refine sem_move 17 rfl ?_
  simp (maxSteps := 10000000) only [go_sem, hw, hj, wadd, hrem, hz, wk1, hle1, hkle, hkle2, hsub1, hsub2, hsub3, hsl, hfit, Nat.sub_zero, Nat.le_refl, sv_app, r0, hh, hin, Int.natCast_nonneg, sv_len, lkM, lkM2, lkB, pBox, List.cons_append, List.nil_append]
  refine sem_move 18 rfl ?_
  simp (maxSteps := 10000000) only [go_sem, hw, hj, wadd, hrem, hz, wk1, hle1, hkle, hkle2, hsub1, hsub2, hsub3, hsl, hfit, Nat.sub_zero, Nat.le_refl, sv_app, r0, hh, hin, Int.natCast_nonneg, sv_len, lkM, lkM2, lkB, pBox, List.cons_append, List.nil_append]
  refine sem_move 19 rfl ?_
  simp (maxSteps := 10000000) only [go_sem, hw, hj, wadd, hrem, hz, wk1, hle1, hkle, hkle2, hsub1, hsub2, hsub3, hsl, hfit, Nat.sub_zero, Nat.le_refl, sv_app, r0, hh, hin, Int.natCast_nonneg, sv_len, lkM, lkM2, lkB, pBox, List.cons_append, List.nil_append]
  refine sem_move 20 rfl ?_
  simp (maxSteps := 10000000) only [go_sem, hw, hj, wadd, hrem, hz, wk1, hle1, hkle, hkle2, hsub1, hsub2, hsub3, hsl, hfit, Nat.sub_zero, Nat.le_refl, sv_app, r0, hh, hin, Int.natCast_nonneg, sv_len, lkM, lkM2, lkB, pBox, List.cons_append, List.nil_append]
  refine sem_drawG l9_1_ok (by kernel_rfl) ?_
  intro KK hKK
  simp (maxSteps := 10000000) only [go_sem, l9_1, hw, hj, wadd, hrem, hz, wk1, hle1, hkle, hkle2, hsub1, hsub2, hsub3, hsl, hfit, Nat.sub_zero, Nat.le_refl, sv_app, r0, hh, hin, Int.natCast_nonneg, sv_len, lkM, lkM2, lkB, pBox, List.cons_append, List.nil_append]
  refine ⟨by unfold small; omega, by unfold small; omega, ?_⟩
  simp only [hdl]
  generalize p.w1.take k ++ p.w1.drop (k + 1) = W' at *
  subst hKK
  simp (maxSteps := 10000000) only [go_sem, hw, hj, wadd, hrem, hz, wk1, hle1, hkle, hkle2, hsub1, hsub2, hsub3, hsl, hfit, Nat.sub_zero, Nat.le_refl, sv_app, r0, hh, hin, Int.natCast_nonneg, sv_len, lkM, lkM2, lkB, pBox, List.cons_append, List.nil_append]
  refine ⟨_, _, .sub [0, 1, 2, 3, 4, 5, 6, 7, 8, 9, 10, 11, 12, 13, 14, 15, 16, 17, 18, 19, 20, 22, 23, 24, 25, 26, 33, 28, 29, 30, 31] ?_ .done, rfl, rfl⟩
  simp only [EmbV, go_sem]
set_option maxHeartbeats 40000000 in
theorem pdo6_1 (p : PS) (who n at' : Int) (y : UInt8) (s : List UInt8) (hw : ibits .and .i64 who 1 = 1) (h0 : 0 < p.w1.length) (hlw : p.w1.length ≤ 1000) (hne : 0 < (atW p.w1 n).length) (ok : LOk p.b) (hd : (bendD (atW p.w1 n) at' y).length ≤ 1000000) (hb : RB 0 p.b 0)
    (R : List (List UInt8)) (hR : p.s0 = p.c1 ++ (recvF p.b (bendD (atW p.w1 n) at' y)).2.1 ++ R) (hl : p.s0.length ≤ 100000) :
    Tri Try.prog 9 [.pbox 0 0, .agg [.int .i64 6, .int .i64 who, .int .i64 n, .int .i64 at', .int .u8 y.toNat, .str s]] (pN p) (fun v m => v = .bool true ∧ m = pN2 (recv1 { p with w1 := delW p.w1 n } (bendD (atW p.w1 n) at' y))) := by
  refine Tri.post ?_
  obtain ⟨j, hj, hj2⟩ := and255 n
  obtain ⟨j2, hj3, hj4⟩ := and255 at'
  have hp := prec1_spec { p with w1 := delW p.w1 n } (bendD (atW p.w1 n) at' y) ok hd hb R hR hl
  generalize hrr : recv1 { p with w1 := delW p.w1 n } (bendD (atW p.w1 n) at' y) = RR at *
  clear hrr hR
  have hix : ixW n p.w1.length = j % p.w1.length := by unfold ixW; rw [hj]; rfl
  unfold atW delW at hp
  unfold atW at hne hd
  rw [hix] at hp hne hd
  have hlt : j % p.w1.length < p.w1.length := Nat.mod_lt _ h0
  have wadd : iwrap .i64 ((j : Int) + (p.w1.length : Int)) = ((j + p.w1.length : Nat) : Int) := by rw [iwrap_i64_in (by omega)]; omega
  have hrem : ((j + p.w1.length : Nat) : Int).tmod (p.w1.length : Int) = ((j % p.w1.length : Nat) : Int) := by
    have h1 : (j + p.w1.length) % p.w1.length = j % p.w1.length := Nat.add_mod_right _ _
    rw [Int.tmod_eq_emod_of_nonneg (by omega), ← h1]
    exact (Int.natCast_emod _ _).symm
  have hg : p.w1.getD (j % p.w1.length) [] = p.w1[j % p.w1.length] := by rw [List.getD_eq_getElem?_getD, List.getElem?_eq_getElem hlt]; rfl
  rw [hg] at hp hne hd
  have hz : ((p.w1.length : Int) == 0) = false := by simp; exact fun h => by simp [h] at h0
  generalize hk : j % p.w1.length = k at *
  have r0 := sv_rstr hlt
  have hh := sv_hasS hlt
  have hin : (k : Int) < (p.w1.length : Int) := by omega
  have wk1 := inc64 (show k < 1000000000000 by omega)
  have hle1 : ((k + 1 : Nat) : Int) ≤ (p.w1.length : Int) := by omega
  have hkle : (k : Int) ≤ (p.w1.length : Int) := by omega
  have hkle2 : k ≤ p.w1.length := by omega
  have hsub1 : sub (sv p.w1) 0 k = sv (p.w1.take k) := by rw [sub_sv2]; rfl
  have hsub2 : sub (sv p.w1) (k + 1) (p.w1.length - (k + 1)) = sv (p.w1.drop (k + 1)) := by rw [sub_sv2, List.take_of_length_le (by rw [List.length_drop]; exact Nat.le_refl _)]
  have hsl : (sv (p.w1.take k)).length = k := by rw [sv_len, List.length_take]; omega
  have hsub3 : sub (sv (p.w1.take k)) 0 k = sv (p.w1.take k) := by have := sub_sv (p.w1.take k); rwa [show (p.w1.take k).length = k by rw [List.length_take]; omega] at this
  have hdl : k + (p.w1.length - (k + 1)) = (p.w1.take k ++ p.w1.drop (k + 1)).length := by rw [List.length_append, List.length_take, List.length_drop]; omega
  have hfit : k + 1 + (p.w1.length - (k + 1)) ≤ p.w1.length := by omega
  have hin0 : 0 ≤ (k : Int) := by omega
  generalize hD : p.w1[k] = D at *
  have hlt2 : j2 % D.length < D.length := Nat.mod_lt _ hne
  have hrem2 : (j2 : Int).tmod (D.length : Int) = ((j2 % D.length : Nat) : Int) := by
    rw [Int.tmod_eq_emod_of_nonneg (by omega)]
    exact (Int.natCast_emod _ _).symm
  have hDz : ¬ (D.length : Int) = 0 := by omega
  have hix2 : ixW at' D.length = j2 % D.length := by unfold ixW; rw [hj3]; rfl
  have hD1 : D.length ≤ 1000000 := by simpa [bendD] using hd
  unfold bendD at hp
  rw [hix2] at hp
  have hg2 : D.getD (j2 % D.length) 0 = D[j2 % D.length] := by rw [List.getD_eq_getElem?_getD, List.getElem?_eq_getElem hlt2]; rfl
  rw [hg2] at hp
  generalize hk2 : j2 % D.length = k2 at *
  have hin2 : (k2 : Int) < (D.length : Int) := by omega
  have b1 := bytes_rint hlt2
  have b2 := bytes_hasI hlt2
  have b3 := bytes_inR hlt2
  have e1 := bytes_rput hlt2 (D[k2] ^^^ y)
  have e2 : sub (AE.bytes (D.set k2 (D[k2] ^^^ y))) 0 D.length = AE.bytes (D.set k2 (D[k2] ^^^ y)) := by
    have := sub_bytes_all (D.set k2 (D[k2] ^^^ y)); rwa [List.length_set] at this
  have e3 := bytes_all (D.set k2 (D[k2] ^^^ y))
  have e4 := bytes_to (D.set k2 (D[k2] ^^^ y))
  have hDl : (D.set k2 (D[k2] ^^^ y)).length = D.length := List.length_set ..
  generalize D.set k2 (D[k2] ^^^ y) = D2 at *
  skip
  refine (Tri.enter (rl := r9) (code := c9) (by kernel_rfl) Try.func9 rfl c9_ok (by kernel_rfl) (by kernel_rfl) ?_)
  refine run_ok 4000 _ _ _ _ ?_
  simp (maxSteps := 10000000) only [go_sem, c9, r9, hj3, hrem2, hDz, hin2, b1, b2, b3, xor_u8, e1, e2, e3, e4, bytes_len, hw, hj, wadd, hrem, hz, wk1, hle1, hkle, hkle2, hsub1, hsub2, hsub3, hsl, hfit, Nat.sub_zero, Nat.le_refl, sv_app, r0, hh, hin, Int.natCast_nonneg, sv_len, lkM, lkM2, lkB, pBox, List.cons_append, List.nil_append]
  refine ⟨by omega, ?_⟩
  refine sem_drawG l9_1_ok (by kernel_rfl) ?_
  intro KK hKK
  simp (maxSteps := 10000000) only [go_sem, l9_1, hj3, hrem2, hDz, hin2, b1, b2, b3, xor_u8, e1, e2, e3, e4, bytes_len, hw, hj, wadd, hrem, hz, wk1, hle1, hkle, hkle2, hsub1, hsub2, hsub3, hsl, hfit, Nat.sub_zero, Nat.le_refl, sv_app, r0, hh, hin, Int.natCast_nonneg, sv_len, lkM, lkM2, lkB, pBox, List.cons_append, List.nil_append]
  refine ⟨by unfold small; omega, by unfold small; omega, ?_⟩
  simp only [hdl]
  generalize p.w1.take k ++ p.w1.drop (k + 1) = W' at *
  simp only [pN, pN2] at hp
  subst hKK
  simp (maxSteps := 10000000) only [go_sem, hj3, hrem2, hDz, hin2, b1, b2, b3, xor_u8, e1, e2, e3, e4, bytes_len, hw, hj, wadd, hrem, hz, wk1, hle1, hkle, hkle2, hsub1, hsub2, hsub3, hsl, hfit, Nat.sub_zero, Nat.le_refl, sv_app, r0, hh, hin, Int.natCast_nonneg, sv_len, lkM, lkM2, lkB, pBox, List.cons_append, List.nil_append]
  refine ⟨by unfold small; omega, ?_⟩
  refine sem_drawG l9_2_ok (by kernel_rfl) ?_
  intro KK hKK
  simp (maxSteps := 10000000) only [go_sem, l9_2, hj3, hrem2, hDz, hin2, b1, b2, b3, xor_u8, e1, e2, e3, e4, bytes_len, hw, hj, wadd, hrem, hz, wk1, hle1, hkle, hkle2, hsub1, hsub2, hsub3, hsl, hfit, Nat.sub_zero, Nat.le_refl, sv_app, r0, hh, hin, Int.natCast_nonneg, sv_len, lkM, lkM2, lkB, pBox, List.cons_append, List.nil_append]
  subst hKK
  simp (maxSteps := 10000000) only [go_sem, hj3, hrem2, hDz, hin2, b1, b2, b3, xor_u8, e1, e2, e3, e4, bytes_len, hw, hj, wadd, hrem, hz, wk1, hle1, hkle, hkle2, hsub1, hsub2, hsub3, hsl, hfit, Nat.sub_zero, Nat.le_refl, sv_app, r0, hh, hin, Int.natCast_nonneg, sv_len, lkM, lkM2, lkB, pBox, List.cons_append, List.nil_append]
  refine ⟨by omega, ?_⟩
  refine sem_call rfl rfl (((hp).embed [0, 1, 2, 3, 4, 5, 6, 7, 8, 9, 10, 11, 12, 13, 14, 15, 23, 17, 18, 19, 20] rfl (by repeat' first | exact trivial | rfl | (simp only [go_sem]; done) | constructor) rfl (by first | rfl | simp only [go_sem]) rfl (by simp)).mono ?_)
  rintro _ _ ⟨v2, m2, ⟨h1, h2⟩, h3, h4⟩
  subst h3
  subst h4
  subst h1
  subst h2
  refine run_ok 4000 _ _ _ _ ?_
  simp (maxSteps := 10000000) only [go_sem, hj3, hrem2, hDz, hin2, b1, b2, b3, xor_u8, e1, e2, e3, e4, bytes_len, hw, hj, wadd, hrem, hz, wk1, hle1, hkle, hkle2, hsub1, hsub2, hsub3, hsl, hfit, Nat.sub_zero, Nat.le_refl, sv_app, r0, hh, hin, Int.natCast_nonneg, sv_len, lkM, lkM2, lkB, pBox, List.cons_append, List.nil_append]
  refine ⟨_, _, .sub [0, 1, 2, 3, 4, 5, 6, 7, 8, 9, 10, 11, 12, 13, 14, 15, 16, 17, 18, 19, 20, 25, 26, 27, 28, 29, 30, 31, 32, 33, 34] ?_ .done, rfl, rfl⟩
  simp only [EmbV, go_sem]
set_option maxHeartbeats 40000000 in
theorem pdo7_1 (p : PS) (who n at' : Int) (y : UInt8) (s : List UInt8) (hw : ibits .and .i64 who 1 = 1) (h0 : (refP (s.take 60)).2 ≠ 0) (ok : LOk p.b) (hd : (s.take 60).length ≤ 1000000) (hb : RB 0 p.b 0)
    (R : List (List UInt8)) (hR : p.s0 = p.c1 ++ (recvF p.b (s.take 60)).2.1 ++ R) (hl : p.s0.length ≤ 100000) :
    Tri Try.prog 9 [.pbox 0 0, .agg [.int .i64 7, .int .i64 who, .int .i64 n, .int .i64 at', .int .u8 y.toNat, .str s]] (pN p) (fun v m => v = .bool true ∧ m = pN2 (recv1 p (s.take 60))) := by
  refine Tri.post ?_
  have hcut := cut_spec s 60 (by omega)
  have ht : (s.take (60 : Int).toNat).length ≤ 60 := by rw [List.length_take]; omega
  have e5 : (60 : Int).toNat = 60 := rfl
  rw [e5] at hcut ht
  have hrp := rparse_spec (s.take 60) (by omega)
  have hp := prec1_spec p (s.take 60) ok hd hb R hR hl
  generalize recv1 p (s.take 60) = RR at *
  generalize s.take 60 = T at *
  generalize refP T = F at *
  have h00 : (F.2 == 0) = false := by simpa using h0
  simp only [pN, pN2] at hp
  skip
  refine (Tri.enter (rl := r9) (code := c9) (by kernel_rfl) Try.func9 rfl c9_ok (by kernel_rfl) (by kernel_rfl) ?_)
  refine run_ok 4000 _ _ _ _ ?_
  simp (maxSteps := 10000000) only [go_sem, c9, r9, hw, h00, List.cons_append, List.nil_append]
  refine sem_call rfl rfl (((hcut).embed [] rfl trivial rfl rfl rfl (by simp)).mono ?_)
  rintro _ _ ⟨_, _, ⟨rfl, rfl⟩, rfl, rfl⟩
  refine run_ok 4000 _ _ _ _ ?_
  simp (maxSteps := 10000000) only [go_sem, hw, h00, List.cons_append, List.nil_append]
  refine sem_call rfl rfl (((hrp).embed [] rfl trivial rfl rfl rfl (by simp)).mono ?_)
  rintro _ _ ⟨_, _, ⟨rfl, rfl⟩, rfl, rfl⟩
  refine run_ok 4000 _ _ _ _ ?_
  simp (maxSteps := 10000000) only [go_sem, hw, h00, List.cons_append, List.nil_append]
  refine sem_call rfl rfl (((hp).embed [0, 1, 2, 3, 4, 5, 6, 7, 8, 9, 10, 11, 12, 13, 14, 15, 16, 17, 18, 19, 20] rfl (by repeat' first | exact trivial | rfl | (simp only [go_sem]; done) | constructor) rfl (by first | rfl | simp only [go_sem]) rfl (by simp)).mono ?_)
  rintro _ _ ⟨v2, m2, ⟨h1, h2⟩, h3, h4⟩
  subst h3
  subst h4
  subst h1
  subst h2
  refine run_ok 4000 _ _ _ _ ?_
  simp (maxSteps := 10000000) only [go_sem, hw, h00, List.cons_append, List.nil_append]
  refine ⟨_, _, .sub [0, 1, 2, 3, 4, 5, 6, 7, 8, 9, 10, 11, 12, 13, 14, 15, 16, 17, 18, 19, 20, 23, 24, 25, 26, 27, 28, 29, 30, 31, 32] ?_ .done, rfl, rfl⟩
  simp only [EmbV, go_sem]
set_option maxHeartbeats 40000000 in
theorem pdo7n_1 (p : PS) (who n at' : Int) (y : UInt8) (s : List UInt8) (hw : ibits .and .i64 who 1 = 1) (h0 : (refP (s.take 60)).2 = 0) :
    Tri Try.prog 9 [.pbox 0 0, .agg [.int .i64 7, .int .i64 who, .int .i64 n, .int .i64 at', .int .u8 y.toNat, .str s]] (pN p) (fun v m => v = .bool true ∧ m = pN2 (p)) := by
  refine Tri.post ?_
  have hcut := cut_spec s 60 (by omega)
  have ht : (s.take (60 : Int).toNat).length ≤ 60 := by rw [List.length_take]; omega
  have e5 : (60 : Int).toNat = 60 := rfl
  rw [e5] at hcut ht
  have hrp := rparse_spec (s.take 60) (by omega)
  generalize s.take 60 = T at *
  rw [h0] at hrp
  generalize refP T = F at *
  have h00 : ((0 : Int) == 0) = true := rfl
  skip
  refine (Tri.enter (rl := r9) (code := c9) (by kernel_rfl) Try.func9 rfl c9_ok (by kernel_rfl) (by kernel_rfl) ?_)
  refine run_ok 4000 _ _ _ _ ?_
  simp (maxSteps := 10000000) only [go_sem, c9, r9, hw, h00, List.cons_append, List.nil_append]
  refine sem_move 5 rfl ?_
  simp (maxSteps := 10000000) only [go_sem, hw, h00, List.cons_append, List.nil_append]
  refine sem_move 7 rfl ?_
  simp (maxSteps := 10000000) only [go_sem, hw, h00, List.cons_append, List.nil_append]
  refine sem_move 12 rfl ?_
  simp (maxSteps := 10000000) only [go_sem, hw, h00, List.cons_append, List.nil_append]
  refine sem_move 14 rfl ?_
  simp (maxSteps := 10000000) only [go_sem, hw, h00, List.cons_append, List.nil_append]
  refine sem_move 15 rfl ?_
  simp (maxSteps := 10000000) only [go_sem, hw, h00, List.cons_append, List.nil_append]
  refine sem_move 16 rfl ?_
  simp (maxSteps := 10000000) only [go_sem, hw, h00, List.cons_append, List.nil_append]
  refine sem_move 17 rfl ?_
  simp (maxSteps := 10000000) only [go_sem, hw, h00, List.cons_append, List.nil_append]
  refine sem_move 18 rfl ?_
  simp (maxSteps := 10000000) only [go_sem, hw, h00, List.cons_append, List.nil_append]
  refine sem_move 19 rfl ?_
  simp (maxSteps := 10000000) only [go_sem, hw, h00, List.cons_append, List.nil_append]
  refine sem_move 20 rfl ?_
  simp (maxSteps := 10000000) only [go_sem, hw, h00, List.cons_append, List.nil_append]
  refine sem_call rfl rfl (((hcut).embed [] rfl trivial rfl rfl rfl (by simp)).mono ?_)
  rintro _ _ ⟨_, _, ⟨rfl, rfl⟩, rfl, rfl⟩
  refine run_ok 4000 _ _ _ _ ?_
  simp (maxSteps := 10000000) only [go_sem, hw, h00, List.cons_append, List.nil_append]
  refine sem_call rfl rfl (((hrp).embed [] rfl trivial rfl rfl rfl (by simp)).mono ?_)
  rintro _ _ ⟨_, _, ⟨rfl, rfl⟩, rfl, rfl⟩
  refine run_ok 4000 _ _ _ _ ?_
  simp (maxSteps := 10000000) only [go_sem, hw, h00, List.cons_append, List.nil_append]
  refine ⟨_, _, .sub [0, 1, 2, 3, 4, 5, 6, 7, 8, 9, 10, 11, 12, 13, 14, 15, 16, 17, 18, 19, 20, 22, 23, 24, 25, 26, 27, 28, 29, 30, 31] ?_ .done, rfl, rfl⟩
  simp only [EmbV, go_sem]
set_option maxHeartbeats 40000000 in
theorem pdo2_1 (p : PS) (who n at' : Int) (y : UInt8) (s : List UInt8) (hw : ibits .and .i64 who 1 = 1) (oka : LOk p.a) (okb : LOk p.b) (hnow : 0 ≤ p.now ∧ p.now ≤ 1000000) :
    Tri Try.prog 9 [.pbox 0 0, .agg [.int .i64 2, .int .i64 who, .int .i64 n, .int .i64 at', .int .u8 y.toNat, .str s]] (pN p) (fun v m => v = .bool true ∧ m = pN2 (pollP p)) := by
  refine Tri.post ?_
  have hp := ppoll_spec p oka okb hnow
  generalize pollP p = RR at *
  simp only [pN, pN2] at hp
  skip
  refine (Tri.enter (rl := r9) (code := c9) (by kernel_rfl) Try.func9 rfl c9_ok (by kernel_rfl) (by kernel_rfl) ?_)
  refine run_ok 4000 _ _ _ _ ?_
  simp (maxSteps := 10000000) only [go_sem, c9, r9, hw, List.cons_append, List.nil_append]
  refine sem_call rfl rfl (((hp).embed [0, 1, 2, 3, 4, 5, 6, 7, 8, 9, 10, 11, 12, 13, 14, 15, 16, 17, 18, 19, 20] rfl (by repeat' first | exact trivial | rfl | (simp only [go_sem]; done) | constructor) rfl (by first | rfl | simp only [go_sem]) rfl (by simp)).mono ?_)
  rintro _ _ ⟨v2, m2, ⟨h1, h2⟩, h3, h4⟩
  subst h3
  subst h4
  subst h1
  subst h2
  refine run_ok 4000 _ _ _ _ ?_
  simp (maxSteps := 10000000) only [go_sem, hw, List.cons_append, List.nil_append]
  refine ⟨_, _, .sub [0, 1, 2, 3, 4, 5, 6, 7, 8, 9, 10, 11, 12, 13, 14, 15, 16, 17, 18, 19, 20, 22, 23, 24, 25, 26, 27, 28, 29, 30, 31] ?_ .done, rfl, rfl⟩
  simp only [EmbV, go_sem]
set_option maxHeartbeats 40000000 in
theorem pdoL_1 (p : PS) (kind who n at' : Int) (y : UInt8) (s : List UInt8) (hw : ibits .and .i64 who 1 = 1) (hk : kind ≠ 1 ∧ kind ≠ 2 ∧ kind < 3) :
    Tri Try.prog 9 [.pbox 0 0, .agg [.int .i64 kind, .int .i64 who, .int .i64 n, .int .i64 at', .int .u8 y.toNat, .str s]] (pN p) (fun v m => v = .bool true ∧ m = pN2 (p)) := by
  refine Tri.post ?_
  have k1 : (kind == 1) = false := by simp; omega
  have k2 : (kind == 2) = false := by simp; omega
  have k7 : (kind == 7) = false := by simp; omega
  have c1 : kind < 3 := hk.2.2
  skip
  refine (Tri.enter (rl := r9) (code := c9) (by kernel_rfl) Try.func9 rfl c9_ok (by kernel_rfl) (by kernel_rfl) ?_)
  refine sem_move 5 rfl ?_
  simp (maxSteps := 10000000) only [go_sem, hw, k1, k2, k7, c1, List.cons_append, List.nil_append]
  refine sem_move 7 rfl ?_
  simp (maxSteps := 10000000) only [go_sem, hw, k1, k2, k7, c1, List.cons_append, List.nil_append]
  refine sem_move 12 rfl ?_
  simp (maxSteps := 10000000) only [go_sem, hw, k1, k2, k7, c1, List.cons_append, List.nil_append]
  refine sem_move 14 rfl ?_
  simp (maxSteps := 10000000) only [go_sem, hw, k1, k2, k7, c1, List.cons_append, List.nil_append]
  refine sem_move 15 rfl ?_
  simp (maxSteps := 10000000) only [go_sem, hw, k1, k2, k7, c1, List.cons_append, List.nil_append]
  refine sem_move 16 rfl ?_
  simp (maxSteps := 10000000) only [go_sem, hw, k1, k2, k7, c1, List.cons_append, List.nil_append]
  refine sem_move 17 rfl ?_
  simp (maxSteps := 10000000) only [go_sem, hw, k1, k2, k7, c1, List.cons_append, List.nil_append]
  refine sem_move 18 rfl ?_
  simp (maxSteps := 10000000) only [go_sem, hw, k1, k2, k7, c1, List.cons_append, List.nil_append]
  refine sem_move 19 rfl ?_
  simp (maxSteps := 10000000) only [go_sem, hw, k1, k2, k7, c1, List.cons_append, List.nil_append]
  refine sem_move 20 rfl ?_
  simp (maxSteps := 10000000) only [go_sem, hw, k1, k2, k7, c1, List.cons_append, List.nil_append]
  refine run_ok 4000 _ _ _ _ ?_
  simp (maxSteps := 10000000) only [go_sem, c9, r9, hw, k1, k2, k7, c1, List.cons_append, List.nil_append]
  refine ⟨_, _, .sub [0, 1, 2, 3, 4, 5, 6, 7, 8, 9, 10, 11, 12, 13, 14, 15, 16, 17, 18, 19, 20, 21, 22, 23, 24, 25, 26, 27, 28, 29, 30] ?_ .done, rfl, rfl⟩
  simp only [EmbV, go_sem]
set_option maxHeartbeats 40000000 in
theorem pdoH_1 (p : PS) (kind who n at' : Int) (y : UInt8) (s : List UInt8) (hw : ibits .and .i64 who 1 = 1) (hk : kind ≠ 7 ∧ 6 < kind) :
    Tri Try.prog 9 [.pbox 0 0, .agg [.int .i64 kind, .int .i64 who, .int .i64 n, .int .i64 at', .int .u8 y.toNat, .str s]] (pN p) (fun v m => v = .bool true ∧ m = pN2 (p)) := by
  refine Tri.post ?_
  have k1 : (kind == 1) = false := by simp; omega
  have k2 : (kind == 2) = false := by simp; omega
  have k7 : (kind == 7) = false := by simp; omega
  have c1 : ¬ kind < 3 := by omega
  have c2 : kind > 6 := hk.2
  skip
  refine (Tri.enter (rl := r9) (code := c9) (by kernel_rfl) Try.func9 rfl c9_ok (by kernel_rfl) (by kernel_rfl) ?_)
  refine sem_move 5 rfl ?_
  simp (maxSteps := 10000000) only [go_sem, hw, k1, k2, k7, c1, c2, List.cons_append, List.nil_append]
  refine sem_move 7 rfl ?_
  simp (maxSteps := 10000000) only [go_sem, hw, k1, k2, k7, c1, c2, List.cons_append, List.nil_append]
  refine sem_move 12 rfl ?_
  simp (maxSteps := 10000000) only [go_sem, hw, k1, k2, k7, c1, c2, List.cons_append, List.nil_append]
  refine sem_move 14 rfl ?_
  simp (maxSteps := 10000000) only [go_sem, hw, k1, k2, k7, c1, c2, List.cons_append, List.nil_append]
  refine sem_move 15 rfl ?_
  simp (maxSteps := 10000000) only [go_sem, hw, k1, k2, k7, c1, c2, List.cons_append, List.nil_append]
  refine sem_move 16 rfl ?_
  simp (maxSteps := 10000000) only [go_sem, hw, k1, k2, k7, c1, c2, List.cons_append, List.nil_append]
  refine sem_move 17 rfl ?_
  simp (maxSteps := 10000000) only [go_sem, hw, k1, k2, k7, c1, c2, List.cons_append, List.nil_append]
  refine sem_move 18 rfl ?_
  simp (maxSteps := 10000000) only [go_sem, hw, k1, k2, k7, c1, c2, List.cons_append, List.nil_append]
  refine sem_move 19 rfl ?_
  simp (maxSteps := 10000000) only [go_sem, hw, k1, k2, k7, c1, c2, List.cons_append, List.nil_append]
  refine sem_move 20 rfl ?_
  simp (maxSteps := 10000000) only [go_sem, hw, k1, k2, k7, c1, c2, List.cons_append, List.nil_append]
  refine run_ok 4000 _ _ _ _ ?_
  simp (maxSteps := 10000000) only [go_sem, c9, r9, hw, k1, k2, k7, c1, c2, List.cons_append, List.nil_append]
  refine ⟨_, _, .sub [0, 1, 2, 3, 4, 5, 6, 7, 8, 9, 10, 11, 12, 13, 14, 15, 16, 17, 18, 19, 20, 21, 22, 23, 24, 25, 26, 27, 28, 29, 30] ?_ .done, rfl, rfl⟩
  simp only [EmbV, go_sem]
set_option maxHeartbeats 40000000 in
theorem pdoE_1 (p : PS) (kind who n at' : Int) (y : UInt8) (s : List UInt8) (hw : ibits .and .i64 who 1 = 1) (hk : 3 ≤ kind ∧ kind ≤ 6) (h0 : p.w1.length = 0) :
    Tri Try.prog 9 [.pbox 0 0, .agg [.int .i64 kind, .int .i64 who, .int .i64 n, .int .i64 at', .int .u8 y.toNat, .str s]] (pN p) (fun v m => v = .bool true ∧ m = pN2 (p)) := by
  refine Tri.post ?_
  have k1 : (kind == 1) = false := by simp; omega
  have k2 : (kind == 2) = false := by simp; omega
  have k7 : (kind == 7) = false := by simp; omega
  have c1 : ¬ kind < 3 := by omega
  have c2 : ¬ kind > 6 := by omega
  have c3 : ((p.w1.length : Int) == 0) = true := by simp; exact List.length_eq_zero_iff.1 h0
  skip
  refine (Tri.enter (rl := r9) (code := c9) (by kernel_rfl) Try.func9 rfl c9_ok (by kernel_rfl) (by kernel_rfl) ?_)
  refine sem_move 5 rfl ?_
  simp (maxSteps := 10000000) only [go_sem, hw, k1, k2, k7, c1, c2, c3, List.cons_append, List.nil_append]
  refine sem_move 7 rfl ?_
  simp (maxSteps := 10000000) only [go_sem, hw, k1, k2, k7, c1, c2, c3, List.cons_append, List.nil_append]
  refine sem_move 12 rfl ?_
  simp (maxSteps := 10000000) only [go_sem, hw, k1, k2, k7, c1, c2, c3, List.cons_append, List.nil_append]
  refine sem_move 14 rfl ?_
  simp (maxSteps := 10000000) only [go_sem, hw, k1, k2, k7, c1, c2, c3, List.cons_append, List.nil_append]
  refine sem_move 15 rfl ?_
  simp (maxSteps := 10000000) only [go_sem, hw, k1, k2, k7, c1, c2, c3, List.cons_append, List.nil_append]
  refine sem_move 16 rfl ?_
  simp (maxSteps := 10000000) only [go_sem, hw, k1, k2, k7, c1, c2, c3, List.cons_append, List.nil_append]
  refine sem_move 17 rfl ?_
  simp (maxSteps := 10000000) only [go_sem, hw, k1, k2, k7, c1, c2, c3, List.cons_append, List.nil_append]
  refine sem_move 18 rfl ?_
  simp (maxSteps := 10000000) only [go_sem, hw, k1, k2, k7, c1, c2, c3, List.cons_append, List.nil_append]
  refine sem_move 19 rfl ?_
  simp (maxSteps := 10000000) only [go_sem, hw, k1, k2, k7, c1, c2, c3, List.cons_append, List.nil_append]
  refine sem_move 20 rfl ?_
  simp (maxSteps := 10000000) only [go_sem, hw, k1, k2, k7, c1, c2, c3, List.cons_append, List.nil_append]
  refine run_ok 4000 _ _ _ _ ?_
  simp (maxSteps := 10000000) only [go_sem, c9, r9, hw, k1, k2, k7, c1, c2, c3, List.cons_append, List.nil_append]
  refine ⟨_, _, .sub [0, 1, 2, 3, 4, 5, 6, 7, 8, 9, 10, 11, 12, 13, 14, 15, 16, 17, 18, 19, 20, 21, 22, 23, 24, 25, 26, 27, 28, 29, 30] ?_ .done, rfl, rfl⟩
  simp only [EmbV, go_sem]
end Go.AEX
