/- Seat rT: records: Text, Parse, Roster, Check. -/
import Derived.Test.YtpbmlaolpfaicaaTDec
namespace Go.AEX
open Go Go.AE Go.Proofs
set_option maxRecDepth 100000
set_option linter.unusedVariables false
set_option linter.unusedSimpArgs false

theorem rtext_spec (turn : Int) (C : List Chg) (t d : Int) (Q : List Ply) (h : RecOk turn C t d Q) :
    Tri Try.prog 37 [recV turn C t d Q] [] (fun v m => v = .str (recB turn C t d Q) ∧ m = []) := by
  refine Tri.post ?_
  have hp := rput_spec turn C t d Q h [] (by simp)
  rw [List.nil_append] at hp
  have ht := otext_spec (recB turn C t d Q)
  unfold recV outM outM2 at *
  simp only [AE.bytes, List.map_nil, List.length_nil] at hp
  refine (Tri.enter (rl := r37) (code := c37) (by kernel_rfl) Try.func37 rfl c37_ok (by kernel_rfl) (by kernel_rfl) ?_)
  refine run_ok 4000 _ _ _ _ ?_
  simp (maxSteps := 10000000) only [go_sem, c37, r37]
  refine sem_nilbox 1 0 1 rfl rfl ?_
  simp (maxSteps := 10000000) only [go_sem]
  refine sem_call rfl rfl (((hp).embed [1, 2] rfl (by repeat' first | exact trivial | rfl | (simp only [go_sem]; done) | constructor) rfl (by first | rfl | simp only [go_sem]) rfl (by simp)).mono ?_)
  rintro _ _ ⟨_, _, ⟨rfl, rfl⟩, rfl, rfl⟩
  refine run_ok 4000 _ _ _ _ ?_
  simp (maxSteps := 10000000) only [go_sem]
  refine sem_call rfl rfl (((ht).embed [1, 3] rfl (by repeat' first | exact trivial | rfl | (simp only [go_sem]; done) | constructor) rfl (by first | rfl | simp only [go_sem]) rfl (by simp)).mono ?_)
  rintro _ _ ⟨_, _, ⟨rfl, rfl⟩, rfl, rfl⟩
  refine run_ok 4000 _ _ _ _ ?_
  simp (maxSteps := 10000000) only [go_sem]
  refine ⟨_, _, .sub [] ?_ .done, rfl, rfl⟩
  simp only [EmbV, go_sem]
theorem parse_spec (turn : Int) (C : List Chg) (t d : Int) (Q : List Ply) (h : RecOk turn C t d Q) :
    Tri Try.prog 36 [.str (recB turn C t d Q)] [] (fun v m => v = .tup [recV turn C t d Q, .int .i64 0] ∧ m = []) := by
  refine Tri.post ?_
  have ho := open_spec (recB turn C t d Q)
  have hr := recread_spec turn C t d Q h []
  rw [List.append_nil] at hr
  have he := iend0_spec
  unfold recV inM at *
  refine (Tri.enter (rl := r36) (code := c36) (by kernel_rfl) Try.func36 rfl c36_ok (by kernel_rfl) (by kernel_rfl) ?_)
  refine run_ok 4000 _ _ _ _ ?_
  simp (maxSteps := 10000000) only [go_sem, c36, r36]
  refine sem_call rfl rfl (((ho).embed [] rfl trivial rfl rfl rfl (by simp)).mono ?_)
  rintro _ _ ⟨_, _, ⟨rfl, rfl⟩, rfl, rfl⟩
  refine run_ok 4000 _ _ _ _ ?_
  simp (maxSteps := 10000000) only [go_sem]
  refine sem_call rfl rfl (((hr).embed [1] rfl (by repeat' first | exact trivial | rfl | (simp only [go_sem]; done) | constructor) rfl (by first | rfl | simp only [go_sem]) rfl (by simp)).mono ?_)
  rintro _ _ ⟨_, _, ⟨rfl, rfl⟩, rfl, rfl⟩
  refine run_ok 4000 _ _ _ _ ?_
  simp (maxSteps := 10000000) only [go_sem]
  refine sem_call rfl rfl (((he).embed [1] rfl (by repeat' first | exact trivial | rfl | (simp only [go_sem]; done) | constructor) rfl (by first | rfl | simp only [go_sem]) rfl (by simp)).mono ?_)
  rintro _ _ ⟨_, _, ⟨rfl, rfl⟩, rfl, rfl⟩
  refine run_ok 4000 _ _ _ _ ?_
  simp (maxSteps := 10000000) only [go_sem]
  refine ⟨_, _, .sub [] ?_ .done, rfl, rfl⟩
  simp only [EmbV, go_sem]
theorem recros_spec (turn : Int) (C : List Chg) (t d : Int) (Q : List Ply) (hl : C.length ≤ 8) (hv : ∀ c ∈ C, c.2.2.length ≤ 1000) (S : Nat) (hS : S < 4294967296) (ep : Int) (he : 0 ≤ ep ∧ ep ≤ 1000000) :
    Tri Try.prog 35 [recV turn C t d Q, ros S ep] [] (fun v m => v = withR S ep C ∧ m = []) := by
  refine Tri.post ?_
  have hw := rwith_spec S hS ep he C false (by omega) hv
  have g1 : ¬ (C.length : Int) > 8 := by omega
  unfold recV withR at *
  cases hF : (withF S ep C).1 with
  | none =>
    rw [hF] at hw
    skip
    refine (Tri.enter (rl := r35) (code := c35) (by kernel_rfl) Try.func35 rfl c35_ok (by kernel_rfl) (by kernel_rfl) ?_)
    refine run_ok 4000 _ _ _ _ ?_
    simp (maxSteps := 10000000) only [go_sem, c35, r35, g1, crows_len]
    refine sem_call rfl rfl (((hw).embed [] rfl trivial rfl rfl rfl (by simp)).mono ?_)
    rintro _ _ ⟨_, _, ⟨rfl, rfl⟩, rfl, rfl⟩
    refine run_ok 4000 _ _ _ _ ?_
    simp (maxSteps := 10000000) only [go_sem, g1, crows_len]
    refine ⟨_, _, .sub [] ?_ .done, rfl, rfl⟩
    simp only [EmbV, go_sem]
  | some x =>
    rw [hF] at hw
    skip
    refine (Tri.enter (rl := r35) (code := c35) (by kernel_rfl) Try.func35 rfl c35_ok (by kernel_rfl) (by kernel_rfl) ?_)
    refine run_ok 4000 _ _ _ _ ?_
    simp (maxSteps := 10000000) only [go_sem, c35, r35, g1, crows_len]
    refine sem_call rfl rfl (((hw).embed [] rfl trivial rfl rfl rfl (by simp)).mono ?_)
    rintro _ _ ⟨_, _, ⟨rfl, rfl⟩, rfl, rfl⟩
    refine run_ok 4000 _ _ _ _ ?_
    simp (maxSteps := 10000000) only [go_sem, g1, crows_len]
    refine ⟨_, _, .sub [] ?_ .done, rfl, rfl⟩
    simp only [EmbV, go_sem]
theorem eql_spec (l : List Int) (hl : l.length ≤ 100000) (t1 t2 : Bool) : Tri Try.prog 76 [.vsl 1 (iv .i64 l) t1, .vsl 1 (iv .i64 l) t2] [] (fun v m => v = .bool true ∧ m = []) := by
  refine Tri.post ?_
  skip
  refine (Tri.enter (rl := r76) (code := c76) (by kernel_rfl) Try.func76 rfl c76_ok (by kernel_rfl) (by kernel_rfl) ?_)
  refine run_ok 4000 _ _ _ _ ?_
  simp (maxSteps := 10000000) only [go_sem, c76, r76, iv_len, beq_self_eq_true]
  refine sem_rounds (fun i : Nat => i ≤ l.length) (fun i => [(0, .vsl 1 (iv .i64 l) t1), (1, .vsl 1 (iv .i64 l) t2), (12, .int .i64 l.length), (13, .int .i64 (i : Nat))])
    (fun i => []) (fun i => l.length - i) 0 [] (Nat.zero_le _) ?_ ?_
  · simp [Emb, go_sem]
  intro i hi
  by_cases c : i < l.length
  · have hin : (i : Int) < (l.length : Int) := by omega
    have w1 := inc64 (show i < 1000000000000 by omega)
    have r0 := iv_rint (k := .i64) c
    have h0 := iv_hasI (k := .i64) c
    generalize l[i] = x at *
    skip
    refine run_ok 4000 _ _ _ _ ?_
    simp (maxSteps := 10000000) only [go_sem, hin, w1, r0, h0, iv_len, Int.natCast_nonneg, beq_self_eq_true]
    refine sem_drawG l76_0_ok (by kernel_rfl) ?_
    intro KK hKK
    simp (maxSteps := 10000000) only [go_sem, l76_0, hin, w1, r0, h0, iv_len, Int.natCast_nonneg, beq_self_eq_true]
    subst hKK
    simp (maxSteps := 10000000) only [go_sem, hin, w1, r0, h0, iv_len, Int.natCast_nonneg, beq_self_eq_true]
    refine ⟨i + 1, by omega, c, [], ?_⟩
    simp only [Emb, go_sem]
  · have hin : ¬ (i : Int) < (l.length : Int) := by omega
    skip
    refine run_ok 4000 _ _ _ _ ?_
    simp (maxSteps := 10000000) only [go_sem, hin]
    refine run_ok 4000 _ _ _ _ ?_
    simp (maxSteps := 10000000) only [go_sem, hin]
    refine ⟨_, _, .sub [] ?_ .done, rfl, rfl⟩
    simp only [EmbV, go_sem]
structure PlysOk (Q : List Ply) : Prop where
  l : Q.length ≤ 32
  ok : ∀ x ∈ Q, PlyOk x
  up : ∀ i (h : i + 1 < Q.length), Q[i].1 < Q[i + 1].1
theorem wcheck_spec (Q : List Ply) (h : PlysOk Q) : Tri Try.prog 77 [.vsl 2 (pros Q) false] [] (fun v m => v = .int .i64 0 ∧ m = []) := by
  refine Tri.post ?_
  have hql := h.l; have hqh := h.ok; have hqu := h.up
  skip
  refine (Tri.enter (rl := r77) (code := c77) (by kernel_rfl) Try.func77 rfl c77_ok (by kernel_rfl) (by kernel_rfl) ?_)
  refine run_ok 4000 _ _ _ _ ?_
  simp (maxSteps := 10000000) only [go_sem, c77, r77, pros_len]
  refine sem_rounds (fun i : Nat => i ≤ Q.length) (fun i => [(0, .vsl 2 (pros Q) false), (6, .vsl 2 (pros Q) false), (7, .int .i64 Q.length), (8, .int .i64 (i : Nat))])
    (fun i => []) (fun i => Q.length - i) 0 [] (Nat.zero_le _) ?_ ?_
  · simp [Emb, go_sem]
  intro i hi
  by_cases c : i < Q.length
  · have hin : (i : Int) < (Q.length : Int) := by omega
    have w1 := inc64 (show i < 1000000000000 by omega)
    have r0 := pros_r0 c; have r1 := pros_r1 c
    have h0 := pros_h0 c; have h1 := pros_h1 c
    have hok := hqh _ (List.getElem_mem c)
    have hp := hok.p; have hl := hok.l; have ho := hok.o
    have hb := bcheck_spec Q[i].2 hl ho
    have g1 : ¬ Q[i].1 < 0 := by omega
    have g2 : ¬ Q[i].1 ≥ 32 := by omega
    by_cases ci : i = 0
    · subst ci
      have g3 : ¬ (0 : Int) > 0 := by omega
      have hin : (0 : Int) < (Q.length : Int) := by omega
      skip
      refine run_ok 4000 _ _ _ _ ?_
      simp (maxSteps := 10000000) only [go_sem, hin, w1, r0, r1, h0, h1, g1, g2, g3, pros_len, Int.natCast_nonneg]
      refine sem_drawG l77_0_ok (by kernel_rfl) ?_
      intro KK hKK
      simp (maxSteps := 10000000) only [go_sem, l77_0, hin, w1, r0, r1, h0, h1, g1, g2, g3, pros_len, Int.natCast_nonneg]
      subst hKK
      simp (maxSteps := 10000000) only [go_sem, hin, w1, r0, r1, h0, h1, g1, g2, g3, pros_len, Int.natCast_nonneg]
      refine sem_call rfl rfl (((hb).embed [] rfl trivial rfl rfl rfl (by simp)).mono ?_)
      rintro _ _ ⟨_, _, ⟨rfl, rfl⟩, rfl, rfl⟩
      refine run_ok 4000 _ _ _ _ ?_
      simp (maxSteps := 10000000) only [go_sem, hin, w1, r0, r1, h0, h1, g1, g2, g3, pros_len, Int.natCast_nonneg]
      refine ⟨0 + 1, by omega, c, [], ?_⟩
      simp only [Emb, go_sem, show iwrap .i64 (1 : Int) = 1 by decide]
    · have c' : i - 1 < Q.length := by omega
      have g3 : (i : Int) > 0 := by omega
      have w2 : iwrap .i64 ((i : Int) - 1) = ((i - 1 : Nat) : Int) := by rw [iwrap_i64_in (by omega)]; omega
      have q0 := pros_r0 c'
      have k0 := pros_h0 c'
      have hlt := hqu (i - 1) (by omega)
      simp only [show i - 1 + 1 = i by omega] at hlt
      have hin2 : ((i - 1 : Nat) : Int) < (Q.length : Int) := by omega
      have g4 : ¬ Q[i - 1].1 ≥ Q[i].1 := by omega
      skip
      refine run_ok 4000 _ _ _ _ ?_
      simp (maxSteps := 10000000) only [go_sem, hin, w1, w2, r0, r1, h0, h1, q0, k0, g1, g2, g3, g4, hin2, pros_len, Int.natCast_nonneg]
      refine sem_drawG l77_0_ok (by kernel_rfl) ?_
      intro KK hKK
      simp (maxSteps := 10000000) only [go_sem, l77_0, hin, w1, w2, r0, r1, h0, h1, q0, k0, g1, g2, g3, g4, hin2, pros_len, Int.natCast_nonneg]
      subst hKK
      simp (maxSteps := 10000000) only [go_sem, hin, w1, w2, r0, r1, h0, h1, q0, k0, g1, g2, g3, g4, hin2, pros_len, Int.natCast_nonneg]
      refine sem_call rfl rfl (((hb).embed [] rfl trivial rfl rfl rfl (by simp)).mono ?_)
      rintro _ _ ⟨_, _, ⟨rfl, rfl⟩, rfl, rfl⟩
      refine run_ok 4000 _ _ _ _ ?_
      simp (maxSteps := 10000000) only [go_sem, hin, w1, w2, r0, r1, h0, h1, q0, k0, g1, g2, g3, g4, hin2, pros_len, Int.natCast_nonneg]
      refine ⟨i + 1, by omega, c, [], ?_⟩
      simp only [Emb, go_sem]
  · have hin : ¬ (i : Int) < (Q.length : Int) := by omega
    skip
    refine run_ok 4000 _ _ _ _ ?_
    simp (maxSteps := 10000000) only [go_sem, hin]
    refine run_ok 4000 _ _ _ _ ?_
    simp (maxSteps := 10000000) only [go_sem, hin]
    refine ⟨_, _, .sub [] ?_ .done, rfl, rfl⟩
    simp only [EmbV, go_sem]
theorem eqi (n : Int) : (n == n) = true := by simp
theorem reccheck_spec (turn : Int) (C : List Chg) (Q : List Ply) (hl : C.length ≤ 8) (hv : ∀ c ∈ C, c.2.2.length ≤ 1000) (S : Nat) (hS : S < 4294967296) (ep : Int) (he : 0 ≤ ep ∧ ep ≤ 1000000)
    (T : Nat) (hT : T < 4294967296) (e2 : Int) (hw : withF S ep C = (some (T, e2), 0)) (hQ : PlysOk Q) (ha : Q.map (·.1) = allN T 32) :
    Tri Try.prog 38 [recV turn C 0 0 Q, .int .i64 turn, ros S ep] [] (fun v m => v = .int .i64 0 ∧ m = []) := by
  refine Tri.post ?_
  have hr := recros_spec turn C 0 0 Q hl hv S hS ep he
  have er : withR S ep C = .tup [ros T e2, .int .i64 0] := by unfold withR; rw [hw]
  rw [er] at hr
  have hal := rall_spec T hT e2
  rw [← ha] at hal
  have heq := eql_spec (Q.map (·.1)) (by simp; have := hQ.l; omega) false false
  have hwc := wcheck_spec Q hQ
  have hql := hQ.l
  unfold recV at *
  skip
  refine (Tri.enter (rl := r38) (code := c38) (by kernel_rfl) Try.func38 rfl c38_ok (by kernel_rfl) (by kernel_rfl) ?_)
  refine run_ok 4000 _ _ _ _ ?_
  simp (maxSteps := 10000000) only [go_sem, c38, r38, pros_len, eqi, beq_self_eq_true]
  refine sem_call rfl rfl (((hr).embed [] rfl trivial rfl rfl rfl (by simp)).mono ?_)
  rintro _ _ ⟨_, _, ⟨rfl, rfl⟩, rfl, rfl⟩
  refine run_ok 4000 _ _ _ _ ?_
  simp (maxSteps := 10000000) only [go_sem, pros_len, eqi, beq_self_eq_true]
  refine sem_virt 10 1 rfl ?_
  simp (maxSteps := 10000000) only [go_sem, pros_len, eqi, beq_self_eq_true]
  refine sem_rounds (fun i : Nat => i ≤ Q.length) (fun i => [(3, .pbox 0 0), (8, .pbox 1 0), (10, .sl 2 0 i i false), (37, .vsl 2 (pros Q) false), (38, .int .i64 Q.length), (39, .int .i64 (i : Nat))])
    (fun i => [.box [.int .i64 turn, .vsl 3 (crows C) false, .int .i64 0, .int .i64 0, .vsl 2 (pros Q) false], .box [.int .u32 (T : Nat), .int .i64 e2], .row 1 (iv .i64 ((Q.map (·.1)).take i))]) (fun i => Q.length - i) 0 [0, 2, 3] (Nat.zero_le _) ?_ ?_
  · simp [Emb, go_sem, iv]
  intro i hi
  have hfl : ((Q.map (·.1)).take i).length = i := by rw [List.length_take, List.length_map]; omega
  have hfa := r_iv_all ((Q.map (·.1)).take i)
  rw [hfl] at hfa
  by_cases c : i < Q.length
  · have hin : (i : Int) < (Q.length : Int) := by omega
    have w1 := inc64 (show i < 1000000000000 by omega)
    have r0 := pros_r0 c; have r1 := pros_r1 c
    have h0 := pros_h0 c; have h1 := pros_h1 c
    have hnx : iv .i64 ((Q.map (·.1)).take (i + 1)) = iv .i64 ((Q.map (·.1)).take i) ++ iv .i64 [Q[i].1] := by
      rw [List.take_succ_eq_append_getElem (by simpa using c), r_iv_app, List.getElem_map]
    have hsm : small (i + 1) := by unfold small; omega
    generalize Q[i] = x at *
    skip
    refine run_ok 4000 _ _ _ _ ?_
    simp (maxSteps := 10000000) only [go_sem, hin, w1, r0, r1, h0, h1, hsm, iv_len, hfl, pros_len, Int.natCast_nonneg, Nat.le_refl]
    refine ⟨i + 1, by omega, c, [0, 1, 4], ?_⟩
    simp only [Emb, go_sem, hnx, r_iv_one, r_iv_app, hfa]
  · have hin : ¬ (i : Int) < (Q.length : Int) := by omega
    have e : (Q.map (·.1)).take i = Q.map (·.1) := List.take_of_length_le (by rw [List.length_map]; omega)
    rw [e] at hfl hfa
    rw [e]
    skip
    refine run_ok 4000 _ _ _ _ ?_
    simp (maxSteps := 10000000) only [go_sem, hin, iv_len, hfl, hfa, Nat.le_refl]
    refine run_ok 4000 _ _ _ _ ?_
    simp (maxSteps := 10000000) only [go_sem, hin, iv_len, hfl, hfa, Nat.le_refl]
    refine sem_call rfl rfl (((hal).embed [] rfl trivial rfl rfl rfl (by simp)).mono ?_)
    rintro _ _ ⟨_, _, ⟨rfl, rfl⟩, rfl, rfl⟩
    refine run_ok 4000 _ _ _ _ ?_
    simp (maxSteps := 10000000) only [go_sem, hin, iv_len, hfl, hfa, Nat.le_refl]
    refine sem_freeze 2 rfl (by simp only [go_sem, iv_len, hfl, Nat.le_refl]) ?_
    refine run_ok 4000 _ _ _ _ ?_
    simp (maxSteps := 10000000) only [go_sem, hin, iv_len, hfl, hfa, Nat.le_refl]
    refine sem_call rfl rfl (((heq).embed [] rfl trivial rfl rfl rfl (by simp)).mono ?_)
    rintro _ _ ⟨_, _, ⟨rfl, rfl⟩, rfl, rfl⟩
    refine run_ok 4000 _ _ _ _ ?_
    simp (maxSteps := 10000000) only [go_sem, hin, iv_len, hfl, hfa, Nat.le_refl]
    refine sem_call rfl rfl (((hwc).embed [] rfl trivial rfl rfl rfl (by simp)).mono ?_)
    rintro _ _ ⟨_, _, ⟨rfl, rfl⟩, rfl, rfl⟩
    refine run_ok 4000 _ _ _ _ ?_
    simp (maxSteps := 10000000) only [go_sem, hin, iv_len, hfl, hfa, Nat.le_refl]
    refine ⟨_, _, .sub [] ?_ .done, rfl, rfl⟩
    simp only [EmbV, go_sem]
end Go.AEX
