/- Window: acks of what was sent, and the reference: contracts. -/
import Derived.Test.YtbbokkienmicmaaWinOut
namespace Go.AEX
open Go Go.AE Go.Proofs
set_option maxRecDepth 100000
set_option linter.unusedVariables false
set_option linter.unusedSimpArgs false

theorem wclone_spec (L : List Itm) (hL : L.length ≤ 100000) : Tri Try.prog 44 [.sl 0 0 L.length L.length false] [.row 2 (irows L)] (fun v m => v = .sl 1 0 L.length L.length false ∧ m = [.row 2 (irows L), .row 2 (irows L)]) := by
  refine Tri.post ?_
  refine (Tri.enter (rl := r44) (code := c44) (by kernel_rfl) Try.func44 rfl c44_ok (by kernel_rfl) (by kernel_rfl) ?_)
  refine run_ok 4000 _ _ _ _ ?_
  simp (maxSteps := 10000000) only [go_sem, c44, r44]
  refine sem_eqn rfl rfl rfl fun b hb => ?_
  cases b with
  | false =>
    skip
    refine run_ok 4000 _ _ _ _ ?_
    simp (maxSteps := 10000000) only [go_sem, sub_irows]
    refine ⟨by unfold small; omega, _, _, .sub [0, 1] ?_ .done, rfl, rfl⟩
    simp only [EmbV, go_sem]
  | true =>
    have h0 : L.length = 0 := by
      by_cases h : L.length = 0
      · exact h
      · exact absurd (hb h) (by simp)
    have : L = [] := List.length_eq_zero_iff.1 h0
    subst this
    skip
    refine run_ok 2 _ _ _ _ ?_
    simp (maxSteps := 10000000) only [go_sem, sub_irows]
    skip
    refine sem_virt 2 2 rfl ?_
    refine run_ok 4000 _ _ _ _ ?_
    simp (maxSteps := 10000000) only [go_sem, sub_irows]
    refine ⟨_, _, .sub [0, 1] ?_ .done, rfl, rfl⟩
    simp only [EmbV, go_sem, irows, List.map_nil]
theorem all_spec (next : Int) (l : List Itm) (hl : l.length ≤ 100000) : Tri Try.prog 36 [.pbox 0 0] (outW next l) (fun v m => v = .vsl 2 (irows l) false ∧ m = outW next l) := by
  refine Tri.post ?_
  have hc := wclone_spec l hl
  refine (Tri.enter (rl := r36) (code := c36) (by kernel_rfl) Try.func36 rfl c36_ok (by kernel_rfl) (by kernel_rfl) ?_)
  refine run_ok 4000 _ _ _ _ ?_
  simp (maxSteps := 10000000) only [go_sem, c36, r36]
  refine sem_call rfl rfl (((hc).embed [1] rfl (by repeat' first | exact trivial | rfl | (simp only [go_sem]; done) | constructor) rfl (by first | rfl | simp only [go_sem]) rfl (by simp)).mono ?_)
  rintro _ _ ⟨_, _, ⟨rfl, rfl⟩, rfl, rfl⟩
  refine run_ok 4000 _ _ _ _ ?_
  simp (maxSteps := 10000000) only [go_sem]
  refine ⟨_, _, .fz 2 rfl (by simp only [go_sem, Nat.le_refl]) (.sub [0, 1] ?_ .done), rfl, rfl⟩
  simp only [EmbV, go_sem]
theorem olen_spec (next : Int) (l : List Itm) : Tri Try.prog 35 [.pbox 0 0] (outW next l) (fun v m => v = .int .i64 l.length ∧ m = outW next l) := by
  refine Tri.post ?_
  refine (Tri.enter (rl := r35) (code := c35) (by kernel_rfl) Try.func35 rfl c35_ok (by kernel_rfl) (by kernel_rfl) ?_)
  refine run_ok 4000 _ _ _ _ ?_
  simp (maxSteps := 10000000) only [go_sem, c35, r35]
  exact ⟨_, _, .sub [0, 1] (by simp only [EmbV, go_sem]) .done, rfl, rfl⟩
theorem onext_spec (next : Int) (l : List Itm) : Tri Try.prog 39 [.pbox 0 0] (outW next l) (fun v m => v = .int .u32 next ∧ m = outW next l) := by
  refine Tri.post ?_
  refine (Tri.enter (rl := r39) (code := c39) (by kernel_rfl) Try.func39 rfl c39_ok (by kernel_rfl) (by kernel_rfl) ?_)
  refine run_ok 4000 _ _ _ _ ?_
  simp (maxSteps := 10000000) only [go_sem, c39, r39]
  exact ⟨_, _, .sub [0, 1] (by simp only [EmbV, go_sem]) .done, rfl, rfl⟩
theorem oack_spec (next : Int) (l : List Itm) (nx bits : Int) (hl : l.length ≤ 10000) (hn : ¬ u32 (next - nx) ≥ 2147483648) :
    Tri Try.prog 34 [.pbox 0 0, .agg [.int .u32 nx, .int .u32 bits]] (outW next l)
      (fun v m => v = .vsl 1 (uv (toldW nx bits l)) false ∧ m = outW2 next (leftW nx bits l)) := by
  refine Tri.post ?_
  have hc := wclone_spec l (by omega)
  have hd := wdelete_spec nx bits l hl
  unfold u32 at hn
  generalize toldW nx bits l = T at *
  generalize leftW nx bits l = K at *
  skip
  refine (Tri.enter (rl := r34) (code := c34) (by kernel_rfl) Try.func34 rfl c34_ok (by kernel_rfl) (by kernel_rfl) ?_)
  refine run_ok 4000 _ _ _ _ ?_
  simp (maxSteps := 10000000) only [go_sem, c34, r34, hn]
  refine sem_drawG l34_0_ok (by kernel_rfl) ?_
  intro KK hKK
  simp (maxSteps := 10000000) only [go_sem, l34_0, hn]
  subst hKK
  simp (maxSteps := 10000000) only [go_sem, hn]
  refine sem_nilbox 3 0 1 rfl rfl ?_
  refine sem_move 1 rfl ?_
  refine run_ok 4000 _ _ _ _ ?_
  simp (maxSteps := 10000000) only [go_sem, hn]
  refine sem_call rfl rfl (((hc).embed [5] rfl (by repeat' first | exact trivial | rfl | (simp only [go_sem]; done) | constructor) rfl (by first | rfl | simp only [go_sem]) rfl (by simp)).mono ?_)
  rintro _ _ ⟨_, _, ⟨rfl, rfl⟩, rfl, rfl⟩
  refine run_ok 4000 _ _ _ _ ?_
  simp (maxSteps := 10000000) only [go_sem, hn]
  refine sem_call rfl rfl (((hd).embed [6, 2, 3, 4] rfl (by repeat' first | exact trivial | rfl | (simp only [go_sem]; done) | constructor) rfl (by first | rfl | simp only [go_sem]) rfl (by simp)).mono ?_)
  rintro _ _ ⟨_, _, ⟨rfl, rfl⟩, rfl, rfl⟩
  refine run_ok 4000 _ _ _ _ ?_
  simp (maxSteps := 10000000) only [go_sem, hn]
  refine ⟨_, _, .fz 7 rfl (by simp only [go_sem, iv_len, Nat.le_refl]) (.sub [0, 1, 6] ?_ .done), rfl, rfl⟩
  simp only [EmbV, go_sem, uv_all]
theorem oack_no (next : Int) (l : List Itm) (nx bits : Int) (hl : l.length ≤ 10000) (hn : u32 (next - nx) ≥ 2147483648) :
    Tri Try.prog 34 [.pbox 0 0, .agg [.int .u32 nx, .int .u32 bits]] (outW next l)
      (fun v m => v = .vsl 1 (uv []) false ∧ m = outW2 next l) := by
  refine Tri.post ?_
  unfold u32 at hn
  skip
  skip
  refine (Tri.enter (rl := r34) (code := c34) (by kernel_rfl) Try.func34 rfl c34_ok (by kernel_rfl) (by kernel_rfl) ?_)
  refine run_ok 1 _ _ _ _ ?_
  simp (maxSteps := 10000000) only [go_sem, c34, r34, hn]
  skip
  refine sem_move 1 rfl ?_
  refine run_ok 4000 _ _ _ _ ?_
  simp (maxSteps := 10000000) only [go_sem, hn]
  refine sem_drawG l34_0_ok (by kernel_rfl) ?_
  intro KK hKK
  simp (maxSteps := 10000000) only [go_sem, l34_0, hn]
  subst hKK
  simp (maxSteps := 10000000) only [go_sem, hn]
  refine ⟨_, _, .like (Like.nilv 1 false) (.sub [0, 1, 3] ?_ .done), rfl, rfl⟩
  simp only [EmbV, go_sem, iv, List.map_nil]
/-! ### the reference -/
theorem jrows_all (l : Ent) : sub (jrows l) 0 l.length = jrows l := sub_jrows l
def refO (n : Int) (L : Ent) : AV := .agg [.int .i64 n, .vsl 2 (jrows L) false]
theorem rpush_nil (n : Int) (s : List UInt8) (hn : 0 ≤ n ∧ n ≤ 1000000) :
    Tri Try.prog 37 [refO n [], .str s] [] (fun v m => v = .tup [refO (n + 1) [(n, s)], .bool true] ∧ m = []) := by
  refine Tri.post ?_
  have w1 : iwrap .i64 (n + 1) = n + 1 := iwrap_i64_in (by omega)
  have e1 : sub (jrows []) 0 0 = [] := rfl
  have f0 : ¬ (0 : Int) > 0 := by omega
  skip
  refine (Tri.enter (rl := r37) (code := c37) (by kernel_rfl) Try.func37 rfl c37_ok (by kernel_rfl) (by kernel_rfl) ?_)
  refine run_ok 4000 _ _ _ _ ?_
  simp (maxSteps := 10000000) only [go_sem, c37, r37, refO, w1, f0]
  refine sem_drawG l37_0_ok (by kernel_rfl) ?_
  intro KK hKK
  simp (maxSteps := 10000000) only [go_sem, l37_0, refO, w1, f0]
  subst hKK
  simp (maxSteps := 10000000) only [go_sem, refO, w1, f0]
  refine sem_drawG l37_1_ok (by kernel_rfl) ?_
  intro KK hKK
  simp (maxSteps := 10000000) only [go_sem, l37_1, refO, w1, f0]
  subst hKK
  simp (maxSteps := 10000000) only [go_sem, refO, w1, f0]
  have hone : sub (jrows []) 0 0 ++ [[AV.int .i64 n, AV.str s]] = jrows [(n, s)] := rfl
  rw [hone]
  have hm : max 1 0 = 1 := rfl
  have hs : sub (jrows [(n, s)]) 0 1 = jrows [(n, s)] := rfl
  have hl1 : (jrows [(n, s)]).length = 1 := rfl
  rw [hm]
  refine ⟨by unfold small; decide, by unfold small; decide, _, _, .fz 3 rfl (by simp only [go_sem, hl1, Nat.le_refl]) (.sub [] ?_ .done), rfl, rfl⟩
  simp only [EmbV, go_sem, refO, hs]
theorem rpush_spec (n : Int) (p : Int × List UInt8) (L : Ent) (s : List UInt8) (hn : 0 ≤ n ∧ n ≤ 1000000) (hL : L.length ≤ 1000) (hp : 0 ≤ p.1 ∧ p.1 ≤ 1000000) (hf : n - p.1 < 32) :
    Tri Try.prog 37 [refO n (p :: L), .str s] [] (fun v m => v = .tup [refO (n + 1) (p :: L ++ [(n, s)]), .bool true] ∧ m = []) := by
  refine Tri.post ?_
  have w1 : iwrap .i64 (n + 1) = n + 1 := iwrap_i64_in (by omega)
  have w2 : iwrap .i64 (n - p.1) = n - p.1 := iwrap_i64_in (by omega)
  have h0 : 0 < (p :: L).length := by simp
  have f0 : ((p :: L).length : Int) > 0 := by simp
  have f1 : (0 : Int) < ((p :: L).length : Int) := by omega
  have f2 : ¬ (n - p.1) ≥ 32 := by omega
  have hg : (p :: L)[0] = p := rfl
  have r0 := j_rint h0
  rw [hg] at r0
  have hLl : (p :: L).length = L.length + 1 := rfl
  generalize hM : p :: L = M at *
  have hs := jrows_all M
  skip
  refine (Tri.enter (rl := r37) (code := c37) (by kernel_rfl) Try.func37 rfl c37_ok (by kernel_rfl) (by kernel_rfl) ?_)
  refine run_ok 4000 _ _ _ _ ?_
  simp (maxSteps := 10000000) only [go_sem, c37, r37, refO, w1, w2, f0, f1, f2, j_hasI h0, r0, jrows_len, hs]
  refine sem_drawG l37_0_ok (by kernel_rfl) ?_
  intro KK hKK
  simp (maxSteps := 10000000) only [go_sem, l37_0, refO, w1, w2, f0, f1, f2, j_hasI h0, r0, jrows_len, hs]
  subst hKK
  simp (maxSteps := 10000000) only [go_sem, refO, w1, w2, f0, f1, f2, j_hasI h0, r0, jrows_len, hs]
  refine sem_drawG l37_1_ok (by kernel_rfl) ?_
  intro KK hKK
  simp (maxSteps := 10000000) only [go_sem, l37_1, refO, w1, w2, f0, f1, f2, j_hasI h0, r0, jrows_len, hs]
  subst hKK
  simp (maxSteps := 10000000) only [go_sem, refO, w1, w2, f0, f1, f2, j_hasI h0, r0, jrows_len, hs]
  have hone : [[AV.int .i64 n, AV.str s]] = jrows [(n, s)] := rfl
  rw [hone, jrows_app]
  refine ⟨by unfold small; omega, by unfold small; omega, _, _, .fz 3 rfl (by simp only [go_sem, jrows_len, List.length_append, List.length_cons, List.length_nil, Nat.le_refl]) (.sub [] ?_ .done), rfl, rfl⟩
  have hs2 : sub (jrows (M ++ [(n, s)])) 0 (M.length + 1) = jrows (M ++ [(n, s)]) := by have := jrows_all (M ++ [(n, s)]); rwa [List.length_append] at this
  simp only [EmbV, go_sem, refO, hs2]
theorem rpush_full (n : Int) (p : Int × List UInt8) (L : Ent) (s : List UInt8) (hn : 0 ≤ n ∧ n ≤ 1000000) (hL : L.length ≤ 1000) (hp : 0 ≤ p.1 ∧ p.1 ≤ 1000000) (hf : 32 ≤ n - p.1) :
    Tri Try.prog 37 [refO n (p :: L), .str s] [] (fun v m => v = .tup [refO n (p :: L), .bool false] ∧ m = []) := by
  refine Tri.post ?_
  have w2 : iwrap .i64 (n - p.1) = n - p.1 := iwrap_i64_in (by omega)
  have h0 : 0 < (p :: L).length := by simp
  have f0 : ((p :: L).length : Int) > 0 := by simp
  have f1 : (0 : Int) < ((p :: L).length : Int) := by omega
  have f2 : (n - p.1) ≥ 32 := by omega
  have hg : (p :: L)[0] = p := rfl
  have r0 := j_rint h0
  rw [hg] at r0
  generalize hM : p :: L = M at *
  skip
  refine (Tri.enter (rl := r37) (code := c37) (by kernel_rfl) Try.func37 rfl c37_ok (by kernel_rfl) (by kernel_rfl) ?_)
  refine run_ok 4000 _ _ _ _ ?_
  simp (maxSteps := 10000000) only [go_sem, c37, r37, refO, w2, f0, f1, f2, j_hasI h0, r0, jrows_len]
  refine sem_drawG l37_0_ok (by kernel_rfl) ?_
  intro KK hKK
  simp (maxSteps := 10000000) only [go_sem, l37_0, refO, w2, f0, f1, f2, j_hasI h0, r0, jrows_len]
  subst hKK
  simp (maxSteps := 10000000) only [go_sem, refO, w2, f0, f1, f2, j_hasI h0, r0, jrows_len]
  refine ⟨_, _, .sub [] ?_ .done, rfl, rfl⟩
  simp only [EmbV, go_sem, refO]
/-- Does an ack tell it, over numbers without an end? -/
def hasR (next : Int) (b : Nat) (n : Int) : Bool :=
  if n < next then true else if n - next - 1 < 0 ∨ n - next - 1 > 31 then false else (b / 2 ^ (n - next - 1).toNat) % 2 == 1
theorem rhas_spec (next : Int) (b : Nat) (n : Int) (hn : -1000 ≤ next ∧ next ≤ 1000000) (hk : 0 ≤ n ∧ n ≤ 1000000) (hb : b < 4294967296) : Tri Try.prog 46 [.int .i64 next, .int .u32 (b : Nat), .int .i64 n] []
    (fun v m => v = .bsym (hasR next b n) ∧ m = []) := by
  refine Tri.asS (Tri.post ?_)
  unfold hasR
  by_cases c0 : n < next
  · rw [if_pos c0]
    skip
    refine (Tri.enter (rl := r46) (code := c46) (by kernel_rfl) Try.func46 rfl c46_ok (by kernel_rfl) (by kernel_rfl) ?_)
    refine run_ok 4000 _ _ _ _ ?_
    simp (maxSteps := 10000000) only [go_sem, c46, r46, c0]
    exact ⟨.bool true, _, .sub [] (by simp only [EmbV, go_sem]) .done, rfl, rfl⟩
  rw [if_neg c0]
  have w1 : iwrap .i64 (n - next) = n - next := iwrap_i64_in (by omega)
  have w2 : iwrap .i64 (n - next - 1) = n - next - 1 := iwrap_i64_in (by omega)
  by_cases c1 : n - next - 1 < 0
  · rw [if_pos (.inl c1)]
    skip
    refine (Tri.enter (rl := r46) (code := c46) (by kernel_rfl) Try.func46 rfl c46_ok (by kernel_rfl) (by kernel_rfl) ?_)
    refine run_ok 4000 _ _ _ _ ?_
    simp (maxSteps := 10000000) only [go_sem, c46, r46, c0, c1, w1, w2]
    exact ⟨.bool false, _, .sub [] (by simp only [EmbV, go_sem]) .done, rfl, rfl⟩
  by_cases c2 : n - next - 1 > 31
  · rw [if_pos (.inr c2)]
    skip
    refine (Tri.enter (rl := r46) (code := c46) (by kernel_rfl) Try.func46 rfl c46_ok (by kernel_rfl) (by kernel_rfl) ?_)
    refine run_ok 4000 _ _ _ _ ?_
    simp (maxSteps := 10000000) only [go_sem, c46, r46, c0, c1, c2, w1, w2]
    exact ⟨.bool false, _, .sub [] (by simp only [EmbV, go_sem]) .done, rfl, rfl⟩
  rw [if_neg (by omega)]
  obtain ⟨k, hk⟩ : ∃ k : Nat, n - next - 1 = (k : Int) := ⟨(n - next - 1).toNat, by omega⟩
  have hkn : (n - next - 1).toNat = k := by omega
  rw [hkn]
  have hk31 : k ≤ 31 := by omega
  have w3 : iwrap .i64 (n - next - 1) = (k : Int) := by rw [w2]; exact hk
  have c3 : ¬ (k : Int) < 0 := by omega
  have c4 : ¬ (k : Int) > 31 := by omega
  skip
  refine (Tri.enter (rl := r46) (code := c46) (by kernel_rfl) Try.func46 rfl c46_ok (by kernel_rfl) (by kernel_rfl) ?_)
  refine run_ok 4000 _ _ _ _ ?_
  simp (maxSteps := 10000000) only [go_sem, c46, r46, c0, c3, c4, w1, w3]
  refine sem_rounds (fun i => i ≤ k) (fun i => [(7, .int .i64 (k : Nat)), (8, .int .u32 ((b / 2 ^ i : Nat) : Int)), (9, .int .i64 (i : Nat))]) (fun i => []) (fun i => k - i) 0 [] (by omega) ?_ ?_
  · simp only [Emb, go_sem, Nat.pow_zero, Nat.div_one]
  intro i hi
  skip
  refine run_ok 4000 _ _ _ _ ?_
  simp (maxSteps := 10000000) only [go_sem]
  refine ⟨fun hlt => ?_, fun hge => ?_⟩
  · have e : iwrap .u32 (((b / 2 ^ i : Nat) : Int).tdiv 2) = ((b / 2 ^ (i + 1) : Nat) : Int) := by
      rw [Nat.pow_succ, ← Nat.div_div_eq_div_mul]
      have : b / 2 ^ i ≤ b := Nat.div_le_self _ _
      generalize b / 2 ^ i = q at *
      rw [Int.tdiv_eq_ediv_of_nonneg (by omega), iwrap_u32]
      omega
    skip
    simp (maxSteps := 10000000) only [go_sem, e, inc64 (show i < 1000000000000 by omega)]
    refine ⟨i + 1, by omega, by omega, [], ?_⟩
    simp only [Emb, go_sem]
  · have : i = k := by omega
    subst this
    have e : ((b / 2 ^ i : Nat) : Int).tmod 2 = ((b / 2 ^ i % 2 : Nat) : Int) := by
      generalize b / 2 ^ i = q at *
      rw [Int.tmod_eq_emod_of_nonneg (by omega)]; rfl
    have e2 : (((b / 2 ^ i % 2 : Nat) : Int) == 1) = (b / 2 ^ i % 2 == 1) := by
      generalize b / 2 ^ i = q at *
      rw [Bool.eq_iff_iff]; simp; omega
    skip
    refine run_ok 4000 _ _ _ _ ?_
    simp (maxSteps := 10000000) only [go_sem, e]
    refine ⟨.bsym _, _, .sub [] ?_ .done, rfl, rfl⟩
    simp only [EmbV, go_sem, e2]
end Go.AEX
