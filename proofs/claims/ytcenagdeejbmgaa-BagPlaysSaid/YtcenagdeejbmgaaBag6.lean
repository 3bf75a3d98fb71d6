/- Bag: what the document says (the reference's functions). -/
import Derived.Test.YtcenagdeejbmgaaBag4
namespace Go.AEX
open Go Go.AE Go.Proofs
set_option maxRecDepth 100000
set_option linter.unusedVariables false
set_option linter.unusedSimpArgs false

def refB (L : List Itm) (q : Int) : AV := .agg [.vsl 3 (brows L) false, .int .i64 q]
theorem rat_spec (L : List Itm) (q k : Int) (h0 : 0 < L.length) (hL : L.length ≤ 1000) : Tri Try.prog 52 [refB L q, .int .i64 k] [] (fun v m => v = .int .i64 (place L.length k : Nat) ∧ m = []) := by
  refine Tri.post ?_
  obtain ⟨t1, t2, t3⟩ := tmod_add (n := (L.length : Int)) (k := k) (by omega)
  rw [← place_int h0 k] at t3
  have hn0 : ¬ (L.length : Int) = 0 := by omega
  have hn1 : ((L.length : Int) == 0) = false := by rw [beq_eq_false_iff_ne]; omega
  have w1 : iwrap .i64 (k.tmod L.length + L.length) = k.tmod L.length + L.length := iwrap_i64_in (by omega)
  by_cases hneg : k.tmod (L.length : Int) < 0
  · have e : k.tmod (L.length : Int) + L.length = (place L.length k : Nat) := by
      have h1 := Int.tmod_eq_emod_of_nonneg (a := k.tmod (L.length : Int) + L.length) (b := L.length) (by omega)
      rw [← t3, h1, Int.emod_eq_of_lt (by omega) (by omega)]
    rw [e] at w1
    skip
    refine (Tri.enter (rl := r52) (code := c52) (by kernel_rfl) Try.func52 rfl c52_ok (by kernel_rfl) (by kernel_rfl) ?_)
    refine run_ok 4000 _ _ _ _ ?_
    simp (maxSteps := 10000000) only [go_sem, c52, r52, refB, hn0, hn1, hneg, w1, e, brows_len]
    refine ⟨_, _, .sub [] ?_ .done, rfl, rfl⟩
    simp only [EmbV, go_sem]
  · have e : k.tmod (L.length : Int) = (place L.length k : Nat) := by
      have h1 := Int.tmod_eq_emod_of_nonneg (a := k.tmod (L.length : Int) + L.length) (b := L.length) (by omega)
      rw [← t3, h1, Int.add_emod_right, Int.emod_eq_of_lt (by omega) (by omega)]
    skip
    refine (Tri.enter (rl := r52) (code := c52) (by kernel_rfl) Try.func52 rfl c52_ok (by kernel_rfl) (by kernel_rfl) ?_)
    refine run_ok 4000 _ _ _ _ ?_
    simp (maxSteps := 10000000) only [go_sem, c52, r52, refB, hn0, hn1, hneg, brows_len]
    refine ⟨_, _, .sub [] ?_ .done, rfl, rfl⟩
    simp only [EmbV, go_sem, e]
theorem rput_full (L : List Itm) (q : Int) (x : Itm) (hL : 400 ≤ L.length ∧ L.length ≤ 1000) (hq : 0 ≤ q ∧ q ≤ 1000000) : Tri Try.prog 41 [refB L q, .agg (brow x)] []
    (fun v m => v = .tup [refB L (q + 1), .bool false] ∧ m = []) := by
  refine Tri.post ?_
  have f1 : (L.length : Int) ≥ 400 := by omega
  have w1 : iwrap .i64 (q + 1) = q + 1 := iwrap_i64_in (by omega)
  skip
  refine (Tri.enter (rl := r41) (code := c41) (by kernel_rfl) Try.func41 rfl c41_ok (by kernel_rfl) (by kernel_rfl) ?_)
  refine run_ok 4000 _ _ _ _ ?_
  simp (maxSteps := 10000000) only [go_sem, c41, r41, refB, brow, f1, w1, brows_len]
  refine ⟨_, _, .sub [] ?_ .done, rfl, rfl⟩
  simp only [EmbV, go_sem, refB]
theorem rput_spec (L : List Itm) (q : Int) (x : Itm) (hL : L.length < 400) : Tri Try.prog 41 [refB L q, .agg (brow x)] []
    (fun v m => v = .tup [refB (L ++ [x]) q, .bool true] ∧ m = []) := by
  refine Tri.post ?_
  have f1 : ¬ (L.length : Int) ≥ 400 := by omega
  have hs : sub (brows L) 0 L.length = brows L := brows_all L
  have hb : [[AV.int .i64 x.src, AV.int .i64 x.dst, AV.str x.text]] = brows [x] := rfl
  skip
  refine (Tri.enter (rl := r41) (code := c41) (by kernel_rfl) Try.func41 rfl c41_ok (by kernel_rfl) (by kernel_rfl) ?_)
  refine run_ok 4000 _ _ _ _ ?_
  simp (maxSteps := 10000000) only [go_sem, c41, r41, refB, brow, f1, brows_len, hs]
  refine sem_drawG l41_0_ok (by kernel_rfl) ?_
  intro KK hKK
  simp (maxSteps := 10000000) only [go_sem, l41_0, refB, brow, f1, brows_len, hs]
  subst hKK
  simp (maxSteps := 10000000) only [go_sem, refB, brow, f1, brows_len, hs]
  rw [hb, brows_app]
  refine ⟨by unfold small; omega, by unfold small; omega, _, _, .fz 4 rfl (by simp [go_sem, brows_len]) (.sub [] ?_ .done), rfl, rfl⟩
  have hs2 : sub (brows (L ++ [x])) 0 (L.length + 1) = brows (L ++ [x]) := by have := brows_all (L ++ [x]); rwa [List.length_append] at this
  simp only [EmbV, go_sem, refB, hs2]
theorem rwout_spec (L : List Itm) (q : Int) (p : Nat) (hp : p < L.length) (hL : L.length ≤ 1000) : Tri Try.prog 53 [refB L q, .int .i64 p] []
    (fun v m => v = refB (wout L p) q ∧ m = []) := by
  refine Tri.post ?_
  have f1 : (p : Int) ≤ (L.length : Int) := by omega
  have f2 : ((p + 1 : Nat) : Int) ≤ (L.length : Int) := by omega
  have e1 : (brows L).length = L.length := brows_len L
  have e2 : sub (brows L) 0 p = brows (L.take p) := by rw [brows_sub, List.drop_zero]
  have e3 : sub (brows L) (p + 1) (L.length - (p + 1)) = brows (L.drop (p + 1)) := by rw [brows_sub, List.take_of_length_le (by simp)]
  have e4 : (L.take p).length ≤ L.length ∧ (L.take p).length + (L.drop (p + 1)).length ≤ L.length := by rw [List.length_take, List.length_drop]; omega
  have e5 : (wout L p).length = (L.take p).length + (L.drop (p + 1)).length := by rw [wout, List.length_append]
  skip
  refine (Tri.enter (rl := r53) (code := c53) (by kernel_rfl) Try.func53 rfl c53_ok (by kernel_rfl) (by kernel_rfl) ?_)
  refine run_ok 4000 _ _ _ _ ?_
  simp (maxSteps := 10000000) only [go_sem, c53, r53, refB, f1, f2, Int.natCast_nonneg, brows_len, Nat.sub_zero, e2, e3, brows_all, inc64 (show p < 1000000000000 by omega)]
  refine sem_drawG l53_0_ok (by kernel_rfl) ?_
  intro KK hKK
  simp (maxSteps := 10000000) only [go_sem, l53_0, refB, f1, f2, Int.natCast_nonneg, brows_len, Nat.sub_zero, e2, e3, brows_all, inc64 (show p < 1000000000000 by omega)]
  subst hKK
  simp (maxSteps := 10000000) only [go_sem, refB, f1, f2, Int.natCast_nonneg, brows_len, Nat.sub_zero, e2, e3, brows_all, inc64 (show p < 1000000000000 by omega)]
  rw [brows_app]
  refine ⟨by unfold small; omega, by unfold small; omega, _, _, .fz 3 rfl (by simp only [go_sem, brows_len, List.length_append]) (.sub [] ?_ .done), rfl, rfl⟩
  have hs2 : sub (brows (L.take p ++ L.drop (p + 1))) 0 ((L.take p).length + (L.drop (p + 1)).length) = brows (L.take p ++ L.drop (p + 1)) := by have := brows_all (L.take p ++ L.drop (p + 1)); rwa [List.length_append] at this
  simp only [EmbV, go_sem, refB, wout, hs2]
theorem rbend_spec (s : List UInt8) (i : Nat) (b : UInt8) (hi : i < s.length) (hs : s.length ≤ 100000) : Tri Try.prog 54 [.str s, .int .i64 i, .int .u8 b.toNat] []
    (fun v m => v = .str (bendT s i b) ∧ m = []) := by
  refine Tri.post ?_
  have f1 : (i : Int) ≤ (s.length : Int) := by omega
  have f2 : ((i + 1 : Nat) : Int) ≤ (s.length : Int) := by omega
  have f3 : (i : Int) < (s.length : Int) := by omega
  have hg : ibits .xor .u8 (sget s (i : Int)) (b.toNat : Int) = ((s[i] ^^^ b).toNat : Int) := by
    rw [← xor_u8]; simp [sget, List.getD_eq_getElem?_getD, hi]
  have hb : toBytes [[AV.int .u8 ((s[i] ^^^ b).toNat : Int)]] = [s[i] ^^^ b] := bytes_to [s[i] ^^^ b]
  have ha : allU8 [[AV.int .u8 ((s[i] ^^^ b).toNat : Int)]] := bytes_all [s[i] ^^^ b]
  skip
  refine (Tri.enter (rl := r54) (code := c54) (by kernel_rfl) Try.func54 rfl c54_ok (by kernel_rfl) (by kernel_rfl) ?_)
  refine run_ok 4000 _ _ _ _ ?_
  simp (maxSteps := 10000000) only [go_sem, c54, r54, f1, f2, f3, hg, hb, ha, Int.natCast_nonneg, inc64 (show i < 1000000000000 by omega)]
  refine sem_drawG l54_0_ok (by kernel_rfl) ?_
  intro KK hKK
  simp (maxSteps := 10000000) only [go_sem, l54_0, f1, f2, f3, hg, hb, ha, Int.natCast_nonneg, inc64 (show i < 1000000000000 by omega)]
  subst hKK
  simp (maxSteps := 10000000) only [go_sem, f1, f2, f3, hg, hb, ha, Int.natCast_nonneg, inc64 (show i < 1000000000000 by omega)]
  have e1 : (s.take i).length = i := by rw [List.length_take]; omega
  have e2 : s.take i ++ [s[i] ^^^ b] ++ s.drop (i + 1) = bendT s i b := by
    unfold bendT
    rw [List.set_eq_take_append_cons_drop, if_pos hi, List.getD_eq_getElem?_getD, List.getElem?_eq_getElem hi]; simp
  rw [e2]
  refine ⟨by rw [e1]; omega, by rw [List.length_append, e1, List.length_drop]; simp; omega, _, _, .sub [] ?_ .done, rfl, rfl⟩
  simp only [EmbV, go_sem]
theorem rdrop_spec (L : List Itm) (q w : Int) (hL : L.length ≤ 1000) (hq : 0 ≤ q ∧ q ≤ 1000000) : Tri Try.prog 43 [refB L q, .int .i64 w] []
    (fun v m => v = refB (L.filter fun x => !hit w x) (q + (L.length - (L.filter fun x => !hit w x).length : Nat)) ∧ m = []) := by
  refine Tri.post ?_
  skip
  refine (Tri.enter (rl := r43) (code := c43) (by kernel_rfl) Try.func43 rfl c43_ok (by kernel_rfl) (by kernel_rfl) ?_)
  refine run_ok 4000 _ _ _ _ ?_
  simp (maxSteps := 10000000) only [go_sem, c43, r43, refB, brows_len]
  refine sem_nilbox 2 0 3 rfl rfl ?_
  refine sem_rounds (fun x : Nat × List Itm => x.1 ≤ L.length ∧ x.2 = (L.take x.1).filter (fun x => !hit w x) ∧ x.2.length ≤ x.1)
    (fun x => [(1, .int .i64 w), (4, .pbox 1 0), (5, .pbox 2 0), (12, .vsl 3 (brows L) false), (13, .int .i64 L.length), (14, .int .i64 (x.1 : Nat))])
    (fun x => [.box [.vsl 3 (brows L) false, .int .i64 q], .box [.nilsl, .int .i64 0], .box [.sl 3 0 x.2.length x.2.length false, .int .i64 (q + (x.1 - x.2.length : Nat))], .row 3 (brows x.2)]) (fun x => L.length - x.1) (0, []) [0, 1, 2, 3] ⟨by simp, by simp, by simp⟩ ?_ ?_
  · simp only [Emb, go_sem, brows, List.map_nil]
    try simp
  rintro ⟨i, M⟩ ⟨h1, h2, h3⟩
  simp only at h1 h2 h3
  refine run_ok 4000 _ _ _ _ ?_
  simp (maxSteps := 10000000) only [go_sem, refB, brows_len]
  refine ⟨fun hlt => ?_, fun hge => ?_⟩
  · have hlt : i < L.length := by omega
    have hin : (i : Int) < (L.length : Int) := by omega
    have w1 : iwrap .i64 (q + ((i - M.length : Nat) : Int) + 1) = q + ((i + 1 - M.length : Nat) : Int) := by rw [iwrap_i64_in (by omega)]; omega
    have hb : [[AV.int .i64 (ga L i).src, AV.int .i64 (ga L i).dst, AV.str (ga L i).text]] = brows [ga L i] := rfl
    by_cases c1 : ((ga L i).src == w) = true
    · have hh : hit w (ga L i) = true := by simp [hit, c1]
      skip
      simp (maxSteps := 10000000) only [go_sem, ga_eq hlt, brows_h0 hlt, brows_h1 hlt, brows_h2 hlt, brows_r0 hlt, brows_r1 hlt, brows_r2 hlt, hin, c1, w1, Int.natCast_nonneg, inc64 (show i < 1000000000000 by omega)]
      refine ⟨(i + 1, M), by simp only; omega, ⟨by simp only; omega, by simp only; rw [filt_hit hlt hh, h2], by simp only; omega⟩, [0, 1, 2, 3], ?_⟩
      simp only [Emb, go_sem]
    · have c1 : ((ga L i).src == w) = false := by simpa using c1
      by_cases c2 : ((ga L i).dst == w) = true
      · have hh : hit w (ga L i) = true := by simp [hit, c1, c2]
        skip
        simp (maxSteps := 10000000) only [go_sem, ga_eq hlt, brows_h0 hlt, brows_h1 hlt, brows_h2 hlt, brows_r0 hlt, brows_r1 hlt, brows_r2 hlt, hin, c1, c2, w1, Int.natCast_nonneg, inc64 (show i < 1000000000000 by omega)]
        refine ⟨(i + 1, M), by simp only; omega, ⟨by simp only; omega, by simp only; rw [filt_hit hlt hh, h2], by simp only; omega⟩, [0, 1, 2, 3], ?_⟩
        simp only [Emb, go_sem]
      · have c2 : ((ga L i).dst == w) = false := by simpa using c2
        have hh : hit w (ga L i) = false := by simp [hit, c1, c2]
        have e6 : i + 1 - (M.length + 1) = i - M.length := by omega
        skip
        simp (maxSteps := 10000000) only [go_sem, ga_eq hlt, brows_h0 hlt, brows_h1 hlt, brows_h2 hlt, brows_r0 hlt, brows_r1 hlt, brows_r2 hlt, hin, c1, c2, hb, brows_all, brows_app, brows_len, Int.natCast_nonneg, inc64 (show i < 1000000000000 by omega)]
        refine ⟨?_, (i + 1, M ++ [ga L i]), by simp only; omega, ⟨by simp only; omega, by simp only; rw [filt_no hlt hh, h2], by simp; omega⟩, [0, 1, 2, 5], ?_⟩
        · unfold small; simp; omega
        · simp only [Emb, go_sem, List.length_append, e6]
  · have hi : i = L.length := by omega
    subst hi
    rw [List.take_length] at h2
    subst h2
    skip
    refine run_ok 4000 _ _ _ _ ?_
    simp (maxSteps := 10000000) only [go_sem]
    refine ⟨_, _, .fz 3 rfl (by simp [go_sem, brows_len]) (.sub [] ?_ .done), rfl, rfl⟩
    simp only [EmbV, go_sem, refB, brows_all]
end Go.AEX
