/- PaceMeter: the law's evaluation. -/
import Derived.Test.YtcenagdeejbmgaaPaceSt
namespace Go.AEX
open Go Go.AE Go.Proofs
set_option maxRecDepth 100000
set_option linter.unusedVariables false
set_option linter.unusedSimpArgs false

theorem iv_whole (l : List Int) : sub (iv .i64 l) 0 l.length = iv .i64 l := by rw [iv_sub]; simp
theorem rnext_lend (l : List Int) (t d : Int) (hl : l.length ≤ 1000000) (hp : ∀ x ∈ last8 l, 0 ≤ x) (hg : goodP t d = true) :
    Tri Try.prog 22 [.sl 0 0 l.length l.length false, .agg [.int .i64 t, .int .i64 d]] [.row 1 (iv .i64 l)] (fun v m => v = .agg [.int .i64 (nextF (last8 l) t d).1, .int .i64 (nextF (last8 l) t d).2] ∧ m = [.row 1 (iv .i64 l)]) :=
  Tri.lend0 (K := fun v => v = .agg [.int .i64 (nextF (last8 l) t d).1, .int .i64 (nextF (last8 l) t d).2]) (p := (fzL 0 1 (iv .i64 l) [.sl 0 0 l.length l.length false, .agg [.int .i64 t, .int .i64 d]]).1) (args' := [.vsl 1 (iv .i64 l) false, .agg [.int .i64 t, .int .i64 d]]) (Prod.ext rfl (by simp [fzL, fzV, iv_whole])) (by simp [fzL, fzV, iv_len]) rfl rfl (rnext_spec l t d hl hp hg) (by rintro v rfl; exact ⟨rfl, rfl⟩)
theorem rworst_lend (l : List Int) (hl : l.length ≤ 1000000) : Tri Try.prog 24 [.sl 0 0 l.length l.length false] [.row 1 (iv .i64 l)] (fun v m => v = .int .i64 (wst 0 (last8 l)) ∧ m = [.row 1 (iv .i64 l)]) :=
  Tri.lend0 (K := fun v => v = .int .i64 (wst 0 (last8 l))) (p := (fzL 0 1 (iv .i64 l) [.sl 0 0 l.length l.length false]).1) (args' := [.vsl 1 (iv .i64 l) false]) (Prod.ext rfl (by simp [fzL, fzV, iv_whole])) (by simp [fzL, fzV, iv_len]) rfl rfl (rworst_spec l hl) (by rintro v rfl; exact ⟨rfl, rfl⟩)
theorem rmean_lend (l : List Int) (hl : l.length ≤ 1000000) (hp : ∀ x ∈ last8 l, 0 ≤ x) : Tri Try.prog 26 [.sl 0 0 l.length l.length false] [.row 1 (iv .i64 l)] (fun v m => v = .int .i64 (meanF (last8 l)) ∧ m = [.row 1 (iv .i64 l)]) :=
  Tri.lend0 (K := fun v => v = .int .i64 (meanF (last8 l))) (p := (fzL 0 1 (iv .i64 l) [.sl 0 0 l.length l.length false]).1) (args' := [.vsl 1 (iv .i64 l) false]) (Prod.ext rfl (by simp [fzL, fzV, iv_whole])) (by simp [fzL, fzV, iv_len]) rfl rfl (rmean_spec l hl hp) (by rintro v rfl; exact ⟨rfl, rfl⟩)
def tl (l : List Int) (i : Nat) : List Int := (l.take i).map (max · 0)
theorem tl_succ {l : List Int} {i : Nat} (h : i < l.length) : tl l (i + 1) = tl l i ++ [max l[i] 0] := by
  unfold tl
  rw [List.take_add_one, List.getElem?_eq_getElem h, List.map_append]
  rfl
theorem tl_len {l : List Int} {i : Nat} (h : i ≤ l.length) : (tl l i).length = i := by simp [tl]; omega
theorem tl_pos (l : List Int) (i : Nat) : ∀ x ∈ last8 (tl l i), 0 ≤ x := by
  intro x hx
  have := List.mem_of_mem_drop hx
  simp only [tl, List.mem_map] at this
  obtain ⟨y, _, rfl⟩ := this
  omega
theorem nextF_step (T : List Int) (t d : Int) : (nextF T t d).1 - t ≥ 0 ∧ (nextF T t d).1 - t ≤ 1 ∧ (nextF T t d).2 - d ≥ -1 ∧ (nextF T t d).2 - d ≤ 1 ∧ ((nextF T t d).1 = t ∨ (nextF T t d).2 = d) := by
  unfold nextF
  split
  · simp
  · simp only
    split
    · exact ⟨by simp, by simp, by simp only; omega, by simp only; omega, .inl rfl⟩
    · split
      · exact ⟨by simp only; omega, by simp only; omega, by simp, by simp, .inr rfl⟩
      · split
        · exact ⟨by simp, by simp, by simp only; omega, by simp only; omega, .inl rfl⟩
        · simp
theorem paceMeter_spec (a : Int) (ha : (Lit.int .i64 a).wf = true) (b : Int) (hb : (Lit.int .i64 b).wf = true) (l : AV) (hl : Has (.sl [.int .i64]) l) :
    Tri Try.prog 4 [.int .i64 a, .int .i64 b, l] [] (fun v m => v = .bool true) := by
  simp only [Has] at hl
  obtain ⟨xs, rfl, hxl, hx⟩ := hl
  obtain ⟨l, rfl, hw⟩ := ints_row hx
  simp only [List.length_cons, List.length_nil]
  rw [iv_len] at hxl
  skip
  refine (Tri.asB (Tri.enter (rl := r4) (code := c4) (by kernel_rfl) Try.func4 rfl c4_ok (by kernel_rfl) (by kernel_rfl) ?_))
  refine run_ok 4000 _ _ _ _ ?_
  simp (maxSteps := 10000000) only [go_sem, c4, r4, iv_len]
  refine sem_call rfl rfl (((awake17_spec).embed [] rfl trivial rfl rfl rfl (by simp)).mono ?_)
  rintro _ _ ⟨_, _, ⟨rfl, rfl⟩, rfl, rfl⟩
  refine run_ok 4000 _ _ _ _ ?_
  simp (maxSteps := 10000000) only [go_sem, iv_len]
  refine sem_call rfl rfl (((right_spec a b).embed [] rfl trivial rfl rfl rfl (by simp)).mono ?_)
  rintro _ _ ⟨_, _, ⟨rfl, rfl⟩, rfl, rfl⟩
  refine run_ok 4000 _ _ _ _ ?_
  simp (maxSteps := 10000000) only [go_sem, iv_len]
  have hg := right_good a b
  generalize right a b = q0 at *
  refine sem_virt 8 1 rfl ?_
  simp (maxSteps := 10000000) only [go_sem, iv_len]
  refine sem_nilbox 0 0 1 rfl rfl ?_
  simp (maxSteps := 10000000) only [go_sem, iv_len]
  refine sem_rounds (fun x : Nat × List Int × Int × Int => x.1 ≤ 60 ∧ x.1 ≤ l.length ∧ goodP x.2.2.1 x.2.2.2 = true)
    (fun x => [(2, .vsl 1 (iv .i64 l) false), (7, .pbox 0 0), (8, .sl 2 0 x.1 x.1 false), (9, .pbox 3 0), (10, .int .i64 (x.1 : Nat))])
    (fun x => [.box [.sl 1 x.2.1.length (last8 (tl l x.1)).length (last8 (tl l x.1)).length false], .row 1 (iv .i64 (x.2.1 ++ last8 (tl l x.1))), .row 1 (iv .i64 (tl l x.1)), .box [.int .i64 x.2.2.1, .int .i64 x.2.2.2]])
    (fun x => 60 - x.1) (0, [], q0) [0, 3, 2, 1] ⟨by simp, by simp, hg⟩ ?_ ?_
  · simp only [Emb, go_sem]
    simp [tl, last8, iv]
  rintro ⟨i, p, t, d⟩ ⟨h1, h2, h3⟩
  simp only at h1 h2 h3
  have hTl : (tl l i).length = i := tl_len h2
  refine run_ok 4000 _ _ _ _ ?_
  simp (maxSteps := 10000000) only [go_sem, iv_len]
  refine ⟨fun hlt => ⟨fun h60 => ?_, fun h60 => ?_⟩, fun hge => ?_⟩
  · have hlt : i < l.length := by omega
    have hin : (i : Int) < (l.length : Int) := by omega
    have hadd := add_spec p (last8 (tl l i)) [l[i]] true (by rw [last8_len]; omega) (by simp)
    have hT1 : addT (last8 (tl l i)) [l[i]] = last8 (tl l (i + 1)) := by rw [addT_last, tl_succ hlt]; rfl
    have hpos := tl_pos l (i + 1)
    have hl1 : (last8 (tl l (i + 1))).length = min (i + 1) 8 := by rw [last8_len, tl_len (by omega)]
    have hL1 := tl_len (show i + 1 ≤ l.length by omega)
    rw [hT1] at hadd
    have happ : iv .i64 (tl l i) ++ [[AV.int .i64 (max l[i] 0)]] = iv .i64 (tl l (i + 1)) := by rw [tl_succ hlt]; simp [iv]
    have hsub : sub (iv .i64 (tl l i)) 0 i = iv .i64 (tl l i) := by have := iv_whole (tl l i); rwa [hTl] at this
    refine ⟨⟨by omega, by omega⟩, iv_hasI hlt, ?_⟩
    skip
    simp (maxSteps := 10000000) only [go_sem, iv_len, mtr, mtg, iv_rint hlt, iv_hasI hlt, hin, Int.natCast_nonneg, mx0, hTl, happ, hsub]
    refine sem_call rfl rfl (((hadd).embed [0, 1] rfl (by repeat' first | exact trivial | rfl | (simp only [go_sem]; done) | constructor) rfl (by first | rfl | simp only [go_sem]) rfl (by simp)).mono ?_)
    rintro _ _ ⟨_, _, ⟨rfl, p1, rfl⟩, rfl, rfl⟩
    refine run_ok 4000 _ _ _ _ ?_
    simp (maxSteps := 10000000) only [go_sem, iv_len, mtr, mtg, iv_rint hlt, iv_hasI hlt, hin, Int.natCast_nonneg, mx0, hTl, happ, hsub]
    refine ⟨by unfold small; omega, ?_⟩
    have c1 := rnext_lend (tl l (i + 1)) t d (by omega) hpos h3
    have c2 := rworst_lend (tl l (i + 1)) (by omega)
    have c3 := rmean_lend (tl l (i + 1)) (by omega) hpos
    rw [hL1] at c1 c2 c3
    have n1 := next_spec p1 (last8 (tl l (i + 1))) t d (by omega) hpos h3
    have n2 := worst_spec p1 (last8 (tl l (i + 1))) (by omega)
    have n3 := mean_spec p1 (last8 (tl l (i + 1))) (by omega) hpos
    have n4 := mlen_spec p1 (last8 (tl l (i + 1)))
    have hg1 := nextF_good (last8 (tl l (i + 1))) t d hpos h3
    have hst := nextF_step (last8 (tl l (i + 1))) t d
    have hlc : ((last8 (tl l (i + 1))).length : Int) = if (8 : Int) < ((i + 1 : Nat) : Int) then 8 else ((i + 1 : Nat) : Int) := by rw [hl1]; split <;> omega
    generalize nextF (last8 (tl l (i + 1))) t d = q at *
    obtain ⟨q1, q2⟩ := q
    simp only at *
    have hg' : 1 ≤ t ∧ t ≤ 64 ∧ 1 ≤ d ∧ d ≤ 6 := by simpa [goodP] using h3
    skip
    refine sem_call rfl rfl (((n1).embed [0, 4] rfl (by repeat' first | exact trivial | rfl | (simp only [go_sem]; done) | constructor) rfl (by first | rfl | simp only [go_sem]) rfl (by simp)).mono ?_)
    rintro _ _ ⟨_, _, ⟨rfl, rfl⟩, rfl, rfl⟩
    refine run_ok 4000 _ _ _ _ ?_
    simp (maxSteps := 10000000) only [go_sem, mtr, hlc, hg1, inc64 (show i < 1000000000000 by omega)]
    refine sem_drawG l4_0_ok (by kernel_rfl) ?_
    intro KK hKK
    simp (maxSteps := 10000000) only [go_sem, l4_0, mtr, hlc, hg1, inc64 (show i < 1000000000000 by omega)]
    refine TriZ.of (((c1).embed [5] rfl (by repeat' first | exact trivial | rfl | (simp only [go_sem]; done) | constructor) rfl (by first | rfl | simp only [go_sem]) rfl (by simp)).mono ?_)
    rintro _ _ ⟨_, _, ⟨rfl, rfl⟩, rfl, rfl⟩
    simp (maxSteps := 10000000) only [go_sem, mtr, hlc, hg1, inc64 (show i < 1000000000000 by omega)]
    refine TriZ.of (((n2).embed [0, 4] rfl (by repeat' first | exact trivial | rfl | (simp only [go_sem]; done) | constructor) rfl (by first | rfl | simp only [go_sem]) rfl (by simp)).mono ?_)
    rintro _ _ ⟨_, _, ⟨rfl, rfl⟩, rfl, rfl⟩
    simp (maxSteps := 10000000) only [go_sem, mtr, hlc, hg1, inc64 (show i < 1000000000000 by omega)]
    refine TriZ.of (((c2).embed [5] rfl (by repeat' first | exact trivial | rfl | (simp only [go_sem]; done) | constructor) rfl (by first | rfl | simp only [go_sem]) rfl (by simp)).mono ?_)
    rintro _ _ ⟨_, _, ⟨rfl, rfl⟩, rfl, rfl⟩
    simp (maxSteps := 10000000) only [go_sem, mtr, hlc, hg1, inc64 (show i < 1000000000000 by omega)]
    refine TriZ.of (((n3).embed [0, 4] rfl (by repeat' first | exact trivial | rfl | (simp only [go_sem]; done) | constructor) rfl (by first | rfl | simp only [go_sem]) rfl (by simp)).mono ?_)
    rintro _ _ ⟨_, _, ⟨rfl, rfl⟩, rfl, rfl⟩
    simp (maxSteps := 10000000) only [go_sem, mtr, hlc, hg1, inc64 (show i < 1000000000000 by omega)]
    refine TriZ.of (((c3).embed [5] rfl (by repeat' first | exact trivial | rfl | (simp only [go_sem]; done) | constructor) rfl (by first | rfl | simp only [go_sem]) rfl (by simp)).mono ?_)
    rintro _ _ ⟨_, _, ⟨rfl, rfl⟩, rfl, rfl⟩
    simp (maxSteps := 10000000) only [go_sem, mtr, hlc, hg1, inc64 (show i < 1000000000000 by omega)]
    refine TriZ.of (((n4).embed [0, 4] rfl (by repeat' first | exact trivial | rfl | (simp only [go_sem]; done) | constructor) rfl (by first | rfl | simp only [go_sem]) rfl (by simp)).mono ?_)
    rintro _ _ ⟨_, _, ⟨rfl, rfl⟩, rfl, rfl⟩
    simp (maxSteps := 10000000) only [go_sem, mtr, hlc, hg1, inc64 (show i < 1000000000000 by omega)]
    subst hKK
    simp (maxSteps := 10000000) only [go_sem, mtr, hlc, hg1, inc64 (show i < 1000000000000 by omega)]
    have hq' : 1 ≤ q1 ∧ q1 ≤ 64 ∧ 1 ≤ q2 ∧ q2 ≤ 6 := by simpa [goodP] using hg1
    have w1 : iwrap .i64 (q1 - t) = q1 - t := iwrap_i64_in (by omega)
    have w2 : iwrap .i64 (q2 - d) = q2 - d := iwrap_i64_in (by omega)
    have f1 : ¬ (q1 - t < 0) := by omega
    have f2 : ¬ (q1 - t > 1) := by omega
    have f3 : ¬ (q2 - d < -1) := by omega
    have f4 : ¬ (q2 - d > 1) := by omega
    by_cases e : q1 = t
    · have e1 : (q1 != t) = false := by simp [e]
      skip
      refine sem_call rfl rfl (((check_spec q1 q2).embed [] rfl trivial rfl rfl rfl (by simp)).mono ?_)
      rintro _ _ ⟨_, _, ⟨rfl, rfl⟩, rfl, rfl⟩
      refine run_ok 4000 _ _ _ _ ?_
      simp (maxSteps := 10000000) only [go_sem, hg1, inc64 (show i < 1000000000000 by omega), w1, w2, f1, f2, f3, f4, e1]
      refine ⟨(i + 1, p1, q1, q2), by simp only; omega, ⟨by simp only; omega, hlt, hg1⟩, [0, 4, 5, 3], ?_⟩
      simp only [Emb, go_sem, hL1]
    · have e1 : (q1 != t) = true := by simp [e]
      have e2 : (q2 != d) = false := by simp only [bne_eq_false_iff_eq]; omega
      skip
      refine sem_call rfl rfl (((check_spec q1 q2).embed [] rfl trivial rfl rfl rfl (by simp)).mono ?_)
      rintro _ _ ⟨_, _, ⟨rfl, rfl⟩, rfl, rfl⟩
      refine run_ok 4000 _ _ _ _ ?_
      simp (maxSteps := 10000000) only [go_sem, hg1, inc64 (show i < 1000000000000 by omega), w1, w2, f1, f2, f3, f4, e1, e2]
      refine ⟨(i + 1, p1, q1, q2), by simp only; omega, ⟨by simp only; omega, hlt, hg1⟩, [0, 4, 5, 3], ?_⟩
      simp only [Emb, go_sem, hL1]
  · have hbig : (l.length : Int) > 60 := by omega
    skip
    refine run_ok 4000 _ _ _ _ ?_
    simp (maxSteps := 10000000) only [go_sem, iv_len, mtr, mtg, hbig]
    refine sem_nilbox 4 0 1 rfl rfl ?_
    simp (maxSteps := 10000000) only [go_sem, iv_len, mtr, mtg, hbig]
    refine sem_call rfl rfl (((add_spec [] [] l false (by simp) hxl).embed [4, 5] rfl (by repeat' first | exact trivial | rfl | (simp only [go_sem]; done) | constructor) rfl (by first | rfl | simp only [go_sem]) rfl (by simp)).mono ?_)
    rintro _ _ ⟨_, _, ⟨rfl, p1, rfl⟩, rfl, rfl⟩
    refine run_ok 4000 _ _ _ _ ?_
    simp (maxSteps := 10000000) only [go_sem, iv_len, mtr, mtg, hbig]
  · have hi : i = l.length := by omega
    have hT : addT [] l = last8 (tl l i) := by rw [addT_nil, hi]; simp [tl]
    have hadd := add_spec [] [] l false (by simp) hxl
    rw [hT] at hadd
    have hl8 := last8_len (tl l i)
    by_cases h60 : (l.length : Int) > 60
    · skip
      refine run_ok 4000 _ _ _ _ ?_
      simp (maxSteps := 10000000) only [go_sem, iv_len, mtr, mtg, h60]
      refine sem_nilbox 4 0 1 rfl rfl ?_
      simp (maxSteps := 10000000) only [go_sem, iv_len, mtr, mtg, h60]
      refine sem_call rfl rfl (((hadd).embed [4, 5] rfl (by repeat' first | exact trivial | rfl | (simp only [go_sem]; done) | constructor) rfl (by first | rfl | simp only [go_sem]) rfl (by simp)).mono ?_)
      rintro _ _ ⟨_, _, ⟨rfl, p1, rfl⟩, rfl, rfl⟩
      refine run_ok 4000 _ _ _ _ ?_
      simp (maxSteps := 10000000) only [go_sem, iv_len, mtr, mtg, h60]
    · skip
      refine run_ok 4000 _ _ _ _ ?_
      simp (maxSteps := 10000000) only [go_sem, iv_len, mtr, mtg, h60]
      refine sem_nilbox 4 0 1 rfl rfl ?_
      simp (maxSteps := 10000000) only [go_sem, iv_len, mtr, mtg, h60]
      refine sem_call rfl rfl (((hadd).embed [4, 5] rfl (by repeat' first | exact trivial | rfl | (simp only [go_sem]; done) | constructor) rfl (by first | rfl | simp only [go_sem]) rfl (by simp)).mono ?_)
      rintro _ _ ⟨_, _, ⟨rfl, p1, rfl⟩, rfl, rfl⟩
      refine run_ok 4000 _ _ _ _ ?_
      simp (maxSteps := 10000000) only [go_sem, iv_len, mtr, mtg, h60]
      refine sem_call rfl rfl (((worst_spec p1 (last8 (tl l i)) (by omega)).embed [4, 6] rfl (by repeat' first | exact trivial | rfl | (simp only [go_sem]; done) | constructor) rfl (by first | rfl | simp only [go_sem]) rfl (by simp)).mono ?_)
      rintro _ _ ⟨_, _, ⟨rfl, rfl⟩, rfl, rfl⟩
      refine run_ok 4000 _ _ _ _ ?_
      simp (maxSteps := 10000000) only [go_sem, iv_len, mtr, mtg, h60]
      refine sem_call rfl rfl (((worst_spec p (last8 (tl l i)) (by omega)).embed [0, 1] rfl (by repeat' first | exact trivial | rfl | (simp only [go_sem]; done) | constructor) rfl (by first | rfl | simp only [go_sem]) rfl (by simp)).mono ?_)
      rintro _ _ ⟨_, _, ⟨rfl, rfl⟩, rfl, rfl⟩
      refine run_ok 4000 _ _ _ _ ?_
      simp (maxSteps := 10000000) only [go_sem, iv_len, mtr, mtg, h60]
      refine sem_call rfl rfl (((mlen_spec p1 (last8 (tl l i))).embed [4, 6] rfl (by repeat' first | exact trivial | rfl | (simp only [go_sem]; done) | constructor) rfl (by first | rfl | simp only [go_sem]) rfl (by simp)).mono ?_)
      rintro _ _ ⟨_, _, ⟨rfl, rfl⟩, rfl, rfl⟩
      refine run_ok 4000 _ _ _ _ ?_
      simp (maxSteps := 10000000) only [go_sem, iv_len, mtr, mtg, h60]
      refine sem_call rfl rfl (((mlen_spec p (last8 (tl l i))).embed [0, 1] rfl (by repeat' first | exact trivial | rfl | (simp only [go_sem]; done) | constructor) rfl (by first | rfl | simp only [go_sem]) rfl (by simp)).mono ?_)
      rintro _ _ ⟨_, _, ⟨rfl, rfl⟩, rfl, rfl⟩
      refine run_ok 4000 _ _ _ _ ?_
      simp (maxSteps := 10000000) only [go_sem, iv_len, mtr, mtg, h60]
end Go.AEX
