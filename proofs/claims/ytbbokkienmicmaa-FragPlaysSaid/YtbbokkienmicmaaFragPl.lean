/- FragPlays: the law's evaluation. -/
import Derived.Test.YtbbokkienmicmaaFrag2
import Derived.Test.YtbbokkienmicmaaAEsa
namespace Go.AEX
open Go Go.AE Go.Proofs
set_option maxRecDepth 100000
set_option linter.unusedVariables false
set_option linter.unusedSimpArgs false

theorem Like.tup5b (a b c e : AV) (x : Bool) : Like (.tup [a, b, c, .bool x, e]) (.tup [a, b, c, .bsym x, e]) := fun φ σ y hy => by
  cases hy with | tup hy => cases hy with | cons g1 hy => cases hy with | cons g2 hy => cases hy with | cons g3 hy => cases hy with | cons g4 hy => cases hy with | cons g5 hy => cases hy; cases g4; exact .tup (.cons g1 (.cons g2 (.cons g3 (.cons .bsym (.cons g5 .nil)))))
theorem rputf_spec (s : List UInt8) (n : Nat) (b : Bool) (t : List UInt8) (hs : s.length ≤ 1000000) (ht : t.length ≤ 1000000) (hn : n ≤ 1000000) :
    Tri Try.prog 16 [.str s, .int .i64 (n : Nat), .agg [.bsym b, .str t]] []
      (fun v m => v = .tup [.str (putS s n b t).1, .int .i64 ((putS s n b t).2 : Nat), .str (putV s b t).1, .bsym (putV s b t).2.1, .int .i64 (putV s b t).2.2] ∧ m = []) := by
  have hw : iwrap .i64 ((s.length : Int) + (t.length : Int)) = ((s.length + t.length : Nat) : Int) := by rw [iwrap_i64_in (by omega)]; rfl
  have hi := inc64 (show n < 1000000000000 by omega)
  refine Tri.post ?_
  skip
  refine (Tri.enter (rl := r16) (code := c16) (by kernel_rfl) Try.func16 rfl c16_ok (by kernel_rfl) (by kernel_rfl) ?_)
  refine run_ok 4000 _ _ _ _ ?_
  simp (maxSteps := 10000000) only [go_sem, c16, r16, hw, hi]
  refine ⟨fun h => ?_, fun h1 => ⟨fun h => ?_, fun h2 => ⟨fun h => ?_, fun h => ?_⟩⟩⟩
  · have hb : putBig s t = true := by simp [putBig]; omega
    refine ⟨_, _, .like (Like.tup5b _ _ _ _ _) (.sub [] ?_ .done), rfl, rfl⟩
    simp only [EmbV, go_sem]
    simp [putS, putV, hb]
  · have hb : putBig s t = true := by simp [putBig]; omega
    refine ⟨_, _, .like (Like.tup5b _ _ _ _ _) (.sub [] ?_ .done), rfl, rfl⟩
    simp only [EmbV, go_sem]
    simp [putS, putV, hb]
  · have hb : putBig s t = false := by simp [putBig]; omega
    subst h
    refine sem_drawG l16_0_ok (by kernel_rfl) ?_
    intro KK hKK
    simp (maxSteps := 10000000) only [go_sem, l16_0, hw, hi]
    subst hKK
    simp (maxSteps := 10000000) only [go_sem, hw, hi]
    refine ⟨by omega, ?_⟩
    refine ⟨_, _, .like (Like.tup5b _ _ _ _ _) (.sub [] ?_ .done), rfl, rfl⟩
    simp only [EmbV, go_sem]
    simp [putS, putV, hb]
  · have hb : putBig s t = false := by simp [putBig]; omega
    have h : b = false := by simpa using h
    subst h
    refine ⟨by omega, ?_⟩
    refine ⟨_, _, .like (Like.tup5b _ _ _ _ _) (.sub [] ?_ .done), rfl, rfl⟩
    simp only [EmbV, go_sem]
    simp [putS, putV, hb]
theorem part_row {x : List AV} (h : HasL [.bool, .str] x) : ∃ b s, x = [.bsym b, .str s] := by
  simp only [HasL, Has] at h
  obtain ⟨_, _, rfl, ⟨b, rfl⟩, _, _, rfl, ⟨s, rfl, _⟩, rfl⟩ := h
  exact ⟨b, s, rfl⟩
theorem fragPlays_spec (l : AV) (hl : Has (.sl [.bool, .str]) l) : Tri Try.prog 3 [l] [] (fun v m => v = .bool true) := by
  simp only [Has] at hl
  obtain ⟨xs, rfl, hxl, hx⟩ := hl
  simp only [List.length_cons, List.length_nil]
  refine (Tri.asB (Tri.enter (rl := r3) (code := c3) (by kernel_rfl) Try.func3 rfl c3_ok (by kernel_rfl) (by kernel_rfl) ?_))
  refine run_ok 4000 _ _ _ _ ?_
  simp (maxSteps := 10000000) only [go_sem, c3, r3]
  refine sem_call rfl rfl (((awake12_spec).embed [] rfl trivial rfl rfl rfl (by simp)).mono ?_)
  rintro _ _ ⟨_, _, ⟨rfl, rfl⟩, rfl, rfl⟩
  refine run_ok 4000 _ _ _ _ ?_
  simp (maxSteps := 10000000) only [go_sem]
  refine sem_rounds (fun x : Nat × List UInt8 × Nat => x.1 ≤ 60 ∧ x.2.1.length ≤ 65536 ∧ x.2.2 ≤ x.1)
    (fun x => [(0, .vsl 2 xs false), (3, .pbox 0 0), (4, .str x.2.1), (5, .int .i64 (x.2.2 : Nat)), (6, .int .i64 (x.1 : Nat))])
    (fun x => [.box [.str x.2.1, .int .i64 (x.2.2 : Nat)]]) (fun x => 60 - x.1) (0, [], 0) [0] ⟨by simp, by simp, by simp⟩ ?_ ?_
  · simp only [Emb, go_sem]
  rintro ⟨i, s, n⟩ ⟨h1, h2, h3⟩
  simp only at h1 h2 h3
  refine run_ok 4000 _ _ _ _ ?_
  simp (maxSteps := 10000000) only [go_sem]
  refine ⟨fun hlt => ⟨fun h60 => ?_, fun h60 => ?_⟩, fun hge => ?_⟩
  · have hlt : i < xs.length := by omega
    have hin : (i : Int) < (xs.length : Int) := by omega
    obtain ⟨b, t0, hrow⟩ := part_row (hx _ (List.getElem_mem hlt))
    have hg0 : xs[i]? = some [.bsym b, .str t0] := by rw [List.getElem?_eq_getElem hlt, hrow]
    have e0 : rbool xs i 0 = b := by simp [rbool, List.getD_eq_getElem?_getD, hg0]
    have e1 : rstr xs i 1 = t0 := by simp [rstr, List.getD_eq_getElem?_getD, hg0]
    have i0 : hasB xs i 0 := ⟨_, b, hg0, by simp⟩
    have i1 : hasS xs i 1 := ⟨_, t0, hg0, by simp⟩
    have htl : (t0.take 210).length ≤ 210 := by simp; omega
    have cc := cut_spec t0 210 (by decide)
    have q := putS_len s n b (t0.take 210) h2 (by omega)
    have cp := put_spec s n b (t0.take 210) (by omega) (by omega) (by omega)
    have rp := rputf_spec s n b (t0.take 210) (by omega) (by omega) (by omega)
    rw [show (210 : Int).toNat = 210 by decide] at cc
    generalize t0.take 210 = t at *
    generalize putS s n b t = S at *
    generalize putV s b t = V at *
    skip
    refine sem_draw2 l3_0_ok (by kernel_rfl) ?_
    intro KK hKK
    refine ⟨?_, ?_⟩
    · simp (maxSteps := 10000000) only [go_sem, l3_0, e0, e1, i0, i1, hin, Int.natCast_nonneg]
      refine TriZ.of (((cc).embed [] rfl (by repeat' first | exact trivial | rfl | (simp only [go_sem]; done) | constructor) rfl (by first | rfl | simp only [go_sem]) rfl (by simp)).mono ?_)
      rintro _ _ ⟨_, _, ⟨rfl, rfl⟩, rfl, rfl⟩
      simp (maxSteps := 10000000) only [go_sem, e0, e1, i0, i1, hin, Int.natCast_nonneg]
      skip
      subst hKK
      simp (maxSteps := 10000000) only [go_sem, inc64 (show i < 1000000000000 by omega)]
      refine sem_call rfl rfl (((cp).embed [0] rfl (by repeat' first | exact trivial | rfl | (simp only [go_sem]; done) | constructor) rfl (by first | rfl | simp only [go_sem]) rfl (by simp)).mono ?_)
      rintro _ _ ⟨_, _, ⟨rfl, rfl⟩, rfl, rfl⟩
      refine run_ok 4000 _ _ _ _ ?_
      simp (maxSteps := 10000000) only [go_sem, inc64 (show i < 1000000000000 by omega)]
      refine sem_call rfl rfl (((rp).embed [] rfl trivial rfl rfl rfl (by simp)).mono ?_)
      rintro _ _ ⟨_, _, ⟨rfl, rfl⟩, rfl, rfl⟩
      refine run_ok 4000 _ _ _ _ ?_
      simp (maxSteps := 10000000) only [go_sem, inc64 (show i < 1000000000000 by omega)]
      refine sem_call rfl rfl (((open_spec S.1 S.2).embed [0] rfl (by repeat' first | exact trivial | rfl | (simp only [go_sem]; done) | constructor) rfl (by first | rfl | simp only [go_sem]) rfl (by simp)).mono ?_)
      rintro _ _ ⟨_, _, ⟨rfl, rfl⟩, rfl, rfl⟩
      refine run_ok 4000 _ _ _ _ ?_
      simp (maxSteps := 10000000) only [go_sem, inc64 (show i < 1000000000000 by omega)]
      refine ⟨(i + 1, S.1, S.2), by simp only; omega, ⟨by simp only; omega, q.1, by simp only; omega⟩, [0], ?_⟩
      simp only [Emb, go_sem]
    · skip
      simp (maxSteps := 10000000) only [go_sem, l3_0b, e0, e1, i0, i1, hin, Int.natCast_nonneg]
      refine TriZ.of (((cc).embed [] rfl (by repeat' first | exact trivial | rfl | (simp only [go_sem]; done) | constructor) rfl (by first | rfl | simp only [go_sem]) rfl (by simp)).mono ?_)
      rintro _ _ ⟨_, _, ⟨rfl, rfl⟩, rfl, rfl⟩
      simp (maxSteps := 10000000) only [go_sem, e0, e1, i0, i1, hin, Int.natCast_nonneg]
      skip
      subst hKK
      simp (maxSteps := 10000000) only [go_sem, inc64 (show i < 1000000000000 by omega)]
      refine sem_call rfl rfl (((cp).embed [0] rfl (by repeat' first | exact trivial | rfl | (simp only [go_sem]; done) | constructor) rfl (by first | rfl | simp only [go_sem]) rfl (by simp)).mono ?_)
      rintro _ _ ⟨_, _, ⟨rfl, rfl⟩, rfl, rfl⟩
      refine run_ok 4000 _ _ _ _ ?_
      simp (maxSteps := 10000000) only [go_sem, inc64 (show i < 1000000000000 by omega)]
      refine sem_call rfl rfl (((rp).embed [] rfl trivial rfl rfl rfl (by simp)).mono ?_)
      rintro _ _ ⟨_, _, ⟨rfl, rfl⟩, rfl, rfl⟩
      refine run_ok 4000 _ _ _ _ ?_
      simp (maxSteps := 10000000) only [go_sem, inc64 (show i < 1000000000000 by omega)]
      refine sem_call rfl rfl (((open_spec S.1 S.2).embed [0] rfl (by repeat' first | exact trivial | rfl | (simp only [go_sem]; done) | constructor) rfl (by first | rfl | simp only [go_sem]) rfl (by simp)).mono ?_)
      rintro _ _ ⟨_, _, ⟨rfl, rfl⟩, rfl, rfl⟩
      refine run_ok 4000 _ _ _ _ ?_
      simp (maxSteps := 10000000) only [go_sem, inc64 (show i < 1000000000000 by omega)]
      refine ⟨(i + 1, S.1, S.2), by simp only; omega, ⟨by simp only; omega, q.1, by simp only; omega⟩, [0], ?_⟩
      simp only [Emb, go_sem]
  · skip
    refine run_ok 4000 _ _ _ _ ?_
    simp (maxSteps := 10000000) only [go_sem]
  · refine run_ok 4000 _ _ _ _ ?_
    simp (maxSteps := 10000000) only [go_sem]
end Go.AEX
