/- Link: ORDER: the messages that come out are those that were sent, in their order, each once. -/
import Derived.Test.YthpfmahafgfbeaaHEv
namespace Go.AEX
open Go Go.AE Go.Proofs
set_option maxRecDepth 100000
set_option linter.unusedVariables false
set_option linter.unusedSimpArgs false

def arow (a : Act) : List AV := [.int .i64 a.kind, .int .i64 a.who, .int .i64 a.n, .int .i64 a.at', .int .u8 a.y.toNat, .str a.s]
theorem act_row {x : List AV} (h : HasL [.int .i64, .int .i64, .int .i64, .int .i64, .int .u8, .str] x) : ∃ a : Act, x = arow a := by
  simp only [HasL, Has] at h
  obtain ⟨_, _, rfl, ⟨k, rfl, _⟩, _, _, rfl, ⟨b, rfl, _⟩, _, _, rfl, ⟨c, rfl, _⟩, _, _, rfl, ⟨d, rfl, _⟩, _, _, rfl, ⟨f, rfl, hf⟩, _, _, rfl, ⟨s, rfl, _⟩, rfl⟩ := h
  obtain ⟨f, rfl⟩ := wf_u8 hf
  exact ⟨⟨k, b, c, d, f, s⟩, rfl⟩
theorem dir0 : Dir [] LS0 LS0 [] 0 0 := by
  refine ⟨rfl, rfl, by simp, by simp, rfl, by simp, by simp [LS0], by simp [LS0], by simp [LS0], by simp [LS0], by simp [LS0], fun k h1 h2 => by omega, Nat.le_refl _, rfl, rfl, rfl⟩
theorem tmr0 : Tmr LS0 0 := ⟨by decide, rfl, by simp [LS0]⟩
theorem inv0 : Inv 0 PS0 0 0 0 0 :=
  ⟨dir0, dir0, by simp [PS0], by simp [PS0], by simp [PS0], by simp [PS0], tmr0, tmr0, by decide, by decide, by decide, by decide, by decide, by decide, by decide⟩
theorem hawk_spec : Tri Try.prog 8 [] [] (fun v m => v = .bool true ∧ m = []) := by
  refine Tri.post (lawake_spec.mono ?_)
  rintro v m rfl
  exact ⟨_, [], .sub [] (by simp [EmbV, go_sem]) .done, rfl, rfl⟩
set_option maxHeartbeats 40000000 in
theorem linkCarries_spec (l : AV) (hl : Has (.sl [.int .i64, .int .i64, .int .i64, .int .i64, .int .u8, .str]) l) :
    Tri Try.prog 5 [l] [] (fun v m => v = .bool true) := by
  simp only [Has] at hl
  obtain ⟨xs, rfl, hxl, hx⟩ := hl
  simp only [List.length_cons, List.length_nil]
  refine Tri.post ?_
  have hb := lbegin0_spec
  have hawk := hawk_spec
  skip
  refine (Tri.enter (rl := r5) (code := c5) (by kernel_rfl) Try.func5 rfl c5_ok (by kernel_rfl) (by kernel_rfl) ?_)
  refine run_ok 4000 _ _ _ _ ?_
  simp (maxSteps := 10000000) only [go_sem, c5, r5, lkA, lkC, pBox0, List.cons_append, List.nil_append]
  refine sem_call rfl rfl (((hb).embed [] rfl trivial rfl rfl rfl (by simp)).mono ?_)
  rintro _ _ ⟨_, _, ⟨rfl, rfl⟩, rfl, rfl⟩
  simp (maxSteps := 10000000) only [go_sem, lkA, lkC, pBox0, List.cons_append, List.nil_append]
  refine sem_nilbox 0 2 1 rfl rfl ?_
  refine sem_nilbox 0 3 1 rfl rfl ?_
  refine sem_nilbox 0 4 1 rfl rfl ?_
  refine sem_nilbox 0 5 1 rfl rfl ?_
  refine sem_nilbox 0 6 1 rfl rfl ?_
  refine sem_nilbox 0 7 1 rfl rfl ?_
  simp (maxSteps := 10000000) only [go_sem, lkA, lkC, pBox0, List.cons_append, List.nil_append]
  refine run_ok 4000 _ _ _ _ ?_
  simp (maxSteps := 10000000) only [go_sem, lkA, lkC, pBox0, List.cons_append, List.nil_append]
  refine sem_call rfl rfl (((hawk).embed [] rfl trivial rfl rfl rfl (by simp)).mono ?_)
  rintro _ _ ⟨_, _, ⟨rfl, rfl⟩, rfl, rfl⟩
  refine run_ok 4000 _ _ _ _ ?_
  simp (maxSteps := 10000000) only [go_sem, lkA, lkC, pBox0, List.cons_append, List.nil_append]
  refine sem_rounds (fun q : Nat × PS => q.1 ≤ 200 ∧ ∃ Na Mb Nb Ma, Inv q.1 q.2 Na Mb Nb Ma)
    (fun q => [(0, .vsl 6 xs false), (3, .pbox 0 0), (5, .int .i64 (q.1 : Nat))])
    (fun q => pN q.2) (fun q => 200 - q.1) (0, PS0) [0, 1, 2, 3, 4, 5, 6, 7, 8, 9, 10, 11, 12, 13, 14, 15, 16, 17, 18, 19, 20] ⟨by simp, 0, 0, 0, 0, inv0⟩ ?_ ?_
  · simp [Emb, go_sem, PS0, LS0, sv, irows, terows, me, prows]
  rintro ⟨i, p⟩ ⟨hi, Na, Mb, Nb, Ma, hI⟩
  simp only at hi hI ⊢
  by_cases c : i < xs.length ∧ i < 200
  · have hlt : i < xs.length := by omega
    have hin1 : (i : Int) < (xs.length : Int) := by omega
    have hin2 : (i : Int) < 200 := by omega
    obtain ⟨a, hrow⟩ := act_row (hx _ (List.getElem_mem hlt))
    have hg0 : xs[i]? = some (arow a) := by rw [List.getElem?_eq_getElem hlt, hrow]
    have e0 : rint xs i 0 = a.kind := by simp [rint, List.getD_eq_getElem?_getD, hg0, arow]
    have e1 : rint xs i 1 = a.who := by simp [rint, List.getD_eq_getElem?_getD, hg0, arow]
    have e2 : rint xs i 2 = a.n := by simp [rint, List.getD_eq_getElem?_getD, hg0, arow]
    have e3 : rint xs i 3 = a.at' := by simp [rint, List.getD_eq_getElem?_getD, hg0, arow]
    have e4 : rint xs i 4 = a.y.toNat := by simp [rint, List.getD_eq_getElem?_getD, hg0, arow]
    have e5 : rstr xs i 5 = a.s := by simp [rstr, List.getD_eq_getElem?_getD, hg0, arow]
    have i0 : hasI .i64 xs i 0 := ⟨_, a.kind, hg0, rfl⟩
    have i1 : hasI .i64 xs i 1 := ⟨_, a.who, hg0, rfl⟩
    have i2 : hasI .i64 xs i 2 := ⟨_, a.n, hg0, rfl⟩
    have i3 : hasI .i64 xs i 3 := ⟨_, a.at', hg0, rfl⟩
    have i4 : hasI .u8 xs i 4 := ⟨_, (a.y.toNat : Int), hg0, rfl⟩
    have i5 : hasS xs i 5 := ⟨_, a.s, hg0, rfl⟩
    obtain ⟨hd, hn⟩ := does_spec hI (by omega) a
    generalize doesF p a = p' at *
    simp only [actV, pN, pN2] at hd
    skip
    refine run_ok 4000 _ _ _ _ ?_
    simp (maxSteps := 10000000) only [go_sem, hin1, hin2, e0, e1, e2, e3, e4, e5, i0, i1, i2, i3, i4, i5, Int.natCast_nonneg, inc64 (show i < 1000000000000 by omega)]
    refine sem_call rfl rfl (((hd).embed [0, 1, 2, 3, 4, 5, 6, 7, 8, 9, 10, 11, 12, 13, 14, 15, 16, 17, 18, 19, 20] rfl (by repeat' first | exact trivial | rfl | (simp only [go_sem]; done) | constructor) rfl (by first | rfl | simp only [go_sem]) rfl (by simp)).mono ?_)
    rintro _ _ ⟨v2, m2, ⟨h1, h2⟩, h3, h4⟩
    subst h3
    subst h4
    subst h1
    subst h2
    refine run_ok 4000 _ _ _ _ ?_
    simp (maxSteps := 10000000) only [go_sem, hin1, hin2, e0, e1, e2, e3, e4, e5, i0, i1, i2, i3, i4, i5, Int.natCast_nonneg, inc64 (show i < 1000000000000 by omega)]
    refine ⟨(i + 1, p'), by simp only; omega, ⟨by simp only; omega, hn⟩, [0, 1, 2, 3, 4, 21, 6, 22, 8, 9, 10, 11, 23, 13, 24, 25, 26, 27, 28, 29, 30], ?_⟩
    simp only [Emb, go_sem]
  · have hc0 := lcounts_spec p.a
    have hc1 := lcounts_spec p.b
    have z0 : (p.a.car == (p.c0.length : Int)) = true := by rw [hI.ba.car]; simp
    have z1 : (p.b.car == (p.c1.length : Int)) = true := by rw [hI.ab.car]; simp
    simp only [lkM, lkB] at hc0 hc1
    by_cases c1 : i < xs.length
    · have hin1 : (i : Int) < (xs.length : Int) := by omega
      have hin2 : ¬ (i : Int) < 200 := by omega
      skip
      refine run_ok 4000 _ _ _ _ ?_
      simp (maxSteps := 10000000) only [go_sem, hin1, hin2, z0, z1]
      refine run_ok 4000 _ _ _ _ ?_
      simp (maxSteps := 10000000) only [go_sem, hin1, hin2, z0, z1]
      refine sem_call rfl rfl (((hc0).embed [1, 2, 3, 4, 5, 6, 7] rfl (by repeat' first | exact trivial | rfl | (simp only [go_sem]; done) | constructor) rfl (by first | rfl | simp only [go_sem]) rfl (by simp)).mono ?_)
      rintro _ _ ⟨_, _, ⟨rfl, rfl⟩, rfl, rfl⟩
      refine run_ok 4000 _ _ _ _ ?_
      simp (maxSteps := 10000000) only [go_sem, hin1, hin2, z0, z1]
      refine sem_call rfl rfl (((hc1).embed [8, 9, 10, 11, 12, 13, 14] rfl (by repeat' first | exact trivial | rfl | (simp only [go_sem]; done) | constructor) rfl (by first | rfl | simp only [go_sem]) rfl (by simp)).mono ?_)
      rintro _ _ ⟨_, _, ⟨rfl, rfl⟩, rfl, rfl⟩
      refine run_ok 4000 _ _ _ _ ?_
      simp (maxSteps := 10000000) only [go_sem, hin1, hin2, z0, z1]
      refine ⟨_, [], .like (Like.bool true) (.sub [] ?_ .done), rfl⟩
      simp only [EmbV, go_sem]
    · have hin1 : ¬ (i : Int) < (xs.length : Int) := by omega
      skip
      refine run_ok 4000 _ _ _ _ ?_
      simp (maxSteps := 10000000) only [go_sem, hin1, z0, z1]
      refine run_ok 4000 _ _ _ _ ?_
      simp (maxSteps := 10000000) only [go_sem, hin1, z0, z1]
      refine sem_call rfl rfl (((hc0).embed [1, 2, 3, 4, 5, 6, 7] rfl (by repeat' first | exact trivial | rfl | (simp only [go_sem]; done) | constructor) rfl (by first | rfl | simp only [go_sem]) rfl (by simp)).mono ?_)
      rintro _ _ ⟨_, _, ⟨rfl, rfl⟩, rfl, rfl⟩
      refine run_ok 4000 _ _ _ _ ?_
      simp (maxSteps := 10000000) only [go_sem, hin1, z0, z1]
      refine sem_call rfl rfl (((hc1).embed [8, 9, 10, 11, 12, 13, 14] rfl (by repeat' first | exact trivial | rfl | (simp only [go_sem]; done) | constructor) rfl (by first | rfl | simp only [go_sem]) rfl (by simp)).mono ?_)
      rintro _ _ ⟨_, _, ⟨rfl, rfl⟩, rfl, rfl⟩
      refine run_ok 4000 _ _ _ _ ?_
      simp (maxSteps := 10000000) only [go_sem, hin1, z0, z1]
      refine ⟨_, [], .like (Like.bool true) (.sub [] ?_ .done), rfl⟩
      simp only [EmbV, go_sem]
end Go.AEX
