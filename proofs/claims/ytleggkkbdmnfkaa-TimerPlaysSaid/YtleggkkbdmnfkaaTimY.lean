/- TimerPlays. -/
import Derived.Test.YtleggkkbdmnfkaaTimI
import Derived.Test.YtleggkkbdmnfkaaTimA
import Derived.Test.YtleggkkbdmnfkaaTimO
namespace Go.AEX
open Go Go.AE Go.Proofs
set_option maxRecDepth 100000
set_option linter.unusedVariables false
set_option linter.unusedSimpArgs false

theorem sem_tail {P : Program} {n k0 : Nat} {α : Type} (J : α → Prop) (sl : α → List (Nat × AV)) (mm : α → Mem) {k : List C} {Q : Exit → Tr → Mem → Prop} {S : Prop} (h : (∀ x, J x → SemW P n k0 k (mkP (sl x)) (mm x) Q) → S)
    (ht : ∀ x, J x → SemW P n k0 k (mkP (sl x)) (mm x) Q) : S := h ht
theorem u32s_of {xs : List (List AV)} (h : ∀ x ∈ xs, HasL [.int .u32] x) : ∃ l : List Int, xs = uv l := by
  induction xs with
  | nil => exact ⟨[], rfl⟩
  | cons x xs ih =>
    obtain ⟨l, rfl⟩ := ih fun y hy => h y (by simp [hy])
    have hx := h x (by simp)
    simp only [HasL, Has] at hx
    obtain ⟨_, _, rfl, ⟨a, rfl, ha⟩, rfl⟩ := hx
    exact ⟨a :: l, rfl⟩
structure TAct where
  k : Int
  b : Int
  n : Int
  ns : List Int
def tarow (a : TAct) : List AV := [.int .i64 a.k, .int .i64 a.b, .int .u32 a.n, .vsl 1 (uv a.ns) false]
theorem tact_row {x : List AV} (h : HasL [.int .i64, .int .i64, .int .u32, .sl [.int .u32]] x) : ∃ a : TAct, x = tarow a ∧ a.ns.length ≤ 9223372036854775807 := by
  simp only [HasL, Has] at h
  obtain ⟨_, _, rfl, ⟨k, rfl, _⟩, _, _, rfl, ⟨b, rfl, _⟩, _, _, rfl, ⟨c, rfl, _⟩, _, _, rfl, ⟨xs, rfl, hl, hx⟩, rfl⟩ := h
  obtain ⟨l, rfl⟩ := u32s_of (by simpa only [HasL, Has] using hx)
  exact ⟨⟨k, b, c, l⟩, rfl, by rw [iv_len] at hl; exact hl⟩
structure PlI (f m : Int) (i : Nat) (now : Int) (l : List TE) : Prop where
  len : l.length ≤ i
  now0 : 0 ≤ now
  now1 : now ≤ 15 * i
  ok : ∀ e ∈ l, (0 ≤ e.due ∧ e.due ≤ 10000) ∧ (1 ≤ e.wait ∧ e.wait ≤ m) ∧ (0 ≤ e.times ∧ e.times ≤ i)
theorem PlI.tm {f m : Int} {i : Nat} {now : Int} {l : List TE} (h : PlI f m i now l) (hm : m ≤ 1000) (hi : i ≤ 1000) : TmOk l := by
  intro e he
  have := h.ok e he
  omega
theorem outL_nil (l : List TE) : outL [] l = l := by simp [outL]
theorem outL_cons (n : Int) (ns : List Int) (l : List TE) : outL (n :: ns) l = outL ns (out1 n l) := by
  unfold outL out1
  rw [List.filter_filter]
  apply List.filter_congr
  intro e _
  by_cases c : e.n = n
  · simp [c]
  · by_cases d : e.n ∈ ns <;> simp [c, d]
theorem outL_snoc (ns : List Int) (n : Int) (l : List TE) : outL (ns ++ [n]) l = out1 n (outL ns l) := by
  induction ns generalizing l with
  | nil => rw [List.nil_append, outL_cons, outL_nil, outL_nil]
  | cons x ns ih => rw [List.cons_append, outL_cons, outL_cons, ih]
set_option maxHeartbeats 40000000 in
theorem timerPlays_spec (x : Int) (hx : (Lit.int .i64 x).wf = true) (y : Int) (hy : (Lit.int .i64 y).wf = true) (ac : AV) (hac : Has (.sl [.int .i64, .int .i64, .int .u32, .sl [.int .u32]]) ac) :
    Tri Try.prog 7 [.int .i64 x, .int .i64 y, ac] [] (fun v q => v = .bool true) := by
  simp only [Has] at hac
  obtain ⟨xs, rfl, hxl, hxs⟩ := hac
  simp only [List.length_cons, List.length_nil]
  refine Tri.post ?_
  obtain ⟨a, ha, ha7⟩ := and_i64 x (k := 7) (by decide)
  obtain ⟨b, hb, hb31⟩ := and_i64 y (k := 31) (by decide)
  have ha : ibits .and .i64 x 7 = a := ha
  have hb : ibits .and .i64 y 31 = b := hb
  have wf1 : iwrap .i64 (1 + (a : Int)) = ((a + 1 : Nat) : Int) := by rw [iwrap_i64_in (by omega)]; omega
  have wm1 : iwrap .i64 (((a + 1 : Nat) : Int) + (b : Int)) = ((a + 1 + b : Nat) : Int) := by rw [iwrap_i64_in (by omega)]; omega
  generalize hf : a + 1 = f at *
  generalize hm : f + b = m at *
  have hn := tnew_spec f m (by unfold mayF; rw [decide_eq_true_iff]; omega)
  skip
  refine (Tri.enter (rl := r7) (code := c7) (by kernel_rfl) Try.func7 rfl c7_ok (by kernel_rfl) (by kernel_rfl) ?_)
  refine run_ok 4000 _ _ _ _ ?_
  simp (maxSteps := 10000000) only [go_sem, c7, r7, ha, hb, wf1, wm1]
  refine sem_call rfl rfl (((hn).embed [] rfl trivial rfl rfl rfl (by simp)).mono ?_)
  rintro _ _ ⟨_, _, ⟨rfl, rfl⟩, rfl, rfl⟩
  refine run_ok 4000 _ _ _ _ ?_
  simp (maxSteps := 10000000) only [go_sem, ha, hb, wf1, wm1]
  refine sem_call rfl rfl (((awake14_spec).embed [] rfl trivial rfl rfl rfl (by simp)).mono ?_)
  rintro _ _ ⟨_, _, ⟨rfl, rfl⟩, rfl, rfl⟩
  refine run_ok 4000 _ _ _ _ ?_
  simp (maxSteps := 10000000) only [go_sem, ha, hb, wf1, wm1]
  refine sem_nilbox 0 2 4 rfl rfl ?_
  refine sem_like 9 (.vsl 4 (terows []) false) rfl (Like.nilv _ _) ?_
  simp (maxSteps := 10000000) only [go_sem, ha, hb, wf1, wm1]
  refine sem_rounds (fun q : Nat × Int × List TE => q.1 ≤ 120 ∧ PlI f m q.1 q.2.1 q.2.2)
    (fun q => [(0, .int .i64 f), (1, .int .i64 m), (2, .vsl 4 xs false), (7, .pbox 0 0), (9, .vsl 4 (terows q.2.2) false), (10, .int .i64 q.2.1), (11, .int .i64 q.1)])
    (fun q => tmM f m q.2.2) (fun q => 120 - q.1) (0, 0, []) [0, 1] ⟨by simp, by simp, by simp, by simp, by simp⟩ ?_ ?_
  · simp [Emb, go_sem, terows, tmM]
  rintro ⟨i, now, l⟩ ⟨h120, hI⟩
  simp only at h120 hI ⊢
  by_cases hlt : i < xs.length ∧ i < 120
  case neg =>
    by_cases c : (i : Int) < (xs.length : Int)
    · have c2 : ¬ (i : Int) < 120 := by omega
      skip
      refine run_ok 4000 _ _ _ _ ?_
      simp (maxSteps := 10000000) only [go_sem, c, c2]
      refine run_ok 4000 _ _ _ _ ?_
      simp (maxSteps := 10000000) only [go_sem, c, c2]
      refine ⟨_, [], .sub [] ?_ .done, rfl⟩
      simp only [EmbV, go_sem]
    · skip
      refine run_ok 4000 _ _ _ _ ?_
      simp (maxSteps := 10000000) only [go_sem, c]
      refine run_ok 4000 _ _ _ _ ?_
      simp (maxSteps := 10000000) only [go_sem, c]
      refine ⟨_, [], .sub [] ?_ .done, rfl⟩
      simp only [EmbV, go_sem]
  obtain ⟨hlx, hl120⟩ := hlt
  have hin : (i : Int) < (xs.length : Int) := by omega
  have hi2 : (i : Int) < 120 := by omega
  obtain ⟨t, hrow, htl⟩ := tact_row (hxs _ (List.getElem_mem hlx))
  have hg0 : xs[i]? = some (tarow t) := by rw [List.getElem?_eq_getElem hlx, hrow]
  have e0 : rint xs i 0 = t.k := by simp [rint, List.getD_eq_getElem?_getD, hg0, tarow]
  have e1 : rint xs i 1 = t.b := by simp [rint, List.getD_eq_getElem?_getD, hg0, tarow]
  have e2 : rint xs i 2 = t.n := by simp [rint, List.getD_eq_getElem?_getD, hg0, tarow]
  have e3 : rany xs i 3 = .vsl 1 (uv t.ns) false := by simp [rany, List.getD_eq_getElem?_getD, hg0, tarow]
  have i0 : hasI .i64 xs i 0 := ⟨_, t.k, hg0, rfl⟩
  have i1 : hasI .i64 xs i 1 := ⟨_, t.b, hg0, rfl⟩
  have i2 : hasI .u32 xs i 2 := ⟨_, t.n, hg0, rfl⟩
  have i3 : hasA xs i 3 := ⟨_, _, hg0, rfl⟩
  obtain ⟨tk, tb, n, ns⟩ := t
  simp only at e0 e1 e2 e3 htl
  obtain ⟨d, hd, hd15⟩ := and_i64 tb (k := 15) (by decide)
  have hd : ibits .and .i64 tb 15 = d := hd
  have hn0 := hI.now0
  have hn1 := hI.now1
  have wd : iwrap .i64 (now + (d : Int)) = now + d := iwrap_i64_in (by omega)
  have hIb : PlI f m (i + 1) (now + d) l := ⟨by have := hI.len; omega, by omega, by omega, fun e he => by have := hI.ok e he; omega⟩
  have hln := hI.len
  have htm : TmOk l := hI.tm (by omega) (by omega)
  have hw2 : 0 ≤ now + (d : Int) ∧ now + (d : Int) ≤ 15 * (i + 1) := by omega
  have hIok := hI.ok
  clear hI hrow hg0 hn
  obtain ⟨w, hwe⟩ : ∃ w, w = now + (d : Int) := ⟨_, rfl⟩
  rw [← hwe] at hIb hw2 wd
  replace wd : iwrap .i64 (now + (d : Int)) = w := by rw [← hwe]; exact wd
  apply sem_tail (fun l' => PlI f m (i + 1) w l')
    (fun l' => [(0, .int .i64 f), (1, .int .i64 m), (2, .vsl 4 xs false), (7, .pbox 0 0), (9, .vsl 4 (terows l') false), (10, .int .i64 w), (11, .int .i64 i), (12, .pbox 2 0), (160, .pbox 0 0)])
    (fun l' => [.box [.int .i64 f, .int .i64 m, .sl 1 0 l'.length l'.length false], .row 4 (terows l'), .box [.int .i64 tk, .int .i64 tb, .int .u32 n, .vsl 1 (uv ns) false]])
  · intro hG
    unfold tmM
    have b1 : (false == true) = false := rfl
    have b2 : (true == false) = false := rfl
    by_cases k1 : tk = 1
    · subst k1
      have hfd := rfind_spec l n false (by omega)
      by_cases cf : fdT l n ≥ 0
      · have hs := tstart_old f m l n w (by omega) cf
        simp only [tmM, tmM2] at hs
        skip
        refine run_ok 4000 _ _ _ _ ?_
        simp (maxSteps := 10000000) only [go_sem, hin, hi2, e0, e1, e2, e3, i0, i1, i2, i3, hd, wd, cf, b1, b2, te_len, Int.natCast_nonneg]
        refine sem_call rfl rfl (((hfd).embed [] rfl trivial rfl rfl rfl (by simp)).mono ?_)
        rintro _ _ ⟨_, _, ⟨rfl, rfl⟩, rfl, rfl⟩
        refine run_ok 4000 _ _ _ _ ?_
        simp (maxSteps := 10000000) only [go_sem, hin, hi2, e0, e1, e2, e3, i0, i1, i2, i3, hd, wd, cf, b1, b2, te_len, Int.natCast_nonneg]
        refine sem_call rfl rfl (((hs).embed [0, 1] rfl (by repeat' first | exact trivial | rfl | (simp only [go_sem]; done) | constructor) rfl (by first | rfl | simp only [go_sem]) rfl (by simp)).mono ?_)
        rintro _ _ ⟨_, _, ⟨rfl, rfl⟩, rfl, rfl⟩
        refine run_ok 4000 _ _ _ _ ?_
        simp (maxSteps := 10000000) only [go_sem, hin, hi2, e0, e1, e2, e3, i0, i1, i2, i3, hd, wd, cf, b1, b2, te_len, Int.natCast_nonneg]
        refine sem_sub (sl := [(0, .int .i64 f), (1, .int .i64 m), (2, .vsl 4 xs false), (7, .pbox 0 0), (9, .vsl 4 (terows l) false), (10, .int .i64 w), (11, .int .i64 i), (12, .pbox 2 0), (160, .pbox 0 0)])
          (m2 := [.box [.int .i64 f, .int .i64 m, .sl 1 0 l.length l.length false], .row 4 (terows l), .box [.int .i64 1, .int .i64 tb, .int .u32 n, .vsl 1 (uv ns) false]]) [0, 3, 2] ?_ ?_
        · simp only [Emb, go_sem]
        exact hG l hIb
      · have hs := tstart_new f m l n w (by omega) (by omega) (by omega)
        simp only [tmM, tmM2] at hs
        have hnl : PlI f m (i + 1) w (l ++ [⟨n, w + f, f, 0⟩]) := by
          refine ⟨by simp; omega, hIb.now0, hIb.now1, fun e he => ?_⟩
          rcases List.mem_append.1 he with he | he
          · exact hIb.ok e he
          · simp at he; subst he; simp only; omega
        have wf3 : iwrap .i64 (w + (f : Int)) = w + f := iwrap_i64_in (by omega)
        have hall := te_all l
        have hone : [[AV.int .u32 n, AV.int .i64 (w + f), AV.int .i64 f, AV.int .i64 0]] = terows [⟨n, w + f, f, 0⟩] := rfl
        have hl1 : (l ++ [(⟨n, w + f, f, 0⟩ : TE)]).length = l.length + 1 := by simp
        rw [hl1] at hs
        have hG2 := hG _ hnl
        rw [hl1] at hG2
        skip
        refine run_ok 4000 _ _ _ _ ?_
        simp (maxSteps := 10000000) only [go_sem, hin, hi2, e0, e1, e2, e3, i0, i1, i2, i3, hd, wd, cf, b1, b2, wf3, hall, te_len, Int.natCast_nonneg]
        refine sem_call rfl rfl (((hfd).embed [] rfl trivial rfl rfl rfl (by simp)).mono ?_)
        rintro _ _ ⟨_, _, ⟨rfl, rfl⟩, rfl, rfl⟩
        refine run_ok 4000 _ _ _ _ ?_
        simp (maxSteps := 10000000) only [go_sem, hin, hi2, e0, e1, e2, e3, i0, i1, i2, i3, hd, wd, cf, b1, b2, wf3, hall, te_len, Int.natCast_nonneg]
        refine sem_call rfl rfl (((hs).embed [0, 1] rfl (by repeat' first | exact trivial | rfl | (simp only [go_sem]; done) | constructor) rfl (by first | rfl | simp only [go_sem]) rfl (by simp)).mono ?_)
        rintro _ _ ⟨_, _, ⟨rfl, rfl⟩, rfl, rfl⟩
        refine run_ok 4000 _ _ _ _ ?_
        simp (maxSteps := 10000000) only [go_sem, hin, hi2, e0, e1, e2, e3, i0, i1, i2, i3, hd, wd, cf, b1, b2, wf3, hall, te_len, Int.natCast_nonneg]
        refine sem_drawG l7_0_ok (by kernel_rfl) ?_
        intro KK hKK
        simp (maxSteps := 10000000) only [go_sem, l7_0, hin, hi2, e0, e1, e2, e3, i0, i1, i2, i3, hd, wd, cf, b1, b2, wf3, hall, te_len, Int.natCast_nonneg]
        subst hKK
        simp (maxSteps := 10000000) only [go_sem, hin, hi2, e0, e1, e2, e3, i0, i1, i2, i3, hd, wd, cf, b1, b2, wf3, hall, te_len, Int.natCast_nonneg]
        rw [hone, te_app]
        refine ⟨by unfold small; omega, by unfold small; omega, ?_⟩
        refine sem_freeze 5 rfl (by simp only [go_sem, te_len, hl1, Nat.le_refl]) ?_
        have hall2 := te_all (l ++ [(⟨n, w + f, f, 0⟩ : TE)])
        rw [hl1] at hall2
        refine sem_sub (sl := [(0, .int .i64 f), (1, .int .i64 m), (2, .vsl 4 xs false), (7, .pbox 0 0), (9, .vsl 4 (terows (l ++ [(⟨n, w + f, f, 0⟩ : TE)])) false), (10, .int .i64 w), (11, .int .i64 i), (12, .pbox 2 0), (160, .pbox 0 0)])
          (m2 := [.box [.int .i64 f, .int .i64 m, .sl 1 0 (l.length + 1) (l.length + 1) false], .row 4 (terows (l ++ [(⟨n, w + f, f, 0⟩ : TE)])), .box [.int .i64 1, .int .i64 tb, .int .u32 n, .vsl 1 (uv ns) false]]) [0, 3, 2] ?_ ?_
        · simp only [Emb, go_sem, hall2]
        exact hG2
    by_cases k2 : tk = 2
    · subst k2
      by_cases cl : (ns.length : Int) > 6
      · skip
        refine run_ok 4000 _ _ _ _ ?_
        simp (maxSteps := 10000000) only [go_sem, hin, hi2, e0, e1, e2, e3, i0, i1, i2, i3, hd, wd, cl, iv_len, te_len, Int.natCast_nonneg]
        refine ⟨by omega, ?_⟩
        have he : sub (uv ns) 0 6 = uv (ns.take 6) := by rw [iv_sub]; simp
        rw [he, iv_len]
        have hnl : (ns.take 6).length ≤ 6 := by rw [List.length_take]; omega
        generalize ns.take 6 = few at *
        have hs := tstop_spec f m l few false (by omega) (by omega)
        have hIo : PlI f m (i + 1) w (outL few l) := ⟨by have := outL_len few l; omega, hIb.now0, hIb.now1, fun e he => hIb.ok e (List.mem_filter.1 he).1⟩
        have hol := outL_len few l
        have wsub : iwrap .i64 ((l.length : Int) - ((outL few l).length : Int)) = (l.length : Int) - (outL few l).length := iwrap_i64_in (by omega)
        have hself : (((l.length : Int) - ((outL few l).length : Int)) != ((l.length : Int) - ((outL few l).length : Int))) = false := by simp
        simp only [tmM, tmM2] at hs
        refine sem_rounds (fun j : Nat => j ≤ few.length)
          (fun j => [(0, .int .i64 f), (1, .int .i64 m), (2, .vsl 4 xs false), (7, .pbox 0 0), (9, .vsl 4 (terows (outL (few.take j) l)) false), (10, .int .i64 w), (11, .int .i64 i), (12, .pbox 2 0), (14, .int .i64 l.length), (15, .vsl 1 (uv few) false), (108, .vsl 1 (uv few) false), (109, .int .i64 few.length), (110, .int .i64 j)])
          (fun _ => [.box [.int .i64 f, .int .i64 m, .sl 1 0 l.length l.length false], .row 4 (terows l), .box [.int .i64 2, .int .i64 tb, .int .u32 n, .vsl 1 (uv ns) false]]) (fun j => few.length - j) 0 [0, 1, 2] (Nat.zero_le _) ?_ ?_
        · simp [Emb, go_sem, outL_nil]
        intro j hj
        by_cases hjl : j < few.length
        · have r0 := iv_rint (k := .u32) hjl
          have hinj : (j : Int) < (few.length : Int) := by omega
          have hsn : outL (few.take (j + 1)) l = out1 few[j] (outL (few.take j) l) := by rw [List.take_succ_eq_append_getElem hjl, outL_snoc]
          have hst := rstop_spec (outL (few.take j) l) few[j] false (by have := outL_len (few.take j) l; omega)
          rw [← hsn] at hst
          generalize few[j] = z at *
          skip
          refine run_ok 4000 _ _ _ _ ?_
          simp (maxSteps := 10000000) only [go_sem, hinj, r0, iv_hasI hjl, iv_len, Int.natCast_nonneg, inc64 (show j < 1000000000000 by omega)]
          refine sem_call rfl rfl (((hst).embed [] rfl trivial rfl rfl rfl (by simp)).mono ?_)
          rintro _ _ ⟨_, _, ⟨rfl, rfl⟩, rfl, rfl⟩
          refine run_ok 4000 _ _ _ _ ?_
          simp (maxSteps := 10000000) only [go_sem, hinj, r0, iv_hasI hjl, iv_len, Int.natCast_nonneg, inc64 (show j < 1000000000000 by omega)]
          refine ⟨j + 1, by omega, hjl, [0, 1, 2], ?_⟩
          simp only [Emb, go_sem]
        have hge : ¬ (j : Int) < (few.length : Int) := by omega
        have hje : j = few.length := by omega
        subst hje
        rw [List.take_length]
        skip
        refine run_ok 4000 _ _ _ _ ?_
        simp (maxSteps := 10000000) only [go_sem, hge, wsub, hself, te_len]
        refine run_ok 4000 _ _ _ _ ?_
        simp (maxSteps := 10000000) only [go_sem, hge, wsub, hself, te_len]
        refine sem_call rfl rfl (((hs).embed [0, 1] rfl (by repeat' first | exact trivial | rfl | (simp only [go_sem]; done) | constructor) rfl (by first | rfl | simp only [go_sem]) rfl (by simp)).mono ?_)
        rintro _ _ ⟨_, _, ⟨rfl, rfl⟩, rfl, rfl⟩
        refine run_ok 4000 _ _ _ _ ?_
        simp (maxSteps := 10000000) only [go_sem, hge, wsub, hself, te_len]
        refine sem_sub (sl := [(0, .int .i64 f), (1, .int .i64 m), (2, .vsl 4 xs false), (7, .pbox 0 0), (9, .vsl 4 (terows (outL few l)) false), (10, .int .i64 w), (11, .int .i64 i), (12, .pbox 2 0), (160, .pbox 0 0)])
          (m2 := [.box [.int .i64 f, .int .i64 m, .sl 1 0 (outL few l).length (outL few l).length false], .row 4 (terows (outL few l)), .box [.int .i64 2, .int .i64 tb, .int .u32 n, .vsl 1 (uv ns) false]]) [0, 3, 2] ?_ ?_
        · simp only [Emb, go_sem]
        exact hG _ hIo
      · have hnl : ns.length ≤ 6 := by omega
        skip
        refine run_ok 4000 _ _ _ _ ?_
        simp (maxSteps := 10000000) only [go_sem, hin, hi2, e0, e1, e2, e3, i0, i1, i2, i3, hd, wd, cl, iv_len, te_len, Int.natCast_nonneg]
        have hs := tstop_spec f m l ns false (by omega) (by omega)
        have hIo : PlI f m (i + 1) w (outL ns l) := ⟨by have := outL_len ns l; omega, hIb.now0, hIb.now1, fun e he => hIb.ok e (List.mem_filter.1 he).1⟩
        have hol := outL_len ns l
        have wsub : iwrap .i64 ((l.length : Int) - ((outL ns l).length : Int)) = (l.length : Int) - (outL ns l).length := iwrap_i64_in (by omega)
        have hself : (((l.length : Int) - ((outL ns l).length : Int)) != ((l.length : Int) - ((outL ns l).length : Int))) = false := by simp
        simp only [tmM, tmM2] at hs
        refine sem_rounds (fun j : Nat => j ≤ ns.length)
          (fun j => [(0, .int .i64 f), (1, .int .i64 m), (2, .vsl 4 xs false), (7, .pbox 0 0), (9, .vsl 4 (terows (outL (ns.take j) l)) false), (10, .int .i64 w), (11, .int .i64 i), (12, .pbox 2 0), (14, .int .i64 l.length), (15, .vsl 1 (uv ns) false), (108, .vsl 1 (uv ns) false), (109, .int .i64 ns.length), (110, .int .i64 j)])
          (fun _ => [.box [.int .i64 f, .int .i64 m, .sl 1 0 l.length l.length false], .row 4 (terows l), .box [.int .i64 2, .int .i64 tb, .int .u32 n, .vsl 1 (uv ns) false]]) (fun j => ns.length - j) 0 [0, 1, 2] (Nat.zero_le _) ?_ ?_
        · simp [Emb, go_sem, outL_nil]
        intro j hj
        by_cases hjl : j < ns.length
        · have r0 := iv_rint (k := .u32) hjl
          have hinj : (j : Int) < (ns.length : Int) := by omega
          have hsn : outL (ns.take (j + 1)) l = out1 ns[j] (outL (ns.take j) l) := by rw [List.take_succ_eq_append_getElem hjl, outL_snoc]
          have hst := rstop_spec (outL (ns.take j) l) ns[j] false (by have := outL_len (ns.take j) l; omega)
          rw [← hsn] at hst
          generalize ns[j] = z at *
          skip
          refine run_ok 4000 _ _ _ _ ?_
          simp (maxSteps := 10000000) only [go_sem, hinj, r0, iv_hasI hjl, iv_len, Int.natCast_nonneg, inc64 (show j < 1000000000000 by omega)]
          refine sem_call rfl rfl (((hst).embed [] rfl trivial rfl rfl rfl (by simp)).mono ?_)
          rintro _ _ ⟨_, _, ⟨rfl, rfl⟩, rfl, rfl⟩
          refine run_ok 4000 _ _ _ _ ?_
          simp (maxSteps := 10000000) only [go_sem, hinj, r0, iv_hasI hjl, iv_len, Int.natCast_nonneg, inc64 (show j < 1000000000000 by omega)]
          refine ⟨j + 1, by omega, hjl, [0, 1, 2], ?_⟩
          simp only [Emb, go_sem]
        have hge : ¬ (j : Int) < (ns.length : Int) := by omega
        have hje : j = ns.length := by omega
        subst hje
        rw [List.take_length]
        skip
        refine run_ok 4000 _ _ _ _ ?_
        simp (maxSteps := 10000000) only [go_sem, hge, wsub, hself, te_len]
        refine run_ok 4000 _ _ _ _ ?_
        simp (maxSteps := 10000000) only [go_sem, hge, wsub, hself, te_len]
        refine sem_call rfl rfl (((hs).embed [0, 1] rfl (by repeat' first | exact trivial | rfl | (simp only [go_sem]; done) | constructor) rfl (by first | rfl | simp only [go_sem]) rfl (by simp)).mono ?_)
        rintro _ _ ⟨_, _, ⟨rfl, rfl⟩, rfl, rfl⟩
        refine run_ok 4000 _ _ _ _ ?_
        simp (maxSteps := 10000000) only [go_sem, hge, wsub, hself, te_len]
        refine sem_sub (sl := [(0, .int .i64 f), (1, .int .i64 m), (2, .vsl 4 xs false), (7, .pbox 0 0), (9, .vsl 4 (terows (outL ns l)) false), (10, .int .i64 w), (11, .int .i64 i), (12, .pbox 2 0), (160, .pbox 0 0)])
          (m2 := [.box [.int .i64 f, .int .i64 m, .sl 1 0 (outL ns l).length (outL ns l).length false], .row 4 (terows (outL ns l)), .box [.int .i64 2, .int .i64 tb, .int .u32 n, .vsl 1 (uv ns) false]]) [0, 3, 2] ?_ ?_
        · simp only [Emb, go_sem]
        exact hG _ hIo
    have q1 : (tk == 1) = false := by simpa using k1
    have q2 : (tk == 2) = false := by simpa using k2
    by_cases k3 : tk = 3
    · subst k3
      have hdu := due_any f m w l (by omega) htm (by omega) (by omega)
      have hrd := rdue_spec l m w false (by omega) htm (by omega) (fun e he => by have := hIok e he; omega) (by omega)
      have hIu : PlI f m (i + 1) w (l.map (updE m w)) := by
        refine ⟨by simp; omega, hIb.now0, hIb.now1, fun e he => ?_⟩
        obtain ⟨e', he', rfl⟩ := List.mem_map.1 he
        have := hIok e' he'
        unfold updE
        split
        · simp only; omega
        · omega
      have hml : (l.map (updE m w)).length = l.length := List.length_map ..
      simp only [tmM] at hdu
      rw [hml] at hdu
      have hG2 := hG _ hIu
      rw [hml] at hG2
      have hNU : (numsT (stab (dueL w l))).length ≤ 120 := by
        have h1 : (numsT (stab (dueL w l))).length = (dueL w l).length := by simp [numsT, stab_len]
        have h2 : (dueL w l).length ≤ l.length := List.length_filter_le _ _
        omega
      generalize numsT (stab (dueL w l)) = NU at *
      generalize l.map (updE m w) = L2 at *
      have hself : ((NU.length : Int) != (NU.length : Int)) = false := by simp
      skip
      refine run_ok 4000 _ _ _ _ ?_
      simp (maxSteps := 10000000) only [go_sem, hin, hi2, e0, e1, e2, e3, i0, i1, i2, i3, hd, wd, hself, iv_len, te_len, Int.natCast_nonneg]
      refine sem_call rfl rfl (((hdu).embed [0, 1] rfl (by repeat' first | exact trivial | rfl | (simp only [go_sem]; done) | constructor) rfl (by first | rfl | simp only [go_sem]) rfl (by simp)).mono ?_)
      rintro _ _ ⟨_, _, ⟨rfl, rfl⟩, rfl, rfl⟩
      refine run_ok 4000 _ _ _ _ ?_
      simp (maxSteps := 10000000) only [go_sem, hin, hi2, e0, e1, e2, e3, i0, i1, i2, i3, hd, wd, hself, iv_len, te_len, Int.natCast_nonneg]
      refine sem_call rfl rfl (((hrd).embed [] rfl trivial rfl rfl rfl (by simp)).mono ?_)
      rintro _ _ ⟨_, _, ⟨rfl, rfl⟩, rfl, rfl⟩
      refine run_ok 4000 _ _ _ _ ?_
      simp (maxSteps := 10000000) only [go_sem, hin, hi2, e0, e1, e2, e3, i0, i1, i2, i3, hd, wd, hself, iv_len, te_len, Int.natCast_nonneg]
      refine sem_rounds (fun j : Nat => j ≤ NU.length)
        (fun j => [(0, .int .i64 f), (1, .int .i64 m), (2, .vsl 4 xs false), (7, .pbox 0 0), (9, .vsl 4 (terows L2) false), (10, .int .i64 w), (11, .int .i64 i), (12, .pbox 2 0), (18, .vsl 1 (uv NU) false), (20, .vsl 1 (uv NU) false), (145, .int .i64 NU.length), (146, .int .i64 j)])
        (fun _ => [.box [.int .i64 f, .int .i64 m, .sl 1 0 l.length l.length false], .row 4 (terows L2), .box [.int .i64 3, .int .i64 tb, .int .u32 n, .vsl 1 (uv ns) false]]) (fun j => NU.length - j) 0 [0, 1, 2] (Nat.zero_le _) ?_ ?_
      · simp [Emb, go_sem]
      intro j hj
      by_cases hjl : j < NU.length
      · have r0 := iv_rint (k := .u32) hjl
        have hinj : (j : Int) < (NU.length : Int) := by omega
        generalize NU[j] = z at *
        have hzz : (z != z) = false := by simp
        skip
        refine run_ok 4000 _ _ _ _ ?_
        simp (maxSteps := 10000000) only [go_sem, hinj, r0, iv_hasI hjl, iv_len, hzz, Int.natCast_nonneg, inc64 (show j < 1000000000000 by omega)]
        refine sem_drawG l7_1_ok (by kernel_rfl) ?_
        intro KK hKK
        simp (maxSteps := 10000000) only [go_sem, l7_1, hinj, r0, iv_hasI hjl, iv_len, hzz, Int.natCast_nonneg, inc64 (show j < 1000000000000 by omega)]
        subst hKK
        simp (maxSteps := 10000000) only [go_sem, hinj, r0, iv_hasI hjl, iv_len, hzz, Int.natCast_nonneg, inc64 (show j < 1000000000000 by omega)]
        refine ⟨j + 1, by omega, hjl, [0, 1, 2], ?_⟩
        simp only [Emb, go_sem]
      have hge : ¬ (j : Int) < (NU.length : Int) := by omega
      skip
      refine run_ok 4000 _ _ _ _ ?_
      simp (maxSteps := 10000000) only [go_sem, hge]
      refine run_ok 4000 _ _ _ _ ?_
      simp (maxSteps := 10000000) only [go_sem, hge]
      refine sem_sub (sl := [(0, .int .i64 f), (1, .int .i64 m), (2, .vsl 4 xs false), (7, .pbox 0 0), (9, .vsl 4 (terows L2) false), (10, .int .i64 w), (11, .int .i64 i), (12, .pbox 2 0), (160, .pbox 0 0)])
        (m2 := [.box [.int .i64 f, .int .i64 m, .sl 1 0 l.length l.length false], .row 4 (terows L2), .box [.int .i64 3, .int .i64 tb, .int .u32 n, .vsl 1 (uv ns) false]]) [0, 1, 2] ?_ ?_
      · simp only [Emb, go_sem]
      exact hG2
    · have q3 : (tk == 3) = false := by simpa using k3
      skip
      refine run_ok 4000 _ _ _ _ ?_
      simp (maxSteps := 10000000) only [go_sem, hin, hi2, e0, e1, e2, e3, i0, i1, i2, i3, hd, wd, q1, q2, q3, te_len, Int.natCast_nonneg]
      refine sem_sub (sl := [(0, .int .i64 f), (1, .int .i64 m), (2, .vsl 4 xs false), (7, .pbox 0 0), (9, .vsl 4 (terows l) false), (10, .int .i64 w), (11, .int .i64 i), (12, .pbox 2 0), (160, .pbox 0 0)])
        (m2 := [.box [.int .i64 f, .int .i64 m, .sl 1 0 l.length l.length false], .row 4 (terows l), .box [.int .i64 tk, .int .i64 tb, .int .u32 n, .vsl 1 (uv ns) false]]) [0, 1, 2] ?_ ?_
      · simp only [Emb, go_sem]
      exact hG l hIb
  · intro l' hI'
    have hl' := hI'.len
    have hnx := tnext_spec f m l' (by omega)
    have htt := ttimes_spec f m l' n (by omega)
    have hfd := rfind_spec l' n false (by omega)
    have hle := tlen_spec f m l'
    simp only [tmM] at hnx htt hle
    have hself : ((l'.length : Int) != (l'.length : Int)) = false := by simp
    have b1 : (false == true) = false := rfl
    have b2 : (true == false) = false := rfl
    have hin1 := inc64 (show i < 1000000000000 by omega)
    have hend : PlI f m (i + 1) w l' := hI'
    cases l' with
    | nil =>
      have hf0 : fdT [] n = -1 := by simp [fdT, idxH]
      rw [hf0] at hfd htt
      simp only [nextT, List.isEmpty_nil, Bool.not_true] at hnx
      rw [if_pos (by decide), decide_eq_false (by decide)] at htt
      have z1 : ¬ (-1 : Int) ≥ 0 := by decide
      have z2 : ((0 : Int) != 0) = false := rfl
      skip
      refine sem_call rfl rfl (((hnx).embed [0, 1] rfl (by repeat' first | exact trivial | rfl | (simp only [go_sem]; done) | constructor) rfl (by first | rfl | simp only [go_sem]) rfl (by simp)).mono ?_)
      rintro _ _ ⟨_, _, ⟨rfl, rfl⟩, rfl, rfl⟩
      refine run_ok 4000 _ _ _ _ ?_
      simp (maxSteps := 10000000) only [go_sem, hself, b1, b2, hin1, z1, z2, te_len]
      refine sem_call rfl rfl (((htt).embed [0, 1] rfl (by repeat' first | exact trivial | rfl | (simp only [go_sem]; done) | constructor) rfl (by first | rfl | simp only [go_sem]) rfl (by simp)).mono ?_)
      rintro _ _ ⟨_, _, ⟨rfl, rfl⟩, rfl, rfl⟩
      refine run_ok 4000 _ _ _ _ ?_
      simp (maxSteps := 10000000) only [go_sem, hself, b1, b2, hin1, z1, z2, te_len]
      refine sem_call rfl rfl (((hfd).embed [] rfl trivial rfl rfl rfl (by simp)).mono ?_)
      rintro _ _ ⟨_, _, ⟨rfl, rfl⟩, rfl, rfl⟩
      refine run_ok 4000 _ _ _ _ ?_
      simp (maxSteps := 10000000) only [go_sem, hself, b1, b2, hin1, z1, z2, te_len]
      refine sem_call rfl rfl (((hle).embed [0, 1] rfl (by repeat' first | exact trivial | rfl | (simp only [go_sem]; done) | constructor) rfl (by first | rfl | simp only [go_sem]) rfl (by simp)).mono ?_)
      rintro _ _ ⟨_, _, ⟨rfl, rfl⟩, rfl, rfl⟩
      refine run_ok 4000 _ _ _ _ ?_
      simp (maxSteps := 10000000) only [go_sem, hself, b1, b2, hin1, z1, z2, te_len]
      refine ⟨(i + 1, w, []), by simp only; omega, ⟨by simp only; omega, hend⟩, [0, 1], ?_⟩
      simp only [Emb, go_sem, tmM]
    | cons e0 l' =>
      have hrn := rnext_spec e0 l' false (by simp at hl'; omega)
      have hemp : (e0 :: l').isEmpty = false := rfl
      rw [hemp] at hnx
      have hpos : ((e0 :: l').length : Int) > 0 := by simp
      generalize nextT (e0 :: l') = NX at *
      have hnn : (NX != NX) = false := by simp
      by_cases cf : fdT (e0 :: l') n < 0
      · rw [if_pos cf, decide_eq_false (by omega)] at htt
        have z1 : ¬ fdT (e0 :: l') n ≥ 0 := by omega
        have z2 : ((0 : Int) != 0) = false := rfl
        generalize hLL : e0 :: l' = LL at *
        generalize fdT LL n = FD at *
        skip
        refine sem_call rfl rfl (((hnx).embed [0, 1] rfl (by repeat' first | exact trivial | rfl | (simp only [go_sem]; done) | constructor) rfl (by first | rfl | simp only [go_sem]) rfl (by simp)).mono ?_)
        rintro _ _ ⟨_, _, ⟨rfl, rfl⟩, rfl, rfl⟩
        refine run_ok 4000 _ _ _ _ ?_
        simp (maxSteps := 10000000) only [go_sem, hself, b1, b2, hin1, z1, z2, hnn, hpos, te_len]
        refine sem_call rfl rfl (((htt).embed [0, 1] rfl (by repeat' first | exact trivial | rfl | (simp only [go_sem]; done) | constructor) rfl (by first | rfl | simp only [go_sem]) rfl (by simp)).mono ?_)
        rintro _ _ ⟨_, _, ⟨rfl, rfl⟩, rfl, rfl⟩
        refine run_ok 4000 _ _ _ _ ?_
        simp (maxSteps := 10000000) only [go_sem, hself, b1, b2, hin1, z1, z2, hnn, hpos, te_len]
        refine sem_call rfl rfl (((hfd).embed [] rfl trivial rfl rfl rfl (by simp)).mono ?_)
        rintro _ _ ⟨_, _, ⟨rfl, rfl⟩, rfl, rfl⟩
        refine run_ok 4000 _ _ _ _ ?_
        simp (maxSteps := 10000000) only [go_sem, hself, b1, b2, hin1, z1, z2, hnn, hpos, te_len]
        refine sem_call rfl rfl (((hle).embed [0, 1] rfl (by repeat' first | exact trivial | rfl | (simp only [go_sem]; done) | constructor) rfl (by first | rfl | simp only [go_sem]) rfl (by simp)).mono ?_)
        rintro _ _ ⟨_, _, ⟨rfl, rfl⟩, rfl, rfl⟩
        refine run_ok 4000 _ _ _ _ ?_
        simp (maxSteps := 10000000) only [go_sem, hself, b1, b2, hin1, z1, z2, hnn, hpos, te_len]
        refine sem_call rfl rfl (((hrn).embed [] rfl trivial rfl rfl rfl (by simp)).mono ?_)
        rintro _ _ ⟨_, _, ⟨rfl, rfl⟩, rfl, rfl⟩
        refine run_ok 4000 _ _ _ _ ?_
        simp (maxSteps := 10000000) only [go_sem, hself, b1, b2, hin1, z1, z2, hnn, hpos, te_len]
        refine ⟨(i + 1, w, LL), by simp only; omega, ⟨by simp only; omega, hend⟩, [0, 1], ?_⟩
        simp only [Emb, go_sem, tmM]
      · rw [if_neg cf, decide_eq_true (by omega)] at htt
        obtain ⟨j, hj, ej, en⟩ := fdT_ge (show 0 ≤ fdT (e0 :: l') n by omega)
        have ejn : (fdT (e0 :: l') n).toNat = j := by omega
        rw [ejn] at htt
        have z1 : (j : Int) ≥ 0 := by omega
        generalize hLL : e0 :: l' = LL at *
        have r3 := te_r3 hj
        have eg : (LL.getD j ⟨0, 0, 0, 0⟩).times = LL[j].times := by simp [List.getD_eq_getElem?_getD, hj]
        rw [eg] at htt
        rw [ej] at hfd
        have hji : (j : Int) < (LL.length : Int) := by omega
        have z2 : (LL[j].times != LL[j].times) = false := by simp
        generalize LL[j].times = TJ at *
        skip
        refine sem_call rfl rfl (((hnx).embed [0, 1] rfl (by repeat' first | exact trivial | rfl | (simp only [go_sem]; done) | constructor) rfl (by first | rfl | simp only [go_sem]) rfl (by simp)).mono ?_)
        rintro _ _ ⟨_, _, ⟨rfl, rfl⟩, rfl, rfl⟩
        refine run_ok 4000 _ _ _ _ ?_
        simp (maxSteps := 10000000) only [go_sem, hself, b1, b2, hin1, z1, z2, hnn, hpos, r3, te_h3 hj, hji, te_len, Int.natCast_nonneg]
        refine sem_call rfl rfl (((htt).embed [0, 1] rfl (by repeat' first | exact trivial | rfl | (simp only [go_sem]; done) | constructor) rfl (by first | rfl | simp only [go_sem]) rfl (by simp)).mono ?_)
        rintro _ _ ⟨_, _, ⟨rfl, rfl⟩, rfl, rfl⟩
        refine run_ok 4000 _ _ _ _ ?_
        simp (maxSteps := 10000000) only [go_sem, hself, b1, b2, hin1, z1, z2, hnn, hpos, r3, te_h3 hj, hji, te_len, Int.natCast_nonneg]
        refine sem_call rfl rfl (((hfd).embed [] rfl trivial rfl rfl rfl (by simp)).mono ?_)
        rintro _ _ ⟨_, _, ⟨rfl, rfl⟩, rfl, rfl⟩
        refine run_ok 4000 _ _ _ _ ?_
        simp (maxSteps := 10000000) only [go_sem, hself, b1, b2, hin1, z1, z2, hnn, hpos, r3, te_h3 hj, hji, te_len, Int.natCast_nonneg]
        refine sem_call rfl rfl (((hle).embed [0, 1] rfl (by repeat' first | exact trivial | rfl | (simp only [go_sem]; done) | constructor) rfl (by first | rfl | simp only [go_sem]) rfl (by simp)).mono ?_)
        rintro _ _ ⟨_, _, ⟨rfl, rfl⟩, rfl, rfl⟩
        refine run_ok 4000 _ _ _ _ ?_
        simp (maxSteps := 10000000) only [go_sem, hself, b1, b2, hin1, z1, z2, hnn, hpos, r3, te_h3 hj, hji, te_len, Int.natCast_nonneg]
        refine sem_call rfl rfl (((hrn).embed [] rfl trivial rfl rfl rfl (by simp)).mono ?_)
        rintro _ _ ⟨_, _, ⟨rfl, rfl⟩, rfl, rfl⟩
        refine run_ok 4000 _ _ _ _ ?_
        simp (maxSteps := 10000000) only [go_sem, hself, b1, b2, hin1, z1, z2, hnn, hpos, r3, te_h3 hj, hji, te_len, Int.natCast_nonneg]
        refine ⟨(i + 1, w, LL), by simp only; omega, ⟨by simp only; omega, hend⟩, [0, 1], ?_⟩
        simp only [Emb, go_sem, tmM]
end Go.AEX
