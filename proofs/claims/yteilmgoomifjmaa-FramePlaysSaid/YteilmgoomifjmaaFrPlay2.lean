/- Frame: any calls (FramePlays), the law's evaluation. -/
import Derived.Test.YteilmgoomifjmaaFrPlays
namespace Go.AEX
open Go Go.AE Go.Proofs
set_option maxRecDepth 100000
set_option linter.unusedVariables false
set_option linter.unusedSimpArgs false

/-- What comes behind more than one way is shown once. -/
theorem sem_tail {P : Program} {n k0 : Nat} {α : Type} (J : α → Prop) (sl : α → List (Nat × AV)) (mm : α → Mem) {k : List C} {Q : Exit → Tr → Mem → Prop} {S : Prop} (h : (∀ x, J x → SemW P n k0 k (mkP (sl x)) (mm x) Q) → S)
    (ht : ∀ x, J x → SemW P n k0 k (mkP (sl x)) (mm x) Q) : S := h ht
theorem ints_of {xs : List (List AV)} (h : ∀ x ∈ xs, HasL [.int .i64] x) : ∃ l : List Int, xs = iv .i64 l ∧ ∀ n ∈ l, (Lit.int .i64 n).wf = true := by
  induction xs with
  | nil => exact ⟨[], rfl, by simp⟩
  | cons x xs ih =>
    obtain ⟨l, rfl, hl⟩ := ih fun y hy => h y (by simp [hy])
    have hx := h x (by simp)
    simp only [HasL, Has] at hx
    obtain ⟨_, _, rfl, ⟨a, rfl, ha⟩, rfl⟩ := hx
    exact ⟨a :: l, rfl, fun m hm => by rcases List.mem_cons.1 hm with rfl | hm; exact ha; exact hl m hm⟩
theorem fact_row {x : List AV} (h : HasL [.int .i64, .int .i64, .int .i64, .sl [.int .i64]] x) : ∃ a : FAct, x = farow a := by
  simp only [HasL, Has] at h
  obtain ⟨_, _, rfl, ⟨k, rfl, _⟩, _, _, rfl, ⟨b, rfl, _⟩, _, _, rfl, ⟨c, rfl, _⟩, _, _, rfl, ⟨xs, rfl, _, hx⟩, rfl⟩ := h
  obtain ⟨l, rfl, _⟩ := ints_of (by simpa only [HasL, Has] using hx)
  exact ⟨⟨k, b, c, l⟩, rfl⟩
set_option maxHeartbeats 20000000 in
theorem framePlays_spec (fn : Int) (hfn : (Lit.int .i64 fn).wf = true) (n : Int) (hn : (Lit.int .i64 n).wf = true) (ar : AV) (har : Has (.sl [.int .i64]) ar) (ac : AV) (hac : Has (.sl [.int .i64, .int .i64, .int .i64, .sl [.int .i64]]) ac) :
    Tri Try.prog 4 [.int .i64 fn, .int .i64 n, ar, ac] [] (fun v m => v = .bool true) := by
  simp only [Has] at har hac
  obtain ⟨xs0, rfl, hxl0, hx0⟩ := har
  obtain ⟨xs, rfl, hxl, hx⟩ := hac
  obtain ⟨a0, rfl, _⟩ := ints_of (by simpa only [HasL, Has] using hx0)
  simp only [List.length_cons, List.length_nil]
  have hn64 : I64 n := by simp [Lit.wf, IntKind.min, IntKind.max, IntKind.bits, IntKind.signed] at hn; unfold I64; omega
  skip
  refine (Tri.asB (Tri.enter (rl := r4) (code := c4) (by kernel_rfl) Try.func4 rfl c4_ok (by kernel_rfl) (by kernel_rfl) ?_))
  refine run_ok 4000 _ _ _ _ ?_
  simp (maxSteps := 10000000) only [go_sem, c4, r4, iv_len, iv_sub]
  refine sem_call rfl rfl (((awake06_spec).embed [] rfl trivial rfl rfl rfl (by simp)).mono ?_)
  rintro _ _ ⟨_, _, ⟨rfl, rfl⟩, rfl, rfl⟩
  refine run_ok 4000 _ _ _ _ ?_
  simp (maxSteps := 10000000) only [go_sem, iv_len, iv_sub]
  apply sem_tail (fun v0 : List Int => v0.length ≤ 16)
    (fun v0 => [(0, .int .i64 fn), (3, .vsl 4 xs false), (9, .pbox 0 0), (10, .vsl 1 (iv .i64 []) false), (11, .sl 4 0 v0.length v0.length false), (12, .int .i64 0)])
    (fun v0 => [.box [.pbox 1 0, .int .i64 fn, .int .i64 0, .sl 3 0 v0.length v0.length false], .box [.sl 2 0 0 0 false], .row 1 (iv .i64 []), .row 1 (iv .i64 v0), .row 1 (iv .i64 v0)])
  · intro hG
    refine ⟨fun h => ⟨by omega, ?_⟩, fun h => ?_⟩
    · have hA : (a0.take 20).length ≤ 20 := by rw [List.length_take]; omega
      generalize a0.take 20 = A at *
      have hm := make_spec fn n hn64 A false
      have hr := rlocs_spec n hn64 A false (by omega)
      unfold frameM at hm
      skip
      refine run_ok 4000 _ _ _ _ ?_
      simp (maxSteps := 10000000) only [go_sem]
      refine sem_call rfl rfl (((hm).embed [] rfl (by repeat' first | exact trivial | rfl | (simp only [go_sem]; done) | constructor) rfl (by first | rfl | simp only [go_sem]) rfl (by simp)).mono ?_)
      rintro _ _ ⟨_, _, ⟨rfl, rfl⟩, rfl, rfl⟩
      refine run_ok 4000 _ _ _ _ ?_
      simp (maxSteps := 10000000) only [go_sem]
      refine sem_call rfl rfl (((hr).embed [] rfl (by repeat' first | exact trivial | rfl | (simp only [go_sem]; done) | constructor) rfl (by first | rfl | simp only [go_sem]) rfl (by simp)).mono ?_)
      rintro _ _ ⟨_, _, ⟨rfl, rfl⟩, rfl, rfl⟩
      refine run_ok 4000 _ _ _ _ ?_
      simp (maxSteps := 10000000) only [go_sem]
      refine sem_like 10 (.vsl 1 (iv .i64 []) false) rfl (Like.nilv _ _) ?_
      have hv0 : (locs n A).length ≤ 16 := by
        have : (locs n A).length = locN n := by simp [locs]
        rw [this]; unfold locN; omega
      generalize locs n A = v0 at *
      refine sem_sub (sl := [(0, .int .i64 fn), (3, .vsl 4 xs false), (9, .pbox 0 0), (10, .vsl 1 (iv .i64 []) false), (11, .sl 4 0 v0.length v0.length false), (12, .int .i64 0)])
        (m2 := [.box [.pbox 1 0, .int .i64 fn, .int .i64 0, .sl 3 0 v0.length v0.length false], .box [.sl 2 0 0 0 false], .row 1 (iv .i64 []), .row 1 (iv .i64 v0), .row 1 (iv .i64 v0)]) [0, 1, 2, 3, 4] ?_ ?_
      · simp only [Emb, go_sem, iv, List.map_nil]
      exact hG v0 hv0
    · have hA : a0.length ≤ 20 := by omega
      obtain ⟨A, rfl⟩ : ∃ A, A = a0 := ⟨_, rfl⟩
      have hm := make_spec fn n hn64 A false
      have hr := rlocs_spec n hn64 A false (by omega)
      unfold frameM at hm
      skip
      refine run_ok 4000 _ _ _ _ ?_
      simp (maxSteps := 10000000) only [go_sem]
      refine sem_call rfl rfl (((hm).embed [] rfl (by repeat' first | exact trivial | rfl | (simp only [go_sem]; done) | constructor) rfl (by first | rfl | simp only [go_sem]) rfl (by simp)).mono ?_)
      rintro _ _ ⟨_, _, ⟨rfl, rfl⟩, rfl, rfl⟩
      refine run_ok 4000 _ _ _ _ ?_
      simp (maxSteps := 10000000) only [go_sem]
      refine sem_call rfl rfl (((hr).embed [] rfl (by repeat' first | exact trivial | rfl | (simp only [go_sem]; done) | constructor) rfl (by first | rfl | simp only [go_sem]) rfl (by simp)).mono ?_)
      rintro _ _ ⟨_, _, ⟨rfl, rfl⟩, rfl, rfl⟩
      refine run_ok 4000 _ _ _ _ ?_
      simp (maxSteps := 10000000) only [go_sem]
      refine sem_like 10 (.vsl 1 (iv .i64 []) false) rfl (Like.nilv _ _) ?_
      have hv0 : (locs n A).length ≤ 16 := by
        have : (locs n A).length = locN n := by simp [locs]
        rw [this]; unfold locN; omega
      generalize locs n A = v0 at *
      refine sem_sub (sl := [(0, .int .i64 fn), (3, .vsl 4 xs false), (9, .pbox 0 0), (10, .vsl 1 (iv .i64 []) false), (11, .sl 4 0 v0.length v0.length false), (12, .int .i64 0)])
        (m2 := [.box [.pbox 1 0, .int .i64 fn, .int .i64 0, .sl 3 0 v0.length v0.length false], .box [.sl 2 0 0 0 false], .row 1 (iv .i64 []), .row 1 (iv .i64 v0), .row 1 (iv .i64 v0)]) [0, 1, 2, 3, 4] ?_ ?_
      · simp only [Emb, go_sem, iv, List.map_nil]
      exact hG v0 hv0
  · intro v0 hv0
    refine sem_rounds (fun x : Nat × List Int × List Int => x.1 ≤ 80 ∧ x.2.1.length ≤ 64 ∧ x.2.2.length ≤ 16)
      (fun x => [(0, .int .i64 fn), (3, .vsl 4 xs false), (9, .pbox 0 0), (10, .vsl 1 (iv .i64 x.2.1) false), (11, .sl 4 0 x.2.2.length x.2.2.length false), (12, .int .i64 (x.1 : Nat))])
      (fun x => [.box [.pbox 1 0, .int .i64 fn, .int .i64 0, .sl 3 0 x.2.2.length x.2.2.length false], .box [.sl 2 0 x.2.1.length x.2.1.length false], .row 1 (iv .i64 x.2.1), .row 1 (iv .i64 x.2.2), .row 1 (iv .i64 x.2.2)])
      (fun x => 80 - x.1) (0, [], v0) [0, 1, 2, 3, 4] ⟨by simp, by simp, hv0⟩ ?_ ?_
    · simp only [Emb, go_sem, iv, List.map_nil]
    rintro ⟨i, l, v⟩ ⟨h80, hl, hv⟩
    simp only at h80 hl hv
    refine run_ok 4000 _ _ _ _ ?_
    simp (maxSteps := 10000000) only [go_sem]
    refine ⟨fun h1 => ⟨fun h2 => ?_, fun h2 => ?_⟩, fun h1 => ?_⟩
    · apply sem_tail (fun x : List Int × List Int => x.1.length ≤ 64 ∧ x.2.length ≤ 16)
        (fun x => [(0, .int .i64 fn), (3, .vsl 4 xs false), (9, .pbox 0 0), (10, .vsl 1 (iv .i64 x.1) false), (11, .sl 4 0 x.2.length x.2.length false), (12, .int .i64 (i : Nat)), (94, .pbox 1 0)])
        (fun x => [.box [.pbox 1 0, .int .i64 fn, .int .i64 0, .sl 3 0 x.2.length x.2.length false], .box [.sl 2 0 x.1.length x.1.length false], .row 1 (iv .i64 x.1), .row 1 (iv .i64 x.2), .row 1 (iv .i64 x.2)])
      · intro hT
        have hlt : i < xs.length := by omega
        have hin : (i : Int) < (xs.length : Int) := by omega
        obtain ⟨a, hrow⟩ := fact_row (hx _ (List.getElem_mem hlt))
        have hg0 : xs[i]? = some (farow a) := by rw [List.getElem?_eq_getElem hlt, hrow]
        have e0 : rint xs i 0 = a.kind := by simp [rint, List.getD_eq_getElem?_getD, hg0, farow]
        have e1 : rint xs i 1 = a.n := by simp [rint, List.getD_eq_getElem?_getD, hg0, farow]
        have e2 : rint xs i 2 = a.x := by simp [rint, List.getD_eq_getElem?_getD, hg0, farow]
        have e3 : rany xs i 3 = .vsl 1 (iv .i64 a.l) false := by simp [rany, List.getD_eq_getElem?_getD, hg0, farow]
        have i0 : hasI .i64 xs i 0 := ⟨_, a.kind, hg0, rfl⟩
        have i1 : hasI .i64 xs i 1 := ⟨_, a.n, hg0, rfl⟩
        have i2 : hasI .i64 xs i 2 := ⟨_, a.x, hg0, rfl⟩
        have i3 : hasA xs i 3 := ⟨_, _, hg0, rfl⟩
        by_cases kk : a.kind = 1
        · have hstk := stack_push fn l v a kk hl
          have hlen2 : ((if l.length + (a.l.take 40).length ≤ 64 then l ++ a.l.take 40 else l)).length ≤ 64 := by split <;> first | exact hl | (rw [List.length_append]; assumption)
          unfold frameM frameG at hstk
          rw [kk] at e0
          simp only [farow, kk] at hstk
          skip
          simp (maxSteps := 10000000) only [go_sem, hin, e0, e1, e2, e3, i0, i1, i2, i3, Int.natCast_nonneg]
          refine sem_call rfl rfl (((hstk).embed [0, 1, 2, 3] rfl (by repeat' first | exact trivial | rfl | (simp only [go_sem]; done) | constructor) rfl (by first | rfl | simp only [go_sem]) rfl (by simp)).mono ?_)
          rintro _ _ ⟨_, _, ⟨rfl, rfl⟩, rfl, rfl⟩
          refine run_ok 4000 _ _ _ _ ?_
          simp (maxSteps := 10000000) only [go_sem, hin, e0, e1, e2, e3, i0, i1, i2, i3, Int.natCast_nonneg]
          refine sem_sub (sl := [(0, .int .i64 fn), (3, .vsl 4 xs false), (9, .pbox 0 0), (10, .vsl 1 (iv .i64 ((if l.length + (a.l.take 40).length ≤ 64 then l ++ a.l.take 40 else l))) false), (11, .sl 4 0 (v).length (v).length false), (12, .int .i64 (i : Nat)), (94, .pbox 1 0)])
            (m2 := [.box [.pbox 1 0, .int .i64 fn, .int .i64 0, .sl 3 0 (v).length (v).length false], .box [.sl 2 0 ((if l.length + (a.l.take 40).length ≤ 64 then l ++ a.l.take 40 else l)).length ((if l.length + (a.l.take 40).length ≤ 64 then l ++ a.l.take 40 else l)).length false], .row 1 (iv .i64 ((if l.length + (a.l.take 40).length ≤ 64 then l ++ a.l.take 40 else l))), .row 1 (iv .i64 (v)), .row 1 (iv .i64 (v))]) [0, 1, 6, 3, 4] ?_ ?_
          · simp only [Emb, go_sem, List.length_set]
          exact hT (((if l.length + (a.l.take 40).length ≤ 64 then l ++ a.l.take 40 else l)), (v)) ⟨hlen2, hv⟩
        by_cases kk : a.kind = 2
        · by_cases h0 : l = []
          · have hstk := stack_pop0 fn v a kk
            rw [← h0] at hstk
            have hlen2 : (l).length ≤ 64 := by exact hl
            unfold frameM frameG at hstk
            rw [kk] at e0
            simp only [farow, kk] at hstk
            skip
            simp (maxSteps := 10000000) only [go_sem, hin, e0, e1, e2, e3, i0, i1, i2, i3, Int.natCast_nonneg]
            refine sem_call rfl rfl (((hstk).embed [0, 1, 2, 3] rfl (by repeat' first | exact trivial | rfl | (simp only [go_sem]; done) | constructor) rfl (by first | rfl | simp only [go_sem]) rfl (by simp)).mono ?_)
            rintro _ _ ⟨_, _, ⟨rfl, rfl⟩, rfl, rfl⟩
            refine run_ok 4000 _ _ _ _ ?_
            simp (maxSteps := 10000000) only [go_sem, hin, e0, e1, e2, e3, i0, i1, i2, i3, Int.natCast_nonneg]
            refine sem_sub (sl := [(0, .int .i64 fn), (3, .vsl 4 xs false), (9, .pbox 0 0), (10, .vsl 1 (iv .i64 (l)) false), (11, .sl 4 0 (v).length (v).length false), (12, .int .i64 (i : Nat)), (94, .pbox 1 0)])
              (m2 := [.box [.pbox 1 0, .int .i64 fn, .int .i64 0, .sl 3 0 (v).length (v).length false], .box [.sl 2 0 (l).length (l).length false], .row 1 (iv .i64 (l)), .row 1 (iv .i64 (v)), .row 1 (iv .i64 (v))]) [0, 1, 6, 3, 4] ?_ ?_
            · simp only [Emb, go_sem, List.length_set]
            exact hT ((l), (v)) ⟨hlen2, hv⟩
          · obtain ⟨m, y, e⟩ : ∃ m y, m ++ [y] = l := ⟨_, _, List.dropLast_concat_getLast h0⟩
            have hlen : m.length ≤ 64 := by rw [← e, List.length_append] at hl; omega
            have hstk := stack_pop fn m v y a kk hlen
            rw [e] at hstk
            have hlen2 : (m).length ≤ 64 := by exact hlen
            unfold frameM frameG at hstk
            rw [kk] at e0
            simp only [farow, kk] at hstk
            skip
            simp (maxSteps := 10000000) only [go_sem, hin, e0, e1, e2, e3, i0, i1, i2, i3, Int.natCast_nonneg]
            refine sem_call rfl rfl (((hstk).embed [0, 1, 2, 3] rfl (by repeat' first | exact trivial | rfl | (simp only [go_sem]; done) | constructor) rfl (by first | rfl | simp only [go_sem]) rfl (by simp)).mono ?_)
            rintro _ _ ⟨_, _, ⟨rfl, rfl⟩, rfl, rfl⟩
            refine run_ok 4000 _ _ _ _ ?_
            simp (maxSteps := 10000000) only [go_sem, hin, e0, e1, e2, e3, i0, i1, i2, i3, Int.natCast_nonneg]
            refine sem_sub (sl := [(0, .int .i64 fn), (3, .vsl 4 xs false), (9, .pbox 0 0), (10, .vsl 1 (iv .i64 (m)) false), (11, .sl 4 0 (v).length (v).length false), (12, .int .i64 (i : Nat)), (94, .pbox 1 0)])
              (m2 := [.box [.pbox 1 0, .int .i64 fn, .int .i64 0, .sl 3 0 (v).length (v).length false], .box [.sl 2 0 (m).length (m).length false], .row 1 (iv .i64 (m)), .row 1 (iv .i64 (v)), .row 1 (iv .i64 (v))]) [0, 1, 6, 3, 4] ?_ ?_
            · simp only [Emb, go_sem, List.length_set]
            exact hT ((m), (v)) ⟨hlen2, hv⟩
        by_cases kk : a.kind = 3
        · by_cases hn : a.n < 0 ∨ (l.length : Int) < a.n
          · have hstk := stack_takeno fn l v a kk hn
            have hlen2 : (l).length ≤ 64 := by exact hl
            unfold frameM frameG at hstk
            rw [kk] at e0
            simp only [farow, kk] at hstk
            skip
            simp (maxSteps := 10000000) only [go_sem, hin, e0, e1, e2, e3, i0, i1, i2, i3, Int.natCast_nonneg]
            refine sem_call rfl rfl (((hstk).embed [0, 1, 2, 3] rfl (by repeat' first | exact trivial | rfl | (simp only [go_sem]; done) | constructor) rfl (by first | rfl | simp only [go_sem]) rfl (by simp)).mono ?_)
            rintro _ _ ⟨_, _, ⟨rfl, rfl⟩, rfl, rfl⟩
            refine run_ok 4000 _ _ _ _ ?_
            simp (maxSteps := 10000000) only [go_sem, hin, e0, e1, e2, e3, i0, i1, i2, i3, Int.natCast_nonneg]
            refine sem_sub (sl := [(0, .int .i64 fn), (3, .vsl 4 xs false), (9, .pbox 0 0), (10, .vsl 1 (iv .i64 (l)) false), (11, .sl 4 0 (v).length (v).length false), (12, .int .i64 (i : Nat)), (94, .pbox 1 0)])
              (m2 := [.box [.pbox 1 0, .int .i64 fn, .int .i64 0, .sl 3 0 (v).length (v).length false], .box [.sl 2 0 (l).length (l).length false], .row 1 (iv .i64 (l)), .row 1 (iv .i64 (v)), .row 1 (iv .i64 (v))]) [0, 1, 6, 3, 4] ?_ ?_
            · simp only [Emb, go_sem, List.length_set]
            exact hT ((l), (v)) ⟨hlen2, hv⟩
          · have hstk := stack_take fn l v a kk a.n.toNat (by omega) (by omega) hl
            have hlen2 : ((l.take (l.length - a.n.toNat))).length ≤ 64 := by rw [List.length_take]; omega
            unfold frameM frameG at hstk
            rw [kk] at e0
            simp only [farow, kk] at hstk
            skip
            simp (maxSteps := 10000000) only [go_sem, hin, e0, e1, e2, e3, i0, i1, i2, i3, Int.natCast_nonneg]
            refine sem_call rfl rfl (((hstk).embed [0, 1, 2, 3] rfl (by repeat' first | exact trivial | rfl | (simp only [go_sem]; done) | constructor) rfl (by first | rfl | simp only [go_sem]) rfl (by simp)).mono ?_)
            rintro _ _ ⟨_, _, ⟨rfl, rfl⟩, rfl, rfl⟩
            refine run_ok 4000 _ _ _ _ ?_
            simp (maxSteps := 10000000) only [go_sem, hin, e0, e1, e2, e3, i0, i1, i2, i3, Int.natCast_nonneg]
            refine sem_sub (sl := [(0, .int .i64 fn), (3, .vsl 4 xs false), (9, .pbox 0 0), (10, .vsl 1 (iv .i64 ((l.take (l.length - a.n.toNat)))) false), (11, .sl 4 0 (v).length (v).length false), (12, .int .i64 (i : Nat)), (94, .pbox 1 0)])
              (m2 := [.box [.pbox 1 0, .int .i64 fn, .int .i64 0, .sl 3 0 (v).length (v).length false], .box [.sl 2 0 ((l.take (l.length - a.n.toNat))).length ((l.take (l.length - a.n.toNat))).length false], .row 1 (iv .i64 ((l.take (l.length - a.n.toNat)))), .row 1 (iv .i64 (v)), .row 1 (iv .i64 (v))]) [0, 1, 6, 3, 4] ?_ ?_
            · simp only [Emb, go_sem, List.length_set]
            exact hT (((l.take (l.length - a.n.toNat))), (v)) ⟨hlen2, hv⟩
        have n1 : (a.kind == 1) = false := by rw [beq_eq_false_iff_ne]; assumption
        have n2 : (a.kind == 2) = false := by rw [beq_eq_false_iff_ne]; assumption
        have n3 : (a.kind == 3) = false := by rw [beq_eq_false_iff_ne]; assumption
        by_cases kk : a.kind = 5
        · rw [kk] at e0
          by_cases hb : 0 ≤ a.n ∧ a.n < (v.length : Int)
          · have hkn : a.n.toNat < v.length := by omega
            have hs := setl_spec fn l v a.n.toNat hkn a.x
            have hcast : ((a.n.toNat : Nat) : Int) = a.n := by omega
            have g1 : a.n ≥ 0 := by omega
            have g2 : a.n < (v.length : Int) := by omega
            have hv'' : (v.set a.n.toNat a.x).length ≤ 16 := by rw [List.length_set]; exact hv
            have hrp := ivs_rput (l := v) hkn a.x
            have hsl : (v.set a.n.toNat a.x).length = v.length := List.length_set
            rw [hcast] at hs
            unfold frameM at hs
            rw [hsl] at hs
            skip
            simp (maxSteps := 10000000) only [go_sem, hin, e0, e1, e2, e3, i0, i1, i2, i3, g1, g2, ivs_inR hkn, hrp, hsl, Int.natCast_nonneg, Nat.zero_add]
            refine sem_call rfl rfl (((hs).embed [0, 1, 2, 3] rfl (by repeat' first | exact trivial | rfl | (simp only [go_sem]; done) | constructor) rfl (by first | rfl | simp only [go_sem]) rfl (by simp)).mono ?_)
            rintro _ _ ⟨_, _, ⟨rfl, rfl⟩, rfl, rfl⟩
            refine run_ok 4000 _ _ _ _ ?_
            simp (maxSteps := 10000000) only [go_sem, hin, e0, e1, e2, e3, i0, i1, i2, i3, g1, g2, ivs_inR hkn, hrp, hsl, Int.natCast_nonneg, Nat.zero_add]
            refine sem_sub (sl := [(0, .int .i64 fn), (3, .vsl 4 xs false), (9, .pbox 0 0), (10, .vsl 1 (iv .i64 (l)) false), (11, .sl 4 0 (v.set a.n.toNat a.x).length (v.set a.n.toNat a.x).length false), (12, .int .i64 (i : Nat)), (94, .pbox 1 0)])
              (m2 := [.box [.pbox 1 0, .int .i64 fn, .int .i64 0, .sl 3 0 (v.set a.n.toNat a.x).length (v.set a.n.toNat a.x).length false], .box [.sl 2 0 (l).length (l).length false], .row 1 (iv .i64 (l)), .row 1 (iv .i64 (v.set a.n.toNat a.x)), .row 1 (iv .i64 (v.set a.n.toNat a.x))]) [0, 1, 2, 3, 4] ?_ ?_
            · simp only [Emb, go_sem, List.length_set]
            exact hT ((l), (v.set a.n.toNat a.x)) ⟨hl, hv''⟩
          · have hs := setl_no fn l v a.n (by omega) a.x
            unfold frameM at hs
            by_cases g1 : a.n ≥ 0
            · have g2 : ¬ a.n < (v.length : Int) := by omega
              skip
              simp (maxSteps := 10000000) only [go_sem, hin, e0, e1, e2, e3, i0, i1, i2, i3, g1, g2, Int.natCast_nonneg, Nat.zero_add]
              refine sem_call rfl rfl (((hs).embed [0, 1, 2, 3] rfl (by repeat' first | exact trivial | rfl | (simp only [go_sem]; done) | constructor) rfl (by first | rfl | simp only [go_sem]) rfl (by simp)).mono ?_)
              rintro _ _ ⟨_, _, ⟨rfl, rfl⟩, rfl, rfl⟩
              refine run_ok 4000 _ _ _ _ ?_
              simp (maxSteps := 10000000) only [go_sem, hin, e0, e1, e2, e3, i0, i1, i2, i3, g1, g2, Int.natCast_nonneg, Nat.zero_add]
              refine sem_sub (sl := [(0, .int .i64 fn), (3, .vsl 4 xs false), (9, .pbox 0 0), (10, .vsl 1 (iv .i64 (l)) false), (11, .sl 4 0 (v).length (v).length false), (12, .int .i64 (i : Nat)), (94, .pbox 1 0)])
                (m2 := [.box [.pbox 1 0, .int .i64 fn, .int .i64 0, .sl 3 0 (v).length (v).length false], .box [.sl 2 0 (l).length (l).length false], .row 1 (iv .i64 (l)), .row 1 (iv .i64 (v)), .row 1 (iv .i64 (v))]) [0, 1, 2, 3, 4] ?_ ?_
              · simp only [Emb, go_sem, List.length_set]
              exact hT ((l), (v)) ⟨hl, hv⟩
            · skip
              simp (maxSteps := 10000000) only [go_sem, hin, e0, e1, e2, e3, i0, i1, i2, i3, g1, Int.natCast_nonneg, Nat.zero_add]
              refine sem_call rfl rfl (((hs).embed [0, 1, 2, 3] rfl (by repeat' first | exact trivial | rfl | (simp only [go_sem]; done) | constructor) rfl (by first | rfl | simp only [go_sem]) rfl (by simp)).mono ?_)
              rintro _ _ ⟨_, _, ⟨rfl, rfl⟩, rfl, rfl⟩
              refine run_ok 4000 _ _ _ _ ?_
              simp (maxSteps := 10000000) only [go_sem, hin, e0, e1, e2, e3, i0, i1, i2, i3, g1, Int.natCast_nonneg, Nat.zero_add]
              refine sem_sub (sl := [(0, .int .i64 fn), (3, .vsl 4 xs false), (9, .pbox 0 0), (10, .vsl 1 (iv .i64 (l)) false), (11, .sl 4 0 (v).length (v).length false), (12, .int .i64 (i : Nat)), (94, .pbox 1 0)])
                (m2 := [.box [.pbox 1 0, .int .i64 fn, .int .i64 0, .sl 3 0 (v).length (v).length false], .box [.sl 2 0 (l).length (l).length false], .row 1 (iv .i64 (l)), .row 1 (iv .i64 (v)), .row 1 (iv .i64 (v))]) [0, 1, 2, 3, 4] ?_ ?_
              · simp only [Emb, go_sem, List.length_set]
              exact hT ((l), (v)) ⟨hl, hv⟩
        · have n5 : (a.kind == 5) = false := by rw [beq_eq_false_iff_ne]; exact kk
          skip
          simp (maxSteps := 10000000) only [go_sem, hin, e0, e1, e2, e3, i0, i1, i2, i3, n1, n2, n3, n5, Int.natCast_nonneg]
          refine sem_sub (sl := [(0, .int .i64 fn), (3, .vsl 4 xs false), (9, .pbox 0 0), (10, .vsl 1 (iv .i64 (l)) false), (11, .sl 4 0 (v).length (v).length false), (12, .int .i64 (i : Nat)), (94, .pbox 1 0)])
            (m2 := [.box [.pbox 1 0, .int .i64 fn, .int .i64 0, .sl 3 0 (v).length (v).length false], .box [.sl 2 0 (l).length (l).length false], .row 1 (iv .i64 (l)), .row 1 (iv .i64 (v)), .row 1 (iv .i64 (v))]) [0, 1, 2, 3, 4] ?_ ?_
          · simp only [Emb, go_sem, List.length_set]
          exact hT ((l), (v)) ⟨hl, hv⟩
      · rintro ⟨l', v'⟩ ⟨hl', hv'⟩
        simp only at hl' hv'
        have hl0 := slen_spec l'
        have hself1 : ((l'.length : Int) != (l'.length : Int)) = false := by simp
        have hself2 : ((fn : Int) != fn) = false := by simp
        have f64 : ¬ (l'.length : Int) > 64 := by omega
        unfold stackM at hl0
        skip
        refine run_ok 4000 _ _ _ _ ?_
        simp (maxSteps := 10000000) only [go_sem, iv_len, hself1, hself2, f64]
        refine sem_call rfl rfl (((hl0).embed [1, 2] rfl (by repeat' first | exact trivial | rfl | (simp only [go_sem]; done) | constructor) rfl (by first | rfl | simp only [go_sem]) rfl (by simp)).mono ?_)
        rintro _ _ ⟨_, _, ⟨rfl, rfl⟩, rfl, rfl⟩
        refine run_ok 4000 _ _ _ _ ?_
        simp (maxSteps := 10000000) only [go_sem, iv_len, hself1, hself2, f64]
        refine sem_call rfl rfl (((hl0).embed [1, 2] rfl (by repeat' first | exact trivial | rfl | (simp only [go_sem]; done) | constructor) rfl (by first | rfl | simp only [go_sem]) rfl (by simp)).mono ?_)
        rintro _ _ ⟨_, _, ⟨rfl, rfl⟩, rfl, rfl⟩
        refine run_ok 4000 _ _ _ _ ?_
        simp (maxSteps := 10000000) only [go_sem, iv_len, hself1, hself2, f64]
        refine sem_rounds (fun j : Nat => j ≤ 18)
          (fun j => [(0, .int .i64 fn), (3, .vsl 4 xs false), (9, .pbox 0 0), (10, .vsl 1 (iv .i64 l') false), (11, .sl 4 0 v'.length v'.length false), (12, .int .i64 (i : Nat)), (17, .int .i64 ((j : Int) - 1))])
          (fun j => [.box [.pbox 1 0, .int .i64 fn, .int .i64 0, .sl 3 0 v'.length v'.length false], .box [.sl 2 0 l'.length l'.length false], .row 1 (iv .i64 l'), .row 1 (iv .i64 v'), .row 1 (iv .i64 v')]) (fun j => 18 - j) 0 [0, 1, 2, 3, 4] (by simp) ?_ ?_
        · have z0 : ((0 : Nat) : Int) - 1 = -1 := rfl
          simp only [Emb, go_sem, z0]
        intro j hj
        by_cases h18 : j = 18
        · subst h18
          have z1 : ((18 : Nat) : Int) - 1 = 17 := rfl
          simp only [z1]
          skip
          refine run_ok 4000 _ _ _ _ ?_
          simp (maxSteps := 10000000) only [go_sem, inc64 (show i < 1000000000000 by omega)]
          refine run_ok 4000 _ _ _ _ ?_
          simp (maxSteps := 10000000) only [go_sem, inc64 (show i < 1000000000000 by omega)]
          refine ⟨(i + 1, l', v'), by simp only; omega, ⟨by simp only; omega, hl', hv'⟩, [0, 1, 2, 3, 4], ?_⟩
          simp only [Emb, go_sem]
        have hlo := local_spec fn l' v' ((j : Int) - 1)
        have z17 : (j : Int) - 1 ≤ 16 := by omega
        have w2 : iwrap .i64 ((j : Int) - 1 + 1) = ((j + 1 : Nat) : Int) - 1 := by rw [iwrap_i64_in (by omega)]; omega
        unfold frameM at hlo
        cases j with
        | zero =>
          have z1 : ((0 : Nat) : Int) - 1 = -1 := rfl
          simp only [z1] at *
          have z2 : ¬ ((-1 : Int) ≥ 0) := by omega
          rw [if_neg (by omega)] at hlo
          skip
          refine run_ok 4000 _ _ _ _ ?_
          simp (maxSteps := 10000000) only [go_sem, z2, z17, w2]
          refine sem_call rfl rfl (((hlo).embed [0, 1, 2, 3] rfl (by repeat' first | exact trivial | rfl | (simp only [go_sem]; done) | constructor) rfl (by first | rfl | simp only [go_sem]) rfl (by simp)).mono ?_)
          rintro _ _ ⟨_, _, ⟨rfl, rfl⟩, rfl, rfl⟩
          refine run_ok 4000 _ _ _ _ ?_
          simp (maxSteps := 10000000) only [go_sem, z2, z17, w2]
          refine ⟨1, by omega, by omega, [0, 1, 2, 3, 4], ?_⟩
          simp only [Emb, go_sem]; try rfl
        | succ m =>
          have z1 : ((m + 1 : Nat) : Int) - 1 = (m : Int) := by omega
          simp only [z1] at *
          have z2 : (m : Int) ≥ 0 := by omega
          by_cases hm : m < v'.length
          · have f1 : (m : Int) < (v'.length : Int) := by omega
            rw [if_pos ⟨by omega, f1⟩, Int.toNat_natCast] at hlo
            have hg : v'.getD m 0 = v'[m] := by rw [List.getD_eq_getElem?_getD, List.getElem?_eq_getElem hm]; rfl
            have hne : (v'[m] != v'[m]) = false := by simp
            rw [hg] at hlo
            skip
            refine run_ok 4000 _ _ _ _ ?_
            simp (maxSteps := 10000000) only [go_sem, z2, z17, w2, f1, iv_hasI hm, iv_rint hm, hne, Int.natCast_nonneg, Nat.zero_add]
            refine sem_call rfl rfl (((hlo).embed [0, 1, 2, 3] rfl (by repeat' first | exact trivial | rfl | (simp only [go_sem]; done) | constructor) rfl (by first | rfl | simp only [go_sem]) rfl (by simp)).mono ?_)
            rintro _ _ ⟨_, _, ⟨rfl, rfl⟩, rfl, rfl⟩
            refine run_ok 4000 _ _ _ _ ?_
            simp (maxSteps := 10000000) only [go_sem, z2, z17, w2, f1, iv_hasI hm, iv_rint hm, hne, Int.natCast_nonneg, Nat.zero_add]
            refine ⟨m + 2, by omega, by omega, [0, 1, 2, 3, 4], ?_⟩
            simp only [Emb, go_sem]
          · have f1 : ¬ (m : Int) < (v'.length : Int) := by omega
            rw [if_neg (by omega)] at hlo
            skip
            refine run_ok 4000 _ _ _ _ ?_
            simp (maxSteps := 10000000) only [go_sem, z2, z17, w2, f1, Int.natCast_nonneg]
            refine sem_call rfl rfl (((hlo).embed [0, 1, 2, 3] rfl (by repeat' first | exact trivial | rfl | (simp only [go_sem]; done) | constructor) rfl (by first | rfl | simp only [go_sem]) rfl (by simp)).mono ?_)
            rintro _ _ ⟨_, _, ⟨rfl, rfl⟩, rfl, rfl⟩
            refine run_ok 4000 _ _ _ _ ?_
            simp (maxSteps := 10000000) only [go_sem, z2, z17, w2, f1, Int.natCast_nonneg]
            refine ⟨m + 2, by omega, by omega, [0, 1, 2, 3, 4], ?_⟩
            simp only [Emb, go_sem]
    · skip
      refine run_ok 4000 _ _ _ _ ?_
      simp (maxSteps := 10000000) only [go_sem]
    · skip
      refine run_ok 4000 _ _ _ _ ?_
      simp (maxSteps := 10000000) only [go_sem]
end Go.AEX
