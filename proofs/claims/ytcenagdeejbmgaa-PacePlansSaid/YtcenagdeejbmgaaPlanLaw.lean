/- PacePlans: the law's evaluation. -/
import Derived.Test.YtcenagdeejbmgaaPlan
import Derived.Test.YtcenagdeejbmgaaAEsa
namespace Go.AEX
open Go Go.AE Go.Proofs
set_option maxRecDepth 100000
set_option linter.unusedVariables false
set_option linter.unusedSimpArgs false

/-- The list that is kept, and the one of all. -/
structure POk (i : Nat) (L A : List (Int × Int × Int)) (since : Int) : Prop where
  pos : 0 < L.length
  len : A.length ≤ i + 1
  lo : 0 ≤ lastT L
  hi : lastT L ≤ 23 * i
  suf : ∃ B, A = B ++ L ∧ (B = [] ∨ ∀ x, L[0]? = some x → x.1 ≤ since)
theorem POk.lenL {i : Nat} {L A : List (Int × Int × Int)} {since : Int} (h : POk i L A since) : L.length ≤ i + 1 := by
  obtain ⟨B, rfl, _⟩ := h.suf
  have := h.len
  rw [List.length_append] at this; omega
theorem POk.posA {i : Nat} {L A : List (Int × Int × Int)} {since : Int} (h : POk i L A since) : 0 < A.length := by
  obtain ⟨B, rfl, _⟩ := h.suf
  have := h.pos
  rw [List.length_append]; omega
theorem lastT_suf (B : List (Int × Int × Int)) {L : List (Int × Int × Int)} (h : 0 < L.length) : lastT (B ++ L) = lastT L := by
  rw [← lastT_eq h, ← lastT_eq (by rw [List.length_append]; omega)]
  congr 1
  rw [List.getElem_append_right (by rw [List.length_append]; omega)]
  congr 1
  rw [List.length_append]; omega
theorem atF_cat (turn : Int) : ∀ (B L : List (Int × Int × Int)) (p : Int × Int), atF turn p (B ++ L) = atF turn (atF turn p B) L
  | [], L, p => rfl
  | x :: B, L, p => atF_cat turn B L _
theorem POk.at {i : Nat} {L A : List (Int × Int × Int)} {since turn : Int} (h : POk i L A since) (ht : since ≤ turn) : atF turn (A[0]'h.posA).2 A = atF turn (L[0]'h.pos).2 L := by
  have hp := h.posA
  have hl := h.pos
  obtain ⟨B, rfl, hB⟩ := h.suf
  rcases hB with rfl | hB
  · rfl
  · rw [atF_cat]
    match L, hl with
    | x :: l, _ =>
      have := hB x rfl
      simp only [atF, List.getElem_cons_zero]
      rw [if_pos (by omega), if_pos (by omega)]
theorem POk.change {i : Nat} {L A : List (Int × Int × Int)} {since turn : Int} (t d : Int) (h : POk i L A since) (ht : turn ≤ lastT L + 23) : POk (i + 1) (chL L turn t d) (chL A turn t d) since ∧ chE A turn t d = chE L turn t d := by
  have hl := h.lo; have hh := h.hi; have hlen := h.len
  obtain ⟨B, rfl, hB⟩ := h.suf
  have hs := lastT_suf B h.pos
  unfold chL chE
  rw [hs]
  refine ⟨?_, rfl⟩
  split
  · exact ⟨h.pos, by omega, hl, by omega, B, rfl, hB⟩
  · split
    · exact ⟨h.pos, by omega, hl, by omega, B, rfl, hB⟩
    · refine ⟨by simp, by rw [List.length_append]; simp at *; omega, by rw [lastT_app]; simp only; omega, by rw [lastT_app]; simp only; omega, B, by simp, ?_⟩
      rcases hB with hB | hB
      · exact .inl hB
      · refine .inr fun x hx => hB x ?_
        rw [List.getElem?_append_left h.pos] at hx
        exact hx
theorem POk.forget {i : Nat} {L A : List (Int × Int × Int)} {since since' : Int} (turn : Int) (h : POk i L A since) (h1 : since ≤ since') (h2 : turn ≤ since') : POk (i + 1) (L.drop (fgN turn L)) A since' := by
  have hl := h.lo; have hh := h.hi; have hlen := h.len
  have hn := fgN_lt (turn := turn) h.pos
  have hf := fgN_first (turn := turn) (L := L)
  generalize fgN turn L = n at *
  have hpd : 0 < (L.drop n).length := by rw [List.length_drop]; omega
  have hlt : lastT (L.drop n) = lastT L := by
    have := lastT_suf (L.take n) hpd
    rw [List.take_append_drop] at this
    exact this.symm
  obtain ⟨B, rfl, hB⟩ := h.suf
  refine ⟨hpd, by omega, by omega, by omega, B ++ L.take n, by rw [List.append_assoc, List.take_append_drop], ?_⟩
  by_cases h0 : n = 0
  · subst h0
    rcases hB with hB | hB
    · exact .inl (by rw [hB]; rfl)
    · exact .inr fun x hx => by have := hB x hx; omega
  · exact .inr fun x hx => by have := hf h0 x hx; omega
theorem POk.more {i : Nat} {L A : List (Int × Int × Int)} {since : Int} (h : POk i L A since) : POk (i + 1) L A since := ⟨h.pos, by have := h.len; omega, h.lo, by have := h.hi; omega, h.suf⟩
/-- What the rows of calls hold. -/
theorem pact_row {x : List AV} (h : HasL [.int .i64, .int .i64, .int .i64, .int .i64, .bool] x) : ∃ k b c d r, x = [.int .i64 k, .int .i64 b, .int .i64 c, .int .i64 d, .bsym r] := by
  simp only [HasL, Has] at h
  obtain ⟨_, _, rfl, ⟨k, rfl, _⟩, _, _, rfl, ⟨b, rfl, _⟩, _, _, rfl, ⟨c, rfl, _⟩, _, _, rfl, ⟨d, rfl, _⟩, _, _, rfl, ⟨r, rfl⟩, rfl⟩ := h
  exact ⟨k, b, c, d, r, rfl⟩
theorem pacePlans_spec (a : Int) (ha : (Lit.int .i64 a).wf = true) (b : Int) (hb : (Lit.int .i64 b).wf = true) (l : AV) (hl : Has (.sl [.int .i64, .int .i64, .int .i64, .int .i64, .bool]) l) :
    Tri Try.prog 8 [.int .i64 a, .int .i64 b, l] [] (fun v m => v = .bool true) := by
  simp only [Has] at hl
  obtain ⟨xs, rfl, hxl, hx⟩ := hl
  simp only [List.length_cons, List.length_nil]
  refine (Tri.asB (Tri.enter (rl := r8) (code := c8) (by kernel_rfl) Try.func8 rfl c8_ok (by kernel_rfl) (by kernel_rfl) ?_))
  refine run_ok 4000 _ _ _ _ ?_
  simp (maxSteps := 10000000) only [go_sem, c8, r8]
  refine sem_call rfl rfl (((awake17_spec).embed [] rfl trivial rfl rfl rfl (by simp)).mono ?_)
  rintro _ _ ⟨_, _, ⟨rfl, rfl⟩, rfl, rfl⟩
  refine run_ok 4000 _ _ _ _ ?_
  simp (maxSteps := 10000000) only [go_sem]
  refine sem_call rfl rfl (((right_spec a b).embed [] rfl trivial rfl rfl rfl (by simp)).mono ?_)
  rintro _ _ ⟨_, _, ⟨rfl, rfl⟩, rfl, rfl⟩
  refine run_ok 4000 _ _ _ _ ?_
  simp (maxSteps := 10000000) only [go_sem]
  have hg := right_good a b
  refine sem_call rfl rfl (((begin_own (right a b).1 (right a b).2 hg).embed [] rfl (by repeat' first | exact trivial | rfl | (simp only [go_sem]; done) | constructor) rfl (by first | rfl | simp only [go_sem]) rfl (by simp)).mono ?_)
  rintro _ _ ⟨_, _, ⟨rfl, rfl⟩, rfl, rfl⟩
  refine run_ok 4000 _ _ _ _ ?_
  simp (maxSteps := 10000000) only [go_sem]
  refine sem_call rfl rfl (((right_spec a b).embed [] rfl trivial rfl rfl rfl (by simp)).mono ?_)
  rintro _ _ ⟨_, _, ⟨rfl, rfl⟩, rfl, rfl⟩
  refine run_ok 4000 _ _ _ _ ?_
  simp (maxSteps := 10000000) only [go_sem]
  generalize right a b = q0 at *
  refine sem_like 9 (.vsl 3 (frows [(0, q0.1, q0.2)]) false) rfl (Like.vslf _ _) ?_
  refine sem_like 10 (.vsl 3 (frows [(0, q0.1, q0.2)]) false) rfl (Like.vslf _ _) ?_
  simp (maxSteps := 10000000) only [go_sem]
  refine sem_rounds (fun x : Nat × List (Int × Int × Int) × List (Int × Int × Int) × List (Int × Int × Int) × Int => x.1 ≤ 60 ∧ POk x.1 x.2.2.1 x.2.2.2.1 x.2.2.2.2)
    (fun x => [(2, .vsl 5 xs false), (7, .pbox 0 0), (9, .vsl 3 (frows x.2.2.1) false), (10, .vsl 3 (frows x.2.2.2.1) false), (11, .int .i64 x.2.2.2.2), (12, .int .i64 (x.1 : Nat))])
    (fun x => plan x.2.1 x.2.2.1) (fun x => 60 - x.1) (0, [], [(0, q0.1, q0.2)], [(0, q0.1, q0.2)], 0) [0, 1] ⟨by simp, by simp, by simp, by simp [lastT], by simp [lastT], [], rfl, .inl rfl⟩ ?_ ?_
  · simp only [Emb, go_sem, plan]
  rintro ⟨i, p, L, A, s⟩ ⟨h60, hk0⟩
  simp only at h60 hk0
  simp only [plan]
  refine run_ok 4000 _ _ _ _ ?_
  simp (maxSteps := 10000000) only [go_sem]
  refine ⟨fun h1 => ⟨fun h2 => ?_, fun h2 => ?_⟩, fun h1 => ?_⟩
  · have hlt : i < xs.length := by omega
    have hin : (i : Int) < (xs.length : Int) := by omega
    obtain ⟨k, by_, ca, cb, raw, hrow⟩ := pact_row (hx _ (List.getElem_mem hlt))
    have hg0 : xs[i]? = some [.int .i64 k, .int .i64 by_, .int .i64 ca, .int .i64 cb, .bsym raw] := by rw [List.getElem?_eq_getElem hlt, hrow]
    have e0 : rint xs i 0 = k := by simp [rint, List.getD_eq_getElem?_getD, hg0]
    have e1 : rint xs i 1 = by_ := by simp [rint, List.getD_eq_getElem?_getD, hg0]
    have e2 : rint xs i 2 = ca := by simp [rint, List.getD_eq_getElem?_getD, hg0]
    have e3 : rint xs i 3 = cb := by simp [rint, List.getD_eq_getElem?_getD, hg0]
    have e4 : rbool xs i 4 = raw := by simp [rbool, List.getD_eq_getElem?_getD, hg0]
    have i0 : hasI .i64 xs i 0 := ⟨_, k, hg0, rfl⟩
    have i1 : hasI .i64 xs i 1 := ⟨_, by_, hg0, rfl⟩
    have i2 : hasI .i64 xs i 2 := ⟨_, ca, hg0, rfl⟩
    have i3 : hasI .i64 xs i 3 := ⟨_, cb, hg0, rfl⟩
    have i4 : hasB xs i 4 := ⟨_, raw, hg0, by simp⟩
    skip
    simp (maxSteps := 10000000) only [go_sem, e0, e1, e2, e3, e4, i0, i1, i2, i3, i4, hin, Int.natCast_nonneg]
    have hlL := hk0.lenL; have hlA := hk0.len; have hpL := hk0.pos; have hpA := hk0.posA; have hlo := hk0.lo; have hhi := hk0.hi
    refine ⟨fun k1 => ?_, fun k1 => ⟨fun k2 => ?_, fun k2 => ?_⟩⟩
    · have hw1 : iwrap .i64 ((L.length : Int) - 1) = ((L.length - 1 : Nat) : Int) := by rw [iwrap_i64_in (by omega)]; omega
      have hp1 : L.length - 1 < L.length := by omega
      have hin1 : ((L.length - 1 : Nat) : Int) < (L.length : Int) := by omega
      obtain ⟨B, hB, hB2⟩ := and_i64 by_ (k := 31) (by decide)
      have hB : ibits .and .i64 by_ 31 = (B : Int) := hB
      have w1 : iwrap .i64 (lastT L + (B : Int)) = lastT L + B := iwrap_i64_in (by omega)
      have w2 : iwrap .i64 (lastT L + (B : Int) - 8) = lastT L + B - 8 := iwrap_i64_in (by omega)
      skip
      refine sem_drawG l8_0_ok (by kernel_rfl) ?_
      intro KK hKK
      simp (maxSteps := 10000000) only [go_sem, l8_0, frows_len, hw1, hin1, frows_h0 hp1, frows_r0 hp1, lastT_eq hpL, Int.natCast_nonneg, hB, w1, w2]
      subst hKK
      simp (maxSteps := 10000000) only [go_sem, frows_len, hw1, hin1, frows_h0 hp1, frows_r0 hp1, lastT_eq hpL, Int.natCast_nonneg, hB, w1, w2]
      refine sem_call rfl rfl (((right_spec ca cb).embed [] rfl trivial rfl rfl rfl (by simp)).mono ?_)
      rintro _ _ ⟨_, _, ⟨rfl, rfl⟩, rfl, rfl⟩
      refine run_ok 4000 _ _ _ _ ?_
      simp (maxSteps := 10000000) only [go_sem, frows_len, hw1, hin1, frows_h0 hp1, frows_r0 hp1, lastT_eq hpL, Int.natCast_nonneg, hB, w1, w2]
      generalize hturn : lastT L + (B : Int) - 8 = turn at *
      refine ⟨fun hr => ?_, fun hr => ?_⟩
      · obtain ⟨t0, ht0⟩ : ∃ t0, t0 = ca := ⟨ca, rfl⟩
        obtain ⟨d0, hd0⟩ : ∃ d0, d0 = cb := ⟨cb, rfl⟩
        rw [← ht0, ← hd0]
        have hchg := change_spec p L turn t0 d0 hpL (by omega)
        skip
        simp only [plan, plang] at hchg
        refine sem_call rfl rfl (((hchg).embed [0, 1] rfl (by repeat' first | exact trivial | rfl | (simp only [go_sem]; done) | constructor) rfl (by first | rfl | simp only [go_sem]) rfl (by simp)).mono ?_)
        rintro _ _ ⟨_, _, ⟨rfl, p', rfl⟩, rfl, rfl⟩
        refine run_ok 4000 _ _ _ _ ?_
        simp (maxSteps := 10000000) only [go_sem, plan, plang, frows_len]
        refine sem_call rfl rfl (((rchange_spec L turn t0 d0 hpL (by omega)).embed [] rfl trivial rfl rfl rfl (by simp)).mono ?_)
        rintro _ _ ⟨_, _, ⟨rfl, rfl⟩, rfl, rfl⟩
        refine run_ok 4000 _ _ _ _ ?_
        simp (maxSteps := 10000000) only [go_sem, plan, plang, frows_len]
        have hr := rchange_spec A turn t0 d0 hpA (by omega)
        obtain ⟨hk, hE⟩ := hk0.change t0 d0 (turn := turn) (by omega)
        rw [hE] at hr
        refine sem_call rfl rfl (((hr).embed [] rfl trivial rfl rfl rfl (by simp)).mono ?_)
        rintro _ _ ⟨_, _, ⟨rfl, rfl⟩, rfl, rfl⟩
        refine run_ok 4000 _ _ _ _ ?_
        simp (maxSteps := 10000000) only [go_sem, plan, plang, frows_len]
        generalize chL L turn t0 d0 = L' at *
        generalize chL A turn t0 d0 = A' at *
        obtain ⟨s', hs'⟩ : ∃ s', s' = s := ⟨s, rfl⟩
        rw [← hs'] at hk ⊢
        refine sem_sub (sl := [(2, .vsl 5 xs false), (7, .pbox 0 0), (9, .vsl 3 (frows L') false), (10, .vsl 3 (frows A') false), (11, .int .i64 s'), (12, .int .i64 (i : Nat))]) (m2 := plan p' L') [0, 4] ?_ ?_
        · simp only [Emb, go_sem, plan]
        have hlL := hk.lenL; have hlA := hk.len; have hpL := hk.pos; have hpA := hk.posA
        have hw1 : iwrap .i64 ((L'.length : Int) - 1) = ((L'.length - 1 : Nat) : Int) := by rw [iwrap_i64_in (by omega)]; omega
        have hp1 : L'.length - 1 < L'.length := by omega
        have hin1 : ((L'.length - 1 : Nat) : Int) < (L'.length : Int) := by omega
        skip
        refine run_ok 4000 _ _ _ _ ?_
        simp (maxSteps := 10000000) only [go_sem, plan, frows_len, hw1, hin1, frows_h0 hp1, frows_r0 hp1, lastT_eq hpL, Int.natCast_nonneg]
        refine sem_drawG l8_1_ok (by kernel_rfl) ?_
        intro KK hKK
        simp (maxSteps := 10000000) only [go_sem, l8_1, plan, frows_len, hw1, hin1, frows_h0 hp1, frows_r0 hp1, lastT_eq hpL, Int.natCast_nonneg]
        refine TriZ.of (((plast_spec p' L' hpL (by omega)).embed [0, 1] rfl (by repeat' first | exact trivial | rfl | (simp only [go_sem]; done) | constructor) rfl (by first | rfl | simp only [go_sem]) rfl (by simp)).mono ?_)
        rintro _ _ ⟨_, _, ⟨rfl, rfl⟩, rfl, rfl⟩
        simp (maxSteps := 10000000) only [go_sem, plan, frows_len, hw1, hin1, frows_h0 hp1, frows_r0 hp1, lastT_eq hpL, Int.natCast_nonneg]
        subst hKK
        simp (maxSteps := 10000000) only [go_sem, plan, frows_len, hw1, hin1, frows_h0 hp1, frows_r0 hp1, lastT_eq hpL, Int.natCast_nonneg]
        refine sem_rounds (fun j : Nat => j ≤ 43)
          (fun j => [(2, .vsl 5 xs false), (7, .pbox 0 0), (9, .vsl 3 (frows L') false), (10, .vsl 3 (frows A') false), (11, .int .i64 s'), (12, .int .i64 (i : Nat)), (25, .int .i64 (7 * j : Nat))])
          (fun j => plan p' L') (fun j => 43 - j) 0 [0, 1] (by simp) ?_ ?_
        · simp only [Emb, go_sem, plan, Nat.mul_zero]
        intro j hj
        skip
        refine run_ok 4000 _ _ _ _ ?_
        simp (maxSteps := 10000000) only [go_sem, plan]
        refine ⟨fun hlt => ?_, fun hge => ?_⟩
        · have hj' : j < 43 := by omega
          have hw2 : iwrap .i64 (((7 * j : Nat) : Int) + 7) = ((7 * (j + 1) : Nat) : Int) := by rw [iwrap_i64_in (by omega)]; omega
          skip
          refine sem_call rfl rfl (((at_spec p' L' ((7 * j : Nat) : Int) hpL (by omega)).embed [0, 1] rfl (by repeat' first | exact trivial | rfl | (simp only [go_sem]; done) | constructor) rfl (by first | rfl | simp only [go_sem]) rfl (by simp)).mono ?_)
          rintro _ _ ⟨_, _, ⟨rfl, rfl⟩, rfl, rfl⟩
          refine run_ok 4000 _ _ _ _ ?_
          simp (maxSteps := 10000000) only [go_sem, plan, hw2]
          refine sem_call rfl rfl (((rat_spec L' ((7 * j : Nat) : Int) hpL (by omega)).embed [] rfl trivial rfl rfl rfl (by simp)).mono ?_)
          rintro _ _ ⟨_, _, ⟨rfl, rfl⟩, rfl, rfl⟩
          refine run_ok 4000 _ _ _ _ ?_
          simp (maxSteps := 10000000) only [go_sem, plan, hw2]
          refine ⟨fun hs => ?_, fun hs => ?_⟩
          · have hat := hk.at (turn := ((7 * j : Nat) : Int)) (by omega)
            skip
            refine sem_call rfl rfl (((at_spec p' L' ((7 * j : Nat) : Int) hpL (by omega)).embed [0, 1] rfl (by repeat' first | exact trivial | rfl | (simp only [go_sem]; done) | constructor) rfl (by first | rfl | simp only [go_sem]) rfl (by simp)).mono ?_)
            rintro _ _ ⟨_, _, ⟨rfl, rfl⟩, rfl, rfl⟩
            refine run_ok 4000 _ _ _ _ ?_
            simp (maxSteps := 10000000) only [go_sem, plan, hw2, hat]
            refine sem_call rfl rfl (((rat_spec A' ((7 * j : Nat) : Int) hpA (by omega)).embed [] rfl trivial rfl rfl rfl (by simp)).mono ?_)
            rintro _ _ ⟨_, _, ⟨rfl, rfl⟩, rfl, rfl⟩
            refine run_ok 4000 _ _ _ _ ?_
            simp (maxSteps := 10000000) only [go_sem, plan, hw2, hat]
            refine ⟨j + 1, by omega, hj', [0, 1], ?_⟩
            simp only [Emb, go_sem, plan]
          · refine ⟨j + 1, by omega, hj', [0, 1], ?_⟩
            simp only [Emb, go_sem, plan]
        · skip
          refine run_ok 4000 _ _ _ _ ?_
          simp (maxSteps := 10000000) only [go_sem, plan, inc64 (show i < 1000000000000 by omega)]
          refine ⟨(i + 1, p', L', A', s'), by simp only; omega, ⟨by simp only; omega, hk⟩, [0, 1], ?_⟩
          simp only [Emb, go_sem, plan]
      · generalize right ca cb = q at *
        obtain ⟨t0, d0⟩ := q
        have hchg := change_spec p L turn t0 d0 hpL (by omega)
        skip
        simp only [plan, plang] at hchg
        refine sem_call rfl rfl (((hchg).embed [0, 1] rfl (by repeat' first | exact trivial | rfl | (simp only [go_sem]; done) | constructor) rfl (by first | rfl | simp only [go_sem]) rfl (by simp)).mono ?_)
        rintro _ _ ⟨_, _, ⟨rfl, p', rfl⟩, rfl, rfl⟩
        refine run_ok 4000 _ _ _ _ ?_
        simp (maxSteps := 10000000) only [go_sem, plan, plang, frows_len]
        refine sem_call rfl rfl (((rchange_spec L turn t0 d0 hpL (by omega)).embed [] rfl trivial rfl rfl rfl (by simp)).mono ?_)
        rintro _ _ ⟨_, _, ⟨rfl, rfl⟩, rfl, rfl⟩
        refine run_ok 4000 _ _ _ _ ?_
        simp (maxSteps := 10000000) only [go_sem, plan, plang, frows_len]
        have hr := rchange_spec A turn t0 d0 hpA (by omega)
        obtain ⟨hk, hE⟩ := hk0.change t0 d0 (turn := turn) (by omega)
        rw [hE] at hr
        refine sem_call rfl rfl (((hr).embed [] rfl trivial rfl rfl rfl (by simp)).mono ?_)
        rintro _ _ ⟨_, _, ⟨rfl, rfl⟩, rfl, rfl⟩
        refine run_ok 4000 _ _ _ _ ?_
        simp (maxSteps := 10000000) only [go_sem, plan, plang, frows_len]
        generalize chL L turn t0 d0 = L' at *
        generalize chL A turn t0 d0 = A' at *
        obtain ⟨s', hs'⟩ : ∃ s', s' = s := ⟨s, rfl⟩
        rw [← hs'] at hk ⊢
        refine sem_sub (sl := [(2, .vsl 5 xs false), (7, .pbox 0 0), (9, .vsl 3 (frows L') false), (10, .vsl 3 (frows A') false), (11, .int .i64 s'), (12, .int .i64 (i : Nat))]) (m2 := plan p' L') [0, 4] ?_ ?_
        · simp only [Emb, go_sem, plan]
        have hlL := hk.lenL; have hlA := hk.len; have hpL := hk.pos; have hpA := hk.posA
        have hw1 : iwrap .i64 ((L'.length : Int) - 1) = ((L'.length - 1 : Nat) : Int) := by rw [iwrap_i64_in (by omega)]; omega
        have hp1 : L'.length - 1 < L'.length := by omega
        have hin1 : ((L'.length - 1 : Nat) : Int) < (L'.length : Int) := by omega
        skip
        refine run_ok 4000 _ _ _ _ ?_
        simp (maxSteps := 10000000) only [go_sem, plan, frows_len, hw1, hin1, frows_h0 hp1, frows_r0 hp1, lastT_eq hpL, Int.natCast_nonneg]
        refine sem_drawG l8_1_ok (by kernel_rfl) ?_
        intro KK hKK
        simp (maxSteps := 10000000) only [go_sem, l8_1, plan, frows_len, hw1, hin1, frows_h0 hp1, frows_r0 hp1, lastT_eq hpL, Int.natCast_nonneg]
        refine TriZ.of (((plast_spec p' L' hpL (by omega)).embed [0, 1] rfl (by repeat' first | exact trivial | rfl | (simp only [go_sem]; done) | constructor) rfl (by first | rfl | simp only [go_sem]) rfl (by simp)).mono ?_)
        rintro _ _ ⟨_, _, ⟨rfl, rfl⟩, rfl, rfl⟩
        simp (maxSteps := 10000000) only [go_sem, plan, frows_len, hw1, hin1, frows_h0 hp1, frows_r0 hp1, lastT_eq hpL, Int.natCast_nonneg]
        subst hKK
        simp (maxSteps := 10000000) only [go_sem, plan, frows_len, hw1, hin1, frows_h0 hp1, frows_r0 hp1, lastT_eq hpL, Int.natCast_nonneg]
        refine sem_rounds (fun j : Nat => j ≤ 43)
          (fun j => [(2, .vsl 5 xs false), (7, .pbox 0 0), (9, .vsl 3 (frows L') false), (10, .vsl 3 (frows A') false), (11, .int .i64 s'), (12, .int .i64 (i : Nat)), (25, .int .i64 (7 * j : Nat))])
          (fun j => plan p' L') (fun j => 43 - j) 0 [0, 1] (by simp) ?_ ?_
        · simp only [Emb, go_sem, plan, Nat.mul_zero]
        intro j hj
        skip
        refine run_ok 4000 _ _ _ _ ?_
        simp (maxSteps := 10000000) only [go_sem, plan]
        refine ⟨fun hlt => ?_, fun hge => ?_⟩
        · have hj' : j < 43 := by omega
          have hw2 : iwrap .i64 (((7 * j : Nat) : Int) + 7) = ((7 * (j + 1) : Nat) : Int) := by rw [iwrap_i64_in (by omega)]; omega
          skip
          refine sem_call rfl rfl (((at_spec p' L' ((7 * j : Nat) : Int) hpL (by omega)).embed [0, 1] rfl (by repeat' first | exact trivial | rfl | (simp only [go_sem]; done) | constructor) rfl (by first | rfl | simp only [go_sem]) rfl (by simp)).mono ?_)
          rintro _ _ ⟨_, _, ⟨rfl, rfl⟩, rfl, rfl⟩
          refine run_ok 4000 _ _ _ _ ?_
          simp (maxSteps := 10000000) only [go_sem, plan, hw2]
          refine sem_call rfl rfl (((rat_spec L' ((7 * j : Nat) : Int) hpL (by omega)).embed [] rfl trivial rfl rfl rfl (by simp)).mono ?_)
          rintro _ _ ⟨_, _, ⟨rfl, rfl⟩, rfl, rfl⟩
          refine run_ok 4000 _ _ _ _ ?_
          simp (maxSteps := 10000000) only [go_sem, plan, hw2]
          refine ⟨fun hs => ?_, fun hs => ?_⟩
          · have hat := hk.at (turn := ((7 * j : Nat) : Int)) (by omega)
            skip
            refine sem_call rfl rfl (((at_spec p' L' ((7 * j : Nat) : Int) hpL (by omega)).embed [0, 1] rfl (by repeat' first | exact trivial | rfl | (simp only [go_sem]; done) | constructor) rfl (by first | rfl | simp only [go_sem]) rfl (by simp)).mono ?_)
            rintro _ _ ⟨_, _, ⟨rfl, rfl⟩, rfl, rfl⟩
            refine run_ok 4000 _ _ _ _ ?_
            simp (maxSteps := 10000000) only [go_sem, plan, hw2, hat]
            refine sem_call rfl rfl (((rat_spec A' ((7 * j : Nat) : Int) hpA (by omega)).embed [] rfl trivial rfl rfl rfl (by simp)).mono ?_)
            rintro _ _ ⟨_, _, ⟨rfl, rfl⟩, rfl, rfl⟩
            refine run_ok 4000 _ _ _ _ ?_
            simp (maxSteps := 10000000) only [go_sem, plan, hw2, hat]
            refine ⟨j + 1, by omega, hj', [0, 1], ?_⟩
            simp only [Emb, go_sem, plan]
          · refine ⟨j + 1, by omega, hj', [0, 1], ?_⟩
            simp only [Emb, go_sem, plan]
        · skip
          refine run_ok 4000 _ _ _ _ ?_
          simp (maxSteps := 10000000) only [go_sem, plan, inc64 (show i < 1000000000000 by omega)]
          refine ⟨(i + 1, p', L', A', s'), by simp only; omega, ⟨by simp only; omega, hk⟩, [0, 1], ?_⟩
          simp only [Emb, go_sem, plan]
    · obtain ⟨B, hB, hB2⟩ := and_i64 by_ (k := 255) (by decide)
      have hB : ibits .and .i64 by_ 255 = (B : Int) := hB
      skip
      simp (maxSteps := 10000000) only [go_sem, hB]
      have hfg := forget_spec p L (B : Int) hpL (by omega)
      skip
      simp only [plan] at hfg
      refine sem_call rfl rfl (((hfg).embed [0, 1] rfl (by repeat' first | exact trivial | rfl | (simp only [go_sem]; done) | constructor) rfl (by first | rfl | simp only [go_sem]) rfl (by simp)).mono ?_)
      rintro _ _ ⟨_, _, ⟨rfl, p', rfl⟩, rfl, rfl⟩
      refine run_ok 4000 _ _ _ _ ?_
      simp (maxSteps := 10000000) only [go_sem, plan, frows_len]
      refine sem_call rfl rfl (((rforget_spec L (B : Int) hpL (by omega)).embed [] rfl trivial rfl rfl rfl (by simp)).mono ?_)
      rintro _ _ ⟨_, _, ⟨rfl, rfl⟩, rfl, rfl⟩
      refine run_ok 4000 _ _ _ _ ?_
      simp (maxSteps := 10000000) only [go_sem, plan, frows_len]
      have hk := hk0.forget (B : Int) (since' := if (B : Int) > s then (B : Int) else s) (by split <;> omega) (by split <;> omega)
      generalize L.drop (fgN (B : Int) L) = L' at *
      generalize (if (B : Int) > s then (B : Int) else s) = s' at *
      generalize A = A' at *
      refine sem_sub (sl := [(2, .vsl 5 xs false), (7, .pbox 0 0), (9, .vsl 3 (frows L') false), (10, .vsl 3 (frows A') false), (11, .int .i64 s'), (12, .int .i64 (i : Nat))]) (m2 := plan p' L') [0, 1] ?_ ?_
      · simp only [Emb, go_sem, plan]
      have hlL := hk.lenL; have hlA := hk.len; have hpL := hk.pos; have hpA := hk.posA
      have hw1 : iwrap .i64 ((L'.length : Int) - 1) = ((L'.length - 1 : Nat) : Int) := by rw [iwrap_i64_in (by omega)]; omega
      have hp1 : L'.length - 1 < L'.length := by omega
      have hin1 : ((L'.length - 1 : Nat) : Int) < (L'.length : Int) := by omega
      skip
      refine run_ok 4000 _ _ _ _ ?_
      simp (maxSteps := 10000000) only [go_sem, plan, frows_len, hw1, hin1, frows_h0 hp1, frows_r0 hp1, lastT_eq hpL, Int.natCast_nonneg]
      refine sem_drawG l8_1_ok (by kernel_rfl) ?_
      intro KK hKK
      simp (maxSteps := 10000000) only [go_sem, l8_1, plan, frows_len, hw1, hin1, frows_h0 hp1, frows_r0 hp1, lastT_eq hpL, Int.natCast_nonneg]
      refine TriZ.of (((plast_spec p' L' hpL (by omega)).embed [0, 1] rfl (by repeat' first | exact trivial | rfl | (simp only [go_sem]; done) | constructor) rfl (by first | rfl | simp only [go_sem]) rfl (by simp)).mono ?_)
      rintro _ _ ⟨_, _, ⟨rfl, rfl⟩, rfl, rfl⟩
      simp (maxSteps := 10000000) only [go_sem, plan, frows_len, hw1, hin1, frows_h0 hp1, frows_r0 hp1, lastT_eq hpL, Int.natCast_nonneg]
      subst hKK
      simp (maxSteps := 10000000) only [go_sem, plan, frows_len, hw1, hin1, frows_h0 hp1, frows_r0 hp1, lastT_eq hpL, Int.natCast_nonneg]
      refine sem_rounds (fun j : Nat => j ≤ 43)
        (fun j => [(2, .vsl 5 xs false), (7, .pbox 0 0), (9, .vsl 3 (frows L') false), (10, .vsl 3 (frows A') false), (11, .int .i64 s'), (12, .int .i64 (i : Nat)), (25, .int .i64 (7 * j : Nat))])
        (fun j => plan p' L') (fun j => 43 - j) 0 [0, 1] (by simp) ?_ ?_
      · simp only [Emb, go_sem, plan, Nat.mul_zero]
      intro j hj
      skip
      refine run_ok 4000 _ _ _ _ ?_
      simp (maxSteps := 10000000) only [go_sem, plan]
      refine ⟨fun hlt => ?_, fun hge => ?_⟩
      · have hj' : j < 43 := by omega
        have hw2 : iwrap .i64 (((7 * j : Nat) : Int) + 7) = ((7 * (j + 1) : Nat) : Int) := by rw [iwrap_i64_in (by omega)]; omega
        skip
        refine sem_call rfl rfl (((at_spec p' L' ((7 * j : Nat) : Int) hpL (by omega)).embed [0, 1] rfl (by repeat' first | exact trivial | rfl | (simp only [go_sem]; done) | constructor) rfl (by first | rfl | simp only [go_sem]) rfl (by simp)).mono ?_)
        rintro _ _ ⟨_, _, ⟨rfl, rfl⟩, rfl, rfl⟩
        refine run_ok 4000 _ _ _ _ ?_
        simp (maxSteps := 10000000) only [go_sem, plan, hw2]
        refine sem_call rfl rfl (((rat_spec L' ((7 * j : Nat) : Int) hpL (by omega)).embed [] rfl trivial rfl rfl rfl (by simp)).mono ?_)
        rintro _ _ ⟨_, _, ⟨rfl, rfl⟩, rfl, rfl⟩
        refine run_ok 4000 _ _ _ _ ?_
        simp (maxSteps := 10000000) only [go_sem, plan, hw2]
        refine ⟨fun hs => ?_, fun hs => ?_⟩
        · have hat := hk.at (turn := ((7 * j : Nat) : Int)) (by omega)
          skip
          refine sem_call rfl rfl (((at_spec p' L' ((7 * j : Nat) : Int) hpL (by omega)).embed [0, 1] rfl (by repeat' first | exact trivial | rfl | (simp only [go_sem]; done) | constructor) rfl (by first | rfl | simp only [go_sem]) rfl (by simp)).mono ?_)
          rintro _ _ ⟨_, _, ⟨rfl, rfl⟩, rfl, rfl⟩
          refine run_ok 4000 _ _ _ _ ?_
          simp (maxSteps := 10000000) only [go_sem, plan, hw2, hat]
          refine sem_call rfl rfl (((rat_spec A' ((7 * j : Nat) : Int) hpA (by omega)).embed [] rfl trivial rfl rfl rfl (by simp)).mono ?_)
          rintro _ _ ⟨_, _, ⟨rfl, rfl⟩, rfl, rfl⟩
          refine run_ok 4000 _ _ _ _ ?_
          simp (maxSteps := 10000000) only [go_sem, plan, hw2, hat]
          refine ⟨j + 1, by omega, hj', [0, 1], ?_⟩
          simp only [Emb, go_sem, plan]
        · refine ⟨j + 1, by omega, hj', [0, 1], ?_⟩
          simp only [Emb, go_sem, plan]
      · skip
        refine run_ok 4000 _ _ _ _ ?_
        simp (maxSteps := 10000000) only [go_sem, plan, inc64 (show i < 1000000000000 by omega)]
        refine ⟨(i + 1, p', L', A', s'), by simp only; omega, ⟨by simp only; omega, hk⟩, [0, 1], ?_⟩
        simp only [Emb, go_sem, plan]
    · obtain ⟨s', hs'⟩ : ∃ s', s' = s := ⟨s, rfl⟩
      obtain ⟨L', hL'⟩ : ∃ L', L' = L := ⟨L, rfl⟩
      obtain ⟨A', hA'⟩ : ∃ A', A' = A := ⟨A, rfl⟩
      obtain ⟨p', hp'⟩ : ∃ p', p' = p := ⟨p, rfl⟩
      have hk := hk0.more
      rw [← hs', ← hL', ← hA', ← hp'] at *
      refine sem_sub (sl := [(2, .vsl 5 xs false), (7, .pbox 0 0), (9, .vsl 3 (frows L') false), (10, .vsl 3 (frows A') false), (11, .int .i64 s'), (12, .int .i64 (i : Nat))]) (m2 := plan p' L') [0, 1] ?_ ?_
      · simp only [Emb, go_sem, plan]
      have hlL := hk.lenL; have hlA := hk.len; have hpL := hk.pos; have hpA := hk.posA
      have hw1 : iwrap .i64 ((L'.length : Int) - 1) = ((L'.length - 1 : Nat) : Int) := by rw [iwrap_i64_in (by omega)]; omega
      have hp1 : L'.length - 1 < L'.length := by omega
      have hin1 : ((L'.length - 1 : Nat) : Int) < (L'.length : Int) := by omega
      skip
      refine run_ok 4000 _ _ _ _ ?_
      simp (maxSteps := 10000000) only [go_sem, plan, frows_len, hw1, hin1, frows_h0 hp1, frows_r0 hp1, lastT_eq hpL, Int.natCast_nonneg]
      refine sem_drawG l8_1_ok (by kernel_rfl) ?_
      intro KK hKK
      simp (maxSteps := 10000000) only [go_sem, l8_1, plan, frows_len, hw1, hin1, frows_h0 hp1, frows_r0 hp1, lastT_eq hpL, Int.natCast_nonneg]
      refine TriZ.of (((plast_spec p' L' hpL (by omega)).embed [0, 1] rfl (by repeat' first | exact trivial | rfl | (simp only [go_sem]; done) | constructor) rfl (by first | rfl | simp only [go_sem]) rfl (by simp)).mono ?_)
      rintro _ _ ⟨_, _, ⟨rfl, rfl⟩, rfl, rfl⟩
      simp (maxSteps := 10000000) only [go_sem, plan, frows_len, hw1, hin1, frows_h0 hp1, frows_r0 hp1, lastT_eq hpL, Int.natCast_nonneg]
      subst hKK
      simp (maxSteps := 10000000) only [go_sem, plan, frows_len, hw1, hin1, frows_h0 hp1, frows_r0 hp1, lastT_eq hpL, Int.natCast_nonneg]
      refine sem_rounds (fun j : Nat => j ≤ 43)
        (fun j => [(2, .vsl 5 xs false), (7, .pbox 0 0), (9, .vsl 3 (frows L') false), (10, .vsl 3 (frows A') false), (11, .int .i64 s'), (12, .int .i64 (i : Nat)), (25, .int .i64 (7 * j : Nat))])
        (fun j => plan p' L') (fun j => 43 - j) 0 [0, 1] (by simp) ?_ ?_
      · simp only [Emb, go_sem, plan, Nat.mul_zero]
      intro j hj
      skip
      refine run_ok 4000 _ _ _ _ ?_
      simp (maxSteps := 10000000) only [go_sem, plan]
      refine ⟨fun hlt => ?_, fun hge => ?_⟩
      · have hj' : j < 43 := by omega
        have hw2 : iwrap .i64 (((7 * j : Nat) : Int) + 7) = ((7 * (j + 1) : Nat) : Int) := by rw [iwrap_i64_in (by omega)]; omega
        skip
        refine sem_call rfl rfl (((at_spec p' L' ((7 * j : Nat) : Int) hpL (by omega)).embed [0, 1] rfl (by repeat' first | exact trivial | rfl | (simp only [go_sem]; done) | constructor) rfl (by first | rfl | simp only [go_sem]) rfl (by simp)).mono ?_)
        rintro _ _ ⟨_, _, ⟨rfl, rfl⟩, rfl, rfl⟩
        refine run_ok 4000 _ _ _ _ ?_
        simp (maxSteps := 10000000) only [go_sem, plan, hw2]
        refine sem_call rfl rfl (((rat_spec L' ((7 * j : Nat) : Int) hpL (by omega)).embed [] rfl trivial rfl rfl rfl (by simp)).mono ?_)
        rintro _ _ ⟨_, _, ⟨rfl, rfl⟩, rfl, rfl⟩
        refine run_ok 4000 _ _ _ _ ?_
        simp (maxSteps := 10000000) only [go_sem, plan, hw2]
        refine ⟨fun hs => ?_, fun hs => ?_⟩
        · have hat := hk.at (turn := ((7 * j : Nat) : Int)) (by omega)
          skip
          refine sem_call rfl rfl (((at_spec p' L' ((7 * j : Nat) : Int) hpL (by omega)).embed [0, 1] rfl (by repeat' first | exact trivial | rfl | (simp only [go_sem]; done) | constructor) rfl (by first | rfl | simp only [go_sem]) rfl (by simp)).mono ?_)
          rintro _ _ ⟨_, _, ⟨rfl, rfl⟩, rfl, rfl⟩
          refine run_ok 4000 _ _ _ _ ?_
          simp (maxSteps := 10000000) only [go_sem, plan, hw2, hat]
          refine sem_call rfl rfl (((rat_spec A' ((7 * j : Nat) : Int) hpA (by omega)).embed [] rfl trivial rfl rfl rfl (by simp)).mono ?_)
          rintro _ _ ⟨_, _, ⟨rfl, rfl⟩, rfl, rfl⟩
          refine run_ok 4000 _ _ _ _ ?_
          simp (maxSteps := 10000000) only [go_sem, plan, hw2, hat]
          refine ⟨j + 1, by omega, hj', [0, 1], ?_⟩
          simp only [Emb, go_sem, plan]
        · refine ⟨j + 1, by omega, hj', [0, 1], ?_⟩
          simp only [Emb, go_sem, plan]
      · skip
        refine run_ok 4000 _ _ _ _ ?_
        simp (maxSteps := 10000000) only [go_sem, plan, inc64 (show i < 1000000000000 by omega)]
        refine ⟨(i + 1, p', L', A', s'), by simp only; omega, ⟨by simp only; omega, hk⟩, [0, 1], ?_⟩
        simp only [Emb, go_sem, plan]
  · skip
    refine run_ok 4000 _ _ _ _ ?_
    simp (maxSteps := 10000000) only [go_sem]
  · refine run_ok 4000 _ _ _ _ ?_
    simp (maxSteps := 10000000) only [go_sem]
end Go.AEX
