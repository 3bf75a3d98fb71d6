/- Frame: any calls of a heap (FrameHeap). -/
import Derived.Test.YteilmgoomifjmaaHeapR2
import Derived.Test.YteilmgoomifjmaaAEsa
namespace Go.AEX
open Go Go.AE Go.Proofs
set_option maxRecDepth 100000
set_option linter.unusedVariables false
set_option linter.unusedSimpArgs false

theorem hc_fz1 (b sz : Nat) (xs : List (List AV)) (l : List Int) : (fzL b sz xs (hc l)).1 = True := by
  induction l with
  | nil => simp [hc, fzL]
  | cons x l ih => simp only [hc, List.map_cons] at ih ⊢; simp [fzL, fzV, ih]
theorem hc_fz2 (b sz : Nat) (xs : List (List AV)) (l : List Int) : (fzL b sz xs (hc l)).2 = hc l := by
  induction l with
  | nil => simp [hc, fzL]
  | cons x l ih => simp only [hc, List.map_cons] at ih ⊢; simp [fzL, fzV, ih]
attribute [go_sem] hc_fz1 hc_fz2
theorem hact_row {x : List AV} (h : HasL [.int .i64, .int .i64, .int .i64, .sl [.int .i64]] x) : ∃ (a b c : Int) (d : AV), x = [.int .i64 a, .int .i64 b, .int .i64 c, d] ∧ (Lit.int .i64 c).wf = true := by
  simp only [HasL, Has] at h
  obtain ⟨_, _, rfl, ⟨k, rfl, _⟩, _, _, rfl, ⟨b, rfl, _⟩, _, _, rfl, ⟨c, rfl, hc⟩, _, _, rfl, ⟨xs, rfl, _, _⟩, rfl⟩ := h
  exact ⟨k, b, c, _, rfl, hc⟩
theorem frameHeap_spec (ac : AV) (hac : Has (.sl [.int .i64, .int .i64, .int .i64, .sl [.int .i64]]) ac) : Tri Try.prog 10 [ac] [] (fun v m => v = .bool true) := by
  simp only [Has] at hac
  obtain ⟨xs, rfl, hxl, hx⟩ := hac
  simp only [List.length_cons, List.length_nil]
  refine (Tri.asB (Tri.enter (rl := r10) (code := c10) (by kernel_rfl) Try.func10 rfl c10_ok (by kernel_rfl) (by kernel_rfl) ?_))
  refine run_ok 4000 _ _ _ _ ?_
  simp (maxSteps := 10000000) only [go_sem, c10, r10]
  refine sem_call rfl rfl (((awake06_spec).embed [] rfl trivial rfl rfl rfl (by simp)).mono ?_)
  rintro _ _ ⟨_, _, ⟨rfl, rfl⟩, rfl, rfl⟩
  refine run_ok 4000 _ _ _ _ ?_
  simp (maxSteps := 10000000) only [go_sem]
  refine sem_call rfl rfl (((rheap_spec).embed [] rfl (by repeat' first | exact trivial | rfl | (simp only [go_sem]; done) | constructor) rfl (by first | rfl | simp only [go_sem]) rfl (by simp)).mono ?_)
  rintro _ _ ⟨_, _, ⟨rfl, rfl⟩, rfl, rfl⟩
  refine run_ok 4000 _ _ _ _ ?_
  simp (maxSteps := 10000000) only [go_sem]
  refine sem_rounds (fun x : Nat × List Int => x.1 ≤ 60 ∧ x.2.length = 64 ∧ ∀ n ∈ x.2, I64 n)
    (fun x => [(0, .vsl 4 xs false), (3, .pbox 0 0), (4, .sl 1 0 64 64 false), (5, .int .i64 (x.1 : Nat))])
    (fun x => [.box (hc x.2), .row 1 (iv .i64 x.2)]) (fun x => 60 - x.1) (0, hz) [0, 1] ⟨by simp, rfl, ?hz6⟩ ?_ ?_
  case hz6 => intro n hn; rw [List.eq_of_mem_replicate hn]; unfold I64; omega
  · simp only [Emb, go_sem]
    rfl
  rintro ⟨i, H⟩ ⟨h60, hH, hH6⟩
  simp only at h60 hH hH6
  refine run_ok 4000 _ _ _ _ ?_
  simp (maxSteps := 10000000) only [go_sem]
  have fin : ∀ K : Prop, K → K := fun _ h => h
  refine ⟨fun h1 => ⟨fun h2 => ?_, fun h2 => ?_⟩, fun h1 => ?_⟩
  · have hlt : i < xs.length := by omega
    have hin : (i : Int) < (xs.length : Int) := by omega
    obtain ⟨a, b, c, d, hrow, hcw⟩ := hact_row (hx _ (List.getElem_mem hlt))
    have hc6 : I64 c := by simp [Lit.wf, IntKind.min, IntKind.max, IntKind.bits, IntKind.signed] at hcw; unfold I64; omega
    have hg0 : xs[i]? = some [.int .i64 a, .int .i64 b, .int .i64 c, d] := by rw [List.getElem?_eq_getElem hlt, hrow]
    have e0 : rint xs i 0 = a := by simp [rint, List.getD_eq_getElem?_getD, hg0]
    have e1 : rint xs i 1 = b := by simp [rint, List.getD_eq_getElem?_getD, hg0]
    have e2 : rint xs i 2 = c := by simp [rint, List.getD_eq_getElem?_getD, hg0]
    have i0 : hasI .i64 xs i 0 := ⟨_, a, hg0, rfl⟩
    have i1 : hasI .i64 xs i 1 := ⟨_, b, hg0, rfl⟩
    have i2 : hasI .i64 xs i 2 := ⟨_, c, hg0, rfl⟩
    have inc := inc64 (show i < 1000000000000 by omega)
    by_cases hin6 : 0 ≤ b ∧ b < 64
    · obtain ⟨k, rfl⟩ : ∃ k : Nat, b = (k : Int) := ⟨b.toNat, by omega⟩
      have hk : k < 64 := by omega
      have hkl : k < H.length := by omega
      have g1 : (k : Int) ≥ 0 := by omega
      have g2 : (k : Int) < 64 := by omega
      by_cases k7 : a = 7
      · rw [k7] at e0
        have hp := hput_spec H hH k hk c
        have hS : (H.set k c).length = 64 := by rw [List.length_set]; exact hH
        have hS6 : ∀ n ∈ H.set k c, I64 n := fun n hn => by
          rcases List.mem_or_eq_of_mem_set hn with h | h
          · exact hH6 n h
          · rw [h]; exact hc6
        have hg := hget_spec (H.set k c) hS k hk
        have hrp := ivs_rput hkl c
        have hkS : k < (H.set k c).length := by omega
        generalize H.set k c = G at *
        have hne : (G[k] != G[k]) = false := by simp
        skip
        refine sem_drawG l10_0_ok (by kernel_rfl) ?_
        intro KK hKK
        simp (maxSteps := 10000000) only [go_sem, l10_0, hin, e0, e1, e2, i0, i1, i2, g1, g2, inc, ivs_inR hkl, hrp, iv_hasI hkS, iv_rint hkS, hne, Int.natCast_nonneg, Nat.zero_add]
        subst hKK
        simp (maxSteps := 10000000) only [go_sem, hin, e0, e1, e2, i0, i1, i2, g1, g2, inc, ivs_inR hkl, hrp, iv_hasI hkS, iv_rint hkS, hne, Int.natCast_nonneg, Nat.zero_add]
        refine sem_call rfl rfl (((hp).embed [0] rfl (by repeat' first | exact trivial | rfl | (simp only [go_sem]; done) | constructor) rfl (by first | rfl | simp only [go_sem]) rfl (by simp)).mono ?_)
        rintro _ _ ⟨_, _, ⟨rfl, rfl⟩, rfl, rfl⟩
        refine run_ok 4000 _ _ _ _ ?_
        simp (maxSteps := 10000000) only [go_sem, hin, e0, e1, e2, i0, i1, i2, g1, g2, inc, ivs_inR hkl, hrp, iv_hasI hkS, iv_rint hkS, hne, Int.natCast_nonneg, Nat.zero_add]
        refine sem_call rfl rfl (((hg).embed [0] rfl (by repeat' first | exact trivial | rfl | (simp only [go_sem]; done) | constructor) rfl (by first | rfl | simp only [go_sem]) rfl (by simp)).mono ?_)
        rintro _ _ ⟨_, _, ⟨rfl, rfl⟩, rfl, rfl⟩
        refine run_ok 4000 _ _ _ _ ?_
        simp (maxSteps := 10000000) only [go_sem, hin, e0, e1, e2, i0, i1, i2, g1, g2, inc, ivs_inR hkl, hrp, iv_hasI hkS, iv_rint hkS, hne, Int.natCast_nonneg, Nat.zero_add]
        refine ⟨(i + 1, G), by simp only; omega, ⟨by simp only; omega, hS, hS6⟩, [0, 1], ?_⟩
        simp only [Emb, go_sem]
      · have n7 : (a == 7) = false := by rw [beq_eq_false_iff_ne]; exact k7
        have hg := hget_spec H hH k hk
        have hne : (H[k] != H[k]) = false := by simp
        skip
        refine sem_drawG l10_0_ok (by kernel_rfl) ?_
        intro KK hKK
        simp (maxSteps := 10000000) only [go_sem, l10_0, hin, e0, e1, e2, i0, i1, i2, g1, g2, n7, inc, iv_hasI hkl, iv_rint hkl, hne, Int.natCast_nonneg, Nat.zero_add]
        subst hKK
        simp (maxSteps := 10000000) only [go_sem, hin, e0, e1, e2, i0, i1, i2, g1, g2, n7, inc, iv_hasI hkl, iv_rint hkl, hne, Int.natCast_nonneg, Nat.zero_add]
        refine sem_call rfl rfl (((hg).embed [0] rfl (by repeat' first | exact trivial | rfl | (simp only [go_sem]; done) | constructor) rfl (by first | rfl | simp only [go_sem]) rfl (by simp)).mono ?_)
        rintro _ _ ⟨_, _, ⟨rfl, rfl⟩, rfl, rfl⟩
        refine run_ok 4000 _ _ _ _ ?_
        simp (maxSteps := 10000000) only [go_sem, hin, e0, e1, e2, i0, i1, i2, g1, g2, n7, inc, iv_hasI hkl, iv_rint hkl, hne, Int.natCast_nonneg, Nat.zero_add]
        refine ⟨(i + 1, H), by simp only; omega, ⟨by simp only; omega, hH, hH6⟩, [0, 1], ?_⟩
        simp only [Emb, go_sem]
    · have hb : b < 0 ∨ 64 ≤ b := by omega
      have hp := hput_no H b hb c
      have hg := hget_no H b hb
      by_cases k7 : a = 7
      · rw [k7] at e0
        by_cases g1 : b ≥ 0
        · have g2 : ¬ b < 64 := by omega
          skip
          refine sem_drawG l10_0_ok (by kernel_rfl) ?_
          intro KK hKK
          simp (maxSteps := 10000000) only [go_sem, l10_0, hin, e0, e1, e2, i0, i1, i2, g1, g2, inc, Int.natCast_nonneg, Nat.zero_add]
          subst hKK
          simp (maxSteps := 10000000) only [go_sem, hin, e0, e1, e2, i0, i1, i2, g1, g2, inc, Int.natCast_nonneg, Nat.zero_add]
          refine sem_call rfl rfl (((hp).embed [0] rfl (by repeat' first | exact trivial | rfl | (simp only [go_sem]; done) | constructor) rfl (by first | rfl | simp only [go_sem]) rfl (by simp)).mono ?_)
          rintro _ _ ⟨_, _, ⟨rfl, rfl⟩, rfl, rfl⟩
          refine run_ok 4000 _ _ _ _ ?_
          simp (maxSteps := 10000000) only [go_sem, hin, e0, e1, e2, i0, i1, i2, g1, g2, inc, Int.natCast_nonneg, Nat.zero_add]
          refine sem_call rfl rfl (((hg).embed [0] rfl (by repeat' first | exact trivial | rfl | (simp only [go_sem]; done) | constructor) rfl (by first | rfl | simp only [go_sem]) rfl (by simp)).mono ?_)
          rintro _ _ ⟨_, _, ⟨rfl, rfl⟩, rfl, rfl⟩
          refine run_ok 4000 _ _ _ _ ?_
          simp (maxSteps := 10000000) only [go_sem, hin, e0, e1, e2, i0, i1, i2, g1, g2, inc, Int.natCast_nonneg, Nat.zero_add]
          refine ⟨(i + 1, H), by simp only; omega, ⟨by simp only; omega, hH, hH6⟩, [0, 1], ?_⟩
          simp only [Emb, go_sem]
        · skip
          refine sem_drawG l10_0_ok (by kernel_rfl) ?_
          intro KK hKK
          simp (maxSteps := 10000000) only [go_sem, l10_0, hin, e0, e1, e2, i0, i1, i2, g1, inc, Int.natCast_nonneg, Nat.zero_add]
          subst hKK
          simp (maxSteps := 10000000) only [go_sem, hin, e0, e1, e2, i0, i1, i2, g1, inc, Int.natCast_nonneg, Nat.zero_add]
          refine sem_call rfl rfl (((hp).embed [0] rfl (by repeat' first | exact trivial | rfl | (simp only [go_sem]; done) | constructor) rfl (by first | rfl | simp only [go_sem]) rfl (by simp)).mono ?_)
          rintro _ _ ⟨_, _, ⟨rfl, rfl⟩, rfl, rfl⟩
          refine run_ok 4000 _ _ _ _ ?_
          simp (maxSteps := 10000000) only [go_sem, hin, e0, e1, e2, i0, i1, i2, g1, inc, Int.natCast_nonneg, Nat.zero_add]
          refine sem_call rfl rfl (((hg).embed [0] rfl (by repeat' first | exact trivial | rfl | (simp only [go_sem]; done) | constructor) rfl (by first | rfl | simp only [go_sem]) rfl (by simp)).mono ?_)
          rintro _ _ ⟨_, _, ⟨rfl, rfl⟩, rfl, rfl⟩
          refine run_ok 4000 _ _ _ _ ?_
          simp (maxSteps := 10000000) only [go_sem, hin, e0, e1, e2, i0, i1, i2, g1, inc, Int.natCast_nonneg, Nat.zero_add]
          refine ⟨(i + 1, H), by simp only; omega, ⟨by simp only; omega, hH, hH6⟩, [0, 1], ?_⟩
          simp only [Emb, go_sem]
      · have n7 : (a == 7) = false := by rw [beq_eq_false_iff_ne]; exact k7
        by_cases g1 : b ≥ 0
        · have g2 : ¬ b < 64 := by omega
          skip
          refine sem_drawG l10_0_ok (by kernel_rfl) ?_
          intro KK hKK
          simp (maxSteps := 10000000) only [go_sem, l10_0, hin, e0, e1, e2, i0, i1, i2, g1, g2, n7, inc, Int.natCast_nonneg, Nat.zero_add]
          subst hKK
          simp (maxSteps := 10000000) only [go_sem, hin, e0, e1, e2, i0, i1, i2, g1, g2, n7, inc, Int.natCast_nonneg, Nat.zero_add]
          refine sem_call rfl rfl (((hg).embed [0] rfl (by repeat' first | exact trivial | rfl | (simp only [go_sem]; done) | constructor) rfl (by first | rfl | simp only [go_sem]) rfl (by simp)).mono ?_)
          rintro _ _ ⟨_, _, ⟨rfl, rfl⟩, rfl, rfl⟩
          refine run_ok 4000 _ _ _ _ ?_
          simp (maxSteps := 10000000) only [go_sem, hin, e0, e1, e2, i0, i1, i2, g1, g2, n7, inc, Int.natCast_nonneg, Nat.zero_add]
          refine ⟨(i + 1, H), by simp only; omega, ⟨by simp only; omega, hH, hH6⟩, [0, 1], ?_⟩
          simp only [Emb, go_sem]
        · skip
          refine sem_drawG l10_0_ok (by kernel_rfl) ?_
          intro KK hKK
          simp (maxSteps := 10000000) only [go_sem, l10_0, hin, e0, e1, e2, i0, i1, i2, g1, n7, inc, Int.natCast_nonneg, Nat.zero_add]
          subst hKK
          simp (maxSteps := 10000000) only [go_sem, hin, e0, e1, e2, i0, i1, i2, g1, n7, inc, Int.natCast_nonneg, Nat.zero_add]
          refine sem_call rfl rfl (((hg).embed [0] rfl (by repeat' first | exact trivial | rfl | (simp only [go_sem]; done) | constructor) rfl (by first | rfl | simp only [go_sem]) rfl (by simp)).mono ?_)
          rintro _ _ ⟨_, _, ⟨rfl, rfl⟩, rfl, rfl⟩
          refine run_ok 4000 _ _ _ _ ?_
          simp (maxSteps := 10000000) only [go_sem, hin, e0, e1, e2, i0, i1, i2, g1, n7, inc, Int.natCast_nonneg, Nat.zero_add]
          refine ⟨(i + 1, H), by simp only; omega, ⟨by simp only; omega, hH, hH6⟩, [0, 1], ?_⟩
          simp only [Emb, go_sem]
  · have hs : sub (iv .i64 H) 0 64 = iv .i64 H := by rw [← hH]; exact ivs_all H
    refine sem_freeze 1 rfl (by simp only [go_sem, iv_len, hH, Nat.le_refl]) ?_
    obtain ⟨r1, r2⟩ := read_put H hH hH6
    have ht := htext_spec H hH hH6
    have hrt := rtext_spec H hH hH6
    have hop := open_spec (textH H)
    have hrd := hread_spec (textH H) 0
    have hend := iend_spec [] 0
    have hen : endF ([], 0) = ([], 0) := rfl
    rw [r1, r2] at hrd
    rw [hen] at hend
    unfold inM at *
    simp only [if_true] at hrd
    skip
    refine run_ok 4000 _ _ _ _ ?_
    simp (maxSteps := 10000000) only [go_sem, seqb_self, hs]
    refine sem_call rfl rfl (((ht).embed [0] rfl (by repeat' first | exact trivial | rfl | (simp only [go_sem]; done) | constructor) rfl (by first | rfl | simp only [go_sem]) rfl (by simp)).mono ?_)
    rintro _ _ ⟨_, _, ⟨rfl, rfl⟩, rfl, rfl⟩
    refine run_ok 4000 _ _ _ _ ?_
    simp (maxSteps := 10000000) only [go_sem, seqb_self, hs]
    refine sem_call rfl rfl (((hop).embed [] rfl (by repeat' first | exact trivial | rfl | (simp only [go_sem]; done) | constructor) rfl (by first | rfl | simp only [go_sem]) rfl (by simp)).mono ?_)
    rintro _ _ ⟨_, _, ⟨rfl, rfl⟩, rfl, rfl⟩
    refine run_ok 4000 _ _ _ _ ?_
    simp (maxSteps := 10000000) only [go_sem, seqb_self, hs]
    refine sem_call rfl rfl (((hrd).embed [2] rfl (by repeat' first | exact trivial | rfl | (simp only [go_sem]; done) | constructor) rfl (by first | rfl | simp only [go_sem]) rfl (by simp)).mono ?_)
    rintro _ _ ⟨_, _, ⟨rfl, rfl⟩, rfl, rfl⟩
    refine run_ok 4000 _ _ _ _ ?_
    simp (maxSteps := 10000000) only [go_sem, seqb_self, hs]
    refine sem_call rfl rfl (((ht).embed [0] rfl (by repeat' first | exact trivial | rfl | (simp only [go_sem]; done) | constructor) rfl (by first | rfl | simp only [go_sem]) rfl (by simp)).mono ?_)
    rintro _ _ ⟨_, _, ⟨rfl, rfl⟩, rfl, rfl⟩
    refine run_ok 4000 _ _ _ _ ?_
    simp (maxSteps := 10000000) only [go_sem, seqb_self, hs]
    refine sem_call rfl rfl (((hrt).embed [] rfl (by repeat' first | exact trivial | rfl | (simp only [go_sem]; done) | constructor) rfl (by first | rfl | simp only [go_sem]) rfl (by simp)).mono ?_)
    rintro _ _ ⟨_, _, ⟨rfl, rfl⟩, rfl, rfl⟩
    refine run_ok 4000 _ _ _ _ ?_
    simp (maxSteps := 10000000) only [go_sem, seqb_self, hs]
    refine sem_call rfl rfl (((hend).embed [2] rfl (by repeat' first | exact trivial | rfl | (simp only [go_sem]; done) | constructor) rfl (by first | rfl | simp only [go_sem]) rfl (by simp)).mono ?_)
    rintro _ _ ⟨_, _, ⟨rfl, rfl⟩, rfl, rfl⟩
    refine run_ok 4000 _ _ _ _ ?_
    simp (maxSteps := 10000000) only [go_sem, seqb_self, hs]
    refine sem_call rfl rfl (((ht).embed [3] rfl (by repeat' first | exact trivial | rfl | (simp only [go_sem]; done) | constructor) rfl (by first | rfl | simp only [go_sem]) rfl (by simp)).mono ?_)
    rintro _ _ ⟨_, _, ⟨rfl, rfl⟩, rfl, rfl⟩
    refine run_ok 4000 _ _ _ _ ?_
    simp (maxSteps := 10000000) only [go_sem, seqb_self, hs]
    refine sem_call rfl rfl (((ht).embed [0] rfl (by repeat' first | exact trivial | rfl | (simp only [go_sem]; done) | constructor) rfl (by first | rfl | simp only [go_sem]) rfl (by simp)).mono ?_)
    rintro _ _ ⟨_, _, ⟨rfl, rfl⟩, rfl, rfl⟩
    refine run_ok 4000 _ _ _ _ ?_
    simp (maxSteps := 10000000) only [go_sem, seqb_self, hs]
  · have hs : sub (iv .i64 H) 0 64 = iv .i64 H := by rw [← hH]; exact ivs_all H
    refine sem_freeze 1 rfl (by simp only [go_sem, iv_len, hH, Nat.le_refl]) ?_
    obtain ⟨r1, r2⟩ := read_put H hH hH6
    have ht := htext_spec H hH hH6
    have hrt := rtext_spec H hH hH6
    have hop := open_spec (textH H)
    have hrd := hread_spec (textH H) 0
    have hend := iend_spec [] 0
    have hen : endF ([], 0) = ([], 0) := rfl
    rw [r1, r2] at hrd
    rw [hen] at hend
    unfold inM at *
    simp only [if_true] at hrd
    skip
    refine run_ok 4000 _ _ _ _ ?_
    simp (maxSteps := 10000000) only [go_sem, seqb_self, hs]
    refine sem_call rfl rfl (((ht).embed [0] rfl (by repeat' first | exact trivial | rfl | (simp only [go_sem]; done) | constructor) rfl (by first | rfl | simp only [go_sem]) rfl (by simp)).mono ?_)
    rintro _ _ ⟨_, _, ⟨rfl, rfl⟩, rfl, rfl⟩
    refine run_ok 4000 _ _ _ _ ?_
    simp (maxSteps := 10000000) only [go_sem, seqb_self, hs]
    refine sem_call rfl rfl (((hop).embed [] rfl (by repeat' first | exact trivial | rfl | (simp only [go_sem]; done) | constructor) rfl (by first | rfl | simp only [go_sem]) rfl (by simp)).mono ?_)
    rintro _ _ ⟨_, _, ⟨rfl, rfl⟩, rfl, rfl⟩
    refine run_ok 4000 _ _ _ _ ?_
    simp (maxSteps := 10000000) only [go_sem, seqb_self, hs]
    refine sem_call rfl rfl (((hrd).embed [2] rfl (by repeat' first | exact trivial | rfl | (simp only [go_sem]; done) | constructor) rfl (by first | rfl | simp only [go_sem]) rfl (by simp)).mono ?_)
    rintro _ _ ⟨_, _, ⟨rfl, rfl⟩, rfl, rfl⟩
    refine run_ok 4000 _ _ _ _ ?_
    simp (maxSteps := 10000000) only [go_sem, seqb_self, hs]
    refine sem_call rfl rfl (((ht).embed [0] rfl (by repeat' first | exact trivial | rfl | (simp only [go_sem]; done) | constructor) rfl (by first | rfl | simp only [go_sem]) rfl (by simp)).mono ?_)
    rintro _ _ ⟨_, _, ⟨rfl, rfl⟩, rfl, rfl⟩
    refine run_ok 4000 _ _ _ _ ?_
    simp (maxSteps := 10000000) only [go_sem, seqb_self, hs]
    refine sem_call rfl rfl (((hrt).embed [] rfl (by repeat' first | exact trivial | rfl | (simp only [go_sem]; done) | constructor) rfl (by first | rfl | simp only [go_sem]) rfl (by simp)).mono ?_)
    rintro _ _ ⟨_, _, ⟨rfl, rfl⟩, rfl, rfl⟩
    refine run_ok 4000 _ _ _ _ ?_
    simp (maxSteps := 10000000) only [go_sem, seqb_self, hs]
    refine sem_call rfl rfl (((hend).embed [2] rfl (by repeat' first | exact trivial | rfl | (simp only [go_sem]; done) | constructor) rfl (by first | rfl | simp only [go_sem]) rfl (by simp)).mono ?_)
    rintro _ _ ⟨_, _, ⟨rfl, rfl⟩, rfl, rfl⟩
    refine run_ok 4000 _ _ _ _ ?_
    simp (maxSteps := 10000000) only [go_sem, seqb_self, hs]
    refine sem_call rfl rfl (((ht).embed [3] rfl (by repeat' first | exact trivial | rfl | (simp only [go_sem]; done) | constructor) rfl (by first | rfl | simp only [go_sem]) rfl (by simp)).mono ?_)
    rintro _ _ ⟨_, _, ⟨rfl, rfl⟩, rfl, rfl⟩
    refine run_ok 4000 _ _ _ _ ?_
    simp (maxSteps := 10000000) only [go_sem, seqb_self, hs]
    refine sem_call rfl rfl (((ht).embed [0] rfl (by repeat' first | exact trivial | rfl | (simp only [go_sem]; done) | constructor) rfl (by first | rfl | simp only [go_sem]) rfl (by simp)).mono ?_)
    rintro _ _ ⟨_, _, ⟨rfl, rfl⟩, rfl, rfl⟩
    refine run_ok 4000 _ _ _ _ ?_
    simp (maxSteps := 10000000) only [go_sem, seqb_self, hs]
end Go.AEX
