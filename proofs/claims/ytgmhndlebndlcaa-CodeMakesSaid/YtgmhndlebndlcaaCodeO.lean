/- CodeOps, CodeMakes: the laws' evaluations. -/
import Derived.Test.YtgmhndlebndlcaaCode
namespace Go.AEX
open Go Go.AE Go.Proofs
set_option maxRecDepth 100000
set_option linter.unusedVariables false
set_option linter.unusedSimpArgs false

theorem bb_ft : (false == true) = false := rfl
theorem bb_tf : (true == false) = false := rfl
theorem bb_tt : (true == true) = true := rfl
theorem bb_ff : (false == false) = true := rfl
theorem bn_ft : (false != true) = true := rfl
theorem bn_tf : (true != false) = true := rfl
attribute [go_sem] bb_ft bb_tf bb_tt bb_ff bn_ft bn_tf
theorem Like.agg1 {a a' : AV} (h : Like a a') : Like (.agg [a]) (.agg [a']) := fun φ σ x hx => by
  cases hx with | agg hx => cases hx with | cons g1 hx => cases hx; exact .agg (.cons (h _ _ _ g1) .nil)
def sizeF (l : List Fn) : Nat := (l.map fun f => f.code.length).sum
theorem size_spec (l : List Fn) (hl : l.length ≤ 10000) (hc : ∀ f ∈ l, f.code.length ≤ 10000) : Tri Try.prog 51 [.agg [.vsl 3 (frows l) false]] [] (fun v m => v = .int .i64 (sizeF l : Nat) ∧ m = []) := by
  refine Tri.post ?_
  skip
  refine (Tri.enter (rl := r51) (code := c51) (by kernel_rfl) Try.func51 rfl c51_ok (by kernel_rfl) (by kernel_rfl) ?_)
  refine run_ok 4000 _ _ _ _ ?_
  simp (maxSteps := 10000000) only [go_sem, c51, r51, frows_len]
  refine sem_rounds (fun i : Nat => i ≤ l.length ∧ sizeF (l.take i) ≤ 10000 * i) (fun i => [(3, .int .i64 (sizeF (l.take i) : Nat)), (7, .vsl 3 (frows l) false), (8, .int .i64 l.length), (9, .int .i64 (i : Nat))])
    (fun i => []) (fun i => l.length - i) 0 [] ⟨Nat.zero_le _, by simp [sizeF]⟩ ?_ ?_
  · simp only [Emb, go_sem]; simp [sizeF]
  rintro i ⟨hi, hi2⟩
  refine run_ok 4000 _ _ _ _ ?_
  simp (maxSteps := 10000000) only [go_sem, frows_len]
  refine ⟨fun hlt => ?_, fun hge => ?_⟩
  · have hlt : i < l.length := by omega
    have hin : (i : Int) < (l.length : Int) := by omega
    have e0 := frows_r0 hlt; have e1 := frows_r1 hlt; have e2 := frows_r2 hlt
    have hcl := hc _ (List.getElem_mem hlt)
    have hnx : sizeF (l.take (i + 1)) = sizeF (l.take i) + l[i].code.length := by
      unfold sizeF; rw [List.take_succ_eq_append_getElem hlt, List.map_append, List.sum_append]; simp
    have hw : iwrap .i64 ((sizeF (l.take i) : Nat) + (l[i].code.length : Nat) : Int) = ((sizeF (l.take (i + 1)) : Nat) : Int) := by rw [iwrap_i64_in (by omega), hnx]; omega
    skip
    simp (maxSteps := 10000000) only [go_sem, frows_len, irows_len, frows_h0 hlt, frows_h1 hlt, frows_h2 hlt, e0, e1, e2, hin, Int.natCast_nonneg, hw, inc64 (show i < 1000000000000 by omega)]
    refine ⟨i + 1, by omega, ⟨hlt, by omega⟩, [], ?_⟩
    simp only [Emb, go_sem]
  · have ht : l.take i = l := List.take_of_length_le (by omega)
    skip
    refine run_ok 4000 _ _ _ _ ?_
    simp (maxSteps := 10000000) only [go_sem]
    rw [ht]
    refine ⟨_, _, .sub [] ?_ .done, rfl, rfl⟩
    simp only [EmbV, go_sem]
theorem awake03_spec : Tri Try.prog 13 [] [] (fun v m => v = .bool true ∧ m = []) := by
  refine Tri.post ?_
  have o1 : ofF 1 [5] = 5 := by decide
  have o2 : ofF 16 [] = 0 := by decide
  have hA1 : hasArg 1 = true := by decide
  have hA16 : hasArg 16 = false := by decide
  have hi : imgB [⟨0, 0, [(1, 5), (16, 0)]⟩] = [1, 0, 0, 2, 1, 10, 16] := by
    simp [imgB, fnsB, fnB, codeB, insB, numB_last, posN, hA1, hA16, zg]
  have hz : sizeF [⟨0, 0, [(1, 5), (16, 0)]⟩] = 2 := by decide
  have hn : nameF 22 = [104, 111, 115, 116] := by decide
  skip
  refine (Tri.enter (rl := r13) (code := c13) (by kernel_rfl) Try.func13 rfl c13_ok (by kernel_rfl) (by kernel_rfl) ?_)
  refine run_ok 4000 _ _ _ _ ?_
  simp (maxSteps := 10000000) only [go_sem, c13, r13, o1, o2]
  refine sem_call rfl rfl (((of_spec 1 [5] true).embed [] rfl trivial rfl rfl rfl (by simp)).mono ?_)
  rintro _ _ ⟨_, _, ⟨rfl, rfl⟩, rfl, rfl⟩
  refine run_ok 4000 _ _ _ _ ?_
  simp (maxSteps := 10000000) only [go_sem, o1, o2]
  refine sem_call rfl rfl (((Tri.arg2 (Like.nilv 1 false) (of_spec 16 [] false)).embed [] rfl trivial rfl rfl rfl (by simp)).mono ?_)
  rintro _ _ ⟨_, _, ⟨rfl, rfl⟩, rfl, rfl⟩
  refine run_ok 4000 _ _ _ _ ?_
  simp (maxSteps := 10000000) only [go_sem, o1, o2]
  refine sem_call rfl rfl (((make_spec 0 0 [(1, 5), (16, 0)] true (by simp)).embed [] rfl trivial rfl rfl rfl (by simp)).mono ?_)
  rintro _ _ ⟨_, _, ⟨rfl, rfl⟩, rfl, rfl⟩
  refine run_ok 4000 _ _ _ _ ?_
  simp (maxSteps := 10000000) only [go_sem, o1, o2]
  have ht := text_spec [⟨0, 0, [(1, 5), (16, 0)]⟩] (by simp) (by
    intro f hf; simp at hf; subst hf
    refine ⟨by unfold I64; simp, by unfold I64; simp, ?_⟩
    intro x hx; simp at hx; rcases hx with rfl | rfl <;> (unfold InsOk I64; simp)) (by rw [hi]; simp) (by intro f hf; simp at hf; subst hf; simp)
  have hs := size_spec [⟨0, 0, [(1, 5), (16, 0)]⟩] (by simp) (by intro f hf; simp at hf; subst hf; simp)
  rw [hi] at ht
  rw [hz] at hs
  have hl : Like (.agg [.vsl 3 [[.int .i64 0, .int .i64 0, .vsl 2 (irows [(1, 5), (16, 0)]) false]] true]) (.agg [.vsl 3 (frows [⟨0, 0, [(1, 5), (16, 0)]⟩]) false]) := Like.agg1 (Like.vslf _ _)
  skip
  refine sem_call rfl rfl (((Tri.arg1 hl ht).embed [] rfl trivial rfl rfl rfl (by simp)).mono ?_)
  rintro _ _ ⟨_, _, ⟨rfl, rfl⟩, rfl, rfl⟩
  refine run_ok 4000 _ _ _ _ ?_
  simp (maxSteps := 10000000) only [go_sem, hn, hA1]
  refine sem_call rfl rfl (((Tri.arg1 hl hs).embed [] rfl trivial rfl rfl rfl (by simp)).mono ?_)
  rintro _ _ ⟨_, _, ⟨rfl, rfl⟩, rfl, rfl⟩
  refine run_ok 4000 _ _ _ _ ?_
  simp (maxSteps := 10000000) only [go_sem, hn, hA1]
  refine sem_call rfl rfl (((name_spec 22 (by decide)).embed [] rfl trivial rfl rfl rfl (by simp)).mono ?_)
  rintro _ _ ⟨_, _, ⟨rfl, rfl⟩, rfl, rfl⟩
  refine run_ok 4000 _ _ _ _ ?_
  simp (maxSteps := 10000000) only [go_sem, hn, hA1]
  refine sem_call rfl rfl (((hasArg_spec 1).embed [] rfl trivial rfl rfl rfl (by simp)).mono ?_)
  rintro _ _ ⟨_, _, ⟨rfl, rfl⟩, rfl, rfl⟩
  refine run_ok 4000 _ _ _ _ ?_
  simp (maxSteps := 10000000) only [go_sem, hn, hA1]
  refine ⟨_, _, .like (Like.bool true) (.sub [] ?_ .done), rfl, rfl⟩
  simp only [EmbV, go_sem]
theorem names_none : ∀ o : Nat, o < 256 → (seqb (nameF o) [63] = true ↔ ¬ (1 ≤ o ∧ o ≤ 22)) := by decide +kernel
theorem names_two : ∀ o : Nat, o < 23 → ∀ p : Nat, p < 23 → (seqb (nameF o) (nameF p) = true ↔ o = p) := by decide +kernel
theorem u8_nat {n : Int} (h : (Lit.int .u8 n).wf = true) : ∃ k : Nat, n = (k : Int) ∧ k < 256 := by
  simp [Lit.wf, IntKind.min, IntKind.max, IntKind.bits, IntKind.signed] at h
  exact ⟨n.toNat, by omega, by omega⟩
theorem codeOps_spec (o : Int) (ho : (Lit.int .u8 o).wf = true) (p : Int) (hp : (Lit.int .u8 p).wf = true) (arg : Int) (ha : (Lit.int .i64 arg).wf = true) :
    Tri Try.prog 3 [.int .u8 o, .int .u8 p, .int .i64 arg] [] (fun v m => v = .bool true) := by
  obtain ⟨o, rfl, ho'⟩ := u8_nat ho
  obtain ⟨p, rfl, hp'⟩ := u8_nat hp
  have hcv : iwrap .i64 (o : Int) = (o : Int) := iwrap_i64_in (by omega)
  have hno := names_none o ho'
  have hof0 : ofF (o : Int) [] = 0 := by simp [ofF]
  by_cases hi : 1 ≤ o ∧ o ≤ 22
  · have g1 : (o : Int) ≥ 1 := by omega
    have g2 : (o : Int) ≤ 22 := by omega
    have g3 : seqb (nameF o) [63] = false := by
      cases h : seqb (nameF o) [63]
      · rfl
      · exact absurd hi (hno.1 h)
    cases hh : hasArg (o : Int)
    · have hof : ofF (o : Int) [arg] = 0 := by simp [ofF, hh]
      by_cases hi2 : 1 ≤ p ∧ p ≤ 22
      · have g4 : (p : Int) ≥ 1 := by omega
        have g5 : (p : Int) ≤ 22 := by omega
        have g6 : seqb (nameF o) (nameF p) = ((o : Int) == (p : Int)) := by rw [Bool.eq_iff_iff, names_two o (by omega) p (by omega)]; simp; omega
        skip
        refine (Tri.asB (Tri.enter (rl := r3) (code := c3) (by kernel_rfl) Try.func3 rfl c3_ok (by kernel_rfl) (by kernel_rfl) ?_))
        refine run_ok 4000 _ _ _ _ ?_
        simp (maxSteps := 10000000) only [go_sem, c3, r3, g1, g2, g3, g4, g5, g6, hcv, hof0, hof, hh]
        refine sem_call rfl rfl (((awake03_spec).embed [] rfl trivial rfl rfl rfl (by simp)).mono ?_)
        rintro _ _ ⟨_, _, ⟨rfl, rfl⟩, rfl, rfl⟩
        refine run_ok 4000 _ _ _ _ ?_
        simp (maxSteps := 10000000) only [go_sem, g1, g2, g3, g4, g5, g6, hcv, hof0, hof, hh]
        refine sem_call rfl rfl (((name_spec o ho').embed [] rfl trivial rfl rfl rfl (by simp)).mono ?_)
        rintro _ _ ⟨_, _, ⟨rfl, rfl⟩, rfl, rfl⟩
        refine run_ok 4000 _ _ _ _ ?_
        simp (maxSteps := 10000000) only [go_sem, g1, g2, g3, g4, g5, g6, hcv, hof0, hof, hh]
        refine sem_call rfl rfl (((hasArg_spec o).embed [] rfl trivial rfl rfl rfl (by simp)).mono ?_)
        rintro _ _ ⟨_, _, ⟨rfl, rfl⟩, rfl, rfl⟩
        refine run_ok 4000 _ _ _ _ ?_
        simp (maxSteps := 10000000) only [go_sem, g1, g2, g3, g4, g5, g6, hcv, hof0, hof, hh]
        refine sem_call rfl rfl (((rhasArg_spec o).embed [] rfl trivial rfl rfl rfl (by simp)).mono ?_)
        rintro _ _ ⟨_, _, ⟨rfl, rfl⟩, rfl, rfl⟩
        refine run_ok 4000 _ _ _ _ ?_
        simp (maxSteps := 10000000) only [go_sem, g1, g2, g3, g4, g5, g6, hcv, hof0, hof, hh]
        refine sem_call rfl rfl (((name_spec o ho').embed [] rfl trivial rfl rfl rfl (by simp)).mono ?_)
        rintro _ _ ⟨_, _, ⟨rfl, rfl⟩, rfl, rfl⟩
        refine run_ok 4000 _ _ _ _ ?_
        simp (maxSteps := 10000000) only [go_sem, g1, g2, g3, g4, g5, g6, hcv, hof0, hof, hh]
        refine sem_call rfl rfl (((name_spec p hp').embed [] rfl trivial rfl rfl rfl (by simp)).mono ?_)
        rintro _ _ ⟨_, _, ⟨rfl, rfl⟩, rfl, rfl⟩
        refine run_ok 4000 _ _ _ _ ?_
        simp (maxSteps := 10000000) only [go_sem, g1, g2, g3, g4, g5, g6, hcv, hof0, hof, hh]
        refine sem_call rfl rfl (((of_spec o [arg] true).embed [] rfl trivial rfl rfl rfl (by simp)).mono ?_)
        rintro _ _ ⟨_, _, ⟨rfl, rfl⟩, rfl, rfl⟩
        refine run_ok 4000 _ _ _ _ ?_
        simp (maxSteps := 10000000) only [go_sem, g1, g2, g3, g4, g5, g6, hcv, hof0, hof, hh]
        refine sem_call rfl rfl (((Tri.arg2 (Like.nilv 1 false) (of_spec o [] false)).embed [] rfl trivial rfl rfl rfl (by simp)).mono ?_)
        rintro _ _ ⟨_, _, ⟨rfl, rfl⟩, rfl, rfl⟩
        refine run_ok 4000 _ _ _ _ ?_
        simp (maxSteps := 10000000) only [go_sem, g1, g2, g3, g4, g5, g6, hcv, hof0, hof, hh]
        all_goals
          intro hq
          refine sem_call rfl rfl (((hasArg_spec o).embed [] rfl trivial rfl rfl rfl (by simp)).mono ?_)
          rintro _ _ ⟨_, _, ⟨rfl, rfl⟩, rfl, rfl⟩
          refine run_ok 4000 _ _ _ _ ?_
          simp (maxSteps := 10000000) only [go_sem, g1, g2, g3, g4, g5, g6, hcv, hof0, hof, hh]
      · by_cases g4 : (p : Int) ≥ 1
        · have g5 : ¬ (p : Int) ≤ 22 := by omega
          skip
          refine (Tri.asB (Tri.enter (rl := r3) (code := c3) (by kernel_rfl) Try.func3 rfl c3_ok (by kernel_rfl) (by kernel_rfl) ?_))
          refine run_ok 4000 _ _ _ _ ?_
          simp (maxSteps := 10000000) only [go_sem, c3, r3, g1, g2, g3, g4, g5, hcv, hof0, hof, hh]
          refine sem_call rfl rfl (((awake03_spec).embed [] rfl trivial rfl rfl rfl (by simp)).mono ?_)
          rintro _ _ ⟨_, _, ⟨rfl, rfl⟩, rfl, rfl⟩
          refine run_ok 4000 _ _ _ _ ?_
          simp (maxSteps := 10000000) only [go_sem, g1, g2, g3, g4, g5, hcv, hof0, hof, hh]
          refine sem_call rfl rfl (((name_spec o ho').embed [] rfl trivial rfl rfl rfl (by simp)).mono ?_)
          rintro _ _ ⟨_, _, ⟨rfl, rfl⟩, rfl, rfl⟩
          refine run_ok 4000 _ _ _ _ ?_
          simp (maxSteps := 10000000) only [go_sem, g1, g2, g3, g4, g5, hcv, hof0, hof, hh]
          refine sem_call rfl rfl (((hasArg_spec o).embed [] rfl trivial rfl rfl rfl (by simp)).mono ?_)
          rintro _ _ ⟨_, _, ⟨rfl, rfl⟩, rfl, rfl⟩
          refine run_ok 4000 _ _ _ _ ?_
          simp (maxSteps := 10000000) only [go_sem, g1, g2, g3, g4, g5, hcv, hof0, hof, hh]
          refine sem_call rfl rfl (((rhasArg_spec o).embed [] rfl trivial rfl rfl rfl (by simp)).mono ?_)
          rintro _ _ ⟨_, _, ⟨rfl, rfl⟩, rfl, rfl⟩
          refine run_ok 4000 _ _ _ _ ?_
          simp (maxSteps := 10000000) only [go_sem, g1, g2, g3, g4, g5, hcv, hof0, hof, hh]
          refine sem_call rfl rfl (((of_spec o [arg] true).embed [] rfl trivial rfl rfl rfl (by simp)).mono ?_)
          rintro _ _ ⟨_, _, ⟨rfl, rfl⟩, rfl, rfl⟩
          refine run_ok 4000 _ _ _ _ ?_
          simp (maxSteps := 10000000) only [go_sem, g1, g2, g3, g4, g5, hcv, hof0, hof, hh]
          refine sem_call rfl rfl (((Tri.arg2 (Like.nilv 1 false) (of_spec o [] false)).embed [] rfl trivial rfl rfl rfl (by simp)).mono ?_)
          rintro _ _ ⟨_, _, ⟨rfl, rfl⟩, rfl, rfl⟩
          refine run_ok 4000 _ _ _ _ ?_
          simp (maxSteps := 10000000) only [go_sem, g1, g2, g3, g4, g5, hcv, hof0, hof, hh]
          all_goals
            intro hq
            refine sem_call rfl rfl (((hasArg_spec o).embed [] rfl trivial rfl rfl rfl (by simp)).mono ?_)
            rintro _ _ ⟨_, _, ⟨rfl, rfl⟩, rfl, rfl⟩
            refine run_ok 4000 _ _ _ _ ?_
            simp (maxSteps := 10000000) only [go_sem, g1, g2, g3, g4, g5, hcv, hof0, hof, hh]
        · skip
          refine (Tri.asB (Tri.enter (rl := r3) (code := c3) (by kernel_rfl) Try.func3 rfl c3_ok (by kernel_rfl) (by kernel_rfl) ?_))
          refine run_ok 4000 _ _ _ _ ?_
          simp (maxSteps := 10000000) only [go_sem, c3, r3, g1, g2, g3, g4, hcv, hof0, hof, hh]
          refine sem_call rfl rfl (((awake03_spec).embed [] rfl trivial rfl rfl rfl (by simp)).mono ?_)
          rintro _ _ ⟨_, _, ⟨rfl, rfl⟩, rfl, rfl⟩
          refine run_ok 4000 _ _ _ _ ?_
          simp (maxSteps := 10000000) only [go_sem, g1, g2, g3, g4, hcv, hof0, hof, hh]
          refine sem_call rfl rfl (((name_spec o ho').embed [] rfl trivial rfl rfl rfl (by simp)).mono ?_)
          rintro _ _ ⟨_, _, ⟨rfl, rfl⟩, rfl, rfl⟩
          refine run_ok 4000 _ _ _ _ ?_
          simp (maxSteps := 10000000) only [go_sem, g1, g2, g3, g4, hcv, hof0, hof, hh]
          refine sem_call rfl rfl (((hasArg_spec o).embed [] rfl trivial rfl rfl rfl (by simp)).mono ?_)
          rintro _ _ ⟨_, _, ⟨rfl, rfl⟩, rfl, rfl⟩
          refine run_ok 4000 _ _ _ _ ?_
          simp (maxSteps := 10000000) only [go_sem, g1, g2, g3, g4, hcv, hof0, hof, hh]
          refine sem_call rfl rfl (((rhasArg_spec o).embed [] rfl trivial rfl rfl rfl (by simp)).mono ?_)
          rintro _ _ ⟨_, _, ⟨rfl, rfl⟩, rfl, rfl⟩
          refine run_ok 4000 _ _ _ _ ?_
          simp (maxSteps := 10000000) only [go_sem, g1, g2, g3, g4, hcv, hof0, hof, hh]
          refine sem_call rfl rfl (((of_spec o [arg] true).embed [] rfl trivial rfl rfl rfl (by simp)).mono ?_)
          rintro _ _ ⟨_, _, ⟨rfl, rfl⟩, rfl, rfl⟩
          refine run_ok 4000 _ _ _ _ ?_
          simp (maxSteps := 10000000) only [go_sem, g1, g2, g3, g4, hcv, hof0, hof, hh]
          refine sem_call rfl rfl (((Tri.arg2 (Like.nilv 1 false) (of_spec o [] false)).embed [] rfl trivial rfl rfl rfl (by simp)).mono ?_)
          rintro _ _ ⟨_, _, ⟨rfl, rfl⟩, rfl, rfl⟩
          refine run_ok 4000 _ _ _ _ ?_
          simp (maxSteps := 10000000) only [go_sem, g1, g2, g3, g4, hcv, hof0, hof, hh]
          all_goals
            intro hq
            refine sem_call rfl rfl (((hasArg_spec o).embed [] rfl trivial rfl rfl rfl (by simp)).mono ?_)
            rintro _ _ ⟨_, _, ⟨rfl, rfl⟩, rfl, rfl⟩
            refine run_ok 4000 _ _ _ _ ?_
            simp (maxSteps := 10000000) only [go_sem, g1, g2, g3, g4, hcv, hof0, hof, hh]
    · have hof : ofF (o : Int) [arg] = arg := by simp [ofF, hh]
      by_cases hi2 : 1 ≤ p ∧ p ≤ 22
      · have g4 : (p : Int) ≥ 1 := by omega
        have g5 : (p : Int) ≤ 22 := by omega
        have g6 : seqb (nameF o) (nameF p) = ((o : Int) == (p : Int)) := by rw [Bool.eq_iff_iff, names_two o (by omega) p (by omega)]; simp; omega
        skip
        refine (Tri.asB (Tri.enter (rl := r3) (code := c3) (by kernel_rfl) Try.func3 rfl c3_ok (by kernel_rfl) (by kernel_rfl) ?_))
        refine run_ok 4000 _ _ _ _ ?_
        simp (maxSteps := 10000000) only [go_sem, c3, r3, g1, g2, g3, g4, g5, g6, hcv, hof0, hof, hh]
        refine sem_call rfl rfl (((awake03_spec).embed [] rfl trivial rfl rfl rfl (by simp)).mono ?_)
        rintro _ _ ⟨_, _, ⟨rfl, rfl⟩, rfl, rfl⟩
        refine run_ok 4000 _ _ _ _ ?_
        simp (maxSteps := 10000000) only [go_sem, g1, g2, g3, g4, g5, g6, hcv, hof0, hof, hh]
        refine sem_call rfl rfl (((name_spec o ho').embed [] rfl trivial rfl rfl rfl (by simp)).mono ?_)
        rintro _ _ ⟨_, _, ⟨rfl, rfl⟩, rfl, rfl⟩
        refine run_ok 4000 _ _ _ _ ?_
        simp (maxSteps := 10000000) only [go_sem, g1, g2, g3, g4, g5, g6, hcv, hof0, hof, hh]
        refine sem_call rfl rfl (((hasArg_spec o).embed [] rfl trivial rfl rfl rfl (by simp)).mono ?_)
        rintro _ _ ⟨_, _, ⟨rfl, rfl⟩, rfl, rfl⟩
        refine run_ok 4000 _ _ _ _ ?_
        simp (maxSteps := 10000000) only [go_sem, g1, g2, g3, g4, g5, g6, hcv, hof0, hof, hh]
        refine sem_call rfl rfl (((rhasArg_spec o).embed [] rfl trivial rfl rfl rfl (by simp)).mono ?_)
        rintro _ _ ⟨_, _, ⟨rfl, rfl⟩, rfl, rfl⟩
        refine run_ok 4000 _ _ _ _ ?_
        simp (maxSteps := 10000000) only [go_sem, g1, g2, g3, g4, g5, g6, hcv, hof0, hof, hh]
        refine sem_call rfl rfl (((name_spec o ho').embed [] rfl trivial rfl rfl rfl (by simp)).mono ?_)
        rintro _ _ ⟨_, _, ⟨rfl, rfl⟩, rfl, rfl⟩
        refine run_ok 4000 _ _ _ _ ?_
        simp (maxSteps := 10000000) only [go_sem, g1, g2, g3, g4, g5, g6, hcv, hof0, hof, hh]
        refine sem_call rfl rfl (((name_spec p hp').embed [] rfl trivial rfl rfl rfl (by simp)).mono ?_)
        rintro _ _ ⟨_, _, ⟨rfl, rfl⟩, rfl, rfl⟩
        refine run_ok 4000 _ _ _ _ ?_
        simp (maxSteps := 10000000) only [go_sem, g1, g2, g3, g4, g5, g6, hcv, hof0, hof, hh]
        refine sem_call rfl rfl (((of_spec o [arg] true).embed [] rfl trivial rfl rfl rfl (by simp)).mono ?_)
        rintro _ _ ⟨_, _, ⟨rfl, rfl⟩, rfl, rfl⟩
        refine run_ok 4000 _ _ _ _ ?_
        simp (maxSteps := 10000000) only [go_sem, g1, g2, g3, g4, g5, g6, hcv, hof0, hof, hh]
        refine sem_call rfl rfl (((Tri.arg2 (Like.nilv 1 false) (of_spec o [] false)).embed [] rfl trivial rfl rfl rfl (by simp)).mono ?_)
        rintro _ _ ⟨_, _, ⟨rfl, rfl⟩, rfl, rfl⟩
        refine run_ok 4000 _ _ _ _ ?_
        simp (maxSteps := 10000000) only [go_sem, g1, g2, g3, g4, g5, g6, hcv, hof0, hof, hh]
        all_goals
          intro hq
          refine sem_call rfl rfl (((hasArg_spec o).embed [] rfl trivial rfl rfl rfl (by simp)).mono ?_)
          rintro _ _ ⟨_, _, ⟨rfl, rfl⟩, rfl, rfl⟩
          refine run_ok 4000 _ _ _ _ ?_
          simp (maxSteps := 10000000) only [go_sem, g1, g2, g3, g4, g5, g6, hcv, hof0, hof, hh]
      · by_cases g4 : (p : Int) ≥ 1
        · have g5 : ¬ (p : Int) ≤ 22 := by omega
          skip
          refine (Tri.asB (Tri.enter (rl := r3) (code := c3) (by kernel_rfl) Try.func3 rfl c3_ok (by kernel_rfl) (by kernel_rfl) ?_))
          refine run_ok 4000 _ _ _ _ ?_
          simp (maxSteps := 10000000) only [go_sem, c3, r3, g1, g2, g3, g4, g5, hcv, hof0, hof, hh]
          refine sem_call rfl rfl (((awake03_spec).embed [] rfl trivial rfl rfl rfl (by simp)).mono ?_)
          rintro _ _ ⟨_, _, ⟨rfl, rfl⟩, rfl, rfl⟩
          refine run_ok 4000 _ _ _ _ ?_
          simp (maxSteps := 10000000) only [go_sem, g1, g2, g3, g4, g5, hcv, hof0, hof, hh]
          refine sem_call rfl rfl (((name_spec o ho').embed [] rfl trivial rfl rfl rfl (by simp)).mono ?_)
          rintro _ _ ⟨_, _, ⟨rfl, rfl⟩, rfl, rfl⟩
          refine run_ok 4000 _ _ _ _ ?_
          simp (maxSteps := 10000000) only [go_sem, g1, g2, g3, g4, g5, hcv, hof0, hof, hh]
          refine sem_call rfl rfl (((hasArg_spec o).embed [] rfl trivial rfl rfl rfl (by simp)).mono ?_)
          rintro _ _ ⟨_, _, ⟨rfl, rfl⟩, rfl, rfl⟩
          refine run_ok 4000 _ _ _ _ ?_
          simp (maxSteps := 10000000) only [go_sem, g1, g2, g3, g4, g5, hcv, hof0, hof, hh]
          refine sem_call rfl rfl (((rhasArg_spec o).embed [] rfl trivial rfl rfl rfl (by simp)).mono ?_)
          rintro _ _ ⟨_, _, ⟨rfl, rfl⟩, rfl, rfl⟩
          refine run_ok 4000 _ _ _ _ ?_
          simp (maxSteps := 10000000) only [go_sem, g1, g2, g3, g4, g5, hcv, hof0, hof, hh]
          refine sem_call rfl rfl (((of_spec o [arg] true).embed [] rfl trivial rfl rfl rfl (by simp)).mono ?_)
          rintro _ _ ⟨_, _, ⟨rfl, rfl⟩, rfl, rfl⟩
          refine run_ok 4000 _ _ _ _ ?_
          simp (maxSteps := 10000000) only [go_sem, g1, g2, g3, g4, g5, hcv, hof0, hof, hh]
          refine sem_call rfl rfl (((Tri.arg2 (Like.nilv 1 false) (of_spec o [] false)).embed [] rfl trivial rfl rfl rfl (by simp)).mono ?_)
          rintro _ _ ⟨_, _, ⟨rfl, rfl⟩, rfl, rfl⟩
          refine run_ok 4000 _ _ _ _ ?_
          simp (maxSteps := 10000000) only [go_sem, g1, g2, g3, g4, g5, hcv, hof0, hof, hh]
          all_goals
            intro hq
            refine sem_call rfl rfl (((hasArg_spec o).embed [] rfl trivial rfl rfl rfl (by simp)).mono ?_)
            rintro _ _ ⟨_, _, ⟨rfl, rfl⟩, rfl, rfl⟩
            refine run_ok 4000 _ _ _ _ ?_
            simp (maxSteps := 10000000) only [go_sem, g1, g2, g3, g4, g5, hcv, hof0, hof, hh]
        · skip
          refine (Tri.asB (Tri.enter (rl := r3) (code := c3) (by kernel_rfl) Try.func3 rfl c3_ok (by kernel_rfl) (by kernel_rfl) ?_))
          refine run_ok 4000 _ _ _ _ ?_
          simp (maxSteps := 10000000) only [go_sem, c3, r3, g1, g2, g3, g4, hcv, hof0, hof, hh]
          refine sem_call rfl rfl (((awake03_spec).embed [] rfl trivial rfl rfl rfl (by simp)).mono ?_)
          rintro _ _ ⟨_, _, ⟨rfl, rfl⟩, rfl, rfl⟩
          refine run_ok 4000 _ _ _ _ ?_
          simp (maxSteps := 10000000) only [go_sem, g1, g2, g3, g4, hcv, hof0, hof, hh]
          refine sem_call rfl rfl (((name_spec o ho').embed [] rfl trivial rfl rfl rfl (by simp)).mono ?_)
          rintro _ _ ⟨_, _, ⟨rfl, rfl⟩, rfl, rfl⟩
          refine run_ok 4000 _ _ _ _ ?_
          simp (maxSteps := 10000000) only [go_sem, g1, g2, g3, g4, hcv, hof0, hof, hh]
          refine sem_call rfl rfl (((hasArg_spec o).embed [] rfl trivial rfl rfl rfl (by simp)).mono ?_)
          rintro _ _ ⟨_, _, ⟨rfl, rfl⟩, rfl, rfl⟩
          refine run_ok 4000 _ _ _ _ ?_
          simp (maxSteps := 10000000) only [go_sem, g1, g2, g3, g4, hcv, hof0, hof, hh]
          refine sem_call rfl rfl (((rhasArg_spec o).embed [] rfl trivial rfl rfl rfl (by simp)).mono ?_)
          rintro _ _ ⟨_, _, ⟨rfl, rfl⟩, rfl, rfl⟩
          refine run_ok 4000 _ _ _ _ ?_
          simp (maxSteps := 10000000) only [go_sem, g1, g2, g3, g4, hcv, hof0, hof, hh]
          refine sem_call rfl rfl (((of_spec o [arg] true).embed [] rfl trivial rfl rfl rfl (by simp)).mono ?_)
          rintro _ _ ⟨_, _, ⟨rfl, rfl⟩, rfl, rfl⟩
          refine run_ok 4000 _ _ _ _ ?_
          simp (maxSteps := 10000000) only [go_sem, g1, g2, g3, g4, hcv, hof0, hof, hh]
          refine sem_call rfl rfl (((Tri.arg2 (Like.nilv 1 false) (of_spec o [] false)).embed [] rfl trivial rfl rfl rfl (by simp)).mono ?_)
          rintro _ _ ⟨_, _, ⟨rfl, rfl⟩, rfl, rfl⟩
          refine run_ok 4000 _ _ _ _ ?_
          simp (maxSteps := 10000000) only [go_sem, g1, g2, g3, g4, hcv, hof0, hof, hh]
          all_goals
            intro hq
            refine sem_call rfl rfl (((hasArg_spec o).embed [] rfl trivial rfl rfl rfl (by simp)).mono ?_)
            rintro _ _ ⟨_, _, ⟨rfl, rfl⟩, rfl, rfl⟩
            refine run_ok 4000 _ _ _ _ ?_
            simp (maxSteps := 10000000) only [go_sem, g1, g2, g3, g4, hcv, hof0, hof, hh]
  · have g3 : seqb (nameF o) [63] = true := hno.2 hi
    by_cases g1 : (o : Int) ≥ 1
    · have g2 : ¬ (o : Int) ≤ 22 := by omega
      cases hh : hasArg (o : Int)
      · have hof : ofF (o : Int) [arg] = 0 := by simp [ofF, hh]
        skip
        refine (Tri.asB (Tri.enter (rl := r3) (code := c3) (by kernel_rfl) Try.func3 rfl c3_ok (by kernel_rfl) (by kernel_rfl) ?_))
        refine run_ok 4000 _ _ _ _ ?_
        simp (maxSteps := 10000000) only [go_sem, c3, r3, g1, g2, g3, hcv, hof0, hof, hh]
        refine sem_call rfl rfl (((awake03_spec).embed [] rfl trivial rfl rfl rfl (by simp)).mono ?_)
        rintro _ _ ⟨_, _, ⟨rfl, rfl⟩, rfl, rfl⟩
        refine run_ok 4000 _ _ _ _ ?_
        simp (maxSteps := 10000000) only [go_sem, g1, g2, g3, hcv, hof0, hof, hh]
        refine sem_call rfl rfl (((name_spec o ho').embed [] rfl trivial rfl rfl rfl (by simp)).mono ?_)
        rintro _ _ ⟨_, _, ⟨rfl, rfl⟩, rfl, rfl⟩
        refine run_ok 4000 _ _ _ _ ?_
        simp (maxSteps := 10000000) only [go_sem, g1, g2, g3, hcv, hof0, hof, hh]
        refine sem_call rfl rfl (((hasArg_spec o).embed [] rfl trivial rfl rfl rfl (by simp)).mono ?_)
        rintro _ _ ⟨_, _, ⟨rfl, rfl⟩, rfl, rfl⟩
        refine run_ok 4000 _ _ _ _ ?_
        simp (maxSteps := 10000000) only [go_sem, g1, g2, g3, hcv, hof0, hof, hh]
        refine sem_call rfl rfl (((rhasArg_spec o).embed [] rfl trivial rfl rfl rfl (by simp)).mono ?_)
        rintro _ _ ⟨_, _, ⟨rfl, rfl⟩, rfl, rfl⟩
        refine run_ok 4000 _ _ _ _ ?_
        simp (maxSteps := 10000000) only [go_sem, g1, g2, g3, hcv, hof0, hof, hh]
        refine sem_call rfl rfl (((of_spec o [arg] true).embed [] rfl trivial rfl rfl rfl (by simp)).mono ?_)
        rintro _ _ ⟨_, _, ⟨rfl, rfl⟩, rfl, rfl⟩
        refine run_ok 4000 _ _ _ _ ?_
        simp (maxSteps := 10000000) only [go_sem, g1, g2, g3, hcv, hof0, hof, hh]
        refine sem_call rfl rfl (((Tri.arg2 (Like.nilv 1 false) (of_spec o [] false)).embed [] rfl trivial rfl rfl rfl (by simp)).mono ?_)
        rintro _ _ ⟨_, _, ⟨rfl, rfl⟩, rfl, rfl⟩
        refine run_ok 4000 _ _ _ _ ?_
        simp (maxSteps := 10000000) only [go_sem, g1, g2, g3, hcv, hof0, hof, hh]
        all_goals
          intro hq
          refine sem_call rfl rfl (((hasArg_spec o).embed [] rfl trivial rfl rfl rfl (by simp)).mono ?_)
          rintro _ _ ⟨_, _, ⟨rfl, rfl⟩, rfl, rfl⟩
          refine run_ok 4000 _ _ _ _ ?_
          simp (maxSteps := 10000000) only [go_sem, g1, g2, g3, hcv, hof0, hof, hh]
      · have hof : ofF (o : Int) [arg] = arg := by simp [ofF, hh]
        skip
        refine (Tri.asB (Tri.enter (rl := r3) (code := c3) (by kernel_rfl) Try.func3 rfl c3_ok (by kernel_rfl) (by kernel_rfl) ?_))
        refine run_ok 4000 _ _ _ _ ?_
        simp (maxSteps := 10000000) only [go_sem, c3, r3, g1, g2, g3, hcv, hof0, hof, hh]
        refine sem_call rfl rfl (((awake03_spec).embed [] rfl trivial rfl rfl rfl (by simp)).mono ?_)
        rintro _ _ ⟨_, _, ⟨rfl, rfl⟩, rfl, rfl⟩
        refine run_ok 4000 _ _ _ _ ?_
        simp (maxSteps := 10000000) only [go_sem, g1, g2, g3, hcv, hof0, hof, hh]
        refine sem_call rfl rfl (((name_spec o ho').embed [] rfl trivial rfl rfl rfl (by simp)).mono ?_)
        rintro _ _ ⟨_, _, ⟨rfl, rfl⟩, rfl, rfl⟩
        refine run_ok 4000 _ _ _ _ ?_
        simp (maxSteps := 10000000) only [go_sem, g1, g2, g3, hcv, hof0, hof, hh]
        refine sem_call rfl rfl (((hasArg_spec o).embed [] rfl trivial rfl rfl rfl (by simp)).mono ?_)
        rintro _ _ ⟨_, _, ⟨rfl, rfl⟩, rfl, rfl⟩
        refine run_ok 4000 _ _ _ _ ?_
        simp (maxSteps := 10000000) only [go_sem, g1, g2, g3, hcv, hof0, hof, hh]
        refine sem_call rfl rfl (((rhasArg_spec o).embed [] rfl trivial rfl rfl rfl (by simp)).mono ?_)
        rintro _ _ ⟨_, _, ⟨rfl, rfl⟩, rfl, rfl⟩
        refine run_ok 4000 _ _ _ _ ?_
        simp (maxSteps := 10000000) only [go_sem, g1, g2, g3, hcv, hof0, hof, hh]
        refine sem_call rfl rfl (((of_spec o [arg] true).embed [] rfl trivial rfl rfl rfl (by simp)).mono ?_)
        rintro _ _ ⟨_, _, ⟨rfl, rfl⟩, rfl, rfl⟩
        refine run_ok 4000 _ _ _ _ ?_
        simp (maxSteps := 10000000) only [go_sem, g1, g2, g3, hcv, hof0, hof, hh]
        refine sem_call rfl rfl (((Tri.arg2 (Like.nilv 1 false) (of_spec o [] false)).embed [] rfl trivial rfl rfl rfl (by simp)).mono ?_)
        rintro _ _ ⟨_, _, ⟨rfl, rfl⟩, rfl, rfl⟩
        refine run_ok 4000 _ _ _ _ ?_
        simp (maxSteps := 10000000) only [go_sem, g1, g2, g3, hcv, hof0, hof, hh]
        all_goals
          intro hq
          refine sem_call rfl rfl (((hasArg_spec o).embed [] rfl trivial rfl rfl rfl (by simp)).mono ?_)
          rintro _ _ ⟨_, _, ⟨rfl, rfl⟩, rfl, rfl⟩
          refine run_ok 4000 _ _ _ _ ?_
          simp (maxSteps := 10000000) only [go_sem, g1, g2, g3, hcv, hof0, hof, hh]
    · cases hh : hasArg (o : Int)
      · have hof : ofF (o : Int) [arg] = 0 := by simp [ofF, hh]
        skip
        refine (Tri.asB (Tri.enter (rl := r3) (code := c3) (by kernel_rfl) Try.func3 rfl c3_ok (by kernel_rfl) (by kernel_rfl) ?_))
        refine run_ok 4000 _ _ _ _ ?_
        simp (maxSteps := 10000000) only [go_sem, c3, r3, g1, g3, hcv, hof0, hof, hh]
        refine sem_call rfl rfl (((awake03_spec).embed [] rfl trivial rfl rfl rfl (by simp)).mono ?_)
        rintro _ _ ⟨_, _, ⟨rfl, rfl⟩, rfl, rfl⟩
        refine run_ok 4000 _ _ _ _ ?_
        simp (maxSteps := 10000000) only [go_sem, g1, g3, hcv, hof0, hof, hh]
        refine sem_call rfl rfl (((name_spec o ho').embed [] rfl trivial rfl rfl rfl (by simp)).mono ?_)
        rintro _ _ ⟨_, _, ⟨rfl, rfl⟩, rfl, rfl⟩
        refine run_ok 4000 _ _ _ _ ?_
        simp (maxSteps := 10000000) only [go_sem, g1, g3, hcv, hof0, hof, hh]
        refine sem_call rfl rfl (((hasArg_spec o).embed [] rfl trivial rfl rfl rfl (by simp)).mono ?_)
        rintro _ _ ⟨_, _, ⟨rfl, rfl⟩, rfl, rfl⟩
        refine run_ok 4000 _ _ _ _ ?_
        simp (maxSteps := 10000000) only [go_sem, g1, g3, hcv, hof0, hof, hh]
        refine sem_call rfl rfl (((rhasArg_spec o).embed [] rfl trivial rfl rfl rfl (by simp)).mono ?_)
        rintro _ _ ⟨_, _, ⟨rfl, rfl⟩, rfl, rfl⟩
        refine run_ok 4000 _ _ _ _ ?_
        simp (maxSteps := 10000000) only [go_sem, g1, g3, hcv, hof0, hof, hh]
        refine sem_call rfl rfl (((of_spec o [arg] true).embed [] rfl trivial rfl rfl rfl (by simp)).mono ?_)
        rintro _ _ ⟨_, _, ⟨rfl, rfl⟩, rfl, rfl⟩
        refine run_ok 4000 _ _ _ _ ?_
        simp (maxSteps := 10000000) only [go_sem, g1, g3, hcv, hof0, hof, hh]
        refine sem_call rfl rfl (((Tri.arg2 (Like.nilv 1 false) (of_spec o [] false)).embed [] rfl trivial rfl rfl rfl (by simp)).mono ?_)
        rintro _ _ ⟨_, _, ⟨rfl, rfl⟩, rfl, rfl⟩
        refine run_ok 4000 _ _ _ _ ?_
        simp (maxSteps := 10000000) only [go_sem, g1, g3, hcv, hof0, hof, hh]
        all_goals
          intro hq
          refine sem_call rfl rfl (((hasArg_spec o).embed [] rfl trivial rfl rfl rfl (by simp)).mono ?_)
          rintro _ _ ⟨_, _, ⟨rfl, rfl⟩, rfl, rfl⟩
          refine run_ok 4000 _ _ _ _ ?_
          simp (maxSteps := 10000000) only [go_sem, g1, g3, hcv, hof0, hof, hh]
      · have hof : ofF (o : Int) [arg] = arg := by simp [ofF, hh]
        skip
        refine (Tri.asB (Tri.enter (rl := r3) (code := c3) (by kernel_rfl) Try.func3 rfl c3_ok (by kernel_rfl) (by kernel_rfl) ?_))
        refine run_ok 4000 _ _ _ _ ?_
        simp (maxSteps := 10000000) only [go_sem, c3, r3, g1, g3, hcv, hof0, hof, hh]
        refine sem_call rfl rfl (((awake03_spec).embed [] rfl trivial rfl rfl rfl (by simp)).mono ?_)
        rintro _ _ ⟨_, _, ⟨rfl, rfl⟩, rfl, rfl⟩
        refine run_ok 4000 _ _ _ _ ?_
        simp (maxSteps := 10000000) only [go_sem, g1, g3, hcv, hof0, hof, hh]
        refine sem_call rfl rfl (((name_spec o ho').embed [] rfl trivial rfl rfl rfl (by simp)).mono ?_)
        rintro _ _ ⟨_, _, ⟨rfl, rfl⟩, rfl, rfl⟩
        refine run_ok 4000 _ _ _ _ ?_
        simp (maxSteps := 10000000) only [go_sem, g1, g3, hcv, hof0, hof, hh]
        refine sem_call rfl rfl (((hasArg_spec o).embed [] rfl trivial rfl rfl rfl (by simp)).mono ?_)
        rintro _ _ ⟨_, _, ⟨rfl, rfl⟩, rfl, rfl⟩
        refine run_ok 4000 _ _ _ _ ?_
        simp (maxSteps := 10000000) only [go_sem, g1, g3, hcv, hof0, hof, hh]
        refine sem_call rfl rfl (((rhasArg_spec o).embed [] rfl trivial rfl rfl rfl (by simp)).mono ?_)
        rintro _ _ ⟨_, _, ⟨rfl, rfl⟩, rfl, rfl⟩
        refine run_ok 4000 _ _ _ _ ?_
        simp (maxSteps := 10000000) only [go_sem, g1, g3, hcv, hof0, hof, hh]
        refine sem_call rfl rfl (((of_spec o [arg] true).embed [] rfl trivial rfl rfl rfl (by simp)).mono ?_)
        rintro _ _ ⟨_, _, ⟨rfl, rfl⟩, rfl, rfl⟩
        refine run_ok 4000 _ _ _ _ ?_
        simp (maxSteps := 10000000) only [go_sem, g1, g3, hcv, hof0, hof, hh]
        refine sem_call rfl rfl (((Tri.arg2 (Like.nilv 1 false) (of_spec o [] false)).embed [] rfl trivial rfl rfl rfl (by simp)).mono ?_)
        rintro _ _ ⟨_, _, ⟨rfl, rfl⟩, rfl, rfl⟩
        refine run_ok 4000 _ _ _ _ ?_
        simp (maxSteps := 10000000) only [go_sem, g1, g3, hcv, hof0, hof, hh]
        all_goals
          intro hq
          refine sem_call rfl rfl (((hasArg_spec o).embed [] rfl trivial rfl rfl rfl (by simp)).mono ?_)
          rintro _ _ ⟨_, _, ⟨rfl, rfl⟩, rfl, rfl⟩
          refine run_ok 4000 _ _ _ _ ?_
          simp (maxSteps := 10000000) only [go_sem, g1, g3, hcv, hof0, hof, hh]
end Go.AEX
