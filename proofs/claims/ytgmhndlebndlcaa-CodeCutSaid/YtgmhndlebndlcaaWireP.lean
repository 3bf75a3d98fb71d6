/- WirePuts: the law's evaluation. -/
import Derived.Test.YtgmhndlebndlcaaWire4
namespace Go.AEX
open Go Go.AE Go.Proofs
set_option maxRecDepth 100000
set_option linter.unusedVariables false
set_option linter.unusedSimpArgs false

theorem strF_put (t r : List UInt8) (h : t.length ≤ 40) : strF (strB t ++ r, 0) 40 = ((r, 0), t) := by
  have h1 : numI (strB t ++ r, 0) = (t.length, t ++ r, 0) := by
    unfold strB
    rw [List.append_assoc]
    exact numI_put _ _ (by omega)
  have h2 : countF (strB t ++ r, 0) 40 = ((t ++ r, 0), (t.length : Int)) := by
    unfold countF
    rw [h1, if_neg (by unfold posN; omega)]
  unfold strF
  rw [h2]
  unfold rawF
  by_cases h0 : t.length = 0
  · have : t = [] := List.length_eq_zero_iff.1 h0
    subst this
    simp
  · have h3 : ¬ ((0 : Int) ≠ 0 ∨ (t.length : Int) ≤ 0) := by omega
    have h4 : ¬ ((t.length : Int) > ((t ++ r).length : Int)) := by rw [List.length_append]; omega
    rw [if_neg h3, if_neg h4]
    simp
theorem wirePuts_spec (n : Int) (hn : (Lit.int .u64 n).wf = true) (k : Int) (hk : (Lit.int .i64 k).wf = true) (c : Int) (hc : (Lit.int .i64 c).wf = true) (s : List UInt8) (hs : s.length ≤ 140737488351232) (t : List UInt8) (ht : t.length ≤ 140737488351232) :
    Tri Try.prog 9 [.int .u64 n, .int .i64 k, .int .i64 c, .str s, .str t] [] (fun v m => v = .bool true) := by
  have hk' : I64 k := by simp [Lit.wf, IntKind.min, IntKind.max, IntKind.bits, IntKind.signed] at hk; unfold I64; omega
  have hc' : I64 c := by simp [Lit.wf, IntKind.min, IntKind.max, IntKind.bits, IntKind.signed] at hc; unfold I64; omega
  have hn' : 0 ≤ n ∧ n < 18446744073709551616 := by simp [Lit.wf, IntKind.min, IntKind.max, IntKind.bits, IntKind.signed] at hn; omega
  obtain ⟨N, rfl⟩ : ∃ N : Nat, n = (N : Int) := ⟨n.toNat, by omega⟩
  have hN : N < 18446744073709551616 := by omega
  have h1 : (List.take 40 s).length ≤ 40 := by simp; omega
  have h2 : (List.take 40 t).length ≤ 40 := by simp; omega
  have hneg : iwrap .i64 (iwrap .i64 (0 - k) - 1) = -k - 1 := by
    unfold I64 at hk'
    rw [iwrap_i64 (0 - k), iwrap_i64]; split <;> split <;> omega
  have hk2 : I64 (-k - 1) := by unfold I64 at *; omega
  skip
  refine (Tri.asB (Tri.enter (rl := r9) (code := c9) (by kernel_rfl) Try.func9 rfl c9_ok (by kernel_rfl) (by kernel_rfl) ?_))
  refine run_ok 4000 _ _ _ _ ?_
  simp (maxSteps := 10000000) only [go_sem, c9, r9, hneg]
  refine sem_call rfl rfl (((cut_spec s 40 (by decide)).embed [] rfl trivial rfl rfl rfl (by simp)).mono ?_)
  rintro _ _ ⟨_, _, ⟨rfl, rfl⟩, rfl, rfl⟩
  refine run_ok 4000 _ _ _ _ ?_
  simp (maxSteps := 10000000) only [go_sem, hneg]
  refine sem_call rfl rfl (((cut_spec t 40 (by decide)).embed [] rfl trivial rfl rfl rfl (by simp)).mono ?_)
  rintro _ _ ⟨_, _, ⟨rfl, rfl⟩, rfl, rfl⟩
  refine run_ok 4000 _ _ _ _ ?_
  simp (maxSteps := 10000000) only [go_sem, hneg]
  generalize List.take 40 s = S at *
  generalize List.take 40 t = T at *
  refine sem_call rfl rfl (((awake02_spec).embed [] rfl trivial rfl rfl rfl (by simp)).mono ?_)
  rintro _ _ ⟨_, _, ⟨rfl, rfl⟩, rfl, rfl⟩
  refine run_ok 4000 _ _ _ _ ?_
  simp (maxSteps := 10000000) only [go_sem, hneg]
  refine sem_nilbox 0 0 1 rfl rfl ?_
  simp (maxSteps := 10000000) only [go_sem, hneg]
  have hall : ∀ m ∈ [N, 7], m < 18446744073709551616 := by intro m hm; simp at hm; rcases hm with rfl | rfl <;> omega
  refine sem_call rfl rfl (((wNum_spec [N, 7] true [] hall (by simp)).embed [0, 1] rfl (by repeat' first | exact trivial | rfl | (simp only [go_sem]; done) | constructor) rfl (by first | rfl | simp only [go_sem]) rfl (by simp)).mono ?_)
  rintro _ _ ⟨_, _, ⟨rfl, rfl⟩, rfl, rfl⟩
  refine run_ok 4000 _ _ _ _ ?_
  simp (maxSteps := 10000000) only [go_sem, hneg]
  have b1 := numsB_len [N, 7] hall
  have hI2 : ∀ m ∈ [k, -k - 1], I64 m := by intro m hm; simp at hm; rcases hm with rfl | rfl <;> assumption
  have b2 := numB_len10 (zg_lt hk')
  have b3 := numB_len10 (zg_lt hk2)
  have b4 := numB_len10 (posN_lt hc')
  have b0 := numB_len10 hN
  have b5 := numB_len10 (n := S.length) (by omega)
  have b6 := numB_len10 (n := T.length) (by omega)
  have n7 : numB 7 = [7] := numB_last (by decide)
  have q1 : numsB [N, 7] = numB N ++ [7] := by simp [numsB, n7]
  have q2 : numsB (List.map zg [k, -k - 1]) = numB (zg k) ++ numB (zg (-k - 1)) := by simp [numsB]
  have q3 : numsB (List.map posN [c]) = numB (posN c) := by simp [numsB]
  have q4 : strsB [S, T] = strB S ++ strB T := by simp [strsB]
  have l5 : (strB S).length ≤ 50 := by simp [strB]; omega
  have l6 : (strB T).length ≤ 50 := by simp [strB]; omega
  have c2 := oint_spec [k, -k - 1] true (numsB [N, 7]) hI2 (by simp only [List.length_cons, List.length_nil] at *; omega)
  have c3 := ocount_spec [c] true (numsB [N, 7] ++ numsB (List.map zg [k, -k - 1])) (by intro m hm; simp at hm; rw [hm]; exact hc') (by rw [q2]; simp only [List.length_append, List.length_cons, List.length_nil] at *; omega)
  have c4 := ostr_spec [S, T] true (numsB [N, 7] ++ numsB (List.map zg [k, -k - 1]) ++ numsB (List.map posN [c])) (by simp) (by rw [q2, q3, q4]; simp only [List.length_append, List.length_cons, List.length_nil] at *; omega)
  have c5 := oraw_spec (numsB [N, 7] ++ numsB (List.map zg [k, -k - 1]) ++ numsB (List.map posN [c]) ++ strsB [S, T]) T (by rw [q2, q3, q4]; simp only [List.length_append, List.length_cons, List.length_nil] at *; omega)
  have c6 := otext_spec (numsB [N, 7] ++ numsB (List.map zg [k, -k - 1]) ++ numsB (List.map posN [c]) ++ strsB [S, T] ++ T)
  have hfin : numsB [N, 7] ++ numsB (List.map zg [k, -k - 1]) ++ numsB (List.map posN [c]) ++ strsB [S, T] ++ T = numB N ++ (7 :: (numB (zg k) ++ (numB (zg (-k - 1)) ++ (numB (posN c) ++ (strB S ++ (strB T ++ T)))))) := by
    rw [q1, q2, q3, q4]; simp
  rw [hfin] at c5 c6
  rw [q1, q2] at c3
  rw [q1, q2, q3] at c4
  rw [q1] at c2
  rw [q1, q2, q3, q4] at c5
  skip
  rw [q1]
  rw [q2] at c2
  rw [q3] at c3
  rw [q4] at c4
  generalize hX : numB N ++ 7 :: (numB (zg k) ++ (numB (zg (-k - 1)) ++ (numB (posN c) ++ (strB S ++ (strB T ++ T))))) = X at *
  have hXl : X.length ≤ 200 := by
    rw [← hX]; simp only [List.length_append, List.length_cons] at *; omega
  refine sem_call rfl rfl (((c2).embed [0, 2] rfl (by repeat' first | exact trivial | rfl | (simp only [go_sem]; done) | constructor) rfl (by first | rfl | simp only [go_sem]) rfl (by simp)).mono ?_)
  rintro _ _ ⟨_, _, ⟨rfl, rfl⟩, rfl, rfl⟩
  refine run_ok 4000 _ _ _ _ ?_
  simp (maxSteps := 10000000) only [go_sem, hneg]
  refine sem_call rfl rfl (((c3).embed [0, 3] rfl (by repeat' first | exact trivial | rfl | (simp only [go_sem]; done) | constructor) rfl (by first | rfl | simp only [go_sem]) rfl (by simp)).mono ?_)
  rintro _ _ ⟨_, _, ⟨rfl, rfl⟩, rfl, rfl⟩
  refine run_ok 4000 _ _ _ _ ?_
  simp (maxSteps := 10000000) only [go_sem, hneg]
  refine sem_call rfl rfl (((c4).embed [0, 4] rfl (by repeat' first | exact trivial | rfl | (simp only [go_sem]; done) | constructor) rfl (by first | rfl | simp only [go_sem]) rfl (by simp)).mono ?_)
  rintro _ _ ⟨_, _, ⟨rfl, rfl⟩, rfl, rfl⟩
  refine run_ok 4000 _ _ _ _ ?_
  simp (maxSteps := 10000000) only [go_sem, hneg]
  refine sem_call rfl rfl (((c5).embed [0, 5] rfl (by repeat' first | exact trivial | rfl | (simp only [go_sem]; done) | constructor) rfl (by first | rfl | simp only [go_sem]) rfl (by simp)).mono ?_)
  rintro _ _ ⟨_, _, ⟨rfl, rfl⟩, rfl, rfl⟩
  refine run_ok 4000 _ _ _ _ ?_
  simp (maxSteps := 10000000) only [go_sem, hneg]
  refine sem_call rfl rfl (((c6).embed [0, 6] rfl (by repeat' first | exact trivial | rfl | (simp only [go_sem]; done) | constructor) rfl (by first | rfl | simp only [go_sem]) rfl (by simp)).mono ?_)
  rintro _ _ ⟨_, _, ⟨rfl, rfl⟩, rfl, rfl⟩
  refine run_ok 4000 _ _ _ _ ?_
  simp (maxSteps := 10000000) only [go_sem, hneg]
  refine sem_call rfl rfl (((rNum_spec N hN).embed [] rfl trivial rfl rfl rfl (by simp)).mono ?_)
  rintro _ _ ⟨_, _, ⟨rfl, rfl⟩, rfl, rfl⟩
  refine run_ok 4000 _ _ _ _ ?_
  simp (maxSteps := 10000000) only [go_sem, hneg]
  refine ⟨by simp only [List.length_append, List.length_cons, List.length_nil] at *; omega, ?_⟩
  refine sem_call rfl rfl (((rint_spec k hk').embed [] rfl trivial rfl rfl rfl (by simp)).mono ?_)
  rintro _ _ ⟨_, _, ⟨rfl, rfl⟩, rfl, rfl⟩
  refine run_ok 4000 _ _ _ _ ?_
  simp (maxSteps := 10000000) only [go_sem, hneg]
  refine ⟨by simp only [List.length_append, List.length_cons, List.length_nil] at *; omega, ?_⟩
  refine sem_call rfl rfl (((rint_spec (-k - 1) hk2).embed [] rfl trivial rfl rfl rfl (by simp)).mono ?_)
  rintro _ _ ⟨_, _, ⟨rfl, rfl⟩, rfl, rfl⟩
  refine run_ok 4000 _ _ _ _ ?_
  simp (maxSteps := 10000000) only [go_sem, hneg]
  refine ⟨by simp only [List.length_append, List.length_cons, List.length_nil] at *; omega, ?_⟩
  refine sem_call rfl rfl (((rcount_spec c hc').embed [] rfl trivial rfl rfl rfl (by simp)).mono ?_)
  rintro _ _ ⟨_, _, ⟨rfl, rfl⟩, rfl, rfl⟩
  refine run_ok 4000 _ _ _ _ ?_
  simp (maxSteps := 10000000) only [go_sem, hneg]
  refine ⟨by simp only [List.length_append, List.length_cons, List.length_nil] at *; omega, ?_⟩
  refine sem_call rfl rfl (((rstr_spec S (by omega)).embed [] rfl trivial rfl rfl rfl (by simp)).mono ?_)
  rintro _ _ ⟨_, _, ⟨rfl, rfl⟩, rfl, rfl⟩
  refine run_ok 4000 _ _ _ _ ?_
  simp (maxSteps := 10000000) only [go_sem, hneg]
  refine ⟨by simp only [List.length_append, List.length_cons, List.length_nil] at *; omega, ?_⟩
  have happ : numB N ++ [7] ++ numB (zg k) ++ numB (zg (-k - 1)) ++ numB (posN c) ++ strB S ++ strB T ++ T = X := by rw [← hX]; simp
  have f8 : rawF (T, 0) (T.length : Int) = (([], 0), T) := by
    unfold rawF
    by_cases h0 : T.length = 0
    · have : T = [] := List.length_eq_zero_iff.1 h0
      subst this
      simp
    · have h3 : ¬ ((0 : Int) ≠ 0 ∨ (T.length : Int) ≤ 0) := by omega
      rw [if_neg h3, if_neg (by simp)]
      simp
  have f7 := strF_put T T h2
  generalize hR6 : strB T ++ T = R6 at *
  have f6 := strF_put S R6 h1
  generalize hR5 : strB S ++ R6 = R5 at *
  have f5 := numI_put (posN c) R5 (posN_lt hc')
  generalize hR4 : numB (posN c) ++ R5 = R4 at *
  have f4 := numI_put (zg (-k - 1)) R4 (zg_lt hk2)
  generalize hR3 : numB (zg (-k - 1)) ++ R4 = R3 at *
  have f3 := numI_put (zg k) R3 (zg_lt hk')
  generalize hR2 : numB (zg k) ++ R3 = R2 at *
  have f2 := numI_put 7 R2 (by decide)
  rw [n7, List.cons_append, List.nil_append] at f2
  generalize hR1 : 7 :: R2 = R1 at *
  have f1 := numI_put N R1 hN
  rw [hX] at f1
  have g1 := sg_zg hk'
  have g2 := sg_zg hk2
  have g3 := posN_cvt hc'
  have f9 : endF ([], 0) = ([], 0) := rfl
  skip
  refine sem_call rfl rfl (((rstr_spec T (by omega)).embed [] rfl trivial rfl rfl rfl (by simp)).mono ?_)
  rintro _ _ ⟨_, _, ⟨rfl, rfl⟩, rfl, rfl⟩
  refine run_ok 4000 _ _ _ _ ?_
  simp (maxSteps := 10000000) only [go_sem, hneg, happ]
  refine ⟨by simp only [List.length_append, List.length_cons, List.length_nil] at *; omega, ?_⟩
  refine ⟨by simp only [List.length_append, List.length_cons, List.length_nil] at *; omega, ?_⟩
  skip
  refine sem_call rfl rfl (((c6).embed [0, 6] rfl (by repeat' first | exact trivial | rfl | (simp only [go_sem]; done) | constructor) rfl (by first | rfl | simp only [go_sem]) rfl (by simp)).mono ?_)
  rintro _ _ ⟨_, _, ⟨rfl, rfl⟩, rfl, rfl⟩
  refine run_ok 4000 _ _ _ _ ?_
  simp (maxSteps := 10000000) only [go_sem, hneg, f1, f2, f3, f4, f5, f6, f7, f8, f9, g1, g2, g3]
  refine sem_call rfl rfl (((open_spec X).embed [] rfl (by repeat' first | exact trivial | rfl | (simp only [go_sem]; done) | constructor) rfl (by first | rfl | simp only [go_sem]) rfl (by simp)).mono ?_)
  rintro _ _ ⟨_, _, ⟨rfl, rfl⟩, rfl, rfl⟩
  refine run_ok 4000 _ _ _ _ ?_
  simp (maxSteps := 10000000) only [go_sem, hneg, f1, f2, f3, f4, f5, f6, f7, f8, f9, g1, g2, g3]
  refine sem_call rfl rfl (((inum_spec X 0).embed [7] rfl (by repeat' first | exact trivial | rfl | (simp only [go_sem]; done) | constructor) rfl (by first | rfl | simp only [go_sem]) rfl (by simp)).mono ?_)
  rintro _ _ ⟨_, _, ⟨rfl, rfl⟩, rfl, rfl⟩
  refine run_ok 4000 _ _ _ _ ?_
  simp (maxSteps := 10000000) only [go_sem, hneg, f1, f2, f3, f4, f5, f6, f7, f8, f9, g1, g2, g3]
  refine sem_call rfl rfl (((inum_spec R1 0).embed [7] rfl (by repeat' first | exact trivial | rfl | (simp only [go_sem]; done) | constructor) rfl (by first | rfl | simp only [go_sem]) rfl (by simp)).mono ?_)
  rintro _ _ ⟨_, _, ⟨rfl, rfl⟩, rfl, rfl⟩
  refine run_ok 4000 _ _ _ _ ?_
  simp (maxSteps := 10000000) only [go_sem, hneg, f1, f2, f3, f4, f5, f6, f7, f8, f9, g1, g2, g3]
  refine sem_call rfl rfl (((iint_spec R2 0).embed [7] rfl (by repeat' first | exact trivial | rfl | (simp only [go_sem]; done) | constructor) rfl (by first | rfl | simp only [go_sem]) rfl (by simp)).mono ?_)
  rintro _ _ ⟨_, _, ⟨rfl, rfl⟩, rfl, rfl⟩
  refine run_ok 4000 _ _ _ _ ?_
  simp (maxSteps := 10000000) only [go_sem, hneg, f1, f2, f3, f4, f5, f6, f7, f8, f9, g1, g2, g3]
  refine sem_call rfl rfl (((iint_spec R3 0).embed [7] rfl (by repeat' first | exact trivial | rfl | (simp only [go_sem]; done) | constructor) rfl (by first | rfl | simp only [go_sem]) rfl (by simp)).mono ?_)
  rintro _ _ ⟨_, _, ⟨rfl, rfl⟩, rfl, rfl⟩
  refine run_ok 4000 _ _ _ _ ?_
  simp (maxSteps := 10000000) only [go_sem, hneg, f1, f2, f3, f4, f5, f6, f7, f8, f9, g1, g2, g3]
  refine sem_call rfl rfl (((inum_spec R4 0).embed [7] rfl (by repeat' first | exact trivial | rfl | (simp only [go_sem]; done) | constructor) rfl (by first | rfl | simp only [go_sem]) rfl (by simp)).mono ?_)
  rintro _ _ ⟨_, _, ⟨rfl, rfl⟩, rfl, rfl⟩
  refine run_ok 4000 _ _ _ _ ?_
  simp (maxSteps := 10000000) only [go_sem, hneg, f1, f2, f3, f4, f5, f6, f7, f8, f9, g1, g2, g3]
  refine sem_call rfl rfl (((istr_spec R5 0 40 (by unfold I64; omega)).embed [7] rfl (by repeat' first | exact trivial | rfl | (simp only [go_sem]; done) | constructor) rfl (by first | rfl | simp only [go_sem]) rfl (by simp)).mono ?_)
  rintro _ _ ⟨_, _, ⟨rfl, rfl⟩, rfl, rfl⟩
  refine run_ok 4000 _ _ _ _ ?_
  simp (maxSteps := 10000000) only [go_sem, hneg, f1, f2, f3, f4, f5, f6, f7, f8, f9, g1, g2, g3]
  refine sem_call rfl rfl (((istr_spec R6 0 40 (by unfold I64; omega)).embed [7] rfl (by repeat' first | exact trivial | rfl | (simp only [go_sem]; done) | constructor) rfl (by first | rfl | simp only [go_sem]) rfl (by simp)).mono ?_)
  rintro _ _ ⟨_, _, ⟨rfl, rfl⟩, rfl, rfl⟩
  refine run_ok 4000 _ _ _ _ ?_
  simp (maxSteps := 10000000) only [go_sem, hneg, f1, f2, f3, f4, f5, f6, f7, f8, f9, g1, g2, g3]
  refine sem_call rfl rfl (((raw_spec T 0 T.length).embed [7] rfl (by repeat' first | exact trivial | rfl | (simp only [go_sem]; done) | constructor) rfl (by first | rfl | simp only [go_sem]) rfl (by simp)).mono ?_)
  rintro _ _ ⟨_, _, ⟨rfl, rfl⟩, rfl, rfl⟩
  refine run_ok 4000 _ _ _ _ ?_
  simp (maxSteps := 10000000) only [go_sem, hneg, f1, f2, f3, f4, f5, f6, f7, f8, f9, g1, g2, g3]
  refine sem_call rfl rfl (((iend_spec [] 0).embed [7] rfl (by repeat' first | exact trivial | rfl | (simp only [go_sem]; done) | constructor) rfl (by first | rfl | simp only [go_sem]) rfl (by simp)).mono ?_)
  rintro _ _ ⟨_, _, ⟨rfl, rfl⟩, rfl, rfl⟩
  refine run_ok 4000 _ _ _ _ ?_
  simp (maxSteps := 10000000) only [go_sem, hneg, f1, f2, f3, f4, f5, f6, f7, f8, f9, g1, g2, g3]
end Go.AEX
