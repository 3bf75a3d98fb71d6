/- Vote: who is for it, won, lost. -/
import Derived.Test.YthdkobfafncpcaaVoteB
namespace Go.AEX
open Go Go.AE Go.Proofs
set_option maxRecDepth 100000
set_option linter.unusedVariables false
set_option linter.unusedSimpArgs false

theorem iv_app (a b : List Int) : iv .i64 a ++ iv .i64 b = iv .i64 (a ++ b) := by simp [iv]
theorem iv_one (x : Int) : [[AV.int .i64 x]] = iv .i64 [x] := rfl
theorem iv_all (l : List Int) : sub (iv .i64 l) 0 l.length = iv .i64 l := by rw [iv_sub]; simp
def cntV (V : Vts) (b : Bool) : List Int := (sortI (V.map (·.1))).filter fun v => (vg V v).getD false == b
structure VOk (S : Nat) (q : Int) (V : Vts) : Prop where
  nd : (V.map (·.1)).Nodup
  mem : ∀ v ∈ V.map (·.1), hasN S v = true ∧ v ≠ q
theorem hasN_rg {S : Nat} {v : Int} (h : hasN S v = true) : 0 ≤ v ∧ v < 32 := by
  unfold hasN at h
  simp only [Bool.and_eq_true, decide_eq_true_eq] at h
  exact h.1
theorem wf_i64 {n : Int} (h : -9223372036854775808 ≤ n ∧ n ≤ 9223372036854775807) : (Lit.int .i64 n).wf = true := by
  have h1 : IntKind.i64.min = -9223372036854775808 := by decide
  have h2 : IntKind.i64.max = 9223372036854775807 := by decide
  simp only [Lit.wf, h1, h2, Bool.and_eq_true, decide_eq_true_eq]
  exact h
theorem pigeon : ∀ (n : Nat) (l : List Int) (a : Int), l.Nodup → (∀ x ∈ l, a < x ∧ x ≤ a + n) → l.length ≤ n
  | 0, l, a, _, h => by
    cases l with
    | nil => simp
    | cons x l => have := h x (by simp); omega
  | n + 1, l, a, hn, h => by
    have ih := pigeon n (l.erase (a + (n + 1 : Nat))) a (hn.erase _) fun x hx => by
      have h1 := (hn.mem_erase_iff).1 hx
      have := h x h1.2
      have := h1.1
      omega
    by_cases hm : a + ((n + 1 : Nat) : Int) ∈ l
    · rw [List.length_erase_of_mem hm] at ih; omega
    · rw [List.erase_of_not_mem hm] at ih; omega
theorem VOk.len {S : Nat} {q : Int} {V : Vts} (h : VOk S q V) : V.length ≤ 32 := by
  have := pigeon 32 (V.map (·.1)) (-1) h.nd fun v hv => by have := hasN_rg (h.mem v hv).1; omega
  simpa using this
theorem sort_perm (l : List Int) : (sortI l).Perm l := List.mergeSort_perm _ _
theorem sort_lt {l : List Int} (h : l.Nodup) : (sortI l).Pairwise (· < ·) := by
  have tr : ∀ a b c : Int, decide (a ≤ b) = true → decide (b ≤ c) = true → decide (a ≤ c) = true := fun a b c h1 h2 => by simp only [decide_eq_true_eq] at *; omega
  have to : ∀ a b : Int, (decide (a ≤ b) || decide (b ≤ a)) = true := fun a b => by simp only [Bool.or_eq_true, decide_eq_true_eq]; omega
  have h1 := List.pairwise_mergeSort tr to l
  have h2 : (sortI l).Nodup := (sort_perm l).nodup_iff.2 h
  rw [List.nodup_iff_pairwise_ne] at h2
  exact (h1.and h2).imp fun ⟨a, b⟩ => by simp only [decide_eq_true_eq] at a; omega
theorem keys_spec (es : List (AV × AV)) : Tri Try.prog 53 [.map 0] [.map es] (fun v m => v = .fn 61 [] [.pbox 1 0] ∧ m = [.map es, .box [.map 0]]) := by
  refine Tri.post ?_
  refine (Tri.enter (rl := r53) (code := c53) (by kernel_rfl) Try.func53 rfl c53_ok (by kernel_rfl) (by kernel_rfl) ?_)
  refine run_ok 4000 _ _ _ _ ?_
  simp (maxSteps := 10000000) only [go_sem, c53, r53]
  exact ⟨_, _, .done, rfl, rfl⟩
theorem sorted_spec {S : Nat} {q : Int} {V : Vts} (h : VOk S q V) : Tri Try.prog 44 [.fn 61 [] [.pbox 0 0]] [.box [.map 1], .map (vb V)]
    (fun v m => v = .sl 2 0 (V.map (·.1)).length (V.map (·.1)).length false ∧ m = [.box [.map 1], .map (vb V), .row 1 (iv .i64 (sortI (V.map (·.1))))]) :=
  tri_sorted (by kernel_rfl) TryL.says53 Try.underlying3 (V.map (·.1)) (vb_keys V) h.nd (fun v hv => by have := hasN_rg (h.mem v hv).1; exact wf_i64 (by omega)) (by have := h.len; simp; omega)
theorem cnt_spec (S : Nat) (ep q : Int) (V : Vts) (h : VOk S q V) (b : Bool) : Tri Try.prog 39 [.pbox 0 0, .int .i64 q, .bool b] (vM S ep q V) (fun v m => v = .vsl 1 (iv .i64 (cntV V b)) false ∧ m = vM S ep q V) := by
  refine Tri.post ?_
  have hk := keys_spec (vb V)
  have hs := sorted_spec h
  have hlen := h.len
  unfold cntV
  have hsl : (sortI (V.map (·.1))).length = (V.map (·.1)).length := List.length_mergeSort _
  have hml : (V.map (·.1)).length ≤ 32 := by simpa using hlen
  generalize (V.map (·.1)).length = n at *
  generalize sortI (V.map (·.1)) = K at *
  skip
  refine (Tri.enter (rl := r39) (code := c39) (by kernel_rfl) Try.func39 rfl c39_ok (by kernel_rfl) (by kernel_rfl) ?_)
  refine run_ok 4000 _ _ _ _ ?_
  simp (maxSteps := 10000000) only [go_sem, c39, r39, beq_self_eq_true]
  refine sem_call rfl rfl (((hk).embed [2] rfl (by repeat' first | exact trivial | rfl | (simp only [go_sem]; done) | constructor) rfl (by first | rfl | simp only [go_sem]) rfl (by simp)).mono ?_)
  rintro _ _ ⟨_, _, ⟨rfl, rfl⟩, rfl, rfl⟩
  refine run_ok 4000 _ _ _ _ ?_
  simp (maxSteps := 10000000) only [go_sem, beq_self_eq_true]
  refine sem_call rfl rfl (((hs).embed [3, 2] rfl (by repeat' first | exact trivial | rfl | (simp only [go_sem]; done) | constructor) rfl (by first | rfl | simp only [go_sem]) rfl (by simp)).mono ?_)
  rintro _ _ ⟨_, _, ⟨rfl, rfl⟩, rfl, rfl⟩
  refine run_ok 4000 _ _ _ _ ?_
  simp (maxSteps := 10000000) only [go_sem, beq_self_eq_true]
  refine sem_virt 7 1 rfl ?_
  simp (maxSteps := 10000000) only [go_sem, beq_self_eq_true]
  refine sem_rounds (fun i : Nat => i ≤ n)
    (fun i => [(0, .pbox 0 0), (1, .int .i64 q), (2, .bool b), (7, .sl 4 0 ((K.take i).filter fun v => (vg V v).getD false == b).length ((K.take i).filter fun v => (vg V v).getD false == b).length false), (17, .sl 3 0 n n false), (18, .int .i64 n), (19, .int .i64 (i : Nat))])
    (fun i => [vBox S ep, .map [(.int .i64 q, .map 2)], .map (vb V), .row 1 (iv .i64 K), .row 1 (iv .i64 ((K.take i).filter fun v => (vg V v).getD false == b))]) (fun i => n - i) 0 [0, 1, 2, 4, 5] (Nat.zero_le _) ?_ ?_
  · simp [Emb, go_sem, iv]
  intro i hi
  by_cases c : i < n
  · have hin : (i : Int) < (n : Int) := by omega
    have ck : i < K.length := by omega
    have r0 := iv_rint (k := .i64) ck
    have h0 := iv_hasI (k := .i64) ck
    have w1 := inc64 (show i < 1000000000000 by omega)
    have htk : K.take (i + 1) = K.take i ++ [K[i]] := List.take_succ_eq_append_getElem ck
    have hnext : (K.take (i + 1)).filter (fun v => (vg V v).getD false == b) = (K.take i).filter (fun v => (vg V v).getD false == b) ++ if (vg V K[i]).getD false == b then [K[i]] else [] := by
      rw [htk, List.filter_append, List.filter_cons, List.filter_nil]
    have hol : ((K.take i).filter fun v => (vg V v).getD false == b).length ≤ 32 := by
      have h1 := List.length_filter_le (fun v => (vg V v).getD false == b) (K.take i)
      rw [List.length_take] at h1; omega
    generalize K[i] = x at *
    generalize ((K.take i).filter fun v => (vg V v).getD false == b) = out at *
    have k1 := vb_bool V x
    have k2 := vb_val V x
    cases hx : ((vg V x).getD false == b) with
    | true =>
      rw [hx, if_pos rfl] at hnext
      have hsm : small (out.length + 1) := by unfold small; omega
      skip
      refine run_ok 4000 _ _ _ _ ?_
      simp (maxSteps := 10000000) only [go_sem, hin, r0, h0, w1, k1, k2, hx, beq_self_eq_true, iv_len, Int.natCast_nonneg, iv_all, Nat.le_refl]
      refine ⟨hsm, ?_⟩
      refine ⟨i + 1, by omega, c, [0, 1, 2, 3, 5], ?_⟩
      simp only [hnext, List.length_append, List.length_singleton]
      rw [iv_one, iv_app]
      simp only [Emb, go_sem]
    | false =>
      rw [hx, if_neg (by simp), List.append_nil] at hnext
      skip
      refine run_ok 4000 _ _ _ _ ?_
      simp (maxSteps := 10000000) only [go_sem, hin, r0, h0, w1, k1, k2, hx, beq_self_eq_true, iv_len, Int.natCast_nonneg]
      refine ⟨i + 1, by omega, c, [0, 1, 2, 3, 4], ?_⟩
      simp only [hnext]
      simp only [Emb, go_sem]
  · have hge : ¬ (i : Int) < (n : Int) := by omega
    have hE : K.take i = K := List.take_of_length_le (by omega)
    rw [hE]
    generalize (K.filter fun v => (vg V v).getD false == b) = out at *
    skip
    refine run_ok 4000 _ _ _ _ ?_
    simp (maxSteps := 10000000) only [go_sem, hge]
    refine run_ok 4000 _ _ _ _ ?_
    simp (maxSteps := 10000000) only [go_sem, hge]
    refine ⟨_, _, .fz 4 rfl (by simp [go_sem, iv_len]) (.sub [0, 1, 2] ?_ .done), rfl, rfl⟩
    simp only [EmbV, go_sem, iv_all]
theorem yes_spec (S : Nat) (ep q : Int) (V : Vts) (h : VOk S q V) : Tri Try.prog 25 [.pbox 0 0, .int .i64 q] (vM S ep q V) (fun v m => v = .vsl 1 (iv .i64 (cntV V true)) false ∧ m = vM S ep q V) := by
  refine Tri.post ?_
  have hc := cnt_spec S ep q V h true
  refine (Tri.enter (rl := r25) (code := c25) (by kernel_rfl) Try.func25 rfl c25_ok (by kernel_rfl) (by kernel_rfl) ?_)
  refine run_ok 4000 _ _ _ _ ?_
  simp (maxSteps := 10000000) only [go_sem, c25, r25]
  refine sem_call rfl rfl (((hc).embed [0, 1, 2] rfl (by repeat' first | exact trivial | rfl | (simp only [go_sem]; done) | constructor) rfl (by first | rfl | simp only [go_sem]) rfl (by simp)).mono ?_)
  rintro _ _ ⟨_, _, ⟨rfl, rfl⟩, rfl, rfl⟩
  refine run_ok 4000 _ _ _ _ ?_
  simp (maxSteps := 10000000) only [go_sem]
  refine ⟨_, _, .sub [0, 1, 2] ?_ .done, rfl, rfl⟩
  simp only [EmbV, go_sem]
theorem cntV_ok {S : Nat} {q : Int} {V : Vts} (h : VOk S q V) (b : Bool) : (∀ v ∈ cntV V b, hasN S v = true ∧ v ≠ q) ∧ (cntV V b).Pairwise (· < ·) ∧ (cntV V b).length ≤ 32 := by
  refine ⟨fun v hv => h.mem v ((sort_perm _).mem_iff.1 (List.mem_filter.1 hv).1), (sort_lt h.nd).sublist List.filter_sublist, ?_⟩
  have h1 := List.length_filter_le (fun v => (vg V v).getD false == b) (sortI (V.map (·.1)))
  have h2 : (sortI (V.map (·.1))).length = (V.map (·.1)).length := List.length_mergeSort _
  have h3 := h.len
  unfold cntV
  simp at h2; omega
theorem won_spec (S : Nat) (hS : S < 4294967296) (ep q : Int) (V : Vts) (h : VOk S q V) (w : 2 * (cntV V true).length > pc S) : Tri Try.prog 26 [.pbox 0 0, .int .i64 q] (vM S ep q V)
    (fun v m => v = .tup [.agg [.int .i64 3, .int .i64 q, .vsl 1 (iv .i64 (cntV V true)) false], .bool true] ∧ m = vM S ep q V) := by
  refine Tri.post ?_
  have hy := yes_spec S ep q V h
  have ho := open_yes S ep q V
  obtain ⟨o1, o2, o3⟩ := cntV_ok h true
  have hm := most_spec S hS ep q (cntV V true) false (by omega) o1 o2
  rw [decide_eq_true w] at hm
  generalize cntV V true = Y at *
  refine (Tri.enter (rl := r26) (code := c26) (by kernel_rfl) Try.func26 rfl c26_ok (by kernel_rfl) (by kernel_rfl) ?_)
  refine run_ok 4000 _ _ _ _ ?_
  simp (maxSteps := 10000000) only [go_sem, c26, r26]
  refine sem_call rfl rfl (((hy).embed [0, 1, 2] rfl (by repeat' first | exact trivial | rfl | (simp only [go_sem]; done) | constructor) rfl (by first | rfl | simp only [go_sem]) rfl (by simp)).mono ?_)
  rintro _ _ ⟨_, _, ⟨rfl, rfl⟩, rfl, rfl⟩
  refine run_ok 4000 _ _ _ _ ?_
  simp (maxSteps := 10000000) only [go_sem]
  refine sem_call rfl rfl (((ho).embed [0, 1, 2] rfl (by repeat' first | exact trivial | rfl | (simp only [go_sem]; done) | constructor) rfl (by first | rfl | simp only [go_sem]) rfl (by simp)).mono ?_)
  rintro _ _ ⟨_, _, ⟨rfl, rfl⟩, rfl, rfl⟩
  refine run_ok 4000 _ _ _ _ ?_
  simp (maxSteps := 10000000) only [go_sem]
  refine sem_call rfl rfl (((hm).embed [] rfl trivial rfl rfl rfl (by simp)).mono ?_)
  rintro _ _ ⟨_, _, ⟨rfl, rfl⟩, rfl, rfl⟩
  refine run_ok 4000 _ _ _ _ ?_
  simp (maxSteps := 10000000) only [go_sem]
  refine ⟨_, _, .sub [0, 1, 2] ?_ .done, rfl, rfl⟩
  simp only [EmbV, go_sem]
theorem won_no (S : Nat) (hS : S < 4294967296) (ep q : Int) (V : Vts) (h : VOk S q V) (w : ¬ 2 * (cntV V true).length > pc S) : Tri Try.prog 26 [.pbox 0 0, .int .i64 q] (vM S ep q V)
    (fun v m => v = .tup [.agg [.int .i64 0, .int .i64 0, .nilsl], .bool false] ∧ m = vM S ep q V) := by
  refine Tri.post ?_
  have hy := yes_spec S ep q V h
  have ho := open_yes S ep q V
  obtain ⟨o1, o2, o3⟩ := cntV_ok h true
  have hm := most_spec S hS ep q (cntV V true) false (by omega) o1 o2
  rw [decide_eq_false w] at hm
  generalize cntV V true = Y at *
  refine (Tri.enter (rl := r26) (code := c26) (by kernel_rfl) Try.func26 rfl c26_ok (by kernel_rfl) (by kernel_rfl) ?_)
  refine run_ok 4000 _ _ _ _ ?_
  simp (maxSteps := 10000000) only [go_sem, c26, r26]
  refine sem_call rfl rfl (((hy).embed [0, 1, 2] rfl (by repeat' first | exact trivial | rfl | (simp only [go_sem]; done) | constructor) rfl (by first | rfl | simp only [go_sem]) rfl (by simp)).mono ?_)
  rintro _ _ ⟨_, _, ⟨rfl, rfl⟩, rfl, rfl⟩
  refine run_ok 4000 _ _ _ _ ?_
  simp (maxSteps := 10000000) only [go_sem]
  refine sem_call rfl rfl (((ho).embed [0, 1, 2] rfl (by repeat' first | exact trivial | rfl | (simp only [go_sem]; done) | constructor) rfl (by first | rfl | simp only [go_sem]) rfl (by simp)).mono ?_)
  rintro _ _ ⟨_, _, ⟨rfl, rfl⟩, rfl, rfl⟩
  refine run_ok 4000 _ _ _ _ ?_
  simp (maxSteps := 10000000) only [go_sem]
  refine sem_call rfl rfl (((hm).embed [] rfl trivial rfl rfl rfl (by simp)).mono ?_)
  rintro _ _ ⟨_, _, ⟨rfl, rfl⟩, rfl, rfl⟩
  refine run_ok 4000 _ _ _ _ ?_
  simp (maxSteps := 10000000) only [go_sem]
  refine ⟨_, _, .sub [0, 1, 2] ?_ .done, rfl, rfl⟩
  simp only [EmbV, go_sem]
end Go.AEX
