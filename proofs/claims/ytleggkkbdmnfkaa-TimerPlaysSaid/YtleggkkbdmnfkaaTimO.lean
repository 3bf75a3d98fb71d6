/- Timers: those that stop; when the next one is due. -/
import Derived.Test.YtleggkkbdmnfkaaTimD
namespace Go.AEX
open Go Go.AE Go.Proofs
set_option maxRecDepth 100000
set_option linter.unusedVariables false
set_option linter.unusedSimpArgs false

theorem tindexOf_spec (ns : List Int) (n : Int) (tight : Bool) (hl : ns.length ≤ 1000000) : Tri Try.prog 35 [.vsl 1 (uv ns) tight, .int .u32 n] [] (fun v m => (∃ k : Int, v = .int .i64 k ∧ (0 ≤ k ↔ n ∈ ns)) ∧ m = []) := by
  refine Tri.post ?_
  skip
  refine (Tri.enter (rl := r35) (code := c35) (by kernel_rfl) Try.func35 rfl c35_ok (by kernel_rfl) (by kernel_rfl) ?_)
  refine run_ok 4000 _ _ _ _ ?_
  simp (maxSteps := 10000000) only [go_sem, c35, r35, iv_len]
  refine sem_rounds (fun i : Nat => i ≤ ns.length ∧ ∀ j, j < i → ∀ h : j < ns.length, n ≠ ns[j]) (fun i => [(0, .vsl 1 (uv ns) tight), (1, .int .u32 n), (7, .int .i64 ns.length), (8, .int .i64 (i : Nat))]) (fun i => []) (fun i => ns.length - i) 0 [] ⟨Nat.zero_le _, fun j h => by omega⟩ ?_ ?_
  · simp only [Emb, go_sem]
  rintro i ⟨hi, hne⟩
  by_cases hlt : i < ns.length
  · have hin : (i : Int) < (ns.length : Int) := by omega
    have r0 := iv_rint (k := .u32) hlt
    by_cases c : n = ns[i]
    · have q : (n == ns[i]) = true := by simpa using c
      skip
      refine run_ok 4000 _ _ _ _ ?_
      simp (maxSteps := 10000000) only [go_sem, hin, r0, iv_hasI hlt, q, iv_len, Int.natCast_nonneg]
      refine ⟨_, _, .sub [] ?_ .done, ⟨(i : Int), rfl, ⟨fun _ => by rw [c]; exact List.getElem_mem hlt, fun _ => by omega⟩⟩, rfl⟩
      simp only [EmbV, go_sem]
    · have q : (n == ns[i]) = false := by simpa using c
      skip
      refine run_ok 4000 _ _ _ _ ?_
      simp (maxSteps := 10000000) only [go_sem, hin, r0, iv_hasI hlt, q, iv_len, Int.natCast_nonneg, inc64 (show i < 1000000000000 by omega)]
      refine ⟨i + 1, by omega, ⟨hlt, fun j hj h => ?_⟩, [], ?_⟩
      · by_cases e : j = i
        · subst e; exact c
        · exact hne j (by omega) h
      · simp only [Emb, go_sem]
  · have hge : ¬ (i : Int) < (ns.length : Int) := by omega
    skip
    refine run_ok 4000 _ _ _ _ ?_
    simp (maxSteps := 10000000) only [go_sem, hge]
    refine run_ok 4000 _ _ _ _ ?_
    simp (maxSteps := 10000000) only [go_sem, hge]
    refine ⟨_, _, .sub [] ?_ .done, ⟨-1, rfl, ⟨fun h => by omega, fun h => ?_⟩⟩, rfl⟩
    · simp only [EmbV, go_sem]
    · obtain ⟨j, hj, e⟩ := List.getElem_of_mem h
      exact absurd e.symm (hne j (by omega) hj)
theorem contains_spec (ns : List Int) (n : Int) (tight : Bool) (hl : ns.length ≤ 1000000) : Tri Try.prog 28 [.vsl 1 (uv ns) tight, .int .u32 n] [] (fun v m => v = .bsym (decide (n ∈ ns)) ∧ m = []) := by
  refine Tri.post ?_
  have hi := tindexOf_spec ns n tight hl
  refine (Tri.enter (rl := r28) (code := c28) (by kernel_rfl) Try.func28 rfl c28_ok (by kernel_rfl) (by kernel_rfl) ?_)
  refine run_ok 4000 _ _ _ _ ?_
  simp (maxSteps := 10000000) only [go_sem, c28, r28]
  refine sem_call rfl rfl (((hi).embed [] rfl (by repeat' first | exact trivial | rfl | (simp only [go_sem]; done) | constructor) rfl (by first | rfl | simp only [go_sem]) rfl (by simp)).mono ?_)
  rintro _ _ ⟨_, _, ⟨⟨k, rfl, hk⟩, rfl⟩, rfl, rfl⟩
  refine run_ok 4000 _ _ _ _ ?_
  simp (maxSteps := 10000000) only [go_sem]
  refine ⟨_, _, .sub [] ?_ .done, rfl, rfl⟩
  have : decide (k ≥ 0) = decide (n ∈ ns) := by rw [decide_eq_decide]; exact hk
  simp only [EmbV, go_sem, this]
theorem stop1_spec (ns : List Int) (e : TE) (tight : Bool) (hl : ns.length ≤ 1000000) : Tri Try.prog 27 [.agg [.int .u32 e.n, .int .i64 e.due, .int .i64 e.wait, .int .i64 e.times], .pbox 0 0] [.box [.vsl 1 (uv ns) tight]] (fun r m => r = .bsym (decide (e.n ∈ ns)) ∧ m = [.box [.vsl 1 (uv ns) tight]]) := by
  refine Tri.post ?_
  refine (Tri.enter (rl := r27) (code := c27) (by kernel_rfl) Try.func27 rfl c27_ok (by kernel_rfl) (by kernel_rfl) ?_)
  refine run_ok 4000 _ _ _ _ ?_
  simp (maxSteps := 10000000) only [go_sem, c27, r27]
  refine sem_call rfl rfl (((contains_spec ns e.n tight hl).embed [] rfl trivial rfl rfl rfl (by simp)).mono ?_)
  rintro _ _ ⟨_, _, ⟨rfl, rfl⟩, rfl, rfl⟩
  refine run_ok 4000 _ _ _ _ ?_
  simp (maxSteps := 10000000) only [go_sem]
  refine ⟨_, _, .sub [0] ?_ .done, rfl, rfl⟩
  simp only [EmbV, go_sem]
theorem tclone_spec (L : List TE) (hL : L.length ≤ 100000) : Tri Try.prog 26 [.sl 0 0 L.length L.length false] [.row 4 (terows L)] (fun v m => v = .sl 1 0 L.length L.length false ∧ m = [.row 4 (terows L), .row 4 (terows L)]) := by
  refine Tri.post ?_
  refine (Tri.enter (rl := r26) (code := c26) (by kernel_rfl) Try.func26 rfl c26_ok (by kernel_rfl) (by kernel_rfl) ?_)
  refine run_ok 4000 _ _ _ _ ?_
  simp (maxSteps := 10000000) only [go_sem, c26, r26]
  refine sem_eqn rfl rfl rfl fun b hb => ?_
  cases b with
  | false =>
    skip
    refine run_ok 4000 _ _ _ _ ?_
    simp (maxSteps := 10000000) only [go_sem, te_all, te_len]
    refine ⟨by unfold small; omega, _, _, .sub [0, 1] ?_ .done, rfl, rfl⟩
    simp only [EmbV, go_sem]
  | true =>
    have h0 : L.length = 0 := by
      by_cases h : L.length = 0
      · exact h
      · exact absurd (hb h) (by simp)
    have : L = [] := List.length_eq_zero_iff.1 h0
    subst this
    skip
    refine run_ok 2 _ _ _ _ ?_
    simp (maxSteps := 10000000) only [go_sem, te_all, te_len]
    skip
    refine sem_virt 2 4 rfl ?_
    refine run_ok 4000 _ _ _ _ ?_
    simp (maxSteps := 10000000) only [go_sem, te_all, te_len]
    refine ⟨_, _, .sub [0, 1] ?_ .done, rfl, rfl⟩
    simp only [EmbV, go_sem, terows, List.map_nil]
theorem gfilt_yes {α : Type} {L : List α} {p : Nat} (hp : p < L.length) {H : α → Bool} (h : H L[p] = true) : (L.take (p + 1)).filter (fun x => !H x) = (L.take p).filter (fun x => !H x) := by
  rw [List.take_succ_eq_append_getElem hp, List.filter_append]
  simp [h]
theorem gfilt_no {α : Type} {L : List α} {p : Nat} (hp : p < L.length) {H : α → Bool} (h : H L[p] = false) : (L.take (p + 1)).filter (fun x => !H x) = (L.take p).filter (fun x => !H x) ++ [L[p]] := by
  rw [List.take_succ_eq_append_getElem hp, List.filter_append]
  simp [h]
theorem gdrop_get {α : Type} {L M : List α} {j : Nat} (h : j < L.length) (hl : M.length = L.length) (hd : M.drop j = L.drop j) : M[j]'(by omega) = L[j] := by
  have h1 : M.drop j = M[j]'(by omega) :: M.drop (j + 1) := List.drop_eq_getElem_cons (by omega)
  have h2 : L.drop j = L[j] :: L.drop (j + 1) := List.drop_eq_getElem_cons h
  rw [h1, h2] at hd
  injection hd
theorem gdrop_next {α : Type} {L M : List α} {j : Nat} (hd : M.drop j = L.drop j) : M.drop (j + 1) = L.drop (j + 1) := by
  rw [← List.drop_drop, ← List.drop_drop, hd]
set_option maxHeartbeats 4000000 in
theorem tdelete_spec (fid : FuncId) (v : Int ⊕ (List Int × Bool)) (H : TE → Bool)
    (hc : ∀ e : TE, Tri Try.prog fid [.agg [.int .u32 e.n, .int .i64 e.due, .int .i64 e.wait, .int .i64 e.times], .pbox 0 0] [.box [capV v]] (fun r m => r = .bsym (H e) ∧ m = [.box [capV v]])) (L : List TE) (hL : L.length ≤ 10000) :
    Tri Try.prog 25 [.sl 0 0 L.length L.length false, .fn fid [] [.pbox 1 0]] [.row 4 (terows L), .box [capV v]]
    (fun r m => r = .sl 0 0 (L.filter fun e => !H e).length (L.filter fun e => !H e).length false ∧ m = [.row 4 (terows (L.filter fun e => !H e)), .box [capV v]]) := by
  refine Tri.post ?_
  have hx := tindex_spec fid v H hc L (by omega)
  unfold idxH at hx
  by_cases ha : L.any H = true
  case neg =>
    have ha : L.any H = false := by simpa using ha
    have hf : (L.filter fun x => !H x) = L := by
      rw [List.filter_eq_self]; intro x hx; rw [List.any_eq_false] at ha; simpa using ha x hx
    rw [hf]
    rw [ha] at hx
    simp only [Bool.false_eq_true, if_false] at hx
    refine (Tri.enter (rl := r25) (code := c25) (by kernel_rfl) Try.func25 rfl c25_ok (by kernel_rfl) (by kernel_rfl) ?_)
    refine run_ok 4000 _ _ _ _ ?_
    simp (maxSteps := 10000000) only [go_sem, c25, r25]
    refine sem_call rfl rfl (((hx).embed [0, 1] rfl (by repeat' first | exact trivial | rfl | (simp only [go_sem]; done) | constructor) rfl (by first | rfl | simp only [go_sem]) rfl (by simp)).mono ?_)
    rintro _ _ ⟨_, _, ⟨rfl, rfl⟩, rfl, rfl⟩
    refine run_ok 4000 _ _ _ _ ?_
    simp (maxSteps := 10000000) only [go_sem]
    refine ⟨_, _, .sub [0, 1] ?_ .done, rfl, rfl⟩
    simp only [EmbV, go_sem]
  rw [ha, if_pos rfl] at hx
  have hp : L.findIdx H < L.length := by rw [List.findIdx_lt_length]; simpa using ha
  have hpre : (L.take (L.findIdx H)).filter (fun x => !H x) = L.take (L.findIdx H) := by
    rw [List.filter_eq_self]
    intro x hx
    obtain ⟨j, hj, rfl⟩ := List.getElem_of_mem hx
    rw [List.length_take] at hj
    rw [List.getElem_take]
    have := List.not_of_lt_findIdx (xs := L) (p := H) (i := j) (by omega)
    simp only [this]; rfl
  have hhit : H (L[L.findIdx H]) = true := List.findIdx_getElem (xs := L) (p := H) (w := hp)
  generalize L.findIdx H = p at *
  have hne : ((p : Int) == (-1)) = false := by rw [beq_eq_false_iff_ne]; omega
  have hf0 := gfilt_yes (H := H) hp hhit
  skip
  refine (Tri.enter (rl := r25) (code := c25) (by kernel_rfl) Try.func25 rfl c25_ok (by kernel_rfl) (by kernel_rfl) ?_)
  refine run_ok 4000 _ _ _ _ ?_
  simp (maxSteps := 10000000) only [go_sem, c25, r25, hne, inc64 (show p < 1000000000000 by omega)]
  refine sem_call rfl rfl (((hx).embed [0, 1] rfl (by repeat' first | exact trivial | rfl | (simp only [go_sem]; done) | constructor) rfl (by first | rfl | simp only [go_sem]) rfl (by simp)).mono ?_)
  rintro _ _ ⟨_, _, ⟨rfl, rfl⟩, rfl, rfl⟩
  refine run_ok 4000 _ _ _ _ ?_
  simp (maxSteps := 10000000) only [go_sem, hne, inc64 (show p < 1000000000000 by omega)]
  refine sem_rounds (fun x : Nat × Nat × List TE => x.1 ≤ L.length ∧ x.2.1 < x.1 ∧ x.2.2.length = L.length ∧ x.2.2.take x.2.1 = (L.take x.1).filter (fun x => !H x) ∧ x.2.2.drop x.1 = L.drop x.1)
    (fun x => [(0, .sl 0 0 L.length L.length false), (1, .fn fid [] [.pbox 1 0]), (5, .int .i64 (x.2.1 : Nat)), (6, .int .i64 (x.1 : Nat))])
    (fun x => [.row 4 (terows x.2.2), .box [capV v]]) (fun x => L.length - x.1) (p + 1, p, L) [0, 1]
    ⟨by simp only; omega, by simp only; omega, rfl, by simp only; rw [hf0, hpre], rfl⟩ ?_ ?_
  · simp only [Emb, go_sem]
  rintro ⟨j, i, M⟩ ⟨h1, h2, h3, h4, h5⟩
  simp only at h1 h2 h3 h4 h5
  by_cases hlt : j < L.length
  · have hltM : j < M.length := by omega
    have hin : (j : Int) < (L.length : Int) := by omega
    have hii : (i : Int) < (L.length : Int) := by omega
    have hiM : i < M.length := by omega
    have hga := gdrop_get hlt h3 h5
    have hdn := gdrop_next h5
    have hcl := hc M[j]
    have r0 := te_r0 hltM; have r1 := te_r1 hltM; have r2 := te_r2 hltM; have r3 := te_r3 hltM
    have hput := te_rput hiM M[j]
    have hinR := te_inR hiM
    cases hh : H M[j] with
    | false =>
      have hLj : H L[j] = false := by rw [← hga]; exact hh
      have hf := gfilt_no (H := H) hlt hLj
      rw [hh] at hcl
      have hMl : (M.set i M[j]).length = L.length := by rw [List.length_set]; exact h3
      have k4 : (M.set i M[j]).take (i + 1) = (L.take (j + 1)).filter (fun x => !H x) := by
        rw [hf, ← h4, List.take_succ_eq_append_getElem (by rw [List.length_set]; exact hiM), List.getElem_set_self, hga, List.take_set_of_le (Nat.le_refl _)]
      have k5 : (M.set i M[j]).drop (j + 1) = L.drop (j + 1) := by rw [List.drop_set_of_lt (by omega)]; exact hdn
      generalize M.set i M[j] = M2 at *
      generalize M[j] = e at *
      skip
      refine run_ok 4000 _ _ _ _ ?_
      simp (maxSteps := 10000000) only [go_sem, te_h0 hltM, te_h1 hltM, te_h2 hltM, te_h3 hltM, r0, r1, r2, r3, hput, hinR, hin, hii, te_len, Int.natCast_nonneg, inc64 (show j < 1000000000000 by omega), inc64 (show i < 1000000000000 by omega)]
      refine sem_callv rfl rfl rfl (((hcl).embed [1] rfl (by repeat' first | exact trivial | rfl | (simp only [go_sem]; done) | constructor) rfl (by first | rfl | simp only [go_sem]) rfl (by simp)).mono ?_)
      rintro _ _ ⟨_, _, ⟨rfl, rfl⟩, rfl, rfl⟩
      refine run_ok 4000 _ _ _ _ ?_
      simp (maxSteps := 10000000) only [go_sem, te_h0 hltM, te_h1 hltM, te_h2 hltM, te_h3 hltM, r0, r1, r2, r3, hput, hinR, hin, hii, te_len, Int.natCast_nonneg, inc64 (show j < 1000000000000 by omega), inc64 (show i < 1000000000000 by omega)]
      refine ⟨(j + 1, i + 1, M2), by simp only; omega, ⟨by simp only; omega, by simp only; omega, hMl, k4, k5⟩, [0, 1], ?_⟩
      simp only [Emb, go_sem]
    | true =>
      have hLj : H L[j] = true := by rw [← hga]; exact hh
      have hf := gfilt_yes (H := H) hlt hLj
      rw [hh] at hcl
      have k4 : M.take i = (L.take (j + 1)).filter (fun x => !H x) := by rw [hf]; exact h4
      generalize M[j] = e at *
      skip
      refine run_ok 4000 _ _ _ _ ?_
      simp (maxSteps := 10000000) only [go_sem, te_h0 hltM, te_h1 hltM, te_h2 hltM, te_h3 hltM, r0, r1, r2, r3, hin, hii, te_len, Int.natCast_nonneg, inc64 (show j < 1000000000000 by omega)]
      refine sem_callv rfl rfl rfl (((hcl).embed [1] rfl (by repeat' first | exact trivial | rfl | (simp only [go_sem]; done) | constructor) rfl (by first | rfl | simp only [go_sem]) rfl (by simp)).mono ?_)
      rintro _ _ ⟨_, _, ⟨rfl, rfl⟩, rfl, rfl⟩
      refine run_ok 4000 _ _ _ _ ?_
      simp (maxSteps := 10000000) only [go_sem, te_h0 hltM, te_h1 hltM, te_h2 hltM, te_h3 hltM, r0, r1, r2, r3, hin, hii, te_len, Int.natCast_nonneg, inc64 (show j < 1000000000000 by omega)]
      refine ⟨(j + 1, i, M), by simp only; omega, ⟨by simp only; omega, by simp only; omega, h3, k4, hdn⟩, [0, 1], ?_⟩
      simp only [Emb, go_sem]
  · have hj : j = L.length := by omega
    subst hj
    rw [List.take_length] at h4
    have hge : ¬ (L.length : Int) < (L.length : Int) := by omega
    have hk : (L.filter fun x => !H x).length = i := by rw [← h4, List.length_take]; omega
    have hbk : (terows M).take i = terows (L.filter fun x => !H x) := by rw [← h4, terows, terows, List.map_take]
    have hbl : ((terows M).take i).length = i := by rw [List.length_take, te_len]; omega
    have f1 : (i : Int) ≤ (L.length : Int) := by omega
    skip
    refine run_ok 4000 _ _ _ _ ?_
    simp (maxSteps := 10000000) only [go_sem, hge]
    refine sem_tell 0 i rfl ?_
    skip
    skip
    refine run_ok 3 _ _ _ _ ?_
    simp (maxSteps := 10000000) only [go_sem, f1, Int.natCast_nonneg]
    skip
    refine sem_clrT rfl rfl rfl (by rw [hbl]; exact Nat.le_refl _) ?_
    skip
    refine run_ok 4000 _ _ _ _ ?_
    simp (maxSteps := 10000000) only [go_sem, f1, Int.natCast_nonneg, Nat.sub_zero]
    refine ⟨_, _, .like Like.cap (.sub [0, 1] ?_ .done), rfl, rfl⟩
    simp only [EmbV, go_sem, hk, hbk]
def outL (ns : List Int) (l : List TE) : List TE := l.filter fun e => !decide (e.n ∈ ns)
theorem outL_len (ns : List Int) (l : List TE) : (outL ns l).length ≤ l.length := List.length_filter_le _ _
theorem tstop_spec (f m : Int) (l : List TE) (ns : List Int) (tight : Bool) (hl : l.length ≤ 10000) (hn : ns.length ≤ 1000000) :
    Tri Try.prog 13 [.pbox 0 0, .vsl 1 (uv ns) tight] (tmM f m l) (fun v q => v = .int .i64 ((l.length : Int) - (outL ns l).length) ∧ q = tmM2 f m (outL ns l)) := by
  refine Tri.post ?_
  have hc := tclone_spec l (by omega)
  have hd := tdelete_spec 27 (.inr (ns, tight)) (fun e => decide (e.n ∈ ns)) (fun e => stop1_spec ns e tight hn) l hl
  have h1 := outL_len ns l
  simp only [capV] at hd
  have w1 : iwrap .i64 ((l.length : Int) - ((outL ns l).length : Int)) = (l.length : Int) - (outL ns l).length := iwrap_i64_in (by omega)
  change Tri Try.prog _ _ _ (fun r q => r = .sl 0 0 (outL ns l).length (outL ns l).length false ∧ q = [.row 4 (terows (outL ns l)), .box [.vsl 1 (uv ns) tight]]) at hd
  unfold tmM tmM2
  skip
  refine (Tri.enter (rl := r13) (code := c13) (by kernel_rfl) Try.func13 rfl c13_ok (by kernel_rfl) (by kernel_rfl) ?_)
  refine run_ok 4000 _ _ _ _ ?_
  simp (maxSteps := 10000000) only [go_sem, c13, r13, w1]
  refine sem_call rfl rfl (((hc).embed [1] rfl (by repeat' first | exact trivial | rfl | (simp only [go_sem]; done) | constructor) rfl (by first | rfl | simp only [go_sem]) rfl (by simp)).mono ?_)
  rintro _ _ ⟨_, _, ⟨rfl, rfl⟩, rfl, rfl⟩
  refine run_ok 4000 _ _ _ _ ?_
  simp (maxSteps := 10000000) only [go_sem, w1]
  refine sem_call rfl rfl (((hd).embed [3, 2] rfl (by repeat' first | exact trivial | rfl | (simp only [go_sem]; done) | constructor) rfl (by first | rfl | simp only [go_sem]) rfl (by simp)).mono ?_)
  rintro _ _ ⟨_, _, ⟨rfl, rfl⟩, rfl, rfl⟩
  refine run_ok 4000 _ _ _ _ ?_
  simp (maxSteps := 10000000) only [go_sem, w1]
  refine ⟨_, _, .sub [0, 1, 3] ?_ .done, rfl, rfl⟩
  simp only [EmbV, go_sem]
end Go.AEX
