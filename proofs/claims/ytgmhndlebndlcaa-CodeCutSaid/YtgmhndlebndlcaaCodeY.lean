/- CodeX, CodeY in one. -/
import Derived.Test.YtgmhndlebndlcaaCodeL
import Derived.Test.YtgmhndlebndlcaaAEsa
/- CodeTexts, CodeCut: the laws' evaluations. -/
namespace Go.AEX
open Go Go.AE Go.Proofs
set_option maxRecDepth 100000
set_option linter.unusedVariables false
set_option linter.unusedSimpArgs false

theorem insB_len {x : Ins} (h : InsR x) : (insB x).length ≤ 20 := by
  obtain ⟨h1, h2, h3, _⟩ := h
  unfold insB
  rw [List.length_append]
  have a := numB_len10 (n := x.1.toNat) (by omega)
  split
  · have b := numB_len10 (zg_lt h3); omega
  · simp; omega
theorem codeB_len : ∀ {c : List Ins}, (∀ x ∈ c, InsR x) → (codeB c).length ≤ 20 * c.length
  | [], _ => by simp [codeB]
  | x :: c, h => by
    have ih := codeB_len (c := c) fun y hy => h y (by simp [hy])
    have e : codeB (x :: c) = insB x ++ codeB c := by simp [codeB]
    have := insB_len (h x (by simp))
    rw [e, List.length_append, List.length_cons]; omega
theorem fnB_len {f : Fn} (h : FnR f) : (fnB f).length ≤ 2590 := by
  obtain ⟨h1, h2, h3, h4⟩ := h
  unfold fnB
  simp only [List.length_append]
  have a := numB_len10 (n := posN f.args) (by unfold posN; omega)
  have b := numB_len10 (n := posN f.locals) (by unfold posN; omega)
  have c := numB_len10 (n := f.code.length) (by omega)
  have d := codeB_len h4
  omega
theorem fnsB_len : ∀ {l : List Fn}, (∀ f ∈ l, FnR f) → (fnsB l).length ≤ 2590 * l.length
  | [], _ => by simp [fnsB]
  | x :: c, h => by
    have ih := fnsB_len (l := c) fun y hy => h y (by simp [hy])
    have e : fnsB (x :: c) = fnB x ++ fnsB c := by simp [fnsB]
    have := fnB_len (h x (by simp))
    rw [e, List.length_append, List.length_cons]; omega
theorem imgB_len {l : List Fn} (h : ImgR l) : (imgB l).length ≤ 50000 := by
  have h1 := h.1
  unfold imgB
  rw [List.length_append]
  have a := numB_len10 (n := l.length) (by omega)
  have b := fnsB_len h.2
  omega
theorem ImgR.ok {l : List Fn} (h : ImgR l) : ∀ f ∈ l, FnOk f := fun f hf => by
  obtain ⟨h1, h2, h3, h4⟩ := h.2 f hf
  refine ⟨by unfold I64; omega, by unfold I64; omega, fun x hx => ?_⟩
  obtain ⟨x1, x2, x3, _⟩ := h4 x hx
  exact ⟨by omega, by omega, x3⟩
theorem ImgR.op {l : List Fn} (h : ImgR l) : ∀ f ∈ l, ∀ x ∈ f.code, 0 ≤ x.1 ∧ x.1 < 256 := fun f hf x hx => by
  obtain ⟨_, _, _, h4⟩ := h.2 f hf
  obtain ⟨x1, x2, _⟩ := h4 x hx
  omega
theorem ImgR.len {l : List Fn} (h : ImgR l) : ∀ f ∈ l, f.code.length ≤ 10000 := fun f hf => by
  obtain ⟨_, _, h3, _⟩ := h.2 f hf
  omega
theorem tidy_ok {l : List Fn} (h : ∀ f ∈ l, ∀ x ∈ f.code, InsOk x) : ImgR (tidyL l) := by
  unfold tidyL
  refine ⟨by rw [List.length_map, List.length_take]; omega, fun f hf => ?_⟩
  obtain ⟨g, hg, rfl⟩ := List.mem_map.1 hf
  have hg := h g (List.mem_of_mem_take hg)
  obtain ⟨n1, e1, m1⟩ := and_i64 g.args (k := 15) (by decide)
  obtain ⟨n2, e2, m2⟩ := and_i64 g.locals (k := 15) (by decide)
  have e1 : ibits .and .i64 g.args 15 = (n1 : Int) := e1
  have e2 : ibits .and .i64 g.locals 15 = (n2 : Int) := e2
  unfold tidyN
  refine ⟨by simp only [e1]; omega, by simp only [e2]; omega, by simp only [List.length_map, List.length_take]; omega, fun x hx => ?_⟩
  obtain ⟨y, hy, rfl⟩ := List.mem_map.1 hx
  obtain ⟨y1, y2, y3⟩ := hg y (List.mem_of_mem_take hy)
  unfold tidyI
  refine ⟨by simp only; omega, by simp only; omega, ?_, fun h0 => ?_⟩
  · simp only
    split
    · exact y3
    · unfold I64; omega
  · simp only at h0 ⊢; rw [if_neg (by simp [h0])]
set_option maxHeartbeats 1000000 in
theorem rtext_spec (l : List Fn) (h : ImgR l) : Tri Try.prog 48 [.vsl 3 (rfrows l) false] [] (fun v m => v = .str (imgB l) ∧ m = []) := by
  refine Tri.post ?_
  have hl16 := h.1
  have hc0 := rcount_spec (l.length : Int) (by unfold I64; omega)
  have hp0 : posN (l.length : Int) = l.length := by unfold posN; omega
  rw [hp0] at hc0
  skip
  refine (Tri.enter (rl := r48) (code := c48) (by kernel_rfl) Try.func48 rfl c48_ok (by kernel_rfl) (by kernel_rfl) ?_)
  refine run_ok 4000 _ _ _ _ ?_
  simp (maxSteps := 10000000) only [go_sem, c48, r48, rfrows_len]
  refine sem_call rfl rfl (((hc0).embed [] rfl trivial rfl rfl rfl (by simp)).mono ?_)
  rintro _ _ ⟨_, _, ⟨rfl, rfl⟩, rfl, rfl⟩
  refine run_ok 4000 _ _ _ _ ?_
  simp (maxSteps := 10000000) only [go_sem, rfrows_len]
  refine sem_rounds (fun i : Nat => i ≤ l.length) (fun i => [(3, .str (numB l.length ++ fnsB (l.take i))), (11, .vsl 3 (rfrows l) false), (12, .int .i64 l.length), (13, .int .i64 (i : Nat))])
    (fun i => []) (fun i => l.length - i) 0 [] (Nat.zero_le _) ?_ ?_
  · simp only [Emb, go_sem, rfrows_len]; simp [fnsB]
  intro i hi
  by_cases hlt : i < l.length
  · have hin : (i : Int) < (l.length : Int) := by omega
    have k0 := rfrows_h0 hlt; have k1 := rfrows_h1 hlt; have k2 := rfrows_h2 hlt
    have s0 := rfrows_r0 hlt; have s1 := rfrows_r1 hlt; have s2 := rfrows_r2 hlt
    have hnx := fnsB_take hlt
    obtain ⟨f1, f2, f3, f4⟩ := h.2 _ (List.getElem_mem hlt)
    generalize l[i] = f at *
    obtain ⟨a, b, c⟩ := f
    simp only at s0 s1 s2 f1 f2 f3 f4
    have hca := rcount_spec a (by unfold I64; omega)
    have hcb := rcount_spec b (by unfold I64; omega)
    have hcc := rcount_spec (c.length : Int) (by unfold I64; omega)
    have hpc : posN (c.length : Int) = c.length := by unfold posN; omega
    rw [hpc] at hcc
    have hfb : fnB ⟨a, b, c⟩ = numB (posN a) ++ (numB (posN b) ++ (numB c.length ++ codeB c)) := rfl
    rw [hfb] at hnx
    have hnx2 : numB l.length ++ fnsB (l.take i) ++ (numB (posN a) ++ numB (posN b) ++ numB c.length) ++ codeB c = numB l.length ++ fnsB (l.take (i + 1)) := by rw [hnx]; simp
    have la := numB_len10 (n := posN a) (by unfold posN; omega)
    have lb := numB_len10 (n := posN b) (by unfold posN; omega)
    have lc := numB_len10 (n := c.length) (by omega)
    have ll := numB_len10 (n := l.length) (by omega)
    have lf : (fnsB (l.take i)).length ≤ 50000 := by have := fnsB_le l i; have := fnsB_len h.2; omega
    have lB : (numB l.length ++ fnsB (l.take i) ++ (numB (posN a) ++ numB (posN b) ++ numB c.length)).length ≤ 60000 := by simp only [List.length_append]; omega
    have lcc := codeB_len f4
    generalize hB3 : numB l.length ++ fnsB (l.take i) ++ (numB (posN a) ++ numB (posN b) ++ numB c.length) = B3 at *
    skip
    refine run_ok 4000 _ _ _ _ ?_
    simp (maxSteps := 10000000) only [go_sem, hin, k0, k1, k2, s0, s1, s2, rfrows_len, rirows_len, Int.natCast_nonneg]
    refine sem_drawG l48_0_ok (by kernel_rfl) ?_
    intro KK hKK
    simp (maxSteps := 10000000) only [go_sem, l48_0, hin, k0, k1, k2, s0, s1, s2, rfrows_len, rirows_len, Int.natCast_nonneg]
    subst hKK
    simp (maxSteps := 10000000) only [go_sem, hin, k0, k1, k2, s0, s1, s2, rfrows_len, rirows_len, Int.natCast_nonneg]
    refine TriZ.of (((hca).embed [] rfl (by repeat' first | exact trivial | rfl | (simp only [go_sem]; done) | constructor) rfl (by first | rfl | simp only [go_sem]) rfl (by simp)).mono ?_)
    rintro _ _ ⟨_, _, ⟨rfl, rfl⟩, rfl, rfl⟩
    simp (maxSteps := 10000000) only [go_sem, hin, k0, k1, k2, s0, s1, s2, rfrows_len, rirows_len, Int.natCast_nonneg]
    refine TriZ.of (((hcb).embed [] rfl (by repeat' first | exact trivial | rfl | (simp only [go_sem]; done) | constructor) rfl (by first | rfl | simp only [go_sem]) rfl (by simp)).mono ?_)
    rintro _ _ ⟨_, _, ⟨rfl, rfl⟩, rfl, rfl⟩
    simp (maxSteps := 10000000) only [go_sem, hin, k0, k1, k2, s0, s1, s2, rfrows_len, rirows_len, Int.natCast_nonneg]
    refine ⟨by omega, ?_⟩
    refine TriZ.of (((hcc).embed [] rfl (by repeat' first | exact trivial | rfl | (simp only [go_sem]; done) | constructor) rfl (by first | rfl | simp only [go_sem]) rfl (by simp)).mono ?_)
    rintro _ _ ⟨_, _, ⟨rfl, rfl⟩, rfl, rfl⟩
    simp (maxSteps := 10000000) only [go_sem, hin, k0, k1, k2, s0, s1, s2, rfrows_len, rirows_len, Int.natCast_nonneg]
    refine ⟨fun h => h, by simp only [List.length_append]; omega, by simp only [List.length_append] at lB ⊢; omega, ?_⟩
    refine sem_rounds (fun k : Nat => k ≤ c.length) (fun k => [(3, .str (B3 ++ codeB (c.take k))), (11, .vsl 3 (rfrows l) false), (12, .int .i64 l.length), (13, .int .i64 (i : Nat)), (32, .vsl 2 (rirows c) false), (33, .int .i64 c.length), (34, .int .i64 (k : Nat))])
      (fun k => []) (fun k => c.length - k) 0 [] (Nat.zero_le _) ?_ ?_
    · have e0 : codeB (c.take 0) = [] := by simp [codeB]
      have e1 : codeB [] = [] := rfl
      simp only [Emb, go_sem, hB3, e0, e1, rirows_len, List.append_nil]
    intro k hk
    by_cases hlk : k < c.length
    · have hink : (k : Int) < (c.length : Int) := by omega
      have g0 := rirows_r0 hlk; have g1 := rirows_r1 hlk
      have e0 := rirows_h0 hlk; have e1 := rirows_h1 hlk
      have hcx := codeB_take hlk
      have lk := codeB_le c k
      have lk2 := codeB_le c (k + 1)
      have ln := numB_len10 (n := c[k].1.toNat) (by have := f4 _ (List.getElem_mem hlk); unfold InsR at this; omega)
      obtain ⟨x1, x2, x3, x4⟩ := f4 _ (List.getElem_mem hlk)
      generalize c[k] = x at *
      obtain ⟨o, ar⟩ := x
      simp only at g0 g1 x1 x2 x3 x4 ln
      have hcv : iwrap .u64 o = ((o.toNat : Nat) : Int) := by rw [iwrap_u64]; omega
      have hn := rNum_spec o.toNat (by omega)
      have hh := rhasArg_spec o
      have hri := rint_spec ar x3
      have hxb : insB (o, ar) = numB o.toNat ++ if hasArg o then numB (zg ar) else [] := rfl
      rw [hxb] at hcx
      cases ha : hasArg o
      · rw [ha] at hh hcx
        have hnk : B3 ++ codeB (c.take k) ++ numB o.toNat = B3 ++ codeB (c.take (k + 1)) := by rw [hcx]; simp
        skip
        refine run_ok 4000 _ _ _ _ ?_
        simp (maxSteps := 10000000) only [go_sem, hink, g0, g1, e0, e1, hcv, hnk, rirows_len, Int.natCast_nonneg, inc64 (show k < 1000000000000 by omega)]
        refine sem_call rfl rfl (((hn).embed [] rfl trivial rfl rfl rfl (by simp)).mono ?_)
        rintro _ _ ⟨_, _, ⟨rfl, rfl⟩, rfl, rfl⟩
        refine run_ok 4000 _ _ _ _ ?_
        simp (maxSteps := 10000000) only [go_sem, hink, g0, g1, e0, e1, hcv, hnk, rirows_len, Int.natCast_nonneg, inc64 (show k < 1000000000000 by omega)]
        refine ⟨by simp only [List.length_append]; omega, ?_⟩
        refine sem_call rfl rfl (((hh).embed [] rfl trivial rfl rfl rfl (by simp)).mono ?_)
        rintro _ _ ⟨_, _, ⟨rfl, rfl⟩, rfl, rfl⟩
        refine run_ok 4000 _ _ _ _ ?_
        simp (maxSteps := 10000000) only [go_sem, hink, g0, g1, e0, e1, hcv, hnk, rirows_len, Int.natCast_nonneg, inc64 (show k < 1000000000000 by omega)]
        refine ⟨k + 1, by omega, hlk, [], ?_⟩
        simp only [Emb, go_sem]
      · rw [ha] at hh hcx
        simp only [if_true] at hcx
        have lz := numB_len10 (zg_lt x3)
        have hnk : B3 ++ codeB (c.take k) ++ numB o.toNat ++ numB (zg ar) = B3 ++ codeB (c.take (k + 1)) := by rw [hcx]; simp
        skip
        refine run_ok 4000 _ _ _ _ ?_
        simp (maxSteps := 10000000) only [go_sem, hink, g0, g1, e0, e1, hcv, hnk, rirows_len, Int.natCast_nonneg, inc64 (show k < 1000000000000 by omega)]
        refine sem_call rfl rfl (((hn).embed [] rfl trivial rfl rfl rfl (by simp)).mono ?_)
        rintro _ _ ⟨_, _, ⟨rfl, rfl⟩, rfl, rfl⟩
        refine run_ok 4000 _ _ _ _ ?_
        simp (maxSteps := 10000000) only [go_sem, hink, g0, g1, e0, e1, hcv, hnk, rirows_len, Int.natCast_nonneg, inc64 (show k < 1000000000000 by omega)]
        refine ⟨by simp only [List.length_append]; omega, ?_⟩
        refine sem_call rfl rfl (((hh).embed [] rfl trivial rfl rfl rfl (by simp)).mono ?_)
        rintro _ _ ⟨_, _, ⟨rfl, rfl⟩, rfl, rfl⟩
        refine run_ok 4000 _ _ _ _ ?_
        simp (maxSteps := 10000000) only [go_sem, hink, g0, g1, e0, e1, hcv, hnk, rirows_len, Int.natCast_nonneg, inc64 (show k < 1000000000000 by omega)]
        refine sem_call rfl rfl (((hri).embed [] rfl trivial rfl rfl rfl (by simp)).mono ?_)
        rintro _ _ ⟨_, _, ⟨rfl, rfl⟩, rfl, rfl⟩
        refine run_ok 4000 _ _ _ _ ?_
        simp (maxSteps := 10000000) only [go_sem, hink, g0, g1, e0, e1, hcv, hnk, rirows_len, Int.natCast_nonneg, inc64 (show k < 1000000000000 by omega)]
        refine ⟨by simp only [List.length_append]; omega, ?_⟩
        refine ⟨k + 1, by omega, hlk, [], ?_⟩
        simp only [Emb, go_sem]
    · have hgk : ¬ (k : Int) < (c.length : Int) := by omega
      have htk : c.take k = c := List.take_of_length_le (by omega)
      rw [htk, hnx2]
      skip
      refine run_ok 4000 _ _ _ _ ?_
      simp (maxSteps := 10000000) only [go_sem, hgk, inc64 (show i < 1000000000000 by omega)]
      refine run_ok 4000 _ _ _ _ ?_
      simp (maxSteps := 10000000) only [go_sem, hgk, inc64 (show i < 1000000000000 by omega)]
      refine ⟨i + 1, by omega, hlt, [], ?_⟩
      simp only [Emb, go_sem]
  · have hge : ¬ (i : Int) < (l.length : Int) := by omega
    have ht : l.take i = l := List.take_of_length_le (by omega)
    skip
    refine run_ok 4000 _ _ _ _ ?_
    simp (maxSteps := 10000000) only [go_sem, hge, ht]
    refine run_ok 4000 _ _ _ _ ?_
    simp (maxSteps := 10000000) only [go_sem, hge, ht]
    refine ⟨_, _, .sub [] ?_ .done, rfl, rfl⟩
    simp only [EmbV, go_sem, imgB, ht]
theorem ins_rows {xs : List (List AV)} (h : ∀ x ∈ xs, HasL [.int .u8, .int .i64] x) : ∃ l : List Ins, xs = irows l ∧ ∀ x ∈ l, InsOk x := by
  induction xs with
  | nil => exact ⟨[], rfl, by simp⟩
  | cons x xs ih =>
    obtain ⟨l, rfl, hl⟩ := ih fun y hy => h y (by simp [hy])
    have hx := h x (by simp)
    simp only [HasL, Has] at hx
    obtain ⟨_, _, rfl, ⟨a, rfl, ha⟩, _, _, rfl, ⟨b, rfl, hb⟩, rfl⟩ := hx
    refine ⟨(a, b) :: l, rfl, fun m hm => ?_⟩
    rcases List.mem_cons.1 hm with rfl | hm
    · simp [Lit.wf, IntKind.min, IntKind.max, IntKind.bits, IntKind.signed] at ha hb
      unfold InsOk I64
      simp only
      omega
    · exact hl m hm
theorem fn_rows {xs : List (List AV)} (h : ∀ x ∈ xs, HasL [.int .i64, .int .i64, .sl [.int .u8, .int .i64]] x) : ∃ l : List Fn, xs = frows l ∧ ∀ f ∈ l, ∀ x ∈ f.code, InsOk x := by
  induction xs with
  | nil => exact ⟨[], rfl, by simp⟩
  | cons x xs ih =>
    obtain ⟨l, rfl, hl⟩ := ih fun y hy => h y (by simp [hy])
    have hx := h x (by simp)
    simp only [HasL, Has] at hx
    obtain ⟨_, _, rfl, ⟨a, rfl, ha⟩, _, _, rfl, ⟨b, rfl, hb⟩, _, _, rfl, ⟨ys, rfl, hyl, hys⟩, rfl⟩ := hx
    obtain ⟨c, rfl, hc⟩ := ins_rows hys
    refine ⟨⟨a, b, c⟩ :: l, rfl, fun m hm => ?_⟩
    rcases List.mem_cons.1 hm with rfl | hm
    · exact hc
    · exact hl m hm
abbrev shI : List Sh := [.sl [.int .i64, .int .i64, .sl [.int .u8, .int .i64]]]
theorem img_of {bs : List AV} (h : HasL shI bs) : ∃ l : List Fn, bs = [.vsl 3 (frows l) false] ∧ l.length ≤ 9223372036854775807 ∧ ∀ f ∈ l, ∀ x ∈ f.code, InsOk x := by
  simp only [shI, HasL, Has] at h
  obtain ⟨_, _, rfl, ⟨xs, rfl, hxl, hx⟩, rfl⟩ := h
  obtain ⟨l, rfl, hl⟩ := fn_rows hx
  exact ⟨l, rfl, by rw [frows_len] at hxl; exact hxl, hl⟩
theorem sizeF_take {l : List Fn} {i : Nat} (h : i < l.length) : sizeF (l.take (i + 1)) = sizeF (l.take i) + l[i].code.length := by
  unfold sizeF; rw [List.take_succ_eq_append_getElem h, List.map_append, List.sum_append]; simp
theorem sizeF_le {l : List Fn} (h : ∀ f ∈ l, f.code.length ≤ 10000) : ∀ i, sizeF (l.take i) ≤ 10000 * i
  | 0 => by simp [sizeF]
  | i + 1 => by
    have ih := sizeF_le h i
    by_cases hi : i < l.length
    · rw [sizeF_take hi]; have := h _ (List.getElem_mem hi); omega
    · rw [List.take_of_length_le (by omega)] at *; omega
set_option maxHeartbeats 1000000 in
theorem codeTexts_spec (bs : List AV) (hb : HasL shI bs) : Tri Try.prog 10 [.agg bs] [] (fun v m => v = .bool true) := by
  obtain ⟨l0, rfl, hl0, hok⟩ := img_of hb
  have ht0 := tidy_spec l0 (by omega) (fun f hf x hx => by obtain ⟨a, b, _⟩ := hok f hf x hx; omega)
  have hI := tidy_ok hok
  generalize tidyL l0 = l at *
  have h16 := hI.1
  have htx := text_spec l (by omega) hI.ok (by have := imgB_len hI; omega) hI.len
  have hpa := parse_spec (imgB l)
  have hpe := parseF_put hI []
  rw [List.append_nil, if_pos rfl] at hpe
  rw [hpe] at hpa
  have hto := told_spec l (by omega) hI.op hI.len
  have hrt := rtext_spec l hI
  have hsa := same_spec l (by omega) hI.op hI.len
  have hsz := size_spec l (by omega) hI.len
  skip
  refine (Tri.asB (Tri.enter (rl := r10) (code := c10) (by kernel_rfl) Try.func10 rfl c10_ok (by kernel_rfl) (by kernel_rfl) ?_))
  refine run_ok 4000 _ _ _ _ ?_
  simp (maxSteps := 10000000) only [go_sem, c10, r10, frows_len]
  refine sem_call rfl rfl (((ht0).embed [] rfl trivial rfl rfl rfl (by simp)).mono ?_)
  rintro _ _ ⟨_, _, ⟨rfl, rfl⟩, rfl, rfl⟩
  refine run_ok 4000 _ _ _ _ ?_
  simp (maxSteps := 10000000) only [go_sem, frows_len]
  refine sem_call rfl rfl (((awake03_spec).embed [] rfl trivial rfl rfl rfl (by simp)).mono ?_)
  rintro _ _ ⟨_, _, ⟨rfl, rfl⟩, rfl, rfl⟩
  refine run_ok 4000 _ _ _ _ ?_
  simp (maxSteps := 10000000) only [go_sem, frows_len]
  refine sem_rounds (fun i : Nat => i ≤ l.length) (fun i => [(1, .pbox 0 0), (3, .int .i64 (sizeF (l.take i) : Nat)), (13, .vsl 3 (frows l) false), (14, .int .i64 l.length), (15, .int .i64 (i : Nat))])
    (fun i => [.box [.vsl 3 (frows l) false]]) (fun i => l.length - i) 0 [0] (Nat.zero_le _) ?_ ?_
  · have e0 : sizeF (l.take 0) = 0 := by simp [sizeF]
    have e1 : sizeF [] = 0 := rfl
    simp only [Emb, go_sem, e0, e1, frows_len]
  intro i hi
  by_cases hlt : i < l.length
  · have hin : (i : Int) < (l.length : Int) := by omega
    have h0 := frows_h0 hlt; have h1 := frows_h1 hlt; have h2 := frows_h2 hlt
    have r2 := frows_r2 hlt
    have hst := sizeF_take hlt
    have hsl := sizeF_le hI.len i
    have hcl := hI.len _ (List.getElem_mem hlt)
    generalize l[i] = f at *
    have w1 : iwrap .i64 ((sizeF (l.take i) : Int) + (f.code.length : Int)) = (sizeF (l.take (i + 1)) : Int) := by rw [iwrap_i64_in (by omega)]; omega
    skip
    refine run_ok 4000 _ _ _ _ ?_
    simp (maxSteps := 10000000) only [go_sem, hin, h0, h1, h2, r2, w1, irows_len, frows_len, Int.natCast_nonneg, inc64 (show i < 1000000000000 by omega)]
    refine ⟨i + 1, by omega, hlt, [0], ?_⟩
    simp only [Emb, go_sem]
  · have hge : ¬ (i : Int) < (l.length : Int) := by omega
    have ht : l.take i = l := List.take_of_length_le (by omega)
    skip
    refine run_ok 4000 _ _ _ _ ?_
    simp (maxSteps := 10000000) only [go_sem, hge, ht, seqb_self]
    refine run_ok 4000 _ _ _ _ ?_
    simp (maxSteps := 10000000) only [go_sem, hge, ht, seqb_self]
    refine sem_call rfl rfl (((htx).embed [] rfl trivial rfl rfl rfl (by simp)).mono ?_)
    rintro _ _ ⟨_, _, ⟨rfl, rfl⟩, rfl, rfl⟩
    refine run_ok 4000 _ _ _ _ ?_
    simp (maxSteps := 10000000) only [go_sem, hge, ht, seqb_self]
    refine sem_call rfl rfl (((hpa).embed [] rfl trivial rfl rfl rfl (by simp)).mono ?_)
    rintro _ _ ⟨_, _, ⟨rfl, rfl⟩, rfl, rfl⟩
    refine run_ok 4000 _ _ _ _ ?_
    simp (maxSteps := 10000000) only [go_sem, hge, ht, seqb_self]
    refine sem_drawG l10_0_ok (by kernel_rfl) ?_
    intro KK hKK
    simp (maxSteps := 10000000) only [go_sem, l10_0, hge, ht, seqb_self]
    subst hKK
    simp (maxSteps := 10000000) only [go_sem, hge, ht, seqb_self]
    refine TriZ.of (((htx).embed [] rfl (by repeat' first | exact trivial | rfl | (simp only [go_sem]; done) | constructor) rfl (by first | rfl | simp only [go_sem]) rfl (by simp)).mono ?_)
    rintro _ _ ⟨_, _, ⟨rfl, rfl⟩, rfl, rfl⟩
    simp (maxSteps := 10000000) only [go_sem, hge, ht, seqb_self]
    refine TriZ.of (((hto).embed [] rfl (by repeat' first | exact trivial | rfl | (simp only [go_sem]; done) | constructor) rfl (by first | rfl | simp only [go_sem]) rfl (by simp)).mono ?_)
    rintro _ _ ⟨_, _, ⟨rfl, rfl⟩, rfl, rfl⟩
    simp (maxSteps := 10000000) only [go_sem, hge, ht, seqb_self]
    refine TriZ.of (((hrt).embed [] rfl (by repeat' first | exact trivial | rfl | (simp only [go_sem]; done) | constructor) rfl (by first | rfl | simp only [go_sem]) rfl (by simp)).mono ?_)
    rintro _ _ ⟨_, _, ⟨rfl, rfl⟩, rfl, rfl⟩
    simp (maxSteps := 10000000) only [go_sem, hge, ht, seqb_self]
    refine TriZ.of (((hto).embed [] rfl (by repeat' first | exact trivial | rfl | (simp only [go_sem]; done) | constructor) rfl (by first | rfl | simp only [go_sem]) rfl (by simp)).mono ?_)
    rintro _ _ ⟨_, _, ⟨rfl, rfl⟩, rfl, rfl⟩
    simp (maxSteps := 10000000) only [go_sem, hge, ht, seqb_self]
    refine TriZ.of (((hsa).embed [] rfl (by repeat' first | exact trivial | rfl | (simp only [go_sem]; done) | constructor) rfl (by first | rfl | simp only [go_sem]) rfl (by simp)).mono ?_)
    rintro _ _ ⟨_, _, ⟨rfl, rfl⟩, rfl, rfl⟩
    simp (maxSteps := 10000000) only [go_sem, hge, ht, seqb_self]
    refine TriZ.of (((hsz).embed [] rfl (by repeat' first | exact trivial | rfl | (simp only [go_sem]; done) | constructor) rfl (by first | rfl | simp only [go_sem]) rfl (by simp)).mono ?_)
    rintro _ _ ⟨_, _, ⟨rfl, rfl⟩, rfl, rfl⟩
    simp (maxSteps := 10000000) only [go_sem, hge, ht, seqb_self]
theorem codeCut_spec (bs : List AV) (hb : HasL shI bs) (n : Int) (hn : (Lit.int .i64 n).wf = true) : Tri Try.prog 12 [.agg bs, .int .i64 n] [] (fun v m => v = .bool true) := by
  obtain ⟨l0, rfl, hl0, hok⟩ := img_of hb
  have ht0 := tidy_spec l0 (by omega) (fun f hf x hx => by obtain ⟨a, b, _⟩ := hok f hf x hx; omega)
  have hI := tidy_ok hok
  generalize tidyL l0 = l at *
  have h16 := hI.1
  have hle := imgB_len hI
  have htx := text_spec l (by omega) hI.ok (by omega) hI.len
  have hpos : 0 < (imgB l).length := by
    unfold imgB
    rw [List.length_append]
    have : 0 < (numB l.length).length := by rw [numB]; split <;> simp
    omega
  obtain ⟨k, hk, hk2⟩ := and_i64 n (k := 65535) (by decide)
  have hk : ibits .and .i64 n 65535 = (k : Int) := hk
  have hp2 := parse_spec (imgB l ++ [0])
  have hpe := parseF_put hI [0]
  rw [if_neg (by simp)] at hpe
  rw [hpe] at hp2
  have hmd : (k : Int).tmod ((imgB l).length : Int) = ((k % (imgB l).length : Nat) : Int) := by rw [Int.natCast_emod, Int.tmod_eq_emod_of_nonneg (by omega)]
  have hq : k % (imgB l).length < (imgB l).length := Nat.mod_lt _ hpos
  generalize k % (imgB l).length = q at *
  have hp1 := parse_spec ((imgB l).take q)
  have hpc := parseF_cut hI (p := (imgB l).take q) ⟨(imgB l).drop q, by intro h; have := congrArg List.length h; rw [List.length_drop] at this; simp at this; omega, (List.take_append_drop q (imgB l)).symm⟩
  have hbad := parseF_bad (s := (imgB l).take q) (by rw [hpc]; decide)
  rw [hpc, hbad] at hp1
  generalize imgB l = B at *
  have z0 : ¬ (B.length : Int) = 0 := by omega
  have z1 : (q : Int) ≤ (B.length : Int) := by omega
  skip
  refine (Tri.asB (Tri.enter (rl := r12) (code := c12) (by kernel_rfl) Try.func12 rfl c12_ok (by kernel_rfl) (by kernel_rfl) ?_))
  refine run_ok 4000 _ _ _ _ ?_
  simp (maxSteps := 10000000) only [go_sem, c12, r12, hk, hmd, z0, z1, Int.natCast_nonneg]
  refine sem_call rfl rfl (((awake03_spec).embed [] rfl trivial rfl rfl rfl (by simp)).mono ?_)
  rintro _ _ ⟨_, _, ⟨rfl, rfl⟩, rfl, rfl⟩
  refine run_ok 4000 _ _ _ _ ?_
  simp (maxSteps := 10000000) only [go_sem, hk, hmd, z0, z1, Int.natCast_nonneg]
  refine sem_call rfl rfl (((ht0).embed [] rfl trivial rfl rfl rfl (by simp)).mono ?_)
  rintro _ _ ⟨_, _, ⟨rfl, rfl⟩, rfl, rfl⟩
  refine run_ok 4000 _ _ _ _ ?_
  simp (maxSteps := 10000000) only [go_sem, hk, hmd, z0, z1, Int.natCast_nonneg]
  refine sem_call rfl rfl (((htx).embed [] rfl trivial rfl rfl rfl (by simp)).mono ?_)
  rintro _ _ ⟨_, _, ⟨rfl, rfl⟩, rfl, rfl⟩
  refine run_ok 4000 _ _ _ _ ?_
  simp (maxSteps := 10000000) only [go_sem, hk, hmd, z0, z1, Int.natCast_nonneg]
  refine sem_call rfl rfl (((hp1).embed [] rfl trivial rfl rfl rfl (by simp)).mono ?_)
  rintro _ _ ⟨_, _, ⟨rfl, rfl⟩, rfl, rfl⟩
  refine run_ok 4000 _ _ _ _ ?_
  simp (maxSteps := 10000000) only [go_sem, hk, hmd, z0, z1, Int.natCast_nonneg]
  refine ⟨by omega, ?_⟩
  refine sem_call rfl rfl (((hp2).embed [] rfl trivial rfl rfl rfl (by simp)).mono ?_)
  rintro _ _ ⟨_, _, ⟨rfl, rfl⟩, rfl, rfl⟩
  refine run_ok 4000 _ _ _ _ ?_
  simp (maxSteps := 10000000) only [go_sem, hk, hmd, z0, z1, Int.natCast_nonneg]
end Go.AEX

/- CodeReads: the law's evaluation. -/
namespace Go.AEX
open Go Go.AE Go.Proofs
set_option maxRecDepth 100000
set_option linter.unusedVariables false
set_option linter.unusedSimpArgs false

theorem codeReads_spec (s : List UInt8) (hs : s.length ≤ 140737488351232) : Tri Try.prog 11 [.str s] [] (fun v m => v = .bool true) := by
  have hcut := cut_spec s 300 (by decide)
  have hp := parse_spec (s.take 300)
  have hr := rparse_spec (s.take 300)
  by_cases h0 : (parseF (s.take 300)).2 = 0
  · obtain ⟨g1, hI⟩ := parseF_get h0
    have h16 := hI.1
    have hsa := same_spec (parseF (s.take 300)).1 (by omega) hI.op hI.len
    have htx := text_spec (parseF (s.take 300)).1 (by omega) hI.ok (by have := imgB_len hI; omega) hI.len
    rw [← g1] at htx
    rw [h0] at hp hr
    generalize (parseF (s.take 300)).1 = l at *
    skip
    refine (Tri.asB (Tri.enter (rl := r11) (code := c11) (by kernel_rfl) Try.func11 rfl c11_ok (by kernel_rfl) (by kernel_rfl) ?_))
    refine run_ok 4000 _ _ _ _ ?_
    simp (maxSteps := 10000000) only [go_sem, c11, r11, seqb_self]
    refine sem_call rfl rfl (((hcut).embed [] rfl trivial rfl rfl rfl (by simp)).mono ?_)
    rintro _ _ ⟨_, _, ⟨rfl, rfl⟩, rfl, rfl⟩
    refine run_ok 4000 _ _ _ _ ?_
    simp (maxSteps := 10000000) only [go_sem, seqb_self]
    refine sem_call rfl rfl (((hp).embed [] rfl trivial rfl rfl rfl (by simp)).mono ?_)
    rintro _ _ ⟨_, _, ⟨rfl, rfl⟩, rfl, rfl⟩
    refine run_ok 4000 _ _ _ _ ?_
    simp (maxSteps := 10000000) only [go_sem, seqb_self]
    refine sem_call rfl rfl (((hr).embed [] rfl trivial rfl rfl rfl (by simp)).mono ?_)
    rintro _ _ ⟨_, _, ⟨rfl, rfl⟩, rfl, rfl⟩
    refine run_ok 4000 _ _ _ _ ?_
    simp (maxSteps := 10000000) only [go_sem, seqb_self]
    refine sem_call rfl rfl (((awake03_spec).embed [] rfl trivial rfl rfl rfl (by simp)).mono ?_)
    rintro _ _ ⟨_, _, ⟨rfl, rfl⟩, rfl, rfl⟩
    refine run_ok 4000 _ _ _ _ ?_
    simp (maxSteps := 10000000) only [go_sem, seqb_self]
    refine sem_call rfl rfl (((hsa).embed [] rfl trivial rfl rfl rfl (by simp)).mono ?_)
    rintro _ _ ⟨_, _, ⟨rfl, rfl⟩, rfl, rfl⟩
    refine run_ok 4000 _ _ _ _ ?_
    simp (maxSteps := 10000000) only [go_sem, seqb_self]
    refine sem_call rfl rfl (((htx).embed [] rfl trivial rfl rfl rfl (by simp)).mono ?_)
    rintro _ _ ⟨_, _, ⟨rfl, rfl⟩, rfl, rfl⟩
    refine run_ok 4000 _ _ _ _ ?_
    simp (maxSteps := 10000000) only [go_sem, seqb_self]
  · have hb := parseF_bad h0
    rw [hb] at hp hr
    have hsa := same_spec [] (by simp) (by simp) (by simp)
    generalize (parseF (s.take 300)).2 = e at *
    have q0 : (e != 0) = true := by simpa using h0
    skip
    refine (Tri.asB (Tri.enter (rl := r11) (code := c11) (by kernel_rfl) Try.func11 rfl c11_ok (by kernel_rfl) (by kernel_rfl) ?_))
    refine run_ok 4000 _ _ _ _ ?_
    simp (maxSteps := 10000000) only [go_sem, c11, r11, q0]
    refine sem_call rfl rfl (((hcut).embed [] rfl trivial rfl rfl rfl (by simp)).mono ?_)
    rintro _ _ ⟨_, _, ⟨rfl, rfl⟩, rfl, rfl⟩
    refine run_ok 4000 _ _ _ _ ?_
    simp (maxSteps := 10000000) only [go_sem, q0]
    refine sem_call rfl rfl (((hp).embed [] rfl trivial rfl rfl rfl (by simp)).mono ?_)
    rintro _ _ ⟨_, _, ⟨rfl, rfl⟩, rfl, rfl⟩
    refine run_ok 4000 _ _ _ _ ?_
    simp (maxSteps := 10000000) only [go_sem, q0]
    refine sem_call rfl rfl (((hr).embed [] rfl trivial rfl rfl rfl (by simp)).mono ?_)
    rintro _ _ ⟨_, _, ⟨rfl, rfl⟩, rfl, rfl⟩
    refine run_ok 4000 _ _ _ _ ?_
    simp (maxSteps := 10000000) only [go_sem, q0]
    refine sem_call rfl rfl (((awake03_spec).embed [] rfl trivial rfl rfl rfl (by simp)).mono ?_)
    rintro _ _ ⟨_, _, ⟨rfl, rfl⟩, rfl, rfl⟩
    refine run_ok 4000 _ _ _ _ ?_
    simp (maxSteps := 10000000) only [go_sem, q0]
    refine sem_call rfl rfl (((hsa).embed [] rfl trivial rfl rfl rfl (by simp)).mono ?_)
    rintro _ _ ⟨_, _, ⟨rfl, rfl⟩, rfl, rfl⟩
    refine run_ok 4000 _ _ _ _ ?_
    simp (maxSteps := 10000000) only [go_sem, q0]
end Go.AEX
