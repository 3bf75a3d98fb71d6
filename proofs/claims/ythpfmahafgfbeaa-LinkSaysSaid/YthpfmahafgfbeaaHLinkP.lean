/- HLink, HLinkJ, HLinkF, HLinkP in one. -/
import Derived.Test.YthpfmahafgfbeaaHTim
/- Link: what is simple. -/
namespace Go.AEX
open Go Go.AE Go.Proofs
set_option maxRecDepth 100000
set_option linter.unusedVariables false
set_option linter.unusedSimpArgs false

theorem lconfig_spec : Tri Try.prog 21 [] [] (fun v m => v = .agg [.int .i64 3, .int .i64 12] ∧ m = []) := by
  refine Tri.post ?_
  refine (Tri.enter (rl := r21) (code := c21) (by kernel_rfl) Try.func21 rfl c21_ok (by kernel_rfl) (by kernel_rfl) ?_)
  refine run_ok 4000 _ _ _ _ ?_
  simp (maxSteps := 10000000) only [go_sem, c21, r21]
  refine ⟨_, _, .sub [] ?_ .done, rfl, rfl⟩
  simp only [EmbV, go_sem]
theorem lnew_spec (cf cm : Int) (h : mayF cf cm = true) : Tri Try.prog 20 [.agg [.int .i64 cf, .int .i64 cm]] [] (fun v m => v = .tup [.pbox 0 0, .int .i64 0] ∧ m = [.box [.pbox 1 0, .pbox 2 0, .pbox 3 0, .str [], .int .i64 0, .nilsl, .bool false, .int .i64 0, .int .i64 0],
    .box [.int .u32 0, .nilsl], .box [.int .u32 0, .map 4], .box [.int .i64 cf, .int .i64 cm, .nilsl], .map (me [])]) := by
  refine Tri.post ?_
  have ht := tnew_spec cf cm h
  have hb := begin_spec 0
  have he := expect_spec 0
  refine (Tri.enter (rl := r20) (code := c20) (by kernel_rfl) Try.func20 rfl c20_ok (by kernel_rfl) (by kernel_rfl) ?_)
  refine run_ok 4000 _ _ _ _ ?_
  simp (maxSteps := 10000000) only [go_sem, c20, r20]
  refine sem_call rfl rfl (((ht).embed [] rfl trivial rfl rfl rfl (by simp)).mono ?_)
  rintro _ _ ⟨_, _, ⟨rfl, rfl⟩, rfl, rfl⟩
  refine run_ok 4000 _ _ _ _ ?_
  simp (maxSteps := 10000000) only [go_sem]
  refine sem_call rfl rfl (((hb).embed [] rfl trivial rfl rfl rfl (by simp)).mono ?_)
  rintro _ _ ⟨_, _, ⟨rfl, rfl⟩, rfl, rfl⟩
  refine run_ok 4000 _ _ _ _ ?_
  simp (maxSteps := 10000000) only [go_sem]
  refine sem_call rfl rfl (((he).embed [] rfl trivial rfl rfl rfl (by simp)).mono ?_)
  rintro _ _ ⟨_, _, ⟨rfl, rfl⟩, rfl, rfl⟩
  refine run_ok 4000 _ _ _ _ ?_
  simp (maxSteps := 10000000) only [go_sem]
  refine ⟨_, _, .sub [5, 2, 3, 1, 4] ?_ .done, rfl, rfl⟩
  simp only [EmbV, go_sem]
structure LS where
  cf : Int
  cm : Int
  on : Int
  ol : List Itm
  inx : Int
  im : Ent
  tl : List TE
  js : List UInt8
  jn : Nat
  ws : List Part
  tell : Bool
  bad : Int
  car : Int
abbrev lkB (s : LS) : Blk := .box [.pbox 1 0, .pbox 2 0, .pbox 3 0, .str s.js, .int .i64 s.jn, .vsl 2 (prows s.ws) false, .bsym s.tell, .int .i64 s.bad, .int .i64 s.car]
abbrev lkM (s : LS) : Mem := [lkB s, .box [.int .u32 s.on, .sl 4 0 s.ol.length s.ol.length false], .box [.int .u32 s.inx, .map 5], .box [.int .i64 s.cf, .int .i64 s.cm, .sl 6 0 s.tl.length s.tl.length false],
  .row 2 (irows s.ol), .map (me s.im), .row 4 (terows s.tl)]
theorem lwaits_spec (s : LS) : Tri Try.prog 13 [.pbox 0 0] (lkM s) (fun v m => v = .int .i64 s.ws.length ∧ m = lkM s) := by
  refine Tri.post ?_
  skip
  refine (Tri.enter (rl := r13) (code := c13) (by kernel_rfl) Try.func13 rfl c13_ok (by kernel_rfl) (by kernel_rfl) ?_)
  refine run_ok 4000 _ _ _ _ ?_
  simp (maxSteps := 10000000) only [go_sem, c13, r13, prows_len, lkM, lkB]
  refine ⟨_, _, .sub [0, 1, 2, 3, 4, 5, 6] ?_ .done, rfl, rfl⟩
  simp only [EmbV, go_sem, lkM, lkB]
theorem lcounts_spec (s : LS) : Tri Try.prog 15 [.pbox 0 0] (lkM s) (fun v m => v = .tup [.int .i64 s.bad, .int .i64 s.car] ∧ m = lkM s) := by
  refine Tri.post ?_
  skip
  refine (Tri.enter (rl := r15) (code := c15) (by kernel_rfl) Try.func15 rfl c15_ok (by kernel_rfl) (by kernel_rfl) ?_)
  refine run_ok 4000 _ _ _ _ ?_
  simp (maxSteps := 10000000) only [go_sem, c15, r15, lkM, lkB]
  refine sem_drawG l15_0_ok (by kernel_rfl) ?_
  intro KK hKK
  simp (maxSteps := 10000000) only [go_sem, l15_0, lkM, lkB]
  subst hKK
  simp (maxSteps := 10000000) only [go_sem, lkM, lkB]
  refine ⟨_, _, .sub [0, 1, 2, 3, 4, 5, 6] ?_ .done, rfl, rfl⟩
  simp only [EmbV, go_sem, lkM, lkB]
theorem lidle_spec (s : LS) : Tri Try.prog 10 [.pbox 0 0] (lkM s) (fun v m => v = .bsym (decide (s.ws.length = 0 ∧ s.ol.length = 0)) ∧ m = lkM s) := by
  refine Tri.post ?_
  have ho := olen_spec s.on s.ol
  unfold outW at ho
  by_cases c : s.ws.length = 0
  · have c0 : ((s.ws.length : Int) == 0) = true := by simp; exact List.length_eq_zero_iff.1 c
    have hd : decide (s.ws.length = 0 ∧ s.ol.length = 0) = ((s.ol.length : Int) == 0) := by
      rw [Bool.eq_iff_iff]; simp [c]
    rw [hd]
    skip
    refine (Tri.enter (rl := r10) (code := c10) (by kernel_rfl) Try.func10 rfl c10_ok (by kernel_rfl) (by kernel_rfl) ?_)
    refine run_ok 4000 _ _ _ _ ?_
    simp (maxSteps := 10000000) only [go_sem, c10, r10, prows_len, lkM, lkB, c0]
    refine sem_call rfl rfl (((ho).embed [1, 4] rfl (by repeat' first | exact trivial | rfl | (simp only [go_sem]; done) | constructor) rfl (by first | rfl | simp only [go_sem]) rfl (by simp)).mono ?_)
    rintro _ _ ⟨_, _, ⟨rfl, rfl⟩, rfl, rfl⟩
    refine run_ok 4000 _ _ _ _ ?_
    simp (maxSteps := 10000000) only [go_sem, prows_len, lkM, lkB, c0]
    refine ⟨_, _, .sub [0, 1, 2, 3, 4, 5, 6] ?_ .done, rfl, rfl⟩
    simp only [EmbV, go_sem, lkM, lkB]
  · have c0 : ((s.ws.length : Int) == 0) = false := by simp; exact fun h => c (by simp [h])
    have hd : decide (s.ws.length = 0 ∧ s.ol.length = 0) = false := by simp [c]
    rw [hd]
    skip
    refine (Tri.enter (rl := r10) (code := c10) (by kernel_rfl) Try.func10 rfl c10_ok (by kernel_rfl) (by kernel_rfl) ?_)
    refine run_ok 4000 _ _ _ _ ?_
    simp (maxSteps := 10000000) only [go_sem, c10, r10, prows_len, lkM, lkB, c0]
    refine ⟨_, _, .like (Like.bsym false) (.sub [0, 1, 2, 3, 4, 5, 6] ?_ .done), rfl, rfl⟩
    simp only [EmbV, go_sem, lkM, lkB]
theorem prows_all (l : List Part) : sub (prows l) 0 l.length = prows l := by have := sub_all (prows l); rwa [prows_len] at this
theorem cutP_pos (t : List UInt8) : 0 < (cutP t).length := by unfold cutP; split <;> simp
theorem lsend_spec (s : LS) (t : List UInt8) (ht : t.length ≤ 65536) (hw : s.ws.length ≤ 100000) (hc : (cutP t).length ≤ 1000) : Tri Try.prog 14 [.pbox 0 0, .str t] (lkM s)
    (fun v m => v = .int .i64 (if s.ws.length + (cutP t).length ≤ 700 then 0 else 8) ∧ m = lkM (if s.ws.length + (cutP t).length ≤ 700 then { s with ws := s.ws ++ cutP t } else s)) := by
  refine Tri.post ?_
  have hf := fcut_spec t ht
  have hpos := cutP_pos t
  generalize cutP t = C at *
  have wl : iwrap .i64 ((s.ws.length : Int) + (C.length : Int)) = ((s.ws.length + C.length : Nat) : Int) := by rw [iwrap_i64_in (by omega)]; omega
  have hz : ((0 : Int) != 0) = false := rfl
  by_cases c : s.ws.length + C.length ≤ 700
  · rw [if_pos c, if_pos c]
    have c1 : ¬ ((s.ws.length + C.length : Nat) : Int) > 700 := by omega
    have hall := prows_all s.ws
    have hall2 := prows_all C
    have hall3 := prows_all (s.ws ++ C)
    rw [List.length_append] at hall3
    have hle : (s.ws.length : Int) ≤ (s.ws.length : Int) := Int.le_refl _
    skip
    refine (Tri.enter (rl := r14) (code := c14) (by kernel_rfl) Try.func14 rfl c14_ok (by kernel_rfl) (by kernel_rfl) ?_)
    refine run_ok 4000 _ _ _ _ ?_
    simp (maxSteps := 10000000) only [go_sem, c14, r14, prows_len, lkM, lkB, wl, hz, c1, hall, hall2, hpos, hle, Nat.sub_zero, Int.natCast_nonneg]
    refine sem_call rfl rfl (((hf).embed [] rfl trivial rfl rfl rfl (by simp)).mono ?_)
    rintro _ _ ⟨_, _, ⟨rfl, rfl⟩, rfl, rfl⟩
    refine run_ok 4000 _ _ _ _ ?_
    simp (maxSteps := 10000000) only [go_sem, prows_len, lkM, lkB, wl, hz, c1, hall, hall2, hpos, hle, Nat.sub_zero, Int.natCast_nonneg]
    refine sem_drawG l14_0_ok (by kernel_rfl) ?_
    intro KK hKK
    simp (maxSteps := 10000000) only [go_sem, l14_0, prows_len, lkM, lkB, wl, hz, c1, hall, hall2, hpos, hle, Nat.sub_zero, Int.natCast_nonneg]
    subst hKK
    simp (maxSteps := 10000000) only [go_sem, prows_len, lkM, lkB, wl, hz, c1, hall, hall2, hpos, hle, Nat.sub_zero, Int.natCast_nonneg]
    refine ⟨by unfold small; omega, _, _, .fz 7 rfl (by simp only [go_sem, List.length_append, Nat.le_refl]) (.sub [0, 1, 2, 3, 4, 5, 6] ?_ .done), rfl, rfl⟩
    simp only [EmbV, go_sem, lkM, lkB, hall3]
  · rw [if_neg c, if_neg c]
    have c1 : ((s.ws.length + C.length : Nat) : Int) > 700 := by omega
    skip
    refine (Tri.enter (rl := r14) (code := c14) (by kernel_rfl) Try.func14 rfl c14_ok (by kernel_rfl) (by kernel_rfl) ?_)
    refine run_ok 4000 _ _ _ _ ?_
    simp (maxSteps := 10000000) only [go_sem, c14, r14, prows_len, lkM, lkB, wl, hz, c1]
    refine sem_call rfl rfl (((hf).embed [] rfl trivial rfl rfl rfl (by simp)).mono ?_)
    rintro _ _ ⟨_, _, ⟨rfl, rfl⟩, rfl, rfl⟩
    refine run_ok 4000 _ _ _ _ ?_
    simp (maxSteps := 10000000) only [go_sem, prows_len, lkM, lkB, wl, hz, c1]
    refine ⟨_, _, .sub [0, 1, 2, 3, 4, 5, 6] ?_ .done, rfl, rfl⟩
    simp only [EmbV, go_sem, lkM, lkB]
def itB (x : Itm) : List UInt8 := numsB [x.1.toNat] ++ strsB [x.2]
theorem strsB_one_len (t : List UInt8) (h : t.length ≤ 10000) : (strsB [t]).length ≤ 10010 := by
  have := numB_len10 (n := t.length) (by omega)
  simp [strsB, strB]; omega
theorem numsB_one_len (n : Nat) (h : n < 18446744073709551616) : (numsB [n]).length ≤ 10 := by
  have := numsB_len [n] (by simpa using h)
  simpa using this
def itsB : List Itm → List UInt8
  | [] => []
  | x :: l => itB x ++ itsB l
theorem itsB_take {l : List Itm} : ∀ {k : Nat} (h : k < l.length), itsB (l.take (k + 1)) = itsB (l.take k) ++ itB l[k] := by
  induction l with
  | nil => intro k h; simp at h
  | cons x l ih =>
    intro k h
    cases k with
    | zero => simp [itsB]
    | succ k => simp only [List.take_succ_cons, itsB, List.getElem_cons_succ, List.append_assoc]; rw [ih (by simpa using h)]
def dgB (nx bits : Nat) (l : List Itm) : List UInt8 := sealB (((([] ++ numsB [nx, bits]) ++ numsB ([(l.length : Int)].map posN))) ++ itsB l)
set_option maxHeartbeats 4000000 in
theorem ldata_spec (s : LS) (l : List Itm) (tight : Bool) (hl : l.length ≤ 1) (hx : U32 s.inx) (ht : ∀ x ∈ l, U32 x.1 ∧ x.2.length ≤ 10000) : Tri Try.prog 42 [.pbox 0 0, .vsl 2 (irows l) tight] (lkM s)
    (fun v m => v = .str (dgB s.inx.toNat (bitsW s.inx s.im 32) l) ∧ m = lkM s) := by
  refine Tri.post ?_
  have ha := iack_spec s.inx s.im
  have hb := bitsW_lt s.inx s.im 32
  have w1 : iwrap .u64 s.inx = ((s.inx.toNat : Nat) : Int) := by unfold U32 at hx; rw [iwrap_u64]; omega
  have w2 : iwrap .u64 ((bitsW s.inx s.im 32 : Nat) : Int) = ((bitsW s.inx s.im 32 : Nat) : Int) := by rw [iwrap_u64]; omega
  skip
  refine (Tri.enter (rl := r42) (code := c42) (by kernel_rfl) Try.func42 rfl c42_ok (by kernel_rfl) (by kernel_rfl) ?_)
  refine run_ok 4000 _ _ _ _ ?_
  simp (maxSteps := 10000000) only [go_sem, c42, r42, irows_len, lkM, lkB, w1, w2]
  refine sem_nilbox 7 0 1 rfl rfl ?_
  simp (maxSteps := 10000000) only [go_sem, irows_len, lkM, lkB, w1, w2]
  refine sem_call rfl rfl (((ha).embed [2, 5] rfl (by repeat' first | exact trivial | rfl | (simp only [go_sem]; done) | constructor) rfl (by first | rfl | simp only [go_sem]) rfl (by simp)).mono ?_)
  rintro _ _ ⟨_, _, ⟨rfl, rfl⟩, rfl, rfl⟩
  refine run_ok 4000 _ _ _ _ ?_
  simp (maxSteps := 10000000) only [go_sem, irows_len, lkM, lkB, w1, w2]
  have hab : ∀ n ∈ [s.inx.toNat, bitsW s.inx s.im 32], n < 18446744073709551616 := by unfold U32 at hx; intro n hn; simp at hn; omega
  have hl1 := numsB_len _ hab
  have hl2 := numsB_one_len (posN (l.length : Int)) (by unfold posN; omega)
  simp only [List.length_cons, List.length_nil] at hl1
  have h1 := wNum_spec [s.inx.toNat, bitsW s.inx s.im 32] true [] hab (by simp)
  have h2 := ocount_spec [(l.length : Int)] true ([] ++ numsB [s.inx.toNat, bitsW s.inx s.im 32]) (by unfold I64; intro n hn; simp at hn; omega) (by simp only [List.nil_append, List.length_cons, List.length_nil]; omega)
  simp only [nv, List.map_cons, List.map_nil, outM, outM2, List.length_nil] at h1
  simp only [iv, List.map_cons, List.map_nil, outM, outM2] at h2
  refine sem_call rfl rfl (((h1).embed [7, 8] rfl (by repeat' first | exact trivial | rfl | (simp only [go_sem]; done) | constructor) rfl (by first | rfl | simp only [go_sem]) rfl (by simp)).mono ?_)
  rintro _ _ ⟨_, _, ⟨rfl, rfl⟩, rfl, rfl⟩
  refine run_ok 4000 _ _ _ _ ?_
  simp (maxSteps := 10000000) only [go_sem, irows_len, lkM, lkB, w1, w2]
  refine sem_call rfl rfl (((h2).embed [7, 10] rfl (by repeat' first | exact trivial | rfl | (simp only [go_sem]; done) | constructor) rfl (by first | rfl | simp only [go_sem]) rfl (by simp)).mono ?_)
  rintro _ _ ⟨_, _, ⟨rfl, rfl⟩, rfl, rfl⟩
  refine run_ok 4000 _ _ _ _ ?_
  simp (maxSteps := 10000000) only [go_sem, irows_len, lkM, lkB, w1, w2]
  have hdg : dgB s.inx.toNat (bitsW s.inx s.im 32) l = sealB ((numsB [s.inx.toNat, bitsW s.inx s.im 32] ++ numsB [posN (l.length : Int)]) ++ itsB l) := rfl
  rw [hdg]
  have hTl : (numsB [s.inx.toNat, bitsW s.inx s.im 32] ++ numsB [posN (l.length : Int)]).length ≤ 30 := by rw [List.length_append]; omega
  generalize numsB [s.inx.toNat, bitsW s.inx s.im 32] ++ numsB [posN (l.length : Int)] = T at *
  have hitl : ∀ k, k ≤ l.length → (itsB (l.take k)).length ≤ 10020 * k := by
    intro k hk
    match l, hl, hk with
    | [], _, hk => simp [itsB]
    | [x], _, hk =>
      cases k with
      | zero => simp [itsB]
      | succ k =>
        have : k = 0 := by simp at hk; omega
        subst this
        have h3 := ht x (by simp)
        have h4 := strsB_one_len x.2 h3.2
        have h5 := numsB_one_len x.1.toNat (by have := h3.1; unfold U32 at this; omega)
        simp [itsB, itB]; omega
  refine sem_rounds (fun k : Nat => k ≤ l.length)
    (fun k => [(5, .pbox 7 0), (26, .vsl 2 (irows l) tight), (27, .int .i64 l.length), (28, .int .i64 k)])
    (fun k => lkM s ++ [.box [.sl 8 0 (T ++ itsB (l.take k)).length (T ++ itsB (l.take k)).length false], .row 1 (AE.bytes (T ++ itsB (l.take k)))]) (fun k => l.length - k) 0 [0, 1, 2, 3, 4, 5, 6, 7, 11] (Nat.zero_le _) ?_ ?_
  · simp [Emb, go_sem, itsB]
  intro k hk
  by_cases hlt : k < l.length
  · have hin : (k : Int) < (l.length : Int) := by omega
    have hT2 := hitl k (by omega)
    have hkl : k = 0 := by omega
    have hx3 := ht _ (List.getElem_mem hlt)
    have hU := hx3.1
    unfold U32 at hU
    have w3 : iwrap .u64 l[k].1 = ((l[k].1.toNat : Nat) : Int) := by rw [iwrap_u64]; omega
    have hn1 := numsB_one_len l[k].1.toNat (by omega)
    have hn2 := strsB_one_len l[k].2 hx3.2
    have h5 := wNum_spec [l[k].1.toNat] true (T ++ itsB (l.take k)) (by intro n hn; simp at hn; omega) (by rw [List.length_append]; simp only [List.length_cons, List.length_nil]; omega)
    have h6 := ostr_spec [l[k].2] true (T ++ itsB (l.take k) ++ numsB [l[k].1.toNat]) (by simp) (by rw [List.length_append, List.length_append]; omega)
    have hnx : T ++ itsB (l.take k) ++ numsB [l[k].1.toNat] ++ strsB [l[k].2] = T ++ itsB (l.take (k + 1)) := by rw [itsB_take hlt, itB]; simp only [List.append_assoc]
    rw [hnx] at h6
    simp only [nv, List.map_cons, List.map_nil, outM, outM2] at h5
    simp only [sv, List.map_cons, List.map_nil, outM, outM2] at h6
    have r0 := i_rint hlt
    have r1 := i_rstr hlt
    generalize l[k] = x at *
    skip
    refine run_ok 4000 _ _ _ _ ?_
    simp (maxSteps := 10000000) only [go_sem, hin, r0, r1, w3, i_hasI hlt, i_hasS hlt, irows_len, Int.natCast_nonneg, List.cons_append, List.nil_append, inc64 (show k < 1000000000000 by omega)]
    refine sem_drawG l42_0_ok (by kernel_rfl) ?_
    intro KK hKK
    simp (maxSteps := 10000000) only [go_sem, l42_0, hin, r0, r1, w3, i_hasI hlt, i_hasS hlt, irows_len, Int.natCast_nonneg, List.cons_append, List.nil_append, inc64 (show k < 1000000000000 by omega)]
    subst hKK
    simp (maxSteps := 10000000) only [go_sem, hin, r0, r1, w3, i_hasI hlt, i_hasS hlt, irows_len, Int.natCast_nonneg, List.cons_append, List.nil_append, inc64 (show k < 1000000000000 by omega)]
    refine TriZ.of (((h5).embed [7, 8] rfl (by repeat' first | exact trivial | rfl | (simp only [go_sem]; done) | constructor) rfl (by first | rfl | simp only [go_sem]) rfl (by simp)).mono ?_)
    rintro _ _ ⟨_, _, ⟨rfl, rfl⟩, rfl, rfl⟩
    simp (maxSteps := 10000000) only [go_sem, hin, r0, r1, w3, i_hasI hlt, i_hasS hlt, irows_len, Int.natCast_nonneg, List.cons_append, List.nil_append, inc64 (show k < 1000000000000 by omega)]
    refine TriZ.of (((h6).embed [7, 10] rfl (by repeat' first | exact trivial | rfl | (simp only [go_sem]; done) | constructor) rfl (by first | rfl | simp only [go_sem]) rfl (by simp)).mono ?_)
    rintro _ _ ⟨_, _, ⟨rfl, rfl⟩, rfl, rfl⟩
    simp (maxSteps := 10000000) only [go_sem, hin, r0, r1, w3, i_hasI hlt, i_hasS hlt, irows_len, Int.natCast_nonneg, List.cons_append, List.nil_append, inc64 (show k < 1000000000000 by omega)]
    refine ⟨k + 1, by omega, hlt, [0, 1, 2, 3, 4, 5, 6, 7, 11], ?_⟩
    simp only [Emb, go_sem, List.cons_append, List.nil_append]
  · have hge : ¬ (k : Int) < (l.length : Int) := by omega
    have hke : k = l.length := by omega
    subst hke
    have hT2 := hitl l.length (Nat.le_refl _)
    rw [List.take_length] at hT2 ⊢
    have h3 := otext_spec (T ++ itsB l)
    have h4 := seal_spec (T ++ itsB l) (by rw [List.length_append]; omega)
    simp only [outM] at h3
    skip
    refine run_ok 4000 _ _ _ _ ?_
    simp (maxSteps := 10000000) only [go_sem, hge, List.cons_append, List.nil_append]
    refine run_ok 4000 _ _ _ _ ?_
    simp (maxSteps := 10000000) only [go_sem, hge, List.cons_append, List.nil_append]
    refine sem_call rfl rfl (((h3).embed [7, 8] rfl (by repeat' first | exact trivial | rfl | (simp only [go_sem]; done) | constructor) rfl (by first | rfl | simp only [go_sem]) rfl (by simp)).mono ?_)
    rintro _ _ ⟨_, _, ⟨rfl, rfl⟩, rfl, rfl⟩
    refine run_ok 4000 _ _ _ _ ?_
    simp (maxSteps := 10000000) only [go_sem, hge, List.cons_append, List.nil_append]
    refine sem_call rfl rfl (((h4).embed [] rfl trivial rfl rfl rfl (by simp)).mono ?_)
    rintro _ _ ⟨_, _, ⟨rfl, rfl⟩, rfl, rfl⟩
    refine run_ok 4000 _ _ _ _ ?_
    simp (maxSteps := 10000000) only [go_sem, hge, List.cons_append, List.nil_append]
    refine ⟨_, _, .sub [0, 1, 2, 3, 4, 5, 6] ?_ .done, rfl, rfl⟩
    simp only [EmbV, go_sem, lkM, lkB]
end Go.AEX

/- Link: its join. -/
namespace Go.AEX
open Go Go.AE Go.Proofs
set_option maxRecDepth 100000
set_option linter.unusedVariables false
set_option linter.unusedSimpArgs false

abbrev lkJ (w : LS) (s : List UInt8) (n : Nat) : Mem := [.box [.pbox 1 0, .pbox 2 0, .pbox 3 0, .str s, .int .i64 (n : Nat), .vsl 2 (prows w.ws) false, .bsym w.tell, .int .i64 w.bad, .int .i64 w.car], .gone, .gone, .gone]
theorem lput_spec (w : LS) (s : List UInt8) (n : Nat) (b : Bool) (t : List UInt8) (hs : s.length ≤ 1000000) (ht : t.length ≤ 1000000) (hn : n ≤ 1000000) :
    Tri Try.prog 87 [.pbox 0 3, .agg [.bsym b, .str t]] (lkJ w s n)
      (fun v m => v = .tup [.str (putV s b t).1, .bsym (putV s b t).2.1, .int .i64 (putV s b t).2.2] ∧ m = lkJ w (putS s n b t).1 (putS s n b t).2) := by
  have hw : iwrap .i64 ((s.length : Int) + (t.length : Int)) = ((s.length + t.length : Nat) : Int) := by rw [iwrap_i64_in (by omega)]; rfl
  refine Tri.post ?_
  unfold lkJ
  skip
  refine (Tri.enter (rl := r87) (code := c87) (by kernel_rfl) Try.func87 rfl c87_ok (by kernel_rfl) (by kernel_rfl) ?_)
  refine run_ok 4000 _ _ _ _ ?_
  simp (maxSteps := 10000000) only [go_sem, c87, r87, hw]
  refine sem_drawG l87_0_ok (by kernel_rfl) ?_
  intro KK hKK
  simp (maxSteps := 10000000) only [go_sem, l87_0, hw]
  subst hKK
  simp (maxSteps := 10000000) only [go_sem, hw]
  refine ⟨fun h => ?_, fun h1 => ⟨fun h => ?_, fun h2 => ?_⟩⟩
  · have hb : putBig s t = true := by simp [putBig]; omega
    refine ⟨_, _, .like (Like.tup3 (Like.refl _) (Like.bsym _) (Like.refl _)) (.sub [0, 1, 2, 3] ?_ .done), rfl, rfl⟩
    simp only [EmbV, go_sem]
    simp [putS, putV, hb, *]
  · have hb : putBig s t = true := by simp [putBig]; omega
    refine ⟨_, _, .like (Like.tup3 (Like.refl _) (Like.bsym _) (Like.refl _)) (.sub [0, 1, 2, 3] ?_ .done), rfl, rfl⟩
    simp only [EmbV, go_sem]
    simp [putS, putV, hb, *]
  · have hb : putBig s t = false := by simp [putBig]; omega
    refine sem_drawG l87_1_ok (by kernel_rfl) ?_
    intro KK hKK
    simp (maxSteps := 10000000) only [go_sem, l87_1, hw]
    subst hKK
    simp (maxSteps := 10000000) only [go_sem, hw]
    have hi := inc64 (show n < 1000000000000 by omega)
    refine ⟨by omega, fun h => ?_, fun h => ?_⟩
    · have hb2 : b = false := by simpa using h
      subst hb2
      simp only [hi]
      refine ⟨_, _, .like (Like.tup3 (Like.refl _) (Like.bsym _) (Like.refl _)) (.sub [0, 1, 2, 3] ?_ .done), rfl, rfl⟩
      simp only [EmbV, go_sem]
      simp [putS, putV, hb, *]
    · have hb2 : b = true := by simpa using h
      subst hb2
      refine ⟨_, _, .like (Like.tup3 (Like.refl _) (Like.bsym _) (Like.refl _)) (.sub [0, 1, 2, 3] ?_ .done), rfl, rfl⟩
      simp only [EmbV, go_sem]
      simp [putS, putV, hb]
theorem lall_spec (w : LS) (l : List Part) (tight : Bool) (s : List UInt8) (n : Nat) (hs : s.length ≤ 65536) (hn : n + l.length ≤ 900000) (hl : ∀ p ∈ l, p.2.length ≤ 1000000) :
    Tri Try.prog 62 [.pbox 0 3, .vsl 2 (prows l) tight] (lkJ w s n)
      (fun v m => v = .tup [.vsl 1 (sv (allJ s n l).1) false, .int .i64 (allJ s n l).2] ∧ m = lkJ w (allS s n l).1 (allS s n l).2) := by
  refine Tri.sub (Tri.fz 4 ?_)
  unfold lkJ
  refine (Tri.enter (rl := r62) (code := c62) (by kernel_rfl) Try.func62 rfl c62_ok (by kernel_rfl) (by kernel_rfl) ?_)
  refine run_ok 4000 _ _ _ _ ?_
  simp (maxSteps := 10000000) only [go_sem, c62, r62]
  refine sem_virt 6 1 rfl ?_
  simp only [go_sem]
  refine sem_rounds (fun x : Nat × List (List UInt8) × List UInt8 × Nat => x.1 ≤ l.length ∧ x.2.2.1.length ≤ 65536 ∧ x.2.2.2 ≤ n + x.1 ∧ x.2.1.length ≤ x.1 ∧ allJ s n l = (x.2.1 ++ (allJ x.2.2.1 x.2.2.2 (l.drop x.1)).1, (allJ x.2.2.1 x.2.2.2 (l.drop x.1)).2) ∧ allS s n l = allS x.2.2.1 x.2.2.2 (l.drop x.1))
    (fun x => [(0, .pbox 0 3), (12, .vsl 2 (prows l) tight), (13, .int .i64 l.length), (14, .int .i64 (x.1 : Nat)), (6, .sl 4 0 x.2.1.length x.2.1.length false)]) (fun x => lkJ w x.2.2.1 x.2.2.2 ++ [.row 1 (sv x.2.1)]) (fun x => l.length - x.1) (0, [], s, n) [0, 1, 2, 3, 4] ⟨Nat.zero_le _, hs, by simp, by simp, by simp, by simp⟩ ?_ ?_
  · simp [Emb, go_sem, lkJ, sv]
  rintro ⟨i, o, s', n'⟩ ⟨h1, h2, h3, h4, h5, h6⟩
  simp only at h1 h2 h3 h4 h5 h6
  skip
  refine run_ok 4000 _ _ _ _ ?_
  simp (maxSteps := 10000000) only [go_sem, lkJ, List.cons_append, List.nil_append]
  refine ⟨fun hlt => ?_, fun hge => ?_⟩
  · have hlt : i < l.length := by omega
    have hd : l.drop i = l[i] :: l.drop (i + 1) := List.drop_eq_getElem_cons hlt
    rw [hd] at h5 h6
    have hi := inc64 (show i < 1000000000000 by omega)
    have hin : (i : Int) < (l.length : Int) := by omega
    obtain ⟨q1, q2⟩ := putS_len s' n' l[i].1 l[i].2 h2 (by omega)
    skip
    simp (maxSteps := 10000000) only [go_sem, prows_rbool hlt, prows_rstr hlt, prows_hasB hlt, prows_hasS hlt, hin, Int.natCast_nonneg, hi]
    refine sem_call rfl rfl (((lput_spec w s' n' l[i].1 l[i].2 (by omega) (hl _ (List.getElem_mem hlt)) (by omega)).embed [0, 1, 2, 3] rfl (by repeat' first | exact trivial | rfl | (simp only [go_sem]; done) | constructor) rfl (by first | rfl | simp only [go_sem]) rfl (by simp)).mono ?_)
    rintro _ _ ⟨_, _, ⟨rfl, rfl⟩, rfl, rfl⟩
    refine run_ok 4000 _ _ _ _ ?_
    simp (maxSteps := 10000000) only [go_sem, prows_rbool hlt, prows_rstr hlt, prows_hasB hlt, prows_hasS hlt, hin, Int.natCast_nonneg, hi]
    simp only [allJ, allS] at h5 h6
    generalize putV s' l[i].1 l[i].2 = V at *
    generalize putS s' n' l[i].1 l[i].2 = S at *
    refine ⟨fun he => ?_, fun he => ⟨fun hb => ?_, fun hb => ?_⟩⟩
    · have he' : V.2.2 ≠ 0 := by simpa using he
      rw [if_pos he'] at h5 h6
      refine ⟨_, _, _, rfl, trivial, [0, 1, 2, 3], _, [_, _, _, _], ?_, rfl, rfl⟩
      simp only [EmbV, go_sem, h5, h6, List.append_nil]
    · have he' : ¬ V.2.2 ≠ 0 := by simpa using he
      rw [if_neg he'] at h5 h6
      rw [if_pos hb] at h5
      refine ⟨by unfold small; omega, (i + 1, o ++ [V.1], S.1, S.2), by simp only; omega, ⟨by simp only; omega, q1, by simp only; omega, by simp; omega, by simp only; rw [h5]; simp, by simp only; exact h6⟩, [0, 1, 2, 3, 6], ?_⟩
      simp only [Emb, go_sem, lkJ, List.cons_append, List.nil_append, svl_one]
      simp
    · have he' : ¬ V.2.2 ≠ 0 := by simpa using he
      rw [if_neg he'] at h5 h6
      rw [if_neg (by simp [hb])] at h5
      refine ⟨(i + 1, o, S.1, S.2), by simp only; omega, ⟨by simp only; omega, q1, by simp only; omega, by simp only; omega, by simp only; exact h5, by simp only; exact h6⟩, [0, 1, 2, 3, 4], ?_⟩
      simp only [Emb, go_sem, lkJ, List.cons_append, List.nil_append]
  · have hd : l.drop i = [] := List.drop_eq_nil_of_le (by omega)
    rw [hd] at h5 h6
    simp only [allJ, allS] at h5 h6
    skip
    refine run_ok 4000 _ _ _ _ ?_
    simp (maxSteps := 10000000) only [go_sem]
    refine ⟨_, _, _, rfl, by simp, [0, 1, 2, 3], _, [_, _, _, _], ?_, rfl, rfl⟩
    simp only [EmbV, go_sem, h5, h6, List.append_nil]
def takeF (s : LS) (t : List UInt8) : LS × List (List UInt8) :=
  if (parseP t).2 ≠ 0 then ({ s with bad := s.bad + 1 }, []) else
  if (allJ s.js s.jn [(parseP t).1]).2 ≠ 0 then ({ s with js := (allS s.js s.jn [(parseP t).1]).1, jn := (allS s.js s.jn [(parseP t).1]).2, bad := s.bad + 1 }, (allJ s.js s.jn [(parseP t).1]).1)
  else ({ s with js := (allS s.js s.jn [(parseP t).1]).1, jn := (allS s.js s.jn [(parseP t).1]).2 }, (allJ s.js s.jn [(parseP t).1]).1)
theorem ltake_spec (s : LS) (t : List UInt8) (ht : t.length ≤ 1000000) (hj : s.js.length ≤ 65536) (hn : s.jn ≤ 800000) (hb : 0 ≤ s.bad ∧ s.bad ≤ 1000000) (hp : (parseP t).1.2.length ≤ 1000000) :
    Tri Try.prog 33 [.pbox 0 0, .str t] (lkM s) (fun v m => v = .vsl 1 (sv (takeF s t).2) false ∧ m = lkM (takeF s t).1) := by
  refine Tri.post ?_
  have h1 : Tri Try.prog 61 [.str t] [] (fun v m => v = .tup [.agg [.bool (parseP t).1.1, .str (parseP t).1.2], .int .i64 (parseP t).2] ∧ m = []) := by
    refine Tri.like ((parse_spec t ht).mono ?_)
    rintro v m ⟨rfl, rfl⟩
    exact ⟨_, Like.tup2 (Like.agg2 (Like.bool _) (Like.refl _)) (Like.refl _), rfl, rfl⟩
  have h2 := lall_spec s [(parseP t).1] true s.js s.jn hj (by simp; omega) (by simpa using hp)
  have wb : iwrap .i64 (s.bad + 1) = s.bad + 1 := iwrap_i64_in (by omega)
  unfold takeF
  have hpr : prows [(parseP t).1] = [[.bool (parseP t).1.1, .str (parseP t).1.2]] := rfl
  rw [hpr] at h2
  simp only [lkJ] at h2
  by_cases c : (parseP t).2 = 0
  · rw [if_neg (by simpa using c)]
    have c0 : ((parseP t).2 != 0) = false := by simp [c]
    by_cases d : (allJ s.js s.jn [(parseP t).1]).2 = 0
    · rw [if_neg (by simpa using d)]
      have d0 : ((allJ s.js s.jn [(parseP t).1]).2 != 0) = false := by simp [d]
      skip
      refine (Tri.enter (rl := r33) (code := c33) (by kernel_rfl) Try.func33 rfl c33_ok (by kernel_rfl) (by kernel_rfl) ?_)
      refine run_ok 4000 _ _ _ _ ?_
      simp (maxSteps := 10000000) only [go_sem, c33, r33, c0, d0, wb, lkM, lkB]
      refine sem_call rfl rfl (((h1).embed [] rfl trivial rfl rfl rfl (by simp)).mono ?_)
      rintro _ _ ⟨_, _, ⟨rfl, rfl⟩, rfl, rfl⟩
      refine run_ok 4000 _ _ _ _ ?_
      simp (maxSteps := 10000000) only [go_sem, c0, d0, wb, lkM, lkB]
      refine sem_drawG l33_0_ok (by kernel_rfl) ?_
      intro KK hKK
      simp (maxSteps := 10000000) only [go_sem, l33_0, c0, d0, wb, lkM, lkB]
      subst hKK
      simp (maxSteps := 10000000) only [go_sem, c0, d0, wb, lkM, lkB]
      refine TriZ.of (((h2).embed [0, 1, 2, 3] rfl (by repeat' first | exact trivial | rfl | (simp only [go_sem]; done) | constructor) rfl (by first | rfl | simp only [go_sem]) rfl (by simp)).mono ?_)
      rintro _ _ ⟨_, _, ⟨rfl, rfl⟩, rfl, rfl⟩
      simp (maxSteps := 10000000) only [go_sem, c0, d0, wb, lkM, lkB]
      refine ⟨_, _, .sub [0, 1, 2, 3, 4, 5, 6] ?_ .done, rfl, rfl⟩
      simp only [EmbV, go_sem, lkM, lkB]
    · rw [if_pos (by simpa using d)]
      have d0 : ((allJ s.js s.jn [(parseP t).1]).2 != 0) = true := by simp [d]
      skip
      refine (Tri.enter (rl := r33) (code := c33) (by kernel_rfl) Try.func33 rfl c33_ok (by kernel_rfl) (by kernel_rfl) ?_)
      refine run_ok 4000 _ _ _ _ ?_
      simp (maxSteps := 10000000) only [go_sem, c33, r33, c0, d0, wb, lkM, lkB]
      refine sem_call rfl rfl (((h1).embed [] rfl trivial rfl rfl rfl (by simp)).mono ?_)
      rintro _ _ ⟨_, _, ⟨rfl, rfl⟩, rfl, rfl⟩
      refine run_ok 4000 _ _ _ _ ?_
      simp (maxSteps := 10000000) only [go_sem, c0, d0, wb, lkM, lkB]
      refine sem_drawG l33_0_ok (by kernel_rfl) ?_
      intro KK hKK
      simp (maxSteps := 10000000) only [go_sem, l33_0, c0, d0, wb, lkM, lkB]
      subst hKK
      simp (maxSteps := 10000000) only [go_sem, c0, d0, wb, lkM, lkB]
      refine TriZ.of (((h2).embed [0, 1, 2, 3] rfl (by repeat' first | exact trivial | rfl | (simp only [go_sem]; done) | constructor) rfl (by first | rfl | simp only [go_sem]) rfl (by simp)).mono ?_)
      rintro _ _ ⟨_, _, ⟨rfl, rfl⟩, rfl, rfl⟩
      simp (maxSteps := 10000000) only [go_sem, c0, d0, wb, lkM, lkB]
      refine ⟨_, _, .sub [0, 1, 2, 3, 4, 5, 6] ?_ .done, rfl, rfl⟩
      simp only [EmbV, go_sem, lkM, lkB]
  · rw [if_pos (by simpa using c)]
    have c0 : ((parseP t).2 != 0) = true := by simp [c]
    skip
    refine (Tri.enter (rl := r33) (code := c33) (by kernel_rfl) Try.func33 rfl c33_ok (by kernel_rfl) (by kernel_rfl) ?_)
    refine run_ok 4000 _ _ _ _ ?_
    simp (maxSteps := 10000000) only [go_sem, c33, r33, c0, wb, lkM, lkB]
    refine sem_call rfl rfl (((h1).embed [] rfl trivial rfl rfl rfl (by simp)).mono ?_)
    rintro _ _ ⟨_, _, ⟨rfl, rfl⟩, rfl, rfl⟩
    refine run_ok 4000 _ _ _ _ ?_
    simp (maxSteps := 10000000) only [go_sem, c0, wb, lkM, lkB]
    refine ⟨_, _, .like (Like.nilv 1 false) (.sub [0, 1, 2, 3, 4, 5, 6] ?_ .done), rfl, rfl⟩
    simp only [EmbV, go_sem, lkM, lkB]
end Go.AEX

/- Link: parts go into the window. -/
namespace Go.AEX
open Go Go.AE Go.Proofs
set_option maxRecDepth 100000
set_option linter.unusedVariables false
set_option linter.unusedSimpArgs false

def startF (cf now : Int) (tl : List TE) (n : Int) : List TE := if fdT tl n < 0 then tl ++ [⟨n, now + cf, cf, 0⟩] else tl
theorem startF_len (cf now : Int) (tl : List TE) (n : Int) : (startF cf now tl n).length ≤ tl.length + 1 := by unfold startF; split <;> simp
theorem lstart_spec (cf cm : Int) (hcf : 0 ≤ cf ∧ cf ≤ 10000000) (tl : List TE) (n now : Int) (hl : tl.length ≤ 100000) (hb : 0 ≤ now ∧ now ≤ 10000000) : Tri Try.prog 77 [.pbox 0 0, .int .u32 n, .int .i64 now] (tmM cf cm tl)
    (fun v q => v = .bool (decide (fdT tl n < 0)) ∧ q = tmM2 cf cm (startF cf now tl n)) := by
  unfold startF
  by_cases c : fdT tl n < 0
  · rw [if_pos c, decide_eq_true c]; exact tstart_new cf cm tl n now hl c (by omega)
  · rw [if_neg c, decide_eq_false c]; exact tstart_old cf cm tl n now hl (by omega)
structure FS where
  on : Int
  ol : List Itm
  tl : List TE
def fillF (cf now : Int) : List Part → FS → List Part × FS × List Itm
  | [], st => ([], st, [])
  | p :: ws, st => if roomW st.on st.ol then
      ((fillF cf now ws ⟨u32 (st.on + 1), st.ol ++ [(st.on, partB p)], startF cf now st.tl st.on⟩).1, (fillF cf now ws ⟨u32 (st.on + 1), st.ol ++ [(st.on, partB p)], startF cf now st.tl st.on⟩).2.1,
        (st.on, partB p) :: (fillF cf now ws ⟨u32 (st.on + 1), st.ol ++ [(st.on, partB p)], startF cf now st.tl st.on⟩).2.2)
    else (p :: ws, st, [])
structure FlI (cf now : Int) (R : List Part × FS × List Itm) (ws : List Part) (st : FS) (out : List Itm) : Prop where
  eq : R = ((fillF cf now ws st).1, (fillF cf now ws st).2.1, out ++ (fillF cf now ws st).2.2)
  u : U32 st.on
  l1 : st.ol.length + ws.length ≤ 90000
  l2 : st.tl.length + ws.length ≤ 90000
  l3 : out.length + ws.length ≤ 90000
  pt : ∀ p ∈ ws, p.2.length ≤ 100000
abbrev flM (s : LS) (ws : List Part) (st : FS) : Mem := [.box [.pbox 1 0, .pbox 2 0, .pbox 3 0, .str s.js, .int .i64 s.jn, .vsl 2 (prows ws) false, .bsym s.tell, .int .i64 s.bad, .int .i64 s.car],
  .box [.int .u32 st.on, .sl 7 0 st.ol.length st.ol.length false], .box [.int .u32 s.inx, .map 5], .box [.int .i64 s.cf, .int .i64 s.cm, .sl 8 0 st.tl.length st.tl.length false],
  .gone, .map (me s.im), .gone, .row 2 (irows st.ol), .row 4 (terows st.tl)]
set_option maxHeartbeats 4000000 in
theorem lfill_spec (s : LS) (now : Int) (hcf : 0 ≤ s.cf ∧ s.cf ≤ 10000000) (hu : U32 s.on) (h1 : s.ol.length + s.ws.length ≤ 90000) (h2 : s.tl.length + s.ws.length ≤ 90000) (hp : ∀ p ∈ s.ws, p.2.length ≤ 100000) (hnow : 0 ≤ now ∧ now ≤ 10000000) :
    Tri Try.prog 43 [.pbox 0 0, .int .i64 now] (lkM s)
      (fun v m => v = .vsl 2 (irows (fillF s.cf now s.ws ⟨s.on, s.ol, s.tl⟩).2.2) false ∧ m = flM s (fillF s.cf now s.ws ⟨s.on, s.ol, s.tl⟩).1 (fillF s.cf now s.ws ⟨s.on, s.ol, s.tl⟩).2.1) := by
  refine Tri.post ?_
  have hI : FlI s.cf now (fillF s.cf now s.ws ⟨s.on, s.ol, s.tl⟩) s.ws ⟨s.on, s.ol, s.tl⟩ [] := ⟨by simp, hu, h1, h2, by simp; omega, hp⟩
  generalize fillF s.cf now s.ws ⟨s.on, s.ol, s.tl⟩ = RR at *
  skip
  refine (Tri.enter (rl := r43) (code := c43) (by kernel_rfl) Try.func43 rfl c43_ok (by kernel_rfl) (by kernel_rfl) ?_)
  refine run_ok 4000 _ _ _ _ ?_
  simp (maxSteps := 10000000) only [go_sem, c43, r43, lkM, lkB]
  refine sem_move 4 rfl ?_
  refine sem_move 6 rfl ?_
  refine sem_virt 5 2 rfl ?_
  refine sem_rounds (fun q : List Part × FS × List Itm => FlI s.cf now RR q.1 q.2.1 q.2.2)
    (fun q => [(0, .pbox 0 0), (1, .int .i64 now), (5, .sl 9 0 q.2.2.length q.2.2.length false)])
    (fun q => flM s q.1 q.2.1 ++ [.row 2 (irows q.2.2)]) (fun q => q.1.length) (s.ws, ⟨s.on, s.ol, s.tl⟩, []) [0, 1, 2, 3, 4, 5, 6, 7, 8, 9] hI ?_ ?_
  · simp [Emb, go_sem, irows]
  rintro ⟨ws, st, out⟩ ⟨heq, hu, hl1, hl2, hl3, hpt⟩
  simp only at heq hu hl1 hl2 hl3 hpt ⊢
  cases ws with
  | nil =>
    have hz : ¬ (([] : List Part).length : Int) > 0 := by simp
    have hall := sub_irows out
    simp only [fillF, List.append_nil] at heq
    skip
    refine run_ok 4000 _ _ _ _ ?_
    simp (maxSteps := 10000000) only [go_sem, lkM, lkB, flM, hz, prows_len, List.cons_append, List.nil_append]
    refine run_ok 4000 _ _ _ _ ?_
    simp (maxSteps := 10000000) only [go_sem, lkM, lkB, flM, hz, prows_len, List.cons_append, List.nil_append]
    rw [heq]
    refine ⟨_, _, .fz 9 rfl (by simp only [go_sem, Nat.le_refl]) (.sub [0, 1, 2, 3, 4, 5, 6, 7, 8] ?_ .done), rfl, rfl⟩
    simp only [EmbV, go_sem, flM, lkM, lkB, hall]
  | cons p ws =>
    have h0 : 0 < (p :: ws).length := by simp
    have hln : (p :: ws).length = ws.length + 1 := by simp
    have hz : ((ws.length + 1 : Nat) : Int) > 0 := by omega
    have hz2 : (0 : Int) < ((ws.length + 1 : Nat) : Int) := by omega
    have hb := bytes_spec p.1 p.2 (by have := hpt p (by simp); omega)
    have hps := push_spec st.on st.ol (partB p) hu (by omega)
    unfold outW outW2 pushW at hps
    have rb := prows_rbool h0
    have rs := prows_rstr h0
    have ib := prows_hasB h0
    have is' := prows_hasS h0
    simp only [List.getElem_cons_zero] at rb rs
    have hpe : partB (p.1, p.2) = partB p := rfl
    rw [hpe] at hb
    cases hr : roomW st.on st.ol with
    | false =>
      rw [hr] at hps
      simp only [Bool.false_eq_true, if_false] at hps
      have hall := sub_irows out
      rw [fillF, hr] at heq
      simp only [Bool.false_eq_true, if_false, List.append_nil] at heq
      have hn8 : ((8 : Int) != 0) = true := rfl
      skip
      refine run_ok 4000 _ _ _ _ ?_
      simp (maxSteps := 10000000) only [go_sem, lkM, lkB, flM, hz, hz2, prows_len, hln, rb, rs, ib, is', hn8, List.cons_append, List.nil_append]
      refine sem_call rfl rfl (((hb).embed [] rfl trivial rfl rfl rfl (by simp)).mono ?_)
      rintro _ _ ⟨_, _, ⟨rfl, rfl⟩, rfl, rfl⟩
      refine run_ok 4000 _ _ _ _ ?_
      simp (maxSteps := 10000000) only [go_sem, lkM, lkB, flM, hz, hz2, prows_len, hln, rb, rs, ib, is', hn8, List.cons_append, List.nil_append]
      refine sem_call rfl rfl (((hps).embed [1, 7] rfl (by repeat' first | exact trivial | rfl | (simp only [go_sem]; done) | constructor) rfl (by first | rfl | simp only [go_sem]) rfl (by simp)).mono ?_)
      rintro _ _ ⟨_, _, ⟨rfl, rfl⟩, rfl, rfl⟩
      refine run_ok 4000 _ _ _ _ ?_
      simp (maxSteps := 10000000) only [go_sem, lkM, lkB, flM, hz, hz2, prows_len, hln, rb, rs, ib, is', hn8, List.cons_append, List.nil_append]
      refine run_ok 4000 _ _ _ _ ?_
      simp (maxSteps := 10000000) only [go_sem, lkM, lkB, flM, hz, hz2, prows_len, hln, rb, rs, ib, is', hn8, List.cons_append, List.nil_append]
      rw [heq]
      refine ⟨_, _, .fz 9 rfl (by simp only [go_sem, Nat.le_refl]) (.sub [0, 1, 2, 3, 4, 5, 6, 10, 8] ?_ .done), rfl, rfl⟩
      simp only [EmbV, go_sem, flM, lkM, lkB, hall]
    | true =>
      rw [hr] at hps
      simp only [if_true] at hps
      have hst := lstart_spec s.cf s.cm hcf st.tl st.on now (by omega) hnow
      simp only [tmM, tmM2] at hst
      have hsl := startF_len s.cf now st.tl st.on
      rw [fillF, hr] at heq
      simp only [if_true] at heq
      have hn0 : ((0 : Int) != 0) = false := rfl
      have hsub : sub (prows (p :: ws)) 1 ws.length = prows ws := by
        show ((prows (p :: ws)).drop 1).take ws.length = prows ws
        rw [show (prows (p :: ws)).drop 1 = prows ws from rfl, List.take_of_length_le (by rw [prows_len]; exact Nat.le_refl _)]
      have hall := sub_irows out
      have hone : [[AV.int .u32 st.on, AV.str (partB p)]] = irows [(st.on, partB p)] := rfl
      have hol : (st.ol ++ [(st.on, partB p)]).length = st.ol.length + 1 := by simp
      have hot : (out ++ [(st.on, partB p)]).length = out.length + 1 := by simp
      have hnx : FlI s.cf now RR ws ⟨u32 (st.on + 1), st.ol ++ [(st.on, partB p)], startF s.cf now st.tl st.on⟩ (out ++ [(st.on, partB p)]) := by
        refine ⟨by rw [heq]; simp, U32.wrap _, ?_, ?_, ?_, fun q hq => hpt q (by simp [hq])⟩
        · simp only [hol]; omega
        · simp only; omega
        · rw [hot]; omega
      have h1l : (1 : Int) ≤ ((ws.length + 1 : Nat) : Int) := by omega
      skip
      refine run_ok 4000 _ _ _ _ ?_
      simp (maxSteps := 10000000) only [go_sem, lkM, lkB, flM, hz, hz2, h1l, prows_len, hln, rb, rs, ib, is', hn0, hsub, hall, Nat.add_sub_cancel, List.cons_append, List.nil_append]
      refine sem_call rfl rfl (((hb).embed [] rfl trivial rfl rfl rfl (by simp)).mono ?_)
      rintro _ _ ⟨_, _, ⟨rfl, rfl⟩, rfl, rfl⟩
      refine run_ok 4000 _ _ _ _ ?_
      simp (maxSteps := 10000000) only [go_sem, lkM, lkB, flM, hz, hz2, h1l, prows_len, hln, rb, rs, ib, is', hn0, hsub, hall, Nat.add_sub_cancel, List.cons_append, List.nil_append]
      refine sem_call rfl rfl (((hps).embed [1, 7] rfl (by repeat' first | exact trivial | rfl | (simp only [go_sem]; done) | constructor) rfl (by first | rfl | simp only [go_sem]) rfl (by simp)).mono ?_)
      rintro _ _ ⟨_, _, ⟨rfl, rfl⟩, rfl, rfl⟩
      refine run_ok 4000 _ _ _ _ ?_
      simp (maxSteps := 10000000) only [go_sem, lkM, lkB, flM, hz, hz2, h1l, prows_len, hln, rb, rs, ib, is', hn0, hsub, hall, Nat.add_sub_cancel, List.cons_append, List.nil_append]
      refine sem_call rfl rfl (((hst).embed [3, 8] rfl (by repeat' first | exact trivial | rfl | (simp only [go_sem]; done) | constructor) rfl (by first | rfl | simp only [go_sem]) rfl (by simp)).mono ?_)
      rintro _ _ ⟨_, _, ⟨rfl, rfl⟩, rfl, rfl⟩
      refine run_ok 4000 _ _ _ _ ?_
      simp (maxSteps := 10000000) only [go_sem, lkM, lkB, flM, hz, hz2, h1l, prows_len, hln, rb, rs, ib, is', hn0, hsub, hall, Nat.add_sub_cancel, List.cons_append, List.nil_append]
      rw [hone, irows_app]
      refine ⟨by unfold small; omega, (ws, ⟨u32 (st.on + 1), st.ol ++ [(st.on, partB p)], startF s.cf now st.tl st.on⟩, out ++ [(st.on, partB p)]), by simp only; omega, hnx, [0, 1, 2, 3, 4, 5, 6, 10, 11, 12], ?_⟩
      simp only [Emb, go_sem, flM, hol, hot, List.cons_append, List.nil_append]
end Go.AEX

/- Link: what a datagram says. -/
namespace Go.AEX
open Go Go.AE Go.Proofs
set_option maxRecDepth 100000
set_option linter.unusedVariables false
set_option linter.unusedSimpArgs false

theorem count_le (x : List UInt8 × Int) (most : Int) : 0 ≤ (countF x most).2 ∧ (countF x most).2 ≤ posN most := by
  unfold countF; split <;> simp <;> omega
def linkP (s : List UInt8) : (Int × Int) × List Itm × Int :=
  if (unsealF s).2 ≠ 0 then ((0, 0), [], (unsealF s).2) else
  let c1 := countF ((unsealF s).1, 0) 4294967295
  let c2 := countF c1.1 4294967295
  let c3 := countF c2.1 1
  if c3.2 > 0 ∧ c3.1.2 = 0 then
    let c4 := countF c3.1 4294967295
    let t := strF c4.1 201
    ((u32 c1.2, u32 c2.2), [(u32 c4.2, t.2)], (endF t.1).2)
  else ((u32 c1.2, u32 c2.2), [], (endF c3.1).2)
set_option maxHeartbeats 4000000 in
theorem lparse_spec (s : List UInt8) (hs : s.length ≤ 1000000) : Tri Try.prog 29 [.str s] []
    (fun v m => v = .tup [.agg [.int .u32 (linkP s).1.1, .int .u32 (linkP s).1.2], .vsl 2 (irows (linkP s).2.1) false, .int .i64 (linkP s).2.2] ∧ m = []) := by
  refine Tri.post ?_
  have hu := unseal_spec s hs
  unfold linkP
  by_cases c : (unsealF s).2 = 0
  · rw [if_neg (by simpa using c)]
    have c0 : ((unsealF s).2 != 0) = false := by simp [c]
    have ho := open_spec (unsealF s).1
    have h1 := icount_spec (unsealF s).1 0 4294967295 (by unfold I64; omega)
    simp only
    generalize hc1 : countF ((unsealF s).1, 0) 4294967295 = c1 at *
    have h2 := icount_spec c1.1.1 c1.1.2 4294967295 (by unfold I64; omega)
    generalize hc2 : countF c1.1 4294967295 = c2 at *
    have h3 := icount_spec c2.1.1 c2.1.2 1 (by unfold I64; omega)
    have hle := count_le c2.1 1
    have hp1 : posN 1 = 1 := rfl
    rw [hp1] at hle
    generalize hc3 : countF c2.1 1 = c3 at *
    simp only [inM] at h1 h2 h3 ho
    skip
    refine (Tri.enter (rl := r29) (code := c29) (by kernel_rfl) Try.func29 rfl c29_ok (by kernel_rfl) (by kernel_rfl) ?_)
    refine run_ok 4000 _ _ _ _ ?_
    simp (maxSteps := 10000000) only [go_sem, c29, r29, c0]
    refine sem_call rfl rfl (((hu).embed [] rfl trivial rfl rfl rfl (by simp)).mono ?_)
    rintro _ _ ⟨_, _, ⟨rfl, rfl⟩, rfl, rfl⟩
    refine run_ok 4000 _ _ _ _ ?_
    simp (maxSteps := 10000000) only [go_sem, c0]
    refine sem_call rfl rfl (((ho).embed [] rfl trivial rfl rfl rfl (by simp)).mono ?_)
    rintro _ _ ⟨_, _, ⟨rfl, rfl⟩, rfl, rfl⟩
    refine run_ok 4000 _ _ _ _ ?_
    simp (maxSteps := 10000000) only [go_sem, c0]
    refine sem_call rfl rfl (((h1).embed [1] rfl (by repeat' first | exact trivial | rfl | (simp only [go_sem]; done) | constructor) rfl (by first | rfl | simp only [go_sem]) rfl (by simp)).mono ?_)
    rintro _ _ ⟨_, _, ⟨rfl, rfl⟩, rfl, rfl⟩
    refine run_ok 4000 _ _ _ _ ?_
    simp (maxSteps := 10000000) only [go_sem, c0]
    refine sem_call rfl rfl (((h2).embed [1] rfl (by repeat' first | exact trivial | rfl | (simp only [go_sem]; done) | constructor) rfl (by first | rfl | simp only [go_sem]) rfl (by simp)).mono ?_)
    rintro _ _ ⟨_, _, ⟨rfl, rfl⟩, rfl, rfl⟩
    refine run_ok 4000 _ _ _ _ ?_
    simp (maxSteps := 10000000) only [go_sem, c0]
    refine sem_call rfl rfl (((h3).embed [1] rfl (by repeat' first | exact trivial | rfl | (simp only [go_sem]; done) | constructor) rfl (by first | rfl | simp only [go_sem]) rfl (by simp)).mono ?_)
    rintro _ _ ⟨_, _, ⟨rfl, rfl⟩, rfl, rfl⟩
    refine run_ok 4000 _ _ _ _ ?_
    simp (maxSteps := 10000000) only [go_sem, c0]
    refine sem_virt 9 2 rfl ?_
    have a1 : iwrap .u32 c1.2 = u32 c1.2 := rfl
    have a2 : iwrap .u32 c2.2 = u32 c2.2 := rfl
    by_cases d : c3.2 > 0 ∧ c3.1.2 = 0
    · rw [if_pos d]
      have hn1 : c3.2 = 1 := by omega
      have h4 := icount_spec c3.1.1 c3.1.2 4294967295 (by unfold I64; omega)
      generalize hc4 : countF c3.1 4294967295 = c4 at *
      have h5 := istr_spec c4.1.1 c4.1.2 201 (by unfold I64; omega)
      generalize ht5 : strF c4.1 201 = t5 at *
      have h6 := iend_spec t5.1.1 t5.1.2
      have he := err_spec c3.1.1 c3.1.2
      have hz : (c3.1.2 == 0) = true := by simp [d.2]
      simp only [inM] at h4 h5 h6 he
      have hone : [[AV.int .u32 (u32 c4.2), AV.str t5.2]] = irows [(u32 c4.2, t5.2)] := rfl
      have a4 : iwrap .u32 c4.2 = u32 c4.2 := rfl
      rw [hn1]
      refine sem_rounds (fun x : Bool => True)
        (fun x => [(2, .pbox 0 0), (7, .pbox 1 0), (8, .pbox 2 0), (9, .sl 3 0 (if x then 1 else 0) (if x then 1 else 0) false), (10, .int .i64 (if x then 0 else 1))])
        (fun x => [.box [.int .u32 0, .int .u32 0], .box [.str (if x then t5.1.1 else c3.1.1), .int .i64 (if x then t5.1.2 else c3.1.2)], .box [.int .u32 (u32 c1.2), .int .u32 (u32 c2.2)], .row 2 (if x then irows [(u32 c4.2, t5.2)] else [])])
        (fun x => if x then 0 else 1) false [0, 1, 2, 3] trivial ?_ ?_
      · simp [Emb, go_sem, a1, a2]
      intro x _
      cases x with
      | false =>
        simp only [Bool.false_eq_true, if_false]
        have w0 : iwrap .i64 0 = 0 := rfl
        skip
        refine run_ok 4000 _ _ _ _ ?_
        simp (maxSteps := 10000000) only [go_sem, hz, a4, w0]
        refine sem_call rfl rfl (((he).embed [1] rfl (by repeat' first | exact trivial | rfl | (simp only [go_sem]; done) | constructor) rfl (by first | rfl | simp only [go_sem]) rfl (by simp)).mono ?_)
        rintro _ _ ⟨_, _, ⟨rfl, rfl⟩, rfl, rfl⟩
        refine run_ok 4000 _ _ _ _ ?_
        simp (maxSteps := 10000000) only [go_sem, hz, a4, w0]
        refine sem_call rfl rfl (((h4).embed [1] rfl (by repeat' first | exact trivial | rfl | (simp only [go_sem]; done) | constructor) rfl (by first | rfl | simp only [go_sem]) rfl (by simp)).mono ?_)
        rintro _ _ ⟨_, _, ⟨rfl, rfl⟩, rfl, rfl⟩
        refine run_ok 4000 _ _ _ _ ?_
        simp (maxSteps := 10000000) only [go_sem, hz, a4, w0]
        refine sem_call rfl rfl (((h5).embed [1] rfl (by repeat' first | exact trivial | rfl | (simp only [go_sem]; done) | constructor) rfl (by first | rfl | simp only [go_sem]) rfl (by simp)).mono ?_)
        rintro _ _ ⟨_, _, ⟨rfl, rfl⟩, rfl, rfl⟩
        refine run_ok 4000 _ _ _ _ ?_
        simp (maxSteps := 10000000) only [go_sem, hz, a4, w0]
        rw [hone]
        refine ⟨by unfold small; omega, true, by simp, [0, 1, 2, 4], ?_⟩
        have h1r : 1 ≤ (irows [(u32 c4.2, t5.2)]).length := by simp [irows]
        have hs0 : sub ([] : List (List AV)) 0 0 = [] := rfl
        simp [Emb, go_sem, h1r, hs0]
      | true =>
        simp only [if_true]
        skip
        refine run_ok 4000 _ _ _ _ ?_
        simp (maxSteps := 10000000) only [go_sem]
        refine run_ok 4000 _ _ _ _ ?_
        simp (maxSteps := 10000000) only [go_sem]
        refine sem_drawG l29_0_ok (by kernel_rfl) ?_
        intro KK hKK
        simp (maxSteps := 10000000) only [go_sem, l29_0]
        subst hKK
        simp (maxSteps := 10000000) only [go_sem]
        refine TriZ.of (((h6).embed [1] rfl (by repeat' first | exact trivial | rfl | (simp only [go_sem]; done) | constructor) rfl (by first | rfl | simp only [go_sem]) rfl (by simp)).mono ?_)
        rintro _ _ ⟨_, _, ⟨rfl, rfl⟩, rfl, rfl⟩
        simp (maxSteps := 10000000) only [go_sem]
        have hs1 : sub (irows [(u32 c4.2, t5.2)]) 0 1 = irows [(u32 c4.2, t5.2)] := sub_irows [(u32 c4.2, t5.2)]
        refine ⟨_, _, .fz 3 rfl (by simp [irows]) (.sub [] ?_ .done), rfl, rfl⟩
        simp only [EmbV, go_sem, hs1]
    · rw [if_neg d]
      have h6 := iend_spec c3.1.1 c3.1.2
      have he := err_spec c3.1.1 c3.1.2
      simp only [inM] at h6 he
      refine sem_rounds (fun x : Nat => True)
        (fun x => [(2, .pbox 0 0), (7, .pbox 1 0), (8, .pbox 2 0), (9, .sl 3 0 0 0 false), (10, .int .i64 c3.2)])
        (fun x => [.box [.int .u32 0, .int .u32 0], .box [.str c3.1.1, .int .i64 c3.1.2], .box [.int .u32 (u32 c1.2), .int .u32 (u32 c2.2)], .row 2 []])
        (fun x => x) 0 [0, 1, 2, 3] trivial ?_ ?_
      · simp [Emb, go_sem, a1, a2]
      intro x _
      by_cases e : c3.2 > 0
      · have hz : (c3.1.2 == 0) = false := by simp; exact fun h => d ⟨e, h⟩
        skip
        refine run_ok 4000 _ _ _ _ ?_
        simp (maxSteps := 10000000) only [go_sem, e, hz]
        refine sem_call rfl rfl (((he).embed [1] rfl (by repeat' first | exact trivial | rfl | (simp only [go_sem]; done) | constructor) rfl (by first | rfl | simp only [go_sem]) rfl (by simp)).mono ?_)
        rintro _ _ ⟨_, _, ⟨rfl, rfl⟩, rfl, rfl⟩
        refine run_ok 4000 _ _ _ _ ?_
        simp (maxSteps := 10000000) only [go_sem, e, hz]
        refine run_ok 4000 _ _ _ _ ?_
        simp (maxSteps := 10000000) only [go_sem, e, hz]
        refine sem_drawG l29_0_ok (by kernel_rfl) ?_
        intro KK hKK
        simp (maxSteps := 10000000) only [go_sem, l29_0, e, hz]
        subst hKK
        simp (maxSteps := 10000000) only [go_sem, e, hz]
        refine TriZ.of (((h6).embed [1] rfl (by repeat' first | exact trivial | rfl | (simp only [go_sem]; done) | constructor) rfl (by first | rfl | simp only [go_sem]) rfl (by simp)).mono ?_)
        rintro _ _ ⟨_, _, ⟨rfl, rfl⟩, rfl, rfl⟩
        simp (maxSteps := 10000000) only [go_sem, e, hz]
        refine ⟨_, _, .fz 3 rfl (by simp) (.sub [] ?_ .done), rfl, rfl⟩
        simp [EmbV, go_sem, irows, sub]
      · skip
        refine run_ok 4000 _ _ _ _ ?_
        simp (maxSteps := 10000000) only [go_sem, e]
        refine run_ok 4000 _ _ _ _ ?_
        simp (maxSteps := 10000000) only [go_sem, e]
        refine sem_drawG l29_0_ok (by kernel_rfl) ?_
        intro KK hKK
        simp (maxSteps := 10000000) only [go_sem, l29_0, e]
        subst hKK
        simp (maxSteps := 10000000) only [go_sem, e]
        refine TriZ.of (((h6).embed [1] rfl (by repeat' first | exact trivial | rfl | (simp only [go_sem]; done) | constructor) rfl (by first | rfl | simp only [go_sem]) rfl (by simp)).mono ?_)
        rintro _ _ ⟨_, _, ⟨rfl, rfl⟩, rfl, rfl⟩
        simp (maxSteps := 10000000) only [go_sem, e]
        refine ⟨_, _, .fz 3 rfl (by simp) (.sub [] ?_ .done), rfl, rfl⟩
        simp [EmbV, go_sem, irows, sub]
  · rw [if_pos (by simpa using c)]
    have c0 : ((unsealF s).2 != 0) = true := by simp [c]
    skip
    refine (Tri.enter (rl := r29) (code := c29) (by kernel_rfl) Try.func29 rfl c29_ok (by kernel_rfl) (by kernel_rfl) ?_)
    refine run_ok 4000 _ _ _ _ ?_
    simp (maxSteps := 10000000) only [go_sem, c29, r29, c0]
    refine sem_call rfl rfl (((hu).embed [] rfl trivial rfl rfl rfl (by simp)).mono ?_)
    rintro _ _ ⟨_, _, ⟨rfl, rfl⟩, rfl, rfl⟩
    refine run_ok 4000 _ _ _ _ ?_
    simp (maxSteps := 10000000) only [go_sem, c0]
    refine ⟨_, _, .like (Like.tup3 (Like.refl _) (Like.nilv 2 false) (Like.refl _)) (.sub [] ?_ .done), rfl, rfl⟩
    simp only [EmbV, go_sem, irows, List.map_nil]
end Go.AEX
