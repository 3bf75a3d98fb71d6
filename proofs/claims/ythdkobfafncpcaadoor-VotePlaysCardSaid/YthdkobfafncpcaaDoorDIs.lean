/- DFree, DRef, DIs. -/
import Derived.Test.YthdkobfafncpcaaDoorTRos3
/- Door seat: the least number that nobody has (TrailingZeros32 over the laid table). -/
namespace Go.AEX
open Go Go.AE Go.Proofs
set_option maxRecDepth 100000
set_option linter.unusedVariables false
set_option linter.unusedSimpArgs false

def dB : List Int := [0, 1, 28, 2, 29, 14, 24, 3, 30, 22, 20, 15, 25, 17, 4, 8, 31, 27, 13, 23, 21, 19, 16, 7, 26, 12, 18, 6, 11, 5, 10, 9]
theorem low_bit {X : BitVec 32} {k : Nat} (hk : k < 32) (h1 : X.getLsbD k = true) (h2 : ∀ j < k, X.getLsbD j = false) : X &&& -X = BitVec.twoPow 32 k := by
  apply BitVec.eq_of_getLsbD_eq
  intro i hi
  rw [BitVec.getLsbD_and, BitVec.getLsbD_neg, BitVec.getLsbD_twoPow]
  by_cases c : i < k
  · rw [h2 i c]; simp; omega
  · by_cases e : i = k
    · subst e
      have : decide (∃ j, j < i ∧ X.getLsbD j = true) = false := by
        rw [decide_eq_false_iff_not]; rintro ⟨j, hj, h⟩; rw [h2 j hj] at h; cases h
      rw [this, h1]; simp [hi]
    · have : decide (∃ j, j < i ∧ X.getLsbD j = true) = true := by
        rw [decide_eq_true_iff]; exact ⟨k, by omega, h1⟩
      rw [this]
      cases X.getLsbD i <;> simp [hi] <;> omega
theorem low_u32 {x k : Nat} (hx : x < 4294967296) (hk : k < 32) (h1 : x.testBit k = true) (h2 : ∀ j < k, x.testBit j = false) : ibits .and .u32 (x : Int) (iwrap .u32 (-(x : Int))) = ((2 ^ k : Nat) : Int) := by
  show iwrap .u32 ((BitVec.ofInt 32 (x : Int) &&& BitVec.ofInt 32 (iwrap .u32 (-(x : Int)))).toNat : Int) = _
  have e1 : BitVec.ofInt 32 (x : Int) = BitVec.ofNat 32 x := BitVec.ofInt_natCast ..
  have e2 : BitVec.ofInt 32 (iwrap .u32 (-(x : Int))) = -(BitVec.ofNat 32 x) := by
    rw [iwrap_u32, ← e1, ← BitVec.ofInt_neg]
    apply BitVec.eq_of_toNat_eq
    simp
  have g : ∀ j < 32, (BitVec.ofNat 32 x).getLsbD j = x.testBit j := by intro j hj; rw [BitVec.getLsbD_ofNat]; simp [hj]
  have e3 := low_bit (X := BitVec.ofNat 32 x) hk (by rw [g k hk]; exact h1) (fun j hj => by rw [g j (by omega)]; exact h2 j hj)
  rw [e1, e2, e3, BitVec.toNat_twoPow, iwrap_u32]
  have hp : 2 ^ k < 2 ^ 32 := Nat.pow_lt_pow_right (by omega) hk
  rw [Nat.mod_eq_of_lt hp]
  generalize 2 ^ k = z at *
  omega
theorem dB_at : ∀ k : Nat, k < 32 → (ishr .u32 (iwrap .u32 (((2 ^ k : Nat) : Int) * 125613361)) 27 : Int) = ((dB.idxOf (k : Int) : Nat) : Int) ∧ dB.idxOf (k : Int) < 32 ∧ dB.getD (dB.idxOf (k : Int)) 0 = (k : Int) := by decide +kernel
theorem tz_spec (x k : Nat) (hx : x < 4294967296) (hk : k < 32) (h1 : x.testBit k = true) (h2 : ∀ j < k, x.testBit j = false) :
    Tri Tryd.prog 53 [.int .u32 (x : Nat)] [] (fun v m => v = .int .i64 (k : Nat) ∧ m = []) := by
  refine Tri.post ?_
  have hl := low_u32 hx hk h1 h2
  rw [← Int.zero_sub] at hl
  obtain ⟨d1, d2, d3⟩ := dB_at k hk
  have x0 : ((x : Int) == 0) = false := by
    have : x ≠ 0 := by rintro rfl; simp at h1
    simpa using this
  generalize dB.idxOf (k : Int) = q at *
  have hql : q < dB.length := d2
  have hr := iv_rint (k := .u8) hql
  have hh := iv_hasI (k := .u8) hql
  have e1 : dB[q] = (k : Int) := by rw [← d3]; simp [List.getD_eq_getElem?_getD, List.getElem?_eq_getElem hql]
  rw [e1] at hr
  have w1 : iwrap .i64 (k : Int) = (k : Int) := iwrap_i64_in (by omega)
  have q1 : (q : Int) < 32 := by omega
  skip
  refine (Tri.enter (rl := r53) (code := c53) (by kernel_rfl) Tryd.func53 rfl c53_ok (by kernel_rfl) (by kernel_rfl) ?_)
  skip
  refine run_ok 20 _ _ _ _ ?_
  simp (maxSteps := 10000000) only [go_sem, c53, r53, hl, d1, x0]
  skip
  refine ⟨⟨by omega, q1⟩, hh, _, _, .sub [] ?_ .done, rfl, rfl⟩
  show EmbV 0 [] (AV.int .i64 (iwrap .i64 (rint (iv .u8 dB) q 0))) [] (.int .i64 (k : Nat)) []
  rw [hr, w1]
  simp only [EmbV, go_sem]
theorem tz0_spec : Tri Tryd.prog 53 [.int .u32 0] [] (fun v m => v = .int .i64 32 ∧ m = []) := by
  refine Tri.post ?_
  refine (Tri.enter (rl := r53) (code := c53) (by kernel_rfl) Tryd.func53 rfl c53_ok (by kernel_rfl) (by kernel_rfl) ?_)
  refine run_ok 4000 _ _ _ _ ?_
  simp (maxSteps := 10000000) only [go_sem, c53, r53]
  refine ⟨_, _, .sub [] ?_ .done, rfl, rfl⟩
  simp only [EmbV, go_sem]
def freeN (S : Nat) : Nat := ((List.range 32).find? fun p => !S.testBit p).getD 32
theorem freeN_le (S : Nat) : freeN S ≤ 32 := by
  unfold freeN
  cases h : (List.range 32).find? fun p => !S.testBit p with
  | none => simp
  | some p => have := List.mem_range.1 (List.mem_of_find?_eq_some h); simp; omega
theorem freeN_lt {S : Nat} (h : freeN S < 32) : S.testBit (freeN S) = false := by
  unfold freeN at *
  cases hf : (List.range 32).find? fun p => !S.testBit p with
  | none => rw [hf] at h; simp at h
  | some p => have := List.find?_some hf; simpa using this
theorem freeN_min {S : Nat} {j : Nat} (h : j < freeN S) : S.testBit j = true := by
  have hle := freeN_le S
  cases hj : S.testBit j with
  | true => rfl
  | false =>
    exfalso
    unfold freeN at h hle
    cases hf : (List.range 32).find? fun p => !S.testBit p with
    | none =>
      have := List.find?_eq_none.1 hf j (List.mem_range.2 (by omega))
      rw [hj] at this; simp at this
    | some p =>
      rw [hf] at h
      simp only [Option.getD_some] at h
      obtain ⟨_, us, bs, e, h3⟩ := List.find?_eq_some_iff_append.1 hf
      have hjr : j ∈ us := by
        have hs : (List.range 32).Pairwise (· < ·) := List.pairwise_lt_range
        have hm : j ∈ List.range 32 := List.mem_range.2 (by have := List.mem_range.1 (List.mem_of_find?_eq_some hf); omega)
        rw [e] at hm hs
        rcases List.mem_append.1 hm with hm | hm
        · exact hm
        · rcases List.mem_cons.1 hm with hm | hm
          · omega
          · have h4 := (List.pairwise_append.1 hs).2.1
            have := (List.pairwise_cons.1 h4).1 j hm
            omega
      have := h3 j hjr
      rw [hj] at this; simp at this
theorem free_spec (S : Nat) (hS : S < 4294967296) (ep : Int) : Tri Tryd.prog 47 [ros S ep] [] (fun v m => v = .tup [.int .i64 (freeN S : Nat), .bsym (decide ((freeN S : Int) < 32))] ∧ m = []) := by
  refine Tri.post ?_
  have hb : ∀ k, (4294967295 - S).testBit k = (decide (k < 32) && !S.testBit k) := by
    intro k
    rw [show 4294967295 - S = 2 ^ 32 - (S + 1) by omega]
    exact Nat.testBit_two_pow_sub_succ hS k
  have hle := freeN_le S
  have hn : 4294967295 ^^^ S = 4294967295 - S := by
    apply Nat.eq_of_testBit_eq
    intro k
    rw [hb, Nat.testBit_xor, show 4294967295 = 2 ^ 32 - 1 by decide, Nat.testBit_two_pow_sub_one]
    by_cases ck : k < 32
    · simp [ck]
    · rw [Nat.testBit_lt_two_pow (Nat.lt_of_lt_of_le hS (show 2 ^ 32 ≤ 2 ^ k from Nat.pow_le_pow_right (by omega) (by omega)))]; simp [ck]
  have hx : ibits .xor .u32 (bif IntKind.u32.signed then -1 else IntKind.u32.max) (S : Int) = ((4294967295 - S : Nat) : Int) := by
    rw [show (bif IntKind.u32.signed then (-1 : Int) else IntKind.u32.max) = ((4294967295 : Nat) : Int) by decide, xor_u32 _ _ (by decide) hS, hn]
  by_cases c : freeN S < 32
  · have ht := tz_spec (4294967295 - S) (freeN S) (by omega) c (by rw [hb, freeN_lt c]; simp [c]) (fun j hj => by rw [hb, freeN_min hj]; simp)
    skip
    refine (Tri.enter (rl := r47) (code := c47) (by kernel_rfl) Tryd.func47 rfl c47_ok (by kernel_rfl) (by kernel_rfl) ?_)
    refine run_ok 4000 _ _ _ _ ?_
    simp (maxSteps := 10000000) only [go_sem, c47, r47, hx]
    refine sem_call rfl rfl (((ht).embed [] rfl trivial rfl rfl rfl (by simp)).mono ?_)
    rintro _ _ ⟨_, _, ⟨rfl, rfl⟩, rfl, rfl⟩
    refine run_ok 4000 _ _ _ _ ?_
    simp (maxSteps := 10000000) only [go_sem, hx]
    refine ⟨_, _, .sub [] ?_ .done, rfl, rfl⟩
    simp only [EmbV, go_sem]
  · have e : freeN S = 32 := by omega
    have hz : 4294967295 - S = 0 := by
      apply Nat.eq_of_testBit_eq
      intro k
      rw [hb, Nat.zero_testBit]
      by_cases ck : k < 32
      · rw [freeN_min (show k < freeN S by omega)]; simp
      · simp [ck]
    rw [hz] at hx
    have ht := tz0_spec
    rw [e]
    skip
    refine (Tri.enter (rl := r47) (code := c47) (by kernel_rfl) Tryd.func47 rfl c47_ok (by kernel_rfl) (by kernel_rfl) ?_)
    refine run_ok 4000 _ _ _ _ ?_
    simp (maxSteps := 10000000) only [go_sem, c47, r47, hx]
    refine sem_call rfl rfl (((ht).embed [] rfl trivial rfl rfl rfl (by simp)).mono ?_)
    rintro _ _ ⟨_, _, ⟨rfl, rfl⟩, rfl, rfl⟩
    refine run_ok 4000 _ _ _ _ ?_
    simp (maxSteps := 10000000) only [go_sem, hx]
    refine ⟨_, _, .sub [] ?_ .done, rfl, rfl⟩
    simp only [EmbV, go_sem]
end Go.AEX

/- Door seat: the reference's rosters (ref18): Has, Of; law18.Same. -/
namespace Go.AEX
open Go Go.AE Go.Proofs
set_option maxRecDepth 100000
set_option linter.unusedVariables false
set_option linter.unusedSimpArgs false

abbrev rr (L : List Int) (t : Bool) (ep : Int) : AV := .agg [.vsl 1 (iv .i64 L) t, .int .i64 ep]
theorem rhas_yes (L : List Int) (t : Bool) (hl : L.length ≤ 1000000) (ep p : Int) (h : p ∈ L) : Tri Tryd.prog 23 [rr L t ep, .int .i64 p] [] (fun v m => v = .bool true ∧ m = []) := by
  refine Tri.post ?_
  skip
  refine (Tri.enter (rl := r23) (code := c23) (by kernel_rfl) Tryd.func23 rfl c23_ok (by kernel_rfl) (by kernel_rfl) ?_)
  refine run_ok 4000 _ _ _ _ ?_
  simp (maxSteps := 10000000) only [go_sem, c23, r23, iv_len]
  refine sem_rounds (fun i : Nat => i ≤ L.length ∧ ∀ j < i, L.getD j 0 ≠ p) (fun i => [(1, .int .i64 p), (8, .vsl 1 (iv .i64 L) t), (9, .int .i64 L.length), (10, .int .i64 (i : Nat))])
    (fun i => []) (fun i => L.length - i) 0 [] ⟨Nat.zero_le _, fun j hj => by omega⟩ ?_ ?_
  · simp [Emb, go_sem]
  rintro i ⟨hi, hn⟩
  by_cases c : i < L.length
  · have hin : (i : Int) < (L.length : Int) := by omega
    have w1 := inc64 (show i < 1000000000000 by omega)
    have r0 := iv_rint (k := .i64) c
    have h0 := iv_hasI (k := .i64) c
    have hd : L.getD i 0 = L[i] := by simp [List.getD_eq_getElem?_getD, List.getElem?_eq_getElem c]
    generalize L[i] = x at *
    by_cases e : x = p
    · subst e
      skip
      refine run_ok 4000 _ _ _ _ ?_
      simp (maxSteps := 10000000) only [go_sem, hin, w1, r0, h0, iv_len, Int.natCast_nonneg, beq_self_eq_true]
      refine ⟨_, _, .sub [] ?_ .done, rfl, rfl⟩
      simp only [EmbV, go_sem]
    · have hx : (x == p) = false := by simpa using e
      skip
      refine run_ok 4000 _ _ _ _ ?_
      simp (maxSteps := 10000000) only [go_sem, hin, w1, r0, h0, iv_len, Int.natCast_nonneg, hx]
      refine ⟨i + 1, by omega, ⟨c, fun j hj => ?_⟩, [], ?_⟩
      · by_cases ej : j = i
        · rw [ej, hd]; exact e
        · exact hn j (by omega)
      · simp only [Emb, go_sem]
  · exfalso
    obtain ⟨j, hj, e⟩ := List.getElem_of_mem h
    have := hn j (by omega)
    rw [List.getD_eq_getElem?_getD, List.getElem?_eq_getElem hj] at this
    exact this e
theorem rhas_no (L : List Int) (t : Bool) (hl : L.length ≤ 1000000) (ep p : Int) (h : p ∉ L) : Tri Tryd.prog 23 [rr L t ep, .int .i64 p] [] (fun v m => v = .bool false ∧ m = []) := by
  refine Tri.post ?_
  skip
  refine (Tri.enter (rl := r23) (code := c23) (by kernel_rfl) Tryd.func23 rfl c23_ok (by kernel_rfl) (by kernel_rfl) ?_)
  refine run_ok 4000 _ _ _ _ ?_
  simp (maxSteps := 10000000) only [go_sem, c23, r23, iv_len]
  refine sem_rounds (fun i : Nat => i ≤ L.length) (fun i => [(1, .int .i64 p), (8, .vsl 1 (iv .i64 L) t), (9, .int .i64 L.length), (10, .int .i64 (i : Nat))])
    (fun i => []) (fun i => L.length - i) 0 [] (Nat.zero_le _) ?_ ?_
  · simp [Emb, go_sem]
  intro i hi
  by_cases c : i < L.length
  · have hin : (i : Int) < (L.length : Int) := by omega
    have w1 := inc64 (show i < 1000000000000 by omega)
    have r0 := iv_rint (k := .i64) c
    have h0 := iv_hasI (k := .i64) c
    have hx : (L[i] == p) = false := by
      have : L[i] ≠ p := fun e => h (e ▸ List.getElem_mem c)
      simpa using this
    generalize L[i] = x at *
    skip
    refine run_ok 4000 _ _ _ _ ?_
    simp (maxSteps := 10000000) only [go_sem, hin, w1, r0, h0, iv_len, Int.natCast_nonneg, hx]
    refine ⟨i + 1, by omega, c, [], ?_⟩
    simp only [Emb, go_sem]
  · have hin : ¬ (i : Int) < (L.length : Int) := by omega
    skip
    refine run_ok 4000 _ _ _ _ ?_
    simp (maxSteps := 10000000) only [go_sem, hin]
    refine run_ok 4000 _ _ _ _ ?_
    simp (maxSteps := 10000000) only [go_sem, hin]
    refine ⟨_, _, .sub [] ?_ .done, rfl, rfl⟩
    simp only [EmbV, go_sem]
theorem rhas_spec (L : List Int) (t : Bool) (hl : L.length ≤ 1000000) (ep p : Int) : Tri Tryd.prog 23 [rr L t ep, .int .i64 p] [] (fun v m => v = .bool (decide (p ∈ L)) ∧ m = []) := by
  by_cases h : p ∈ L
  · rw [decide_eq_true h]; exact rhas_yes L t hl ep p h
  · rw [decide_eq_false h]; exact rhas_no L t hl ep p h
def ofL (l : List Int) (k : Nat) : List Int := ((List.range k).map Int.ofNat).filter fun p => decide (p ∈ l)
theorem ofL_succ (l : List Int) (k : Nat) : ofL l (k + 1) = ofL l k ++ if (k : Int) ∈ l then [(k : Int)] else [] := by
  unfold ofL
  rw [List.range_succ, List.map_append, List.filter_append, List.map_cons, List.map_nil, List.filter_cons, List.filter_nil]
  by_cases c : (k : Int) ∈ l <;> simp [c]
theorem ofL_len (l : List Int) (k : Nat) : (ofL l k).length ≤ k := by
  unfold ofL
  have := List.length_filter_le (fun p => decide (p ∈ l)) ((List.range k).map Int.ofNat)
  simpa using this
theorem rof_spec (l : List Int) (t : Bool) (hl : l.length ≤ 1000000) : Tri Tryd.prog 7 [.vsl 1 (iv .i64 l) t] [] (fun v m => v = rr (ofL l 32) false 0 ∧ m = []) := by
  refine Tri.post ?_
  refine (Tri.enter (rl := r7) (code := c7) (by kernel_rfl) Tryd.func7 rfl c7_ok (by kernel_rfl) (by kernel_rfl) ?_)
  refine run_ok 4000 _ _ _ _ ?_
  simp (maxSteps := 10000000) only [go_sem, c7, r7]
  refine sem_nilbox 1 0 1 rfl rfl ?_
  simp (maxSteps := 10000000) only [go_sem]
  refine sem_rounds (fun i : Nat => i ≤ 32) (fun i => [(0, .vsl 1 (iv .i64 l) t), (2, .pbox 0 0), (3, .pbox 1 0), (4, .int .i64 (i : Nat))])
    (fun i => [.box [.nilsl, .int .i64 0], .box [.sl 2 0 (ofL l i).length (ofL l i).length false, .int .i64 0], .row 1 (iv .i64 (ofL l i))]) (fun i => 32 - i) 0 [0, 1, 2] (Nat.zero_le _) ?_ ?_
  · simp [Emb, go_sem, ofL, iv]
  intro i hi
  have hfl := ofL_len l i
  have hfa := r_iv_all (ofL l i)
  have hnx := ofL_succ l i
  generalize hO : ofL l i = O at *
  by_cases c : i < 32
  · have hin : (i : Int) < 32 := by omega
    have w1 := inc64 (show i < 1000000000000 by omega)
    have hsm : small (O.length + 1) := by unfold small; omega
    have hh := rhas_spec l t hl 0 (i : Nat)
    by_cases cm : (i : Int) ∈ l
    · rw [if_pos cm] at hnx
      rw [decide_eq_true cm] at hh
      skip
      refine run_ok 4000 _ _ _ _ ?_
      simp (maxSteps := 10000000) only [go_sem, hin, w1, hsm, iv_len, Int.natCast_nonneg, Nat.le_refl]
      refine sem_call rfl rfl (((hh).embed [] rfl trivial rfl rfl rfl (by simp)).mono ?_)
      rintro _ _ ⟨_, _, ⟨rfl, rfl⟩, rfl, rfl⟩
      refine run_ok 4000 _ _ _ _ ?_
      simp (maxSteps := 10000000) only [go_sem, hin, w1, hsm, iv_len, Int.natCast_nonneg, Nat.le_refl]
      refine ⟨i + 1, by omega, c, [0, 1, 3], ?_⟩
      simp only [Emb, go_sem, hnx, r_iv_one, r_iv_app, hfa, List.length_append, List.length_singleton]
    · rw [if_neg cm, List.append_nil] at hnx
      rw [decide_eq_false cm] at hh
      skip
      refine run_ok 4000 _ _ _ _ ?_
      simp (maxSteps := 10000000) only [go_sem, hin, w1, hsm, iv_len, Int.natCast_nonneg, Nat.le_refl]
      refine sem_call rfl rfl (((hh).embed [] rfl trivial rfl rfl rfl (by simp)).mono ?_)
      rintro _ _ ⟨_, _, ⟨rfl, rfl⟩, rfl, rfl⟩
      refine run_ok 4000 _ _ _ _ ?_
      simp (maxSteps := 10000000) only [go_sem, hin, w1, hsm, iv_len, Int.natCast_nonneg, Nat.le_refl]
      refine ⟨i + 1, by omega, c, [0, 1, 2], ?_⟩
      simp only [Emb, go_sem, hnx]
  · have hin : ¬ (i : Int) < 32 := by omega
    obtain rfl : i = 32 := by omega
    skip
    refine run_ok 4000 _ _ _ _ ?_
    simp (maxSteps := 10000000) only [go_sem, hin]
    refine run_ok 4000 _ _ _ _ ?_
    simp (maxSteps := 10000000) only [go_sem, hin]
    refine ⟨_, _, .fz 2 rfl (by simp only [go_sem, iv_len, Nat.le_refl]) (.sub [] ?_ .done), rfl, rfl⟩
    simp only [EmbV, go_sem, hfa, hO]
theorem lsame_spec (l : List Int) (hl : l.length ≤ 100000) (t1 t2 : Bool) : Tri Tryd.prog 37 [.vsl 1 (iv .i64 l) t1, .vsl 1 (iv .i64 l) t2] [] (fun v m => v = .int .i64 0 ∧ m = []) := by
  refine Tri.post ?_
  skip
  refine (Tri.enter (rl := r37) (code := c37) (by kernel_rfl) Tryd.func37 rfl c37_ok (by kernel_rfl) (by kernel_rfl) ?_)
  refine run_ok 4000 _ _ _ _ ?_
  simp (maxSteps := 10000000) only [go_sem, c37, r37, iv_len, beq_self_eq_true]
  refine sem_rounds (fun i : Nat => i ≤ l.length) (fun i => [(0, .vsl 1 (iv .i64 l) t1), (1, .vsl 1 (iv .i64 l) t2), (12, .int .i64 l.length), (13, .int .i64 (i : Nat))])
    (fun i => []) (fun i => l.length - i) 0 [] (Nat.zero_le _) ?_ ?_
  · simp [Emb, go_sem]
  intro i hi
  by_cases c : i < l.length
  · have hin : (i : Int) < (l.length : Int) := by omega
    have w1 := inc64 (show i < 1000000000000 by omega)
    have r0 := iv_rint (k := .i64) c
    have h0 := iv_hasI (k := .i64) c
    generalize l[i] = x at *
    skip
    refine run_ok 4000 _ _ _ _ ?_
    simp (maxSteps := 10000000) only [go_sem, hin, w1, r0, h0, iv_len, Int.natCast_nonneg, beq_self_eq_true]
    refine sem_drawG l37_0_ok (by kernel_rfl) ?_
    intro KK hKK
    simp (maxSteps := 10000000) only [go_sem, l37_0, hin, w1, r0, h0, iv_len, Int.natCast_nonneg, beq_self_eq_true]
    subst hKK
    simp (maxSteps := 10000000) only [go_sem, hin, w1, r0, h0, iv_len, Int.natCast_nonneg, beq_self_eq_true]
    refine ⟨i + 1, by omega, c, [], ?_⟩
    simp only [Emb, go_sem]
  · have hin : ¬ (i : Int) < (l.length : Int) := by omega
    skip
    refine run_ok 4000 _ _ _ _ ?_
    simp (maxSteps := 10000000) only [go_sem, hin]
    refine run_ok 4000 _ _ _ _ ?_
    simp (maxSteps := 10000000) only [go_sem, hin]
    refine ⟨_, _, .sub [] ?_ .done, rfl, rfl⟩
    simp only [EmbV, go_sem]
end Go.AEX

/- Door seat: law18.Is: a roster is the reference's. -/
namespace Go.AEX
open Go Go.AE Go.Proofs
set_option maxRecDepth 100000
set_option linter.unusedVariables false
set_option linter.unusedSimpArgs false

theorem hasN_iff {S : Nat} {p : Int} : hasN S p = true ↔ (0 ≤ p ∧ p < 32) ∧ S.testBit p.toNat = true := by
  unfold hasN; simp only [Bool.and_eq_true, decide_eq_true_eq]
theorem allN_iff {S : Nat} {p : Int} : p ∈ allN S 32 ↔ hasN S p = true := by
  unfold allN
  rw [List.mem_filter]
  constructor
  · exact fun h => h.2
  · intro h
    have h' := (hasN_iff.1 h).1
    exact ⟨List.mem_map.2 ⟨p.toNat, List.mem_range.2 (by omega), by simp only [Int.ofNat_eq_natCast]; omega⟩, h⟩
theorem allN_dec (S : Nat) (p : Int) : decide (p ∈ allN S 32) = hasN S p := by
  cases h : hasN S p with
  | true => exact decide_eq_true (allN_iff.2 h)
  | false => exact decide_eq_false fun e => by rw [allN_iff.1 e] at h; cases h
theorem bitI (S k : Nat) (hk : k < 32) : hasN S (Int.ofNat k) = S.testBit k := by
  unfold hasN
  have h1 : (0 : Int) ≤ Int.ofNat k := by simp
  have h2 : Int.ofNat k < 32 := by simp only [Int.ofNat_eq_natCast]; omega
  rw [decide_eq_true h1, decide_eq_true h2]; rfl
theorem pc_all (S : Nat) : (allN S 32).length = pc S := by
  have h : (allN S 32).length = ((List.range 32).map fun k => if S.testBit k then 1 else 0).sum := by
    unfold allN
    rw [← List.countP_eq_length_filter, List.countP_map]
    have : ∀ l : List Nat, (∀ k ∈ l, k < 32) → l.countP ((fun p => hasN S p) ∘ Int.ofNat) = (l.map fun k => if S.testBit k then 1 else 0).sum := by
      intro l
      induction l with
      | nil => intro _; rfl
      | cons a l ih =>
        intro hl
        rw [List.countP_cons, ih (fun k hk => hl k (by simp [hk])), List.map_cons, List.sum_cons]
        simp only [Function.comp, bitI S a (hl a (by simp))]
        omega
    exact this _ fun k hk => List.mem_range.1 hk
  rw [h]
  unfold pc pc8
  have e : ∀ n i, (n % 256).testBit i = (decide (i < 8) && n.testBit i) := fun n i => Nat.testBit_mod_two_pow n 8 i
  simp only [show List.range 32 = [0,1,2,3,4,5,6,7,8,9,10,11,12,13,14,15,16,17,18,19,20,21,22,23,24,25,26,27,28,29,30,31] by decide, show List.range 8 = [0,1,2,3,4,5,6,7] by decide, List.map_cons, List.map_nil, List.sum_cons, List.sum_nil, List.foldl_cons, List.foldl_nil, e, Nat.testBit_div_two_pow, Nat.reduceAdd, Nat.reduceLT, decide_true, Bool.true_and, Nat.zero_add, Nat.add_zero]
  have hb : ∃ b : Nat → Nat, ∀ k, (if S.testBit k = true then 1 else 0) = b k := ⟨fun k => if S.testBit k = true then 1 else 0, fun _ => rfl⟩
  obtain ⟨b, hb⟩ := hb
  simp only [hb]
  simp only [Nat.add_comm, Nat.add_left_comm, Nat.add_assoc]
theorem free_all {S : Nat} : (allN S 32).length < 32 ↔ freeN S < 32 := by
  constructor
  · intro h
    rcases Nat.lt_or_ge (freeN S) 32 with c | c
    · exact c
    · exfalso
      have : allN S 32 = (List.range 32).map Int.ofNat := by
        unfold allN
        rw [List.filter_eq_self]
        intro p hp
        obtain ⟨k, hk, rfl⟩ := List.mem_map.1 hp
        have hk := List.mem_range.1 hk
        rw [bitI S k hk]; exact freeN_min (by omega)
      rw [this] at h; simp at h
  · intro h
    have hb := freeN_lt h
    rcases Nat.lt_or_ge (allN S 32).length 32 with c | c
    · exact c
    · exfalso
      have h1 : (allN S 32).length = ((List.range 32).map Int.ofNat).length := by
        have := allN_len S 32; simp; omega
      unfold allN at h1
      rw [List.length_filter_eq_length_iff] at h1
      have := h1 (Int.ofNat (freeN S)) (List.mem_map.2 ⟨_, List.mem_range.2 h, rfl⟩)
      rw [bitI S _ h, hb] at this; cases this
theorem epoch_spec (S : Nat) (ep : Int) : Tri Tryd.prog 46 [ros S ep] [] (fun v m => v = .int .i64 ep ∧ m = []) := by
  refine Tri.post ?_
  refine (Tri.enter (rl := r46) (code := c46) (by kernel_rfl) Tryd.func46 rfl c46_ok (by kernel_rfl) (by kernel_rfl) ?_)
  refine run_ok 4000 _ _ _ _ ?_
  simp (maxSteps := 10000000) only [go_sem, c46, r46]
  refine ⟨_, _, .sub [] ?_ .done, rfl, rfl⟩
  simp only [EmbV, go_sem]
end Go.AEX
