/- Verify: the walk through a function. -/
import Derived.Test.YteilmgoomifjmaaVer
namespace Go.AEX
open Go Go.AE Go.Proofs
set_option maxRecDepth 100000
set_option linter.unusedVariables false
set_option linter.unusedSimpArgs false

/-- One instruction's followers: the depths, what is to be done; none: it may not be. -/
def goesF (C : Nat) (n : Int) : List Int → List Int → List Int → Option (List Int × List Int)
  | [], D, T => some (D, T)
  | t :: r, D, T =>
    if (C : Int) ≤ t ∨ (0 ≤ D.getD t.toNat 0 ∧ D.getD t.toNat 0 ≠ n) then none
    else if D.getD t.toNat 0 < 0 then goesF C n r (D.set t.toNat n) (T ++ [t]) else goesF C n r D T
/-- One round: none: it may not be. -/
def stepF (l : List Fn) (f : Fn) (at_ : Int) (D T : List Int) : Option (List Int × List Int) :=
  let x := f.code.getD at_.toNat (0, 0)
  let d := D.getD at_.toNat 0
  let e := effF l x
  if soundF l f x = false then none
  else if d < e.1 ∨ d - e.1 + e.2 > 64 ∨ (x.1 = 16 ∧ d ≠ 1) then none
  else goesF f.code.length (d - e.1 + e.2) (nextF x at_) D T
/-- The walk, of so many rounds at most. -/
def walkF (l : List Fn) (f : Fn) : Nat → List Int → List Int → List Int × Int
  | 0, D, _ => (D, -1)
  | k + 1, D, T => match T with
    | [] => (D, -1)
    | a :: T => match stepF l f a D T with
      | none => ([], a)
      | some (D, T) => walkF l f k D T
/-- How many rounds there may be. -/
def news (D : List Int) : Nat := D.countP fun d => decide (d < 0)
theorem news_set {D : List Int} {i : Nat} (h : i < D.length) (hd : D[i] < 0) {n : Int} (hn : 0 ≤ n) : news (D.set i n) + 1 = news D := by
  unfold news
  rw [List.countP_set h]
  have h1 : decide (D[i] < 0) = true := by simpa using hd
  have h2 : decide (n < 0) = false := by simp; omega
  have h3 : 0 < D.countP fun d => decide (d < 0) := by rw [List.countP_pos_iff]; exact ⟨D[i], List.getElem_mem h, h1⟩
  rw [h1, h2]; simp; omega
theorem vs_app (a b : List Int) : iv .i64 a ++ iv .i64 b = iv .i64 (a ++ b) := by simp [iv]
theorem vs_all (l : List Int) : sub (iv .i64 l) 0 l.length = iv .i64 l := by rw [iv_sub]; simp
theorem vs_mid (P T : List Int) : sub (iv .i64 (P ++ T)) P.length T.length = iv .i64 T := by rw [iv_sub]; simp
theorem vs_inR {l : List Int} {i : Nat} (h : i < l.length) : inR (iv .i64 l) i 0 1 := ⟨_, iv_get (List.getElem?_eq_getElem h), by simp⟩
theorem vs_rput {l : List Int} {i : Nat} (h : i < l.length) (x : Int) : rput (iv .i64 l) i 0 [.int .i64 x] = iv .i64 (l.set i x) := by
  unfold rput iv
  apply List.ext_getElem?
  intro j
  rw [List.getElem?_modify, List.getElem?_map, List.getElem?_map, List.getElem?_set]
  by_cases hj : i = j
  · subst hj; simp [h]
  · simp [hj]
theorem vs_one (x : Int) : [[AV.int .i64 x]] = iv .i64 [x] := rfl
theorem getD_at {l : List Int} {i : Nat} (h : i < l.length) : l.getD i 0 = l[i] := by rw [List.getD_eq_getElem?_getD, List.getElem?_eq_getElem h]; rfl
theorem eff_range {l : List Fn} {x : Ins} (ho : OpOk x.1) (ha : ∀ g ∈ l, 0 ≤ g.args ∧ g.args ≤ 1000) (f : Fn) (hs : soundF l f x = true) : 0 ≤ (effF l x).1 ∧ (effF l x).1 ≤ 1000 ∧ 0 ≤ (effF l x).2 ∧ (effF l x).2 ≤ 2 := by
  obtain ⟨o, a⟩ := x
  simp only at ho
  by_cases h15 : o = 15
  · subst h15
    simp [soundF] at hs
    obtain ⟨k, rfl⟩ : ∃ k : Nat, a = (k : Int) := ⟨a.toNat, by omega⟩
    have hk : k < l.length := by omega
    have he : effF l (15, (k : Int)) = (l[k].args, 1) := by simp [effF, List.getD_eq_getElem?_getD, hk]
    have := ha _ (List.getElem_mem hk)
    rw [he]; simp only; omega
  by_cases h22 : o = 22
  · subst h22
    simp [soundF] at hs
    have he : effF l (22, a) = (hostArgs a, 1) := by simp [effF]
    have hle : hostArgs a ≤ 3 := by unfold hostArgs; repeat' split
                                    all_goals omega
    rw [he]; simp only; omega
  rcases ho.all with rfl | rfl | rfl | rfl | rfl | rfl | rfl | rfl | rfl | rfl | rfl | rfl | rfl | rfl | rfl | rfl | rfl | rfl | rfl | rfl | rfl | rfl
  all_goals first
    | exact absurd rfl h15
    | exact absurd rfl h22
    | simp [effF]
theorem next_range {l : List Fn} {f : Fn} {x : Ins} (hs : soundF l f x = true) {k : Nat} : (nextF x k).length ≤ 2 ∧ ∀ t ∈ nextF x k, 0 ≤ t := by
  obtain ⟨o, a⟩ := x
  unfold nextF soundF at *
  simp only at *
  split
  · simp
  split
  · rename_i h13
    rw [if_pos (.inl h13)] at hs
    simp at hs ⊢; omega
  split
  · rename_i h14
    rw [if_pos (.inr h14)] at hs
    simp at hs ⊢; omega
  · simp; omega
abbrev walkM (l : List Fn) (f : Fn) (D Q : List Int) : Mem := [.box [.vsl 3 (frows l) false], .box [.int .i64 f.args, .int .i64 f.locals, .vsl 2 (irows f.code) false], .row 1 (iv .i64 D), .row 1 (iv .i64 Q)]
/-- All are -1, but the first ones. -/
def unseen (C i : Nat) : List Int := List.replicate i (-1) ++ List.replicate (C - i) 0
theorem unseen_len {C i : Nat} (h : i ≤ C) : (unseen C i).length = C := by simp [unseen]; omega
theorem unseen_set {C i : Nat} (h : i < C) : (unseen C i).set i (-1) = unseen C (i + 1) := by
  unfold unseen
  rw [List.set_append_right _ _ (by simp), List.length_replicate, Nat.sub_self, show C - i = (C - (i + 1)) + 1 by omega, List.replicate_succ, List.set_cons_zero, List.replicate_succ', List.append_assoc]
  rfl
def startD (C : Nat) : List Int := (unseen C C).set 0 0
def resF (l : List Fn) (f : Fn) : List Int × Int := walkF l f f.code.length (startD f.code.length) [0]
set_option maxHeartbeats 1000000 in
theorem walk_spec (l : List Fn) (f : Fn) (hC : 1 ≤ f.code.length ∧ f.code.length ≤ 1000) (hops : ∀ x ∈ f.code, OpOk x.1) (ha : ∀ g ∈ l, 0 ≤ g.args ∧ g.args ≤ 1000) :
    Tri Try.prog 61 [imgV l, fnV f] [] (fun v m => v = .tup [.vsl 1 (iv .i64 (resF l f).1) false, .int .i64 (resF l f).2] ∧ m = []) := by
  refine Tri.post ?_
  generalize hR : resF l f = R
  unfold resF at hR
  have hz : List.replicate f.code.length [AV.int .i64 0] = iv .i64 (unseen f.code.length 0) := by simp [iv, unseen]
  generalize hCd : f.code.length = C at *
  skip
  refine (Tri.enter (rl := r61) (code := c61) (by kernel_rfl) Try.func61 rfl c61_ok (by kernel_rfl) (by kernel_rfl) ?_)
  refine run_ok 4000 _ _ _ _ ?_
  simp (maxSteps := 10000000) only [go_sem, c61, r61, irow, frow, frows_len, irows_len, hCd, hz]
  refine ⟨⟨by omega, by unfold small; omega⟩, ?_⟩
  refine sem_rounds (fun i : Nat => i ≤ C) (fun i => [(2, .pbox 0 0), (3, .pbox 1 0), (6, .sl 2 0 C C false), (21, .int .i64 C), (22, .int .i64 (i : Nat))])
    (fun i => [.box [.vsl 3 (frows l) false], .box [.int .i64 f.args, .int .i64 f.locals, .vsl 2 (irows f.code) false], .row 1 (iv .i64 (unseen C i))]) (fun i => C - i) 0 [0, 1, 2] (Nat.zero_le _) ?_ ?_
  · simp only [Emb, go_sem]
  intro i hi
  skip
  refine run_ok 4000 _ _ _ _ ?_
  simp (maxSteps := 10000000) only [go_sem]
  refine ⟨fun hlt => ?_, fun hge => ?_⟩
  · have hlt : i < C := by omega
    have hin : (i : Int) < (C : Int) := by omega
    have hu : i < (unseen C i).length := by rw [unseen_len (by omega)]; exact hlt
    have hrp := vs_rput hu (-1)
    rw [unseen_set hlt] at hrp
    skip
    simp (maxSteps := 10000000) only [go_sem, hin, vs_inR hu, hrp, Int.natCast_nonneg, inc64 (show i < 1000000000000 by omega)]
    refine ⟨i + 1, by omega, hlt, [0, 1, 2], ?_⟩
    simp only [Emb, go_sem]
  have hi : C = i := by omega
  subst hi
  have h0 : (0 : Int) < (C : Int) := by omega
  have hu : 0 < (unseen C C).length := by rw [unseen_len (Nat.le_refl _)]; omega
  have hrp := vs_rput hu 0
  have hs0 : (unseen C C).set 0 0 = startD C := rfl
  rw [hs0] at hrp
  skip
  skip
  refine run_ok 3 _ _ _ _ ?_
  simp (maxSteps := 10000000) only [go_sem, h0, vs_inR hu, hrp]
  refine sem_bslO rfl ?_
  skip
  skip
  simp (maxSteps := 10000000) only [go_sem]
  refine run_ok 4000 _ _ _ _ ?_
  simp (maxSteps := 10000000) only [go_sem]
  refine sem_rounds (fun x : Nat × List Int × List Int × List Int => x.2.1.length = C ∧ (∀ d ∈ x.2.1, -1 ≤ d ∧ d ≤ 64) ∧ (∀ t ∈ x.2.2.2, 0 ≤ t ∧ t < C) ∧ news x.2.1 + x.2.2.2.length ≤ x.1 ∧ x.1 ≤ C ∧ walkF l f x.1 x.2.1 x.2.2.2 = R)
    (fun x => [(2, .pbox 0 0), (3, .pbox 1 0), (6, .sl 2 0 C C false), (8, .sl 3 x.2.2.1.length x.2.2.2.length x.2.2.2.length false)])
    (fun x => walkM l f x.2.1 (x.2.2.1 ++ x.2.2.2)) (fun x => x.1) (C, startD C, [], [0]) [0, 1, 2, 3] ⟨?l1, ?l2, ?l3, ?l4, Nat.le_refl _, hR⟩ ?_ ?_
  case l1 => simp [startD, unseen]
  case l2 =>
    intro d hd
    rcases List.mem_or_eq_of_mem_set hd with h | h
    · simp [unseen] at h; omega
    · omega
  case l3 => intro t ht; simp at ht; subst ht; omega
  case l4 =>
    have h1 : news (unseen C C) = C := by simp [news, unseen, List.countP_replicate]
    have h2 := news_set (D := unseen C C) (i := 0) (by rw [unseen_len (Nat.le_refl _)]; omega) (by simp [unseen]) (n := 0) (Int.le_refl _)
    simp only [startD, List.length_cons, List.length_nil]; omega
  · simp only [Emb, go_sem, List.length_nil, List.length_cons, List.nil_append]
    rfl
  clear hR hz hrp hs0 hu hge hi
  rintro ⟨k, D, P, T⟩ ⟨hD, hDr, hTr, hk, hkC, hR⟩
  simp only at hD hDr hTr hk hkC hR
  cases T with
  | nil =>
    have hW : walkF l f k D [] = (D, -1) := by cases k <;> rfl
    rw [hW] at hR
    subst hR
    skip
    refine run_ok 4000 _ _ _ _ ?_
    simp (maxSteps := 10000000) only [go_sem]
    refine run_ok 4000 _ _ _ _ ?_
    simp (maxSteps := 10000000) only [go_sem]
    refine ⟨_, _, .fz 2 rfl (by simp [go_sem, iv_len, hD]) (.sub [] ?_ .done), rfl, rfl⟩
    have hs := vs_all D
    rw [hD] at hs
    simp only [EmbV, go_sem, hs]
  | cons a T =>
    have hTa := hTr a (by simp)
    obtain ⟨p, rfl⟩ : ∃ p : Nat, a = (p : Int) := ⟨a.toNat, by omega⟩
    have hpC : p < C := by omega
    cases k with
    | zero => simp at hk
    | succ k =>
      have hpc : p < f.code.length := by omega
      have hpQ : P.length < (P ++ (p : Int) :: T).length := by simp
      have hg : (P ++ (p : Int) :: T)[P.length] = (p : Int) := by simp
      have hr := iv_rint (k := .i64) hpQ
      rw [hg] at hr
      have g1 : ((T.length + 1 : Nat) : Int) > 0 := by omega
      have g2 : (0 : Int) < ((T.length + 1 : Nat) : Int) := by omega
      have g3 : (1 : Int) ≤ ((T.length + 1 : Nat) : Int) := by omega
      have g4 : (p : Int) < (C : Int) := by omega
      have hox := hops _ (List.getElem_mem hpc)
      have e0 := irows_r0 hpc; have e1 := irows_r1 hpc
      have hgx : f.code.getD p (0, 0) = f.code[p] := by rw [List.getD_eq_getElem?_getD, List.getElem?_eq_getElem hpc]; rfl
      have hDp : p < D.length := by omega
      have hdr := iv_rint (k := .i64) hDp
      have hdh := iv_hasI (k := .i64) hDp
      have hdb := hDr _ (List.getElem_mem hDp)
      have hgd := getD_at hDp
      rw [walkF] at hR
      simp only [stepF, Int.toNat_natCast, hgx, hgd] at hR
      have hs := sound_spec l f f.code[p] hox
      have hsd : soundF l f f.code[p] = true → _ := fun h => effect_spec l f.code[p] hox (by
        intro h15
        simp only [soundF, h15] at h
        simpa using h)
      have hnx := next_spec f.code[p] p hox (by omega)
      have her := eff_range (l := l) hox ha f
      have hnr : soundF l f f.code[p] = true → _ := fun h => next_range (l := l) (f := f) (x := f.code[p]) h (k := p)
      generalize f.code[p] = x at *
      obtain ⟨o, ar⟩ := x
      generalize D[p] = d at *
      simp only [imgV, fnV, insV, frow, irow] at hs hsd hnx
      skip
      simp only [hCd] at hR
      cases hsb : soundF l f (o, ar) with
      | false =>
        rw [hsb] at hs hR
        simp only [if_true] at hR
        subst hR
        simp (maxSteps := 10000000) only [go_sem, g1, g2, g3, g4, hr, iv_hasI hpQ, e0, e1, irows_h0 hpc, irows_h1 hpc, irows_len, hCd, Int.natCast_nonneg, Nat.add_zero, Nat.add_sub_cancel, hdr, hdh]
        refine run_ok 4000 _ _ _ _ ?_
        simp (maxSteps := 10000000) only [go_sem, g1, g2, g3, g4, hr, iv_hasI hpQ, e0, e1, irows_h0 hpc, irows_h1 hpc, irows_len, hCd, Int.natCast_nonneg, Nat.add_zero, Nat.add_sub_cancel, hdr, hdh]
        refine sem_call rfl rfl (((hs).embed [] rfl trivial rfl rfl rfl (by simp)).mono ?_)
        rintro _ _ ⟨_, _, ⟨rfl, rfl⟩, rfl, rfl⟩
        refine run_ok 4000 _ _ _ _ ?_
        simp (maxSteps := 10000000) only [go_sem, g1, g2, g3, g4, hr, iv_hasI hpQ, e0, e1, irows_h0 hpc, irows_h1 hpc, irows_len, hCd, Int.natCast_nonneg, Nat.add_zero, Nat.add_sub_cancel, hdr, hdh]
        refine ⟨_, _, .like (Like.tup2 (Like.nilv 1 false) (Like.refl _)) (.sub [] ?_ .done), rfl, rfl⟩
        simp only [EmbV, go_sem, iv, List.map_nil]
      | true =>
      rw [hsb] at hs hR
      have hsd := hsd hsb
      have her := her hsb
      have hnr := hnr hsb
      simp only [Bool.true_eq_false, if_false] at hR
      generalize he : effF l (o, ar) = e at *
      obtain ⟨tk, lv⟩ := e
      simp only at hsd her hR
      have w1 : iwrap .i64 (d - tk) = d - tk := iwrap_i64_in (by omega)
      have w2 : iwrap .i64 (d - tk + lv) = d - tk + lv := iwrap_i64_in (by omega)
      by_cases c1 : d < tk
      · rw [if_pos (.inl c1)] at hR
        simp only at hR
        subst hR
        skip
        simp (maxSteps := 10000000) only [go_sem, g1, g2, g3, g4, hr, iv_hasI hpQ, e0, e1, irows_h0 hpc, irows_h1 hpc, irows_len, hCd, Int.natCast_nonneg, Nat.add_zero, Nat.add_sub_cancel, hdr, hdh, w1, w2, c1]
        refine run_ok 4000 _ _ _ _ ?_
        simp (maxSteps := 10000000) only [go_sem, g1, g2, g3, g4, hr, iv_hasI hpQ, e0, e1, irows_h0 hpc, irows_h1 hpc, irows_len, hCd, Int.natCast_nonneg, Nat.add_zero, Nat.add_sub_cancel, hdr, hdh, w1, w2, c1]
        refine sem_call rfl rfl (((hs).embed [] rfl trivial rfl rfl rfl (by simp)).mono ?_)
        rintro _ _ ⟨_, _, ⟨rfl, rfl⟩, rfl, rfl⟩
        refine run_ok 4000 _ _ _ _ ?_
        simp (maxSteps := 10000000) only [go_sem, g1, g2, g3, g4, hr, iv_hasI hpQ, e0, e1, irows_h0 hpc, irows_h1 hpc, irows_len, hCd, Int.natCast_nonneg, Nat.add_zero, Nat.add_sub_cancel, hdr, hdh, w1, w2, c1]
        refine sem_call rfl rfl (((hsd).embed [] rfl trivial rfl rfl rfl (by simp)).mono ?_)
        rintro _ _ ⟨_, _, ⟨rfl, rfl⟩, rfl, rfl⟩
        refine run_ok 4000 _ _ _ _ ?_
        simp (maxSteps := 10000000) only [go_sem, g1, g2, g3, g4, hr, iv_hasI hpQ, e0, e1, irows_h0 hpc, irows_h1 hpc, irows_len, hCd, Int.natCast_nonneg, Nat.add_zero, Nat.add_sub_cancel, hdr, hdh, w1, w2, c1]
        refine ⟨_, _, .like (Like.tup2 (Like.nilv 1 false) (Like.refl _)) (.sub [] ?_ .done), rfl, rfl⟩
        simp only [EmbV, go_sem, iv, List.map_nil]
      by_cases c2 : d - tk + lv > 64
      · rw [if_pos (.inr (.inl c2))] at hR
        simp only at hR
        subst hR
        skip
        simp (maxSteps := 10000000) only [go_sem, g1, g2, g3, g4, hr, iv_hasI hpQ, e0, e1, irows_h0 hpc, irows_h1 hpc, irows_len, hCd, Int.natCast_nonneg, Nat.add_zero, Nat.add_sub_cancel, hdr, hdh, w1, w2, c1, c2]
        refine run_ok 4000 _ _ _ _ ?_
        simp (maxSteps := 10000000) only [go_sem, g1, g2, g3, g4, hr, iv_hasI hpQ, e0, e1, irows_h0 hpc, irows_h1 hpc, irows_len, hCd, Int.natCast_nonneg, Nat.add_zero, Nat.add_sub_cancel, hdr, hdh, w1, w2, c1, c2]
        refine sem_call rfl rfl (((hs).embed [] rfl trivial rfl rfl rfl (by simp)).mono ?_)
        rintro _ _ ⟨_, _, ⟨rfl, rfl⟩, rfl, rfl⟩
        refine run_ok 4000 _ _ _ _ ?_
        simp (maxSteps := 10000000) only [go_sem, g1, g2, g3, g4, hr, iv_hasI hpQ, e0, e1, irows_h0 hpc, irows_h1 hpc, irows_len, hCd, Int.natCast_nonneg, Nat.add_zero, Nat.add_sub_cancel, hdr, hdh, w1, w2, c1, c2]
        refine sem_call rfl rfl (((hsd).embed [] rfl trivial rfl rfl rfl (by simp)).mono ?_)
        rintro _ _ ⟨_, _, ⟨rfl, rfl⟩, rfl, rfl⟩
        refine run_ok 4000 _ _ _ _ ?_
        simp (maxSteps := 10000000) only [go_sem, g1, g2, g3, g4, hr, iv_hasI hpQ, e0, e1, irows_h0 hpc, irows_h1 hpc, irows_len, hCd, Int.natCast_nonneg, Nat.add_zero, Nat.add_sub_cancel, hdr, hdh, w1, w2, c1, c2]
        refine ⟨_, _, .like (Like.tup2 (Like.nilv 1 false) (Like.refl _)) (.sub [] ?_ .done), rfl, rfl⟩
        simp only [EmbV, go_sem, iv, List.map_nil]
      by_cases c3 : o = 16
      · subst c3
        by_cases c4 : d = 1
        · rw [if_neg (by omega)] at hR
          have q4 : (d != 1) = false := by simp [c4]
          skip
          simp (maxSteps := 10000000) only [go_sem, g1, g2, g3, g4, hr, iv_hasI hpQ, e0, e1, irows_h0 hpc, irows_h1 hpc, irows_len, hCd, Int.natCast_nonneg, Nat.add_zero, Nat.add_sub_cancel, hdr, hdh, w1, w2, c1, c2, q4]
          refine run_ok 4000 _ _ _ _ ?_
          simp (maxSteps := 10000000) only [go_sem, g1, g2, g3, g4, hr, iv_hasI hpQ, e0, e1, irows_h0 hpc, irows_h1 hpc, irows_len, hCd, Int.natCast_nonneg, Nat.add_zero, Nat.add_sub_cancel, hdr, hdh, w1, w2, c1, c2, q4]
          refine sem_call rfl rfl (((hs).embed [] rfl trivial rfl rfl rfl (by simp)).mono ?_)
          rintro _ _ ⟨_, _, ⟨rfl, rfl⟩, rfl, rfl⟩
          refine run_ok 4000 _ _ _ _ ?_
          simp (maxSteps := 10000000) only [go_sem, g1, g2, g3, g4, hr, iv_hasI hpQ, e0, e1, irows_h0 hpc, irows_h1 hpc, irows_len, hCd, Int.natCast_nonneg, Nat.add_zero, Nat.add_sub_cancel, hdr, hdh, w1, w2, c1, c2, q4]
          refine sem_call rfl rfl (((hsd).embed [] rfl trivial rfl rfl rfl (by simp)).mono ?_)
          rintro _ _ ⟨_, _, ⟨rfl, rfl⟩, rfl, rfl⟩
          refine run_ok 4000 _ _ _ _ ?_
          simp (maxSteps := 10000000) only [go_sem, g1, g2, g3, g4, hr, iv_hasI hpQ, e0, e1, irows_h0 hpc, irows_h1 hpc, irows_len, hCd, Int.natCast_nonneg, Nat.add_zero, Nat.add_sub_cancel, hdr, hdh, w1, w2, c1, c2, q4]
          refine sem_call rfl rfl (((hnx).embed [] rfl trivial rfl rfl rfl (by simp)).mono ?_)
          rintro _ _ ⟨_, _, ⟨rfl, rfl⟩, rfl, rfl⟩
          refine run_ok 4000 _ _ _ _ ?_
          simp (maxSteps := 10000000) only [go_sem, g1, g2, g3, g4, hr, iv_hasI hpQ, e0, e1, irows_h0 hpc, irows_h1 hpc, irows_len, hCd, Int.natCast_nonneg, Nat.add_zero, Nat.add_sub_cancel, hdr, hdh, w1, w2, c1, c2, q4]
          generalize nextF (16, ar) ↑p = N at *
          clear hnx hs hsd
          obtain ⟨hN2, hN0⟩ := hnr
          have hn0 : 0 ≤ d - tk + lv := by omega
          have hn64 : d - tk + lv ≤ 64 := by omega
          generalize d - tk + lv = n at *
          generalize hG : goesF C n N D T = G at *
          refine sem_rounds (fun x : Nat × List Int × List Int × List Int => x.1 ≤ N.length ∧ x.2.1.length = C ∧ (∀ d ∈ x.2.1, -1 ≤ d ∧ d ≤ 64) ∧ (∀ t ∈ x.2.2.2, 0 ≤ t ∧ t < C) ∧ news x.2.1 + x.2.2.2.length ≤ k ∧ goesF C n (N.drop x.1) x.2.1 x.2.2.2 = G)
            (fun x => [(2, .pbox 0 0), (3, .pbox 1 0), (6, .sl 2 0 C C false), (8, .sl 3 x.2.2.1.length x.2.2.2.length x.2.2.2.length false), (9, .int .i64 p), (13, .int .i64 n), (90, .vsl 1 (iv .i64 N) false), (91, .int .i64 N.length), (92, .int .i64 (x.1 : Nat))])
            (fun x => walkM l f x.2.1 (x.2.2.1 ++ x.2.2.2)) (fun x => N.length - x.1) (0, D, P ++ [(p : Int)], T) [0, 1, 2, 3]
            ⟨Nat.zero_le _, hD, hDr, fun t ht => hTr t (by simp [ht]), by simp only [List.length_cons] at hk ⊢; omega, hG⟩ ?_ ?_
          · simp only [Emb, go_sem, iv_len, List.length_append, List.append_assoc]
          rintro ⟨j, D', P', T'⟩ ⟨k1, k2, k3, k4, k5, k6⟩
          simp only at k1 k2 k3 k4 k5 k6
          skip
          refine run_ok 4000 _ _ _ _ ?_
          simp (maxSteps := 10000000) only [go_sem, iv_len]
          refine ⟨fun hlt => ?_, fun hge => ?_⟩
          · have hj : j < N.length := by omega
            have hin : (j : Int) < (N.length : Int) := by omega
            obtain ⟨q, hq⟩ : ∃ q : Nat, N[j] = (q : Int) := ⟨N[j].toNat, by have := hN0 _ (List.getElem_mem hj); omega⟩
            have r0 := iv_rint (k := .i64) hj
            rw [hq] at r0
            rw [List.drop_eq_getElem_cons hj, hq, goesF, Int.toNat_natCast] at k6
            have inc := inc64 (show j < 1000000000000 by omega)
            by_cases b1 : C ≤ q
            · rw [if_pos (.inl (by omega))] at k6
              subst k6
              simp only at hR
              subst hR
              have b1' : (q : Int) ≥ (C : Int) := by omega
              skip
              simp (maxSteps := 10000000) only [go_sem, iv_len, iv_hasI hj, r0, hin, b1', irows_len, hCd, inc, Int.natCast_nonneg]
              refine ⟨_, _, .like (Like.tup2 (Like.nilv 1 false) (Like.refl _)) (.sub [] ?_ .done), rfl, rfl⟩
              simp only [EmbV, go_sem, iv, List.map_nil]
            have b1' : ¬ (q : Int) ≥ (C : Int) := by omega
            have b1'' : (q : Int) < (C : Int) := by omega
            have hq1 : q < D'.length := by omega
            have hqd := getD_at hq1
            have hqr := iv_rint (k := .i64) hq1
            have hqh := iv_hasI (k := .i64) hq1
            have hqi := vs_inR hq1
            rw [hqd] at k6
            have hqb := k3 _ (List.getElem_mem hq1)
            by_cases b2 : D'[q] ≥ 0
            · have b2' : ¬ D'[q] < 0 := by omega
              by_cases b3 : D'[q] = n
              · rw [if_neg (by omega), if_neg b2'] at k6
                have b3' : (D'[q] != n) = false := by simp [b3]
                generalize D'[q] = dq at *
                skip
                simp (maxSteps := 10000000) only [go_sem, iv_len, iv_hasI hj, r0, hin, b1', b1'', irows_len, hCd, inc, Int.natCast_nonneg, hqr, hqh, b2, b2', b3']
                refine ⟨(j + 1, D', P', T'), by simp only; omega, ⟨by simp only; omega, k2, k3, k4, k5, k6⟩, [0, 1, 2, 3], ?_⟩
                simp only [Emb, go_sem]
              · rw [if_pos (.inr ⟨b2, b3⟩)] at k6
                subst k6
                simp only at hR
                subst hR
                have b3' : (D'[q] != n) = true := by simp [b3]
                generalize D'[q] = dq at *
                skip
                simp (maxSteps := 10000000) only [go_sem, iv_len, iv_hasI hj, r0, hin, b1', b1'', irows_len, hCd, inc, Int.natCast_nonneg, hqr, hqh, b2, b2', b3']
                refine ⟨_, _, .like (Like.tup2 (Like.nilv 1 false) (Like.refl _)) (.sub [] ?_ .done), rfl, rfl⟩
                simp only [EmbV, go_sem, iv, List.map_nil]
            · have b2' : D'[q] < 0 := by omega
              rw [if_neg (by omega), if_pos b2'] at k6
              have hns := news_set hq1 b2' hn0
              have hrp := vs_rput hq1 n
              have hone : [[AV.int .i64 (q : Int)]] = iv .i64 [(q : Int)] := rfl
              have hmd := vs_mid P' T'
              generalize D'[q] = dq at *
              skip
              simp (maxSteps := 10000000) only [go_sem, iv_len, iv_hasI hj, r0, hin, b1', b1'', irows_len, hCd, inc, Int.natCast_nonneg, hqr, hqh, hqi, hrp, b2, b2', hone, hmd, vs_app]
              refine ⟨⟨by simp, by unfold small; omega⟩, (j + 1, D'.set q n, [], T' ++ [(q : Int)]), by simp only; omega, ⟨by simp only; omega, by simp only [List.length_set]; exact k2, ?_, ?_, ?_, k6⟩, [0, 1, 2, 4], ?_⟩
              · intro d' hd'
                rcases List.mem_or_eq_of_mem_set hd' with h | h
                · exact k3 _ h
                · rw [h]; omega
              · intro t ht
                rcases List.mem_append.1 ht with h | h
                · exact k4 _ h
                · simp at h; rw [h]; omega
              · simp only [List.length_append, List.length_cons, List.length_nil]; omega
              · simp only [Emb, go_sem, List.length_append, List.length_nil, List.nil_append]
          · have hjN : j = N.length := by omega
            rw [hjN, List.drop_length, goesF] at k6
            subst k6
            simp only at hR
            skip
            refine run_ok 4000 _ _ _ _ ?_
            simp (maxSteps := 10000000) only [go_sem]
            refine ⟨(k, D', P', T'), by simp only; omega, ⟨k2, k3, k4, k5, by simp only; omega, hR⟩, [0, 1, 2, 3], ?_⟩
            simp only [Emb, go_sem]
        · rw [if_pos (.inr (.inr ⟨rfl, c4⟩))] at hR
          simp only at hR
          subst hR
          have q4 : (d != 1) = true := by simp [c4]
          skip
          simp (maxSteps := 10000000) only [go_sem, g1, g2, g3, g4, hr, iv_hasI hpQ, e0, e1, irows_h0 hpc, irows_h1 hpc, irows_len, hCd, Int.natCast_nonneg, Nat.add_zero, Nat.add_sub_cancel, hdr, hdh, w1, w2, c1, c2, q4]
          refine run_ok 4000 _ _ _ _ ?_
          simp (maxSteps := 10000000) only [go_sem, g1, g2, g3, g4, hr, iv_hasI hpQ, e0, e1, irows_h0 hpc, irows_h1 hpc, irows_len, hCd, Int.natCast_nonneg, Nat.add_zero, Nat.add_sub_cancel, hdr, hdh, w1, w2, c1, c2, q4]
          refine sem_call rfl rfl (((hs).embed [] rfl trivial rfl rfl rfl (by simp)).mono ?_)
          rintro _ _ ⟨_, _, ⟨rfl, rfl⟩, rfl, rfl⟩
          refine run_ok 4000 _ _ _ _ ?_
          simp (maxSteps := 10000000) only [go_sem, g1, g2, g3, g4, hr, iv_hasI hpQ, e0, e1, irows_h0 hpc, irows_h1 hpc, irows_len, hCd, Int.natCast_nonneg, Nat.add_zero, Nat.add_sub_cancel, hdr, hdh, w1, w2, c1, c2, q4]
          refine sem_call rfl rfl (((hsd).embed [] rfl trivial rfl rfl rfl (by simp)).mono ?_)
          rintro _ _ ⟨_, _, ⟨rfl, rfl⟩, rfl, rfl⟩
          refine run_ok 4000 _ _ _ _ ?_
          simp (maxSteps := 10000000) only [go_sem, g1, g2, g3, g4, hr, iv_hasI hpQ, e0, e1, irows_h0 hpc, irows_h1 hpc, irows_len, hCd, Int.natCast_nonneg, Nat.add_zero, Nat.add_sub_cancel, hdr, hdh, w1, w2, c1, c2, q4]
          refine ⟨_, _, .like (Like.tup2 (Like.nilv 1 false) (Like.refl _)) (.sub [] ?_ .done), rfl, rfl⟩
          simp only [EmbV, go_sem, iv, List.map_nil]
      · rw [if_neg (by omega)] at hR
        have q4 : (o == 16) = false := by simp [c3]
        skip
        simp (maxSteps := 10000000) only [go_sem, g1, g2, g3, g4, hr, iv_hasI hpQ, e0, e1, irows_h0 hpc, irows_h1 hpc, irows_len, hCd, Int.natCast_nonneg, Nat.add_zero, Nat.add_sub_cancel, hdr, hdh, w1, w2, c1, c2, q4]
        refine run_ok 4000 _ _ _ _ ?_
        simp (maxSteps := 10000000) only [go_sem, g1, g2, g3, g4, hr, iv_hasI hpQ, e0, e1, irows_h0 hpc, irows_h1 hpc, irows_len, hCd, Int.natCast_nonneg, Nat.add_zero, Nat.add_sub_cancel, hdr, hdh, w1, w2, c1, c2, q4]
        refine sem_call rfl rfl (((hs).embed [] rfl trivial rfl rfl rfl (by simp)).mono ?_)
        rintro _ _ ⟨_, _, ⟨rfl, rfl⟩, rfl, rfl⟩
        refine run_ok 4000 _ _ _ _ ?_
        simp (maxSteps := 10000000) only [go_sem, g1, g2, g3, g4, hr, iv_hasI hpQ, e0, e1, irows_h0 hpc, irows_h1 hpc, irows_len, hCd, Int.natCast_nonneg, Nat.add_zero, Nat.add_sub_cancel, hdr, hdh, w1, w2, c1, c2, q4]
        refine sem_call rfl rfl (((hsd).embed [] rfl trivial rfl rfl rfl (by simp)).mono ?_)
        rintro _ _ ⟨_, _, ⟨rfl, rfl⟩, rfl, rfl⟩
        refine run_ok 4000 _ _ _ _ ?_
        simp (maxSteps := 10000000) only [go_sem, g1, g2, g3, g4, hr, iv_hasI hpQ, e0, e1, irows_h0 hpc, irows_h1 hpc, irows_len, hCd, Int.natCast_nonneg, Nat.add_zero, Nat.add_sub_cancel, hdr, hdh, w1, w2, c1, c2, q4]
        refine sem_call rfl rfl (((hnx).embed [] rfl trivial rfl rfl rfl (by simp)).mono ?_)
        rintro _ _ ⟨_, _, ⟨rfl, rfl⟩, rfl, rfl⟩
        refine run_ok 4000 _ _ _ _ ?_
        simp (maxSteps := 10000000) only [go_sem, g1, g2, g3, g4, hr, iv_hasI hpQ, e0, e1, irows_h0 hpc, irows_h1 hpc, irows_len, hCd, Int.natCast_nonneg, Nat.add_zero, Nat.add_sub_cancel, hdr, hdh, w1, w2, c1, c2, q4]
        generalize nextF (o, ar) ↑p = N at *
        clear hnx hs hsd
        obtain ⟨hN2, hN0⟩ := hnr
        have hn0 : 0 ≤ d - tk + lv := by omega
        have hn64 : d - tk + lv ≤ 64 := by omega
        generalize d - tk + lv = n at *
        generalize hG : goesF C n N D T = G at *
        refine sem_rounds (fun x : Nat × List Int × List Int × List Int => x.1 ≤ N.length ∧ x.2.1.length = C ∧ (∀ d ∈ x.2.1, -1 ≤ d ∧ d ≤ 64) ∧ (∀ t ∈ x.2.2.2, 0 ≤ t ∧ t < C) ∧ news x.2.1 + x.2.2.2.length ≤ k ∧ goesF C n (N.drop x.1) x.2.1 x.2.2.2 = G)
          (fun x => [(2, .pbox 0 0), (3, .pbox 1 0), (6, .sl 2 0 C C false), (8, .sl 3 x.2.2.1.length x.2.2.2.length x.2.2.2.length false), (9, .int .i64 p), (13, .int .i64 n), (90, .vsl 1 (iv .i64 N) false), (91, .int .i64 N.length), (92, .int .i64 (x.1 : Nat))])
          (fun x => walkM l f x.2.1 (x.2.2.1 ++ x.2.2.2)) (fun x => N.length - x.1) (0, D, P ++ [(p : Int)], T) [0, 1, 2, 3]
          ⟨Nat.zero_le _, hD, hDr, fun t ht => hTr t (by simp [ht]), by simp only [List.length_cons] at hk ⊢; omega, hG⟩ ?_ ?_
        · simp only [Emb, go_sem, iv_len, List.length_append, List.append_assoc]
        rintro ⟨j, D', P', T'⟩ ⟨k1, k2, k3, k4, k5, k6⟩
        simp only at k1 k2 k3 k4 k5 k6
        skip
        refine run_ok 4000 _ _ _ _ ?_
        simp (maxSteps := 10000000) only [go_sem, iv_len]
        refine ⟨fun hlt => ?_, fun hge => ?_⟩
        · have hj : j < N.length := by omega
          have hin : (j : Int) < (N.length : Int) := by omega
          obtain ⟨q, hq⟩ : ∃ q : Nat, N[j] = (q : Int) := ⟨N[j].toNat, by have := hN0 _ (List.getElem_mem hj); omega⟩
          have r0 := iv_rint (k := .i64) hj
          rw [hq] at r0
          rw [List.drop_eq_getElem_cons hj, hq, goesF, Int.toNat_natCast] at k6
          have inc := inc64 (show j < 1000000000000 by omega)
          by_cases b1 : C ≤ q
          · rw [if_pos (.inl (by omega))] at k6
            subst k6
            simp only at hR
            subst hR
            have b1' : (q : Int) ≥ (C : Int) := by omega
            skip
            simp (maxSteps := 10000000) only [go_sem, iv_len, iv_hasI hj, r0, hin, b1', irows_len, hCd, inc, Int.natCast_nonneg]
            refine ⟨_, _, .like (Like.tup2 (Like.nilv 1 false) (Like.refl _)) (.sub [] ?_ .done), rfl, rfl⟩
            simp only [EmbV, go_sem, iv, List.map_nil]
          have b1' : ¬ (q : Int) ≥ (C : Int) := by omega
          have b1'' : (q : Int) < (C : Int) := by omega
          have hq1 : q < D'.length := by omega
          have hqd := getD_at hq1
          have hqr := iv_rint (k := .i64) hq1
          have hqh := iv_hasI (k := .i64) hq1
          have hqi := vs_inR hq1
          rw [hqd] at k6
          have hqb := k3 _ (List.getElem_mem hq1)
          by_cases b2 : D'[q] ≥ 0
          · have b2' : ¬ D'[q] < 0 := by omega
            by_cases b3 : D'[q] = n
            · rw [if_neg (by omega), if_neg b2'] at k6
              have b3' : (D'[q] != n) = false := by simp [b3]
              generalize D'[q] = dq at *
              skip
              simp (maxSteps := 10000000) only [go_sem, iv_len, iv_hasI hj, r0, hin, b1', b1'', irows_len, hCd, inc, Int.natCast_nonneg, hqr, hqh, b2, b2', b3']
              refine ⟨(j + 1, D', P', T'), by simp only; omega, ⟨by simp only; omega, k2, k3, k4, k5, k6⟩, [0, 1, 2, 3], ?_⟩
              simp only [Emb, go_sem]
            · rw [if_pos (.inr ⟨b2, b3⟩)] at k6
              subst k6
              simp only at hR
              subst hR
              have b3' : (D'[q] != n) = true := by simp [b3]
              generalize D'[q] = dq at *
              skip
              simp (maxSteps := 10000000) only [go_sem, iv_len, iv_hasI hj, r0, hin, b1', b1'', irows_len, hCd, inc, Int.natCast_nonneg, hqr, hqh, b2, b2', b3']
              refine ⟨_, _, .like (Like.tup2 (Like.nilv 1 false) (Like.refl _)) (.sub [] ?_ .done), rfl, rfl⟩
              simp only [EmbV, go_sem, iv, List.map_nil]
          · have b2' : D'[q] < 0 := by omega
            rw [if_neg (by omega), if_pos b2'] at k6
            have hns := news_set hq1 b2' hn0
            have hrp := vs_rput hq1 n
            have hone : [[AV.int .i64 (q : Int)]] = iv .i64 [(q : Int)] := rfl
            have hmd := vs_mid P' T'
            generalize D'[q] = dq at *
            skip
            simp (maxSteps := 10000000) only [go_sem, iv_len, iv_hasI hj, r0, hin, b1', b1'', irows_len, hCd, inc, Int.natCast_nonneg, hqr, hqh, hqi, hrp, b2, b2', hone, hmd, vs_app]
            refine ⟨⟨by simp, by unfold small; omega⟩, (j + 1, D'.set q n, [], T' ++ [(q : Int)]), by simp only; omega, ⟨by simp only; omega, by simp only [List.length_set]; exact k2, ?_, ?_, ?_, k6⟩, [0, 1, 2, 4], ?_⟩
            · intro d' hd'
              rcases List.mem_or_eq_of_mem_set hd' with h | h
              · exact k3 _ h
              · rw [h]; omega
            · intro t ht
              rcases List.mem_append.1 ht with h | h
              · exact k4 _ h
              · simp at h; rw [h]; omega
            · simp only [List.length_append, List.length_cons, List.length_nil]; omega
            · simp only [Emb, go_sem, List.length_append, List.length_nil, List.nil_append]
        · have hjN : j = N.length := by omega
          rw [hjN, List.drop_length, goesF] at k6
          subst k6
          simp only at hR
          skip
          refine run_ok 4000 _ _ _ _ ?_
          simp (maxSteps := 10000000) only [go_sem]
          refine ⟨(k, D', P', T'), by simp only; omega, ⟨k2, k3, k4, k5, by simp only; omega, hR⟩, [0, 1, 2, 3], ?_⟩
          simp only [Emb, go_sem]
end Go.AEX
