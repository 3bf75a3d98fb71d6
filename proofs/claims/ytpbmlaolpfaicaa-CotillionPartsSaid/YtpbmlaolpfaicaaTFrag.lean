/- Turned to this seat by turn.py: Frag.lean Frag2.lean. -/
import Derived.Test.YtpbmlaolpfaicaaTWire
namespace Go.AEX
open Go Go.AE Go.Proofs
set_option maxRecDepth 100000
set_option linter.unusedVariables false
set_option linter.unusedSimpArgs false

abbrev Part := Bool × List UInt8
def prow (p : Part) : List AV := [.bool p.1, .str p.2]
def prows (l : List Part) : List (List AV) := l.map prow
theorem prows_len (l : List Part) : (prows l).length = l.length := by simp [prows]
theorem prows_app (l k : List Part) : prows l ++ prows k = prows (l ++ k) := by simp [prows]
theorem sub_prows (l : List Part) : sub (prows l) 0 l.length = prows l := by
  have := sub_all (prows l); rwa [prows_len] at this
theorem prow_one (p : Part) : [[AV.bool p.1, AV.str p.2]] = prows [p] := rfl
def cutP (s : List UInt8) : List Part := if 200 < s.length then (false, s.take 200) :: cutP (s.drop 200) else [(true, s)]
termination_by s.length
decreasing_by simp; omega
theorem cutP_more {s : List UInt8} (h : 200 < s.length) : cutP s = (false, s.take 200) :: cutP (s.drop 200) := by rw [cutP, if_pos h]
theorem cutP_last {s : List UInt8} (h : s.length ≤ 200) : cutP s = [(true, s)] := by rw [cutP, if_neg (by omega)]
theorem cutP_len : ∀ (k : Nat) (s : List UInt8), s.length ≤ 200 * (k + 1) → (cutP s).length ≤ k + 1
  | 0, s, h => by rw [cutP_last (by omega)]; simp
  | k + 1, s, h => by
    by_cases h1 : 200 < s.length
    · rw [cutP_more h1]; have := cutP_len k (s.drop 200) (by simp; omega); simp; omega
    · rw [cutP_last (by omega)]; simp
attribute [go_sem] prows_len sub_prows prows_app
theorem fcut_spec (s : List UInt8) (hs : s.length ≤ 65536) : Tri Try.prog 19 [.str s] [] (fun v m => v = .tup [.vsl 2 (prows (cutP s)) false, .int .i64 0] ∧ m = []) := by
  refine Tri.sub (Tri.fz 1 ?_)
  refine (Tri.enter (rl := r19) (code := c19) (by kernel_rfl) Try.func19 rfl c19_ok (by kernel_rfl) (by kernel_rfl) ?_)
  refine run_ok 4000 _ _ _ _ ?_
  simp (maxSteps := 10000000) only [go_sem, c19, r19]
  have h0 : ¬ (s.length : Int) > 65536 := by omega
  simp only [h0, go_sem]
  refine sem_virt 4 2 rfl ?_
  simp only [go_sem]
  have hl := cutP_len 327 s (by omega)
  refine sem_rounds (fun x : List Part × List UInt8 => x.1 ++ cutP x.2 = cutP s ∧ x.2.length ≤ s.length) (fun x => [(0, .str x.2), (4, .sl 0 0 x.1.length x.1.length false)]) (fun x => [.row 2 (prows x.1)]) (fun x => x.2.length) ([], s) [0] ⟨rfl, Nat.le_refl _⟩ ?_ ?_
  · simp only [Emb, go_sem]; simp [prows]
  rintro ⟨l, r⟩ ⟨h1, h2⟩
  simp only at h1 h2
  have h3 : l.length + (cutP r).length ≤ 328 := by have := congrArg List.length h1; simp at this; omega
  refine run_ok 4000 _ _ _ _ ?_
  simp (maxSteps := 10000000) only [go_sem]
  refine ⟨fun hm => ?_, fun hm => ?_⟩
  · have hm : 200 < r.length := by omega
    rw [cutP_more hm] at h1 h3
    simp only [List.length_cons] at h3
    refine ⟨by omega, by unfold small; omega, by omega, (l ++ [(false, r.take 200)], r.drop 200), by simp; omega, ⟨by simp only; rw [← h1]; simp, by simp; omega⟩, [1], ?_⟩
    simp only [Emb, go_sem, prow_one (false, _)]
    simp
  · refine run_ok 4000 _ _ _ _ ?_
    simp (maxSteps := 10000000) only [go_sem]
    rw [cutP_last (by omega)] at h1 h3
    simp only [prow_one (true, _), go_sem]
    refine ⟨by unfold small; simp at h3; omega, _, _, _, rfl, by simp, [], _, [], ?_, rfl, rfl⟩
    simp only [EmbV, go_sem]
    have e : l.length + 1 = (l ++ [(true, r)]).length := by simp
    rw [e, sub_prows, h1]
def partB (p : Part) : List UInt8 := (if p.1 then 1 else 0) :: p.2
theorem bytes_spec (b : Bool) (s : List UInt8) (hs : s.length ≤ 1000000) : Tri Try.prog 21 [.agg [.bsym b, .str s]] [] (fun v m => v = .str (partB (b, s)) ∧ m = []) := by
  skip
  refine (Tri.sub (Tri.enter (rl := r21) (code := c21) (by kernel_rfl) Try.func21 rfl c21_ok (by kernel_rfl) (by kernel_rfl) ?_))
  refine run_ok 4000 _ _ _ _ ?_
  simp (maxSteps := 10000000) only [go_sem, c21, r21]
  refine ⟨fun h => ⟨by simp; omega, [], _, [], ?_, rfl, rfl⟩, fun h => ⟨by simp; omega, [], _, [], ?_, rfl, rfl⟩⟩
  · simp only [EmbV, go_sem, partB, h] <;> simp
  · simp only [EmbV, go_sem, partB, h] <;> simp
def parseP : List UInt8 → Part × Int
  | [] => ((false, []), 1)
  | c :: s => if 1 < c then ((false, []), 2) else if 200 < s.length then ((false, []), 3) else ((c == 1, s), 0)
theorem sget_zero (c : UInt8) (s : List UInt8) : sget (c :: s) 0 = (c.toNat : Int) := rfl
theorem parse_spec (s : List UInt8) (hs : s.length ≤ 1000000) : Tri Try.prog 24 [.str s] [] (fun v m => v = .tup [.agg [.bsym (parseP s).1.1, .str (parseP s).1.2], .int .i64 (parseP s).2] ∧ m = []) := by
  refine Tri.sub (Tri.like ?_)
  cases s with
  | nil =>
    refine (Tri.enter (rl := r24) (code := c24) (by kernel_rfl) Try.func24 rfl c24_ok (by kernel_rfl) (by kernel_rfl) ?_)
    refine run_ok 4000 _ _ _ _ ?_
    simp (maxSteps := 10000000) only [go_sem, c24, r24]
    refine ⟨_, Like.tup2 (Like.agg2 (Like.bsym _) (Like.refl _)) (Like.refl _), [], _, [], ?_, rfl, rfl⟩
    simp only [EmbV, go_sem]
    simp [parseP, *]
  | cons c s =>
    have hc : (sget (c :: s) 0 > 1) = (1 < c) := by
      rw [sget_zero, UInt8.lt_iff_toNat_lt]; simp; omega
    simp only [List.length_cons] at hs
    skip
    refine (Tri.enter (rl := r24) (code := c24) (by kernel_rfl) Try.func24 rfl c24_ok (by kernel_rfl) (by kernel_rfl) ?_)
    refine run_ok 4000 _ _ _ _ ?_
    simp (maxSteps := 10000000) only [go_sem, c24, r24, hc]
    refine ⟨by omega, fun h => ?_, fun h1 => ⟨fun h => ?_, fun h2 => ?_⟩⟩
    · refine ⟨_, Like.tup2 (Like.agg2 (Like.bsym _) (Like.refl _)) (Like.refl _), [], _, [], ?_, rfl, rfl⟩
      simp only [EmbV, go_sem]
      simp [parseP, *]
    · have : 200 < s.length := by omega
      refine ⟨_, Like.tup2 (Like.agg2 (Like.bsym _) (Like.refl _)) (Like.refl _), [], _, [], ?_, rfl, rfl⟩
      simp only [EmbV, go_sem]
      simp [parseP, *]
    · have : ¬ 200 < s.length := by omega
      refine sem_drawG l24_0_ok (by kernel_rfl) ?_
      intro KK hKK
      simp (maxSteps := 10000000) only [go_sem, l24_0, hc]
      subst hKK
      simp (maxSteps := 10000000) only [go_sem, hc]
      refine ⟨by omega, by omega, _, Like.refl _, [], _, [], ?_, rfl, rfl⟩
      have e1 : (sget (c :: s) 0 == 1) = (c == 1) := by rw [sget_zero]; exact u8_beq c 1
      have e2 : ssub (c :: s) 1 (s.length + 1) = s := by simp [ssub]
      simp only [EmbV, go_sem, e1, e2]
      simp [parseP, *]
def putBig (s t : List UInt8) : Bool := decide (200 < t.length) || decide (65536 < s.length + t.length)
def putS (s : List UInt8) (n : Nat) (b : Bool) (t : List UInt8) : List UInt8 × Nat := if putBig s t then (s, n) else if b then ([], 0) else (s ++ t, n + 1)
def putV (s : List UInt8) (b : Bool) (t : List UInt8) : List UInt8 × Bool × Int := if putBig s t then ([], false, 3) else if b then (s ++ t, true, 0) else ([], false, 0)
theorem put_spec (s : List UInt8) (n : Nat) (b : Bool) (t : List UInt8) (hs : s.length ≤ 1000000) (ht : t.length ≤ 1000000) (hn : n ≤ 1000000) :
    Tri Try.prog 59 [.pbox 0 0, .agg [.bsym b, .str t]] [.box [.str s, .int .i64 (n : Nat)]]
      (fun v m => v = .tup [.str (putV s b t).1, .bsym (putV s b t).2.1, .int .i64 (putV s b t).2.2] ∧ m = [.box [.str (putS s n b t).1, .int .i64 ((putS s n b t).2 : Nat)]]) := by
  have hw : iwrap .i64 ((s.length : Int) + (t.length : Int)) = ((s.length + t.length : Nat) : Int) := by rw [iwrap_i64_in (by omega)]; rfl
  refine Tri.sub (Tri.like ?_)
  skip
  refine (Tri.enter (rl := r59) (code := c59) (by kernel_rfl) Try.func59 rfl c59_ok (by kernel_rfl) (by kernel_rfl) ?_)
  refine run_ok 4000 _ _ _ _ ?_
  simp (maxSteps := 10000000) only [go_sem, c59, r59, hw]
  refine sem_drawG l59_0_ok (by kernel_rfl) ?_
  intro KK hKK
  simp (maxSteps := 10000000) only [go_sem, l59_0, hw]
  subst hKK
  simp (maxSteps := 10000000) only [go_sem, hw]
  refine ⟨fun h => ?_, fun h1 => ⟨fun h => ?_, fun h2 => ?_⟩⟩
  · have hb : putBig s t = true := by simp [putBig]; omega
    refine ⟨_, Like.tup3 (Like.refl _) (Like.bsym _) (Like.refl _), [0], _, [_], ?_, rfl, rfl⟩
    simp only [EmbV, go_sem]
    simp [putS, putV, hb, *]
  · have hb : putBig s t = true := by simp [putBig]; omega
    refine ⟨_, Like.tup3 (Like.refl _) (Like.bsym _) (Like.refl _), [0], _, [_], ?_, rfl, rfl⟩
    simp only [EmbV, go_sem]
    simp [putS, putV, hb, *]
  · have hb : putBig s t = false := by simp [putBig]; omega
    refine sem_drawG l59_1_ok (by kernel_rfl) ?_
    intro KK hKK
    simp (maxSteps := 10000000) only [go_sem, l59_1, hw]
    subst hKK
    simp (maxSteps := 10000000) only [go_sem, hw]
    have hi := inc64 (show n < 1000000000000 by omega)
    refine ⟨by omega, fun h => ?_, fun h => ?_⟩
    · have hb2 : b = false := by simpa using h
      subst hb2
      simp only [hi]
      refine ⟨_, Like.tup3 (Like.refl _) (Like.bsym _) (Like.refl _), [0], _, [_], ?_, rfl, rfl⟩
      simp only [EmbV, go_sem]
      simp [putS, putV, hb, *]
    · have hb2 : b = true := by simpa using h
      subst hb2
      refine ⟨_, Like.tup3 (Like.refl _) (Like.bsym _) (Like.refl _), [0], _, [_], ?_, rfl, rfl⟩
      simp only [EmbV, go_sem]
      simp [putS, putV, hb]
theorem prows_get {l : List Part} {i : Nat} (h : i < l.length) : (prows l)[i]? = some (prow l[i]) := by simp [prows, h]
theorem prows_hasB {l : List Part} {i : Nat} (h : i < l.length) : hasB (prows l) i 0 := ⟨_, _, prows_get h, .inl rfl⟩
theorem prows_hasS {l : List Part} {i : Nat} (h : i < l.length) : hasS (prows l) i 1 := ⟨_, _, prows_get h, rfl⟩
theorem prows_rbool {l : List Part} {i : Nat} (h : i < l.length) : rbool (prows l) i 0 = l[i].1 := by simp [rbool, List.getD_eq_getElem?_getD, prows_get h, prow]
theorem prows_rstr {l : List Part} {i : Nat} (h : i < l.length) : rstr (prows l) i 1 = l[i].2 := by simp [rstr, List.getD_eq_getElem?_getD, prows_get h, prow]
def allJ (s : List UInt8) (n : Nat) : List Part → List (List UInt8) × Int
  | [] => ([], 0)
  | p :: l => if (putV s p.1 p.2).2.2 ≠ 0 then ([], (putV s p.1 p.2).2.2) else
      ((if (putV s p.1 p.2).2.1 then (putV s p.1 p.2).1 :: (allJ (putS s n p.1 p.2).1 (putS s n p.1 p.2).2 l).1 else (allJ (putS s n p.1 p.2).1 (putS s n p.1 p.2).2 l).1),
        (allJ (putS s n p.1 p.2).1 (putS s n p.1 p.2).2 l).2)
def allS (s : List UInt8) (n : Nat) : List Part → List UInt8 × Nat
  | [] => (s, n)
  | p :: l => if (putV s p.1 p.2).2.2 ≠ 0 then putS s n p.1 p.2 else allS (putS s n p.1 p.2).1 (putS s n p.1 p.2).2 l
theorem putS_len (s : List UInt8) (n : Nat) (b : Bool) (t : List UInt8) (hs : s.length ≤ 65536) (hn : n ≤ 900000) : (putS s n b t).1.length ≤ 65536 ∧ (putS s n b t).2 ≤ n + 1 := by
  unfold putS
  cases hb : putBig s t with
  | true => exact ⟨hs, by simp⟩
  | false =>
    simp [putBig] at hb
    cases b <;> simp <;> omega
theorem allP_spec (l : List Part) (tight : Bool) (s : List UInt8) (n : Nat) (hs : s.length ≤ 65536) (hn : n + l.length ≤ 900000) (hl : ∀ p ∈ l, p.2.length ≤ 1000000) :
    Tri Try.prog 25 [.pbox 0 0, .vsl 2 (prows l) tight] [.box [.str s, .int .i64 (n : Nat)]]
      (fun v m => v = .tup [.vsl 1 (sv (allJ s n l).1) false, .int .i64 (allJ s n l).2] ∧ m = [.box [.str (allS s n l).1, .int .i64 ((allS s n l).2 : Nat)]]) := by
  refine Tri.sub (Tri.fz 1 ?_)
  refine (Tri.enter (rl := r25) (code := c25) (by kernel_rfl) Try.func25 rfl c25_ok (by kernel_rfl) (by kernel_rfl) ?_)
  refine run_ok 4000 _ _ _ _ ?_
  simp (maxSteps := 10000000) only [go_sem, c25, r25]
  refine sem_virt 6 1 rfl ?_
  simp only [go_sem]
  refine sem_rounds (fun x : Nat × List (List UInt8) × List UInt8 × Nat => x.1 ≤ l.length ∧ x.2.2.1.length ≤ 65536 ∧ x.2.2.2 ≤ n + x.1 ∧ x.2.1.length ≤ x.1 ∧ allJ s n l = (x.2.1 ++ (allJ x.2.2.1 x.2.2.2 (l.drop x.1)).1, (allJ x.2.2.1 x.2.2.2 (l.drop x.1)).2) ∧ allS s n l = allS x.2.2.1 x.2.2.2 (l.drop x.1))
    (fun x => [(0, .pbox 0 0), (12, .vsl 2 (prows l) tight), (13, .int .i64 l.length), (14, .int .i64 (x.1 : Nat)), (6, .sl 1 0 x.2.1.length x.2.1.length false)]) (fun x => [.box [.str x.2.2.1, .int .i64 (x.2.2.2 : Nat)], .row 1 (sv x.2.1)]) (fun x => l.length - x.1) (0, [], s, n) [0, 1] ⟨Nat.zero_le _, hs, by simp, by simp, by simp, by simp⟩ ?_ ?_
  · simp only [Emb, go_sem]; simp [sv]
  rintro ⟨i, o, s', n'⟩ ⟨h1, h2, h3, h4, h5, h6⟩
  simp only at h1 h2 h3 h4 h5 h6
  refine run_ok 4000 _ _ _ _ ?_
  simp (maxSteps := 10000000) only [go_sem]
  refine ⟨fun hlt => ?_, fun hge => ?_⟩
  · have hlt : i < l.length := by omega
    have hd : l.drop i = l[i] :: l.drop (i + 1) := List.drop_eq_getElem_cons hlt
    rw [hd] at h5 h6
    have hi := inc64 (show i < 1000000000000 by omega)
    have hin : (i : Int) < (l.length : Int) := by omega
    obtain ⟨q1, q2⟩ := putS_len s' n' l[i].1 l[i].2 h2 (by omega)
    skip
    simp (maxSteps := 10000000) only [go_sem, prows_rbool hlt, prows_rstr hlt, prows_hasB hlt, prows_hasS hlt, hin, Int.natCast_nonneg, hi]
    refine sem_call rfl rfl (((put_spec s' n' l[i].1 l[i].2 (by omega) (hl _ (List.getElem_mem hlt)) (by omega)).embed [0] rfl (by repeat' first | exact trivial | rfl | (simp only [go_sem]; done) | constructor) rfl (by first | rfl | simp only [go_sem]) rfl (by simp)).mono ?_)
    rintro _ _ ⟨_, _, ⟨rfl, rfl⟩, rfl, rfl⟩
    refine run_ok 4000 _ _ _ _ ?_
    simp (maxSteps := 10000000) only [go_sem, prows_rbool hlt, prows_rstr hlt, prows_hasB hlt, prows_hasS hlt, hin, Int.natCast_nonneg, hi]
    simp only [allJ, allS] at h5 h6
    generalize putV s' l[i].1 l[i].2 = V at *
    generalize putS s' n' l[i].1 l[i].2 = S at *
    refine ⟨fun he => ?_, fun he => ⟨fun hb => ?_, fun hb => ?_⟩⟩
    · have he' : V.2.2 ≠ 0 := by simpa using he
      rw [if_pos he'] at h5 h6
      refine ⟨_, _, _, rfl, trivial, [0], _, [_], ?_, rfl, rfl⟩
      simp only [EmbV, go_sem, h5, h6, List.append_nil]
    · have he' : ¬ V.2.2 ≠ 0 := by simpa using he
      rw [if_neg he'] at h5 h6
      rw [if_pos hb] at h5
      refine ⟨by unfold small; omega, (i + 1, o ++ [V.1], S.1, S.2), by simp only; omega, ⟨by simp only; omega, q1, by simp only; omega, by simp; omega, by simp only; rw [h5]; simp, by simp only; exact h6⟩, [0, 3], ?_⟩
      simp only [Emb, go_sem, svl_one]
      simp
    · have he' : ¬ V.2.2 ≠ 0 := by simpa using he
      rw [if_neg he'] at h5 h6
      rw [if_neg (by simp [hb])] at h5
      refine ⟨(i + 1, o, S.1, S.2), by simp only; omega, ⟨by simp only; omega, q1, by simp only; omega, by simp only; omega, by simp only; exact h5, by simp only; exact h6⟩, [0, 1], ?_⟩
      simp only [Emb, go_sem]
  · have hd : l.drop i = [] := List.drop_eq_nil_of_le (by omega)
    rw [hd] at h5 h6
    simp only [allJ, allS] at h5 h6
    skip
    refine run_ok 4000 _ _ _ _ ?_
    simp (maxSteps := 10000000) only [go_sem]
    refine ⟨_, _, _, rfl, by simp, [0], _, [_], ?_, rfl, rfl⟩
    simp only [EmbV, go_sem, h5, h6, List.append_nil]
theorem allJ_cut : ∀ (k : Nat) (r s : List UInt8) (n : Nat) (l : List Part), r.length ≤ 200 * (k + 1) → s.length + r.length ≤ 65536 → allJ s n (cutP r ++ l) = ((s ++ r) :: (allJ [] 0 l).1, (allJ [] 0 l).2)
  | k, r, s, n, l, hr, hs => by
    by_cases h : 200 < r.length
    · cases k with
      | zero => omega
      | succ k =>
        have hb : putBig s (r.take 200) = false := by simp [putBig]; omega
        have ih := allJ_cut k (r.drop 200) (s ++ r.take 200) (n + 1) l (by simp; omega) (by simp; omega)
        rw [cutP_more h, List.cons_append]
        simp only [allJ, putV, putS, hb]
        simp [ih]
    · have hb : putBig s r = false := by simp [putBig]; omega
      rw [cutP_last (by omega), List.cons_append, List.nil_append]
      simp only [allJ, putV, putS, hb]
      simp
theorem allJ_msgs : ∀ (l : List (List UInt8)), (∀ s ∈ l, s.length ≤ 65536) → allJ [] 0 (l.map cutP).flatten = (l, 0)
  | [], _ => rfl
  | s :: l, h => by
    rw [List.map_cons, List.flatten_cons, allJ_cut 327 s [] 0 _ (by have := h s (by simp); omega) (by have := h s (by simp); simpa using this), allJ_msgs l fun s hs => h s (by simp [hs])]
    simp
theorem cutP_small : ∀ (k : Nat) (s : List UInt8), s.length ≤ 200 * (k + 1) → ∀ p ∈ cutP s, p.2.length ≤ 200
  | 0, s, h, p, hp => by rw [cutP_last (by omega)] at hp; simp at hp; subst hp; simpa using h
  | k + 1, s, h, p, hp => by
    by_cases h1 : 200 < s.length
    · rw [cutP_more h1] at hp
      rcases List.mem_cons.1 hp with rfl | hp
      · simp; omega
      · exact cutP_small k (s.drop 200) (by simp; omega) p hp
    · rw [cutP_last (by omega)] at hp; simp at hp; subst hp; simp; omega
def few (l : List (List UInt8)) (n m : Nat) : List (List UInt8) := (l.take n).map fun s => s.take m
theorem few_take (l : List (List UInt8)) (m i : Nat) (h : i < l.length) : few l (i + 1) m = few l i m ++ [l[i].take m] := by
  unfold few; rw [List.take_succ_eq_append_getElem h, List.map_append]; rfl
theorem few_len (l : List (List UInt8)) (m i : Nat) (h : i ≤ l.length) : (few l i m).length = i := by simp [few]; omega
def partsOf (l : List (List UInt8)) : List Part := (l.map cutP).flatten
theorem partsOf_snoc (l : List (List UInt8)) (s : List UInt8) : partsOf (l ++ [s]) = partsOf l ++ cutP s := by simp [partsOf]
theorem parse_partB (p : Part) (h : p.2.length ≤ 200) : parseP (partB p) = (p, 0) := by
  obtain ⟨b, t⟩ := p
  simp only at h
  unfold partB parseP
  cases b <;> simp <;> omega
end Go.AEX
