/- Frag: contracts. -/
import Derived.Test.YtbbokkienmicmaaCom
import Derived.Test.YtbbokkienmicmaaCB
import Derived.KernelRfl
namespace Go.AEX
open Go Go.AE Go.Proofs
set_option maxRecDepth 100000
set_option linter.unusedVariables false
set_option linter.unusedSimpArgs false

theorem cut_spec (s : List UInt8) (n : Int) (hn : 0 ≤ n) : Tri Try.prog 14 [.str s, .int .i64 n] [] (fun v m => v = .str (s.take n.toNat) ∧ m = []) := by
  refine (Tri.enter (rl := r14) (code := c14) (by kernel_rfl) Try.func14 rfl c14_ok (by kernel_rfl) (by kernel_rfl) ?_)
  refine run_ok 4000 _ _ _ _ ?_
  simp (maxSteps := 10000000) only [go_sem, c14, r14]
  refine ⟨fun h => ⟨by omega, ?_⟩, fun h => ?_⟩
  · omega
  · rw [List.take_of_length_le (by omega)]
/-- A part. -/
abbrev Part := Bool × List UInt8
def prow (p : Part) : List AV := [.bool p.1, .str p.2]
def prows (l : List Part) : List (List AV) := l.map prow
theorem prows_len (l : List Part) : (prows l).length = l.length := by simp [prows]
theorem prows_app (l k : List Part) : prows l ++ prows k = prows (l ++ k) := by simp [prows]
theorem sub_prows (l : List Part) : sub (prows l) 0 l.length = prows l := by
  have := sub_all (prows l); rwa [prows_len] at this
theorem prow_one (p : Part) : [[AV.bool p.1, AV.str p.2]] = prows [p] := rfl
/-- A message's parts. -/
def cutP (s : List UInt8) : List Part := if 200 < s.length then (false, s.take 200) :: cutP (s.drop 200) else [(true, s)]
termination_by s.length
decreasing_by simp; omega
theorem cutP_more {s : List UInt8} (h : 200 < s.length) : cutP s = (false, s.take 200) :: cutP (s.drop 200) := by rw [cutP, if_pos h]
theorem cutP_last {s : List UInt8} (h : s.length ≤ 200) : cutP s = [(true, s)] := by rw [cutP, if_neg (by omega)]
theorem cutP_len : ∀ (k : Nat) (s : List UInt8), s.length ≤ 200 * (k + 1) → (cutP s).length ≤ k + 1
  | 0, s, h => by rw [cutP_last (by omega)]; simp
  | k + 1, s, h => by
    by_cases h1 : 200 < s.length
    · rw [cutP_more h1]; have := cutP_len k (s.drop 200) (by simp; omega); simp; omega
    · rw [cutP_last (by omega)]; simp
attribute [go_sem] prows_len sub_prows prows_app
theorem fcut_spec (s : List UInt8) (hs : s.length ≤ 65536) : Tri Try.prog 21 [.str s] [] (fun v m => v = .tup [.vsl 2 (prows (cutP s)) false, .int .i64 0] ∧ m = []) := by
  refine Tri.sub (Tri.fz 1 ?_)
  refine (Tri.enter (rl := r21) (code := c21) (by kernel_rfl) Try.func21 rfl c21_ok (by kernel_rfl) (by kernel_rfl) ?_)
  refine run_ok 4000 _ _ _ _ ?_
  simp (maxSteps := 10000000) only [go_sem, c21, r21]
  have h0 : ¬ (s.length : Int) > 65536 := by omega
  simp only [h0, go_sem]
  refine sem_virt 4 2 rfl ?_
  simp only [go_sem]
  have hl := cutP_len 327 s (by omega)
  refine sem_rounds (fun x : List Part × List UInt8 => x.1 ++ cutP x.2 = cutP s ∧ x.2.length ≤ s.length) (fun x => [(0, .str x.2), (4, .sl 0 0 x.1.length x.1.length false)]) (fun x => [.row 2 (prows x.1)]) (fun x => x.2.length) ([], s) [0] ⟨rfl, Nat.le_refl _⟩ ?_ ?_
  · simp only [Emb, go_sem]; simp [prows]
  rintro ⟨l, r⟩ ⟨h1, h2⟩
  simp only at h1 h2
  have h3 : l.length + (cutP r).length ≤ 328 := by have := congrArg List.length h1; simp at this; omega
  refine run_ok 4000 _ _ _ _ ?_
  simp (maxSteps := 10000000) only [go_sem]
  refine ⟨fun hm => ?_, fun hm => ?_⟩
  · have hm : 200 < r.length := by omega
    rw [cutP_more hm] at h1 h3
    simp only [List.length_cons] at h3
    refine ⟨by omega, by unfold small; omega, by omega, (l ++ [(false, r.take 200)], r.drop 200), by simp; omega, ⟨by simp only; rw [← h1]; simp, by simp; omega⟩, [1], ?_⟩
    simp only [Emb, go_sem, prow_one (false, _)]
    simp
  · refine run_ok 4000 _ _ _ _ ?_
    simp (maxSteps := 10000000) only [go_sem]
    rw [cutP_last (by omega)] at h1 h3
    simp only [prow_one (true, _), go_sem]
    refine ⟨by unfold small; simp at h3; omega, _, _, _, rfl, by simp, [], _, [], ?_, rfl, rfl⟩
    simp only [EmbV, go_sem]
    have e : l.length + 1 = (l ++ [(true, r)]).length := by simp
    rw [e, sub_prows, h1]
theorem rCut_spec (s : List UInt8) (hs : s.length ≤ 65536) : Tri Try.prog 22 [.str s] [] (fun v m => v = .vsl 2 (prows (cutP s)) false ∧ m = []) := by
  refine Tri.sub (Tri.fz 1 ?_)
  refine (Tri.enter (rl := r22) (code := c22) (by kernel_rfl) Try.func22 rfl c22_ok (by kernel_rfl) (by kernel_rfl) ?_)
  refine run_ok 4000 _ _ _ _ ?_
  simp (maxSteps := 10000000) only [go_sem, c22, r22]
  refine sem_virt 3 2 rfl ?_
  simp only [go_sem]
  have hl := cutP_len 327 s (by omega)
  refine sem_rounds (fun x : List Part × Nat => x.1 ++ cutP (s.drop x.2) = cutP s ∧ x.2 ≤ s.length) (fun x => [(0, .str s), (3, .sl 0 0 x.1.length x.1.length false), (4, .int .i64 (x.2 : Nat))]) (fun x => [.row 2 (prows x.1)]) (fun x => s.length - x.2) ([], 0) [0] ⟨by simp, Nat.zero_le _⟩ ?_ ?_
  · simp only [Emb, go_sem]; simp [prows]
  rintro ⟨l, i⟩ ⟨h1, h2⟩
  simp only at h1 h2
  have h3 : l.length + (cutP (s.drop i)).length ≤ 328 := by have := congrArg List.length h1; simp at this; omega
  have hw : iwrap .i64 ((i : Int) + 200) = ((i + 200 : Nat) : Int) := by rw [iwrap_i64_in (by omega)]; rfl
  skip
  refine run_ok 4000 _ _ _ _ ?_
  simp (maxSteps := 10000000) only [go_sem, hw]
  refine ⟨fun hm => ?_, fun hm => ?_⟩
  · have hm : 200 < (s.drop i).length := by simp; omega
    rw [cutP_more hm] at h1 h3
    simp only [List.length_cons] at h3
    have hm' : i + 200 < s.length := by simp at hm; omega
    refine ⟨by omega, by unfold small; omega, (l ++ [(false, (s.drop i).take 200)], i + 200), by simp; omega, ⟨by simp only; rw [← h1]; simp [List.drop_drop], by simp; omega⟩, [1], ?_⟩
    have e : ssub s i (i + 200) = (s.drop i).take 200 := by simp [ssub]
    simp only [Emb, go_sem, e, prow_one (false, _)]
    simp
  · refine run_ok 4000 _ _ _ _ ?_
    simp (maxSteps := 10000000) only [go_sem, hw]
    rw [cutP_last (by simp; omega)] at h1 h3
    simp only [prow_one (true, _), go_sem]
    refine ⟨by omega, by unfold small; simp at h3; omega, _, _, _, rfl, by simp, [], _, [], ?_, rfl, rfl⟩
    simp only [EmbV, go_sem]
    have e : l.length + 1 = (l ++ [(true, s.drop i)]).length := by simp
    rw [e, sub_prows, h1]
/-- A part's bytes. -/
def partB (p : Part) : List UInt8 := (if p.1 then 1 else 0) :: p.2
theorem bytes_spec (b : Bool) (s : List UInt8) (hs : s.length ≤ 1000000) : Tri Try.prog 20 [.agg [.bsym b, .str s]] [] (fun v m => v = .str (partB (b, s)) ∧ m = []) := by
  skip
  refine (Tri.sub (Tri.enter (rl := r20) (code := c20) (by kernel_rfl) Try.func20 rfl c20_ok (by kernel_rfl) (by kernel_rfl) ?_))
  refine run_ok 4000 _ _ _ _ ?_
  simp (maxSteps := 10000000) only [go_sem, c20, r20]
  refine ⟨fun h => ⟨by simp; omega, [], _, [], ?_, rfl, rfl⟩, fun h => ⟨by simp; omega, [], _, [], ?_, rfl, rfl⟩⟩
  · simp only [EmbV, go_sem, partB, h] <;> simp
  · simp only [EmbV, go_sem, partB, h] <;> simp
/-- Bytes as a part; the error's number. -/
def parseP : List UInt8 → Part × Int
  | [] => ((false, []), 1)
  | c :: s => if 1 < c then ((false, []), 2) else if 200 < s.length then ((false, []), 3) else ((c == 1, s), 0)
theorem sget_zero (c : UInt8) (s : List UInt8) : sget (c :: s) 0 = (c.toNat : Int) := rfl
theorem parse_spec (s : List UInt8) (hs : s.length ≤ 1000000) : Tri Try.prog 18 [.str s] [] (fun v m => v = .tup [.agg [.bsym (parseP s).1.1, .str (parseP s).1.2], .int .i64 (parseP s).2] ∧ m = []) := by
  refine Tri.sub (Tri.like ?_)
  cases s with
  | nil =>
    refine (Tri.enter (rl := r18) (code := c18) (by kernel_rfl) Try.func18 rfl c18_ok (by kernel_rfl) (by kernel_rfl) ?_)
    refine run_ok 4000 _ _ _ _ ?_
    simp (maxSteps := 10000000) only [go_sem, c18, r18]
    refine ⟨_, Like.tup2 (Like.agg2 (Like.bsym _) (Like.refl _)) (Like.refl _), [], _, [], ?_, rfl, rfl⟩
    simp only [EmbV, go_sem]
    simp [parseP, *]
  | cons c s =>
    have hc : (sget (c :: s) 0 > 1) = (1 < c) := by
      rw [sget_zero, UInt8.lt_iff_toNat_lt]; simp; omega
    simp only [List.length_cons] at hs
    skip
    refine (Tri.enter (rl := r18) (code := c18) (by kernel_rfl) Try.func18 rfl c18_ok (by kernel_rfl) (by kernel_rfl) ?_)
    refine run_ok 4000 _ _ _ _ ?_
    simp (maxSteps := 10000000) only [go_sem, c18, r18, hc]
    refine ⟨by omega, fun h => ?_, fun h1 => ⟨fun h => ?_, fun h2 => ?_⟩⟩
    · refine ⟨_, Like.tup2 (Like.agg2 (Like.bsym _) (Like.refl _)) (Like.refl _), [], _, [], ?_, rfl, rfl⟩
      simp only [EmbV, go_sem]
      simp [parseP, *]
    · have : 200 < s.length := by omega
      refine ⟨_, Like.tup2 (Like.agg2 (Like.bsym _) (Like.refl _)) (Like.refl _), [], _, [], ?_, rfl, rfl⟩
      simp only [EmbV, go_sem]
      simp [parseP, *]
    · have : ¬ 200 < s.length := by omega
      refine sem_drawG l18_0_ok (by kernel_rfl) ?_
      intro KK hKK
      simp (maxSteps := 10000000) only [go_sem, l18_0, hc]
      subst hKK
      simp (maxSteps := 10000000) only [go_sem, hc]
      refine ⟨by omega, by omega, _, Like.refl _, [], _, [], ?_, rfl, rfl⟩
      have e1 : (sget (c :: s) 0 == 1) = (c == 1) := by rw [sget_zero]; exact u8_beq c 1
      have e2 : ssub (c :: s) 1 (s.length + 1) = s := by simp [ssub]
      simp only [EmbV, go_sem, e1, e2]
      simp [parseP, *]
theorem rparse_spec (s : List UInt8) (hs : s.length ≤ 1000000) : Tri Try.prog 19 [.str s] [] (fun v m => v = .tup [.agg [.bsym (parseP s).1.1, .str (parseP s).1.2], .int .i64 (parseP s).2] ∧ m = []) := by
  refine Tri.sub (Tri.like ?_)
  cases s with
  | nil =>
    skip
    refine (Tri.enter (rl := r19) (code := c19) (by kernel_rfl) Try.func19 rfl c19_ok (by kernel_rfl) (by kernel_rfl) ?_)
    refine run_ok 4000 _ _ _ _ ?_
    simp (maxSteps := 10000000) only [go_sem, c19, r19]
    refine ⟨_, Like.tup2 (Like.agg2 (Like.bsym _) (Like.refl _)) (Like.refl _), [], _, [], ?_, rfl, rfl⟩
    simp only [EmbV, go_sem]
    simp [parseP, *]
  | cons c s =>
    have hc : (sget (c :: s) 0 > 1) = (1 < c) := by
      rw [sget_zero, UInt8.lt_iff_toNat_lt]; simp; omega
    simp only [List.length_cons] at hs
    skip
    refine (Tri.enter (rl := r19) (code := c19) (by kernel_rfl) Try.func19 rfl c19_ok (by kernel_rfl) (by kernel_rfl) ?_)
    refine run_ok 4000 _ _ _ _ ?_
    simp (maxSteps := 10000000) only [go_sem, c19, r19, hc]
    refine ⟨by omega, fun h => ?_, fun h1 => ⟨fun h => ?_, fun h2 => ?_⟩⟩
    · refine ⟨_, Like.tup2 (Like.agg2 (Like.bsym _) (Like.refl _)) (Like.refl _), [], _, [], ?_, rfl, rfl⟩
      simp only [EmbV, go_sem]
      simp [parseP, *]
    · have : 200 < s.length := by omega
      refine ⟨_, Like.tup2 (Like.agg2 (Like.bsym _) (Like.refl _)) (Like.refl _), [], _, [], ?_, rfl, rfl⟩
      simp only [EmbV, go_sem]
      simp [parseP, *]
    · have : ¬ 200 < s.length := by omega
      refine sem_drawG l19_0_ok (by kernel_rfl) ?_
      intro KK hKK
      simp (maxSteps := 10000000) only [go_sem, l19_0, hc]
      subst hKK
      simp (maxSteps := 10000000) only [go_sem, hc]
      refine ⟨by omega, by omega, _, Like.refl _, [], _, [], ?_, rfl, rfl⟩
      have e1 : (sget (c :: s) 0 == 1) = (c == 1) := by rw [sget_zero]; exact u8_beq c 1
      have e2 : ssub (c :: s) 1 (s.length + 1) = s := by simp [ssub]
      simp only [EmbV, go_sem, e1, e2]
      simp [parseP, *]
/-- A part is put to a message: what comes of it. -/
def putBig (s t : List UInt8) : Bool := decide (200 < t.length) || decide (65536 < s.length + t.length)
def putS (s : List UInt8) (n : Nat) (b : Bool) (t : List UInt8) : List UInt8 × Nat := if putBig s t then (s, n) else if b then ([], 0) else (s ++ t, n + 1)
def putV (s : List UInt8) (b : Bool) (t : List UInt8) : List UInt8 × Bool × Int := if putBig s t then ([], false, 3) else if b then (s ++ t, true, 0) else ([], false, 0)
theorem put_spec (s : List UInt8) (n : Nat) (b : Bool) (t : List UInt8) (hs : s.length ≤ 1000000) (ht : t.length ≤ 1000000) (hn : n ≤ 1000000) :
    Tri Try.prog 15 [.pbox 0 0, .agg [.bsym b, .str t]] [.box [.str s, .int .i64 (n : Nat)]]
      (fun v m => v = .tup [.str (putV s b t).1, .bsym (putV s b t).2.1, .int .i64 (putV s b t).2.2] ∧ m = [.box [.str (putS s n b t).1, .int .i64 ((putS s n b t).2 : Nat)]]) := by
  have hw : iwrap .i64 ((s.length : Int) + (t.length : Int)) = ((s.length + t.length : Nat) : Int) := by rw [iwrap_i64_in (by omega)]; rfl
  refine Tri.sub (Tri.like ?_)
  skip
  refine (Tri.enter (rl := r15) (code := c15) (by kernel_rfl) Try.func15 rfl c15_ok (by kernel_rfl) (by kernel_rfl) ?_)
  refine run_ok 4000 _ _ _ _ ?_
  simp (maxSteps := 10000000) only [go_sem, c15, r15, hw]
  refine sem_drawG l15_0_ok (by kernel_rfl) ?_
  intro KK hKK
  simp (maxSteps := 10000000) only [go_sem, l15_0, hw]
  subst hKK
  simp (maxSteps := 10000000) only [go_sem, hw]
  refine ⟨fun h => ?_, fun h1 => ⟨fun h => ?_, fun h2 => ?_⟩⟩
  · have hb : putBig s t = true := by simp [putBig]; omega
    refine ⟨_, Like.tup3 (Like.refl _) (Like.bsym _) (Like.refl _), [0], _, [_], ?_, rfl, rfl⟩
    simp only [EmbV, go_sem]
    simp [putS, putV, hb, *]
  · have hb : putBig s t = true := by simp [putBig]; omega
    refine ⟨_, Like.tup3 (Like.refl _) (Like.bsym _) (Like.refl _), [0], _, [_], ?_, rfl, rfl⟩
    simp only [EmbV, go_sem]
    simp [putS, putV, hb, *]
  · have hb : putBig s t = false := by simp [putBig]; omega
    refine sem_drawG l15_1_ok (by kernel_rfl) ?_
    intro KK hKK
    simp (maxSteps := 10000000) only [go_sem, l15_1, hw]
    subst hKK
    simp (maxSteps := 10000000) only [go_sem, hw]
    have hi := inc64 (show n < 1000000000000 by omega)
    refine ⟨by omega, fun h => ?_, fun h => ?_⟩
    · have hb2 : b = false := by simpa using h
      subst hb2
      simp only [hi]
      refine ⟨_, Like.tup3 (Like.refl _) (Like.bsym _) (Like.refl _), [0], _, [_], ?_, rfl, rfl⟩
      simp only [EmbV, go_sem]
      simp [putS, putV, hb, *]
    · have hb2 : b = true := by simpa using h
      subst hb2
      refine ⟨_, Like.tup3 (Like.refl _) (Like.bsym _) (Like.refl _), [0], _, [_], ?_, rfl, rfl⟩
      simp only [EmbV, go_sem]
      simp [putS, putV, hb]
theorem open_spec (s : List UInt8) (n : Nat) : Tri Try.prog 17 [.pbox 0 0] [.box [.str s, .int .i64 (n : Nat)]] (fun v m => v = .tup [.int .i64 (n : Nat), .int .i64 s.length] ∧ m = [.box [.str s, .int .i64 (n : Nat)]]) := by
  skip
  refine (Tri.enter (rl := r17) (code := c17) (by kernel_rfl) Try.func17 rfl c17_ok (by kernel_rfl) (by kernel_rfl) ?_)
  refine run_ok 4000 _ _ _ _ ?_
  simp (maxSteps := 10000000) only [go_sem, c17, r17]
  refine sem_drawG l17_0_ok (by kernel_rfl) ?_
  intro KK hKK
  simp (maxSteps := 10000000) only [go_sem, l17_0]
  subst hKK
  simp (maxSteps := 10000000) only [go_sem]
theorem cut450 : cutP (List.replicate 450 0) = [(false, List.replicate 200 0), (false, List.replicate 200 0), (true, List.replicate 50 0)] := by
  rw [cutP_more (by simp), List.drop_replicate, cutP_more (by simp), List.drop_replicate, cutP_last (by simp), List.take_replicate, List.take_replicate]; rfl
theorem awake12_spec : Tri Try.prog 13 [] [] (fun v m => v = .bool true ∧ m = []) := by
  refine Tri.sub ?_
  skip
  refine (Tri.asB (Tri.enter (rl := r13) (code := c13) (by kernel_rfl) Try.func13 rfl c13_ok (by kernel_rfl) (by kernel_rfl) ?_))
  refine run_ok 4000 _ _ _ _ ?_
  simp (maxSteps := 10000000) only [go_sem, c13, r13, sub_rep, zeros_bytes, zeros_all]
  refine ⟨by unfold small; omega, ?_⟩
  refine sem_call rfl rfl (((fcut_spec (List.replicate 450 0) (by simp)).embed [] rfl trivial rfl rfl rfl (by simp)).mono ?_)
  rintro _ _ ⟨_, _, ⟨rfl, rfl⟩, rfl, rfl⟩
  refine run_ok 4000 _ _ _ _ ?_
  simp (maxSteps := 10000000) only [go_sem, sub_rep, zeros_bytes, zeros_all]
  rw [cut450]
  simp only [prows, prow, go_sem]
  have hp : putV [] true [97] = ([97], true, 0) := by decide
  skip
  refine sem_call rfl rfl (((Tri.arg2 (Like.agg2 (Like.bsym true) (Like.refl _)) (put_spec [] 0 true [97] (by simp) (by simp) (by simp))).embed [1] rfl (by repeat' first | exact trivial | rfl | (simp only [go_sem]; done) | constructor) rfl (by first | rfl | simp only [go_sem]) rfl (by simp)).mono ?_)
  rintro _ _ ⟨_, _, ⟨rfl, rfl⟩, rfl, rfl⟩
  refine run_ok 4000 _ _ _ _ ?_
  simp (maxSteps := 10000000) only [go_sem, sub_rep, zeros_bytes, zeros_all, hp]
  refine sem_call rfl rfl (((bytes_spec true (List.replicate 50 0) (by simp)).embed [] rfl trivial rfl rfl rfl (by simp)).mono ?_)
  rintro _ _ ⟨_, _, ⟨rfl, rfl⟩, rfl, rfl⟩
  refine run_ok 4000 _ _ _ _ ?_
  simp (maxSteps := 10000000) only [go_sem, sub_rep, zeros_bytes, zeros_all, hp]
  refine ⟨by simp [partB], [], _, [], ?_, rfl, rfl⟩
  simp only [EmbV, go_sem, partB, sget]
  simp
theorem parse_bytes (s : List UInt8) (h : (parseP s).2 = 0) : partB (parseP s).1 = s := by
  cases s with
  | nil => simp [parseP] at h
  | cons c s =>
    unfold parseP at h ⊢
    by_cases h1 : 1 < c
    · simp [h1] at h
    · by_cases h2 : 200 < s.length
      · simp [h1, h2] at h
      · simp only [h1, h2, if_false, partB]
        have : c = 0 ∨ c = 1 := by
          have h1 : ¬ 1 < c.toNat := by rw [UInt8.lt_iff_toNat_lt] at h1; exact h1
          have := c.toNat_lt
          rcases Nat.lt_or_ge c.toNat 1 with h | h
          · left; exact UInt8.toNat_inj.1 (by simp; omega)
          · right; exact UInt8.toNat_inj.1 (by simp; omega)
        rcases this with rfl | rfl <;> simp
theorem fragParses_spec (s0 : List UInt8) (hs : s0.length ≤ 140737488351232) : Tri Try.prog 5 [.str s0] [] (fun v m => v = .bool true) := by
  skip
  refine (Tri.asB (Tri.enter (rl := r5) (code := c5) (by kernel_rfl) Try.func5 rfl c5_ok (by kernel_rfl) (by kernel_rfl) ?_))
  refine run_ok 4000 _ _ _ _ ?_
  simp (maxSteps := 10000000) only [go_sem, c5, r5]
  refine sem_call rfl rfl (((cut_spec s0 220 (by decide)).embed [] rfl trivial rfl rfl rfl (by simp)).mono ?_)
  rintro _ _ ⟨_, _, ⟨rfl, rfl⟩, rfl, rfl⟩
  refine run_ok 4000 _ _ _ _ ?_
  simp (maxSteps := 10000000) only [go_sem]
  generalize hS : List.take 220 s0 = s
  have hs : s.length ≤ 220 := by rw [← hS]; simp; omega
  refine sem_call rfl rfl (((parse_spec s (by omega)).embed [] rfl trivial rfl rfl rfl (by simp)).mono ?_)
  rintro _ _ ⟨_, _, ⟨rfl, rfl⟩, rfl, rfl⟩
  refine run_ok 4000 _ _ _ _ ?_
  simp (maxSteps := 10000000) only [go_sem]
  refine sem_call rfl rfl (((rparse_spec s (by omega)).embed [] rfl trivial rfl rfl rfl (by simp)).mono ?_)
  rintro _ _ ⟨_, _, ⟨rfl, rfl⟩, rfl, rfl⟩
  refine run_ok 4000 _ _ _ _ ?_
  simp (maxSteps := 10000000) only [go_sem]
  refine sem_call rfl rfl (((awake12_spec).embed [] rfl trivial rfl rfl rfl (by simp)).mono ?_)
  rintro _ _ ⟨_, _, ⟨rfl, rfl⟩, rfl, rfl⟩
  refine run_ok 4000 _ _ _ _ ?_
  simp (maxSteps := 10000000) only [go_sem]
  intro h
  have h0 : (parseP s).2 = 0 := by simpa using h
  have hb := parse_bytes s h0
  have hl := congrArg List.length hb
  simp only [partB, List.length_cons] at hl
  skip
  refine sem_call rfl rfl (((bytes_spec (parseP s).1.1 (parseP s).1.2 (by omega)).embed [] rfl (by repeat' first | exact trivial | rfl | (simp only [go_sem]; done) | constructor) rfl (by first | rfl | simp only [go_sem]) rfl (by simp)).mono ?_)
  rintro _ _ ⟨_, _, ⟨rfl, rfl⟩, rfl, rfl⟩
  refine run_ok 4000 _ _ _ _ ?_
  simp (maxSteps := 10000000) only [go_sem, hb]
theorem putB_spec (s : List UInt8) (n : Nat) (b : Bool) (t : List UInt8) (hs : s.length ≤ 1000000) (ht : t.length ≤ 1000000) (hn : n ≤ 1000000) :
    Tri Try.prog 15 [.pbox 0 0, .agg [.bool b, .str t]] [.box [.str s, .int .i64 (n : Nat)]]
      (fun v m => v = .tup [.str (putV s b t).1, .bsym (putV s b t).2.1, .int .i64 (putV s b t).2.2] ∧ m = [.box [.str (putS s n b t).1, .int .i64 ((putS s n b t).2 : Nat)]]) :=
  Tri.arg2 (Like.agg2 (Like.bsym b) (Like.refl _)) (put_spec s n b t hs ht hn)
theorem and255 (n : Int) : ∃ k : Nat, ibits .and .i64 n 255 = (k : Int) ∧ k ≤ 255 := and_i64 n (k := 255) (by decide)
theorem fragFull_spec (n : Int) (hn : (Lit.int .i64 n).wf = true) (more : Bool) : Tri Try.prog 4 [.int .i64 n, .bsym more] [] (fun v m => v = .bool true) := by
  skip
  refine (Tri.asB (Tri.enter (rl := r4) (code := c4) (by kernel_rfl) Try.func4 rfl c4_ok (by kernel_rfl) (by kernel_rfl) ?_))
  refine run_ok 4000 _ _ _ _ ?_
  simp (maxSteps := 10000000) only [go_sem, c4, r4, sub_rep, zeros_bytes, zeros_all]
  refine sem_call rfl rfl ((awake12_spec).mono ?_)
  rintro _ _ ⟨rfl, rfl⟩
  refine run_ok 4000 _ _ _ _ ?_
  simp (maxSteps := 10000000) only [go_sem, sub_rep, zeros_bytes, zeros_all]
  refine ⟨by unfold small; omega, ?_⟩
  refine sem_rounds (fun i : Nat => i ≤ 327) (fun i => [(0, .int .i64 n), (1, .bsym more), (5, .str (List.replicate 200 0)), (6, .pbox 0 0), (22, .int .i64 (i : Nat))]) (fun i => [.box [.str (List.replicate (200 * i) 0), .int .i64 (i : Nat)]]) (fun i => 327 - i) 0 [1] (Nat.zero_le _) ?_ ?_
  · simp only [Emb, go_sem]; simp
  intro i hi
  refine run_ok 4000 _ _ _ _ ?_
  simp (maxSteps := 10000000) only [go_sem, sub_rep, zeros_bytes, zeros_all]
  refine ⟨fun hlt => ?_, fun hge => ?_⟩
  · have hlt : i < 327 := by omega
    have h1 : putV (List.replicate (200 * i) 0) false (List.replicate 200 0) = ([], false, 0) := by simp [putV, putBig]; omega
    have h2 : putS (List.replicate (200 * i) 0) i false (List.replicate 200 0) = (List.replicate (200 * (i + 1)) 0, i + 1) := by
      have : putBig (List.replicate (200 * i) 0) (List.replicate 200 0) = false := by simp [putBig]; omega
      simp only [putS, this]
      rw [List.replicate_append_replicate]; simp; omega
    skip
    refine sem_call rfl rfl (((putB_spec (List.replicate (200 * i) 0) i false (List.replicate 200 0) (by simp; omega) (by simp) (by omega)).embed [0] rfl (by repeat' first | exact trivial | rfl | (simp only [go_sem]; done) | constructor) rfl (by first | rfl | simp only [go_sem]) rfl (by simp)).mono ?_)
    rintro _ _ ⟨_, _, ⟨rfl, rfl⟩, rfl, rfl⟩
    refine run_ok 4000 _ _ _ _ ?_
    simp (maxSteps := 10000000) only [go_sem, h1, h2]
    refine ⟨i + 1, by omega, by omega, [0], ?_⟩
    simp only [Emb, go_sem, inc64 (show i < 1000000000000 by omega)]
  · have he : i = 327 := by omega
    subst he
    generalize hS : List.replicate (200 * 327) (0 : UInt8) = S
    have hSl : S.length = 65400 := by rw [← hS, List.length_replicate]
    obtain ⟨N0, hN0, hN1⟩ := and255 n
    obtain ⟨N, hN, hN2⟩ : ∃ N : Nat, (ibits .and .i64 n 255).tmod 201 = (N : Int) ∧ N ≤ 200 := ⟨N0 % 201, by rw [hN0, Int.tmod_eq_emod_of_nonneg (by omega)]; omega, by omega⟩
    have ht : List.take N (List.replicate 200 (0 : UInt8)) = List.replicate N 0 := by rw [List.take_replicate]; congr 1; omega
    by_cases hbig : 136 < N
    · have hb : putBig S (List.replicate N 0) = true := by simp [putBig]; omega
      have hb' : (N : Int) > 136 := by omega
      have h1 : ∀ b, putV S b (List.replicate N 0) = ([], false, 3) := by intro b; simp only [putV, hb, if_true]
      have h2 : ∀ b, putS S 327 b (List.replicate N 0) = (S, 327) := by intro b; simp only [putS, hb, if_true]
      skip
      refine run_ok 4000 _ _ _ _ ?_
      simp (maxSteps := 10000000) only [go_sem, hN, ht, h1, h2, hb']
      refine sem_call rfl rfl (((open_spec S 327).embed [0] rfl (by repeat' first | exact trivial | rfl | (simp only [go_sem]; done) | constructor) rfl (by first | rfl | simp only [go_sem]) rfl (by simp)).mono ?_)
      rintro _ _ ⟨_, _, ⟨rfl, rfl⟩, rfl, rfl⟩
      refine run_ok 4000 _ _ _ _ ?_
      simp (maxSteps := 10000000) only [go_sem, hN, ht, h1, h2, hb']
      refine ⟨by omega, ?_⟩
      refine sem_call rfl rfl (((put_spec S 327 _ (List.replicate N 0) (by omega) (by simp; omega) (by simp)).embed [0] rfl (by repeat' first | exact trivial | rfl | (simp only [go_sem]; done) | constructor) rfl (by first | rfl | simp only [go_sem]) rfl (by simp)).mono ?_)
      rintro _ _ ⟨_, _, ⟨rfl, rfl⟩, rfl, rfl⟩
      refine run_ok 4000 _ _ _ _ ?_
      simp (maxSteps := 10000000) only [go_sem, hN, ht, h1, h2, hb']
      refine sem_call rfl rfl (((open_spec _ _).embed [0] rfl (by repeat' first | exact trivial | rfl | (simp only [go_sem]; done) | constructor) rfl (by first | rfl | simp only [go_sem]) rfl (by simp)).mono ?_)
      rintro _ _ ⟨_, _, ⟨rfl, rfl⟩, rfl, rfl⟩
      refine run_ok 4000 _ _ _ _ ?_
      simp (maxSteps := 10000000) only [go_sem, hN, ht, h1, h2, hb']
    · have hb : putBig S (List.replicate N 0) = false := by simp [putBig]; omega
      have hb' : ¬ (N : Int) > 136 := by omega
      cases more with
      | true =>
        have h1 : putV S false (List.replicate N 0) = ([], false, 0) := by simp [putV, hb]
        have h2 : putS S 327 false (List.replicate N 0) = (S ++ List.replicate N 0, 328) := by simp [putS, hb]
        skip
        refine run_ok 4000 _ _ _ _ ?_
        simp (maxSteps := 10000000) only [go_sem, hN, ht, h1, h2, hb']
        refine sem_call rfl rfl (((open_spec S 327).embed [0] rfl (by repeat' first | exact trivial | rfl | (simp only [go_sem]; done) | constructor) rfl (by first | rfl | simp only [go_sem]) rfl (by simp)).mono ?_)
        rintro _ _ ⟨_, _, ⟨rfl, rfl⟩, rfl, rfl⟩
        refine run_ok 4000 _ _ _ _ ?_
        simp (maxSteps := 10000000) only [go_sem, hN, ht, h1, h2, hb']
        refine ⟨by omega, ?_⟩
        refine sem_call rfl rfl (((put_spec S 327 _ (List.replicate N 0) (by omega) (by simp; omega) (by simp)).embed [0] rfl (by repeat' first | exact trivial | rfl | (simp only [go_sem]; done) | constructor) rfl (by first | rfl | simp only [go_sem]) rfl (by simp)).mono ?_)
        rintro _ _ ⟨_, _, ⟨rfl, rfl⟩, rfl, rfl⟩
        refine run_ok 4000 _ _ _ _ ?_
        simp (maxSteps := 10000000) only [go_sem, hN, ht, h1, h2, hb']
        refine sem_call rfl rfl (((open_spec _ _).embed [0] rfl (by repeat' first | exact trivial | rfl | (simp only [go_sem]; done) | constructor) rfl (by first | rfl | simp only [go_sem]) rfl (by simp)).mono ?_)
        rintro _ _ ⟨_, _, ⟨rfl, rfl⟩, rfl, rfl⟩
        refine run_ok 4000 _ _ _ _ ?_
        simp (maxSteps := 10000000) only [go_sem, hN, ht, h1, h2, hb']
        intro h
        exfalso
        rw [iwrap_i64_in (by omega)] at h
        simp at h
      | false =>
        have h1 : putV S true (List.replicate N 0) = (S ++ List.replicate N 0, true, 0) := by simp [putV, hb]
        have h2 : putS S 327 true (List.replicate N 0) = ([], 0) := by simp [putS, hb]
        skip
        refine run_ok 4000 _ _ _ _ ?_
        simp (maxSteps := 10000000) only [go_sem, hN, ht, h1, h2, hb']
        refine sem_call rfl rfl (((open_spec S 327).embed [0] rfl (by repeat' first | exact trivial | rfl | (simp only [go_sem]; done) | constructor) rfl (by first | rfl | simp only [go_sem]) rfl (by simp)).mono ?_)
        rintro _ _ ⟨_, _, ⟨rfl, rfl⟩, rfl, rfl⟩
        refine run_ok 4000 _ _ _ _ ?_
        simp (maxSteps := 10000000) only [go_sem, hN, ht, h1, h2, hb']
        refine ⟨by omega, ?_⟩
        refine sem_call rfl rfl (((put_spec S 327 _ (List.replicate N 0) (by omega) (by simp; omega) (by simp)).embed [0] rfl (by repeat' first | exact trivial | rfl | (simp only [go_sem]; done) | constructor) rfl (by first | rfl | simp only [go_sem]) rfl (by simp)).mono ?_)
        rintro _ _ ⟨_, _, ⟨rfl, rfl⟩, rfl, rfl⟩
        refine run_ok 4000 _ _ _ _ ?_
        simp (maxSteps := 10000000) only [go_sem, hN, ht, h1, h2, hb']
        refine sem_call rfl rfl (((open_spec _ _).embed [0] rfl (by repeat' first | exact trivial | rfl | (simp only [go_sem]; done) | constructor) rfl (by first | rfl | simp only [go_sem]) rfl (by simp)).mono ?_)
        rintro _ _ ⟨_, _, ⟨rfl, rfl⟩, rfl, rfl⟩
        refine run_ok 4000 _ _ _ _ ?_
        simp (maxSteps := 10000000) only [go_sem, hN, ht, h1, h2, hb']
end Go.AEX
