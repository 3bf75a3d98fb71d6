/- Frag, more: contracts. -/
import Derived.Test.YtbbokkienmicmaaFrag
namespace Go.AEX
open Go Go.AE Go.Proofs
set_option maxRecDepth 100000
set_option linter.unusedVariables false
set_option linter.unusedSimpArgs false

theorem prows_get {l : List Part} {i : Nat} (h : i < l.length) : (prows l)[i]? = some (prow l[i]) := by simp [prows, h]
theorem prows_hasB {l : List Part} {i : Nat} (h : i < l.length) : hasB (prows l) i 0 := ⟨_, _, prows_get h, .inl rfl⟩
theorem prows_hasS {l : List Part} {i : Nat} (h : i < l.length) : hasS (prows l) i 1 := ⟨_, _, prows_get h, rfl⟩
theorem prows_rbool {l : List Part} {i : Nat} (h : i < l.length) : rbool (prows l) i 0 = l[i].1 := by simp [rbool, List.getD_eq_getElem?_getD, prows_get h, prow]
theorem prows_rstr {l : List Part} {i : Nat} (h : i < l.length) : rstr (prows l) i 1 = l[i].2 := by simp [rstr, List.getD_eq_getElem?_getD, prows_get h, prow]
/-- What comes of parts that come one behind the other. -/
def allJ (s : List UInt8) (n : Nat) : List Part → List (List UInt8) × Int
  | [] => ([], 0)
  | p :: l => if (putV s p.1 p.2).2.2 ≠ 0 then ([], (putV s p.1 p.2).2.2) else
      ((if (putV s p.1 p.2).2.1 then (putV s p.1 p.2).1 :: (allJ (putS s n p.1 p.2).1 (putS s n p.1 p.2).2 l).1 else (allJ (putS s n p.1 p.2).1 (putS s n p.1 p.2).2 l).1),
        (allJ (putS s n p.1 p.2).1 (putS s n p.1 p.2).2 l).2)
def allS (s : List UInt8) (n : Nat) : List Part → List UInt8 × Nat
  | [] => (s, n)
  | p :: l => if (putV s p.1 p.2).2.2 ≠ 0 then putS s n p.1 p.2 else allS (putS s n p.1 p.2).1 (putS s n p.1 p.2).2 l
theorem putS_len (s : List UInt8) (n : Nat) (b : Bool) (t : List UInt8) (hs : s.length ≤ 65536) (hn : n ≤ 900000) : (putS s n b t).1.length ≤ 65536 ∧ (putS s n b t).2 ≤ n + 1 := by
  unfold putS
  cases hb : putBig s t with
  | true => exact ⟨hs, by simp⟩
  | false =>
    simp [putBig] at hb
    cases b <;> simp <;> omega
theorem allP_spec (l : List Part) (tight : Bool) (s : List UInt8) (n : Nat) (hs : s.length ≤ 65536) (hn : n + l.length ≤ 900000) (hl : ∀ p ∈ l, p.2.length ≤ 1000000) :
    Tri Try.prog 23 [.pbox 0 0, .vsl 2 (prows l) tight] [.box [.str s, .int .i64 (n : Nat)]]
      (fun v m => v = .tup [.vsl 1 (sv (allJ s n l).1) false, .int .i64 (allJ s n l).2] ∧ m = [.box [.str (allS s n l).1, .int .i64 ((allS s n l).2 : Nat)]]) := by
  refine Tri.sub (Tri.fz 1 ?_)
  refine (Tri.enter (rl := r23) (code := c23) (by kernel_rfl) Try.func23 rfl c23_ok (by kernel_rfl) (by kernel_rfl) ?_)
  refine run_ok 4000 _ _ _ _ ?_
  simp (maxSteps := 10000000) only [go_sem, c23, r23]
  refine sem_virt 6 1 rfl ?_
  simp only [go_sem]
  refine sem_rounds (fun x : Nat × List (List UInt8) × List UInt8 × Nat => x.1 ≤ l.length ∧ x.2.2.1.length ≤ 65536 ∧ x.2.2.2 ≤ n + x.1 ∧ x.2.1.length ≤ x.1 ∧ allJ s n l = (x.2.1 ++ (allJ x.2.2.1 x.2.2.2 (l.drop x.1)).1, (allJ x.2.2.1 x.2.2.2 (l.drop x.1)).2) ∧ allS s n l = allS x.2.2.1 x.2.2.2 (l.drop x.1))
    (fun x => [(0, .pbox 0 0), (12, .vsl 2 (prows l) tight), (13, .int .i64 l.length), (14, .int .i64 (x.1 : Nat)), (6, .sl 1 0 x.2.1.length x.2.1.length false)]) (fun x => [.box [.str x.2.2.1, .int .i64 (x.2.2.2 : Nat)], .row 1 (sv x.2.1)]) (fun x => l.length - x.1) (0, [], s, n) [0, 1] ⟨Nat.zero_le _, hs, by simp, by simp, by simp, by simp⟩ ?_ ?_
  · simp only [Emb, go_sem]; simp [sv]
  rintro ⟨i, o, s', n'⟩ ⟨h1, h2, h3, h4, h5, h6⟩
  simp only at h1 h2 h3 h4 h5 h6
  refine run_ok 4000 _ _ _ _ ?_
  simp (maxSteps := 10000000) only [go_sem]
  refine ⟨fun hlt => ?_, fun hge => ?_⟩
  · have hlt : i < l.length := by omega
    have hd : l.drop i = l[i] :: l.drop (i + 1) := List.drop_eq_getElem_cons hlt
    rw [hd] at h5 h6
    have hi := inc64 (show i < 1000000000000 by omega)
    have hin : (i : Int) < (l.length : Int) := by omega
    obtain ⟨q1, q2⟩ := putS_len s' n' l[i].1 l[i].2 h2 (by omega)
    skip
    simp (maxSteps := 10000000) only [go_sem, prows_rbool hlt, prows_rstr hlt, prows_hasB hlt, prows_hasS hlt, hin, Int.natCast_nonneg, hi]
    refine sem_call rfl rfl (((put_spec s' n' l[i].1 l[i].2 (by omega) (hl _ (List.getElem_mem hlt)) (by omega)).embed [0] rfl (by repeat' first | exact trivial | rfl | (simp only [go_sem]; done) | constructor) rfl (by first | rfl | simp only [go_sem]) rfl (by simp)).mono ?_)
    rintro _ _ ⟨_, _, ⟨rfl, rfl⟩, rfl, rfl⟩
    refine run_ok 4000 _ _ _ _ ?_
    simp (maxSteps := 10000000) only [go_sem, prows_rbool hlt, prows_rstr hlt, prows_hasB hlt, prows_hasS hlt, hin, Int.natCast_nonneg, hi]
    simp only [allJ, allS] at h5 h6
    generalize putV s' l[i].1 l[i].2 = V at *
    generalize putS s' n' l[i].1 l[i].2 = S at *
    refine ⟨fun he => ?_, fun he => ⟨fun hb => ?_, fun hb => ?_⟩⟩
    · have he' : V.2.2 ≠ 0 := by simpa using he
      rw [if_pos he'] at h5 h6
      refine ⟨_, _, _, rfl, trivial, [0], _, [_], ?_, rfl, rfl⟩
      simp only [EmbV, go_sem, h5, h6, List.append_nil]
    · have he' : ¬ V.2.2 ≠ 0 := by simpa using he
      rw [if_neg he'] at h5 h6
      rw [if_pos hb] at h5
      refine ⟨by unfold small; omega, (i + 1, o ++ [V.1], S.1, S.2), by simp only; omega, ⟨by simp only; omega, q1, by simp only; omega, by simp; omega, by simp only; rw [h5]; simp, by simp only; exact h6⟩, [0, 3], ?_⟩
      simp only [Emb, go_sem, svl_one]
      simp
    · have he' : ¬ V.2.2 ≠ 0 := by simpa using he
      rw [if_neg he'] at h5 h6
      rw [if_neg (by simp [hb])] at h5
      refine ⟨(i + 1, o, S.1, S.2), by simp only; omega, ⟨by simp only; omega, q1, by simp only; omega, by simp only; omega, by simp only; exact h5, by simp only; exact h6⟩, [0, 1], ?_⟩
      simp only [Emb, go_sem]
  · have hd : l.drop i = [] := List.drop_eq_nil_of_le (by omega)
    rw [hd] at h5 h6
    simp only [allJ, allS] at h5 h6
    skip
    refine run_ok 4000 _ _ _ _ ?_
    simp (maxSteps := 10000000) only [go_sem]
    refine ⟨_, _, _, rfl, by simp, [0], _, [_], ?_, rfl, rfl⟩
    simp only [EmbV, go_sem, h5, h6, List.append_nil]
theorem allJ_cut : ∀ (k : Nat) (r s : List UInt8) (n : Nat) (l : List Part), r.length ≤ 200 * (k + 1) → s.length + r.length ≤ 65536 → allJ s n (cutP r ++ l) = ((s ++ r) :: (allJ [] 0 l).1, (allJ [] 0 l).2)
  | k, r, s, n, l, hr, hs => by
    by_cases h : 200 < r.length
    · cases k with
      | zero => omega
      | succ k =>
        have hb : putBig s (r.take 200) = false := by simp [putBig]; omega
        have ih := allJ_cut k (r.drop 200) (s ++ r.take 200) (n + 1) l (by simp; omega) (by simp; omega)
        rw [cutP_more h, List.cons_append]
        simp only [allJ, putV, putS, hb]
        simp [ih]
    · have hb : putBig s r = false := by simp [putBig]; omega
      rw [cutP_last (by omega), List.cons_append, List.nil_append]
      simp only [allJ, putV, putS, hb]
      simp
theorem allJ_msgs : ∀ (l : List (List UInt8)), (∀ s ∈ l, s.length ≤ 65536) → allJ [] 0 (l.map cutP).flatten = (l, 0)
  | [], _ => rfl
  | s :: l, h => by
    rw [List.map_cons, List.flatten_cons, allJ_cut 327 s [] 0 _ (by have := h s (by simp); omega) (by have := h s (by simp); simpa using this), allJ_msgs l fun s hs => h s (by simp [hs])]
    simp
theorem cutP_small : ∀ (k : Nat) (s : List UInt8), s.length ≤ 200 * (k + 1) → ∀ p ∈ cutP s, p.2.length ≤ 200
  | 0, s, h, p, hp => by rw [cutP_last (by omega)] at hp; simp at hp; subst hp; simpa using h
  | k + 1, s, h, p, hp => by
    by_cases h1 : 200 < s.length
    · rw [cutP_more h1] at hp
      rcases List.mem_cons.1 hp with rfl | hp
      · simp; omega
      · exact cutP_small k (s.drop 200) (by simp; omega) p hp
    · rw [cutP_last (by omega)] at hp; simp at hp; subst hp; simp; omega
/-- The first of them, each of them cut. -/
def few (l : List (List UInt8)) (n m : Nat) : List (List UInt8) := (l.take n).map fun s => s.take m
theorem few_take (l : List (List UInt8)) (m i : Nat) (h : i < l.length) : few l (i + 1) m = few l i m ++ [l[i].take m] := by
  unfold few; rw [List.take_succ_eq_append_getElem h, List.map_append]; rfl
theorem few_len (l : List (List UInt8)) (m i : Nat) (h : i ≤ l.length) : (few l i m).length = i := by simp [few]; omega
def partsOf (l : List (List UInt8)) : List Part := (l.map cutP).flatten
theorem partsOf_snoc (l : List (List UInt8)) (s : List UInt8) : partsOf (l ++ [s]) = partsOf l ++ cutP s := by simp [partsOf]
theorem partsOf_len (l : List (List UInt8)) (h : ∀ s ∈ l, s.length ≤ 800) : (partsOf l).length ≤ 4 * l.length := by
  induction l with
  | nil => simp [partsOf]
  | cons s l ih =>
    have := ih fun s hs => h s (by simp [hs])
    have := cutP_len 3 s (by have := h s (by simp); omega)
    simp only [partsOf, List.map_cons, List.flatten_cons, List.length_append, List.length_cons] at *; omega
theorem fragAll_spec (l : List (List UInt8)) (hl : l.length ≤ 9223372036854775807 ∧ ∀ s ∈ l, s.length ≤ 9223372036854775807) : Tri Try.prog 7 [.vsl 1 (sv l) false] [] (fun v m => v = .bool true) := by
  skip
  refine (Tri.asB (Tri.enter (rl := r7) (code := c7) (by kernel_rfl) Try.func7 rfl c7_ok (by kernel_rfl) (by kernel_rfl) ?_))
  refine run_ok 4000 _ _ _ _ ?_
  simp (maxSteps := 10000000) only [go_sem, c7, r7]
  refine sem_call rfl rfl ((awake12_spec).mono ?_)
  rintro _ _ ⟨rfl, rfl⟩
  refine run_ok 4000 _ _ _ _ ?_
  simp (maxSteps := 10000000) only [go_sem]
  refine sem_virt 3 2 rfl ?_
  simp (maxSteps := 10000000) only [go_sem]
  refine sem_virt 4 1 rfl ?_
  simp (maxSteps := 10000000) only [go_sem]
  refine sem_rounds (fun i : Nat => i ≤ 8 ∧ i ≤ l.length) (fun i => [(0, .vsl 1 (sv l) false), (5, .int .i64 (i : Nat)), (3, .sl 0 0 (partsOf (few l i 700)).length (partsOf (few l i 700)).length false), (4, .sl 1 0 (few l i 700).length (few l i 700).length false)])
    (fun i => [.row 2 (prows (partsOf (few l i 700))), .row 1 (sv (few l i 700))]) (fun i => 8 - i) 0 [0, 1] ⟨by simp, by simp⟩ ?_ ?_
  · simp only [Emb, go_sem]; simp [few, sv, partsOf, prows]
  rintro i ⟨hi, hil⟩
  have hf : ∀ s ∈ few l i 700, s.length ≤ 800 := by
    intro s hs; simp only [few, List.mem_map] at hs; obtain ⟨r, _, rfl⟩ := hs; simp; omega
  have hfl := few_len l 700 i hil
  have hpl := partsOf_len _ hf
  refine run_ok 4000 _ _ _ _ ?_
  simp (maxSteps := 10000000) only [go_sem]
  refine ⟨fun hlt => ⟨fun h8 => ?_, fun h8 => ?_⟩, fun hge => ?_⟩
  · have hlt : i < l.length := by omega
    have hcl : (l[i].take 700).length ≤ 700 := by simp; omega
    have hc := cutP_len 3 (l[i].take 700) (by omega)
    skip
    refine ⟨by omega, svl_hasS hlt, ?_⟩
    rw [svl_rstr hlt]
    refine sem_call rfl rfl (((cut_spec (l[i]) 700 (by decide)).embed [] rfl trivial rfl rfl rfl (by simp)).mono ?_)
    rintro _ _ ⟨_, _, ⟨rfl, rfl⟩, rfl, rfl⟩
    refine run_ok 4000 _ _ _ _ ?_
    simp (maxSteps := 10000000) only [go_sem, inc64 (show i < 1000000000000 by omega)]
    refine sem_call rfl rfl (((fcut_spec (l[i].take 700) (by omega)).embed [] rfl trivial rfl rfl rfl (by simp)).mono ?_)
    rintro _ _ ⟨_, _, ⟨rfl, rfl⟩, rfl, rfl⟩
    refine run_ok 4000 _ _ _ _ ?_
    simp (maxSteps := 10000000) only [go_sem, inc64 (show i < 1000000000000 by omega)]
    refine ⟨by unfold small; omega, by unfold small; omega, i + 1, by omega, by omega, [2, 3], ?_⟩
    simp only [Emb, go_sem, few_take _ _ _ hlt, svl_one, partsOf_snoc]
    simp
  · skip
    generalize few l i 700 = W at *
    have hW : W.length ≤ 8 := by omega
    have hsm : ∀ p ∈ partsOf W, p.2.length ≤ 1000000 := by
      intro p hp
      simp only [partsOf, List.mem_flatten, List.mem_map] at hp
      obtain ⟨q, ⟨s, hs, rfl⟩, hp⟩ := hp
      have := cutP_small 3 s (by have := hf s hs; omega) p hp
      omega
    refine sem_freeze 0 rfl (by simp only [go_sem]) ?_
    simp (maxSteps := 10000000) only [go_sem]
    refine sem_freeze 1 rfl (by simp only [go_sem]) ?_
    simp (maxSteps := 10000000) only [go_sem]
    refine run_ok 4000 _ _ _ _ ?_
    simp (maxSteps := 10000000) only [go_sem]
    refine sem_call rfl rfl (((allP_spec (partsOf W) false [] 0 (by simp) (by omega) hsm).embed [2] rfl (by repeat' first | exact trivial | rfl | (simp only [go_sem]; done) | constructor) rfl (by first | rfl | simp only [go_sem]) rfl (by simp)).mono ?_)
    rintro _ _ ⟨_, _, ⟨rfl, rfl⟩, rfl, rfl⟩
    refine run_ok 4000 _ _ _ _ ?_
    simp (maxSteps := 10000000) only [go_sem]
    rw [show allJ [] 0 (partsOf W) = (W, 0) from allJ_msgs W fun s hs => by have := hf s hs; omega]
    simp (maxSteps := 10000000) only [go_sem]
    refine sem_rounds (fun i : Nat => i ≤ W.length) (fun i => [(10, .vsl 1 (sv W) false), (4, .vsl 1 (sv W) false), (59, .int .i64 W.length), (60, .int .i64 (i : Nat))]) (fun i => []) (fun i => W.length - i) 0 [] (Nat.zero_le _) ?_ ?_
    · simp only [Emb, go_sem]
    intro j hj
    refine run_ok 4000 _ _ _ _ ?_
    simp (maxSteps := 10000000) only [go_sem]
    refine ⟨fun hlt => ?_, fun hge => ?_⟩
    · have hlt : j < W.length := by omega
      have hin : (j : Int) < (W.length : Int) := by omega
      skip
      refine sem_drawG l7_0_ok (by kernel_rfl) ?_
      intro KK hKK
      simp (maxSteps := 10000000) only [go_sem, l7_0, svl_rstr hlt, svl_hasS hlt, hin, Int.natCast_nonneg, inc64 (show j < 1000000000000 by omega)]
      subst hKK
      simp (maxSteps := 10000000) only [go_sem, svl_rstr hlt, svl_hasS hlt, hin, Int.natCast_nonneg, inc64 (show j < 1000000000000 by omega)]
      exact ⟨j + 1, by omega, by omega, [], by simp only [Emb, go_sem]⟩
    · skip
      refine run_ok 4000 _ _ _ _ ?_
      simp (maxSteps := 10000000) only [go_sem]
  · skip
    generalize few l i 700 = W at *
    have hW : W.length ≤ 8 := by omega
    have hsm : ∀ p ∈ partsOf W, p.2.length ≤ 1000000 := by
      intro p hp
      simp only [partsOf, List.mem_flatten, List.mem_map] at hp
      obtain ⟨q, ⟨s, hs, rfl⟩, hp⟩ := hp
      have := cutP_small 3 s (by have := hf s hs; omega) p hp
      omega
    refine sem_freeze 0 rfl (by simp only [go_sem]) ?_
    simp (maxSteps := 10000000) only [go_sem]
    refine sem_freeze 1 rfl (by simp only [go_sem]) ?_
    simp (maxSteps := 10000000) only [go_sem]
    refine run_ok 4000 _ _ _ _ ?_
    simp (maxSteps := 10000000) only [go_sem]
    refine sem_call rfl rfl (((allP_spec (partsOf W) false [] 0 (by simp) (by omega) hsm).embed [2] rfl (by repeat' first | exact trivial | rfl | (simp only [go_sem]; done) | constructor) rfl (by first | rfl | simp only [go_sem]) rfl (by simp)).mono ?_)
    rintro _ _ ⟨_, _, ⟨rfl, rfl⟩, rfl, rfl⟩
    refine run_ok 4000 _ _ _ _ ?_
    simp (maxSteps := 10000000) only [go_sem]
    rw [show allJ [] 0 (partsOf W) = (W, 0) from allJ_msgs W fun s hs => by have := hf s hs; omega]
    simp (maxSteps := 10000000) only [go_sem]
    refine sem_rounds (fun i : Nat => i ≤ W.length) (fun i => [(10, .vsl 1 (sv W) false), (4, .vsl 1 (sv W) false), (59, .int .i64 W.length), (60, .int .i64 (i : Nat))]) (fun i => []) (fun i => W.length - i) 0 [] (Nat.zero_le _) ?_ ?_
    · simp only [Emb, go_sem]
    intro j hj
    refine run_ok 4000 _ _ _ _ ?_
    simp (maxSteps := 10000000) only [go_sem]
    refine ⟨fun hlt => ?_, fun hge => ?_⟩
    · have hlt : j < W.length := by omega
      have hin : (j : Int) < (W.length : Int) := by omega
      skip
      refine sem_drawG l7_0_ok (by kernel_rfl) ?_
      intro KK hKK
      simp (maxSteps := 10000000) only [go_sem, l7_0, svl_rstr hlt, svl_hasS hlt, hin, Int.natCast_nonneg, inc64 (show j < 1000000000000 by omega)]
      subst hKK
      simp (maxSteps := 10000000) only [go_sem, svl_rstr hlt, svl_hasS hlt, hin, Int.natCast_nonneg, inc64 (show j < 1000000000000 by omega)]
      exact ⟨j + 1, by omega, by omega, [], by simp only [Emb, go_sem]⟩
    · skip
      refine run_ok 4000 _ _ _ _ ?_
      simp (maxSteps := 10000000) only [go_sem]
theorem parse_partB (p : Part) (h : p.2.length ≤ 200) : parseP (partB p) = (p, 0) := by
  obtain ⟨b, t⟩ := p
  simp only at h
  unfold partB parseP
  cases b <;> simp <;> omega
/-- A message's parts, put one behind the other. -/
theorem cutP_get : ∀ (k : Nat) (s : List UInt8) (i : Nat), s.length ≤ 200 * (k + 1) → (h : i < (cutP s).length) → (cutP s)[i] = (decide (i = (cutP s).length - 1), (s.drop (200 * i)).take 200) ∧ 200 * i ≤ s.length ∧ (i = (cutP s).length - 1 → s.length ≤ 200 * i + 200) ∧ (i ≠ (cutP s).length - 1 → 200 * i + 200 < s.length)
  | 0, s, i, hs, h => by
    have e := cutP_last (s := s) (by omega)
    generalize cutP s = L at *
    subst e
    have h0 : i = 0 := by simpa using h
    subst h0
    refine ⟨?_, by omega, fun _ => by omega, fun h => absurd rfl h⟩
    rw [Nat.mul_zero, List.drop_zero, List.take_of_length_le (by omega)]; rfl
  | k + 1, s, i, hs, h => by
    by_cases h1 : 200 < s.length
    · have e := cutP_more h1
      simp only [e] at h ⊢
      cases i with
      | zero =>
        have : 0 < (cutP (s.drop 200)).length := by rw [cutP]; split <;> simp
        simp; omega
      | succ i =>
        simp only [List.length_cons] at h
        obtain ⟨h2, h3, h4, h5⟩ := cutP_get k (s.drop 200) i (by simp; omega) (by omega)
        simp only [List.getElem_cons_succ, List.length_cons]
        rw [h2]
        simp only [List.length_drop] at h3 h4 h5
        refine ⟨?_, by omega, fun e => ?_, fun e => ?_⟩
        · rw [List.drop_drop, show 200 + 200 * i = 200 * (i + 1) by omega]
          congr 1
          simp; omega
        · have := h4 (by omega); omega
        · have := h5 (by omega); omega
    · have e := cutP_last (s := s) (by omega)
      generalize cutP s = L at *
      subst e
      have h0 : i = 0 := by simpa using h
      subst h0
      refine ⟨?_, by omega, fun _ => by omega, fun h => absurd rfl h⟩
      rw [Nat.mul_zero, List.drop_zero, List.take_of_length_le (by omega)]; rfl
theorem fragCuts_spec (s0 : List UInt8) (hs : s0.length ≤ 140737488351232) : Tri Try.prog 6 [.str s0] [] (fun v m => v = .bool true) := by
  skip
  refine (Tri.asB (Tri.enter (rl := r6) (code := c6) (by kernel_rfl) Try.func6 rfl c6_ok (by kernel_rfl) (by kernel_rfl) ?_))
  refine run_ok 4000 _ _ _ _ ?_
  simp (maxSteps := 10000000) only [go_sem, c6, r6]
  refine sem_call rfl rfl (((cut_spec s0 2000 (by decide)).embed [] rfl trivial rfl rfl rfl (by simp)).mono ?_)
  rintro _ _ ⟨_, _, ⟨rfl, rfl⟩, rfl, rfl⟩
  refine run_ok 4000 _ _ _ _ ?_
  simp (maxSteps := 10000000) only [go_sem]
  generalize hS : List.take 2000 s0 = s
  have hs : s.length ≤ 2000 := by rw [← hS]; simp; omega
  refine sem_call rfl rfl (((fcut_spec s (by omega)).embed [] rfl trivial rfl rfl rfl (by simp)).mono ?_)
  rintro _ _ ⟨_, _, ⟨rfl, rfl⟩, rfl, rfl⟩
  refine run_ok 4000 _ _ _ _ ?_
  simp (maxSteps := 10000000) only [go_sem]
  refine sem_call rfl rfl (((rCut_spec s (by omega)).embed [] rfl trivial rfl rfl rfl (by simp)).mono ?_)
  rintro _ _ ⟨_, _, ⟨rfl, rfl⟩, rfl, rfl⟩
  refine run_ok 4000 _ _ _ _ ?_
  simp (maxSteps := 10000000) only [go_sem]
  refine sem_call rfl rfl (((awake12_spec).embed [] rfl trivial rfl rfl rfl (by simp)).mono ?_)
  rintro _ _ ⟨_, _, ⟨rfl, rfl⟩, rfl, rfl⟩
  refine run_ok 4000 _ _ _ _ ?_
  simp (maxSteps := 10000000) only [go_sem]
  have hpos : 0 < (cutP s).length := by rw [cutP]; split <;> simp
  have hlen := cutP_len 9 s (by omega)
  refine sem_rounds (fun i : Nat => i ≤ (cutP s).length) (fun i => [(0, .str s), (3, .vsl 2 (prows (cutP s)) false), (5, .vsl 2 (prows (cutP s)) false), (38, .vsl 2 (prows (cutP s)) false), (39, .int .i64 (cutP s).length), (40, .int .i64 (i : Nat)), (6, .pbox 0 0)])
    (fun i => [.box [.str (if i < (cutP s).length then s.take (200 * i) else []), .int .i64 ((if i < (cutP s).length then i else 0 : Nat) : Nat)]]) (fun i => (cutP s).length - i) 0 [0] (Nat.zero_le _) ?_ ?_
  · simp only [Emb, go_sem]; simp [hpos]
  intro i hi
  refine run_ok 4000 _ _ _ _ ?_
  simp (maxSteps := 10000000) only [go_sem]
  refine ⟨fun hlt => ?_, fun hge => ?_⟩
  · have hlt : i < (cutP s).length := by omega
    have hin : (i : Int) < ((cutP s).length : Int) := by omega
    obtain ⟨g1, g2, g3, g4⟩ := cutP_get 9 s i (by omega) hlt
    generalize hT : (s.drop (200 * i)).take 200 = T at g1
    have hTl : T.length ≤ 200 := by rw [← hT]; simp; omega
    generalize hb : decide (i = (cutP s).length - 1) = b at g1
    have e1 : rbool (prows (cutP s)) i 0 = b := by rw [prows_rbool hlt, g1]
    have e2 : rstr (prows (cutP s)) i 1 = T := by rw [prows_rstr hlt, g1]
    have e3 := parse_partB (b, T) hTl
    have hbig : putBig (s.take (200 * i)) T = false := by simp [putBig]; omega
    have hjoin : s.take (200 * i) ++ T = s.take (200 * (i + 1)) := by rw [← hT, show 200 * (i + 1) = 200 * i + 200 by omega, List.take_add]
    have hq : ((i : Int) == iwrap .i64 (((cutP s).length : Int) - 1)) = b := by rw [← hb, iwrap_i64_in (by omega), Bool.eq_iff_iff]; simp; omega
    cases b with
    | false =>
      have h1 : putV (s.take (200 * i)) false T = ([], false, 0) := by simp [putV, hbig]
      have h2 : putS (s.take (200 * i)) i false T = (s.take (200 * (i + 1)), i + 1) := by simp [putS, hbig, hjoin]
      have hlast : i + 1 < (cutP s).length := by simp at hb; omega
      skip
      simp (maxSteps := 10000000) only [go_sem, e1, e2, e3, prows_hasB hlt, prows_hasS hlt, hin, Int.natCast_nonneg, inc64 (show i < 1000000000000 by omega), hq, h1, h2]
      refine sem_call rfl rfl (((bytes_spec false T (by omega)).embed [] rfl trivial rfl rfl rfl (by simp)).mono ?_)
      rintro _ _ ⟨_, _, ⟨rfl, rfl⟩, rfl, rfl⟩
      refine run_ok 4000 _ _ _ _ ?_
      simp (maxSteps := 10000000) only [go_sem, e1, e2, e3, prows_hasB hlt, prows_hasS hlt, hin, Int.natCast_nonneg, inc64 (show i < 1000000000000 by omega), hq, h1, h2]
      refine sem_call rfl rfl (((parse_spec (partB (false, T)) (by simp [partB]; omega)).embed [] rfl trivial rfl rfl rfl (by simp)).mono ?_)
      rintro _ _ ⟨_, _, ⟨rfl, rfl⟩, rfl, rfl⟩
      refine run_ok 4000 _ _ _ _ ?_
      simp (maxSteps := 10000000) only [go_sem, e1, e2, e3, prows_hasB hlt, prows_hasS hlt, hin, Int.natCast_nonneg, inc64 (show i < 1000000000000 by omega), hq, h1, h2]
      simp only [if_pos hlt]
      refine sem_call rfl rfl (((put_spec (s.take (200 * i)) i false T (by simp; omega) (by omega) (by omega)).embed [0] rfl (by repeat' first | exact trivial | rfl | (simp only [go_sem]; done) | constructor) rfl (by first | rfl | simp only [go_sem]) rfl (by simp)).mono ?_)
      rintro _ _ ⟨_, _, ⟨rfl, rfl⟩, rfl, rfl⟩
      refine run_ok 4000 _ _ _ _ ?_
      simp (maxSteps := 10000000) only [go_sem, e1, e2, e3, prows_hasB hlt, prows_hasS hlt, hin, Int.natCast_nonneg, inc64 (show i < 1000000000000 by omega), hq, h1, h2]
      refine sem_drawG l6_0_ok (by kernel_rfl) ?_
      intro KK hKK
      simp (maxSteps := 10000000) only [go_sem, l6_0, e1, e2, e3, prows_hasB hlt, prows_hasS hlt, hin, Int.natCast_nonneg, inc64 (show i < 1000000000000 by omega), hq, h1, h2]
      subst hKK
      simp (maxSteps := 10000000) only [go_sem, e1, e2, e3, prows_hasB hlt, prows_hasS hlt, hin, Int.natCast_nonneg, inc64 (show i < 1000000000000 by omega), hq, h1, h2]
      refine ⟨i + 1, by omega, by omega, [0], ?_⟩
      simp only [Emb, go_sem, if_pos hlast]
    | true =>
      have hlast : i = (cutP s).length - 1 := by simpa using hb
      have hs2 := g3 hlast
      have hall : s.take (200 * i) ++ T = s := by rw [hjoin]; exact List.take_of_length_le (by omega)
      have h1 : putV (s.take (200 * i)) true T = (s, true, 0) := by simp [putV, hbig, hall]
      have h2 : putS (s.take (200 * i)) i true T = ([], 0) := by simp [putS, hbig]
      have hno : ¬ i + 1 < (cutP s).length := by omega
      skip
      simp (maxSteps := 10000000) only [go_sem, e1, e2, e3, prows_hasB hlt, prows_hasS hlt, hin, Int.natCast_nonneg, inc64 (show i < 1000000000000 by omega), hq, h1, h2]
      refine sem_call rfl rfl (((bytes_spec true T (by omega)).embed [] rfl trivial rfl rfl rfl (by simp)).mono ?_)
      rintro _ _ ⟨_, _, ⟨rfl, rfl⟩, rfl, rfl⟩
      refine run_ok 4000 _ _ _ _ ?_
      simp (maxSteps := 10000000) only [go_sem, e1, e2, e3, prows_hasB hlt, prows_hasS hlt, hin, Int.natCast_nonneg, inc64 (show i < 1000000000000 by omega), hq, h1, h2]
      refine sem_call rfl rfl (((parse_spec (partB (true, T)) (by simp [partB]; omega)).embed [] rfl trivial rfl rfl rfl (by simp)).mono ?_)
      rintro _ _ ⟨_, _, ⟨rfl, rfl⟩, rfl, rfl⟩
      refine run_ok 4000 _ _ _ _ ?_
      simp (maxSteps := 10000000) only [go_sem, e1, e2, e3, prows_hasB hlt, prows_hasS hlt, hin, Int.natCast_nonneg, inc64 (show i < 1000000000000 by omega), hq, h1, h2]
      simp only [if_pos hlt]
      refine sem_call rfl rfl (((put_spec (s.take (200 * i)) i true T (by simp; omega) (by omega) (by omega)).embed [0] rfl (by repeat' first | exact trivial | rfl | (simp only [go_sem]; done) | constructor) rfl (by first | rfl | simp only [go_sem]) rfl (by simp)).mono ?_)
      rintro _ _ ⟨_, _, ⟨rfl, rfl⟩, rfl, rfl⟩
      refine run_ok 4000 _ _ _ _ ?_
      simp (maxSteps := 10000000) only [go_sem, e1, e2, e3, prows_hasB hlt, prows_hasS hlt, hin, Int.natCast_nonneg, inc64 (show i < 1000000000000 by omega), hq, h1, h2]
      refine sem_drawG l6_0_ok (by kernel_rfl) ?_
      intro KK hKK
      simp (maxSteps := 10000000) only [go_sem, l6_0, e1, e2, e3, prows_hasB hlt, prows_hasS hlt, hin, Int.natCast_nonneg, inc64 (show i < 1000000000000 by omega), hq, h1, h2]
      subst hKK
      simp (maxSteps := 10000000) only [go_sem, e1, e2, e3, prows_hasB hlt, prows_hasS hlt, hin, Int.natCast_nonneg, inc64 (show i < 1000000000000 by omega), hq, h1, h2]
      refine ⟨i + 1, by omega, by omega, [0], ?_⟩
      simp only [Emb, go_sem, if_neg hno]
  · have hno : ¬ i < (cutP s).length := by omega
    simp only [if_neg hno]
    skip
    refine run_ok 4000 _ _ _ _ ?_
    simp (maxSteps := 10000000) only [go_sem]
    refine sem_call rfl rfl (((open_spec [] 0).embed [0] rfl (by repeat' first | exact trivial | rfl | (simp only [go_sem]; done) | constructor) rfl (by first | rfl | simp only [go_sem]) rfl (by simp)).mono ?_)
    rintro _ _ ⟨_, _, ⟨rfl, rfl⟩, rfl, rfl⟩
    refine run_ok 4000 _ _ _ _ ?_
    simp (maxSteps := 10000000) only [go_sem]
end Go.AEX
