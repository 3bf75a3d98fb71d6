/- Seat rT: messages in parts come together again (CotillionParts). -/
import Derived.Test.YtpbmlaolpfaicaaTParts
import Derived.Test.YtpbmlaolpfaicaaAEsa
namespace Go.AEX
open Go Go.AE Go.Proofs
set_option maxRecDepth 100000
set_option linter.unusedVariables false
set_option linter.unusedSimpArgs false

theorem cutP2 {P : Program} {n k0 : Nat} {α : Type} (J : α → Prop) (sl : α → List (Nat × AV)) (mm : α → Mem) {k : List C} {Q : Exit → Tr → Mem → Prop} {S : Prop} (h : (∀ x, J x → SemW P n k0 k (mkP (sl x)) (mm x) Q) → S)
    (ht : ∀ x, J x → SemW P n k0 k (mkP (sl x)) (mm x) Q) : S := h ht
abbrev pM (N : Int) (L : Ent) (M : Int) (K : Ent) : Mem := [.box [.int .u32 (kap 7 N), .sl 1 0 L.length L.length false], .row 2 (irows (mapK 7 L)), .box [.int .u32 (kap 7 M), .map 3], .map (me (mapK 7 K))]
abbrev pJ (N : Int) (L : Ent) (M : Int) (K : Ent) (S : List UInt8 × Nat) (G : List (List UInt8)) : Mem := [.box [.int .u32 (kap 7 N), .sl 1 0 L.length L.length false], .row 2 (irows (mapK 7 L)), .box [.int .u32 (kap 7 M), .map 3], .map (me (mapK 7 K)), .box [.str S.1, .int .i64 (S.2 : Nat)], .row 1 (sv G)]
theorem mapK_len (F : Int) (L : Ent) : (mapK F L).length = L.length := by simp [mapK]
theorem prows_drop (P : List Part) (c : Nat) (h : c < P.length) : sub (prows (P.drop c)) 1 ((P.drop c).length - 1) = prows (P.drop (c + 1)) := by
  unfold sub prows
  rw [← List.map_drop, List.drop_drop, List.take_of_length_le (by simp; omega)]
abbrev pS0 (P : List Part) (Ms : List (List UInt8)) (W : List Int) : List (Nat × AV) := [(1, .vsl 1 (iv .i64 W) false), (5, .pbox 0 0), (6, .pbox 2 0), (7, .vsl 2 (prows P) false), (8, .vsl 1 (sv Ms) false), (13, .pbox 4 0), (14, .sl 5 0 0 0 false), (62, .int .i64 0)]
structure PX where
  i : Nat
  c : Nat
  m : Nat
  L : Ent
  K : Ent
structure PJ (P : List Part) (x : PX) : Prop where
  hi : x.i ≤ 200
  hc : x.c ≤ P.length
  car : CarT (tfP P) P.length (1000 + (x.c : Int)) x.L (1000 + (x.m : Int)) x.K
  hL : x.L.length ≤ x.c
  all : x.c = P.length ∨ x.i = 0
  dec : 100 ≤ x.i → x.L.length + x.i ≤ 124
abbrev pS (P : List Part) (Ms : List (List UInt8)) (W : List Int) (c m : Nat) (i : Nat) : List (Nat × AV) := [(1, .vsl 1 (iv .i64 W) false), (5, .pbox 0 0), (6, .pbox 2 0), (7, .vsl 2 (prows (P.drop c)) false), (8, .vsl 1 (sv Ms) false), (13, .pbox 4 0), (14, .sl 5 0 (gotP P m).length (gotP P m).length false), (62, .int .i64 (i : Nat))]
abbrev pK (P : List Part) (x : PX) : Mem := pJ (1000 + (x.c : Int)) x.L (1000 + (x.m : Int)) x.K (opnP P x.m) (gotP P x.m)
theorem parts_core (l : List (List UInt8)) (W : List Int) (hl : ∀ s ∈ l, s.length ≤ 9223372036854775807) : Tri Try.prog 4 [.vsl 1 (sv l) false, .vsl 1 (iv .i64 W) false] [] (fun v m => v = .bool true) := by
  skip
  refine (Tri.asB (Tri.enter (rl := r4) (code := c4) (by kernel_rfl) Try.func4 rfl c4_ok (by kernel_rfl) (by kernel_rfl) ?_))
  refine run_ok 4000 _ _ _ _ ?_
  simp (maxSteps := 10000000) only [go_sem, c4, r4, iv_len]
  refine sem_call rfl rfl (((live_spec).embed [] rfl trivial rfl rfl rfl (by simp)).mono ?_)
  rintro _ _ ⟨_, _, ⟨rfl, rfl⟩, rfl, rfl⟩
  refine run_ok 4000 _ _ _ _ ?_
  simp (maxSteps := 10000000) only [go_sem, iv_len]
  refine sem_call rfl rfl (((begin_spec 7).embed [] rfl trivial rfl rfl rfl (by simp)).mono ?_)
  rintro _ _ ⟨_, _, ⟨rfl, rfl⟩, rfl, rfl⟩
  refine run_ok 4000 _ _ _ _ ?_
  simp (maxSteps := 10000000) only [go_sem, iv_len]
  refine sem_call rfl rfl (((expect_spec 7).embed [] rfl trivial rfl rfl rfl (by simp)).mono ?_)
  rintro _ _ ⟨_, _, ⟨rfl, rfl⟩, rfl, rfl⟩
  refine run_ok 4000 _ _ _ _ ?_
  simp (maxSteps := 10000000) only [go_sem, iv_len]
  refine sem_nilbox 0 1 2 rfl rfl ?_
  simp (maxSteps := 10000000) only [go_sem, iv_len]
  refine sem_virt 7 2 rfl ?_
  simp (maxSteps := 10000000) only [go_sem, iv_len]
  refine sem_virt 8 1 rfl ?_
  simp (maxSteps := 10000000) only [go_sem, iv_len]
  apply cutP2 (fun k : Nat => k ≤ 8 ∧ k ≤ l.length) (fun k => pS0 (partsOf (few l k 500)) (few l k 500) W) (fun k => pJ 1000 [] 1000 [] ([], 0) [])
  · intro hX
    refine sem_rounds (fun i : Nat => i ≤ 8 ∧ i ≤ l.length) (fun i => [(0, .vsl 1 (sv l) false), (1, .vsl 1 (iv .i64 W) false), (5, .pbox 0 0), (6, .pbox 2 0), (7, .sl 4 0 (partsOf (few l i 500)).length (partsOf (few l i 500)).length false), (8, .sl 5 0 (few l i 500).length (few l i 500).length false), (9, .int .i64 (i : Nat))])
      (fun i => pM 1000 [] 1000 [] ++ [.row 2 (prows (partsOf (few l i 500))), .row 1 (sv (few l i 500))]) (fun i => 8 - i) 0 [0, 3, 1, 2, 4, 5] ⟨by simp, by simp⟩ ?_ ?_
    · have k7 : kap 7 1000 = 7 := by decide
      simp only [Emb, go_sem, pM, mapK, List.map_nil, irows, List.length_nil, k7, List.cons_append, List.nil_append]; simp [few, sv, partsOf, prows]
    rintro i ⟨hi, hil⟩
    have hfp := few_parts l i hi
    have hfl := few_len l 500 i hil
    by_cases c1 : i < l.length
    · have i1 : (i : Int) < (l.length : Int) := by omega
      by_cases c2 : i < 8
      · have i2 : (i : Int) < 8 := by omega
        have hcl : (l[i].take 500).length ≤ 500 := by simp; omega
        have hc := cutP_len 2 (l[i].take 500) (by omega)
        have hcs := cut_spec l[i] 500 (by decide)
        rw [show (500 : Int).toNat = 500 from rfl] at hcs
        have hfc := fcut_spec (l[i].take 500) (by omega)
        have r0 := svl_rstr c1
        have q0 := svl_hasS c1
        have s1 : small ((partsOf (few l i 500)).length + (cutP (l[i].take 500)).length) := by unfold small; omega
        have s2 : small ((few l i 500).length + 1) := by unfold small; omega
        have ft := few_take l 500 i c1
        skip
        refine run_ok 4000 _ _ _ _ ?_
        simp (maxSteps := 10000000) only [go_sem, i1, i2, r0, q0, Int.natCast_nonneg, inc64 (show i < 1000000000000 by omega), s1, s2, svl_len, prows_len, Nat.le_refl]
        refine sem_call rfl rfl (((hcs).embed [] rfl trivial rfl rfl rfl (by simp)).mono ?_)
        rintro _ _ ⟨_, _, ⟨rfl, rfl⟩, rfl, rfl⟩
        refine run_ok 4000 _ _ _ _ ?_
        simp (maxSteps := 10000000) only [go_sem, i1, i2, r0, q0, Int.natCast_nonneg, inc64 (show i < 1000000000000 by omega), s1, s2, svl_len, prows_len, Nat.le_refl]
        refine sem_call rfl rfl (((hfc).embed [] rfl trivial rfl rfl rfl (by simp)).mono ?_)
        rintro _ _ ⟨_, _, ⟨rfl, rfl⟩, rfl, rfl⟩
        refine run_ok 4000 _ _ _ _ ?_
        simp (maxSteps := 10000000) only [go_sem, i1, i2, r0, q0, Int.natCast_nonneg, inc64 (show i < 1000000000000 by omega), s1, s2, svl_len, prows_len, Nat.le_refl]
        refine ⟨i + 1, by omega, ⟨by omega, c1⟩, [0, 1, 2, 3, 6, 7], ?_⟩
        simp only [Emb, go_sem, ft, svl_one, partsOf_snoc, prows_app]
        simp
      · have i2 : ¬ (i : Int) < 8 := by omega
        skip
        refine run_ok 4000 _ _ _ _ ?_
        simp (maxSteps := 10000000) only [go_sem, i1, i2, svl_len]
        refine run_ok 4000 _ _ _ _ ?_
        simp (maxSteps := 10000000) only [go_sem, i1, i2, svl_len]
        refine sem_virt 14 1 rfl ?_
        refine sem_freeze 4 rfl (by simp only [go_sem, prows_len, Nat.le_refl]) ?_
        refine sem_freeze 5 rfl (by simp only [go_sem, svl_len, Nat.le_refl]) ?_
        refine sem_sub (sl := pS0 (partsOf (few l i 500)) (few l i 500) W) (m2 := pJ 1000 [] 1000 [] ([], 0) []) [0, 1, 2, 3, 6, 7] ?_ ?_
        · simp only [Emb, go_sem, sub_prows, svl_sub]
        exact hX i ⟨hi, hil⟩
    · have i1 : ¬ (i : Int) < (l.length : Int) := by omega
      skip
      refine run_ok 4000 _ _ _ _ ?_
      simp (maxSteps := 10000000) only [go_sem, i1, svl_len]
      refine run_ok 4000 _ _ _ _ ?_
      simp (maxSteps := 10000000) only [go_sem, i1, svl_len]
      refine sem_virt 14 1 rfl ?_
      refine sem_freeze 4 rfl (by simp only [go_sem, prows_len, Nat.le_refl]) ?_
      refine sem_freeze 5 rfl (by simp only [go_sem, svl_len, Nat.le_refl]) ?_
      refine sem_sub (sl := pS0 (partsOf (few l i 500)) (few l i 500) W) (m2 := pJ 1000 [] 1000 [] ([], 0) []) [0, 1, 2, 3, 6, 7] ?_ ?_
      · simp only [Emb, go_sem, sub_prows, svl_sub]
      exact hX i ⟨hi, hil⟩
  · rintro k ⟨hk8, hkl⟩
    obtain ⟨hPl, hPs, hPj⟩ := few_parts l k hk8
    have hMl := few_len l 500 k hkl
    generalize hMs : few l k 500 = Ms at *
    generalize partsOf Ms = P at *
    have hP0 : (allJ [] 0 P).2 = 0 := by rw [hPj]
    refine sem_rounds (fun x : PX => PJ P x) (fun x => pS P Ms W x.c x.m x.i) (fun x => pK P x) (fun x => 200 - x.i) ⟨0, 0, 0, [], []⟩ [0, 1, 2, 3, 4, 5] ⟨by simp, by simp, CarT.begin _, by simp, .inr rfl, by simp⟩ ?_ ?_
    · simp [Emb, go_sem, pJ, gotP, opnP, allJ, allS]
    rintro ⟨i, c, m, L, K⟩ ⟨hi, hc, car, hL, hall, hdec⟩
    simp only at hi hc car hL hall hdec ⊢
    by_cases ci : i < 200
    · have i1 : (i : Int) < 200 := by omega
      skip
      refine run_ok 4000 _ _ _ _ ?_
      simp (maxSteps := 10000000) only [go_sem, i1]
      apply cutP2 (fun x : PX => x.i = i ∧ x.m = m ∧ x.c = P.length ∧ x.K = K ∧ PJ P x) (fun x => (81, .pbox 0 0) :: (15, .int .i64 (i : Nat)) :: pS P Ms W P.length m i) (fun x => pJ (1000 + (P.length : Int)) x.L (1000 + (m : Int)) K (opnP P m) (gotP P m))
      · intro hX
        refine sem_rounds (fun x : Nat × Ent => x.1 ≤ P.length ∧ CarT (tfP P) P.length (1000 + (x.1 : Int)) x.2 (1000 + (m : Int)) K ∧ x.2.length ≤ x.1 ∧ (c = P.length → x.1 = c ∧ x.2 = L))
          (fun x => (15, .int .i64 (i : Nat)) :: pS P Ms W x.1 m i) (fun x => pJ (1000 + (x.1 : Int)) x.2 (1000 + (m : Int)) K (opnP P m) (gotP P m)) (fun x => P.length - x.1) (c, L) [0, 1, 2, 3, 4, 5] ⟨hc, car, hL, fun _ => ⟨rfl, rfl⟩⟩ ?_ ?_
        · simp only [Emb, go_sem]
        rintro ⟨c2, L2⟩ ⟨hc2, car2, hL2, hst⟩
        simp only at hc2 car2 hL2 hst ⊢
        by_cases cc : c2 < P.length
        · have g1 : ((P.drop c2).length : Int) > 0 := by simp; omega
          have g2 : (0 : Int) < ((P.drop c2).length : Int) := by omega
          have hd0 : 0 < (P.drop c2).length := by simp; omega
          have hd1 : (P.drop c2)[0] = P[c2] := by simp
          have r0 := prows_rbool hd0
          have r1 := prows_rstr hd0
          rw [hd1] at r0 r1
          have q0 := prows_hasB hd0
          have q1 := prows_hasS hd0
          have hpl := hPs P[c2] (List.getElem_mem cc)
          have hbs := bytes_spec P[c2].1 P[c2].2 (by omega)
          obtain ⟨q, ho⟩ := car2.o
          have hroom : roomW (kap 7 (1000 + (c2 : Int))) (mapK 7 L2) = true := by
            cases L2 with
            | nil => rfl
            | cons p L3 => rw [room_map 7 ho, decide_eq_true]; have := ho.low p (by simp); omega
          have hps := push_spec (kap 7 (1000 + (c2 : Int))) (mapK 7 L2) (partB P[c2]) (by rw [kap_eq]; unfold U32; omega) (by rw [mapK_len]; omega)
          unfold outW outW2 pushW at hps
          rw [hroom] at hps
          simp only [if_true, mapK_len] at hps
          have hdr := prows_drop P c2 cc
          have hcar := car2.push (fun p hp => by have := ho.low p hp; omega) (by omega)
          rw [tfP_at cc] at hcar
          have kn : u32 (kap 7 (1000 + (c2 : Int)) + 1) = kap 7 (1000 + ((c2 + 1 : Nat) : Int)) := by rw [← kap_next]; congr 1
          have hmk : mapK 7 L2 ++ [(kap 7 (1000 + (c2 : Int)), partB P[c2])] = mapK 7 (L2 ++ [(1000 + (c2 : Int), partB P[c2])]) := by simp [mapK]
          rw [kn, hmk, mapK_len] at hps
          have e1 : 1000 + (c2 : Int) + 1 = 1000 + ((c2 + 1 : Nat) : Int) := by omega
          rw [e1] at hcar
          have g3 : (1 : Int) ≤ ((P.drop c2).length : Int) := by omega
          skip
          refine run_ok 4000 _ _ _ _ ?_
          simp (maxSteps := 10000000) only [go_sem, g1, g2, g3, r0, r1, q0, q1, prows_len, hdr, Int.le_refl]
          refine sem_call rfl rfl (((hbs).embed [] rfl trivial rfl rfl rfl (by simp)).mono ?_)
          rintro _ _ ⟨_, _, ⟨rfl, rfl⟩, rfl, rfl⟩
          refine run_ok 4000 _ _ _ _ ?_
          simp (maxSteps := 10000000) only [go_sem, g1, g2, g3, r0, r1, q0, q1, prows_len, hdr, Int.le_refl]
          refine sem_call rfl rfl (((hps).embed [0, 1] rfl (by repeat' first | exact trivial | rfl | (simp only [go_sem]; done) | constructor) rfl (by first | rfl | simp only [go_sem]) rfl (by simp)).mono ?_)
          rintro _ _ ⟨_, _, ⟨rfl, rfl⟩, rfl, rfl⟩
          refine run_ok 4000 _ _ _ _ ?_
          simp (maxSteps := 10000000) only [go_sem, g1, g2, g3, r0, r1, q0, q1, prows_len, hdr, Int.le_refl]
          refine ⟨(c2 + 1, L2 ++ [(1000 + (c2 : Int), partB P[c2])]), by simp only; omega, ⟨by simp only; omega, hcar, by simp only [List.length_append, List.length_singleton]; omega, fun h => by omega⟩, [0, 6, 2, 3, 4, 5], ?_⟩
          simp only [Emb, go_sem]
        · have g1 : ¬ ((P.drop c2).length : Int) > 0 := by simp only [List.length_drop]; omega
          obtain rfl : c2 = P.length := by omega
          skip
          refine run_ok 4000 _ _ _ _ ?_
          simp (maxSteps := 10000000) only [go_sem, g1, prows_len]
          refine run_ok 4000 _ _ _ _ ?_
          simp (maxSteps := 10000000) only [go_sem, g1, prows_len]
          refine sem_sub (sl := (81, .pbox 0 0) :: (15, .int .i64 (i : Nat)) :: pS P Ms W P.length m i) (m2 := pJ (1000 + (P.length : Int)) L2 (1000 + (m : Int)) K (opnP P m) (gotP P m)) [0, 1, 2, 3, 4, 5] ?_ ?_
          · simp only [Emb, go_sem]
          refine hX ⟨i, P.length, m, L2, K⟩ ⟨rfl, rfl, rfl, rfl, ⟨by simp only; omega, Nat.le_refl _, car2, hL2, .inl rfl, fun h => ?_⟩⟩
          simp only at h ⊢
          rcases hall with e | e
          · rw [(hst e).2]; exact hdec h
          · omega
      · clear car hL hall hdec hc hi
        rintro ⟨i9, c9, m9, L, K9⟩ ⟨e1, e2, e3, e4, hi, hc, car, hL, hall, hdec⟩
        simp only at e1 e2 e3 e4 hi hc car hL hall hdec ⊢
        subst e1 e2 e3 e4
        obtain ⟨q, ho⟩ := car.o
        have hal := all_spec (kap 7 (1000 + (P.length : Int))) (mapK 7 L) (by rw [mapK_len]; omega)
        unfold outW at hal
        rw [mapK_len] at hal
        have w9 := inc64 (show i9 < 1000000000000 by omega)
        cases hLc : L with
        | nil =>
          have hz : (((([] : Ent).length : Nat) : Int) == 0) = true := rfl
          rw [hLc] at hal car
          obtain ⟨y1, _, _⟩ := car.all (by simp)
          obtain rfl : m9 = P.length := by omega
          have hG := gotP_all hPj
          rw [hG]
          have bn : ((Ms.length : Int) != (Ms.length : Int)) = false := by simp
          skip
          refine sem_call rfl rfl (((hal).embed [0, 1] rfl (by repeat' first | exact trivial | rfl | (simp only [go_sem]; done) | constructor) rfl (by first | rfl | simp only [go_sem]) rfl (by simp)).mono ?_)
          rintro _ _ ⟨_, _, ⟨rfl, rfl⟩, rfl, rfl⟩
          refine run_ok 4000 _ _ _ _ ?_
          simp (maxSteps := 10000000) only [go_sem, irows_len, mapK_len, hz, bn, svl_len, hG]
          refine run_ok 4000 _ _ _ _ ?_
          simp (maxSteps := 10000000) only [go_sem, irows_len, mapK_len, hz, bn, svl_len, hG]
          refine sem_rounds (fun j : Nat => j ≤ Ms.length) (fun j => [(8, .vsl 1 (sv Ms) false), (14, .sl 0 0 Ms.length Ms.length false), (155, .int .i64 Ms.length), (156, .int .i64 (j : Nat))])
            (fun j => [.row 1 (sv Ms)]) (fun j => Ms.length - j) 0 [5] (Nat.zero_le _) ?_ ?_
          · simp only [Emb, go_sem]
          intro j hj
          by_cases cj : j < Ms.length
          · have hin : (j : Int) < (Ms.length : Int) := by omega
            have r0 := svl_rstr cj
            have q0 := svl_hasS cj
            have w4 := inc64 (show j < 1000000000000 by omega)
            skip
            refine run_ok 4000 _ _ _ _ ?_
            simp (maxSteps := 10000000) only [go_sem, hin, r0, q0, svl_len, Int.natCast_nonneg, w4, seqb_self]
            refine sem_drawG l4_0_ok (by kernel_rfl) ?_
            intro KK hKK
            simp (maxSteps := 10000000) only [go_sem, l4_0, hin, r0, q0, svl_len, Int.natCast_nonneg, w4, seqb_self]
            subst hKK
            simp (maxSteps := 10000000) only [go_sem, hin, r0, q0, svl_len, Int.natCast_nonneg, w4, seqb_self]
            refine ⟨j + 1, by omega, cj, [0], ?_⟩
            simp only [Emb, go_sem]
          · have hin : ¬ (j : Int) < (Ms.length : Int) := by omega
            skip
            refine run_ok 4000 _ _ _ _ ?_
            simp (maxSteps := 10000000) only [go_sem, hin]
            refine run_ok 4000 _ _ _ _ ?_
            simp (maxSteps := 10000000) only [go_sem, hin]
        | cons p0 L0 =>
          rw [← hLc]
          have hLp : 0 < L.length := by rw [hLc]; simp
          have hz : (((L.length : Nat) : Int) == 0) = false := by rw [beq_eq_false_iff_ne]; omega
          apply cutP2 (fun y : Int × List UInt8 => y ∈ L ∧ (100 ≤ i9 → y = p0)) (fun y => (109, .pbox 2 0) :: (113, .agg [.int .u32 (kap 7 y.1), .str y.2]) :: pS P Ms W P.length m9 i9) (fun y => pJ (1000 + (P.length : Int)) L (1000 + (m9 : Int)) K9 (opnP P m9) (gotP P m9))
          · intro hY
            have h00 : L[0] = p0 := by simp [hLc]
            have hk0 : 0 < (mapK 7 L).length := by rw [mapK_len]; exact hLp
            have z0 := i_rint hk0; have z1 := i_rstr hk0; have z2 := i_hasI hk0; have z3 := i_hasS hk0
            have ez : (mapK 7 L)[0] = (kap 7 p0.1, p0.2) := by simp [mapK, h00]
            rw [ez] at z0 z1
            have z4 : (0 : Int) < (L.length : Int) := by omega
            by_cases c1 : i9 < W.length
            · have i2 : (i9 : Int) < (W.length : Int) := by omega
              by_cases c2 : i9 < 100
              · have i3 : (i9 : Int) < 100 := by omega
                have r0 := iv_rint (k := .i64) c1
                have q0 := iv_hasI (k := .i64) c1
                generalize W[i9] = w at *
                obtain ⟨b1, hb1, hb1'⟩ := and_i64 w (k := 255) (by decide)
                have hb1 : ibits .and .i64 w 255 = (b1 : Int) := hb1
                obtain ⟨b2, hb2, _⟩ := and_i64 w (k := 256) (by decide)
                have hb2 : ibits .and .i64 w 256 = (b2 : Int) := hb2
                have hnz : ¬ (L.length : Int) = 0 := by omega
                have hmd : (b1 : Int).tmod (L.length : Int) = ((b1 % L.length : Nat) : Int) := by rw [Int.natCast_emod, Int.tmod_eq_emod_of_nonneg (by omega)]
                have hrl : b1 % L.length < L.length := Nat.mod_lt _ (by omega)
                generalize b1 % L.length = r at *
                by_cases c3 : (b2 : Int) > 0
                · skip
                  refine sem_call rfl rfl (((hal).embed [0, 1] rfl (by repeat' first | exact trivial | rfl | (simp only [go_sem]; done) | constructor) rfl (by first | rfl | simp only [go_sem]) rfl (by simp)).mono ?_)
                  rintro _ _ ⟨_, _, ⟨rfl, rfl⟩, rfl, rfl⟩
                  refine run_ok 4000 _ _ _ _ ?_
                  simp (maxSteps := 10000000) only [go_sem, irows_len, mapK_len, hz, i2, i3, r0, q0, hb1, hb2, hmd, hnz, c3, iv_len, Int.natCast_nonneg, w9]
                  refine ⟨⟨i9 + 1, P.length, m9, L, K9⟩, by simp only; omega, ⟨by simp only; omega, Nat.le_refl _, car, hL, .inl rfl, fun h => ?_⟩, [0, 1, 2, 3, 4, 5], ?_⟩
                  · simp only at h ⊢; omega
                  · simp only [Emb, go_sem]
                · have hrk : r < (mapK 7 L).length := by rw [mapK_len]; exact hrl
                  have y0 := i_rint hrk; have y1 := i_rstr hrk; have y2 := i_hasI hrk; have y3 := i_hasS hrk
                  have ey : (mapK 7 L)[r] = (kap 7 L[r].1, L[r].2) := by simp [mapK]
                  rw [ey] at y0 y1
                  have y4 : (r : Int) < (L.length : Int) := by omega
                  skip
                  refine sem_call rfl rfl (((hal).embed [0, 1] rfl (by repeat' first | exact trivial | rfl | (simp only [go_sem]; done) | constructor) rfl (by first | rfl | simp only [go_sem]) rfl (by simp)).mono ?_)
                  rintro _ _ ⟨_, _, ⟨rfl, rfl⟩, rfl, rfl⟩
                  refine run_ok 4000 _ _ _ _ ?_
                  simp (maxSteps := 10000000) only [go_sem, irows_len, mapK_len, hz, i2, i3, r0, q0, hb1, hb2, hmd, hnz, c3, iv_len, Int.natCast_nonneg, y0, y1, y2, y3, y4]
                  refine sem_sub (sl := (109, .pbox 2 0) :: (113, .agg [.int .u32 (kap 7 L[r].1), .str L[r].2]) :: pS P Ms W P.length m9 i9) (m2 := pJ (1000 + (P.length : Int)) L (1000 + (m9 : Int)) K9 (opnP P m9) (gotP P m9)) [0, 1, 2, 3, 4, 5] ?_ ?_
                  · simp only [Emb, go_sem]
                  exact hY L[r] ⟨List.getElem_mem hrl, fun h => by omega⟩
              · have i3 : ¬ (i9 : Int) < 100 := by omega
                skip
                refine sem_call rfl rfl (((hal).embed [0, 1] rfl (by repeat' first | exact trivial | rfl | (simp only [go_sem]; done) | constructor) rfl (by first | rfl | simp only [go_sem]) rfl (by simp)).mono ?_)
                rintro _ _ ⟨_, _, ⟨rfl, rfl⟩, rfl, rfl⟩
                refine run_ok 4000 _ _ _ _ ?_
                simp (maxSteps := 10000000) only [go_sem, irows_len, mapK_len, hz, i2, i3, iv_len, Int.natCast_nonneg, z0, z1, z2, z3, z4]
                refine sem_sub (sl := (109, .pbox 2 0) :: (113, .agg [.int .u32 (kap 7 p0.1), .str p0.2]) :: pS P Ms W P.length m9 i9) (m2 := pJ (1000 + (P.length : Int)) L (1000 + (m9 : Int)) K9 (opnP P m9) (gotP P m9)) [0, 1, 2, 3, 4, 5] ?_ ?_
                · simp only [Emb, go_sem]
                exact hY p0 ⟨by rw [hLc]; simp, fun _ => rfl⟩
            · have i2 : ¬ (i9 : Int) < (W.length : Int) := by omega
              skip
              refine sem_call rfl rfl (((hal).embed [0, 1] rfl (by repeat' first | exact trivial | rfl | (simp only [go_sem]; done) | constructor) rfl (by first | rfl | simp only [go_sem]) rfl (by simp)).mono ?_)
              rintro _ _ ⟨_, _, ⟨rfl, rfl⟩, rfl, rfl⟩
              refine run_ok 4000 _ _ _ _ ?_
              simp (maxSteps := 10000000) only [go_sem, irows_len, mapK_len, hz, i2, iv_len, Int.natCast_nonneg, z0, z1, z2, z3, z4]
              refine sem_sub (sl := (109, .pbox 2 0) :: (113, .agg [.int .u32 (kap 7 p0.1), .str p0.2]) :: pS P Ms W P.length m9 i9) (m2 := pJ (1000 + (P.length : Int)) L (1000 + (m9 : Int)) K9 (opnP P m9) (gotP P m9)) [0, 1, 2, 3, 4, 5] ?_ ?_
              · simp only [Emb, go_sem]
              exact hY p0 ⟨by rw [hLc]; simp, fun _ => rfl⟩
          · rintro ⟨x, tx⟩ ⟨hx, hx0⟩
            have htx : tx = tfP P x := car.tl _ hx
            subst htx
            simp only
            obtain ⟨b1, b2, g, K', u1, u2, hk', hkeep, hnow⟩ := car.put ⟨_, hx, rfl⟩
            simp only at b1 b2 u1 u2 hnow
            obtain ⟨hpm, _⟩ := put_map (F := 7) (s := tfP P x) car.w b1 b2
            have hwl := car.w.len
            have hip := iput_spec (kap 7 (1000 + (m9 : Int))) (mapK 7 K9) (kap 7 x) (tfP P x) (by simp [mapK]; omega)
            rw [hpm] at hip
            simp only [u1, u2] at hip
            skip
            refine sem_call rfl rfl (((hip).embed [2, 3] rfl (by repeat' first | exact trivial | rfl | (simp only [go_sem]; done) | constructor) rfl (by first | rfl | simp only [go_sem]) rfl (by simp)).mono ?_)
            rintro _ _ ⟨_, _, ⟨rfl, rfl⟩, rfl, rfl⟩
            refine run_ok 4000 _ _ _ _ ?_
            simp (maxSteps := 10000000) only [go_sem]
            have hmg : m9 + g ≤ P.length := by have := hk'.le; omega
            generalize hO : (List.range g).map (fun j : Nat => tfP P (1000 + (m9 : Int) + (j : Int))) = O at *
            have hOl : O.length = g := by rw [← hO]; simp
            have eg : 1000 + (m9 : Int) + (g : Int) = 1000 + ((m9 + g : Nat) : Int) := by omega
            rw [eg] at hk' ⊢
            refine sem_rounds (fun j : Nat => j ≤ g) (fun j => (117, .vsl 1 (sv O) false) :: (118, .int .i64 g) :: (119, .int .i64 (j : Nat)) :: pS P Ms W P.length (m9 + j) i9)
              (fun j => pJ (1000 + (P.length : Int)) L (1000 + ((m9 + g : Nat) : Int)) K' (opnP P (m9 + j)) (gotP P (m9 + j))) (fun j => g - j) 0 [0, 1, 2, 3, 4, 5] (Nat.zero_le _) ?_ ?_
            · simp only [Emb, go_sem, hOl, Nat.add_zero]
              try simp
            intro j hj
            by_cases cj : j < g
            · have hin : (j : Int) < (g : Int) := by omega
              have hmj : m9 + j < P.length := by omega
              have hjl : j < O.length := by omega
              have hOj : O[j] = partB P[m9 + j] := by
                have : O[j] = tfP P (1000 + (m9 : Int) + (j : Int)) := by simp [← hO]
                rw [this, show 1000 + (m9 : Int) + (j : Int) = 1000 + ((m9 + j : Nat) : Int) by omega, tfP_at hmj]
              have r0 := svl_rstr hjl
              have q0 := svl_hasS hjl
              rw [hOj] at r0
              have hpl := hPs P[m9 + j] (List.getElem_mem hmj)
              have hpa := parseB_spec P[m9 + j] hpl
              obtain ⟨n1, n2, n3⟩ := part_next hP0 hmj
              have hsl := allS_len (P.take (m9 + j)) [] 0 (by simp) (by simp; omega)
              have hja := allP_spec [P[m9 + j]] true (opnP P (m9 + j)).1 (opnP P (m9 + j)).2 hsl.1 (by have := hsl.2; simp at this ⊢; unfold opnP; omega) (by intro p hp; simp at hp; rw [hp]; omega)
              rw [n1, ← n3] at hja
              have hgl := gotP_len (P := P) (m9 + j) hP0 (by omega)
              have hgl2 := gotP_len (P := P) (m9 + j + 1) hP0 (by omega)
              rw [n2, List.length_append] at hgl2
              rw [show m9 + j + 1 = m9 + (j + 1) by omega] at n2 n3 hja
              generalize (allJ (opnP P (m9 + j)).1 (opnP P (m9 + j)).2 [P[m9 + j]]).1 = A at *
              generalize P[m9 + j] = p at *
              have hpr : prows [p] = [[AV.bool p.1, AV.str p.2]] := rfl
              rw [hpr] at hja
              have hsm : small ((gotP P (m9 + j)).length + A.length) := by unfold small; omega
              have w4 := inc64 (show j < 1000000000000 by omega)
              skip
              refine run_ok 4000 _ _ _ _ ?_
              simp (maxSteps := 10000000) only [go_sem, hin, r0, q0, svl_len, hOl, Int.natCast_nonneg, w4, hsm, Nat.le_refl]
              refine sem_call rfl rfl (((hpa).embed [] rfl trivial rfl rfl rfl (by simp)).mono ?_)
              rintro _ _ ⟨_, _, ⟨rfl, rfl⟩, rfl, rfl⟩
              refine run_ok 4000 _ _ _ _ ?_
              simp (maxSteps := 10000000) only [go_sem, hin, r0, q0, svl_len, hOl, Int.natCast_nonneg, w4, hsm, Nat.le_refl]
              refine sem_call rfl rfl (((hja).embed [4] rfl (by repeat' first | exact trivial | rfl | (simp only [go_sem]; done) | constructor) rfl (by first | rfl | simp only [go_sem]) rfl (by simp)).mono ?_)
              rintro _ _ ⟨_, _, ⟨rfl, rfl⟩, rfl, rfl⟩
              refine run_ok 4000 _ _ _ _ ?_
              simp (maxSteps := 10000000) only [go_sem, hin, r0, q0, svl_len, hOl, Int.natCast_nonneg, w4, hsm, Nat.le_refl]
              refine ⟨j + 1, by omega, by omega, [0, 1, 2, 3, 4, 7], ?_⟩
              simp only [Emb, go_sem, n2, svl_app, svl_sub, List.length_append]
            · have hin : ¬ (j : Int) < (g : Int) := by omega
              obtain rfl : j = g := by omega
              have hok := oack_spec (kap 7 (1000 + (P.length : Int))) (mapK 7 L) (kap 7 (1000 + ((m9 + j : Nat) : Int))) (bitsR (1000 + ((m9 + j : Nat) : Int)) K' 32 : Nat) (by rw [mapK_len]; omega) (by unfold u32; rw [kap_eq, kap_eq, iwrap_u32]; have := hk'.le; have := hk'.near; omega)
              have hm := (told_map 7 (1000 + ((m9 + j : Nat) : Int)) (bitsR (1000 + ((m9 + j : Nat) : Int)) K' 32) (bitsR_lt _ _ 32) (L := L) (fun p hp => by have := ho.near p hp; have := hk'.le; have := hk'.near; omega)).2
              have hia := iack_spec (kap 7 (1000 + ((m9 + j : Nat) : Int))) (mapK 7 K')
              rw [bits_map hk'.w 32 (by omega)] at hia
              unfold outW outW2 at hok
              rw [hm, mapK_len, mapK_len] at hok
              have ha2 := hk'.ack
              skip
              refine run_ok 4000 _ _ _ _ ?_
              simp (maxSteps := 10000000) only [go_sem, hin, w9]
              refine run_ok 4000 _ _ _ _ ?_
              simp (maxSteps := 10000000) only [go_sem, hin, w9]
              refine sem_call rfl rfl (((hia).embed [2, 3] rfl (by repeat' first | exact trivial | rfl | (simp only [go_sem]; done) | constructor) rfl (by first | rfl | simp only [go_sem]) rfl (by simp)).mono ?_)
              rintro _ _ ⟨_, _, ⟨rfl, rfl⟩, rfl, rfl⟩
              refine run_ok 4000 _ _ _ _ ?_
              simp (maxSteps := 10000000) only [go_sem, hin, w9]
              refine sem_call rfl rfl (((hok).embed [0, 1] rfl (by repeat' first | exact trivial | rfl | (simp only [go_sem]; done) | constructor) rfl (by first | rfl | simp only [go_sem]) rfl (by simp)).mono ?_)
              rintro _ _ ⟨_, _, ⟨rfl, rfl⟩, rfl, rfl⟩
              refine run_ok 4000 _ _ _ _ ?_
              simp (maxSteps := 10000000) only [go_sem, hin, w9]
              have hle2 : (leftR (1000 + ((m9 + j : Nat) : Int)) (bitsR (1000 + ((m9 + j : Nat) : Int)) K' 32) L).length ≤ L.length := List.length_filter_le _ _
              refine ⟨⟨i9 + 1, P.length, m9 + j, leftR (1000 + ((m9 + j : Nat) : Int)) (bitsR (1000 + ((m9 + j : Nat) : Int)) K' 32) L, K'⟩, by simp only; omega, ⟨by simp only; omega, Nat.le_refl _, ha2, by simp only; omega, .inl rfl, fun h => ?_⟩, [0, 6, 2, 3, 4, 5], ?_⟩
              · simp only at h ⊢
                by_cases e : 100 ≤ i9
                · have hxp := hx0 e
                  have hd := hdec e
                  rw [hLc]
                  have hnear := hk'.near
                  have hxn := ho.near _ hx
                  have := leftR_first (p := p0) (L := L0) hk'.w (by rw [← hxp]; simp only; omega) (by rw [← hxp, ← eg]; exact hnow)
                  rw [hLc] at hd
                  simp only [List.length_cons] at hd
                  omega
                · omega
              · simp only [Emb, go_sem, mapK_len]
    · exact absurd (hdec (by omega)) (by omega)
theorem cotillionParts_spec (l : List (List UInt8)) (hl : l.length ≤ 9223372036854775807 ∧ ∀ s ∈ l, s.length ≤ 9223372036854775807) (W : List Int) (hW : ∀ x ∈ W, (Lit.int .i64 x).wf = true) :
    Tri Try.prog 4 [.vsl 1 (sv l) false, .vsl 1 (iv .i64 W) false] [] (fun v m => v = .bool true) :=
  parts_core l W hl.2
end Go.AEX
