/- Bag: what is there twice comes twice (BagTwice). -/
import Derived.Test.YtcenagdeejbmgaaBag4
namespace Go.AEX
open Go Go.AE Go.Proofs
set_option maxRecDepth 100000
set_option linter.unusedVariables false
set_option linter.unusedSimpArgs false

theorem sget_bent (S : List UInt8) (b : UInt8) {j at' k : Nat} (hk : k < S.length) : sget (if j = 0 then bendT S at' b else S) (k : Int) = if j = 0 ∧ k = at' then ibits .xor .u8 (sget S (k : Int)) (b.toNat : Int) else sget S (k : Int) := by
  by_cases h0 : j = 0
  · rw [if_pos h0]
    by_cases h1 : k = at'
    · rw [if_pos ⟨h0, h1⟩]
      subst h1
      have e : sget S (k : Int) = (S[k].toNat : Int) := by simp [sget, List.getD_eq_getElem?_getD, hk]
      rw [e, xor_u8]
      simp [sget, bendT, List.getD_eq_getElem?_getD, hk]
    · rw [if_neg (fun h => h1 h.2)]
      simp [sget, bendT, List.getD_eq_getElem?_getD, hk, List.getElem?_set, Ne.symm h1]
  · rw [if_neg h0, if_neg (fun h => h0 h.1)]
theorem bagTwice_spec (s : List UInt8) (hs : s.length ≤ 140737488351232) (i0 : Int) (hi0 : (Lit.int .i64 i0).wf = true) (b : Int) (hb : (Lit.int .u8 b).wf = true) (n : Int) (hn : (Lit.int .i64 n).wf = true) :
    Tri Try.prog 9 [.str s, .int .i64 i0, .int .u8 b, .int .i64 n] [] (fun v m => v = .bool true) := by
  obtain ⟨N, hN, hN7⟩ := and_i64 n (k := 7) (by decide)
  have hN : ibits .and .i64 n 7 = (N : Int) := hN
  obtain ⟨I, hI, hI5⟩ := and_i64 i0 (k := 255) (by decide)
  have hI : ibits .and .i64 i0 255 = (I : Int) := hI
  obtain ⟨b, rfl⟩ := wf_u8 hb
  skip
  refine (Tri.asB (Tri.enter (rl := r9) (code := c9) (by kernel_rfl) Try.func9 rfl c9_ok (by kernel_rfl) (by kernel_rfl) ?_))
  refine run_ok 4000 _ _ _ _ ?_
  simp (maxSteps := 10000000) only [go_sem, c9, r9, hN, hI]
  refine ⟨by omega, ?_⟩
  refine sem_call rfl rfl (((cut_spec (s ++ [120]) 20 (by omega)).embed [] rfl trivial rfl rfl rfl (by simp)).mono ?_)
  rintro _ _ ⟨_, _, ⟨rfl, rfl⟩, rfl, rfl⟩
  refine run_ok 4000 _ _ _ _ ?_
  simp (maxSteps := 10000000) only [go_sem, hN, hI]
  have h1 : 1 ≤ (List.take 20 (s ++ [120])).length ∧ (List.take 20 (s ++ [120])).length ≤ 20 := by
    rw [List.length_take, List.length_append]; simp
    omega
  generalize List.take 20 (s ++ [120]) = S at *
  refine sem_call rfl rfl (((awake25_spec).embed [] rfl trivial rfl rfl rfl (by simp)).mono ?_)
  rintro _ _ ⟨_, _, ⟨rfl, rfl⟩, rfl, rfl⟩
  refine run_ok 4000 _ _ _ _ ?_
  simp (maxSteps := 10000000) only [go_sem, hN, hI]
  refine sem_nilbox 0 0 3 rfl rfl ?_
  have hp := put_spec [] 0 3 4 [S] true (by simp) (by simp) (by simp)
  rw [put_one (by simp)] at hp
  unfold bagM bagG at hp
  refine run_ok 4000 _ _ _ _ ?_
  simp (maxSteps := 10000000) only [go_sem, hN, hI]
  refine sem_call rfl rfl (((hp).embed [0, 1] rfl (by repeat' first | exact trivial | rfl | (simp only [go_sem]; done) | constructor) rfl (by first | rfl | simp only [go_sem]) rfl (by simp)).mono ?_)
  rintro _ _ ⟨_, _, ⟨rfl, rfl⟩, rfl, rfl⟩
  refine run_ok 4000 _ _ _ _ ?_
  simp (maxSteps := 10000000) only [go_sem, hN, hI]
  refine sem_rounds (fun i => i ≤ N) (fun i => [(0, .str S), (1, .int .i64 i0), (2, .int .u8 b.toNat), (3, .int .i64 n), (9, .pbox 0 0), (24, .int .i64 (N : Nat)), (25, .int .i64 (i : Nat))])
    (fun i => [.box [.sl 1 0 (i + 1) (i + 1) false, .int .i64 0], .row 3 (brows (List.replicate (i + 1) ⟨3, 4, S⟩))]) (fun i => N - i) 0 [0, 2] (by omega) ?_ ?_
  · simp only [Emb, go_sem, List.nil_append, List.replicate_one, Nat.reduceAdd, List.length_cons, List.length_nil]
  · rintro i hi
    refine run_ok 4000 _ _ _ _ ?_
    simp (maxSteps := 10000000) only [go_sem, hN, hI]
    refine ⟨fun hlt => ?_, fun hge => ?_⟩
    · have ht := twice_spec (List.replicate (i + 1) ⟨3, 4, S⟩) 0 0 (by simp) (by simp; omega)
      have hg : ∀ p, p < i + 1 → ga (List.replicate (i + 1) (⟨3, 4, S⟩ : Itm)) p = ⟨3, 4, S⟩ := fun p hp => by
        rw [← ga_eq (by simpa using hp), List.getElem_replicate]
      rw [hg _ (by have := place_lt (n := (List.replicate (i + 1) (⟨3, 4, S⟩ : Itm)).length) (by simp) 0; simpa using this), ← List.replicate_succ'] at ht
      unfold bagM bagG at ht
      simp only [List.length_replicate] at ht
      skip
      refine sem_call rfl rfl (((ht).embed [0, 1] rfl (by repeat' first | exact trivial | rfl | (simp only [go_sem]; done) | constructor) rfl (by first | rfl | simp only [go_sem]) rfl (by simp)).mono ?_)
      rintro _ _ ⟨_, _, ⟨rfl, rfl⟩, rfl, rfl⟩
      refine run_ok 4000 _ _ _ _ ?_
      simp (maxSteps := 10000000) only [go_sem, inc64 (show i < 1000000000000 by omega)]
      refine ⟨i + 1, by omega, by omega, [0, 2], ?_⟩
      simp only [Emb, go_sem]
    have hiN : i = N := by omega
    subst hiN
    have hmod : (I : Int).tmod (S.length : Int) = ((I % S.length : Nat) : Int) := by rw [Int.tmod_eq_emod_of_nonneg (by omega)]; rfl
    have hat : I % S.length < S.length := Nat.mod_lt _ (by omega)
    generalize I % S.length = at' at *
    have hz0 : ¬ (S.length : Int) = 0 := by omega
    have hz1 : ((S.length : Int) == 0) = false := by rw [beq_eq_false_iff_ne]; exact hz0
    have w1 : iwrap .i64 (1 + (i : Int)) = ((i + 1 : Nat) : Int) := by rw [iwrap_i64_in (by omega)]; omega
    have hpl : place (List.replicate (i + 1) (⟨3, 4, S⟩ : Itm)).length 0 = 0 := by unfold place; simp
    have hga : ga (List.replicate (i + 1) (⟨3, 4, S⟩ : Itm)) 0 = ⟨3, 4, S⟩ := by rw [← ga_eq (by simp), List.getElem_replicate]
    have hself : (((i + 1 : Nat) : Int) != ((i + 1 : Nat) : Int)) = false := by simp
    by_cases hb0 : b = 0
    · subst hb0
      have hbd := bend_no (List.replicate (i + 1) ⟨3, 4, S⟩) 0 0 at' 0 (by simp) (by simp; omega) (.inr (.inr rfl))
      have hl := blen_spec (List.replicate (i + 1) ⟨3, 4, S⟩) 0
      unfold bagM at hbd hl
      simp only [List.length_replicate] at hbd hl
      have hu : (((0 : UInt8).toNat : Int) != 0) = false := rfl
      skip
      refine run_ok 4000 _ _ _ _ ?_
      simp (maxSteps := 10000000) only [go_sem, hz0, hz1, hmod, hN, hI, w1, hu, hself]
      refine sem_call rfl rfl (((hbd).embed [0, 1] rfl (by repeat' first | exact trivial | rfl | (simp only [go_sem]; done) | constructor) rfl (by first | rfl | simp only [go_sem]) rfl (by simp)).mono ?_)
      rintro _ _ ⟨_, _, ⟨rfl, rfl⟩, rfl, rfl⟩
      refine run_ok 4000 _ _ _ _ ?_
      simp (maxSteps := 10000000) only [go_sem, hz0, hz1, hmod, hN, hI, w1, hu, hself]
      refine sem_call rfl rfl (((hl).embed [0, 1] rfl (by repeat' first | exact trivial | rfl | (simp only [go_sem]; done) | constructor) rfl (by first | rfl | simp only [go_sem]) rfl (by simp)).mono ?_)
      rintro _ _ ⟨_, _, ⟨rfl, rfl⟩, rfl, rfl⟩
      refine run_ok 4000 _ _ _ _ ?_
      simp (maxSteps := 10000000) only [go_sem, hz0, hz1, hmod, hN, hI, w1, hu, hself]
      obtain ⟨T, hTd, hT, hTg⟩ : ∃ T : List Itm, T = List.replicate (i + 1) ⟨3, 4, S⟩ ∧ T.length = i + 1 ∧ ∀ j, j < i + 1 → ga T j = ⟨3, 4, if j = 0 then bendT S at' 0 else S⟩ := by
        refine ⟨_, rfl, by simp, fun j hj => ?_⟩
        have : bendT S at' 0 = S := by
          unfold bendT
          rw [UInt8.xor_zero, List.getD_eq_getElem?_getD, List.getElem?_eq_getElem hat]; simp
        rw [← ga_eq (by simpa using hj), List.getElem_replicate, this]; simp
      rw [← hTd]
      generalize (0 : UInt8) = b at *
      refine sem_rounds (fun j => j ≤ i + 1) (fun j => [(0, .str S), (1, .int .i64 (at' : Nat)), (2, .int .u8 b.toNat), (9, .pbox 0 0), (51, .int .i64 ((i + 1 : Nat) : Int)), (52, .int .i64 (j : Nat))])
        (fun j => [.box [.sl 1 0 (T.drop j).length (T.drop j).length false, .int .i64 0], .row 3 (brows (T.drop j))]) (fun j => i + 1 - j) 0 [0, 1] (by omega) ?_ ?_
      · simp only [Emb, go_sem, hT]
      rintro j hj
      skip
      refine run_ok 4000 _ _ _ _ ?_
      simp (maxSteps := 10000000) only [go_sem]
      refine ⟨fun hlt => ?_, fun hge => ?_⟩
      · have hlt : j < i + 1 := by omega
        have hdl : (T.drop j).length = i + 1 - j := by rw [List.length_drop, hT]
        have htk := take_spec (T.drop j) 0 0 (by omega) (by omega)
        have hp0 : place (T.drop j).length 0 = 0 := by unfold place; simp
        have hg : ga (T.drop j) 0 = ⟨3, 4, if j = 0 then bendT S at' b else S⟩ := by
          rw [← hTg j hlt, ← ga_eq (by omega), ← ga_eq (by omega), List.getElem_drop]; rfl
        have hw0 : wout (T.drop j) 0 = T.drop (j + 1) := by unfold wout; rw [List.take_zero, List.nil_append, List.drop_drop]
        rw [hp0, hg, hw0] at htk
        unfold bagM bagT at htk
        have hXl : (if j = 0 then bendT S at' b else S).length = S.length := by
          unfold bendT; split <;> simp
        have hX : ∀ k, k < S.length → sget (if j = 0 then bendT S at' b else S) (k : Int) = if j = 0 ∧ k = at' then ibits .xor .u8 (sget S (k : Int)) (b.toNat : Int) else sget S (k : Int) := by
          intro k hk
          exact sget_bent S b hk
        generalize (if j = 0 then bendT S at' b else S) = X at *
        have hXe : ((X.length : Int) != (S.length : Int)) = false := by rw [hXl]; simp
        skip
        refine sem_call rfl rfl (((htk).embed [0, 1] rfl (by repeat' first | exact trivial | rfl | (simp only [go_sem]; done) | constructor) rfl (by first | rfl | simp only [go_sem]) rfl (by simp)).mono ?_)
        rintro _ _ ⟨_, _, ⟨rfl, rfl⟩, rfl, rfl⟩
        refine run_ok 4000 _ _ _ _ ?_
        simp (maxSteps := 10000000) only [go_sem, brow, hXe]
        refine sem_rounds (fun k => k ≤ S.length) (fun k => [(0, .str S), (1, .int .i64 (at' : Nat)), (2, .int .u8 b.toNat), (9, .pbox 0 0), (51, .int .i64 ((i + 1 : Nat) : Int)), (52, .int .i64 (j : Nat)), (10, .int .i64 (j : Nat)), (11, .pbox 2 0), (80, .int .i64 S.length), (81, .int .i64 (k : Nat))])
          (fun k => [.box [.sl 1 0 (T.drop (j + 1)).length (T.drop (j + 1)).length false, .int .i64 0], .row 3 (brows (T.drop (j + 1))), .box [.int .i64 3, .int .i64 4, .str X]]) (fun k => S.length - k) 0 [0, 2, 3] (by omega) ?_ ?_
        · simp only [Emb, go_sem]
        rintro k hk
        skip
        refine run_ok 4000 _ _ _ _ ?_
        simp (maxSteps := 10000000) only [go_sem]
        refine ⟨fun hkl => ?_, fun hkg => ?_⟩
        · have hkl : k < S.length := by omega
          have hin : (k : Int) < (S.length : Int) := by omega
          have hinX : (k : Int) < (X.length : Int) := by omega
          have hXk := hX k hkl
          by_cases c1 : j = 0
          · have f1 : ((j : Int) == 0) = true := by rw [beq_iff_eq]; omega
            have f4 : ¬ (j : Int) > 0 := by omega
            by_cases c2 : k = at'
            · have f2 : ((k : Int) == (at' : Int)) = true := by rw [beq_iff_eq]; omega
              have f5 : ((k : Int) != (at' : Int)) = false := by rw [bne_eq_false_iff_eq]; omega
              rw [if_pos ⟨c1, c2⟩] at hXk
              have f3 : (sget X (k : Int) != ibits .xor .u8 (sget S (k : Int)) (b.toNat : Int)) = false := by rw [hXk]; simp
              skip
              simp (maxSteps := 10000000) only [go_sem, hin, hinX, Int.natCast_nonneg, f1, f2, f3, f4, f5, inc64 (show k < 1000000000000 by omega)]
              refine ⟨k + 1, by omega, by omega, [0, 1, 2], ?_⟩
              simp only [Emb, go_sem]
            · have f2 : ((k : Int) == (at' : Int)) = false := by rw [beq_eq_false_iff_ne]; omega
              have f5 : ((k : Int) != (at' : Int)) = true := by rw [bne_iff_ne]; omega
              rw [if_neg (fun h => c2 h.2)] at hXk
              have f3 : (sget X (k : Int) != sget S (k : Int)) = false := by rw [hXk]; simp
              skip
              simp (maxSteps := 10000000) only [go_sem, hin, hinX, Int.natCast_nonneg, f1, f2, f3, f4, f5, inc64 (show k < 1000000000000 by omega)]
              refine ⟨k + 1, by omega, by omega, [0, 1, 2], ?_⟩
              simp only [Emb, go_sem]
          · have f1 : ((j : Int) == 0) = false := by rw [beq_eq_false_iff_ne]; omega
            have f4 : (j : Int) > 0 := by omega
            rw [if_neg (fun h => c1 h.1)] at hXk
            have f3 : (sget X (k : Int) != sget S (k : Int)) = false := by rw [hXk]; simp
            skip
            simp (maxSteps := 10000000) only [go_sem, hin, hinX, Int.natCast_nonneg, f1, f3, f4, inc64 (show k < 1000000000000 by omega)]
            refine ⟨k + 1, by omega, by omega, [0, 1, 2], ?_⟩
            simp only [Emb, go_sem]
        · skip
          refine run_ok 4000 _ _ _ _ ?_
          simp (maxSteps := 10000000) only [go_sem, inc64 (show j < 1000000000000 by omega)]
          refine ⟨j + 1, by omega, by omega, [0, 1], ?_⟩
          simp only [Emb, go_sem]
      · have hje : j = i + 1 := by omega
        subst hje
        have hl2 := blen_spec (T.drop (i + 1)) 0
        have hd0 : (T.drop (i + 1)).length = 0 := by rw [List.length_drop, hT]; omega
        have hz : (((T.drop (i + 1)).length : Int) == 0) = true := by rw [hd0]; rfl
        unfold bagM at hl2
        skip
        refine sem_call rfl rfl (((hl2).embed [0, 1] rfl (by repeat' first | exact trivial | rfl | (simp only [go_sem]; done) | constructor) rfl (by first | rfl | simp only [go_sem]) rfl (by simp)).mono ?_)
        rintro _ _ ⟨_, _, ⟨rfl, rfl⟩, rfl, rfl⟩
        refine run_ok 4000 _ _ _ _ ?_
        simp (maxSteps := 10000000) only [go_sem, hz]
    · have hbd := bend_spec (List.replicate (i + 1) ⟨3, 4, S⟩) 0 0 at' b (by simp) (by simp; omega) (by rw [hpl, hga]; exact hat) hb0 (by rw [hpl, hga]; simp only; omega)
      rw [hpl, hga] at hbd
      have hl := blen_spec (setT (List.replicate (i + 1) ⟨3, 4, S⟩) 0 (bendT S at' b)) 0
      unfold bagM bagT at hbd
      unfold bagM at hl
      simp only [List.length_replicate, setT_len] at hbd hl
      have hu : ((b.toNat : Int) != 0) = true := by rw [bne_iff_ne]; intro h; apply hb0; apply UInt8.toNat_inj.1; simpa using h
      skip
      refine run_ok 4000 _ _ _ _ ?_
      simp (maxSteps := 10000000) only [go_sem, hz0, hz1, hmod, hN, hI, w1, hu, hself]
      refine sem_call rfl rfl (((hbd).embed [0, 1] rfl (by repeat' first | exact trivial | rfl | (simp only [go_sem]; done) | constructor) rfl (by first | rfl | simp only [go_sem]) rfl (by simp)).mono ?_)
      rintro _ _ ⟨_, _, ⟨rfl, rfl⟩, rfl, rfl⟩
      refine run_ok 4000 _ _ _ _ ?_
      simp (maxSteps := 10000000) only [go_sem, hz0, hz1, hmod, hN, hI, w1, hu, hself]
      refine sem_call rfl rfl (((hl).embed [0, 2] rfl (by repeat' first | exact trivial | rfl | (simp only [go_sem]; done) | constructor) rfl (by first | rfl | simp only [go_sem]) rfl (by simp)).mono ?_)
      rintro _ _ ⟨_, _, ⟨rfl, rfl⟩, rfl, rfl⟩
      refine run_ok 4000 _ _ _ _ ?_
      simp (maxSteps := 10000000) only [go_sem, hz0, hz1, hmod, hN, hI, w1, hu, hself]
      obtain ⟨T, hTd, hT, hTg⟩ : ∃ T : List Itm, T = setT (List.replicate (i + 1) ⟨3, 4, S⟩) 0 (bendT S at' b) ∧ T.length = i + 1 ∧ ∀ j, j < i + 1 → ga T j = ⟨3, 4, if j = 0 then bendT S at' b else S⟩ := by
        refine ⟨_, rfl, by rw [setT_len]; simp, fun j hj => ?_⟩
        unfold setT
        rw [hga, ← ga_eq (by simpa using hj), List.getElem_set]
        by_cases e : j = 0
        · subst e; simp
        · rw [if_neg (by omega), if_neg e, List.getElem_replicate]
      rw [← hTd]
      refine sem_rounds (fun j => j ≤ i + 1) (fun j => [(0, .str S), (1, .int .i64 (at' : Nat)), (2, .int .u8 b.toNat), (9, .pbox 0 0), (51, .int .i64 ((i + 1 : Nat) : Int)), (52, .int .i64 (j : Nat))])
        (fun j => [.box [.sl 1 0 (T.drop j).length (T.drop j).length false, .int .i64 0], .row 3 (brows (T.drop j))]) (fun j => i + 1 - j) 0 [0, 2] (by omega) ?_ ?_
      · simp only [Emb, go_sem, hT]
      rintro j hj
      skip
      refine run_ok 4000 _ _ _ _ ?_
      simp (maxSteps := 10000000) only [go_sem]
      refine ⟨fun hlt => ?_, fun hge => ?_⟩
      · have hlt : j < i + 1 := by omega
        have hdl : (T.drop j).length = i + 1 - j := by rw [List.length_drop, hT]
        have htk := take_spec (T.drop j) 0 0 (by omega) (by omega)
        have hp0 : place (T.drop j).length 0 = 0 := by unfold place; simp
        have hg : ga (T.drop j) 0 = ⟨3, 4, if j = 0 then bendT S at' b else S⟩ := by
          rw [← hTg j hlt, ← ga_eq (by omega), ← ga_eq (by omega), List.getElem_drop]; rfl
        have hw0 : wout (T.drop j) 0 = T.drop (j + 1) := by unfold wout; rw [List.take_zero, List.nil_append, List.drop_drop]
        rw [hp0, hg, hw0] at htk
        unfold bagM bagT at htk
        have hXl : (if j = 0 then bendT S at' b else S).length = S.length := by
          unfold bendT; split <;> simp
        have hX : ∀ k, k < S.length → sget (if j = 0 then bendT S at' b else S) (k : Int) = if j = 0 ∧ k = at' then ibits .xor .u8 (sget S (k : Int)) (b.toNat : Int) else sget S (k : Int) := by
          intro k hk
          exact sget_bent S b hk
        generalize (if j = 0 then bendT S at' b else S) = X at *
        have hXe : ((X.length : Int) != (S.length : Int)) = false := by rw [hXl]; simp
        skip
        refine sem_call rfl rfl (((htk).embed [0, 1] rfl (by repeat' first | exact trivial | rfl | (simp only [go_sem]; done) | constructor) rfl (by first | rfl | simp only [go_sem]) rfl (by simp)).mono ?_)
        rintro _ _ ⟨_, _, ⟨rfl, rfl⟩, rfl, rfl⟩
        refine run_ok 4000 _ _ _ _ ?_
        simp (maxSteps := 10000000) only [go_sem, brow, hXe]
        refine sem_rounds (fun k => k ≤ S.length) (fun k => [(0, .str S), (1, .int .i64 (at' : Nat)), (2, .int .u8 b.toNat), (9, .pbox 0 0), (51, .int .i64 ((i + 1 : Nat) : Int)), (52, .int .i64 (j : Nat)), (10, .int .i64 (j : Nat)), (11, .pbox 2 0), (80, .int .i64 S.length), (81, .int .i64 (k : Nat))])
          (fun k => [.box [.sl 1 0 (T.drop (j + 1)).length (T.drop (j + 1)).length false, .int .i64 0], .row 3 (brows (T.drop (j + 1))), .box [.int .i64 3, .int .i64 4, .str X]]) (fun k => S.length - k) 0 [0, 2, 3] (by omega) ?_ ?_
        · simp only [Emb, go_sem]
        rintro k hk
        skip
        refine run_ok 4000 _ _ _ _ ?_
        simp (maxSteps := 10000000) only [go_sem]
        refine ⟨fun hkl => ?_, fun hkg => ?_⟩
        · have hkl : k < S.length := by omega
          have hin : (k : Int) < (S.length : Int) := by omega
          have hinX : (k : Int) < (X.length : Int) := by omega
          have hXk := hX k hkl
          by_cases c1 : j = 0
          · have f1 : ((j : Int) == 0) = true := by rw [beq_iff_eq]; omega
            have f4 : ¬ (j : Int) > 0 := by omega
            by_cases c2 : k = at'
            · have f2 : ((k : Int) == (at' : Int)) = true := by rw [beq_iff_eq]; omega
              have f5 : ((k : Int) != (at' : Int)) = false := by rw [bne_eq_false_iff_eq]; omega
              rw [if_pos ⟨c1, c2⟩] at hXk
              have f3 : (sget X (k : Int) != ibits .xor .u8 (sget S (k : Int)) (b.toNat : Int)) = false := by rw [hXk]; simp
              skip
              simp (maxSteps := 10000000) only [go_sem, hin, hinX, Int.natCast_nonneg, f1, f2, f3, f4, f5, inc64 (show k < 1000000000000 by omega)]
              refine ⟨k + 1, by omega, by omega, [0, 1, 2], ?_⟩
              simp only [Emb, go_sem]
            · have f2 : ((k : Int) == (at' : Int)) = false := by rw [beq_eq_false_iff_ne]; omega
              have f5 : ((k : Int) != (at' : Int)) = true := by rw [bne_iff_ne]; omega
              rw [if_neg (fun h => c2 h.2)] at hXk
              have f3 : (sget X (k : Int) != sget S (k : Int)) = false := by rw [hXk]; simp
              skip
              simp (maxSteps := 10000000) only [go_sem, hin, hinX, Int.natCast_nonneg, f1, f2, f3, f4, f5, inc64 (show k < 1000000000000 by omega)]
              refine ⟨k + 1, by omega, by omega, [0, 1, 2], ?_⟩
              simp only [Emb, go_sem]
          · have f1 : ((j : Int) == 0) = false := by rw [beq_eq_false_iff_ne]; omega
            have f4 : (j : Int) > 0 := by omega
            rw [if_neg (fun h => c1 h.1)] at hXk
            have f3 : (sget X (k : Int) != sget S (k : Int)) = false := by rw [hXk]; simp
            skip
            simp (maxSteps := 10000000) only [go_sem, hin, hinX, Int.natCast_nonneg, f1, f3, f4, inc64 (show k < 1000000000000 by omega)]
            refine ⟨k + 1, by omega, by omega, [0, 1, 2], ?_⟩
            simp only [Emb, go_sem]
        · skip
          refine run_ok 4000 _ _ _ _ ?_
          simp (maxSteps := 10000000) only [go_sem, inc64 (show j < 1000000000000 by omega)]
          refine ⟨j + 1, by omega, by omega, [0, 1], ?_⟩
          simp only [Emb, go_sem]
      · have hje : j = i + 1 := by omega
        subst hje
        have hl2 := blen_spec (T.drop (i + 1)) 0
        have hd0 : (T.drop (i + 1)).length = 0 := by rw [List.length_drop, hT]; omega
        have hz : (((T.drop (i + 1)).length : Int) == 0) = true := by rw [hd0]; rfl
        unfold bagM at hl2
        skip
        refine sem_call rfl rfl (((hl2).embed [0, 1] rfl (by repeat' first | exact trivial | rfl | (simp only [go_sem]; done) | constructor) rfl (by first | rfl | simp only [go_sem]) rfl (by simp)).mono ?_)
        rintro _ _ ⟨_, _, ⟨rfl, rfl⟩, rfl, rfl⟩
        refine run_ok 4000 _ _ _ _ ?_
        simp (maxSteps := 10000000) only [go_sem, hz]
end Go.AEX
