/- Window: what one end tells (WindowAcks), the law's evaluation. -/
import Derived.Test.YtbbokkienmicmaaWinA
import Derived.Test.YtbbokkienmicmaaAEsa
namespace Go.AEX
open Go Go.AE Go.Proofs
set_option maxRecDepth 100000
set_option linter.unusedVariables false
set_option linter.unusedSimpArgs false

theorem mapL_len (F : Int) (L : Ent) : (mapK F L).length = L.length := by simp [mapK]
theorem ackTail {P : Program} {n k0 : Nat} {α : Type} (J : α → Prop) (sl : α → List (Nat × AV)) (mm : α → Mem) {k : List C} {Q : Exit → Tr → Mem → Prop} {S : Prop} (h : (∀ x, J x → SemW P n k0 k (mkP (sl x)) (mm x) Q) → S)
    (ht : ∀ x, J x → SemW P n k0 k (mkP (sl x)) (mm x) Q) : S := h ht
abbrev acM (F N : Int) (L : Ent) (M : Int) (K : Ent) : Mem := [.box [.int .u32 (kap F N), .sl 1 0 L.length L.length false], .row 2 (irows (mapK F L)), .box [.int .u32 (kap F M), .map 3], .map (me (mapK F K))]
set_option maxHeartbeats 4000000 in
theorem windowAcks_spec (F : Int) (hF : (Lit.int .u32 F).wf = true) (W : List Int) (hW : ∀ x ∈ W, (Lit.int .i64 x).wf = true) :
    Tri Try.prog 10 [.int .u32 F, .vsl 1 (iv .i64 W) false] [] (fun v m => v = .bool true) := by
  have hF2 : 0 ≤ F ∧ F < 4294967296 := by simp [Lit.wf, IntKind.min, IntKind.max, IntKind.bits, IntKind.signed] at hF; omega
  have hkF : kap F 1000 = F := by rw [kap_eq]; omega
  skip
  refine (Tri.asB (Tri.enter (rl := r10) (code := c10) (by kernel_rfl) Try.func10 rfl c10_ok (by kernel_rfl) (by kernel_rfl) ?_))
  refine run_ok 4000 _ _ _ _ ?_
  simp (maxSteps := 10000000) only [go_sem, c10, r10, iv_len]
  refine sem_call rfl rfl (((awake13_spec).embed [] rfl trivial rfl rfl rfl (by simp)).mono ?_)
  rintro _ _ ⟨_, _, ⟨rfl, rfl⟩, rfl, rfl⟩
  refine run_ok 4000 _ _ _ _ ?_
  simp (maxSteps := 10000000) only [go_sem, iv_len]
  refine sem_call rfl rfl (((begin_spec F).embed [] rfl trivial rfl rfl rfl (by simp)).mono ?_)
  rintro _ _ ⟨_, _, ⟨rfl, rfl⟩, rfl, rfl⟩
  refine run_ok 4000 _ _ _ _ ?_
  simp (maxSteps := 10000000) only [go_sem, iv_len]
  refine sem_call rfl rfl (((expect_spec F).embed [] rfl trivial rfl rfl rfl (by simp)).mono ?_)
  rintro _ _ ⟨_, _, ⟨rfl, rfl⟩, rfl, rfl⟩
  refine run_ok 4000 _ _ _ _ ?_
  simp (maxSteps := 10000000) only [go_sem, iv_len]
  refine sem_nilbox 0 1 2 rfl rfl ?_
  refine sem_rounds (fun i : Nat => i ≤ 32)
    (fun i => [(0, .int .u32 F), (1, .vsl 1 (iv .i64 W) false), (5, .pbox 0 0), (6, .pbox 2 0), (26, .int .i64 (i : Nat))])
    (fun i => acM F (1000 + i) (fresh i) 1000 []) (fun i => 32 - i) 0 [0, 3, 1, 2] (Nat.zero_le _) ?_ ?_
  · have e0 : (1000 : Int) + ((0 : Nat) : Int) = 1000 := rfl
    simp only [Emb, go_sem, hkF, mapK, List.map_nil, irows, fresh, List.range_zero, List.length_nil, e0]
  intro i hi
  have hps := push_spec (kap F (1000 + i)) (mapK F (fresh i)) [120] (by rw [kap_eq]; unfold U32; omega) (by rw [mapL_len, fresh_len]; omega)
  unfold outW outW2 pushW at hps
  rw [mapL_len, fresh_len] at hps
  skip
  refine run_ok 4000 _ _ _ _ ?_
  simp (maxSteps := 10000000) only [go_sem, fresh_len, acM]
  refine ⟨fun hlt => ?_, fun hge => ?_⟩
  · have hlt : i < 32 := by omega
    have hr1 : roomW (kap F (1000 + i)) (mapK F (fresh i)) = true := by
      have ho := fresh_ok i (by omega)
      cases hL : fresh i with
      | nil => rfl
      | cons p L =>
        rw [hL] at ho
        rw [room_map F ho]
        have := fresh_at (show p ∈ fresh i by rw [hL]; simp)
        have hd : 1000 + (i : Int) - p.1 < 32 := by omega
        simp only [hd, decide_true]
    have hkn : u32 (kap F (1000 + i) + 1) = kap F (1000 + ((i + 1 : Nat) : Int)) := by rw [← kap_next]; congr 1
    have hmp : mapK F (fresh i) ++ [(kap F (1000 + i), [120])] = mapK F (fresh (i + 1)) := by rw [← fresh_next]; simp [mapK]
    rw [hr1] at hps
    simp only [if_true, hmp, hkn, mapL_len, fresh_len] at hps
    skip
    refine sem_call rfl rfl (((hps).embed [0, 1] rfl (by repeat' first | exact trivial | rfl | (simp only [go_sem]; done) | constructor) rfl (by first | rfl | simp only [go_sem]) rfl (by simp)).mono ?_)
    rintro _ _ ⟨_, _, ⟨rfl, rfl⟩, rfl, rfl⟩
    refine run_ok 4000 _ _ _ _ ?_
    simp (maxSteps := 10000000) only [go_sem, inc64 (show i < 1000000000000 by omega)]
    refine ⟨i + 1, by omega, by omega, [0, 4, 2, 3], ?_⟩
    simp only [Emb, go_sem, fresh_len]
  have hi : i = 32 := by omega
  subst hi
  have hps := push_spec (kap F (1000 + (32 : Nat))) (mapK F (fresh 32)) [121] (by rw [kap_eq]; unfold U32; omega) (by rw [mapL_len, fresh_len]; omega)
  unfold outW outW2 pushW at hps
  rw [mapL_len, fresh_len] at hps
  have hr0 : roomW (kap F (1000 + (32 : Nat))) (mapK F (fresh 32)) = false := by
    have ho := fresh_ok 32 (by omega)
    have hL : fresh 32 = (1000, [120]) :: (fresh 32).tail := rfl
    rw [hL] at ho ⊢
    rw [room_map F ho]
    rfl
  rw [hr0] at hps
  simp only [Bool.false_eq_true, if_false, mapL_len, fresh_len] at hps
  have e32 : (1000 : Int) + ((32 : Nat) : Int) = 1032 := rfl
  simp only [e32] at hps ⊢
  skip
  refine run_ok 4000 _ _ _ _ ?_
  simp (maxSteps := 10000000) only [go_sem]
  refine sem_call rfl rfl (((hps).embed [0, 1] rfl (by repeat' first | exact trivial | rfl | (simp only [go_sem]; done) | constructor) rfl (by first | rfl | simp only [go_sem]) rfl (by simp)).mono ?_)
  rintro _ _ ⟨_, _, ⟨rfl, rfl⟩, rfl, rfl⟩
  refine run_ok 4000 _ _ _ _ ?_
  simp (maxSteps := 10000000) only [go_sem]
  refine sem_rounds (fun x : Nat × Cnt × Int × Ent => x.1 ≤ 30 ∧ AcS x.1 x.2.1 x.2.2.1 x.2.2.2)
    (fun x => [(0, .int .u32 F), (1, .vsl 1 (iv .i64 W) false), (5, .pbox 0 0), (6, .pbox 2 0), (11, .map 4), (12, .int .i64 (x.1 : Nat))])
    (fun x => acM F 1032 (fresh 32) x.2.2.1 x.2.2.2 ++ [.map (cme F x.2.1)]) (fun x => 30 - x.1) (0, [], 1000, []) [0, 4, 2, 3, 5] ⟨by simp, AcS.begin⟩ ?_ ?_
  · simp only [Emb, go_sem, fresh_len, cme, List.map_nil]
  rintro ⟨i, D, M, K⟩ ⟨hi, hA⟩
  simp only at hi hA
  skip
  refine run_ok 4000 _ _ _ _ ?_
  simp (maxSteps := 10000000) only [go_sem, iv_len]
  have hb := hA.b
  have hwl := hA.w.len
  apply ackTail (fun _ : Unit => True) (fun _ => [(0, .int .u32 F), (1, .vsl 1 (iv .i64 W) false), (5, .pbox 0 0), (6, .pbox 2 0), (11, .map 4), (70, .pbox 2 0)]) (fun _ => acM F 1032 (fresh 32) M K ++ [.map (cme F D)])
  · intro hT
    refine ⟨fun hlt => ⟨fun h8 => ?_, fun h8 => ?_⟩, fun hge => ?_⟩
    · have hiW : i < W.length := by omega
      have hin : (i : Int) < (W.length : Int) := by omega
      have r0 := iv_rint (k := .i64) hiW
      generalize W[i] = w at *
      obtain ⟨r, hr, hr31⟩ := and_i64 w (k := 31) (by decide)
      have hr : ibits .and .i64 w 31 = (r : Int) := hr
      have hkx : iwrap .u32 (F + iwrap .u32 (r : Int)) = kap F (1000 + (r : Int)) := by unfold kap; rw [show (1000 + (r : Int) - 1000) = r by omega]
      have hx : 1000 ≤ 1000 + (r : Int) ∧ 1000 + (r : Int) ≤ 1031 := by omega
      obtain ⟨hpm, _⟩ := put_map (F := F) (s := [120]) hA.w (show M - 40 ≤ 1000 + (r : Int) by omega) (show 1000 + (r : Int) ≤ M + 87 by omega)
      have hip := iput_spec (kap F M) (mapK F K) (kap F (1000 + r)) [120] (by simp [mapK]; omega)
      rw [hpm] at hip
      obtain ⟨hA2, hc1, hc2⟩ := hA.put hx [120]
      have hci := cme_int (F := F) hx hA.cin
      have hcv := cme_val (F := F) hx hA.cin
      have hcp := cme_put (F := F) hx ((cget D (1000 + (r : Int))).getD 0 + 1) hA.cin
      generalize putR M K (1000 + (r : Int)) [120] = P at *
      generalize (cget D (1000 + (r : Int))).getD 0 = c at *
      generalize cput D (1000 + (r : Int)) (c + 1) = D2 at *
      generalize (1000 + (r : Int)) = x at *
      have w1 : iwrap .i64 (c + 1) = c + 1 := iwrap_i64_in (by omega)
      skip
      simp (maxSteps := 10000000) only [go_sem, iv_len, hin, r0, iv_hasI hiW, hr, hkx, hci, hcv, hcp, w1, Int.natCast_nonneg, inc64 (show i < 1000000000000 by omega)]
      refine sem_call rfl rfl (((hip).embed [2, 3] rfl (by repeat' first | exact trivial | rfl | (simp only [go_sem]; done) | constructor) rfl (by first | rfl | simp only [go_sem]) rfl (by simp)).mono ?_)
      rintro _ _ ⟨_, _, ⟨rfl, rfl⟩, rfl, rfl⟩
      refine run_ok 4000 _ _ _ _ ?_
      simp (maxSteps := 10000000) only [go_sem, iv_len, hin, r0, iv_hasI hiW, hr, hkx, hci, hcv, hcp, w1, Int.natCast_nonneg, inc64 (show i < 1000000000000 by omega)]
      refine ⟨(i + 1, D2, P.1.1, P.1.2), by simp only; omega, ⟨by simp only; omega, hA2⟩, [0, 1, 2, 3, 4], ?_⟩
      simp only [Emb, go_sem, List.cons_append, List.nil_append]
    · skip
      refine run_ok 4000 _ _ _ _ ?_
      simp (maxSteps := 10000000) only [go_sem, iv_len]
      refine sem_sub (sl := [(0, .int .u32 F), (1, .vsl 1 (iv .i64 W) false), (5, .pbox 0 0), (6, .pbox 2 0), (11, .map 4), (70, .pbox 2 0)]) (m2 := acM F 1032 (fresh 32) M K ++ [.map (cme F D)]) [0, 1, 2, 3, 4] ?_ ?_
      · simp only [Emb, go_sem]
      exact hT () trivial
    · skip
      refine run_ok 4000 _ _ _ _ ?_
      simp (maxSteps := 10000000) only [go_sem, iv_len]
      refine sem_sub (sl := [(0, .int .u32 F), (1, .vsl 1 (iv .i64 W) false), (5, .pbox 0 0), (6, .pbox 2 0), (11, .map 4), (70, .pbox 2 0)]) (m2 := acM F 1032 (fresh 32) M K ++ [.map (cme F D)]) [0, 1, 2, 3, 4] ?_ ?_
      · simp only [Emb, go_sem]
      exact hT () trivial
  rintro ⟨⟩ -
  have hia := iack_spec (kap F M) (mapK F K)
  rw [bits_map hA.w 32 (by omega)] at hia
  have hblt := bitsR_lt M K 32
  obtain ⟨ht1, ht2⟩ := hA.told
  have hno : ¬ u32 (kap F 1032 - kap F M) ≥ 2147483648 := by unfold u32; rw [kap_eq, kap_eq, iwrap_u32]; omega
  have hnear : ∀ L : Ent, (∀ p ∈ L, p ∈ fresh 32) → ∀ p ∈ L, p.1 - M < 1000000 ∧ M - p.1 < 1000000 := fun L hL p hp => by have := fresh_at (hL p hp); omega
  obtain ⟨m1, m2⟩ := told_map F M (bitsR M K 32) hblt (L := fresh 32) (hnear _ fun p hp => hp)
  have ho1 := oack_spec (kap F 1032) (mapK F (fresh 32)) (kap F M) (bitsR M K 32 : Nat) (by rw [mapL_len, fresh_len]; omega) hno
  rw [m1, m2] at ho1
  have hsub : ∀ p ∈ leftR M (bitsR M K 32) (fresh 32), p ∈ fresh 32 := fun p hp => (List.mem_filter.1 hp).1
  obtain ⟨m3, m4⟩ := told_map F M (bitsR M K 32) hblt (L := leftR M (bitsR M K 32) (fresh 32)) (hnear _ hsub)
  have e3 : toldR M (bitsR M K 32) (leftR M (bitsR M K 32) (fresh 32)) = [] := by
    unfold toldR leftR
    rw [List.filter_filter]
    simp
  have e4 : leftR M (bitsR M K 32) (leftR M (bitsR M K 32) (fresh 32)) = leftR M (bitsR M K 32) (fresh 32) := by
    unfold leftR
    rw [List.filter_filter]
    simp
  have ho2 := oack_spec (kap F 1032) (mapK F (leftR M (bitsR M K 32) (fresh 32))) (kap F M) (bitsR M K 32 : Nat) (by rw [mapL_len]; omega) hno
  rw [m3, m4, e3, e4] at ho2
  have hTin : ∀ x ∈ toldR M (bitsR M K 32) (fresh 32), (1000 ≤ x ∧ x ≤ 1031) ∧ hasR M (bitsR M K 32) x = true := fun x hx => by
    obtain ⟨p, hp, rfl⟩ := List.mem_map.1 hx
    obtain ⟨h1, h2⟩ := List.mem_filter.1 hp
    have := fresh_at h1
    exact ⟨by omega, h2⟩
  have hLin : ∀ p ∈ leftR M (bitsR M K 32) (fresh 32), (1000 ≤ p.1 ∧ p.1 ≤ 1031) ∧ hasR M (bitsR M K 32) p.1 = false := fun p hp => by
    obtain ⟨h1, h2⟩ := List.mem_filter.1 hp
    have := fresh_at h1
    exact ⟨by omega, by simpa using h2⟩
  have hhas := fun x (hx : 1000 ≤ x ∧ x ≤ 1031) => hA.has hx
  have hmap := fun x (hx : 1000 ≤ x ∧ x ≤ 1031) => has_map F M x (bitsR M K 32) hblt (by omega) (by omega)
  have hspec := fun x => has_spec (kap F M) (bitsR M K 32 : Nat) (kap F x)
  have hol := olen_spec (kap F 1032) (mapK F (leftR M (bitsR M K 32) (fresh 32)))
  have hal := all_spec (kap F 1032) (mapK F (leftR M (bitsR M K 32) (fresh 32))) (by rw [mapL_len]; omega)
  clear m1 m2 m3 m4 e3 e4 hsub hnear
  unfold outW outW2 at ho1 ho2
  unfold outW at hol hal
  rw [mapL_len] at hol hal
  simp only [mapL_len, fresh_len] at ho1 ho2
  generalize toldR M (bitsR M K 32) (fresh 32) = T at *
  generalize leftR M (bitsR M K 32) (fresh 32) = L2 at *
  generalize bitsR M K 32 = B at *
  have s1 : ((T.length : Int) != (D.length : Int)) = false := by rw [ht1]; simp
  have s2 : iwrap .i64 (32 - (D.length : Int)) = (L2.length : Int) := by rw [iwrap_i64_in (by omega)]; omega
  have s3 : ((L2.length : Int) != (L2.length : Int)) = false := by simp
  skip
  refine run_ok 4000 _ _ _ _ ?_
  simp (maxSteps := 10000000) only [go_sem, iv_len, fresh_len, acM, List.length_map, mapL_len, s1, s2, s3, List.map_nil, List.length_nil]
  refine sem_call rfl rfl (((hia).embed [2, 3] rfl (by repeat' first | exact trivial | rfl | (simp only [go_sem]; done) | constructor) rfl (by first | rfl | simp only [go_sem]) rfl (by simp)).mono ?_)
  rintro _ _ ⟨_, _, ⟨rfl, rfl⟩, rfl, rfl⟩
  refine run_ok 4000 _ _ _ _ ?_
  simp (maxSteps := 10000000) only [go_sem, iv_len, fresh_len, acM, List.length_map, mapL_len, s1, s2, s3, List.map_nil, List.length_nil]
  refine sem_call rfl rfl (((ho1).embed [0, 1] rfl (by repeat' first | exact trivial | rfl | (simp only [go_sem]; done) | constructor) rfl (by first | rfl | simp only [go_sem]) rfl (by simp)).mono ?_)
  rintro _ _ ⟨_, _, ⟨rfl, rfl⟩, rfl, rfl⟩
  refine run_ok 4000 _ _ _ _ ?_
  simp (maxSteps := 10000000) only [go_sem, iv_len, fresh_len, acM, List.length_map, mapL_len, s1, s2, s3, List.map_nil, List.length_nil]
  refine sem_call rfl rfl (((hol).embed [0, 6] rfl (by repeat' first | exact trivial | rfl | (simp only [go_sem]; done) | constructor) rfl (by first | rfl | simp only [go_sem]) rfl (by simp)).mono ?_)
  rintro _ _ ⟨_, _, ⟨rfl, rfl⟩, rfl, rfl⟩
  refine run_ok 4000 _ _ _ _ ?_
  simp (maxSteps := 10000000) only [go_sem, iv_len, fresh_len, acM, List.length_map, mapL_len, s1, s2, s3, List.map_nil, List.length_nil]
  refine sem_call rfl rfl (((ho2).embed [0, 6] rfl (by repeat' first | exact trivial | rfl | (simp only [go_sem]; done) | constructor) rfl (by first | rfl | simp only [go_sem]) rfl (by simp)).mono ?_)
  rintro _ _ ⟨_, _, ⟨rfl, rfl⟩, rfl, rfl⟩
  refine run_ok 4000 _ _ _ _ ?_
  simp (maxSteps := 10000000) only [go_sem, iv_len, fresh_len, acM, List.length_map, mapL_len, s1, s2, s3, List.map_nil, List.length_nil]
  refine sem_rounds (fun j : Nat => j ≤ T.length)
    (fun j => [(5, .pbox 0 0), (11, .map 4), (14, .pbox 5 0), (95, .vsl 1 (uv (T.map (kap F))) false), (96, .int .i64 T.length), (97, .int .i64 (j : Nat))])
    (fun j => [.box [.int .u32 (kap F 1032), .sl 1 0 L2.length L2.length false], .row 2 (irows (mapK F L2)), .gone, .gone, .map (cme F D), .box [.int .u32 (kap F M), .int .u32 (B : Nat)]]) (fun j => T.length - j) 0 [0, 7, 2, 3, 4, 5] (Nat.zero_le _) ?_ ?_
  · simp only [Emb, go_sem, List.length_map, iv_len]
  intro j hj
  skip
  refine run_ok 4000 _ _ _ _ ?_
  simp (maxSteps := 10000000) only [go_sem]
  refine ⟨fun hlt => ?_, fun hge => ?_⟩
  · have hjT : j < T.length := by omega
    have hin : (j : Int) < (T.length : Int) := by omega
    have hjm : j < (T.map (kap F)).length := by rw [List.length_map]; exact hjT
    have r0 := iv_rint (k := .u32) hjm
    rw [List.getElem_map] at r0
    obtain ⟨hx, hxh⟩ := hTin _ (List.getElem_mem hjT)
    generalize T[j] = x at *
    have hci := cme_int (F := F) hx hA.cin
    have hcv := cme_val (F := F) hx hA.cin
    obtain ⟨v, hv⟩ := cget_iff.2 ((hhas x hx).1 hxh)
    have hv1 := hA.rg _ (cget_mem hv)
    rw [hv] at hci
    simp only [Option.getD_some] at hci
    have q1 : (v == 0) = false := by simp; omega
    have hsp := hspec x
    rw [hmap x hx, hxh] at hsp
    skip
    simp (maxSteps := 10000000) only [go_sem, iv_len, List.length_map, hin, r0, iv_hasI hjm, hci, hcv, q1, Int.natCast_nonneg, inc64 (show j < 1000000000000 by omega)]
    refine sem_call rfl rfl (((hsp).embed [] rfl trivial rfl rfl rfl (by simp)).mono ?_)
    rintro _ _ ⟨_, _, ⟨rfl, rfl⟩, rfl, rfl⟩
    refine run_ok 4000 _ _ _ _ ?_
    simp (maxSteps := 10000000) only [go_sem, iv_len, List.length_map, hin, r0, iv_hasI hjm, hci, hcv, q1, Int.natCast_nonneg, inc64 (show j < 1000000000000 by omega)]
    refine ⟨j + 1, by omega, hjT, [0, 1, 2, 3, 4, 5], ?_⟩
    simp only [Emb, go_sem]
  skip
  refine run_ok 4000 _ _ _ _ ?_
  simp (maxSteps := 10000000) only [go_sem, irows_len, mapL_len]
  refine sem_call rfl rfl (((hal).embed [0, 1] rfl (by repeat' first | exact trivial | rfl | (simp only [go_sem]; done) | constructor) rfl (by first | rfl | simp only [go_sem]) rfl (by simp)).mono ?_)
  rintro _ _ ⟨_, _, ⟨rfl, rfl⟩, rfl, rfl⟩
  refine run_ok 4000 _ _ _ _ ?_
  simp (maxSteps := 10000000) only [go_sem, irows_len, mapL_len]
  refine sem_rounds (fun j : Nat => j ≤ L2.length)
    (fun j => [(11, .map 2), (14, .pbox 3 0), (113, .vsl 2 (irows (mapK F L2)) false), (114, .int .i64 L2.length), (115, .int .i64 (j : Nat))])
    (fun j => [.gone, .gone, .map (cme F D), .box [.int .u32 (kap F M), .int .u32 (B : Nat)]]) (fun j => L2.length - j) 0 [2, 3, 4, 5] (Nat.zero_le _) ?_ ?_
  · simp only [Emb, go_sem, irows_len, mapL_len]
  clear hge hj
  intro j hj
  skip
  refine run_ok 4000 _ _ _ _ ?_
  simp (maxSteps := 10000000) only [go_sem]
  refine ⟨fun hlt => ?_, fun hge => ?_⟩
  · have hjT : j < L2.length := by omega
    have hin : (j : Int) < (L2.length : Int) := by omega
    have hjm : j < (mapK F L2).length := by rw [mapL_len]; exact hjT
    have r0 := i_rint hjm
    have e0 : (mapK F L2)[j] = (kap F L2[j].1, L2[j].2) := by simp [mapK]
    rw [e0] at r0
    obtain ⟨hx, hxh⟩ := hLin _ (List.getElem_mem hjT)
    generalize L2[j].1 = x at *
    have hci := cme_int (F := F) hx hA.cin
    have hcv := cme_val (F := F) hx hA.cin
    have hv : cget D x = none := by
      cases hc : cget D x with
      | none => rfl
      | some v =>
        have := (hhas x hx).2 (cget_iff.1 ⟨v, hc⟩)
        rw [hxh] at this
        cases this
    rw [hv] at hci
    simp only [Option.getD_none] at hci
    have hsp := hspec x
    rw [hmap x hx, hxh] at hsp
    skip
    simp (maxSteps := 10000000) only [go_sem, irows_len, mapL_len, hin, r0, i_hasI hjm, i_hasS hjm, hci, hcv, Int.natCast_nonneg, inc64 (show j < 1000000000000 by omega), Int.reduceGT]
    refine sem_call rfl rfl (((hsp).embed [] rfl trivial rfl rfl rfl (by simp)).mono ?_)
    rintro _ _ ⟨_, _, ⟨rfl, rfl⟩, rfl, rfl⟩
    refine run_ok 4000 _ _ _ _ ?_
    simp (maxSteps := 10000000) only [go_sem, irows_len, mapL_len, hin, r0, i_hasI hjm, i_hasS hjm, hci, hcv, Int.natCast_nonneg, inc64 (show j < 1000000000000 by omega), Int.reduceGT]
    refine ⟨j + 1, by omega, hjT, [0, 1, 2, 3], ?_⟩
    simp only [Emb, go_sem]
  · skip
    refine run_ok 4000 _ _ _ _ ?_
    simp (maxSteps := 10000000) only [go_sem]
end Go.AEX
