/- Window: ORDER over a way that loses (WindowCarries), the law's evaluation. -/
import Derived.Test.YtbbokkienmicmaaWinC
import Derived.Test.YtbbokkienmicmaaAEsa
namespace Go.AEX
open Go Go.AE Go.Proofs
set_option maxRecDepth 100000
set_option linter.unusedVariables false
set_option linter.unusedSimpArgs false

def carD (F M : Int) (K : Ent) (got : Int) : Mem := [.box [.pbox 2 0], .box [.int .i64 got], .box [.int .u32 (kap F M), .map 3], .map (me (mapK F K))]
theorem one_u8 (x : Int) (h : 0 ≤ x ∧ x ≤ 255) : iwrap .u8 x = x ∧ toBytes [[AV.int .u8 x]] = [UInt8.ofNat x.toNat] := by
  refine ⟨by rw [iwrap_u8]; omega, by simp [toBytes]⟩
theorem one_all (x : Int) (h : 0 ≤ x ∧ x ≤ 255) : allU8 [[AV.int .u8 x]] := by
  intro y hy
  simp at hy; subst hy
  exact ⟨x, rfl⟩
theorem deliver_spec {n : Nat} {F N : Int} {L : Ent} {M : Int} {K : Ent} (h : Car n N L M K) (hn : n ≤ 100) {x : Int} (hx : ∃ p ∈ L, p.1 = x) {g : Nat} {K' : Ent}
    (hp : (putR M K x (tx x)).1 = (M + g, K')) (ho : (putR M K x (tx x)).2.1 = (List.range g).map (fun j : Nat => tx (M + (j : Int)))) :
    Tri Try.prog 40 [.agg [.int .u32 (kap F x), .str (tx x)], .pbox 0 0, .pbox 1 0] (carD F M K (M - 1000))
      (fun v m => v = .bool true ∧ m = carD F (M + g) K' (M + g - 1000)) := by
  obtain ⟨b1, b2, g', K'', e1, e2, hc', _, _⟩ := h.put hx
  rw [hp] at e1
  obtain ⟨rfl, rfl⟩ : g = g' ∧ K' = K'' := by
    injection e1 with q1 q2
    exact ⟨by omega, q2⟩
  obtain ⟨hpm, _⟩ := put_map (F := F) (s := tx x) h.w b1 b2
  have hwl := h.w.len
  have hip := iput_spec (kap F M) (mapK F K) (kap F x) (tx x) (by simp [mapK]; omega)
  rw [hpm] at hip
  simp only [hp, ho] at hip
  have hlo := h.lo
  have htop := hc'.top
  have hle := hc'.le
  unfold carD
  refine Tri.post ?_
  have hlen : ((List.range g).map fun j : Nat => tx (M + (j : Int))).length = g := by simp
  generalize hO : ((List.range g).map fun j : Nat => tx (M + (j : Int))) = O at *
  refine (Tri.enter (rl := r40) (code := c40) (by kernel_rfl) Try.func40 rfl c40_ok (by kernel_rfl) (by kernel_rfl) ?_)
  refine run_ok 4000 _ _ _ _ ?_
  simp (maxSteps := 10000000) only [go_sem, c40, r40]
  refine sem_call rfl rfl (((hip).embed [2, 3] rfl (by repeat' first | exact trivial | rfl | (simp only [go_sem]; done) | constructor) rfl (by first | rfl | simp only [go_sem]) rfl (by simp)).mono ?_)
  rintro _ _ ⟨_, _, ⟨rfl, rfl⟩, rfl, rfl⟩
  refine run_ok 4000 _ _ _ _ ?_
  simp (maxSteps := 10000000) only [go_sem]
  refine sem_rounds (fun j : Nat => j ≤ g) (fun j => [(1, .pbox 0 0), (2, .pbox 1 0), (15, .vsl 1 (sv O) false), (16, .int .i64 g), (17, .int .i64 (j : Nat))])
    (fun j => [.box [.pbox 2 0], .box [.int .i64 (M - 1000 + j)], .box [.int .u32 (kap F (M + g)), .map 3], .map (me (mapK F K'))]) (fun j => g - j) 0 [0, 1, 2, 3] (Nat.zero_le _) ?_ ?_
  · simp only [Emb, go_sem, hlen]
    simp
  intro j hj
  refine run_ok 4000 _ _ _ _ ?_
  simp (maxSteps := 10000000) only [go_sem]
  refine ⟨fun hlt => ?_, fun hge => ?_⟩
  · have hlt : j < g := by omega
    have hin : (j : Int) < (g : Int) := by omega
    have hjl : j < O.length := by omega
    have hOj : O[j] = tx (M + (j : Int)) := by simp [← hO]
    have r0 := svl_rstr hjl
    rw [hOj] at r0
    obtain ⟨w1, w2⟩ := one_u8 (M - 1000 + j) (by omega)
    have w3 := one_all (M - 1000 + j) (by omega)
    have w4 : [UInt8.ofNat (M - 1000 + (j : Int)).toNat] = tx (M + j) := by unfold tx; rw [show M - 1000 + (j : Int) = M + j - 1000 by omega]
    have w5 : iwrap .i64 (M - 1000 + (j : Int) + 1) = M - 1000 + ((j + 1 : Nat) : Int) := by rw [iwrap_i64_in (by omega)]; omega
    rw [w4] at w2
    skip
    simp (maxSteps := 10000000) only [go_sem, svl_hasS hjl, r0, hin, hlen, w1, w2, w3, w5, seqb_self, inc64 (show j < 1000000000000 by omega), Int.natCast_nonneg]
    refine ⟨j + 1, by omega, hlt, [0, 1, 2, 3], ?_⟩
    simp only [Emb, go_sem]
  · have hj : j = g := by omega
    subst hj
    have e9 : M - 1000 + (j : Int) = M + j - 1000 := by omega
    skip
    refine run_ok 4000 _ _ _ _ ?_
    simp (maxSteps := 10000000) only [go_sem, e9]
    refine ⟨_, _, .sub [0, 1, 2, 3] ?_ .done, rfl, rfl⟩
    simp only [EmbV, go_sem]
theorem mapK_len (F : Int) (L : Ent) : (mapK F L).length = L.length := by simp [mapK]
theorem carTail {P : Program} {n k0 : Nat} {α : Type} (J : α → Prop) (sl : α → List (Nat × AV)) (mm : α → Mem) {k : List C} {Q : Exit → Tr → Mem → Prop} {S : Prop} (h : (∀ x, J x → SemW P n k0 k (mkP (sl x)) (mm x) Q) → S)
    (ht : ∀ x, J x → SemW P n k0 k (mkP (sl x)) (mm x) Q) : S := h ht
abbrev carM (F N : Int) (L : Ent) (M : Int) (K : Ent) : Mem := [.box [.int .u32 (kap F N), .sl 1 0 L.length L.length false], .row 2 (irows (mapK F L)), .box [.int .u32 (kap F M), .map 3], .map (me (mapK F K)), .box [.pbox 2 0], .box [.int .i64 (M - 1000)]]
abbrev fnC : AV := .fn 40 [] [.pbox 4 0, .pbox 5 0]
set_option maxHeartbeats 4000000 in
theorem windowCarries_spec (F : Int) (hF : (Lit.int .u32 F).wf = true) (n0 : Int) (hn0 : (Lit.int .i64 n0).wf = true) (W : List Int) (hW : ∀ x ∈ W, (Lit.int .i64 x).wf = true) :
    Tri Try.prog 12 [.int .u32 F, .int .i64 n0, .vsl 1 (iv .i64 W) false] [] (fun v m => v = .bool true) := by
  obtain ⟨n, hn, hn63⟩ := and_i64 n0 (k := 63) (by decide)
  have hn : ibits .and .i64 n0 63 = (n : Int) := hn
  skip
  refine (Tri.asB (Tri.enter (rl := r12) (code := c12) (by kernel_rfl) Try.func12 rfl c12_ok (by kernel_rfl) (by kernel_rfl) ?_))
  refine run_ok 4000 _ _ _ _ ?_
  simp (maxSteps := 10000000) only [go_sem, c12, r12, hn, iv_len]
  refine sem_call rfl rfl (((awake13_spec).embed [] rfl trivial rfl rfl rfl (by simp)).mono ?_)
  rintro _ _ ⟨_, _, ⟨rfl, rfl⟩, rfl, rfl⟩
  refine run_ok 4000 _ _ _ _ ?_
  simp (maxSteps := 10000000) only [go_sem, hn, iv_len]
  refine sem_call rfl rfl (((begin_spec F).embed [] rfl trivial rfl rfl rfl (by simp)).mono ?_)
  rintro _ _ ⟨_, _, ⟨rfl, rfl⟩, rfl, rfl⟩
  refine run_ok 4000 _ _ _ _ ?_
  simp (maxSteps := 10000000) only [go_sem, hn, iv_len]
  refine sem_call rfl rfl (((expect_spec F).embed [] rfl trivial rfl rfl rfl (by simp)).mono ?_)
  rintro _ _ ⟨_, _, ⟨rfl, rfl⟩, rfl, rfl⟩
  refine run_ok 4000 _ _ _ _ ?_
  simp (maxSteps := 10000000) only [go_sem, hn, iv_len]
  refine sem_nilbox 0 1 2 rfl rfl ?_
  refine sem_rounds (fun x : Nat × Int × Ent × Int × Ent => x.1 ≤ 200 ∧ Car n x.2.1 x.2.2.1 x.2.2.2.1 x.2.2.2.2)
    (fun x => [(1, .int .i64 n), (2, .vsl 1 (iv .i64 W) false), (7, .pbox 0 0), (8, .pbox 4 0), (9, .int .i64 (x.2.1 - 1000)), (10, .pbox 5 0), (11, fnC), (12, .int .i64 (x.1 : Nat))])
    (fun x => carM F x.2.1 x.2.2.1 x.2.2.2.1 x.2.2.2.2) (fun x => 200 - x.1) (0, 1000, [], 1000, []) [0, 5, 1, 2, 3, 4] ⟨by simp, Car.begin n⟩ ?_ ?_
  · have hk : kap F 1000 = F := by
      have : 0 ≤ F ∧ F < 4294967296 := by simp [Lit.wf, IntKind.min, IntKind.max, IntKind.bits, IntKind.signed] at hF; omega
      rw [kap_eq]; omega
    simp only [Emb, go_sem, hk, mapK, List.map_nil, irows, List.length_nil]
    trace_state
  rintro ⟨i, N, L, M, K⟩ ⟨h1, hk⟩
  simp only at h1 hk
  obtain ⟨q, ho⟩ := hk.o
  have hlen := ho.len
  have hlo := hk.lo; have hle := hk.le; have htop := hk.top
  skip
  refine run_ok 4000 _ _ _ _ ?_
  simp (maxSteps := 10000000) only [go_sem, iv_len]
  have wn1 : iwrap .i64 (2 * (n : Int)) = 2 * (n : Int) := iwrap_i64_in (by omega)
  have wn2 : iwrap .i64 (2 * (n : Int) + 2) = 2 * (n : Int) + 2 := iwrap_i64_in (by omega)
  apply carTail (fun x : Int × Ent × Int × Ent => Car n x.1 x.2.1 x.2.2.1 x.2.2.2)
    (fun x => [(1, .int .i64 n), (7, .pbox 0 0), (8, .pbox 4 0), (9, .int .i64 (x.1 - 1000)), (10, .pbox 5 0), (11, fnC), (97, .int .i64 (2 * n + 2)), (98, .int .i64 0)])
    (fun x => carM F x.1 x.2.1 x.2.2.1 x.2.2.2)
  · intro hT2
    refine ⟨fun hlt => ⟨fun h8 => ?_, fun h8 => ?_⟩, fun hge => ?_⟩
    · apply carTail (fun x : Int × Ent => Car n x.1 x.2 M K)
        (fun x => [(1, .int .i64 n), (2, .vsl 1 (iv .i64 W) false), (7, .pbox 0 0), (8, .pbox 4 0), (9, .int .i64 (x.1 - 1000)), (10, .pbox 5 0), (11, fnC), (12, .int .i64 (i : Nat)), (55, .pbox 0 0)])
        (fun x => carM F x.1 x.2 M K)
      · intro hT
        by_cases cs : N - 1000 < (n : Int)
        · have hps := push_spec (kap F N) (mapK F L) (tx N) (by rw [kap_eq]; unfold U32; omega) (by rw [mapK_len]; omega)
          have hkn : u32 (kap F N + 1) = kap F (N + 1) := (kap_next F N).symm
          have hmp : mapK F L ++ [(kap F N, tx N)] = mapK F (L ++ [(N, tx N)]) := by simp [mapK]
          obtain ⟨w1, w2⟩ := one_u8 (N - 1000) (by omega)
          have w3 := one_all (N - 1000) (by omega)
          have w4 : [UInt8.ofNat (N - 1000).toNat] = tx N := rfl
          have w5 : iwrap .i64 (N - 1000 + 1) = N + 1 - 1000 := by rw [iwrap_i64_in (by omega)]; omega
          rw [w4] at w2
          unfold outW outW2 pushW at hps
          by_cases hroom : ∀ p ∈ L, N - p.1 < 32
          · have hr1 : roomW (kap F N) (mapK F L) = true := by
              cases L with
              | nil => rfl
              | cons p L => rw [room_map F ho]; have := hroom p (by simp); simp only [this, decide_true]
            have hk1 := hk.push hroom (by omega)
            rw [hr1] at hps
            simp only [if_true, hmp, hkn, mapK_len] at hps
            skip
            simp (maxSteps := 10000000) only [go_sem, iv_len, w1, w2, w3, w5, cs]
            refine sem_call rfl rfl (((hps).embed [0, 1] rfl (by repeat' first | exact trivial | rfl | (simp only [go_sem]; done) | constructor) rfl (by first | rfl | simp only [go_sem]) rfl (by simp)).mono ?_)
            rintro _ _ ⟨_, _, ⟨rfl, rfl⟩, rfl, rfl⟩
            refine run_ok 4000 _ _ _ _ ?_
            simp (maxSteps := 10000000) only [go_sem, iv_len, w1, w2, w3, w5, cs]
            refine sem_sub (sl := [(1, .int .i64 n), (2, .vsl 1 (iv .i64 W) false), (7, .pbox 0 0), (8, .pbox 4 0), (9, .int .i64 (N + 1 - 1000)), (10, .pbox 5 0), (11, fnC), (12, .int .i64 (i : Nat)), (55, .pbox 0 0)])
              (m2 := carM F (N + 1) (L ++ [(N, tx N)]) M K) [0, 6, 2, 3, 4, 5] ?_ ?_
            · simp only [Emb, go_sem, mapK_len]
            exact hT ((N + 1), (L ++ [(N, tx N)])) (hk1)
          · have hr1 : roomW (kap F N) (mapK F L) = false := by
              cases L with
              | nil => exact absurd (by simp) hroom
              | cons p L =>
                have hp : 32 ≤ N - p.1 := by
                  by_cases h : 32 ≤ N - p.1
                  · exact h
                  · exact absurd (fun q hq => by have := ho.first q hq; omega) hroom
                have hp2 : ¬ N - p.1 < 32 := by omega
                rw [room_map F ho]; simp only [hp2, decide_false]
            rw [hr1] at hps
            simp only [Bool.false_eq_true, if_false, mapK_len] at hps
            skip
            simp (maxSteps := 10000000) only [go_sem, iv_len, w1, w2, w3, w5, cs]
            refine sem_call rfl rfl (((hps).embed [0, 1] rfl (by repeat' first | exact trivial | rfl | (simp only [go_sem]; done) | constructor) rfl (by first | rfl | simp only [go_sem]) rfl (by simp)).mono ?_)
            rintro _ _ ⟨_, _, ⟨rfl, rfl⟩, rfl, rfl⟩
            refine run_ok 4000 _ _ _ _ ?_
            simp (maxSteps := 10000000) only [go_sem, iv_len, w1, w2, w3, w5, cs]
            refine sem_sub (sl := [(1, .int .i64 n), (2, .vsl 1 (iv .i64 W) false), (7, .pbox 0 0), (8, .pbox 4 0), (9, .int .i64 (N - 1000)), (10, .pbox 5 0), (11, fnC), (12, .int .i64 (i : Nat)), (55, .pbox 0 0)])
              (m2 := carM F (N) (L) M K) [0, 6, 2, 3, 4, 5] ?_ ?_
            · simp only [Emb, go_sem, mapK_len]
            exact hT ((N), (L)) (hk)
        · skip
          simp (maxSteps := 10000000) only [go_sem, iv_len, cs]
          refine sem_sub (sl := [(1, .int .i64 n), (2, .vsl 1 (iv .i64 W) false), (7, .pbox 0 0), (8, .pbox 4 0), (9, .int .i64 (N - 1000)), (10, .pbox 5 0), (11, fnC), (12, .int .i64 (i : Nat)), (55, .pbox 0 0)])
            (m2 := carM F (N) (L) M K) [0, 1, 2, 3, 4, 5] ?_ ?_
          · simp only [Emb, go_sem, mapK_len]
          exact hT ((N), (L)) (hk)
      · rintro ⟨N', L'⟩ hk
        simp only at hk
        have hi : i < W.length := by omega
        have hin : (i : Int) < (W.length : Int) := by omega
        have hr := iv_rint (k := .i64) hi
        have hh := iv_hasI (k := .i64) hi
        have inc := inc64 (show i < 1000000000000 by omega)
        obtain ⟨q', ho'⟩ := hk.o
        have hlen := ho'.len
        have hlo := hk.lo; have hle := hk.le; have htop := hk.top
        have ha := all_spec (kap F N') (mapK F L') (by rw [mapK_len]; omega)
        unfold outW at ha
        rw [mapK_len] at ha
        generalize hw : W[i] = w at *
        obtain ⟨b3, hb3, _⟩ := and_i64 w (k := 3) (by decide)
        have hb3 : ibits .and .i64 w 3 = (b3 : Int) := hb3
        obtain ⟨b4, hb4, _⟩ := and_i64 w (k := 1024) (by decide)
        have hb4 : ibits .and .i64 w 1024 = (b4 : Int) := hb4
        obtain ⟨b5, hb5, hb5'⟩ := and_i64 (ishr .i64 w 2) (k := 255) (by decide)
        have hb5 : ibits .and .i64 (ishr .i64 w 2) 255 = (b5 : Int) := hb5
        by_cases c1 : (L'.length : Int) > 0
        · by_cases c2 : b3 = 0
          · have q2 : ((b3 : Int) != 0) = false := by simp [c2]
            by_cases c4 : (b4 : Int) > 0
            · skip
              refine sem_call rfl rfl (((ha).embed [0, 1] rfl (by repeat' first | exact trivial | rfl | (simp only [go_sem]; done) | constructor) rfl (by first | rfl | simp only [go_sem]) rfl (by simp)).mono ?_)
              rintro _ _ ⟨_, _, ⟨rfl, rfl⟩, rfl, rfl⟩
              refine run_ok 4000 _ _ _ _ ?_
              simp (maxSteps := 10000000) only [go_sem, hin, hr, hh, inc, hb3, hb4, hb5, irows_len, mapK_len, c1, q2, c4, Int.natCast_nonneg, iv_len]
              have hok := oack_spec (kap F N') (mapK F L') (kap F M) (bitsR M K 32 : Nat) (by rw [mapK_len]; omega) (by unfold u32; rw [kap_eq, kap_eq, iwrap_u32]; have := (hk).le; have := (hk).near; omega)
              have hm := (told_map F M (bitsR M K 32) (bitsR_lt _ _ 32) (L := L') (fun p hp => by have := ho'.near p hp; have := (hk).le; have := (hk).near; omega)).2
              have hia := iack_spec (kap F M) (mapK F K)
              rw [bits_map (hk).w 32 (by omega)] at hia
              unfold outW outW2 at hok
              rw [hm, mapK_len, mapK_len] at hok
              have ha2 := (hk).ack
              refine sem_call rfl rfl (((hia).embed [2, 3] rfl (by repeat' first | exact trivial | rfl | (simp only [go_sem]; done) | constructor) rfl (by first | rfl | simp only [go_sem]) rfl (by simp)).mono ?_)
              rintro _ _ ⟨_, _, ⟨rfl, rfl⟩, rfl, rfl⟩
              refine run_ok 4000 _ _ _ _ ?_
              simp (maxSteps := 10000000) only [go_sem, hin, hr, hh, inc, hb3, hb4, hb5, irows_len, mapK_len, c1, q2, c4, Int.natCast_nonneg, iv_len]
              refine sem_call rfl rfl (((hok).embed [0, 1] rfl (by repeat' first | exact trivial | rfl | (simp only [go_sem]; done) | constructor) rfl (by first | rfl | simp only [go_sem]) rfl (by simp)).mono ?_)
              rintro _ _ ⟨_, _, ⟨rfl, rfl⟩, rfl, rfl⟩
              refine run_ok 4000 _ _ _ _ ?_
              simp (maxSteps := 10000000) only [go_sem, hin, hr, hh, inc, hb3, hb4, hb5, irows_len, mapK_len, c1, q2, c4, Int.natCast_nonneg, iv_len]
              refine ⟨(i + 1, N', leftR M (bitsR M K 32) L', M, K), by simp only; omega, ⟨by simp only; omega, ha2⟩, [0, 6, 2, 3, 4, 5], ?_⟩
              simp only [Emb, go_sem, mapK_len]
            · skip
              refine sem_call rfl rfl (((ha).embed [0, 1] rfl (by repeat' first | exact trivial | rfl | (simp only [go_sem]; done) | constructor) rfl (by first | rfl | simp only [go_sem]) rfl (by simp)).mono ?_)
              rintro _ _ ⟨_, _, ⟨rfl, rfl⟩, rfl, rfl⟩
              refine run_ok 4000 _ _ _ _ ?_
              simp (maxSteps := 10000000) only [go_sem, hin, hr, hh, inc, hb3, hb4, hb5, irows_len, mapK_len, c1, q2, c4, Int.natCast_nonneg, iv_len]
              refine ⟨(i + 1, N', L', M, K), by simp only; omega, ⟨by simp only; omega, hk⟩, [0, 1, 2, 3, 4, 5], ?_⟩
              simp only [Emb, go_sem, mapK_len]
          · have q2 : ((b3 : Int) != 0) = true := by simp [c2]
            have hz : ¬ (L'.length : Int) = 0 := by omega
            have hmd : (b5 : Int).tmod (L'.length : Int) = ((b5 % L'.length : Nat) : Int) := by rw [Int.natCast_emod, Int.tmod_eq_emod_of_nonneg (by omega)]
            have hrl : b5 % L'.length < L'.length := Nat.mod_lt _ (by omega)
            generalize b5 % L'.length = r at *
            have hrk : r < (mapK F L').length := by rw [mapK_len]; exact hrl
            have hri : (r : Int) < (L'.length : Int) := by omega
            have r0 := i_rint hrk; have r1 := i_rstr hrk
            have e0 : (mapK F L')[r] = (kap F L'[r].1, L'[r].2) := by simp [mapK]
            rw [e0] at r0 r1
            have hmem := List.getElem_mem hrl
            have htx := hk.tl _ hmem
            rw [htx] at r1
            have hx : ∃ p ∈ L', p.1 = L'[r].1 := ⟨_, hmem, rfl⟩
            generalize L'[r].1 = x at *
            obtain ⟨_, _, g, K', e1, e2, hk', _, _⟩ := hk.put hx
            have hd := deliver_spec (F := F) hk (by omega) hx e1 e2
            unfold carD at hd
            by_cases c4 : (b4 : Int) > 0
            · skip
              refine sem_call rfl rfl (((ha).embed [0, 1] rfl (by repeat' first | exact trivial | rfl | (simp only [go_sem]; done) | constructor) rfl (by first | rfl | simp only [go_sem]) rfl (by simp)).mono ?_)
              rintro _ _ ⟨_, _, ⟨rfl, rfl⟩, rfl, rfl⟩
              refine run_ok 4000 _ _ _ _ ?_
              simp (maxSteps := 10000000) only [go_sem, hin, hr, hh, inc, hb3, hb4, hb5, irows_len, mapK_len, c1, q2, c4, hz, hmd, hri, r0, r1, i_hasI hrk, i_hasS hrk, Int.natCast_nonneg, iv_len]
              refine sem_callv rfl rfl rfl (((hd).embed [4, 5, 2, 3] rfl (by repeat' first | exact trivial | rfl | (simp only [go_sem]; done) | constructor) rfl (by first | rfl | simp only [go_sem]) rfl (by simp)).mono ?_)
              rintro _ _ ⟨_, _, ⟨rfl, rfl⟩, rfl, rfl⟩
              refine run_ok 4000 _ _ _ _ ?_
              simp (maxSteps := 10000000) only [go_sem, hin, hr, hh, inc, hb3, hb4, hb5, irows_len, mapK_len, c1, q2, c4, hz, hmd, hri, r0, r1, i_hasI hrk, i_hasS hrk, Int.natCast_nonneg, iv_len]
              have hok := oack_spec (kap F N') (mapK F L') (kap F (M + g)) (bitsR (M + g) K' 32 : Nat) (by rw [mapK_len]; omega) (by unfold u32; rw [kap_eq, kap_eq, iwrap_u32]; have := (hk').le; have := (hk').near; omega)
              have hm := (told_map F (M + g) (bitsR (M + g) K' 32) (bitsR_lt _ _ 32) (L := L') (fun p hp => by have := ho'.near p hp; have := (hk').le; have := (hk').near; omega)).2
              have hia := iack_spec (kap F (M + g)) (mapK F K')
              rw [bits_map (hk').w 32 (by omega)] at hia
              unfold outW outW2 at hok
              rw [hm, mapK_len, mapK_len] at hok
              have ha2 := (hk').ack
              refine sem_call rfl rfl (((hia).embed [2, 3] rfl (by repeat' first | exact trivial | rfl | (simp only [go_sem]; done) | constructor) rfl (by first | rfl | simp only [go_sem]) rfl (by simp)).mono ?_)
              rintro _ _ ⟨_, _, ⟨rfl, rfl⟩, rfl, rfl⟩
              refine run_ok 4000 _ _ _ _ ?_
              simp (maxSteps := 10000000) only [go_sem, hin, hr, hh, inc, hb3, hb4, hb5, irows_len, mapK_len, c1, q2, c4, hz, hmd, hri, r0, r1, i_hasI hrk, i_hasS hrk, Int.natCast_nonneg, iv_len]
              refine sem_call rfl rfl (((hok).embed [0, 1] rfl (by repeat' first | exact trivial | rfl | (simp only [go_sem]; done) | constructor) rfl (by first | rfl | simp only [go_sem]) rfl (by simp)).mono ?_)
              rintro _ _ ⟨_, _, ⟨rfl, rfl⟩, rfl, rfl⟩
              refine run_ok 4000 _ _ _ _ ?_
              simp (maxSteps := 10000000) only [go_sem, hin, hr, hh, inc, hb3, hb4, hb5, irows_len, mapK_len, c1, q2, c4, hz, hmd, hri, r0, r1, i_hasI hrk, i_hasS hrk, Int.natCast_nonneg, iv_len]
              refine ⟨(i + 1, N', leftR (M + g) (bitsR (M + g) K' 32) L', M + g, K'), by simp only; omega, ⟨by simp only; omega, ha2⟩, [0, 6, 2, 3, 4, 5], ?_⟩
              simp only [Emb, go_sem, mapK_len]
            · skip
              refine sem_call rfl rfl (((ha).embed [0, 1] rfl (by repeat' first | exact trivial | rfl | (simp only [go_sem]; done) | constructor) rfl (by first | rfl | simp only [go_sem]) rfl (by simp)).mono ?_)
              rintro _ _ ⟨_, _, ⟨rfl, rfl⟩, rfl, rfl⟩
              refine run_ok 4000 _ _ _ _ ?_
              simp (maxSteps := 10000000) only [go_sem, hin, hr, hh, inc, hb3, hb4, hb5, irows_len, mapK_len, c1, q2, c4, hz, hmd, hri, r0, r1, i_hasI hrk, i_hasS hrk, Int.natCast_nonneg, iv_len]
              refine sem_callv rfl rfl rfl (((hd).embed [4, 5, 2, 3] rfl (by repeat' first | exact trivial | rfl | (simp only [go_sem]; done) | constructor) rfl (by first | rfl | simp only [go_sem]) rfl (by simp)).mono ?_)
              rintro _ _ ⟨_, _, ⟨rfl, rfl⟩, rfl, rfl⟩
              refine run_ok 4000 _ _ _ _ ?_
              simp (maxSteps := 10000000) only [go_sem, hin, hr, hh, inc, hb3, hb4, hb5, irows_len, mapK_len, c1, q2, c4, hz, hmd, hri, r0, r1, i_hasI hrk, i_hasS hrk, Int.natCast_nonneg, iv_len]
              refine ⟨(i + 1, N', L', M + g, K'), by simp only; omega, ⟨by simp only; omega, hk'⟩, [0, 1, 2, 3, 4, 5], ?_⟩
              simp only [Emb, go_sem, mapK_len]
        · by_cases c4 : (b4 : Int) > 0
          · skip
            refine sem_call rfl rfl (((ha).embed [0, 1] rfl (by repeat' first | exact trivial | rfl | (simp only [go_sem]; done) | constructor) rfl (by first | rfl | simp only [go_sem]) rfl (by simp)).mono ?_)
            rintro _ _ ⟨_, _, ⟨rfl, rfl⟩, rfl, rfl⟩
            refine run_ok 4000 _ _ _ _ ?_
            simp (maxSteps := 10000000) only [go_sem, hin, hr, hh, inc, hb3, hb4, hb5, irows_len, mapK_len, c1, c4, Int.natCast_nonneg, iv_len]
            have hok := oack_spec (kap F N') (mapK F L') (kap F M) (bitsR M K 32 : Nat) (by rw [mapK_len]; omega) (by unfold u32; rw [kap_eq, kap_eq, iwrap_u32]; have := (hk).le; have := (hk).near; omega)
            have hm := (told_map F M (bitsR M K 32) (bitsR_lt _ _ 32) (L := L') (fun p hp => by have := ho'.near p hp; have := (hk).le; have := (hk).near; omega)).2
            have hia := iack_spec (kap F M) (mapK F K)
            rw [bits_map (hk).w 32 (by omega)] at hia
            unfold outW outW2 at hok
            rw [hm, mapK_len, mapK_len] at hok
            have ha2 := (hk).ack
            refine sem_call rfl rfl (((hia).embed [2, 3] rfl (by repeat' first | exact trivial | rfl | (simp only [go_sem]; done) | constructor) rfl (by first | rfl | simp only [go_sem]) rfl (by simp)).mono ?_)
            rintro _ _ ⟨_, _, ⟨rfl, rfl⟩, rfl, rfl⟩
            refine run_ok 4000 _ _ _ _ ?_
            simp (maxSteps := 10000000) only [go_sem, hin, hr, hh, inc, hb3, hb4, hb5, irows_len, mapK_len, c1, c4, Int.natCast_nonneg, iv_len]
            refine sem_call rfl rfl (((hok).embed [0, 1] rfl (by repeat' first | exact trivial | rfl | (simp only [go_sem]; done) | constructor) rfl (by first | rfl | simp only [go_sem]) rfl (by simp)).mono ?_)
            rintro _ _ ⟨_, _, ⟨rfl, rfl⟩, rfl, rfl⟩
            refine run_ok 4000 _ _ _ _ ?_
            simp (maxSteps := 10000000) only [go_sem, hin, hr, hh, inc, hb3, hb4, hb5, irows_len, mapK_len, c1, c4, Int.natCast_nonneg, iv_len]
            refine ⟨(i + 1, N', leftR M (bitsR M K 32) L', M, K), by simp only; omega, ⟨by simp only; omega, ha2⟩, [0, 6, 2, 3, 4, 5], ?_⟩
            simp only [Emb, go_sem, mapK_len]
          · skip
            refine sem_call rfl rfl (((ha).embed [0, 1] rfl (by repeat' first | exact trivial | rfl | (simp only [go_sem]; done) | constructor) rfl (by first | rfl | simp only [go_sem]) rfl (by simp)).mono ?_)
            rintro _ _ ⟨_, _, ⟨rfl, rfl⟩, rfl, rfl⟩
            refine run_ok 4000 _ _ _ _ ?_
            simp (maxSteps := 10000000) only [go_sem, hin, hr, hh, inc, hb3, hb4, hb5, irows_len, mapK_len, c1, c4, Int.natCast_nonneg, iv_len]
            refine ⟨(i + 1, N', L', M, K), by simp only; omega, ⟨by simp only; omega, hk⟩, [0, 1, 2, 3, 4, 5], ?_⟩
            simp only [Emb, go_sem, mapK_len]
    · skip
      refine run_ok 4000 _ _ _ _ ?_
      simp (maxSteps := 10000000) only [go_sem]
      refine sem_sub (sl := [(1, .int .i64 n), (7, .pbox 0 0), (8, .pbox 4 0), (9, .int .i64 (N - 1000)), (10, .pbox 5 0), (11, fnC), (97, .int .i64 (2 * n + 2)), (98, .int .i64 0)])
        (m2 := carM F N L M K) [0, 1, 2, 3, 4, 5] ?_ ?_
      · simp only [Emb, go_sem, mapK_len, wn1, wn2]
      exact hT2 (N, L, M, K) hk
    · skip
      refine run_ok 4000 _ _ _ _ ?_
      simp (maxSteps := 10000000) only [go_sem]
      refine sem_sub (sl := [(1, .int .i64 n), (7, .pbox 0 0), (8, .pbox 4 0), (9, .int .i64 (N - 1000)), (10, .pbox 5 0), (11, fnC), (97, .int .i64 (2 * n + 2)), (98, .int .i64 0)])
        (m2 := carM F N L M K) [0, 1, 2, 3, 4, 5] ?_ ?_
      · simp only [Emb, go_sem, mapK_len, wn1, wn2]
      exact hT2 (N, L, M, K) hk
  clear hk ho hlen hlo hle htop
  rintro ⟨N, L, M, K⟩ hk
  simp only at hk
  refine sem_rounds (fun x : Nat × Int × Ent × Int × Ent => x.1 ≤ 2 * n + 2 ∧ Car n x.2.1 x.2.2.1 x.2.2.2.1 x.2.2.2.2 ∧ (1 ≤ x.1 → x.2.2.1 = [] ∧ x.2.2.2.1 = x.2.1 ∧ x.2.2.2.2 = [] ∧ (1000 + (n : Int) ≤ x.2.1 ∨ 999 + (x.1 : Int) ≤ x.2.1)))
    (fun x => [(1, .int .i64 n), (7, .pbox 0 0), (8, .pbox 4 0), (9, .int .i64 (x.2.1 - 1000)), (10, .pbox 5 0), (11, fnC), (97, .int .i64 (2 * n + 2)), (98, .int .i64 (x.1 : Nat))])
    (fun x => carM F x.2.1 x.2.2.1 x.2.2.2.1 x.2.2.2.2) (fun x => 2 * n + 2 - x.1) (0, N, L, M, K) [0, 1, 2, 3, 4, 5] ⟨by simp, hk, by simp⟩ ?_ ?_
  · simp only [Emb, go_sem]
  clear hk
  rintro ⟨r, N, L, M, K⟩ ⟨hr, hk, hz⟩
  simp only at hr hk hz
  obtain ⟨q, ho⟩ := hk.o
  have hlen := ho.len
  have hlo := hk.lo; have hle := hk.le; have htop := hk.top
  skip
  refine run_ok 4000 _ _ _ _ ?_
  simp (maxSteps := 10000000) only [go_sem]
  refine ⟨fun hlt => ?_, fun hge => ?_⟩
  · have hrn : r < 2 * n + 2 := by omega
    apply carTail (fun x : Int × Ent => Car n x.1 x.2 M K ∧ (1 ≤ r → 1000 + (n : Int) ≤ x.1 ∨ 1000 + (r : Int) ≤ x.1))
      (fun x => [(1, .int .i64 n), (7, .pbox 0 0), (8, .pbox 4 0), (9, .int .i64 (x.1 - 1000)), (10, .pbox 5 0), (11, fnC), (97, .int .i64 (2 * n + 2)), (98, .int .i64 (r : Nat)), (116, .pbox 0 0)])
      (fun x => carM F x.1 x.2 M K)
    · intro hT
      by_cases cs : N - 1000 < (n : Int)
      · have hps := push_spec (kap F N) (mapK F L) (tx N) (by rw [kap_eq]; unfold U32; omega) (by rw [mapK_len]; omega)
        have hkn : u32 (kap F N + 1) = kap F (N + 1) := (kap_next F N).symm
        have hmp : mapK F L ++ [(kap F N, tx N)] = mapK F (L ++ [(N, tx N)]) := by simp [mapK]
        obtain ⟨w1, w2⟩ := one_u8 (N - 1000) (by omega)
        have w3 := one_all (N - 1000) (by omega)
        have w4 : [UInt8.ofNat (N - 1000).toNat] = tx N := rfl
        have w5 : iwrap .i64 (N - 1000 + 1) = N + 1 - 1000 := by rw [iwrap_i64_in (by omega)]; omega
        rw [w4] at w2
        unfold outW outW2 pushW at hps
        by_cases hroom : ∀ p ∈ L, N - p.1 < 32
        · have hr1 : roomW (kap F N) (mapK F L) = true := by
            cases L with
            | nil => rfl
            | cons p L => rw [room_map F ho]; have := hroom p (by simp); simp only [this, decide_true]
          have hk1 := hk.push hroom (by omega)
          rw [hr1] at hps
          simp only [if_true, hmp, hkn, mapK_len] at hps
          skip
          simp (maxSteps := 10000000) only [go_sem, iv_len, w1, w2, w3, w5, cs]
          refine sem_call rfl rfl (((hps).embed [0, 1] rfl (by repeat' first | exact trivial | rfl | (simp only [go_sem]; done) | constructor) rfl (by first | rfl | simp only [go_sem]) rfl (by simp)).mono ?_)
          rintro _ _ ⟨_, _, ⟨rfl, rfl⟩, rfl, rfl⟩
          refine run_ok 4000 _ _ _ _ ?_
          simp (maxSteps := 10000000) only [go_sem, iv_len, w1, w2, w3, w5, cs]
          refine sem_sub (sl := [(1, .int .i64 n), (7, .pbox 0 0), (8, .pbox 4 0), (9, .int .i64 (N + 1 - 1000)), (10, .pbox 5 0), (11, fnC), (97, .int .i64 (2 * n + 2)), (98, .int .i64 (r : Nat)), (116, .pbox 0 0)])
            (m2 := carM F (N + 1) (L ++ [(N, tx N)]) M K) [0, 6, 2, 3, 4, 5] ?_ ?_
          · simp only [Emb, go_sem, mapK_len]
          exact hT ((N + 1), (L ++ [(N, tx N)])) ⟨hk1, by
            intro hr1
            obtain ⟨z1, z2, z3, z4⟩ := hz hr1
            first
              | (simp only; omega)
              | (subst z1; exact absurd (by simp) hroom)⟩
        · have hr1 : roomW (kap F N) (mapK F L) = false := by
            cases L with
            | nil => exact absurd (by simp) hroom
            | cons p L =>
              have hp : 32 ≤ N - p.1 := by
                by_cases h : 32 ≤ N - p.1
                · exact h
                · exact absurd (fun q hq => by have := ho.first q hq; omega) hroom
              have hp2 : ¬ N - p.1 < 32 := by omega
              rw [room_map F ho]; simp only [hp2, decide_false]
          rw [hr1] at hps
          simp only [Bool.false_eq_true, if_false, mapK_len] at hps
          skip
          simp (maxSteps := 10000000) only [go_sem, iv_len, w1, w2, w3, w5, cs]
          refine sem_call rfl rfl (((hps).embed [0, 1] rfl (by repeat' first | exact trivial | rfl | (simp only [go_sem]; done) | constructor) rfl (by first | rfl | simp only [go_sem]) rfl (by simp)).mono ?_)
          rintro _ _ ⟨_, _, ⟨rfl, rfl⟩, rfl, rfl⟩
          refine run_ok 4000 _ _ _ _ ?_
          simp (maxSteps := 10000000) only [go_sem, iv_len, w1, w2, w3, w5, cs]
          refine sem_sub (sl := [(1, .int .i64 n), (7, .pbox 0 0), (8, .pbox 4 0), (9, .int .i64 (N - 1000)), (10, .pbox 5 0), (11, fnC), (97, .int .i64 (2 * n + 2)), (98, .int .i64 (r : Nat)), (116, .pbox 0 0)])
            (m2 := carM F (N) (L) M K) [0, 6, 2, 3, 4, 5] ?_ ?_
          · simp only [Emb, go_sem, mapK_len]
          exact hT ((N), (L)) ⟨hk, by
            intro hr1
            obtain ⟨z1, z2, z3, z4⟩ := hz hr1
            first
              | (simp only; omega)
              | (subst z1; exact absurd (by simp) hroom)⟩
      · skip
        simp (maxSteps := 10000000) only [go_sem, iv_len, cs]
        refine sem_sub (sl := [(1, .int .i64 n), (7, .pbox 0 0), (8, .pbox 4 0), (9, .int .i64 (N - 1000)), (10, .pbox 5 0), (11, fnC), (97, .int .i64 (2 * n + 2)), (98, .int .i64 (r : Nat)), (116, .pbox 0 0)])
          (m2 := carM F (N) (L) M K) [0, 1, 2, 3, 4, 5] ?_ ?_
        · simp only [Emb, go_sem, mapK_len]
        exact hT ((N), (L)) ⟨hk, by
          intro hr1
          obtain ⟨z1, z2, z3, z4⟩ := hz hr1
          first
            | (simp only; omega)
            | (subst z1; exact absurd (by simp) hroom)⟩
    · rintro ⟨N', L'⟩ ⟨hk, hzr⟩
      simp only at hk hzr
      obtain ⟨q', ho'⟩ := hk.o
      have hlen := ho'.len
      have ha := all_spec (kap F N') (mapK F L') (by rw [mapK_len]; omega)
      unfold outW at ha
      rw [mapK_len] at ha
      have inc := inc64 (show r < 1000000000000 by omega)
      skip
      refine run_ok 4000 _ _ _ _ ?_
      simp (maxSteps := 10000000) only [go_sem, irows_len, mapK_len]
      refine sem_call rfl rfl (((ha).embed [0, 1] rfl (by repeat' first | exact trivial | rfl | (simp only [go_sem]; done) | constructor) rfl (by first | rfl | simp only [go_sem]) rfl (by simp)).mono ?_)
      rintro _ _ ⟨_, _, ⟨rfl, rfl⟩, rfl, rfl⟩
      refine run_ok 4000 _ _ _ _ ?_
      simp (maxSteps := 10000000) only [go_sem, irows_len, mapK_len]
      refine sem_rounds (fun x : Nat × Int × Ent => x.1 ≤ L'.length ∧ Car n N' L' x.2.1 x.2.2 ∧ ∀ i, i < x.1 → ∀ h : i < L'.length, L'[i].1 < x.2.1 ∨ ∃ p ∈ x.2.2, p.1 = L'[i].1)
        (fun x => [(1, .int .i64 n), (7, .pbox 0 0), (8, .pbox 4 0), (9, .int .i64 (N' - 1000)), (10, .pbox 5 0), (11, fnC), (97, .int .i64 (2 * n + 2)), (98, .int .i64 (r : Nat)), (117, .vsl 2 (irows (mapK F L')) false), (118, .int .i64 L'.length), (119, .int .i64 (x.1 : Nat))])
        (fun x => carM F N' L' x.2.1 x.2.2) (fun x => L'.length - x.1) (0, M, K) [0, 1, 2, 3, 4, 5] ⟨by simp, hk, fun i h => by simp at h⟩ ?_ ?_
      · simp only [Emb, go_sem]
      rintro ⟨j, M', K'⟩ ⟨hj, hk', hc⟩
      simp only at hj hk' hc
      skip
      refine run_ok 4000 _ _ _ _ ?_
      simp (maxSteps := 10000000) only [go_sem]
      refine ⟨fun hlt => ?_, fun hge => ?_⟩
      · have hjl : j < L'.length := by omega
        have hji : (j : Int) < (L'.length : Int) := by omega
        have hjk : j < (mapK F L').length := by rw [mapK_len]; exact hjl
        have r0 := i_rint hjk; have r1 := i_rstr hjk
        have e0 : (mapK F L')[j] = (kap F L'[j].1, L'[j].2) := by simp [mapK]
        rw [e0] at r0 r1
        have hmem := List.getElem_mem hjl
        rw [hk'.tl _ hmem] at r1
        have hx : ∃ p ∈ L', p.1 = L'[j].1 := ⟨_, hmem, rfl⟩
        obtain ⟨_, _, g, K2, e1, e2, hk2, hkeep, hnow⟩ := hk'.put hx
        have hd := deliver_spec (F := F) hk' (by omega) hx e1 e2
        unfold carD at hd
        have hcn : ∀ i, i < j + 1 → ∀ h : i < L'.length, L'[i].1 < M' + g ∨ ∃ p ∈ K2, p.1 = L'[i].1 := fun i hi h => by
          by_cases e : i = j
          · subst e; exact hnow
          · exact hkeep _ (hc i (by omega) h)
        generalize L'[j].1 = x at *
        skip
        simp (maxSteps := 10000000) only [go_sem, r0, r1, i_hasI hjk, i_hasS hjk, hji, Int.natCast_nonneg, irows_len, mapK_len, inc64 (show j < 1000000000000 by omega)]
        refine sem_callv rfl rfl rfl (((hd).embed [4, 5, 2, 3] rfl (by repeat' first | exact trivial | rfl | (simp only [go_sem]; done) | constructor) rfl (by first | rfl | simp only [go_sem]) rfl (by simp)).mono ?_)
        rintro _ _ ⟨_, _, ⟨rfl, rfl⟩, rfl, rfl⟩
        refine run_ok 4000 _ _ _ _ ?_
        simp (maxSteps := 10000000) only [go_sem, r0, r1, i_hasI hjk, i_hasS hjk, hji, Int.natCast_nonneg, irows_len, mapK_len, inc64 (show j < 1000000000000 by omega)]
        refine ⟨(j + 1, M' + g, K2), by simp only; omega, ⟨hjl, hk2, hcn⟩, [0, 1, 2, 3, 4, 5], ?_⟩
        simp only [Emb, go_sem]
      · have hjl : j = L'.length := by omega
        obtain ⟨y1, y2, y3⟩ := hk'.all (fun p hp => by
          obtain ⟨i, hi, rfl⟩ := List.getElem_of_mem hp
          exact hc i (by omega) hi)
        skip
        refine run_ok 4000 _ _ _ _ ?_
        simp (maxSteps := 10000000) only [go_sem, inc]
        have hok := oack_spec (kap F N') (mapK F L') (kap F M') (bitsR M' K' 32 : Nat) (by rw [mapK_len]; omega) (by unfold u32; rw [kap_eq, kap_eq, iwrap_u32]; have := (hk').le; have := (hk').near; omega)
        have hm := (told_map F M' (bitsR M' K' 32) (bitsR_lt _ _ 32) (L := L') (fun p hp => by have := ho'.near p hp; have := (hk').le; have := (hk').near; omega)).2
        have hia := iack_spec (kap F M') (mapK F K')
        rw [bits_map (hk').w 32 (by omega)] at hia
        unfold outW outW2 at hok
        rw [hm, mapK_len, mapK_len] at hok
        have ha2 := (hk').ack
        refine sem_call rfl rfl (((hia).embed [2, 3] rfl (by repeat' first | exact trivial | rfl | (simp only [go_sem]; done) | constructor) rfl (by first | rfl | simp only [go_sem]) rfl (by simp)).mono ?_)
        rintro _ _ ⟨_, _, ⟨rfl, rfl⟩, rfl, rfl⟩
        refine run_ok 4000 _ _ _ _ ?_
        simp (maxSteps := 10000000) only [go_sem, inc]
        refine sem_call rfl rfl (((hok).embed [0, 1] rfl (by repeat' first | exact trivial | rfl | (simp only [go_sem]; done) | constructor) rfl (by first | rfl | simp only [go_sem]) rfl (by simp)).mono ?_)
        rintro _ _ ⟨_, _, ⟨rfl, rfl⟩, rfl, rfl⟩
        refine run_ok 4000 _ _ _ _ ?_
        simp (maxSteps := 10000000) only [go_sem, inc]
        rw [y3] at ha2
        have hr2 : 1000 + (n : Int) ≤ N' ∨ 1000 + (r : Int) ≤ N' := by
          by_cases e : 1 ≤ r
          · exact hzr e
          · have := ha2.lo; have := ha2.le; omega
        refine ⟨(r + 1, N', [], M', K'), by simp only; omega, ⟨by simp only; omega, ha2, fun _ => ⟨rfl, y1, y2, by simp only; omega⟩⟩, [0, 6, 2, 3, 4, 5], ?_⟩
        simp only [Emb, go_sem, mapK_len, y3, List.length_nil]
  · obtain ⟨z1, z2, z3, z4⟩ := hz (by omega)
    subst z1 z2 z3
    have hN : M = 1000 + (n : Int) := by omega
    subst hN
    have q1 : ((1000 + (n : Int) - 1000 == (n : Int))) = true := by simp; omega
    have hol := olen_spec (kap F (1000 + (n : Int))) (mapK F [])
    have hil := ilen_spec (kap F (1000 + (n : Int))) (mapK F [])
    unfold outW at hol
    simp only [mapK_len, List.length_nil] at hol hil
    skip
    refine run_ok 4000 _ _ _ _ ?_
    simp (maxSteps := 10000000) only [go_sem, q1]
    refine sem_call rfl rfl (((hol).embed [0, 1] rfl (by repeat' first | exact trivial | rfl | (simp only [go_sem]; done) | constructor) rfl (by first | rfl | simp only [go_sem]) rfl (by simp)).mono ?_)
    rintro _ _ ⟨_, _, ⟨rfl, rfl⟩, rfl, rfl⟩
    refine run_ok 4000 _ _ _ _ ?_
    simp (maxSteps := 10000000) only [go_sem, q1]
    refine sem_call rfl rfl (((hil).embed [2, 3] rfl (by repeat' first | exact trivial | rfl | (simp only [go_sem]; done) | constructor) rfl (by first | rfl | simp only [go_sem]) rfl (by simp)).mono ?_)
    rintro _ _ ⟨_, _, ⟨rfl, rfl⟩, rfl, rfl⟩
    refine run_ok 4000 _ _ _ _ ?_
    simp (maxSteps := 10000000) only [go_sem, q1]
end Go.AEX
