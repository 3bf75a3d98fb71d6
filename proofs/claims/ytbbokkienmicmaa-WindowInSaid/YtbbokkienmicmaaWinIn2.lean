/- WindowIn: the contract. -/
import Derived.Test.YtbbokkienmicmaaWinLaw
import Derived.Test.YtbbokkienmicmaaAEsa
namespace Go.AEX
open Go Go.AE Go.Proofs
set_option maxRecDepth 100000
set_option linter.unusedVariables false
set_option linter.unusedSimpArgs false

/-- What the rows of acts hold. -/
theorem act_row {x : List AV} (h : HasL [.int .i64, .int .i64, .int .u32, .str] x) : ∃ a b c s, x = [.int .i64 a, .int .i64 b, .int .u32 c, .str s] ∧ (Lit.int .i64 b).wf = true := by
  simp only [HasL, Has] at h
  obtain ⟨_, _, rfl, ⟨a, rfl, _⟩, _, _, rfl, ⟨b, rfl, hb⟩, _, _, rfl, ⟨c, rfl, _⟩, _, _, rfl, ⟨s, rfl, _⟩, rfl⟩ := h
  exact ⟨a, b, c, s, rfl, hb⟩
theorem windowIn_spec (F : Int) (hF : (Lit.int .u32 F).wf = true) (l : AV) (hl : Has (.sl [.int .i64, .int .i64, .int .u32, .str]) l) :
    Tri Try.prog 9 [.int .u32 F, l] [] (fun v m => v = .bool true) := by
  simp only [Has] at hl
  obtain ⟨xs, rfl, hxl, hx⟩ := hl
  simp only [List.length_cons, List.length_nil]
  refine (Tri.asB (Tri.enter (rl := r9) (code := c9) (by kernel_rfl) Try.func9 rfl c9_ok (by kernel_rfl) (by kernel_rfl) ?_))
  refine run_ok 4000 _ _ _ _ ?_
  simp (maxSteps := 10000000) only [go_sem, c9, r9]
  refine sem_call rfl rfl ((awake13_spec).mono ?_)
  rintro _ _ ⟨rfl, rfl⟩
  refine run_ok 4000 _ _ _ _ ?_
  simp (maxSteps := 10000000) only [go_sem]
  refine sem_call rfl rfl ((expect_spec F).mono ?_)
  rintro _ _ ⟨rfl, rfl⟩
  refine run_ok 4000 _ _ _ _ ?_
  simp (maxSteps := 10000000) only [go_sem]
  refine sem_likebox 2 1 (.vsl 2 (jrows []) false) rfl rfl (Like.nilv 2 false) ?_
  simp (maxSteps := 10000000) only [go_sem]
  refine sem_rounds (fun x : Nat × Int × Ent => x.1 ≤ 120 ∧ WOk x.2.1 x.2.2 ∧ 1000 ≤ x.2.1 ∧ x.2.1 ≤ 1000 + 40 * x.1)
    (fun x => [(0, .int .u32 F), (1, .vsl 4 xs false), (7, .int .i64 (x.1 : Nat)), (5, .pbox 0 0), (6, .pbox 2 0)])
    (fun x => [.box [.int .u32 (kap F x.2.1), .map 1], .map (me (mapK F x.2.2)), .box [.int .i64 x.2.1, .vsl 2 (jrows x.2.2) false]]) (fun x => 120 - x.1) (0, 1000, []) [0, 1, 2] ⟨by simp, ⟨by simp, by simp, by simp⟩, by simp, by simp⟩ ?_ ?_
  · have hk : kap F 1000 = F := by
      have : 0 ≤ F ∧ F < 4294967296 := by simp [Lit.wf, IntKind.min, IntKind.max, IntKind.bits, IntKind.signed] at hF; omega
      rw [kap_eq]; omega
    simp only [Emb, go_sem, hk, mapK, List.map_nil]
  rintro ⟨i, nx, L⟩ ⟨h1, hw, h3, h4⟩
  simp only at h1 hw h3 h4
  have hlen := hw.len
  refine run_ok 4000 _ _ _ _ ?_
  simp (maxSteps := 10000000) only [go_sem]
  refine ⟨fun hlt => ⟨fun h8 => ?_, fun h8 => ?_⟩, fun hge => ?_⟩
  · have hlt : i < xs.length := by omega
    have hin : (i : Int) < (xs.length : Int) := by omega
    obtain ⟨a, b, c, s, hrow, hb⟩ := act_row (hx _ (List.getElem_mem hlt))
    have hg : xs[i]? = some [.int .i64 a, .int .i64 b, .int .u32 c, .str s] := by rw [List.getElem?_eq_getElem hlt, hrow]
    have e1 : rint xs i 1 = b := by simp [rint, List.getD_eq_getElem?_getD, hg]
    have e2 : rstr xs i 3 = s := by simp [rstr, List.getD_eq_getElem?_getD, hg]
    have e3 : hasI .i64 xs i 1 := ⟨_, b, hg, rfl⟩
    have e4 : hasS xs i 3 := ⟨_, s, hg, rfl⟩
    obtain ⟨B, hB, hB2⟩ := and_i64 b (k := 127) (by decide)
    have hB : ibits .and .i64 b 127 = (B : Int) := hB
    have w1 : iwrap .i64 (nx + (B : Int)) = nx + B := iwrap_i64_in (by omega)
    have w2 : iwrap .i64 (nx + (B : Int) - 40) = nx + B - 40 := iwrap_i64_in (by omega)
    have w3 : iwrap .i64 (nx + (B : Int) - 40 - 1000) = nx + B - 40 - 1000 := iwrap_i64_in (by omega)
    have hk : iwrap .u32 (F + iwrap .u32 (nx + (B : Int) - 40 - 1000)) = kap F (nx + B - 40) := rfl
    obtain ⟨hpw, hw', g1, g2, g3⟩ := put_map (F := F) (nx := nx) (n := nx + B - 40) (L := L) (s := s.take 6) hw (by omega) (by omega)
    have hrp := rput_spec nx L (nx + B - 40) (s.take 6) (by omega) (by omega) (by omega)
    generalize putR nx L (nx + B - 40) (s.take 6) = P at *
    have hlen' := hw'.len
    have w4 : iwrap .i64 (P.1.1 - 1000) = P.1.1 - 1000 := iwrap_i64_in (by omega)
    have hk2 : iwrap .u32 (F + iwrap .u32 (P.1.1 - 1000)) = kap F P.1.1 := rfl
    have hml : (mapK F P.1.2).length = P.1.2.length := by simp [mapK]
    have hbm := bits_map (F := F) hw' 32 (by omega)
    have hnb : ¬ (P.1.2.length : Int) > 32 := by omega
    skip
    refine sem_drawG l9_0_ok (by kernel_rfl) ?_
    intro KK hKK
    simp (maxSteps := 10000000) only [go_sem, l9_0, e1, e2, e3, e4, hin, hB, w1, w2, w3, hk, hpw, w4, hk2, hml, hbm, hnb, Int.natCast_nonneg]
    subst hKK
    simp (maxSteps := 10000000) only [go_sem, e1, e2, e3, e4, hin, hB, w1, w2, w3, hk, hpw, w4, hk2, hml, hbm, hnb, Int.natCast_nonneg]
    refine sem_call rfl rfl (((cut_spec s 6 (by decide)).embed [] rfl trivial rfl rfl rfl (by simp)).mono ?_)
    rintro _ _ ⟨_, _, ⟨rfl, rfl⟩, rfl, rfl⟩
    refine run_ok 4000 _ _ _ _ ?_
    simp (maxSteps := 10000000) only [go_sem, e1, e2, e3, e4, hin, hB, w1, w2, w3, hk, hpw, w4, hk2, hml, hbm, hnb, Int.natCast_nonneg]
    refine sem_call rfl rfl (((iput_spec (kap F nx) (mapK F L) (kap F (nx + B - 40)) (s.take 6) (by simp [mapK]; omega)).embed [0, 1] rfl (by repeat' first | exact trivial | rfl | (simp only [go_sem]; done) | constructor) rfl (by first | rfl | simp only [go_sem]) rfl (by simp)).mono ?_)
    rintro _ _ ⟨_, _, ⟨rfl, rfl⟩, rfl, rfl⟩
    refine run_ok 4000 _ _ _ _ ?_
    simp (maxSteps := 10000000) only [go_sem, e1, e2, e3, e4, hin, hB, w1, w2, w3, hk, hpw, w4, hk2, hml, hbm, hnb, Int.natCast_nonneg]
    refine sem_call rfl rfl (((hrp).embed [] rfl trivial rfl rfl rfl (by simp)).mono ?_)
    rintro _ _ ⟨_, _, ⟨rfl, rfl⟩, rfl, rfl⟩
    refine run_ok 4000 _ _ _ _ ?_
    simp (maxSteps := 10000000) only [go_sem, e1, e2, e3, e4, hin, hB, w1, w2, w3, hk, hpw, w4, hk2, hml, hbm, hnb, Int.natCast_nonneg]
    refine sem_call rfl rfl (((iack_spec (kap F P.1.1) (mapK F P.1.2)).embed [0, 1] rfl (by repeat' first | exact trivial | rfl | (simp only [go_sem]; done) | constructor) rfl (by first | rfl | simp only [go_sem]) rfl (by simp)).mono ?_)
    rintro _ _ ⟨_, _, ⟨rfl, rfl⟩, rfl, rfl⟩
    refine run_ok 4000 _ _ _ _ ?_
    simp (maxSteps := 10000000) only [go_sem, e1, e2, e3, e4, hin, hB, w1, w2, w3, hk, hpw, w4, hk2, hml, hbm, hnb, Int.natCast_nonneg]
    refine sem_drawG l9_1_ok (by kernel_rfl) ?_
    intro KK hKK
    simp (maxSteps := 10000000) only [go_sem, l9_1, e1, e2, e3, e4, hin, hB, w1, w2, w3, hk, hpw, w4, hk2, hml, hbm, hnb, Int.natCast_nonneg]
    refine TriZ.of (((ilen_spec (kap F P.1.1) (mapK F P.1.2)).embed [0, 1] rfl (by repeat' first | exact trivial | rfl | (simp only [go_sem]; done) | constructor) rfl (by first | rfl | simp only [go_sem]) rfl (by simp)).mono ?_)
    rintro _ _ ⟨_, _, ⟨rfl, rfl⟩, rfl, rfl⟩
    simp (maxSteps := 10000000) only [go_sem, e1, e2, e3, e4, hin, hB, w1, w2, w3, hk, hpw, w4, hk2, hml, hbm, hnb, Int.natCast_nonneg]
    refine TriZ.of (((ilen_spec (kap F P.1.1) (mapK F P.1.2)).embed [0, 1] rfl (by repeat' first | exact trivial | rfl | (simp only [go_sem]; done) | constructor) rfl (by first | rfl | simp only [go_sem]) rfl (by simp)).mono ?_)
    rintro _ _ ⟨_, _, ⟨rfl, rfl⟩, rfl, rfl⟩
    simp (maxSteps := 10000000) only [go_sem, e1, e2, e3, e4, hin, hB, w1, w2, w3, hk, hpw, w4, hk2, hml, hbm, hnb, Int.natCast_nonneg]
    refine TriZ.of (((rbits_spec P.1.1 P.1.2 (by omega) (by omega)).embed [] rfl (by repeat' first | exact trivial | rfl | (simp only [go_sem]; done) | constructor) rfl (by first | rfl | simp only [go_sem]) rfl (by simp)).mono ?_)
    rintro _ _ ⟨_, _, ⟨rfl, rfl⟩, rfl, rfl⟩
    simp (maxSteps := 10000000) only [go_sem, e1, e2, e3, e4, hin, hB, w1, w2, w3, hk, hpw, w4, hk2, hml, hbm, hnb, Int.natCast_nonneg]
    subst hKK
    simp (maxSteps := 10000000) only [go_sem, e1, e2, e3, e4, hin, hB, w1, w2, w3, hk, hpw, w4, hk2, hml, hbm, hnb, Int.natCast_nonneg]
    refine sem_rounds (fun j : Nat => j ≤ P.2.1.length) (fun j => [(0, .int .u32 F), (1, .vsl 4 xs false), (7, .int .i64 (i : Nat)), (5, .pbox 0 0), (6, .pbox 2 0), (10, .vsl 1 (sv P.2.1) false), (13, .vsl 1 (sv P.2.1) false), (114, .int .i64 (P.2.1.length : Nat)), (115, .int .i64 (j : Nat))])
      (fun j => [.box [.int .u32 (kap F P.1.1), .map 1], .map (me (mapK F P.1.2)), .box [.int .i64 P.1.1, .vsl 2 (jrows P.1.2) false]]) (fun j => P.2.1.length - j) 0 [0, 1, 2] (Nat.zero_le _) ?_ ?_
    · simp only [Emb, go_sem]
    rintro j hj
    skip
    refine run_ok 4000 _ _ _ _ ?_
    simp (maxSteps := 10000000) only [go_sem]
    refine ⟨fun hlt => ?_, fun hge => ?_⟩
    · have hjl : j < P.2.1.length := by omega
      have hji : (j : Int) < (P.2.1.length : Int) := by omega
      skip
      refine sem_drawG l9_2_ok (by kernel_rfl) ?_
      intro KK hKK
      simp (maxSteps := 10000000) only [go_sem, l9_2, svl_hasS hjl, svl_rstr hjl, inc64 (show j < 1000000000000 by omega), hji, Int.natCast_nonneg]
      subst hKK
      simp (maxSteps := 10000000) only [go_sem, svl_hasS hjl, svl_rstr hjl, inc64 (show j < 1000000000000 by omega), hji, Int.natCast_nonneg]
      refine ⟨j + 1, by omega, hjl, [0, 1, 2], ?_⟩
      simp only [Emb, go_sem]
    · skip
      refine run_ok 4000 _ _ _ _ ?_
      simp (maxSteps := 10000000) only [go_sem, inc64 (show i < 1000000000000 by omega)]
      refine ⟨(i + 1, P.1.1, P.1.2), by simp only; omega, ⟨by simp only; omega, hw', by simp only; omega, by simp only; omega⟩, [0, 1, 2], ?_⟩
      simp only [Emb, go_sem]
  · skip
    refine run_ok 4000 _ _ _ _ ?_
    simp (maxSteps := 10000000) only [go_sem]
  · refine run_ok 4000 _ _ _ _ ?_
    simp (maxSteps := 10000000) only [go_sem]
end Go.AEX
