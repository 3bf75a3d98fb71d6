/- BatM, BatN in one. -/
import Derived.Test.YthdkobfafncpcaaBatL
import Derived.Test.YthdkobfafncpcaaAEsa
/- Batch: raw numbers as players, each once, rising. -/
namespace Go.AEX
open Go Go.AE Go.Proofs
set_option maxRecDepth 100000
set_option linter.unusedVariables false
set_option linter.unusedSimpArgs false

def bo (B : List Bool) : List AV := B.map .bool
theorem bo_len (B : List Bool) : (bo B).length = B.length := by simp [bo]
theorem bo_set (B : List Bool) (k : Nat) : (bo B).set k (.bool true) = bo (B.set k true) := by simp [bo]
theorem bo_hasB {B : List Bool} {k : Nat} (hk : k < B.length) : hasB (ones (bo B)) k 0 := ⟨[.bool B[k]], B[k], by simp [ones, bo, hk], by simp⟩
theorem bo_ids (n : Nat) : ∀ (B : List Bool), idss n (bo B) = true
  | [] => rfl
  | b :: B => by have := bo_ids n B; unfold bo at this; simp only [bo, List.map_cons, idss, ids, this, Bool.and_self]
theorem bo_ren (π : List Nat) (N : Nat) : ∀ (B : List Bool), rens π N (bo B) = bo B
  | [] => rfl
  | b :: B => by have := bo_ren π N B; unfold bo at this; simp only [bo, List.map_cons, rens, ren, this]
structure Rise (k : Nat) (R : List Int) : Prop where
  nd : R.Nodup
  lt : ∀ x ∈ R, 0 ≤ x ∧ x < k
  len : R.length ≤ k
theorem Rise.mono {k : Nat} {R : List Int} (h : Rise k R) : Rise (k + 1) R := ⟨h.nd, fun x hx => by have := h.lt x hx; omega, by have := h.len; omega⟩
theorem Rise.put {k : Nat} {R : List Int} (h : Rise k R) : Rise (k + 1) (R ++ [(k : Int)]) := by
  refine ⟨?_, fun x hx => ?_, by have := h.len; simp; omega⟩
  · rw [List.nodup_append]
    refine ⟨h.nd, by simp, fun a ha b hb => ?_⟩
    simp at hb; subst hb
    have := h.lt a ha; omega
  · rcases List.mem_append.1 hx with hx | hx
    · have := h.lt x hx; omega
    · simp at hx; omega
theorem iv_one (R : List Int) (x : Int) : iv .i64 R ++ [[.int .i64 x]] = iv .i64 (R ++ [x]) := by simp [iv]
theorem rising_spec (l : List Int) (tight : Bool) : Tri Try.prog 28 [.vsl 1 (iv .i64 l) tight] [] (fun v m => ∃ R : List Int, Rise 8 R ∧ v = .vsl 1 (iv .i64 R) false ∧ m = []) := by
  refine Tri.post ?_
  skip
  refine (Tri.enter (rl := r28) (code := c28) (by kernel_rfl) Try.func28 rfl c28_ok (by kernel_rfl) (by kernel_rfl) ?_)
  refine run_ok 4000 _ _ _ _ ?_
  simp (maxSteps := 10000000) only [go_sem, c28, r28, iv_len]
  refine sem_rounds (fun x : Nat × List Bool => x.1 ≤ l.length ∧ x.2.length = 8)
    (fun x => [(0, .vsl 1 (iv .i64 l) tight), (3, .pbox 0 0), (4, .int .i64 (x.1 : Nat))])
    (fun x => [.box (bo x.2)]) (fun x => l.length - x.1) (0, [false, false, false, false, false, false, false, false]) [0] ⟨Nat.zero_le _, rfl⟩ ?_ ?_
  · simp only [Emb, go_sem, bo, List.map_cons, List.map_nil]
  rintro ⟨i, B⟩ ⟨hi, hc⟩
  simp only at hi hc ⊢
  by_cases c : i < l.length
  · have hin : (i : Int) < (l.length : Int) := by omega
    by_cases c2 : i < 20
    · have hin2 : (i : Int) < 20 := by omega
      have w1 := inc64 (show i < 1000000000000 by omega)
      have r0 := iv_rint (k := .i64) c
      have h0 := iv_hasI (k := .i64) c
      obtain ⟨b, hb, hb2⟩ := and_i64 l[i] (k := 7) (by decide)
      have hb : ibits .and .i64 l[i] 7 = (b : Int) := hb
      generalize l[i] = x at *
      have hb8 : (b : Int) < 8 := by omega
      have hcl : b < (bo B).length := by rw [bo_len]; omega
      have hbs := bo_set B b
      skip
      refine run_ok 4000 _ _ _ _ ?_
      simp (maxSteps := 10000000) only [go_sem, hin, hin2, w1, r0, h0, hb, hb8, Int.natCast_nonneg, iv_len, hcl, hbs]
      refine ⟨(i + 1, B.set b true), by simp only; omega, ⟨by simp only; omega, by rw [List.length_set]; exact hc⟩, [0], ?_⟩
      simp only [Emb, go_sem, bo_ids, bo_ren]
    · have hin2 : ¬ (i : Int) < 20 := by omega
      skip
      have h8 : ∃ b0 b1 b2 b3 b4 b5 b6 b7, B = [b0, b1, b2, b3, b4, b5, b6, b7] := by
        match B, hc with
        | [b0, b1, b2, b3, b4, b5, b6, b7], _ => exact ⟨b0, b1, b2, b3, b4, b5, b6, b7, rfl⟩
      have hB := fun k (hk : k < 8) => bo_hasB (B := B) (k := k) (by omega)
      obtain ⟨b0, b1, b2, b3, b4, b5, b6, b7, rfl⟩ := h8
      simp only [bo, List.map_cons, List.map_nil] at hB ⊢
      refine run_ok 4000 _ _ _ _ ?_
      simp (maxSteps := 10000000) only [go_sem, hin, hin2, iv_len]
      refine run_ok 4000 _ _ _ _ ?_
      simp (maxSteps := 10000000) only [go_sem, hin, hin2, iv_len]
      refine sem_virt 5 1 rfl ?_
      simp (maxSteps := 10000000) only [go_sem, hin, hin2, iv_len]
      refine sem_rounds (fun x : Nat × List Int => x.1 ≤ 8 ∧ Rise x.1 x.2)
        (fun x => [(5, .sl 1 0 x.2.length x.2.length false), (24, .agg [.bool b0, .bool b1, .bool b2, .bool b3, .bool b4, .bool b5, .bool b6, .bool b7]), (25, .int .i64 (x.1 : Nat))])
        (fun x => [.box [.bool b0, .bool b1, .bool b2, .bool b3, .bool b4, .bool b5, .bool b6, .bool b7], .row 1 (iv .i64 x.2)]) (fun x => 8 - x.1) (0, []) [0, 1] ⟨by simp, by simp, by simp, by simp⟩ ?_ ?_
      · simp [Emb, go_sem, iv]
      rintro ⟨k, R⟩ ⟨hk, hR⟩
      simp only at hk hR ⊢
      have hRl := hR.len
      by_cases ck : k < 8
      · have hkn : (k : Int) < 8 := by omega
        have w1 := inc64 (show k < 1000000000000 by omega)
        have hB1 := hB k ck
        have hsm : small (R.length + 1) := by unfold small; omega
        have hap := iv_one R (k : Int)
        have hall := ivx_all R
        skip
        refine run_ok 4000 _ _ _ _ ?_
        simp (maxSteps := 10000000) only [go_sem, hkn, w1, hB1, hsm, hap, hall, Int.natCast_nonneg, iv_len, Nat.le_refl]
        generalize rbool (ones [.bool b0, .bool b1, .bool b2, .bool b3, .bool b4, .bool b5, .bool b6, .bool b7]) k 0 = q
        refine ⟨fun _ => ?_, fun _ => ?_⟩
        · refine ⟨(k + 1, R ++ [(k : Int)]), by simp only; omega, ⟨by simp only; omega, hR.put⟩, [0, 2], ?_⟩
          simp only [Emb, go_sem, List.length_append, List.length_singleton]
        · refine ⟨(k + 1, R), by simp only; omega, ⟨by simp only; omega, hR.mono⟩, [0, 1], ?_⟩
          simp only [Emb, go_sem]
      · have hkn : ¬ (k : Int) < 8 := by omega
        obtain rfl : k = 8 := by omega
        skip
        refine run_ok 4000 _ _ _ _ ?_
        simp (maxSteps := 10000000) only [go_sem, hkn]
        refine run_ok 4000 _ _ _ _ ?_
        simp (maxSteps := 10000000) only [go_sem, hkn]
        refine ⟨_, _, .fz 1 rfl (by simp only [go_sem, iv_len, Nat.le_refl]) (.sub [] ?_ .done), R, hR, rfl, rfl⟩
        simp only [EmbV, go_sem, ivx_all]
  · have hin : ¬ (i : Int) < (l.length : Int) := by omega
    skip
    have h8 : ∃ b0 b1 b2 b3 b4 b5 b6 b7, B = [b0, b1, b2, b3, b4, b5, b6, b7] := by
      match B, hc with
      | [b0, b1, b2, b3, b4, b5, b6, b7], _ => exact ⟨b0, b1, b2, b3, b4, b5, b6, b7, rfl⟩
    have hB := fun k (hk : k < 8) => bo_hasB (B := B) (k := k) (by omega)
    obtain ⟨b0, b1, b2, b3, b4, b5, b6, b7, rfl⟩ := h8
    simp only [bo, List.map_cons, List.map_nil] at hB ⊢
    refine run_ok 4000 _ _ _ _ ?_
    simp (maxSteps := 10000000) only [go_sem, hin, iv_len]
    refine run_ok 4000 _ _ _ _ ?_
    simp (maxSteps := 10000000) only [go_sem, hin, iv_len]
    refine sem_virt 5 1 rfl ?_
    simp (maxSteps := 10000000) only [go_sem, hin, iv_len]
    refine sem_rounds (fun x : Nat × List Int => x.1 ≤ 8 ∧ Rise x.1 x.2)
      (fun x => [(5, .sl 1 0 x.2.length x.2.length false), (24, .agg [.bool b0, .bool b1, .bool b2, .bool b3, .bool b4, .bool b5, .bool b6, .bool b7]), (25, .int .i64 (x.1 : Nat))])
      (fun x => [.box [.bool b0, .bool b1, .bool b2, .bool b3, .bool b4, .bool b5, .bool b6, .bool b7], .row 1 (iv .i64 x.2)]) (fun x => 8 - x.1) (0, []) [0, 1] ⟨by simp, by simp, by simp, by simp⟩ ?_ ?_
    · simp [Emb, go_sem, iv]
    rintro ⟨k, R⟩ ⟨hk, hR⟩
    simp only at hk hR ⊢
    have hRl := hR.len
    by_cases ck : k < 8
    · have hkn : (k : Int) < 8 := by omega
      have w1 := inc64 (show k < 1000000000000 by omega)
      have hB1 := hB k ck
      have hsm : small (R.length + 1) := by unfold small; omega
      have hap := iv_one R (k : Int)
      have hall := ivx_all R
      skip
      refine run_ok 4000 _ _ _ _ ?_
      simp (maxSteps := 10000000) only [go_sem, hkn, w1, hB1, hsm, hap, hall, Int.natCast_nonneg, iv_len, Nat.le_refl]
      generalize rbool (ones [.bool b0, .bool b1, .bool b2, .bool b3, .bool b4, .bool b5, .bool b6, .bool b7]) k 0 = q
      refine ⟨fun _ => ?_, fun _ => ?_⟩
      · refine ⟨(k + 1, R ++ [(k : Int)]), by simp only; omega, ⟨by simp only; omega, hR.put⟩, [0, 2], ?_⟩
        simp only [Emb, go_sem, List.length_append, List.length_singleton]
      · refine ⟨(k + 1, R), by simp only; omega, ⟨by simp only; omega, hR.mono⟩, [0, 1], ?_⟩
        simp only [Emb, go_sem]
    · have hkn : ¬ (k : Int) < 8 := by omega
      obtain rfl : k = 8 := by omega
      skip
      refine run_ok 4000 _ _ _ _ ?_
      simp (maxSteps := 10000000) only [go_sem, hkn]
      refine run_ok 4000 _ _ _ _ ?_
      simp (maxSteps := 10000000) only [go_sem, hkn]
      refine ⟨_, _, .fz 1 rfl (by simp only [go_sem, iv_len, Nat.le_refl]) (.sub [] ?_ .done), R, hR, rfl, rfl⟩
      simp only [EmbV, go_sem, ivx_all]
end Go.AEX

/- Batch: answers that the document fixes; what one who is dropped gave is gone. -/
namespace Go.AEX
open Go Go.AE Go.Proofs
set_option maxRecDepth 100000
set_option linter.unusedVariables false
set_option linter.unusedSimpArgs false

theorem nextT (nx : Int) (O : Outr) (F : List Inn) : Tri Try.prog 19 [.pbox 0 0] (tM nx O F) fun v m => v = .int .i64 nx ∧ m = tM nx O F := next_spec nx O F
theorem awake16_spec : Tri Try.prog 9 [] [] (fun v m => v = .bsym true ∧ m = []) := by
  refine Tri.post ?_
  refine (Tri.enter (rl := r9) (code := c9) (by kernel_rfl) Try.func9 rfl c9_ok (by kernel_rfl) (by kernel_rfl) ?_)
  refine run_ok 4000 _ _ _ _ ?_
  simp (maxSteps := 10000000) only [go_sem, c9, r9]
  refine sem_call rfl rfl ((tnew_spec 5).mono ?_)
  rintro _ _ ⟨rfl, rfl⟩
  refine run_ok 4000 _ _ _ _ ?_
  simp (maxSteps := 10000000) only [go_sem]
  refine sem_call rfl rfl ((putN (TOk.new 5) 0 5 (by simp) (by omega) (by simp) (by omega)).mono ?_)
  rintro _ _ ⟨rfl, O1, F1, h1, rfl⟩
  refine run_ok 4000 _ _ _ _ ?_
  simp (maxSteps := 10000000) only [go_sem]
  refine sem_call rfl rfl ((putN h1 1 5 (by simp [upd]) (by omega) (by simp [upd]) (by omega)).mono ?_)
  rintro _ _ ⟨rfl, O2, F2, h2, rfl⟩
  refine run_ok 4000 _ _ _ _ ?_
  simp (maxSteps := 10000000) only [go_sem]
  generalize hg : upd (upd (fun _ => []) 0 ([] ++ [([] : List Ord)])) 1 (upd (fun _ => []) 0 ([] ++ [([] : List Ord)]) 1 ++ [[]]) = g at h2
  have e0 : g 0 = [[]] := by rw [← hg]; rfl
  have e1 : g 1 = [[]] := by rw [← hg]; rfl
  have hne : ∀ p ∈ [(0 : Int), 1], g p ≠ [] := by simp [e0, e1]
  have hpw : pws (hdT g) [0, 1] = [[.int .i64 0, .vsl 4 (orows []) false], [.int .i64 1, .vsl 4 (orows []) false]] := by simp [pws, pw, hdT, e0, e1]
  skip
  refine sem_call rfl rfl ((takeYes h2 [0, 1] true (by simp) (by omega) hne).mono ?_)
  rintro _ _ ⟨rfl, O3, F3, h3, rfl⟩
  refine run_ok 4000 _ _ _ _ ?_
  simp (maxSteps := 10000000) only [go_sem, hpw]
  refine sem_call rfl rfl ((nextT _ _ _).mono ?_)
  rintro _ _ ⟨rfl, rfl⟩
  refine run_ok 4000 _ _ _ _ ?_
  simp (maxSteps := 10000000) only [go_sem, hpw]
  have hgv := givenT h3 0 (by omega) (by simp [e0])
  rw [show (5 + 1 + (((fun p => (g p).tail) 0).length : Int)) = 6 by simp only [e0]; rfl] at hgv
  refine sem_call rfl rfl ((hgv).mono ?_)
  rintro _ _ ⟨rfl, rfl⟩
  refine run_ok 4000 _ _ _ _ ?_
  simp (maxSteps := 10000000) only [go_sem, hpw]
  refine ⟨_, _, .sub [] ?_ .done, rfl, rfl⟩
  simp only [EmbV, go_sem]
end Go.AEX
