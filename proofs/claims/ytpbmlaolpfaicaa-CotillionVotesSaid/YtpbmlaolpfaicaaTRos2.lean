/- Seat rT: rosters: Check, With, All. -/
import Derived.Test.YtpbmlaolpfaicaaTRos
namespace Go.AEX
open Go Go.AE Go.Proofs
set_option maxRecDepth 100000
set_option linter.unusedVariables false
set_option linter.unusedSimpArgs false

theorem check_spec (S : Nat) (hS : S < 4294967296) (ep k p : Int) (vs : List Int) (hl : vs.length ≤ 1000) :
    Tri Try.prog 67 [ros S ep, .agg [.int .i64 k, .int .i64 p, .vsl 1 (iv .i64 vs) false]] [] (fun v m => v = .int .i64 (chkF S (k, p, vs)) ∧ m = []) := by
  refine Tri.post ?_
  have hhas := r_has_spec S hS ep p
  have hmost := most_spec S hS ep p vs false hl
  by_cases a1 : k < 1
  · have e : chkF S (k, p, vs) = 7 := by simp [chkF, a1]
    rw [e]
    skip
    refine (Tri.enter (rl := r67) (code := c67) (by kernel_rfl) Try.func67 rfl c67_ok (by kernel_rfl) (by kernel_rfl) ?_)
    refine run_ok 4000 _ _ _ _ ?_
    simp (maxSteps := 10000000) only [go_sem, c67, r67, a1]
    refine ⟨_, _, .sub [] ?_ .done, rfl, rfl⟩
    simp only [EmbV, go_sem]
  by_cases a2 : k > 3
  · have e : chkF S (k, p, vs) = 7 := by simp [chkF, a2]
    rw [e]
    skip
    refine (Tri.enter (rl := r67) (code := c67) (by kernel_rfl) Try.func67 rfl c67_ok (by kernel_rfl) (by kernel_rfl) ?_)
    refine run_ok 4000 _ _ _ _ ?_
    simp (maxSteps := 10000000) only [go_sem, c67, r67, a1, a2]
    refine ⟨_, _, .sub [] ?_ .done, rfl, rfl⟩
    simp only [EmbV, go_sem]
  by_cases b1 : p < 0
  · have e : chkF S (k, p, vs) = 4 := by simp only [chkF]; rw [if_neg (by omega), if_pos (by omega)]
    rw [e]
    skip
    refine (Tri.enter (rl := r67) (code := c67) (by kernel_rfl) Try.func67 rfl c67_ok (by kernel_rfl) (by kernel_rfl) ?_)
    refine run_ok 4000 _ _ _ _ ?_
    simp (maxSteps := 10000000) only [go_sem, c67, r67, a1, a2, b1]
    refine ⟨_, _, .sub [] ?_ .done, rfl, rfl⟩
    simp only [EmbV, go_sem]
  by_cases b2 : p ≥ 32
  · have e : chkF S (k, p, vs) = 4 := by simp only [chkF]; rw [if_neg (by omega), if_pos (by omega)]
    rw [e]
    skip
    refine (Tri.enter (rl := r67) (code := c67) (by kernel_rfl) Try.func67 rfl c67_ok (by kernel_rfl) (by kernel_rfl) ?_)
    refine run_ok 4000 _ _ _ _ ?_
    simp (maxSteps := 10000000) only [go_sem, c67, r67, a1, a2, b1, b2]
    refine ⟨_, _, .sub [] ?_ .done, rfl, rfl⟩
    simp only [EmbV, go_sem]
  have hk : k = 1 ∨ k = 2 ∨ k = 3 := by omega
  by_cases b3 : p = 0 ∧ k ≠ 1
  · have e : chkF S (k, p, vs) = 4 := by simp only [chkF]; rw [if_neg (by omega), if_pos (by omega)]
    have z1 : (p == 0) = true := by simp [b3.1]
    have z2 : (k != 1) = true := by simp [b3.2]
    rw [e]
    skip
    refine (Tri.enter (rl := r67) (code := c67) (by kernel_rfl) Try.func67 rfl c67_ok (by kernel_rfl) (by kernel_rfl) ?_)
    refine run_ok 4000 _ _ _ _ ?_
    simp (maxSteps := 10000000) only [go_sem, c67, r67, a1, a2, b1, b2, z1, z2]
    refine ⟨_, _, .sub [] ?_ .done, rfl, rfl⟩
    simp only [EmbV, go_sem]
  by_cases b4 : k ≠ 3 ∧ 0 < vs.length
  · have e : chkF S (k, p, vs) = 4 := by simp only [chkF]; rw [if_neg (by omega), if_pos (by omega)]
    have z3 : (k != 3) = true := by simp [b4.1]
    have z4 : (vs.length : Int) > 0 := by omega
    rw [e]
    by_cases b5 : p = 0
    · have z1 : (p == 0) = true := by simp [b5]
      have z2 : (k != 1) = false := by have : k = 1 := by omega
                                       simp [this]
      skip
      refine (Tri.enter (rl := r67) (code := c67) (by kernel_rfl) Try.func67 rfl c67_ok (by kernel_rfl) (by kernel_rfl) ?_)
      refine run_ok 4000 _ _ _ _ ?_
      simp (maxSteps := 10000000) only [go_sem, c67, r67, a1, a2, b1, b2, z1, z2, z3, z4, iv_len]
      refine ⟨_, _, .sub [] ?_ .done, rfl, rfl⟩
      simp only [EmbV, go_sem]
    · have z1 : (p == 0) = false := by simpa using b5
      skip
      refine (Tri.enter (rl := r67) (code := c67) (by kernel_rfl) Try.func67 rfl c67_ok (by kernel_rfl) (by kernel_rfl) ?_)
      refine run_ok 4000 _ _ _ _ ?_
      simp (maxSteps := 10000000) only [go_sem, c67, r67, a1, a2, b1, b2, z1, z3, z4, iv_len]
      refine ⟨_, _, .sub [] ?_ .done, rfl, rfl⟩
      simp only [EmbV, go_sem]
  have hz : (p == 0) = true ∧ k = 1 ∨ (p == 0) = false := by
    by_cases h : p = 0
    · exact .inl ⟨by simp [h], by omega⟩
    · exact .inr (by simpa using h)
  rcases hk with rfl | rfl | rfl
  · have z4 : ¬ (vs.length : Int) > 0 := by omega
    have z5 : ((1 : Int) == 1) = true := rfl
    have z6 : ((1 : Int) != 1) = false := rfl
    have z7 : ((1 : Int) != 3) = true := rfl
    have z8 : ((1 : Int) == 3) = false := rfl
    cases hh : hasN S p with
    | true =>
      rw [hh] at hhas
      have e : chkF S (1, p, vs) = 10 := by simp only [chkF]; rw [if_neg (by omega), if_neg (by omega), if_pos (by simp [hh])]
      rw [e]
      rcases hz with ⟨z1, _⟩ | z1
      · skip
        refine (Tri.enter (rl := r67) (code := c67) (by kernel_rfl) Try.func67 rfl c67_ok (by kernel_rfl) (by kernel_rfl) ?_)
        refine run_ok 4000 _ _ _ _ ?_
        simp (maxSteps := 10000000) only [go_sem, c67, r67, a1, a2, b1, b2, z1, z4, z5, z6, z7, z8, iv_len]
        refine sem_call rfl rfl (((hhas).embed [] rfl trivial rfl rfl rfl (by simp)).mono ?_)
        rintro _ _ ⟨_, _, ⟨rfl, rfl⟩, rfl, rfl⟩
        refine run_ok 4000 _ _ _ _ ?_
        simp (maxSteps := 10000000) only [go_sem, a1, a2, b1, b2, z1, z4, z5, z6, z7, z8, iv_len]
        refine ⟨_, _, .sub [] ?_ .done, rfl, rfl⟩
        simp only [EmbV, go_sem]
      · skip
        refine (Tri.enter (rl := r67) (code := c67) (by kernel_rfl) Try.func67 rfl c67_ok (by kernel_rfl) (by kernel_rfl) ?_)
        refine run_ok 4000 _ _ _ _ ?_
        simp (maxSteps := 10000000) only [go_sem, c67, r67, a1, a2, b1, b2, z1, z4, z5, z6, z7, z8, iv_len]
        refine sem_call rfl rfl (((hhas).embed [] rfl trivial rfl rfl rfl (by simp)).mono ?_)
        rintro _ _ ⟨_, _, ⟨rfl, rfl⟩, rfl, rfl⟩
        refine run_ok 4000 _ _ _ _ ?_
        simp (maxSteps := 10000000) only [go_sem, a1, a2, b1, b2, z1, z4, z5, z6, z7, z8, iv_len]
        refine ⟨_, _, .sub [] ?_ .done, rfl, rfl⟩
        simp only [EmbV, go_sem]
    | false =>
      rw [hh] at hhas
      have e : chkF S (1, p, vs) = 0 := by simp only [chkF]; rw [if_neg (by omega), if_neg (by omega), if_neg (by simp [hh]), if_neg (by omega), if_neg (by omega)]
      rw [e]
      rcases hz with ⟨z1, _⟩ | z1
      · skip
        refine (Tri.enter (rl := r67) (code := c67) (by kernel_rfl) Try.func67 rfl c67_ok (by kernel_rfl) (by kernel_rfl) ?_)
        refine run_ok 4000 _ _ _ _ ?_
        simp (maxSteps := 10000000) only [go_sem, c67, r67, a1, a2, b1, b2, z1, z4, z5, z6, z7, z8, iv_len]
        refine sem_call rfl rfl (((hhas).embed [] rfl trivial rfl rfl rfl (by simp)).mono ?_)
        rintro _ _ ⟨_, _, ⟨rfl, rfl⟩, rfl, rfl⟩
        refine run_ok 4000 _ _ _ _ ?_
        simp (maxSteps := 10000000) only [go_sem, a1, a2, b1, b2, z1, z4, z5, z6, z7, z8, iv_len]
        refine ⟨_, _, .sub [] ?_ .done, rfl, rfl⟩
        simp only [EmbV, go_sem]
      · skip
        refine (Tri.enter (rl := r67) (code := c67) (by kernel_rfl) Try.func67 rfl c67_ok (by kernel_rfl) (by kernel_rfl) ?_)
        refine run_ok 4000 _ _ _ _ ?_
        simp (maxSteps := 10000000) only [go_sem, c67, r67, a1, a2, b1, b2, z1, z4, z5, z6, z7, z8, iv_len]
        refine sem_call rfl rfl (((hhas).embed [] rfl trivial rfl rfl rfl (by simp)).mono ?_)
        rintro _ _ ⟨_, _, ⟨rfl, rfl⟩, rfl, rfl⟩
        refine run_ok 4000 _ _ _ _ ?_
        simp (maxSteps := 10000000) only [go_sem, a1, a2, b1, b2, z1, z4, z5, z6, z7, z8, iv_len]
        refine ⟨_, _, .sub [] ?_ .done, rfl, rfl⟩
        simp only [EmbV, go_sem]
  · have z4 : ¬ (vs.length : Int) > 0 := by omega
    have z1 : (p == 0) = false := by rcases hz with ⟨_, h⟩ | h; omega; exact h
    cases hh : hasN S p with
    | true =>
      rw [hh] at hhas
      have e : chkF S (2, p, vs) = 0 := by simp only [chkF]; rw [if_neg (by omega), if_neg (by omega), if_neg (by omega), if_neg (by simp [hh]), if_neg (by omega)]
      rw [e]
      skip
      refine (Tri.enter (rl := r67) (code := c67) (by kernel_rfl) Try.func67 rfl c67_ok (by kernel_rfl) (by kernel_rfl) ?_)
      refine run_ok 4000 _ _ _ _ ?_
      simp (maxSteps := 10000000) only [go_sem, c67, r67, a1, a2, b1, b2, z1, z4, iv_len]
      refine sem_call rfl rfl (((hhas).embed [] rfl trivial rfl rfl rfl (by simp)).mono ?_)
      rintro _ _ ⟨_, _, ⟨rfl, rfl⟩, rfl, rfl⟩
      refine run_ok 4000 _ _ _ _ ?_
      simp (maxSteps := 10000000) only [go_sem, a1, a2, b1, b2, z1, z4, iv_len]
      refine ⟨_, _, .sub [] ?_ .done, rfl, rfl⟩
      simp only [EmbV, go_sem]
    | false =>
      rw [hh] at hhas
      have e : chkF S (2, p, vs) = 13 := by simp only [chkF]; rw [if_neg (by omega), if_neg (by omega), if_neg (by omega), if_pos ⟨by omega, hh⟩]
      rw [e]
      skip
      refine (Tri.enter (rl := r67) (code := c67) (by kernel_rfl) Try.func67 rfl c67_ok (by kernel_rfl) (by kernel_rfl) ?_)
      refine run_ok 4000 _ _ _ _ ?_
      simp (maxSteps := 10000000) only [go_sem, c67, r67, a1, a2, b1, b2, z1, z4, iv_len]
      refine sem_call rfl rfl (((hhas).embed [] rfl trivial rfl rfl rfl (by simp)).mono ?_)
      rintro _ _ ⟨_, _, ⟨rfl, rfl⟩, rfl, rfl⟩
      refine run_ok 4000 _ _ _ _ ?_
      simp (maxSteps := 10000000) only [go_sem, a1, a2, b1, b2, z1, z4, iv_len]
      refine ⟨_, _, .sub [] ?_ .done, rfl, rfl⟩
      simp only [EmbV, go_sem]
  · have z1 : (p == 0) = false := by rcases hz with ⟨_, h⟩ | h; omega; exact h
    cases hh : hasN S p with
    | false =>
      rw [hh] at hhas
      have e : chkF S (3, p, vs) = 13 := by simp only [chkF]; rw [if_neg (by omega), if_neg (by omega), if_neg (by omega), if_pos ⟨by omega, hh⟩]
      rw [e]
      skip
      refine (Tri.enter (rl := r67) (code := c67) (by kernel_rfl) Try.func67 rfl c67_ok (by kernel_rfl) (by kernel_rfl) ?_)
      refine run_ok 4000 _ _ _ _ ?_
      simp (maxSteps := 10000000) only [go_sem, c67, r67, a1, a2, b1, b2, z1, iv_len]
      refine sem_call rfl rfl (((hhas).embed [] rfl trivial rfl rfl rfl (by simp)).mono ?_)
      rintro _ _ ⟨_, _, ⟨rfl, rfl⟩, rfl, rfl⟩
      refine run_ok 4000 _ _ _ _ ?_
      simp (maxSteps := 10000000) only [go_sem, a1, a2, b1, b2, z1, iv_len]
      refine ⟨_, _, .sub [] ?_ .done, rfl, rfl⟩
      simp only [EmbV, go_sem]
    | true =>
      rw [hh] at hhas
      cases hm : mostF S p vs with
      | true =>
        rw [hm] at hmost
        have e : chkF S (3, p, vs) = 0 := by simp only [chkF]; rw [if_neg (by omega), if_neg (by omega), if_neg (by omega), if_neg (by simp [hh]), if_neg (by simp [hm])]
        rw [e]
        skip
        refine (Tri.enter (rl := r67) (code := c67) (by kernel_rfl) Try.func67 rfl c67_ok (by kernel_rfl) (by kernel_rfl) ?_)
        refine run_ok 4000 _ _ _ _ ?_
        simp (maxSteps := 10000000) only [go_sem, c67, r67, a1, a2, b1, b2, z1, iv_len]
        refine sem_call rfl rfl (((hhas).embed [] rfl trivial rfl rfl rfl (by simp)).mono ?_)
        rintro _ _ ⟨_, _, ⟨rfl, rfl⟩, rfl, rfl⟩
        refine run_ok 4000 _ _ _ _ ?_
        simp (maxSteps := 10000000) only [go_sem, a1, a2, b1, b2, z1, iv_len]
        refine sem_call rfl rfl (((hmost).embed [] rfl trivial rfl rfl rfl (by simp)).mono ?_)
        rintro _ _ ⟨_, _, ⟨rfl, rfl⟩, rfl, rfl⟩
        refine run_ok 4000 _ _ _ _ ?_
        simp (maxSteps := 10000000) only [go_sem, a1, a2, b1, b2, z1, iv_len]
        refine ⟨_, _, .sub [] ?_ .done, rfl, rfl⟩
        simp only [EmbV, go_sem]
      | false =>
        rw [hm] at hmost
        have e : chkF S (3, p, vs) = 15 := by simp only [chkF]; rw [if_neg (by omega), if_neg (by omega), if_neg (by omega), if_neg (by simp [hh]), if_pos (by simp [hm])]
        rw [e]
        skip
        refine (Tri.enter (rl := r67) (code := c67) (by kernel_rfl) Try.func67 rfl c67_ok (by kernel_rfl) (by kernel_rfl) ?_)
        refine run_ok 4000 _ _ _ _ ?_
        simp (maxSteps := 10000000) only [go_sem, c67, r67, a1, a2, b1, b2, z1, iv_len]
        refine sem_call rfl rfl (((hhas).embed [] rfl trivial rfl rfl rfl (by simp)).mono ?_)
        rintro _ _ ⟨_, _, ⟨rfl, rfl⟩, rfl, rfl⟩
        refine run_ok 4000 _ _ _ _ ?_
        simp (maxSteps := 10000000) only [go_sem, a1, a2, b1, b2, z1, iv_len]
        refine sem_call rfl rfl (((hmost).embed [] rfl trivial rfl rfl rfl (by simp)).mono ?_)
        rintro _ _ ⟨_, _, ⟨rfl, rfl⟩, rfl, rfl⟩
        refine run_ok 4000 _ _ _ _ ?_
        simp (maxSteps := 10000000) only [go_sem, a1, a2, b1, b2, z1, iv_len]
        refine ⟨_, _, .sub [] ?_ .done, rfl, rfl⟩
        simp only [EmbV, go_sem]
def allN (S : Nat) (k : Nat) : List Int := ((List.range k).map Int.ofNat).filter fun p => hasN S p
theorem allN_succ (S k : Nat) : allN S (k + 1) = allN S k ++ if hasN S (k : Int) = true then [(k : Int)] else [] := by
  unfold allN
  rw [List.range_succ, List.map_append, List.filter_append, List.map_cons, List.map_nil, List.filter_cons, List.filter_nil]
  rfl
theorem allN_len (S k : Nat) : (allN S k).length ≤ k := by
  unfold allN
  have := List.length_filter_le (fun p => hasN S p) ((List.range k).map Int.ofNat)
  simpa using this
theorem rall_spec (S : Nat) (hS : S < 4294967296) (ep : Int) : Tri Try.prog 69 [ros S ep] [] (fun v m => v = .vsl 1 (iv .i64 (allN S 32)) false ∧ m = []) := by
  refine Tri.post ?_
  refine (Tri.enter (rl := r69) (code := c69) (by kernel_rfl) Try.func69 rfl c69_ok (by kernel_rfl) (by kernel_rfl) ?_)
  refine run_ok 4000 _ _ _ _ ?_
  simp (maxSteps := 10000000) only [go_sem, c69, r69]
  refine sem_virt 3 1 rfl ?_
  simp (maxSteps := 10000000) only [go_sem]
  refine sem_rounds (fun i : Nat => i ≤ 32) (fun i => [(1, .pbox 0 0), (3, .sl 1 0 (allN S i).length (allN S i).length false), (5, .int .i64 (i : Nat))])
    (fun i => [.box [.int .u32 (S : Nat), .int .i64 ep], .row 1 (iv .i64 (allN S i))]) (fun i => 32 - i) 0 [0, 1] (Nat.zero_le _) ?_ ?_
  · simp [Emb, go_sem, allN, iv]
  intro i hi
  by_cases c : i < 32
  · have hin : (i : Int) < 32 := by omega
    have w1 := inc64 (show i < 1000000000000 by omega)
    have hhas := r_has_spec S hS ep i
    have hl := allN_len S i
    have hsm : small ((allN S i).length + 1) := by unfold small; omega
    have hnx := allN_succ S i
    cases hh : hasN S (i : Int) with
    | true =>
      rw [hh] at hhas hnx
      simp only [if_true] at hnx
      skip
      refine run_ok 4000 _ _ _ _ ?_
      simp (maxSteps := 10000000) only [go_sem, hin, w1, hsm, iv_len, Nat.le_refl]
      refine sem_call rfl rfl (((hhas).embed [] rfl trivial rfl rfl rfl (by simp)).mono ?_)
      rintro _ _ ⟨_, _, ⟨rfl, rfl⟩, rfl, rfl⟩
      refine run_ok 4000 _ _ _ _ ?_
      simp (maxSteps := 10000000) only [go_sem, hin, w1, hsm, iv_len, Nat.le_refl]
      refine ⟨i + 1, by omega, by omega, [0, 2], ?_⟩
      simp only [Emb, go_sem, hnx, List.length_append, List.length_singleton, r_iv_one, r_iv_app, r_iv_all]
    | false =>
      rw [hh] at hhas hnx
      simp only [Bool.false_eq_true, if_false, List.append_nil] at hnx
      skip
      refine run_ok 4000 _ _ _ _ ?_
      simp (maxSteps := 10000000) only [go_sem, hin, w1, iv_len, Nat.le_refl]
      refine sem_call rfl rfl (((hhas).embed [] rfl trivial rfl rfl rfl (by simp)).mono ?_)
      rintro _ _ ⟨_, _, ⟨rfl, rfl⟩, rfl, rfl⟩
      refine run_ok 4000 _ _ _ _ ?_
      simp (maxSteps := 10000000) only [go_sem, hin, w1, iv_len, Nat.le_refl]
      refine ⟨i + 1, by omega, by omega, [0, 1], ?_⟩
      simp only [Emb, go_sem, hnx]
  · have hin : ¬ (i : Int) < 32 := by omega
    obtain rfl : i = 32 := by omega
    skip
    refine run_ok 4000 _ _ _ _ ?_
    simp (maxSteps := 10000000) only [go_sem, hin]
    refine run_ok 4000 _ _ _ _ ?_
    simp (maxSteps := 10000000) only [go_sem, hin]
    refine ⟨_, _, .fz 1 rfl (by simp only [go_sem, iv_len, Nat.le_refl]) (.sub [] ?_ .done), rfl, rfl⟩
    simp only [EmbV, go_sem, r_iv_all]
end Go.AEX
