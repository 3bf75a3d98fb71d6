/- Vote: a box with one question at most. -/
import Derived.Test.YthdkobfafncpcaaVoteA
import Derived.Test.YthdkobfafncpcaaVoteS
import Derived.Test.YthdkobfafncpcaaAEzn
namespace Go.AEX
open Go Go.AE Go.Proofs
set_option maxRecDepth 100000
set_option linter.unusedVariables false
set_option linter.unusedSimpArgs false

abbrev Vts := List (Int × Bool)
def vb (V : Vts) : List (AV × AV) := V.map fun p => (.int .i64 p.1, .bsym p.2)
theorem vb_ren (π : List Nat) (N : Nat) (V : Vts) : renP π N (vb V) = vb V := by
  induction V with
  | nil => rfl
  | cons p V ih => unfold vb at ih ⊢; simp only [List.map_cons, renP, ren, ih]
theorem vb_ids (k : Nat) (V : Vts) : idsP k (vb V) = true := by
  induction V with
  | nil => rfl
  | cons p V ih => unfold vb at ih ⊢; simp only [List.map_cons, idsP, ids, ih, Bool.and_self]
theorem vb_ok (V : Vts) (v : Int) : keysOk (vb V) (.int .i64 v) := by
  induction V with
  | nil => trivial
  | cons p V ih => exact ⟨rfl, ih⟩
attribute [go_sem] vb_ren vb_ids isKey vb_ok
def vg : Vts → Int → Option Bool
  | [], _ => none
  | p :: V, v => if v = p.1 then some p.2 else vg V v
theorem vb_find : ∀ (V : Vts) (v : Int), mfind (vb V) (.int .i64 v) = (vg V v).map .bsym
  | [], _ => rfl
  | p :: V, v => by
    have e : kd IntKind.i64 IntKind.i64 = true := rfl
    simp only [vb, List.map_cons, mfind, keq, e, Bool.true_and, vg]
    by_cases c : v = p.1
    · rw [if_pos c, c, beq_self_eq_true]; rfl
    · have : (v == p.1) = false := by simpa using c
      rw [if_neg c, this]; exact vb_find V v
theorem vb_has (V : Vts) (v : Int) : mhas (vb V) (.int .i64 v) = (vg V v).isSome := by unfold mhas; rw [vb_find]; cases vg V v <;> rfl
theorem vb_bool (V : Vts) (v : Int) : mbool (vb V) (.int .i64 v) = (vg V v).getD false := by unfold mbool; rw [vb_find]; cases vg V v <;> rfl
theorem vb_val (V : Vts) (v : Int) : valB (vb V) (.int .i64 v) := fun x h => by
  rw [vb_find] at h
  cases hv : vg V v with
  | none => rw [hv] at h; cases h
  | some b => rw [hv] at h; cases h; exact ⟨b, .inr rfl⟩
theorem vb_set : ∀ (V : Vts) (v : Int) (y : Bool), vg V v = none → mset (vb V) (.int .i64 v) (.bsym y) = vb (V ++ [(v, y)])
  | [], v, y, _ => rfl
  | p :: V, v, y, h => by
    have e : kd IntKind.i64 IntKind.i64 = true := rfl
    simp only [vg] at h
    by_cases c : v = p.1
    · rw [if_pos c] at h; cases h
    · rw [if_neg c] at h
      have : (v == p.1) = false := by simpa using c
      simp only [vb, List.map_cons, List.cons_append, mset, keq, e, Bool.true_and, this, cond_false]
      have ih := vb_set V v y h
      unfold vb at ih
      rw [ih]
theorem vb_keys (V : Vts) : keysAre (V.map (·.1)) (vb V) := by
  unfold keysAre vb
  rw [List.map_map, List.map_map]; rfl
abbrev vBox (S : Nat) (ep : Int) : Blk := .box [.int .u32 (S : Nat), .int .i64 ep, .map 1]
abbrev vE (S : Nat) (ep : Int) : Mem := [vBox S ep, .map []]
abbrev vM (S : Nat) (ep q : Int) (V : Vts) : Mem := [vBox S ep, .map [(.int .i64 q, .map 2)], .map (vb V)]
theorem vnew_spec (S : Nat) (ep : Int) : Tri Try.prog 21 [ros S ep] [] (fun v m => v = .pbox 0 0 ∧ m = vE S ep) := by
  refine Tri.post ?_
  refine (Tri.enter (rl := r21) (code := c21) (by kernel_rfl) Try.func21 rfl c21_ok (by kernel_rfl) (by kernel_rfl) ?_)
  refine run_ok 4000 _ _ _ _ ?_
  simp (maxSteps := 10000000) only [go_sem, c21, r21]
  refine ⟨_, _, .sub [2, 1] ?_ .done, rfl, rfl⟩
  simp only [EmbV, go_sem]
theorem open_yes (S : Nat) (ep q : Int) (V : Vts) : Tri Try.prog 34 [.pbox 0 0, .int .i64 q] (vM S ep q V) (fun v m => v = .bool true ∧ m = vM S ep q V) := by
  refine Tri.post ?_
  skip
  refine (Tri.enter (rl := r34) (code := c34) (by kernel_rfl) Try.func34 rfl c34_ok (by kernel_rfl) (by kernel_rfl) ?_)
  refine run_ok 4000 _ _ _ _ ?_
  simp (maxSteps := 10000000) only [go_sem, c34, r34, beq_self_eq_true]
  refine ⟨_, _, .sub [0, 1, 2] ?_ .done, rfl, rfl⟩
  simp only [EmbV, go_sem]
theorem open_nil (S : Nat) (ep p : Int) : Tri Try.prog 34 [.pbox 0 0, .int .i64 p] (vE S ep) (fun v m => v = .bool false ∧ m = vE S ep) := by
  refine Tri.post ?_
  refine (Tri.enter (rl := r34) (code := c34) (by kernel_rfl) Try.func34 rfl c34_ok (by kernel_rfl) (by kernel_rfl) ?_)
  refine run_ok 4000 _ _ _ _ ?_
  simp (maxSteps := 10000000) only [go_sem, c34, r34]
  refine ⟨_, _, .sub [0, 1] ?_ .done, rfl, rfl⟩
  simp only [EmbV, go_sem]
theorem ask_spec (S : Nat) (hS : S < 4294967296) (ep p : Int) (h : hasN S p = true) (h0 : p ≠ 0) : Tri Try.prog 23 [.pbox 0 0, .int .i64 p] (vE S ep) (fun v m => v = .int .i64 0 ∧ m = vM S ep p []) := by
  refine Tri.post ?_
  have e : (p == 0) = false := by simpa using h0
  have hh := has_spec S hS ep p
  rw [h] at hh
  have ho := open_nil S ep p
  skip
  refine (Tri.enter (rl := r23) (code := c23) (by kernel_rfl) Try.func23 rfl c23_ok (by kernel_rfl) (by kernel_rfl) ?_)
  refine run_ok 4000 _ _ _ _ ?_
  simp (maxSteps := 10000000) only [go_sem, c23, r23, e]
  refine sem_call rfl rfl (((hh).embed [] rfl trivial rfl rfl rfl (by simp)).mono ?_)
  rintro _ _ ⟨_, _, ⟨rfl, rfl⟩, rfl, rfl⟩
  refine run_ok 4000 _ _ _ _ ?_
  simp (maxSteps := 10000000) only [go_sem, e]
  refine sem_call rfl rfl (((ho).embed [0, 1] rfl (by repeat' first | exact trivial | rfl | (simp only [go_sem]; done) | constructor) rfl (by first | rfl | simp only [go_sem]) rfl (by simp)).mono ?_)
  rintro _ _ ⟨_, _, ⟨rfl, rfl⟩, rfl, rfl⟩
  refine run_ok 4000 _ _ _ _ ?_
  simp (maxSteps := 10000000) only [go_sem, e]
  refine ⟨_, _, .sub [0, 1, 2] ?_ .done, rfl, rfl⟩
  simp only [EmbV, go_sem, vb, List.map_nil]
theorem ask_no (S : Nat) (hS : S < 4294967296) (ep p : Int) (h : hasN S p = false) (h0 : p ≠ 0) : Tri Try.prog 23 [.pbox 0 0, .int .i64 p] (vE S ep) (fun v m => v = .int .i64 13 ∧ m = vE S ep) := by
  refine Tri.post ?_
  have e : (p == 0) = false := by simpa using h0
  have hh := has_spec S hS ep p
  rw [h] at hh
  skip
  refine (Tri.enter (rl := r23) (code := c23) (by kernel_rfl) Try.func23 rfl c23_ok (by kernel_rfl) (by kernel_rfl) ?_)
  refine run_ok 4000 _ _ _ _ ?_
  simp (maxSteps := 10000000) only [go_sem, c23, r23, e]
  refine sem_call rfl rfl (((hh).embed [] rfl trivial rfl rfl rfl (by simp)).mono ?_)
  rintro _ _ ⟨_, _, ⟨rfl, rfl⟩, rfl, rfl⟩
  refine run_ok 4000 _ _ _ _ ?_
  simp (maxSteps := 10000000) only [go_sem, e]
  refine ⟨_, _, .sub [0, 1] ?_ .done, rfl, rfl⟩
  simp only [EmbV, go_sem]
theorem vote_there (S : Nat) (hS : S < 4294967296) (ep q v : Int) (V : Vts) (y b : Bool) (h : hasN S v = true) (hq : v ≠ q) (hg : vg V v = some b) : Tri Try.prog 24 [.pbox 0 0, .int .i64 v, .int .i64 q, .bsym y] (vM S ep q V) (fun v m => v = .int .i64 10 ∧ m = vM S ep q V) := by
  refine Tri.post ?_
  have ho := open_yes S ep q V
  have hh := has_spec S hS ep v
  rw [h] at hh
  have e : (v == q) = false := by simpa using hq
  have k1 := vb_has V v
  have k2 := vb_bool V v
  have k3 := vb_val V v
  rw [hg] at k1 k2
  skip
  refine (Tri.enter (rl := r24) (code := c24) (by kernel_rfl) Try.func24 rfl c24_ok (by kernel_rfl) (by kernel_rfl) ?_)
  refine run_ok 4000 _ _ _ _ ?_
  simp (maxSteps := 10000000) only [go_sem, c24, r24, e, beq_self_eq_true, k1, k2, k3, Option.isSome_some, Option.getD_some]
  refine sem_call rfl rfl (((ho).embed [0, 1, 2] rfl (by repeat' first | exact trivial | rfl | (simp only [go_sem]; done) | constructor) rfl (by first | rfl | simp only [go_sem]) rfl (by simp)).mono ?_)
  rintro _ _ ⟨_, _, ⟨rfl, rfl⟩, rfl, rfl⟩
  refine run_ok 4000 _ _ _ _ ?_
  simp (maxSteps := 10000000) only [go_sem, e, beq_self_eq_true, k1, k2, k3, Option.isSome_some, Option.getD_some]
  refine sem_call rfl rfl (((hh).embed [] rfl trivial rfl rfl rfl (by simp)).mono ?_)
  rintro _ _ ⟨_, _, ⟨rfl, rfl⟩, rfl, rfl⟩
  refine run_ok 4000 _ _ _ _ ?_
  simp (maxSteps := 10000000) only [go_sem, e, beq_self_eq_true, k1, k2, k3, Option.isSome_some, Option.getD_some]
  refine ⟨_, _, .sub [0, 1, 2] ?_ .done, rfl, rfl⟩
  simp only [EmbV, go_sem]
theorem vote_spec (S : Nat) (hS : S < 4294967296) (ep q v : Int) (V : Vts) (y : Bool) (h : hasN S v = true) (hq : v ≠ q) (hg : vg V v = none) : Tri Try.prog 24 [.pbox 0 0, .int .i64 v, .int .i64 q, .bsym y] (vM S ep q V) (fun x m => x = .int .i64 0 ∧ m = vM S ep q (V ++ [(v, y)])) := by
  refine Tri.post ?_
  have ho := open_yes S ep q V
  have hh := has_spec S hS ep v
  rw [h] at hh
  have e : (v == q) = false := by simpa using hq
  have k1 := vb_has V v
  have k2 := vb_bool V v
  have k3 := vb_val V v
  have k4 := vb_set V v y hg
  rw [hg] at k1 k2
  skip
  refine (Tri.enter (rl := r24) (code := c24) (by kernel_rfl) Try.func24 rfl c24_ok (by kernel_rfl) (by kernel_rfl) ?_)
  refine run_ok 4000 _ _ _ _ ?_
  simp (maxSteps := 10000000) only [go_sem, c24, r24, e, beq_self_eq_true, k1, k2, k3, k4, Option.isSome_none, Option.getD_none]
  refine sem_call rfl rfl (((ho).embed [0, 1, 2] rfl (by repeat' first | exact trivial | rfl | (simp only [go_sem]; done) | constructor) rfl (by first | rfl | simp only [go_sem]) rfl (by simp)).mono ?_)
  rintro _ _ ⟨_, _, ⟨rfl, rfl⟩, rfl, rfl⟩
  refine run_ok 4000 _ _ _ _ ?_
  simp (maxSteps := 10000000) only [go_sem, e, beq_self_eq_true, k1, k2, k3, k4, Option.isSome_none, Option.getD_none]
  refine sem_call rfl rfl (((hh).embed [] rfl trivial rfl rfl rfl (by simp)).mono ?_)
  rintro _ _ ⟨_, _, ⟨rfl, rfl⟩, rfl, rfl⟩
  refine run_ok 4000 _ _ _ _ ?_
  simp (maxSteps := 10000000) only [go_sem, e, beq_self_eq_true, k1, k2, k3, k4, Option.isSome_none, Option.getD_none]
  refine ⟨_, _, .sub [0, 1, 2] ?_ .done, rfl, rfl⟩
  simp only [EmbV, go_sem]
theorem Tri.word {P : Program} {f : FuncId} {a b c : AV} {y : Bool} {m : Mem} {K : AV → Mem → Prop} (h : Tri P f [a, b, c, .bsym y] m K) : Tri P f [a, b, c, .bool y] m K :=
  h.recast fun φ σ vs hv => by
    cases hv with
    | cons h1 hv => cases hv with
      | cons h2 hv => cases hv with
        | cons h3 hv => cases hv with
          | cons h4 hv => cases h4; exact .cons h1 (.cons h2 (.cons h3 (.cons .bsym hv)))
end Go.AEX
