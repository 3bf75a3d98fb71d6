/- DBx, DSn, DCnt. -/
import Derived.Test.YthdkobfafncpcaaDoorDFr
import Derived.Test.YthdkobfafncpcaaDoorAEzn
import Derived.Test.YthdkobfafncpcaaDoorTVoteS
/- Door seat: a box with as many questions as there are. -/
namespace Go.AEX
open Go Go.AE Go.Proofs
set_option maxRecDepth 100000
set_option linter.unusedVariables false
set_option linter.unusedSimpArgs false

def ob (O : Outr) : List (AV × AV) := O.map fun e => (.int .i64 e.1, .map (e.2 + 1 + 1))
def vfam (F : List Vts) : Mem := F.map fun A => .map (vb A)
abbrev bM (S : Nat) (ep : Int) (O : Outr) (F : List Vts) : Mem := vBox S ep :: .map (ob O) :: vfam F
theorem vfam_len (F : List Vts) : (vfam F).length = F.length := by simp [vfam]
theorem ob_find : ∀ (O : Outr) (p : Int), mfind (ob O) (.int .i64 p) = (og O p).map fun k => .map (k + 1 + 1)
  | [], _ => rfl
  | e :: O, p => by
    have h : kd IntKind.i64 IntKind.i64 = true := rfl
    simp only [ob, List.map_cons, mfind, keq, h, Bool.true_and, og]
    by_cases c : p = e.1
    · rw [if_pos c, c, beq_self_eq_true]; rfl
    · have : (p == e.1) = false := by simpa using c
      rw [if_neg c, this]; exact ob_find O p
theorem ob_ok (O : Outr) (v : Int) : keysOk (ob O) (.int .i64 v) := by
  induction O with
  | nil => trivial
  | cons p O ih => exact ⟨rfl, ih⟩
attribute [go_sem] ob_ok
theorem vfam_get {F : List Vts} {k : Nat} {A : Vts} (h : F[k]? = some A) : mg (vfam F) k = .map (vb A) := by
  induction F generalizing k with
  | nil => simp at h
  | cons B F ih =>
    cases k with
    | zero => simp at h; subst h; rfl
    | succ k => simp at h; exact ih h
theorem vfam_set {F : List Vts} {k : Nat} {A : Vts} : ms (vfam F) k (.map (vb A)) = vfam (F.set k A) := by
  induction F generalizing k with
  | nil => rfl
  | cons B F ih =>
    cases k with
    | zero => rfl
    | succ k => simp only [vfam, List.map_cons, ms, List.set_cons_succ] at ih ⊢; rw [ih]
theorem ob_del : ∀ (O : Outr) (v : Int), (O.map (·.1)).Nodup → mdel (ob O) (.int .i64 v) = ob (odl O v)
  | [], v, _ => rfl
  | p :: M, v, hn => by
    have e : kd IntKind.i64 IntKind.i64 = true := rfl
    simp only [List.map_cons, List.nodup_cons] at hn
    have ih := ob_del M v hn.2
    unfold ob at ih
    unfold ob odl
    simp only [List.map_cons, mdel, keq, e, Bool.true_and, List.filter_cons]
    by_cases c : v = p.1
    · have h1 : (v == p.1) = true := by simpa using c
      have h2 : (p.1 == v) = true := by simpa using c.symm
      rw [h1, h2]
      have : M.filter (fun p => !(p.1 == v)) = M := by
        rw [List.filter_eq_self]
        intro q hq
        have : q.1 ≠ v := fun e => hn.1 (by rw [← c, ← e]; exact List.mem_map.2 ⟨q, hq, rfl⟩)
        simpa using this
      simp [this]
    · have h1 : (v == p.1) = false := by simpa using c
      have h2 : (p.1 == v) = false := by simpa using fun e => c e.symm
      rw [h1, h2, ih]; rfl
theorem ob_ids {n : Nat} : ∀ (O : Outr), (∀ e ∈ O, e.2 + 1 + 1 < n) → idsP n (ob O) = true
  | [], _ => rfl
  | e :: O, h => by
    have h1 := h e (by simp)
    have ih := ob_ids O fun x hx => h x (by simp [hx])
    unfold ob at ih
    simp only [ob, List.map_cons, idsP, ids, ih, Bool.and_true, Bool.true_and]
    simpa using h1
theorem vfam_ids (n : Nat) : ∀ (F : List Vts), idsM n (vfam F) = true
  | [] => rfl
  | A :: F => by
    have ih := vfam_ids n F
    unfold vfam at ih
    simp only [vfam, List.map_cons, idsM, ih, Bool.and_true, idsB, vb_ids]
def OkO (O : Outr) (F : List Vts) : Prop := ∀ e ∈ O, e.2 < F.length
theorem bM_len (S : Nat) (ep : Int) (O : Outr) (F : List Vts) : (bM S ep O F).length = F.length + 1 + 1 := by simp [vfam]
theorem bM_idsn (S : Nat) (ep : Int) (O : Outr) (F : List Vts) (h : OkO O F) (n : Nat) (hn : F.length + 1 + 1 ≤ n) : idsM n (bM S ep O F) = true := by
  have h1 := ob_ids (n := n) O fun e he => by have := h e he; omega
  have h2 := vfam_ids n F
  simp only [bM, idsM, idsB, h1, h2, Bool.and_true, idss, ids, Bool.true_and]
  simp; omega
theorem bM_ids (S : Nat) (ep : Int) (O : Outr) (F : List Vts) (h : OkO O F) : idsM (bM S ep O F).length (bM S ep O F) = true := bM_idsn S ep O F h _ (by rw [bM_len]; exact Nat.le_refl _)
theorem bM_gone (S : Nat) (ep : Int) (O : Outr) (F : List Vts) : ∀ k ∈ bM S ep O F, k ≠ .gone := by
  intro k hk
  simp only [bM, vfam, List.mem_cons, List.mem_map] at hk
  rcases hk with rfl | rfl | ⟨A, _, rfl⟩ <;> simp
theorem bros_spec (S : Nat) (ep : Int) (O : Outr) (F : List Vts) (hO : OkO O F) : Tri Tryd.prog 16 [.pbox 0 0] (bM S ep O F) (fun v m => v = ros S ep ∧ m = bM S ep O F) := by
  refine Tri.post ?_
  have h1 := fun x => mg_app1 (vfam F) x
  have h2 := fun x y => ms_app1 (vfam F) x y
  skip
  refine (Tri.enter (rl := r16) (code := c16) (by kernel_rfl) Tryd.func16 rfl c16_ok (by kernel_rfl) (by kernel_rfl) ?_)
  refine run_ok 4000 _ _ _ _ ?_
  simp (maxSteps := 10000000) only [go_sem, c16, r16, h1, h2]
  exact ⟨_, _, post_front (A := bM S ep O F) [.box [.int .u32 (S : Nat), .int .i64 ep]] (bM_ids S ep O F hO) (Nat.le_refl _) (by simp only [go_sem]) .done, rfl, rfl⟩
theorem bopen_spec (S : Nat) (ep : Int) (O : Outr) (F : List Vts) (p : Int) : Tri Tryd.prog 25 [.pbox 0 0, .int .i64 p] (bM S ep O F) (fun v m => v = .bool (og O p).isSome ∧ m = bM S ep O F) := by
  refine Tri.post ?_
  have hf := ob_find O p
  cases h : og O p with
  | none =>
    rw [h] at hf
    skip
    refine (Tri.enter (rl := r25) (code := c25) (by kernel_rfl) Tryd.func25 rfl c25_ok (by kernel_rfl) (by kernel_rfl) ?_)
    refine run_ok 4000 _ _ _ _ ?_
    simp (maxSteps := 10000000) only [go_sem, c25, r25, hf, Option.map_none, Option.isSome_none]
    exact ⟨_, _, .done, rfl, rfl⟩
  | some k =>
    rw [h] at hf
    skip
    refine (Tri.enter (rl := r25) (code := c25) (by kernel_rfl) Tryd.func25 rfl c25_ok (by kernel_rfl) (by kernel_rfl) ?_)
    refine run_ok 4000 _ _ _ _ ?_
    simp (maxSteps := 10000000) only [go_sem, c25, r25, hf, Option.map_some, Option.isSome_some]
    exact ⟨_, _, .done, rfl, rfl⟩
theorem bask_zero (S : Nat) (ep : Int) (O : Outr) (F : List Vts) : Tri Tryd.prog 8 [.pbox 0 0, .int .i64 0] (bM S ep O F) (fun v m => v = .int .i64 4 ∧ m = bM S ep O F) := by
  refine Tri.post ?_
  skip
  refine (Tri.enter (rl := r8) (code := c8) (by kernel_rfl) Tryd.func8 rfl c8_ok (by kernel_rfl) (by kernel_rfl) ?_)
  refine run_ok 4000 _ _ _ _ ?_
  simp (maxSteps := 10000000) only [go_sem, c8, r8, beq_self_eq_true]
  exact ⟨_, _, .done, rfl, rfl⟩
theorem bask_no (S : Nat) (hS : S < 4294967296) (ep : Int) (O : Outr) (F : List Vts) (p : Int) (h0 : p ≠ 0) (h : hasN S p = false) : Tri Tryd.prog 8 [.pbox 0 0, .int .i64 p] (bM S ep O F) (fun v m => v = .int .i64 13 ∧ m = bM S ep O F) := by
  refine Tri.post ?_
  have e : (p == 0) = false := by simpa using h0
  have hh := r_has_spec S hS ep p
  rw [h] at hh
  skip
  refine (Tri.enter (rl := r8) (code := c8) (by kernel_rfl) Tryd.func8 rfl c8_ok (by kernel_rfl) (by kernel_rfl) ?_)
  refine run_ok 4000 _ _ _ _ ?_
  simp (maxSteps := 10000000) only [go_sem, c8, r8, e]
  refine sem_call rfl rfl (((hh).embed [] rfl trivial rfl rfl rfl (by simp)).mono ?_)
  rintro _ _ ⟨_, _, ⟨rfl, rfl⟩, rfl, rfl⟩
  refine run_ok 4000 _ _ _ _ ?_
  simp (maxSteps := 10000000) only [go_sem, e]
  exact ⟨_, _, .done, rfl, rfl⟩
theorem bask_there (S : Nat) (hS : S < 4294967296) (ep : Int) (O : Outr) (F : List Vts) (p : Int) (k : Nat) (h0 : p ≠ 0) (h : hasN S p = true) (ho : og O p = some k) : Tri Tryd.prog 8 [.pbox 0 0, .int .i64 p] (bM S ep O F) (fun v m => v = .int .i64 10 ∧ m = bM S ep O F) := by
  refine Tri.post ?_
  have e : (p == 0) = false := by simpa using h0
  have hh := r_has_spec S hS ep p
  rw [h] at hh
  have hb := bopen_spec S ep O F p
  rw [ho] at hb
  skip
  refine (Tri.enter (rl := r8) (code := c8) (by kernel_rfl) Tryd.func8 rfl c8_ok (by kernel_rfl) (by kernel_rfl) ?_)
  refine run_ok 4000 _ _ _ _ ?_
  simp (maxSteps := 10000000) only [go_sem, c8, r8, e, Option.isSome_some]
  refine sem_call rfl rfl (((hh).embed [] rfl trivial rfl rfl rfl (by simp)).mono ?_)
  rintro _ _ ⟨_, _, ⟨rfl, rfl⟩, rfl, rfl⟩
  refine run_ok 4000 _ _ _ _ ?_
  simp (maxSteps := 10000000) only [go_sem, e, Option.isSome_some]
  refine sem_call rfl rfl ((hb).mono ?_)
  rintro _ _ ⟨rfl, rfl⟩
  refine run_ok 4000 _ _ _ _ ?_
  simp (maxSteps := 10000000) only [go_sem, e, Option.isSome_some]
  exact ⟨_, _, .done, rfl, rfl⟩
theorem bvote_none (S : Nat) (ep : Int) (O : Outr) (F : List Vts) (v p : Int) (y : Bool) (ho : og O p = none) : Tri Tryd.prog 10 [.pbox 0 0, .int .i64 v, .int .i64 p, .bsym y] (bM S ep O F) (fun v m => v = .int .i64 9 ∧ m = bM S ep O F) := by
  refine Tri.post ?_
  have hb := bopen_spec S ep O F p
  rw [ho] at hb
  skip
  refine (Tri.enter (rl := r10) (code := c10) (by kernel_rfl) Tryd.func10 rfl c10_ok (by kernel_rfl) (by kernel_rfl) ?_)
  refine run_ok 4000 _ _ _ _ ?_
  simp (maxSteps := 10000000) only [go_sem, c10, r10, Option.isSome_none]
  refine sem_call rfl rfl ((hb).mono ?_)
  rintro _ _ ⟨rfl, rfl⟩
  refine run_ok 4000 _ _ _ _ ?_
  simp (maxSteps := 10000000) only [go_sem, Option.isSome_none]
  exact ⟨_, _, .done, rfl, rfl⟩
theorem bvote_who (S : Nat) (hS : S < 4294967296) (ep : Int) (O : Outr) (F : List Vts) (v p : Int) (y : Bool) (k : Nat) (ho : og O p = some k) (h : hasN S v = false ∨ v = p) : Tri Tryd.prog 10 [.pbox 0 0, .int .i64 v, .int .i64 p, .bsym y] (bM S ep O F) (fun v m => v = .int .i64 13 ∧ m = bM S ep O F) := by
  refine Tri.post ?_
  have hb := bopen_spec S ep O F p
  rw [ho] at hb
  have hh := r_has_spec S hS ep v
  cases hv : hasN S v with
  | false =>
    rw [hv] at hh
    skip
    refine (Tri.enter (rl := r10) (code := c10) (by kernel_rfl) Tryd.func10 rfl c10_ok (by kernel_rfl) (by kernel_rfl) ?_)
    refine run_ok 4000 _ _ _ _ ?_
    simp (maxSteps := 10000000) only [go_sem, c10, r10, Option.isSome_some]
    refine sem_call rfl rfl ((hb).mono ?_)
    rintro _ _ ⟨rfl, rfl⟩
    refine run_ok 4000 _ _ _ _ ?_
    simp (maxSteps := 10000000) only [go_sem, Option.isSome_some]
    refine sem_call rfl rfl (((hh).embed [] rfl trivial rfl rfl rfl (by simp)).mono ?_)
    rintro _ _ ⟨_, _, ⟨rfl, rfl⟩, rfl, rfl⟩
    refine run_ok 4000 _ _ _ _ ?_
    simp (maxSteps := 10000000) only [go_sem, Option.isSome_some]
    exact ⟨_, _, .done, rfl, rfl⟩
  | true =>
    rw [hv] at hh h
    obtain rfl : v = p := by rcases h with h | h; cases h; exact h
    skip
    refine (Tri.enter (rl := r10) (code := c10) (by kernel_rfl) Tryd.func10 rfl c10_ok (by kernel_rfl) (by kernel_rfl) ?_)
    refine run_ok 4000 _ _ _ _ ?_
    simp (maxSteps := 10000000) only [go_sem, c10, r10, Option.isSome_some, beq_self_eq_true]
    refine sem_call rfl rfl ((hb).mono ?_)
    rintro _ _ ⟨rfl, rfl⟩
    refine run_ok 4000 _ _ _ _ ?_
    simp (maxSteps := 10000000) only [go_sem, Option.isSome_some, beq_self_eq_true]
    refine sem_call rfl rfl (((hh).embed [] rfl trivial rfl rfl rfl (by simp)).mono ?_)
    rintro _ _ ⟨_, _, ⟨rfl, rfl⟩, rfl, rfl⟩
    refine run_ok 4000 _ _ _ _ ?_
    simp (maxSteps := 10000000) only [go_sem, Option.isSome_some, beq_self_eq_true]
    exact ⟨_, _, .done, rfl, rfl⟩
theorem bvote_there (S : Nat) (hS : S < 4294967296) (ep : Int) (O : Outr) (F : List Vts) (v p : Int) (y b : Bool) (k : Nat) (V : Vts) (ho : og O p = some k) (hF : F[k]? = some V) (h : hasN S v = true) (hne : v ≠ p) (hg : vg V v = some b) : Tri Tryd.prog 10 [.pbox 0 0, .int .i64 v, .int .i64 p, .bsym y] (bM S ep O F) (fun v m => v = .int .i64 10 ∧ m = bM S ep O F) := by
  refine Tri.post ?_
  have hb := bopen_spec S ep O F p
  rw [ho] at hb
  have hh := r_has_spec S hS ep v
  rw [h] at hh
  have e : (v == p) = false := by simpa using hne
  have hf := ob_find O p
  rw [ho] at hf
  have hG := vfam_get hF
  have k1 := vb_has V v
  have k2 := vb_bool V v
  have k3 := vb_val V v
  rw [hg] at k1 k2
  skip
  refine (Tri.enter (rl := r10) (code := c10) (by kernel_rfl) Tryd.func10 rfl c10_ok (by kernel_rfl) (by kernel_rfl) ?_)
  refine run_ok 4000 _ _ _ _ ?_
  simp (maxSteps := 10000000) only [go_sem, c10, r10, e, hf, hG, k1, k2, k3, Option.isSome_some, Option.getD_some, Option.map_some]
  refine sem_call rfl rfl ((hb).mono ?_)
  rintro _ _ ⟨rfl, rfl⟩
  refine run_ok 4000 _ _ _ _ ?_
  simp (maxSteps := 10000000) only [go_sem, e, hf, hG, k1, k2, k3, Option.isSome_some, Option.getD_some, Option.map_some]
  refine sem_call rfl rfl (((hh).embed [] rfl trivial rfl rfl rfl (by simp)).mono ?_)
  rintro _ _ ⟨_, _, ⟨rfl, rfl⟩, rfl, rfl⟩
  refine run_ok 4000 _ _ _ _ ?_
  simp (maxSteps := 10000000) only [go_sem, e, hf, hG, k1, k2, k3, Option.isSome_some, Option.getD_some, Option.map_some]
  exact ⟨_, _, .done, rfl, rfl⟩
theorem bvote_new (S : Nat) (hS : S < 4294967296) (ep : Int) (O : Outr) (F : List Vts) (v p : Int) (y : Bool) (k : Nat) (V : Vts) (ho : og O p = some k) (hF : F[k]? = some V) (h : hasN S v = true) (hne : v ≠ p) (hg : vg V v = none) : Tri Tryd.prog 10 [.pbox 0 0, .int .i64 v, .int .i64 p, .bsym y] (bM S ep O F) (fun u m => u = .int .i64 0 ∧ m = bM S ep O (F.set k (V ++ [(v, y)]))) := by
  refine Tri.post ?_
  have hb := bopen_spec S ep O F p
  rw [ho] at hb
  have hh := r_has_spec S hS ep v
  rw [h] at hh
  have e : (v == p) = false := by simpa using hne
  have hf := ob_find O p
  rw [ho] at hf
  have hG := vfam_get hF
  have k1 := vb_has V v
  have k2 := vb_bool V v
  have k3 := vb_val V v
  have k4 := vb_set V v y hg
  have hfs := vfam_set (F := F) (k := k) (A := V ++ [(v, y)])
  rw [hg] at k1 k2
  skip
  refine (Tri.enter (rl := r10) (code := c10) (by kernel_rfl) Tryd.func10 rfl c10_ok (by kernel_rfl) (by kernel_rfl) ?_)
  refine run_ok 4000 _ _ _ _ ?_
  simp (maxSteps := 10000000) only [go_sem, c10, r10, e, hf, hG, k1, k2, k3, k4, hfs, Option.isSome_some, Option.isSome_none, Option.getD_none, Option.map_some]
  refine sem_call rfl rfl ((hb).mono ?_)
  rintro _ _ ⟨rfl, rfl⟩
  refine run_ok 4000 _ _ _ _ ?_
  simp (maxSteps := 10000000) only [go_sem, e, hf, hG, k1, k2, k3, k4, hfs, Option.isSome_some, Option.isSome_none, Option.getD_none, Option.map_some]
  refine sem_call rfl rfl (((hh).embed [] rfl trivial rfl rfl rfl (by simp)).mono ?_)
  rintro _ _ ⟨_, _, ⟨rfl, rfl⟩, rfl, rfl⟩
  refine run_ok 4000 _ _ _ _ ?_
  simp (maxSteps := 10000000) only [go_sem, e, hf, hG, k1, k2, k3, k4, hfs, Option.isSome_some, Option.isSome_none, Option.getD_none, Option.map_some]
  exact ⟨_, _, .done, rfl, rfl⟩
theorem bclose_spec (S : Nat) (ep : Int) (O : Outr) (F : List Vts) (p : Int) (hO : (O.map (·.1)).Nodup) : Tri Tryd.prog 13 [.pbox 0 0, .int .i64 p] (bM S ep O F) (fun v m => v = .bool (og O p).isSome ∧ m = bM S ep (odl O p) F) := by
  refine Tri.post ?_
  have hb := bopen_spec S ep O F p
  have hd := ob_del O p hO
  cases h : og O p with
  | none =>
    rw [h] at hb
    skip
    refine (Tri.enter (rl := r13) (code := c13) (by kernel_rfl) Tryd.func13 rfl c13_ok (by kernel_rfl) (by kernel_rfl) ?_)
    refine run_ok 4000 _ _ _ _ ?_
    simp (maxSteps := 10000000) only [go_sem, c13, r13, hd, Option.isSome_none]
    refine sem_call rfl rfl ((hb).mono ?_)
    rintro _ _ ⟨rfl, rfl⟩
    refine run_ok 4000 _ _ _ _ ?_
    simp (maxSteps := 10000000) only [go_sem, hd, Option.isSome_none]
    exact ⟨_, _, .done, rfl, rfl⟩
  | some k =>
    rw [h] at hb
    skip
    refine (Tri.enter (rl := r13) (code := c13) (by kernel_rfl) Tryd.func13 rfl c13_ok (by kernel_rfl) (by kernel_rfl) ?_)
    refine run_ok 4000 _ _ _ _ ?_
    simp (maxSteps := 10000000) only [go_sem, c13, r13, hd, Option.isSome_some]
    refine sem_call rfl rfl ((hb).mono ?_)
    rintro _ _ ⟨rfl, rfl⟩
    refine run_ok 4000 _ _ _ _ ?_
    simp (maxSteps := 10000000) only [go_sem, hd, Option.isSome_some]
    exact ⟨_, _, .done, rfl, rfl⟩
end Go.AEX

/- Door seat: slices.Sorted(maps.Keys(m)) of a nil map. -/
namespace Go.AE
open Go Go.Proofs Go.Maps
set_option linter.unusedVariables false
set_option linter.unusedSimpArgs false
variable {P : Program}
theorem tri_sortedN {fS g : FuncId} (hf : isFn P fS = true) (hS : SortedSaysN P fS g) : Tri P fS [.fn g [] [.pbox 0 0]] [.box [.nilmap]] (fun v m => v = .nilsl ∧ m = [.box [.nilmap]]) := by
  refine ⟨hf, fun φ σ w vs hI hv => ?_⟩
  obtain ⟨img0, c, e0, fr, h1, h2, h3, h4, h5, h6⟩ := hI.blk 0 _ rfl
  cases hv with
  | cons hv hnil =>
    cases hnil
    cases hv with
    | fn ha hc =>
      cases ha
      cases hc with
      | cons hp hnil =>
        cases hnil
        cases hp with
        | pbox hσ =>
          rw [h1] at hσ
          cases hσ
          have hcell : w.cell? ⟨img0.B, 0, none⟩ = some (.map none) := by
            unfold World.cell?
            rw [h3]
            have hl2 : c.toList = [.map none] := by
              generalize c.toList = l at h5
              cases h5 with
              | cons hm hn =>
                cases hn
                cases hm
                rfl
            have : c[0]? = c.toList[0]? := by simp
            simp only [Option.isSome_none, Bool.false_eq_true, if_false]
            rw [this, hl2]; rfl
          have hB0 := hI.lt (b := 0) rfl rfl h1
          have hcall := hS w img0.B hcell hB0
          simp only [h2, Nat.add_zero]
          refine hcall.mono ?_
          rintro e w' ⟨rfl, r4⟩
          refine ⟨_, rfl, φ, σ, .nilsl, _, ⟨rfl, rfl⟩, ?_, .nilsl⟩
          refine hI.change w'.heap.size 1 (Sg.le_refl σ) r4.size (fun B _ hB => r4.block B hB) ?_ (.inr r4.size) (fun b hb => hI.fresh b hb) (fun _ _ => rfl) (Nat.le_refl _) ⟨r4.os, r4.tape, r4.output⟩ ?_ ?_
          · cases hx : φ w'.heap.size with
            | none => rfl
            | some o => have := hI.fz_lt hx; have := r4.size; omega
          · intro b k hb hk hne
            refine ⟨hb, rfl, fun i hi => ?_⟩
            have := hI.lt hb hk hi; have := r4.size; omega
          · intro k hb _
            simp at hb
end Go.AE
namespace Go.Proofs
open Go Go.AE Go.Maps Go.Shelf
set_option maxHeartbeats 1000000 in
theorem TrydL.says53N : Go.AE.SortedSaysN Tryd.prog 42 58 := fun w Bm hcell hBm => by
  refine (callsIn_wide (n := 5)).1 ?_
  have hseq : SeqGives Fence.wide 2 Tryd.prog 58 #[.pointer (some ⟨Bm, 0, none⟩)] encZ (fun ss : List Int => ss = []) 0 w :=
    AnyZI.keys_gives_nil (ρ := TrydL.keys53_ren) { TrydL.keys53 with } Fence.wide _ trivial rfl Bm w hBm hcell
  refine (AnyZI.sorted_in TrydL.sorted44 Fence.wide 5 trivial trivial trivial trivial rfl (by omega) (TrydL.sorts44 _) (enters_of Tryd.func50 (by kernel_rfl) rfl) 58 #[.pointer (some ⟨Bm, 0, none⟩)] trivial (enters_of Tryd.func58 (by kernel_rfl) rfl) _ _ (by simp [maxLen]) (by omega) w hseq).mono ?_
  rintro e w' ⟨v, ss, rfl, rfl, _, h, r⟩
  exact ⟨by rw [h.2 rfl], r⟩
end Go.Proofs

/- Door seat: boxes: who said so; won, lost; all questions. -/
namespace Go.AEX
open Go Go.AE Go.Proofs
set_option maxRecDepth 100000
set_option linter.unusedVariables false
set_option linter.unusedSimpArgs false

theorem keysN_spec : Tri Tryd.prog 54 [.nilmap] [] (fun v m => v = .fn 58 [] [.pbox 0 0] ∧ m = [.box [.nilmap]]) := by
  refine Tri.post ?_
  refine (Tri.enter (rl := r54) (code := c54) (by kernel_rfl) Tryd.func54 rfl c54_ok (by kernel_rfl) (by kernel_rfl) ?_)
  refine run_ok 4000 _ _ _ _ ?_
  simp (maxSteps := 10000000) only [go_sem, c54, r54]
  exact ⟨_, _, .done, rfl, rfl⟩
theorem sortedN_spec : Tri Tryd.prog 42 [.fn 58 [] [.pbox 0 0]] [.box [.nilmap]] (fun v m => v = .nilsl ∧ m = [.box [.nilmap]]) := tri_sortedN (by kernel_rfl) TrydL.says53N
theorem bcount_none (S : Nat) (ep : Int) (O : Outr) (F : List Vts) (hO : OkO O F) (p : Int) (b : Bool) (ho : og O p = none) : Tri Tryd.prog 48 [.pbox 0 0, .int .i64 p, .bool b] (bM S ep O F) (fun v m => v = .vsl 1 (iv .i64 []) false ∧ m = bM S ep O F) := by
  refine Tri.post ?_
  have hf := ob_find O p
  rw [ho] at hf
  have h1 := fun x => mg_app1 (vfam F) x
  have h2 := fun x y => ms_app1 (vfam F) x y
  have hk := keysN_spec
  have hs := sortedN_spec
  skip
  refine (Tri.enter (rl := r48) (code := c48) (by kernel_rfl) Tryd.func48 rfl c48_ok (by kernel_rfl) (by kernel_rfl) ?_)
  refine run_ok 4000 _ _ _ _ ?_
  simp (maxSteps := 10000000) only [go_sem, c48, r48, hf, h1, h2, Option.map_none]
  refine sem_call rfl rfl (((hk).embed [] rfl trivial rfl rfl rfl (by simp)).mono ?_)
  rintro _ _ ⟨_, _, ⟨rfl, rfl⟩, rfl, rfl⟩
  refine run_ok 4000 _ _ _ _ ?_
  simp (maxSteps := 10000000) only [go_sem, hf, h1, h2, Option.map_none]
  refine sem_call rfl rfl ((hs.embed [(vfam F).length + 1 + 1] rfl ⟨by simp only [go_sem, h1], trivial⟩ rfl rfl rfl (by simp)).mono ?_)
  rintro _ _ ⟨_, _, ⟨rfl, rfl⟩, rfl, rfl⟩
  refine run_ok 4000 _ _ _ _ ?_
  simp (maxSteps := 10000000) only [go_sem, hf, h1, h2, Option.map_none]
  refine sem_roundsI (fun _ : Nat => True) (fun _ => [(7, .nilsl), (18, .int .i64 0), (19, .int .i64 0)]) (fun _ => bM S ep O F) (fun _ => 0) 0 [.box [.nilmap]] (fun _ _ => bM_ids S ep O F hO) (fun _ _ => Nat.le_refl _) (fun _ _ => rfl) trivial (by simp only [go_sem]) ?_
  intro _ _
  have hlt : ¬ (0 : Int) < 0 := by omega
  skip
  refine run_ok 4000 _ _ _ _ ?_
  simp (maxSteps := 10000000) only [go_sem, hlt]
  refine run_ok 4000 _ _ _ _ ?_
  simp (maxSteps := 10000000) only [go_sem, hlt]
  exact ⟨_, _, .like (Like.nilv 1 false) .done, rfl, rfl⟩
theorem rid_f0 {n N b : Nat} {π : List Nat} (h : b < n) : rid (idl n 0 ++ π) N b = b := rid_pre h
theorem rid_f1 {n N p : Nat} {π : List Nat} : rid (idl n 0 ++ p :: π) N n = p := rid_post0
theorem rid_f2 {n N p q : Nat} {π : List Nat} : rid (idl n 0 ++ p :: q :: π) N (n + 1) = q := rid_post n 0 1
theorem emb_two {k0 : Nat} {A ex : Mem} {j1 j2 : Nat} {s1 s2 : Nat} {x1 x2 : List (List AV)} {t : Tr} {sl : List (Nat × AV)} (hA : idsM A.length A = true) (hk : k0 ≤ A.length) (h1 : mg ex j1 = .row s1 x1) (h2 : mg ex j2 = .row s2 x2) (hne : j1 ≠ j2)
    (hs : idsT (A.length + 2) sl = true) (hT : ∀ N, embT (idl A.length 0 ++ [A.length + j1, A.length + j2]) N t sl) :
    Emb k0 (idl A.length 0 ++ [A.length + j1, A.length + j2]) t (A ++ ex) sl (A ++ [.row s1 x1, .row s2 x2]) := by
  have l1 := mg_lt h1 rfl
  have l2 := mg_lt h2 rfl
  refine emb_ext hA hk (by rw [List.length_append]; exact hs) rfl ?_ ?_ ?_ (hT _) ⟨?_, ?_, trivial⟩
  · simp only [nodupN, List.contains_cons, List.contains_nil, Bool.or_false, Bool.and_true, Bool.not_eq_true', Bool.not_false]
    rw [beq_eq_false_iff_ne]; omega
  · intro p hp
    simp only [List.mem_cons, List.not_mem_nil, or_false] at hp
    rcases hp with rfl | rfl <;> omega
  · simp only [below, Bool.and_true, Bool.and_eq_true]
    exact ⟨Nat.blt_eq.mpr (by rw [List.length_append]; omega), Nat.blt_eq.mpr (by rw [List.length_append]; omega)⟩
  · rw [mg_app, h1]; rfl
  · rw [mg_app, h2]; rfl
theorem bcount_some (S : Nat) (ep : Int) (O : Outr) (F : List Vts) (hO : OkO O F) (p : Int) (b : Bool) (k : Nat) (V : Vts) (ho : og O p = some k) (hF : F[k]? = some V) (h : VOk S p V) : Tri Tryd.prog 48 [.pbox 0 0, .int .i64 p, .bool b] (bM S ep O F) (fun v m => v = .vsl 1 (iv .i64 (cntV V b)) false ∧ m = bM S ep O F) := by
  refine Tri.post ?_
  have hf := ob_find O p
  rw [ho] at hf
  have hG := vfam_get hF
  have hGx := fun ex => mg_front hG rfl ex
  have hGs := fun ex => ms_samek (hGx ex) rfl
  have hG0 := ms_samek hG rfl
  have h1 := fun x ex => mg_app0 (vfam F) (x :: ex)
  have h2 := fun x ex j => mg_app (vfam F) (x :: ex) j
  have h3 := fun x ex y => ms_app0 (vfam F) (x :: ex) y
  have h4 := fun x ex j y => ms_app (vfam F) (x :: ex) j y
  have h5 := app_len (vfam F)
  have hk := r_keys_spec (vb V)
  have hs := r_sorted_spec h
  have hlen := h.len
  have hkl : k < (vfam F).length := by rw [vfam_len]; exact lt_of_get hF
  have hid := bM_ids S ep O F hO
  unfold cntV
  have hsl : (sortI (V.map (·.1))).length = (V.map (·.1)).length := List.length_mergeSort _
  have hml : (V.map (·.1)).length ≤ 32 := by simpa using hlen
  generalize (V.map (·.1)).length = n at *
  generalize sortI (V.map (·.1)) = K at *
  skip
  refine (Tri.enter (rl := r48) (code := c48) (by kernel_rfl) Tryd.func48 rfl c48_ok (by kernel_rfl) (by kernel_rfl) ?_)
  refine run_ok 4000 _ _ _ _ ?_
  simp (maxSteps := 10000000) only [go_sem, c48, r48, hf, hG, hGx, hGs, hG0, h1, h2, h3, h4, h5, Option.map_some, beq_self_eq_true, Nat.add_zero, List.append_assoc, List.cons_append, List.nil_append]
  refine sem_call rfl rfl ((hk.embed [k + 1 + 1] rfl ⟨by simp only [go_sem, hG], trivial⟩ rfl (by simp only [go_sem]) rfl (by simp; omega)).mono ?_)
  rintro _ _ ⟨_, _, ⟨rfl, rfl⟩, rfl, rfl⟩
  refine run_ok 4000 _ _ _ _ ?_
  simp (maxSteps := 10000000) only [go_sem, hf, hG, hGx, hGs, hG0, h1, h2, h3, h4, h5, Option.map_some, beq_self_eq_true, Nat.add_zero, List.append_assoc, List.cons_append, List.nil_append]
  refine sem_call rfl rfl ((hs.embed [(vfam F).length + 1 + 1, k + 1 + 1] rfl ⟨by simp only [go_sem, h1], by simp only [go_sem, hGx], trivial⟩ rfl (by simp only [go_sem]) (by simp [nodupN]; omega) (by simp; omega)).mono ?_)
  rintro _ _ ⟨_, _, ⟨rfl, rfl⟩, rfl, rfl⟩
  refine run_ok 4000 _ _ _ _ ?_
  simp (maxSteps := 10000000) only [go_sem, hf, hG, hGx, hGs, hG0, h1, h2, h3, h4, h5, Option.map_some, beq_self_eq_true, Nat.add_zero, List.append_assoc, List.cons_append, List.nil_append]
  refine sem_virt 7 1 rfl ?_
  simp (maxSteps := 10000000) only [go_sem, hf, hG, hGx, hGs, hG0, h1, h2, h3, h4, h5, Option.map_some, beq_self_eq_true, Nat.add_zero, List.append_assoc, List.cons_append, List.nil_append]
  have hbl : (bM S ep O F).length = (vfam F).length + 1 + 1 := rfl
  have f1 : ∀ (N p q : Nat), rid (idl (bM S ep O F).length 0 ++ [p, q]) N ((vfam F).length + 1 + 1) = p := fun N p q => rid_f1
  have f2 : ∀ (N p q : Nat), rid (idl (bM S ep O F).length 0 ++ [p, q]) N ((vfam F).length + 1 + 1 + 1) = q := fun N p q => rid_f2
  refine sem_rounds (fun i : Nat => i ≤ n)
    (fun i => [(0, .pbox 0 0), (1, .int .i64 p), (2, .bool b), (7, .sl ((bM S ep O F).length + 1) 0 ((K.take i).filter fun v => (vg V v).getD false == b).length ((K.take i).filter fun v => (vg V v).getD false == b).length false), (17, .sl (bM S ep O F).length 0 n n false), (18, .int .i64 n), (19, .int .i64 (i : Nat))])
    (fun i => bM S ep O F ++ [.row 1 (iv .i64 K), .row 1 (iv .i64 ((K.take i).filter fun v => (vg V v).getD false == b))]) (fun i => n - i) 0 (idl (bM S ep O F).length 0 ++ [(bM S ep O F).length + 1, (bM S ep O F).length + 2]) (Nat.zero_le _) ?_ ?_
  · refine emb_two (A := bM S ep O F) (ex := [.box [.map (k + 1 + 1)], .row 1 (iv .i64 K), .row 1 []]) (j1 := 1) (j2 := 2) hid (Nat.le_refl _) rfl rfl (by decide) ?_ ?_
    · simp [idsT, ids]
    · intro N
      simp only [embT, ren, f1, f2, rid_f1, rid_f2, rid_f0 (show 0 < (bM S ep O F).length by rw [hbl]; omega)]
      simp [go_sem, hbl]
  intro i hi
  by_cases c : i < n
  · have hin : (i : Int) < (n : Int) := by omega
    have ck : i < K.length := by omega
    have r0 := iv_rint (k := .i64) ck
    have h0 := iv_hasI (k := .i64) ck
    have w1 := inc64 (show i < 1000000000000 by omega)
    have htk : K.take (i + 1) = K.take i ++ [K[i]] := List.take_succ_eq_append_getElem ck
    have hnext : (K.take (i + 1)).filter (fun v => (vg V v).getD false == b) = (K.take i).filter (fun v => (vg V v).getD false == b) ++ if (vg V K[i]).getD false == b then [K[i]] else [] := by
      rw [htk, List.filter_append, List.filter_cons, List.filter_nil]
    have hol : ((K.take i).filter fun v => (vg V v).getD false == b).length ≤ 32 := by
      have h1 := List.length_filter_le (fun v => (vg V v).getD false == b) (K.take i)
      rw [List.length_take] at h1; omega
    generalize K[i] = x at *
    generalize ((K.take i).filter fun v => (vg V v).getD false == b) = out at *
    have k1 := vb_bool V x
    have k2 := vb_val V x
    cases hx : ((vg V x).getD false == b) with
    | true =>
      rw [hx, if_pos rfl] at hnext
      have hsm : small (out.length + 1) := by unfold small; omega
      skip
      refine run_ok 4000 _ _ _ _ ?_
      simp (maxSteps := 10000000) only [go_sem, hin, r0, h0, w1, k1, k2, hx, hsm, hf, hG, hGx, hGs, hG0, h1, h2, h3, h4, h5, Option.map_some, beq_self_eq_true, iv_len, Int.natCast_nonneg, r_iv_all, Nat.le_refl, Nat.add_zero, List.append_assoc, List.cons_append, List.nil_append]
      refine ⟨i + 1, by omega, c, idl (bM S ep O F).length 0 ++ [(bM S ep O F).length + 0, (bM S ep O F).length + 2], ?_⟩
      simp only [hnext, List.length_append, List.length_singleton]
      rw [r_iv_one, r_iv_app]
      refine emb_two (A := bM S ep O F) (ex := [.row 1 (iv .i64 K), .gone, .row 1 (iv .i64 (out ++ [x]))]) (j1 := 0) (j2 := 2) hid (Nat.le_refl _) rfl rfl (by decide) ?_ ?_
      · simp [idsT, ids]
      · intro N
        simp only [embT, ren, f1, f2, rid_f1, rid_f2, rid_f0 (show 0 < (bM S ep O F).length by rw [hbl]; omega)]
        simp [go_sem, hbl]
    | false =>
      rw [hx, if_neg (by simp), List.append_nil] at hnext
      skip
      refine run_ok 4000 _ _ _ _ ?_
      simp (maxSteps := 10000000) only [go_sem, hin, r0, h0, w1, k1, k2, hx, hf, hG, hGx, hGs, hG0, h1, h2, h3, h4, h5, Option.map_some, beq_self_eq_true, iv_len, Int.natCast_nonneg, Nat.le_refl, Nat.add_zero, List.append_assoc, List.cons_append, List.nil_append]
      refine ⟨i + 1, by omega, c, idl (bM S ep O F).length 0 ++ [(bM S ep O F).length + 0, (bM S ep O F).length + 1], ?_⟩
      simp only [hnext]
      refine emb_two (A := bM S ep O F) (ex := [.row 1 (iv .i64 K), .row 1 (iv .i64 out)]) (j1 := 0) (j2 := 1) hid (Nat.le_refl _) rfl rfl (by decide) ?_ ?_
      · simp [idsT, ids]
      · intro N
        simp only [embT, ren, f1, f2, rid_f1, rid_f2, rid_f0 (show 0 < (bM S ep O F).length by rw [hbl]; omega)]
        simp [go_sem, hbl]
  · have hge : ¬ (i : Int) < (n : Int) := by omega
    have hE : K.take i = K := List.take_of_length_le (by omega)
    rw [hE]
    generalize (K.filter fun v => (vg V v).getD false == b) = out at *
    skip
    refine run_ok 4000 _ _ _ _ ?_
    simp (maxSteps := 10000000) only [go_sem, hge]
    refine run_ok 4000 _ _ _ _ ?_
    simp (maxSteps := 10000000) only [go_sem, hge]
    exact ⟨_, _, post_row (A := bM S ep O F) (ex := [.row 1 (iv .i64 K), .row 1 (iv .i64 out)]) (j := 1) hid (Nat.le_refl _) rfl (by rw [iv_len]; exact Nat.le_refl _), by rw [r_iv_all], rfl⟩
end Go.AEX
