/- Batch tables: a memory of as many inner maps as there are players. -/
import Derived.Test.YthdkobfafncpcaaBatC
import Derived.Test.YthdkobfafncpcaaAEzn
namespace Go.AEX
open Go Go.AE Go.Proofs
set_option maxRecDepth 100000
set_option linter.unusedVariables false
set_option linter.unusedSimpArgs false

abbrev Inn := List (Int × List Ord)
abbrev Outr := List (Int × Nat)
def fb (A : Inn) : List (AV × AV) := A.map fun e => (.int .i64 e.1, .vsl 4 (orows e.2) false)
def ob (O : Outr) : List (AV × AV) := O.map fun e => (.int .i64 e.1, .map (e.2 + 1 + 1))
def fam (F : List Inn) : Mem := F.map fun A => .map (fb A)
abbrev tM (nx : Int) (O : Outr) (F : List Inn) : Mem := .box [.int .i64 nx, .map 1] :: .map (ob O) :: fam F
theorem fam_len (F : List Inn) : (fam F).length = F.length := by simp [fam]
def og : Outr → Int → Option Nat
  | [], _ => none
  | e :: O, p => if p = e.1 then some e.2 else og O p
def ig : Inn → Int → Option (List Ord)
  | [], _ => none
  | e :: A, p => if p = e.1 then some e.2 else ig A p
theorem ob_find : ∀ (O : Outr) (p : Int), mfind (ob O) (.int .i64 p) = (og O p).map fun k => .map (k + 1 + 1)
  | [], _ => rfl
  | e :: O, p => by
    have h : kd IntKind.i64 IntKind.i64 = true := rfl
    simp only [ob, List.map_cons, mfind, keq, h, Bool.true_and, og]
    by_cases c : p = e.1
    · rw [if_pos c, c, beq_self_eq_true]; rfl
    · have : (p == e.1) = false := by simpa using c
      rw [if_neg c, this]; exact ob_find O p
theorem fb_find : ∀ (A : Inn) (p : Int), mfind (fb A) (.int .i64 p) = (ig A p).map fun L => .vsl 4 (orows L) false
  | [], _ => rfl
  | e :: A, p => by
    have h : kd IntKind.i64 IntKind.i64 = true := rfl
    simp only [fb, List.map_cons, mfind, keq, h, Bool.true_and, ig]
    by_cases c : p = e.1
    · rw [if_pos c, c, beq_self_eq_true]; rfl
    · have : (p == e.1) = false := by simpa using c
      rw [if_neg c, this]; exact fb_find A p
theorem ob_ok (O : Outr) (v : Int) : keysOk (ob O) (.int .i64 v) := by
  induction O with
  | nil => trivial
  | cons p O ih => exact ⟨rfl, ih⟩
theorem fb_ok (A : Inn) (v : Int) : keysOk (fb A) (.int .i64 v) := by
  induction A with
  | nil => trivial
  | cons p A ih => exact ⟨rfl, ih⟩
attribute [go_sem] ob_ok fb_ok isKey
theorem fam_get {F : List Inn} {k : Nat} {A : Inn} (h : F[k]? = some A) : mg (fam F) k = .map (fb A) := by
  induction F generalizing k with
  | nil => simp at h
  | cons B F ih =>
    cases k with
    | zero => simp at h; subst h; rfl
    | succ k => simp at h; exact ih h
theorem fam_set {F : List Inn} {k : Nat} {A : Inn} : ms (fam F) k (.map (fb A)) = fam (F.set k A) := by
  induction F generalizing k with
  | nil => rfl
  | cons B F ih =>
    cases k with
    | zero => rfl
    | succ k => simp only [fam, List.map_cons, ms, List.set_cons_succ] at ih ⊢; rw [ih]
theorem fam_new (F : List Inn) : fam F ++ [.map []] = fam (F ++ [[]]) := by simp [fam, fb]
theorem ob_ids {n : Nat} : ∀ (O : Outr), (∀ e ∈ O, e.2 + 1 + 1 < n) → idsP n (ob O) = true
  | [], _ => rfl
  | e :: O, h => by
    have h1 := h e (by simp)
    have ih := ob_ids O fun x hx => h x (by simp [hx])
    unfold ob at ih
    simp only [ob, List.map_cons, idsP, ids, ih, Bool.and_true, Bool.true_and]
    simpa using h1
theorem next_spec (nx : Int) (O : Outr) (F : List Inn) : Tri Try.prog 19 [.pbox 0 0] (tM nx O F) (fun v m => v = .int .i64 nx ∧ m = tM nx O F) := by
  refine Tri.post ?_
  refine (Tri.enter (rl := r19) (code := c19) (by kernel_rfl) Try.func19 rfl c19_ok (by kernel_rfl) (by kernel_rfl) ?_)
  refine run_ok 4000 _ _ _ _ ?_
  simp (maxSteps := 10000000) only [go_sem, c19, r19]
  exact ⟨_, _, .done, rfl, rfl⟩
theorem given_none (nx : Int) (O : Outr) (F : List Inn) (p : Int) (h : og O p = none) (hn : -1000000 ≤ nx ∧ nx ≤ 1000000) : Tri Try.prog 15 [.pbox 0 0, .int .i64 p] (tM nx O F) (fun v m => v = .int .i64 nx ∧ m = tM nx O F) := by
  refine Tri.post ?_
  have hf := ob_find O p
  rw [h] at hf
  have w : iwrap .i64 (nx + 0) = nx := by rw [iwrap_i64_in (by omega)]; omega
  skip
  refine (Tri.enter (rl := r15) (code := c15) (by kernel_rfl) Try.func15 rfl c15_ok (by kernel_rfl) (by kernel_rfl) ?_)
  refine run_ok 4000 _ _ _ _ ?_
  simp (maxSteps := 10000000) only [go_sem, c15, r15, hf, Option.map_none, w]
  refine sem_drawG l15_0_ok (by kernel_rfl) ?_
  intro KK hKK
  simp (maxSteps := 10000000) only [go_sem, l15_0, hf, Option.map_none, w]
  subst hKK
  simp (maxSteps := 10000000) only [go_sem, hf, Option.map_none, w]
  exact ⟨_, _, .done, rfl, rfl⟩
theorem fb_len (A : Inn) : (fb A).length = A.length := by simp [fb]
theorem given_some (nx : Int) (O : Outr) (F : List Inn) (p : Int) (k : Nat) (A : Inn) (h : og O p = some k) (hF : F[k]? = some A) (hn : -1000000 ≤ nx ∧ nx ≤ 1000000) (hA : A.length ≤ 1000000) :
    Tri Try.prog 15 [.pbox 0 0, .int .i64 p] (tM nx O F) (fun v m => v = .int .i64 (nx + A.length) ∧ m = tM nx O F) := by
  refine Tri.post ?_
  have hf := ob_find O p
  rw [h] at hf
  have hg := fam_get hF
  have w : iwrap .i64 (nx + A.length) = nx + A.length := iwrap_i64_in (by omega)
  skip
  refine (Tri.enter (rl := r15) (code := c15) (by kernel_rfl) Try.func15 rfl c15_ok (by kernel_rfl) (by kernel_rfl) ?_)
  refine run_ok 4000 _ _ _ _ ?_
  simp (maxSteps := 10000000) only [go_sem, c15, r15, hf, Option.map_some, w, hg, fb_len]
  refine sem_drawG l15_0_ok (by kernel_rfl) ?_
  intro KK hKK
  simp (maxSteps := 10000000) only [go_sem, l15_0, hf, Option.map_some, w, hg, fb_len]
  subst hKK
  simp (maxSteps := 10000000) only [go_sem, hf, Option.map_some, w, hg, fb_len]
  exact ⟨_, _, .done, rfl, rfl⟩
theorem has_none (nx : Int) (O : Outr) (F : List Inn) (p : Int) (h : og O p = none) : Tri Try.prog 14 [.pbox 0 0, .int .i64 p] (tM nx O F) (fun v m => v = .bsym false ∧ m = tM nx O F) := by
  refine Tri.post ?_
  have hf := ob_find O p
  rw [h] at hf
  skip
  refine (Tri.enter (rl := r14) (code := c14) (by kernel_rfl) Try.func14 rfl c14_ok (by kernel_rfl) (by kernel_rfl) ?_)
  refine run_ok 4000 _ _ _ _ ?_
  simp (maxSteps := 10000000) only [go_sem, c14, r14, hf, Option.map_none]
  refine sem_drawG l14_0_ok (by kernel_rfl) ?_
  intro KK hKK
  simp (maxSteps := 10000000) only [go_sem, l14_0, hf, Option.map_none]
  subst hKK
  simp (maxSteps := 10000000) only [go_sem, hf, Option.map_none]
  exact ⟨_, _, .done, rfl, rfl⟩
theorem has_some (nx : Int) (O : Outr) (F : List Inn) (p : Int) (k : Nat) (A : Inn) (h : og O p = some k) (hF : F[k]? = some A) :
    Tri Try.prog 14 [.pbox 0 0, .int .i64 p] (tM nx O F) (fun v m => v = .bsym (ig A nx).isSome ∧ m = tM nx O F) := by
  refine Tri.post ?_
  have hf := ob_find O p
  rw [h] at hf
  have hg := fam_get hF
  have hi := fb_find A nx
  cases hA : ig A nx with
  | none =>
    rw [hA] at hi
    skip
    refine (Tri.enter (rl := r14) (code := c14) (by kernel_rfl) Try.func14 rfl c14_ok (by kernel_rfl) (by kernel_rfl) ?_)
    refine run_ok 4000 _ _ _ _ ?_
    simp (maxSteps := 10000000) only [go_sem, c14, r14, hf, Option.map_some, hg, hi, Option.map_none, Option.isSome_none]
    refine sem_drawG l14_0_ok (by kernel_rfl) ?_
    intro KK hKK
    simp (maxSteps := 10000000) only [go_sem, l14_0, hf, Option.map_some, hg, hi, Option.map_none, Option.isSome_none]
    subst hKK
    simp (maxSteps := 10000000) only [go_sem, hf, Option.map_some, hg, hi, Option.map_none, Option.isSome_none]
    exact ⟨_, _, .done, rfl, rfl⟩
  | some L =>
    rw [hA] at hi
    skip
    refine (Tri.enter (rl := r14) (code := c14) (by kernel_rfl) Try.func14 rfl c14_ok (by kernel_rfl) (by kernel_rfl) ?_)
    refine run_ok 4000 _ _ _ _ ?_
    simp (maxSteps := 10000000) only [go_sem, c14, r14, hf, Option.map_some, hg, hi, Option.isSome_some]
    refine sem_drawG l14_0_ok (by kernel_rfl) ?_
    intro KK hKK
    simp (maxSteps := 10000000) only [go_sem, l14_0, hf, Option.map_some, hg, hi, Option.isSome_some]
    subst hKK
    simp (maxSteps := 10000000) only [go_sem, hf, Option.map_some, hg, hi, Option.isSome_some]
    exact ⟨_, _, .done, rfl, rfl⟩
def odl (O : Outr) (p : Int) : Outr := O.filter fun e => !(e.1 == p)
theorem ob_del : ∀ (O : Outr) (v : Int), (O.map (·.1)).Nodup → mdel (ob O) (.int .i64 v) = ob (odl O v)
  | [], v, _ => rfl
  | p :: M, v, hn => by
    have e : kd IntKind.i64 IntKind.i64 = true := rfl
    simp only [List.map_cons, List.nodup_cons] at hn
    have ih := ob_del M v hn.2
    unfold ob at ih
    unfold ob odl
    simp only [List.map_cons, mdel, keq, e, Bool.true_and, List.filter_cons]
    by_cases c : v = p.1
    · have h1 : (v == p.1) = true := by simpa using c
      have h2 : (p.1 == v) = true := by simpa using c.symm
      rw [h1, h2]
      have : M.filter (fun p => !(p.1 == v)) = M := by
        rw [List.filter_eq_self]
        intro q hq
        have : q.1 ≠ v := fun e => hn.1 (by rw [← c, ← e]; exact List.mem_map.2 ⟨q, hq, rfl⟩)
        simpa using this
      simp [this]
    · have h1 : (v == p.1) = false := by simpa using c
      have h2 : (p.1 == v) = false := by simpa using fun e => c e.symm
      rw [h1, h2, ih]; rfl
theorem drop_some (nx : Int) (O : Outr) (F : List Inn) (p : Int) (k : Nat) (A : Inn) (h : og O p = some k) (hF : F[k]? = some A) (hO : (O.map (·.1)).Nodup) :
    Tri Try.prog 13 [.pbox 0 0, .int .i64 p] (tM nx O F) (fun v m => v = .int .i64 A.length ∧ m = tM nx (odl O p) F) := by
  refine Tri.post ?_
  have hf := ob_find O p
  rw [h] at hf
  have hg := fam_get hF
  have hd := ob_del O p hO
  skip
  refine (Tri.enter (rl := r13) (code := c13) (by kernel_rfl) Try.func13 rfl c13_ok (by kernel_rfl) (by kernel_rfl) ?_)
  refine run_ok 4000 _ _ _ _ ?_
  simp (maxSteps := 10000000) only [go_sem, c13, r13, hf, Option.map_some, hg, fb_len, hd]
  exact ⟨_, _, .done, rfl, rfl⟩
theorem tnew_spec (nx : Int) : Tri Try.prog 10 [.int .i64 nx] [] (fun v m => v = .pbox 0 0 ∧ m = tM nx [] []) := by
  refine Tri.post ?_
  refine (Tri.enter (rl := r10) (code := c10) (by kernel_rfl) Try.func10 rfl c10_ok (by kernel_rfl) (by kernel_rfl) ?_)
  refine run_ok 4000 _ _ _ _ ?_
  simp (maxSteps := 10000000) only [go_sem, c10, r10]
  refine ⟨_, _, .sub [1, 0] ?_ .done, rfl, rfl⟩
  simp only [EmbV, go_sem, ob, fam, List.map_nil]
/-! giving -/
theorem ob_set : ∀ (O : Outr) (v : Int) (k : Nat), og O v = none → mset (ob O) (.int .i64 v) (.map (k + 1 + 1)) = ob (O ++ [(v, k)])
  | [], v, k, _ => rfl
  | e :: O, v, k, h => by
    have h0 : kd IntKind.i64 IntKind.i64 = true := rfl
    simp only [og] at h
    by_cases c : v = e.1
    · rw [if_pos c] at h; cases h
    · rw [if_neg c] at h
      have : (v == e.1) = false := by simpa using c
      simp only [ob, List.map_cons, List.cons_append, mset, keq, h0, Bool.true_and, this, cond_false]
      have ih := ob_set O v k h
      unfold ob at ih
      rw [ih]
theorem fb_set : ∀ (A : Inn) (v : Int) (L : List Ord), ig A v = none → mset (fb A) (.int .i64 v) (.vsl 4 (orows L) false) = fb (A ++ [(v, L)])
  | [], v, k, _ => rfl
  | e :: A, v, L, h => by
    have h0 : kd IntKind.i64 IntKind.i64 = true := rfl
    simp only [ig] at h
    by_cases c : v = e.1
    · rw [if_pos c] at h; cases h
    · rw [if_neg c] at h
      have : (v == e.1) = false := by simpa using c
      simp only [fb, List.map_cons, List.cons_append, mset, keq, h0, Bool.true_and, this, cond_false]
      have ih := fb_set A v L h
      unfold fb at ih
      rw [ih]
theorem put_some (nx : Int) (O : Outr) (F : List Inn) (p : Int) (k : Nat) (A : Inn) (L : List Ord) (h : og O p = some k) (hF : F[k]? = some A) (hn : 0 ≤ nx ∧ nx ≤ 100000) (hA : A.length < 8) (hp : 0 ≤ p ∧ p < 32)
    (hL : L.length ≤ 8) (hok : ∀ o ∈ L, okO o) (hi : ig A (nx + A.length) = none) :
    Tri Try.prog 12 [.pbox 0 0, .int .i64 p, .int .i64 (nx + A.length), .vsl 4 (orows L) false] (tM nx O F) (fun v m => v = .int .i64 0 ∧ m = tM nx O (F.set k (A ++ [(nx + A.length, L)]))) := by
  refine Tri.post ?_
  have hf := ob_find O p
  rw [h] at hf
  have hg := fam_get hF
  have hgi := given_some nx O F p k A h hF (by omega) (by omega)
  have p1 : ¬ p < 0 := by omega
  have p2 : ¬ p ≥ 32 := by omega
  have t1 : ¬ nx + (A.length : Int) < nx + (A.length : Int) := by omega
  have t2 : ¬ nx + (A.length : Int) > nx + (A.length : Int) := by omega
  have w : iwrap .i64 (nx + 8) = nx + 8 := iwrap_i64_in (by omega)
  have t3 : ¬ nx + (A.length : Int) ≥ nx + 8 := by omega
  have hb := bcheck_spec L hL hok
  have hc := oclone_spec L hL
  have hs := fb_set A (nx + A.length) L hi
  have hfs := fam_set (F := F) (k := k) (A := A ++ [(nx + A.length, L)])
  skip
  refine (Tri.enter (rl := r12) (code := c12) (by kernel_rfl) Try.func12 rfl c12_ok (by kernel_rfl) (by kernel_rfl) ?_)
  refine run_ok 4000 _ _ _ _ ?_
  simp (maxSteps := 10000000) only [go_sem, c12, r12, hf, Option.map_some, hg, p1, p2, t1, t2, t3, w, hs, hfs]
  refine sem_call rfl rfl ((hgi).mono ?_)
  rintro _ _ ⟨rfl, rfl⟩
  refine run_ok 4000 _ _ _ _ ?_
  simp (maxSteps := 10000000) only [go_sem, hf, Option.map_some, hg, p1, p2, t1, t2, t3, w, hs, hfs]
  refine sem_call rfl rfl ((hgi).mono ?_)
  rintro _ _ ⟨rfl, rfl⟩
  refine run_ok 4000 _ _ _ _ ?_
  simp (maxSteps := 10000000) only [go_sem, hf, Option.map_some, hg, p1, p2, t1, t2, t3, w, hs, hfs]
  refine sem_call rfl rfl (((hb).embed [] rfl trivial rfl rfl rfl (by simp)).mono ?_)
  rintro _ _ ⟨_, _, ⟨rfl, rfl⟩, rfl, rfl⟩
  refine run_ok 4000 _ _ _ _ ?_
  simp (maxSteps := 10000000) only [go_sem, hf, Option.map_some, hg, p1, p2, t1, t2, t3, w, hs, hfs]
  refine sem_drawG l12_0_ok (by kernel_rfl) ?_
  intro KK hKK
  simp (maxSteps := 10000000) only [go_sem, l12_0, hf, Option.map_some, hg, p1, p2, t1, t2, t3, w, hs, hfs]
  refine TriZ.of (((hc).embed [] rfl (by repeat' first | exact trivial | rfl | (simp only [go_sem]; done) | constructor) rfl (by first | rfl | simp only [go_sem]) rfl (by simp)).mono ?_)
  rintro _ _ ⟨_, _, ⟨rfl, rfl⟩, rfl, rfl⟩
  simp (maxSteps := 10000000) only [go_sem, hf, Option.map_some, hg, p1, p2, t1, t2, t3, w, hs, hfs]
  subst hKK
  simp (maxSteps := 10000000) only [go_sem, hf, Option.map_some, hg, p1, p2, t1, t2, t3, w, hs, hfs]
  exact ⟨_, _, .done, rfl, rfl⟩
theorem og_new : ∀ (O : Outr) (p : Int) (k : Nat), og O p = none → og (O ++ [(p, k)]) p = some k
  | [], p, k, _ => by simp [og]
  | e :: O, p, k, h => by
    simp only [og, List.cons_append] at h ⊢
    by_cases c : p = e.1
    · rw [if_pos c] at h; cases h
    · rw [if_neg c] at h ⊢; exact og_new O p k h
theorem set_new (F : List Inn) (A : Inn) : (F ++ [([] : Inn)]).set F.length A = F ++ [A] := by simp
theorem fam_mg_app (F : List Inn) (x : Blk) : mg (fam F ++ [x]) (fam F).length = x := by
  generalize fam F = M
  induction M with
  | nil => rfl
  | cons a M ih => exact ih
theorem put_none (nx : Int) (O : Outr) (F : List Inn) (p : Int) (L : List Ord) (h : og O p = none) (hn : 0 ≤ nx ∧ nx ≤ 100000) (hp : 0 ≤ p ∧ p < 32)
    (hL : L.length ≤ 8) (hok : ∀ o ∈ L, okO o) :
    Tri Try.prog 12 [.pbox 0 0, .int .i64 p, .int .i64 nx, .vsl 4 (orows L) false] (tM nx O F) (fun v m => v = .int .i64 0 ∧ m = tM nx (O ++ [(p, F.length)]) (F ++ [[(nx, L)]])) := by
  refine Tri.post ?_
  have hf := ob_find O p
  rw [h] at hf
  have hgi := given_none nx O F p h (by omega)
  have p1 : ¬ p < 0 := by omega
  have p2 : ¬ p ≥ 32 := by omega
  have t1 : ¬ nx < nx := by omega
  have t2 : ¬ nx > nx := by omega
  have w : iwrap .i64 (nx + 8) = nx + 8 := iwrap_i64_in (by omega)
  have t3 : ¬ nx ≥ nx + 8 := by omega
  have hb := bcheck_spec L hL hok
  have hc := oclone_spec L hL
  have ho := ob_set O p F.length h
  have hsome := og_new O p F.length h
  have hf2 := ob_find (O ++ [(p, F.length)]) p
  rw [hsome] at hf2
  have hfn := fam_new F
  have hg := fam_get (F := F ++ [[]]) (k := F.length) (A := []) (by simp)
  have hs := fb_set [] nx L rfl
  have hfs := fam_set (F := F ++ [[]]) (k := F.length) (A := [(nx, L)])
  rw [List.nil_append] at hs
  rw [set_new] at hfs
  skip
  refine (Tri.enter (rl := r12) (code := c12) (by kernel_rfl) Try.func12 rfl c12_ok (by kernel_rfl) (by kernel_rfl) ?_)
  refine run_ok 4000 _ _ _ _ ?_
  simp (maxSteps := 10000000) only [go_sem, c12, r12, hf, Option.map_some, Option.map_none, p1, p2, t1, t2, t3, w, fam_len, ho, hfn, hf2, hg, hs, hfs]
  refine sem_call rfl rfl ((hgi).mono ?_)
  rintro _ _ ⟨rfl, rfl⟩
  refine run_ok 4000 _ _ _ _ ?_
  simp (maxSteps := 10000000) only [go_sem, hf, Option.map_some, Option.map_none, p1, p2, t1, t2, t3, w, fam_len, ho, hfn, hf2, hg, hs, hfs]
  refine sem_call rfl rfl ((hgi).mono ?_)
  rintro _ _ ⟨rfl, rfl⟩
  refine run_ok 4000 _ _ _ _ ?_
  simp (maxSteps := 10000000) only [go_sem, hf, Option.map_some, Option.map_none, p1, p2, t1, t2, t3, w, fam_len, ho, hfn, hf2, hg, hs, hfs]
  refine sem_call rfl rfl (((hb).embed [] rfl trivial rfl rfl rfl (by simp)).mono ?_)
  rintro _ _ ⟨_, _, ⟨rfl, rfl⟩, rfl, rfl⟩
  refine run_ok 4000 _ _ _ _ ?_
  simp (maxSteps := 10000000) only [go_sem, hf, Option.map_some, Option.map_none, p1, p2, t1, t2, t3, w, fam_len, ho, hfn, hf2, hg, hs, hfs]
  refine sem_drawG l12_0_ok (by kernel_rfl) ?_
  intro KK hKK
  simp (maxSteps := 10000000) only [go_sem, l12_0, hf, Option.map_some, Option.map_none, p1, p2, t1, t2, t3, w, fam_len, ho, hfn, hf2, hg, hs, hfs]
  refine TriZ.of (((hc).embed [] rfl (by repeat' first | exact trivial | rfl | (simp only [go_sem]; done) | constructor) rfl (by first | rfl | simp only [go_sem]) rfl (by simp)).mono ?_)
  rintro _ _ ⟨_, _, ⟨rfl, rfl⟩, rfl, rfl⟩
  simp (maxSteps := 10000000) only [go_sem, hf, Option.map_some, Option.map_none, p1, p2, t1, t2, t3, w, fam_len, ho, hfn, hf2, hg, hs, hfs]
  subst hKK
  simp (maxSteps := 10000000) only [go_sem, hf, Option.map_some, Option.map_none, p1, p2, t1, t2, t3, w, fam_len, ho, hfn, hf2, hg, hs, hfs]
  exact ⟨_, _, .done, rfl, rfl⟩
end Go.AEX
