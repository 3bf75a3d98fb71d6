/- Turned to this seat by turn.py: BatD.lean BatF.lean BatG.lean BatH.lean BatI.lean. -/
import Derived.Test.YtpbmlaolpfaicaaTBatC
import Derived.Test.YtpbmlaolpfaicaaAEzn
import Derived.Test.YtpbmlaolpfaicaaAEzq
namespace Go.AEX
open Go Go.AE Go.Proofs
set_option maxRecDepth 100000
set_option linter.unusedVariables false
set_option linter.unusedSimpArgs false

abbrev Inn := List (Int × List Ord)
abbrev Outr := List (Int × Nat)
def fb (A : Inn) : List (AV × AV) := A.map fun e => (.int .i64 e.1, .vsl 4 (orows e.2) false)
def ob (O : Outr) : List (AV × AV) := O.map fun e => (.int .i64 e.1, .map (e.2 + 1 + 1))
def fam (F : List Inn) : Mem := F.map fun A => .map (fb A)
abbrev tM (nx : Int) (O : Outr) (F : List Inn) : Mem := .box [.int .i64 nx, .map 1] :: .map (ob O) :: fam F
theorem fam_len (F : List Inn) : (fam F).length = F.length := by simp [fam]
def og : Outr → Int → Option Nat
  | [], _ => none
  | e :: O, p => if p = e.1 then some e.2 else og O p
def ig : Inn → Int → Option (List Ord)
  | [], _ => none
  | e :: A, p => if p = e.1 then some e.2 else ig A p
theorem ob_find : ∀ (O : Outr) (p : Int), mfind (ob O) (.int .i64 p) = (og O p).map fun k => .map (k + 1 + 1)
  | [], _ => rfl
  | e :: O, p => by
    have h : kd IntKind.i64 IntKind.i64 = true := rfl
    simp only [ob, List.map_cons, mfind, keq, h, Bool.true_and, og]
    by_cases c : p = e.1
    · rw [if_pos c, c, beq_self_eq_true]; rfl
    · have : (p == e.1) = false := by simpa using c
      rw [if_neg c, this]; exact ob_find O p
theorem fb_find : ∀ (A : Inn) (p : Int), mfind (fb A) (.int .i64 p) = (ig A p).map fun L => .vsl 4 (orows L) false
  | [], _ => rfl
  | e :: A, p => by
    have h : kd IntKind.i64 IntKind.i64 = true := rfl
    simp only [fb, List.map_cons, mfind, keq, h, Bool.true_and, ig]
    by_cases c : p = e.1
    · rw [if_pos c, c, beq_self_eq_true]; rfl
    · have : (p == e.1) = false := by simpa using c
      rw [if_neg c, this]; exact fb_find A p
theorem ob_ok (O : Outr) (v : Int) : keysOk (ob O) (.int .i64 v) := by
  induction O with
  | nil => trivial
  | cons p O ih => exact ⟨rfl, ih⟩
theorem fb_ok (A : Inn) (v : Int) : keysOk (fb A) (.int .i64 v) := by
  induction A with
  | nil => trivial
  | cons p A ih => exact ⟨rfl, ih⟩
attribute [go_sem] ob_ok fb_ok isKey
theorem fam_get {F : List Inn} {k : Nat} {A : Inn} (h : F[k]? = some A) : mg (fam F) k = .map (fb A) := by
  induction F generalizing k with
  | nil => simp at h
  | cons B F ih =>
    cases k with
    | zero => simp at h; subst h; rfl
    | succ k => simp at h; exact ih h
theorem fam_set {F : List Inn} {k : Nat} {A : Inn} : ms (fam F) k (.map (fb A)) = fam (F.set k A) := by
  induction F generalizing k with
  | nil => rfl
  | cons B F ih =>
    cases k with
    | zero => rfl
    | succ k => simp only [fam, List.map_cons, ms, List.set_cons_succ] at ih ⊢; rw [ih]
theorem fam_new (F : List Inn) : fam F ++ [.map []] = fam (F ++ [[]]) := by simp [fam, fb]
theorem ob_ids {n : Nat} : ∀ (O : Outr), (∀ e ∈ O, e.2 + 1 + 1 < n) → idsP n (ob O) = true
  | [], _ => rfl
  | e :: O, h => by
    have h1 := h e (by simp)
    have ih := ob_ids O fun x hx => h x (by simp [hx])
    unfold ob at ih
    simp only [ob, List.map_cons, idsP, ids, ih, Bool.and_true, Bool.true_and]
    simpa using h1
theorem next_spec (nx : Int) (O : Outr) (F : List Inn) : Tri Try.prog 15 [.pbox 0 0] (tM nx O F) (fun v m => v = .int .i64 nx ∧ m = tM nx O F) := by
  refine Tri.post ?_
  refine (Tri.enter (rl := r15) (code := c15) (by kernel_rfl) Try.func15 rfl c15_ok (by kernel_rfl) (by kernel_rfl) ?_)
  refine run_ok 4000 _ _ _ _ ?_
  simp (maxSteps := 10000000) only [go_sem, c15, r15]
  exact ⟨_, _, .done, rfl, rfl⟩
theorem given_none (nx : Int) (O : Outr) (F : List Inn) (p : Int) (h : og O p = none) (hn : -1000000 ≤ nx ∧ nx ≤ 1000000) : Tri Try.prog 11 [.pbox 0 0, .int .i64 p] (tM nx O F) (fun v m => v = .int .i64 nx ∧ m = tM nx O F) := by
  refine Tri.post ?_
  have hf := ob_find O p
  rw [h] at hf
  have w : iwrap .i64 (nx + 0) = nx := by rw [iwrap_i64_in (by omega)]; omega
  skip
  refine (Tri.enter (rl := r11) (code := c11) (by kernel_rfl) Try.func11 rfl c11_ok (by kernel_rfl) (by kernel_rfl) ?_)
  refine run_ok 4000 _ _ _ _ ?_
  simp (maxSteps := 10000000) only [go_sem, c11, r11, hf, Option.map_none, w]
  refine sem_drawG l11_0_ok (by kernel_rfl) ?_
  intro KK hKK
  simp (maxSteps := 10000000) only [go_sem, l11_0, hf, Option.map_none, w]
  subst hKK
  simp (maxSteps := 10000000) only [go_sem, hf, Option.map_none, w]
  exact ⟨_, _, .done, rfl, rfl⟩
theorem fb_len (A : Inn) : (fb A).length = A.length := by simp [fb]
theorem given_some (nx : Int) (O : Outr) (F : List Inn) (p : Int) (k : Nat) (A : Inn) (h : og O p = some k) (hF : F[k]? = some A) (hn : -1000000 ≤ nx ∧ nx ≤ 1000000) (hA : A.length ≤ 1000000) :
    Tri Try.prog 11 [.pbox 0 0, .int .i64 p] (tM nx O F) (fun v m => v = .int .i64 (nx + A.length) ∧ m = tM nx O F) := by
  refine Tri.post ?_
  have hf := ob_find O p
  rw [h] at hf
  have hg := fam_get hF
  have w : iwrap .i64 (nx + A.length) = nx + A.length := iwrap_i64_in (by omega)
  skip
  refine (Tri.enter (rl := r11) (code := c11) (by kernel_rfl) Try.func11 rfl c11_ok (by kernel_rfl) (by kernel_rfl) ?_)
  refine run_ok 4000 _ _ _ _ ?_
  simp (maxSteps := 10000000) only [go_sem, c11, r11, hf, Option.map_some, w, hg, fb_len]
  refine sem_drawG l11_0_ok (by kernel_rfl) ?_
  intro KK hKK
  simp (maxSteps := 10000000) only [go_sem, l11_0, hf, Option.map_some, w, hg, fb_len]
  subst hKK
  simp (maxSteps := 10000000) only [go_sem, hf, Option.map_some, w, hg, fb_len]
  exact ⟨_, _, .done, rfl, rfl⟩
theorem has_none (nx : Int) (O : Outr) (F : List Inn) (p : Int) (h : og O p = none) : Tri Try.prog 104 [.pbox 0 0, .int .i64 p] (tM nx O F) (fun v m => v = .bsym false ∧ m = tM nx O F) := by
  refine Tri.post ?_
  have hf := ob_find O p
  rw [h] at hf
  skip
  refine (Tri.enter (rl := r104) (code := c104) (by kernel_rfl) Try.func104 rfl c104_ok (by kernel_rfl) (by kernel_rfl) ?_)
  refine run_ok 4000 _ _ _ _ ?_
  simp (maxSteps := 10000000) only [go_sem, c104, r104, hf, Option.map_none]
  refine sem_drawG l104_0_ok (by kernel_rfl) ?_
  intro KK hKK
  simp (maxSteps := 10000000) only [go_sem, l104_0, hf, Option.map_none]
  subst hKK
  simp (maxSteps := 10000000) only [go_sem, hf, Option.map_none]
  exact ⟨_, _, .done, rfl, rfl⟩
theorem has_some (nx : Int) (O : Outr) (F : List Inn) (p : Int) (k : Nat) (A : Inn) (h : og O p = some k) (hF : F[k]? = some A) :
    Tri Try.prog 104 [.pbox 0 0, .int .i64 p] (tM nx O F) (fun v m => v = .bsym (ig A nx).isSome ∧ m = tM nx O F) := by
  refine Tri.post ?_
  have hf := ob_find O p
  rw [h] at hf
  have hg := fam_get hF
  have hi := fb_find A nx
  cases hA : ig A nx with
  | none =>
    rw [hA] at hi
    skip
    refine (Tri.enter (rl := r104) (code := c104) (by kernel_rfl) Try.func104 rfl c104_ok (by kernel_rfl) (by kernel_rfl) ?_)
    refine run_ok 4000 _ _ _ _ ?_
    simp (maxSteps := 10000000) only [go_sem, c104, r104, hf, Option.map_some, hg, hi, Option.map_none, Option.isSome_none]
    refine sem_drawG l104_0_ok (by kernel_rfl) ?_
    intro KK hKK
    simp (maxSteps := 10000000) only [go_sem, l104_0, hf, Option.map_some, hg, hi, Option.map_none, Option.isSome_none]
    subst hKK
    simp (maxSteps := 10000000) only [go_sem, hf, Option.map_some, hg, hi, Option.map_none, Option.isSome_none]
    exact ⟨_, _, .done, rfl, rfl⟩
  | some L =>
    rw [hA] at hi
    skip
    refine (Tri.enter (rl := r104) (code := c104) (by kernel_rfl) Try.func104 rfl c104_ok (by kernel_rfl) (by kernel_rfl) ?_)
    refine run_ok 4000 _ _ _ _ ?_
    simp (maxSteps := 10000000) only [go_sem, c104, r104, hf, Option.map_some, hg, hi, Option.isSome_some]
    refine sem_drawG l104_0_ok (by kernel_rfl) ?_
    intro KK hKK
    simp (maxSteps := 10000000) only [go_sem, l104_0, hf, Option.map_some, hg, hi, Option.isSome_some]
    subst hKK
    simp (maxSteps := 10000000) only [go_sem, hf, Option.map_some, hg, hi, Option.isSome_some]
    exact ⟨_, _, .done, rfl, rfl⟩
theorem tnew_spec (nx : Int) : Tri Try.prog 8 [.int .i64 nx] [] (fun v m => v = .pbox 0 0 ∧ m = tM nx [] []) := by
  refine Tri.post ?_
  refine (Tri.enter (rl := r8) (code := c8) (by kernel_rfl) Try.func8 rfl c8_ok (by kernel_rfl) (by kernel_rfl) ?_)
  refine run_ok 4000 _ _ _ _ ?_
  simp (maxSteps := 10000000) only [go_sem, c8, r8]
  refine ⟨_, _, .sub [1, 0] ?_ .done, rfl, rfl⟩
  simp only [EmbV, go_sem, ob, fam, List.map_nil]
theorem ob_set : ∀ (O : Outr) (v : Int) (k : Nat), og O v = none → mset (ob O) (.int .i64 v) (.map (k + 1 + 1)) = ob (O ++ [(v, k)])
  | [], v, k, _ => rfl
  | e :: O, v, k, h => by
    have h0 : kd IntKind.i64 IntKind.i64 = true := rfl
    simp only [og] at h
    by_cases c : v = e.1
    · rw [if_pos c] at h; cases h
    · rw [if_neg c] at h
      have : (v == e.1) = false := by simpa using c
      simp only [ob, List.map_cons, List.cons_append, mset, keq, h0, Bool.true_and, this, cond_false]
      have ih := ob_set O v k h
      unfold ob at ih
      rw [ih]
theorem fb_set : ∀ (A : Inn) (v : Int) (L : List Ord), ig A v = none → mset (fb A) (.int .i64 v) (.vsl 4 (orows L) false) = fb (A ++ [(v, L)])
  | [], v, k, _ => rfl
  | e :: A, v, L, h => by
    have h0 : kd IntKind.i64 IntKind.i64 = true := rfl
    simp only [ig] at h
    by_cases c : v = e.1
    · rw [if_pos c] at h; cases h
    · rw [if_neg c] at h
      have : (v == e.1) = false := by simpa using c
      simp only [fb, List.map_cons, List.cons_append, mset, keq, h0, Bool.true_and, this, cond_false]
      have ih := fb_set A v L h
      unfold fb at ih
      rw [ih]
theorem put_some (nx : Int) (O : Outr) (F : List Inn) (p : Int) (k : Nat) (A : Inn) (L : List Ord) (h : og O p = some k) (hF : F[k]? = some A) (hn : 0 ≤ nx ∧ nx ≤ 100000) (hA : A.length < 8) (hp : 0 ≤ p ∧ p < 32)
    (hL : L.length ≤ 8) (hok : ∀ o ∈ L, okO o) (hi : ig A (nx + A.length) = none) :
    Tri Try.prog 10 [.pbox 0 0, .int .i64 p, .int .i64 (nx + A.length), .vsl 4 (orows L) false] (tM nx O F) (fun v m => v = .int .i64 0 ∧ m = tM nx O (F.set k (A ++ [(nx + A.length, L)]))) := by
  refine Tri.post ?_
  have hf := ob_find O p
  rw [h] at hf
  have hg := fam_get hF
  have hgi := given_some nx O F p k A h hF (by omega) (by omega)
  have p1 : ¬ p < 0 := by omega
  have p2 : ¬ p ≥ 32 := by omega
  have t1 : ¬ nx + (A.length : Int) < nx + (A.length : Int) := by omega
  have t2 : ¬ nx + (A.length : Int) > nx + (A.length : Int) := by omega
  have w : iwrap .i64 (nx + 8) = nx + 8 := iwrap_i64_in (by omega)
  have t3 : ¬ nx + (A.length : Int) ≥ nx + 8 := by omega
  have hb := bcheck_spec L hL hok
  have hc := oclone_spec L hL
  have hs := fb_set A (nx + A.length) L hi
  have hfs := fam_set (F := F) (k := k) (A := A ++ [(nx + A.length, L)])
  skip
  refine (Tri.enter (rl := r10) (code := c10) (by kernel_rfl) Try.func10 rfl c10_ok (by kernel_rfl) (by kernel_rfl) ?_)
  refine run_ok 4000 _ _ _ _ ?_
  simp (maxSteps := 10000000) only [go_sem, c10, r10, hf, Option.map_some, hg, p1, p2, t1, t2, t3, w, hs, hfs]
  refine sem_call rfl rfl ((hgi).mono ?_)
  rintro _ _ ⟨rfl, rfl⟩
  refine run_ok 4000 _ _ _ _ ?_
  simp (maxSteps := 10000000) only [go_sem, hf, Option.map_some, hg, p1, p2, t1, t2, t3, w, hs, hfs]
  refine sem_call rfl rfl ((hgi).mono ?_)
  rintro _ _ ⟨rfl, rfl⟩
  refine run_ok 4000 _ _ _ _ ?_
  simp (maxSteps := 10000000) only [go_sem, hf, Option.map_some, hg, p1, p2, t1, t2, t3, w, hs, hfs]
  refine sem_call rfl rfl (((hb).embed [] rfl trivial rfl rfl rfl (by simp)).mono ?_)
  rintro _ _ ⟨_, _, ⟨rfl, rfl⟩, rfl, rfl⟩
  refine run_ok 4000 _ _ _ _ ?_
  simp (maxSteps := 10000000) only [go_sem, hf, Option.map_some, hg, p1, p2, t1, t2, t3, w, hs, hfs]
  refine sem_drawG l10_0_ok (by kernel_rfl) ?_
  intro KK hKK
  simp (maxSteps := 10000000) only [go_sem, l10_0, hf, Option.map_some, hg, p1, p2, t1, t2, t3, w, hs, hfs]
  refine TriZ.of (((hc).embed [] rfl (by repeat' first | exact trivial | rfl | (simp only [go_sem]; done) | constructor) rfl (by first | rfl | simp only [go_sem]) rfl (by simp)).mono ?_)
  rintro _ _ ⟨_, _, ⟨rfl, rfl⟩, rfl, rfl⟩
  simp (maxSteps := 10000000) only [go_sem, hf, Option.map_some, hg, p1, p2, t1, t2, t3, w, hs, hfs]
  subst hKK
  simp (maxSteps := 10000000) only [go_sem, hf, Option.map_some, hg, p1, p2, t1, t2, t3, w, hs, hfs]
  exact ⟨_, _, .done, rfl, rfl⟩
theorem og_new : ∀ (O : Outr) (p : Int) (k : Nat), og O p = none → og (O ++ [(p, k)]) p = some k
  | [], p, k, _ => by simp [og]
  | e :: O, p, k, h => by
    simp only [og, List.cons_append] at h ⊢
    by_cases c : p = e.1
    · rw [if_pos c] at h; cases h
    · rw [if_neg c] at h ⊢; exact og_new O p k h
theorem set_new (F : List Inn) (A : Inn) : (F ++ [([] : Inn)]).set F.length A = F ++ [A] := by simp
theorem fam_mg_app (F : List Inn) (x : Blk) : mg (fam F ++ [x]) (fam F).length = x := by
  generalize fam F = M
  induction M with
  | nil => rfl
  | cons a M ih => exact ih
theorem put_none (nx : Int) (O : Outr) (F : List Inn) (p : Int) (L : List Ord) (h : og O p = none) (hn : 0 ≤ nx ∧ nx ≤ 100000) (hp : 0 ≤ p ∧ p < 32)
    (hL : L.length ≤ 8) (hok : ∀ o ∈ L, okO o) :
    Tri Try.prog 10 [.pbox 0 0, .int .i64 p, .int .i64 nx, .vsl 4 (orows L) false] (tM nx O F) (fun v m => v = .int .i64 0 ∧ m = tM nx (O ++ [(p, F.length)]) (F ++ [[(nx, L)]])) := by
  refine Tri.post ?_
  have hf := ob_find O p
  rw [h] at hf
  have hgi := given_none nx O F p h (by omega)
  have p1 : ¬ p < 0 := by omega
  have p2 : ¬ p ≥ 32 := by omega
  have t1 : ¬ nx < nx := by omega
  have t2 : ¬ nx > nx := by omega
  have w : iwrap .i64 (nx + 8) = nx + 8 := iwrap_i64_in (by omega)
  have t3 : ¬ nx ≥ nx + 8 := by omega
  have hb := bcheck_spec L hL hok
  have hc := oclone_spec L hL
  have ho := ob_set O p F.length h
  have hsome := og_new O p F.length h
  have hf2 := ob_find (O ++ [(p, F.length)]) p
  rw [hsome] at hf2
  have hfn := fam_new F
  have hg := fam_get (F := F ++ [[]]) (k := F.length) (A := []) (by simp)
  have hs := fb_set [] nx L rfl
  have hfs := fam_set (F := F ++ [[]]) (k := F.length) (A := [(nx, L)])
  rw [List.nil_append] at hs
  rw [set_new] at hfs
  skip
  refine (Tri.enter (rl := r10) (code := c10) (by kernel_rfl) Try.func10 rfl c10_ok (by kernel_rfl) (by kernel_rfl) ?_)
  refine run_ok 4000 _ _ _ _ ?_
  simp (maxSteps := 10000000) only [go_sem, c10, r10, hf, Option.map_some, Option.map_none, p1, p2, t1, t2, t3, w, fam_len, ho, hfn, hf2, hg, hs, hfs]
  refine sem_call rfl rfl ((hgi).mono ?_)
  rintro _ _ ⟨rfl, rfl⟩
  refine run_ok 4000 _ _ _ _ ?_
  simp (maxSteps := 10000000) only [go_sem, hf, Option.map_some, Option.map_none, p1, p2, t1, t2, t3, w, fam_len, ho, hfn, hf2, hg, hs, hfs]
  refine sem_call rfl rfl ((hgi).mono ?_)
  rintro _ _ ⟨rfl, rfl⟩
  refine run_ok 4000 _ _ _ _ ?_
  simp (maxSteps := 10000000) only [go_sem, hf, Option.map_some, Option.map_none, p1, p2, t1, t2, t3, w, fam_len, ho, hfn, hf2, hg, hs, hfs]
  refine sem_call rfl rfl (((hb).embed [] rfl trivial rfl rfl rfl (by simp)).mono ?_)
  rintro _ _ ⟨_, _, ⟨rfl, rfl⟩, rfl, rfl⟩
  refine run_ok 4000 _ _ _ _ ?_
  simp (maxSteps := 10000000) only [go_sem, hf, Option.map_some, Option.map_none, p1, p2, t1, t2, t3, w, fam_len, ho, hfn, hf2, hg, hs, hfs]
  refine sem_drawG l10_0_ok (by kernel_rfl) ?_
  intro KK hKK
  simp (maxSteps := 10000000) only [go_sem, l10_0, hf, Option.map_some, Option.map_none, p1, p2, t1, t2, t3, w, fam_len, ho, hfn, hf2, hg, hs, hfs]
  refine TriZ.of (((hc).embed [] rfl (by repeat' first | exact trivial | rfl | (simp only [go_sem]; done) | constructor) rfl (by first | rfl | simp only [go_sem]) rfl (by simp)).mono ?_)
  rintro _ _ ⟨_, _, ⟨rfl, rfl⟩, rfl, rfl⟩
  simp (maxSteps := 10000000) only [go_sem, hf, Option.map_some, Option.map_none, p1, p2, t1, t2, t3, w, fam_len, ho, hfn, hf2, hg, hs, hfs]
  subst hKK
  simp (maxSteps := 10000000) only [go_sem, hf, Option.map_some, Option.map_none, p1, p2, t1, t2, t3, w, fam_len, ho, hfn, hf2, hg, hs, hfs]
  exact ⟨_, _, .done, rfl, rfl⟩
def OkO (O : Outr) (F : List Inn) : Prop := ∀ e ∈ O, e.2 < F.length
theorem orows_ids (n : Nat) (L : List Ord) : ids n (.vsl 4 (orows L) false) = true := by
  simp only [go_sem, orows, orow]
theorem tM_len (nx : Int) (O : Outr) (F : List Inn) : (tM nx O F).length = F.length + 1 + 1 := by simp [fam]
theorem fb_ids (n : Nat) : ∀ (A : Inn), idsP n (fb A) = true
  | [] => rfl
  | e :: A => by
    have ih := fb_ids n A
    unfold fb at ih
    simp only [fb, List.map_cons, idsP, ih, Bool.and_true, orows_ids, Bool.true_and]
    rfl
theorem fam_ids (n : Nat) : ∀ (F : List Inn), idsM n (fam F) = true
  | [] => rfl
  | A :: F => by
    have ih := fam_ids n F
    unfold fam at ih
    simp only [fam, List.map_cons, idsM, ih, Bool.and_true, idsB, fb_ids]
theorem tM_ids (nx : Int) (O : Outr) (F : List Inn) (h : OkO O F) (n : Nat) (hn : F.length + 1 + 1 ≤ n) : idsM n (tM nx O F) = true := by
  have h1 := ob_ids (n := n) O fun e he => by have := h e he; omega
  have h2 := fam_ids n F
  simp only [tM, idsM, idsB, h1, h2, Bool.and_true, idss, ids, Bool.true_and]
  simp; omega
theorem tM_gone (nx : Int) (O : Outr) (F : List Inn) : ∀ k ∈ tM nx O F, k ≠ .gone := by
  intro k hk
  simp only [tM, fam, List.mem_cons, List.mem_map] at hk
  rcases hk with rfl | rfl | ⟨A, _, rfl⟩ <;> simp
theorem fam_row (F : List Inn) (x : Blk) : mg (fam F ++ [x]) F.length = x := by
  have := fam_mg_app F x
  rwa [fam_len] at this
theorem idsM_app (n : Nat) : ∀ (a b : Mem), idsM n (a ++ b) = (idsM n a && idsM n b)
  | [], b => by simp [idsM]
  | x :: a, b => by simp only [List.cons_append, idsM, idsM_app n a b, Bool.and_assoc]
theorem iv_rowids (n : Nat) (l : List Int) : idsM n [Blk.row 1 (iv .i64 l)] = true := by simp only [go_sem]
theorem tR_ids (nx : Int) (O : Outr) (F : List Inn) (h : OkO O F) (l : List Int) : idsM (tM nx O F ++ [Blk.row 1 (iv .i64 l)]).length (tM nx O F ++ [Blk.row 1 (iv .i64 l)]) = true := by
  rw [idsM_app, tM_ids nx O F h _ (by simp [fam]), iv_rowids]; rfl
theorem idx_spec (nx : Int) (O : Outr) (F : List Inn) (hO : OkO O F) (hs : Int → Bool) (hH : ∀ x : Int, Tri Try.prog 104 [.pbox 0 0, .int .i64 x] (tM nx O F) fun v m => v = .bsym (hs x) ∧ m = tM nx O F)
    (l : List Int) (hl : l.length ≤ 100000) :
    Tri Try.prog 128 [.sl (F.length + 1 + 1) 0 l.length l.length false, .fn 104 [.pbox 0 0] []] (tM nx O F ++ [.row 1 (iv .i64 l)])
      (fun v m => v = .int .i64 (match l.findIdx? hs with | some i => (i : Int) | none => -1) ∧ m = tM nx O F ++ [.row 1 (iv .i64 l)]) := by
  refine Tri.post ?_
  have hrow := fam_row F (.row 1 (iv .i64 l))
  skip
  refine (Tri.enter (rl := r128) (code := c128) (by kernel_rfl) Try.func128 rfl c128_ok (by kernel_rfl) (by kernel_rfl) ?_)
  refine run_ok 4000 _ _ _ _ ?_
  simp (maxSteps := 10000000) only [go_sem, c128, r128, hrow]
  refine sem_rounds0 (fun i : Nat => i ≤ l.length ∧ ∀ j (h : j < l.length), j < i → hs l[j] = false)
    (fun i => [(0, .sl (F.length + 1 + 1) 0 l.length l.length false), (1, .fn 104 [.pbox 0 0] []), (7, .int .i64 l.length), (8, .int .i64 (i : Nat))])
    (fun i => l.length - i) 0 ?_ ?_ ?_ ⟨Nat.zero_le _, fun _ _ h => by omega⟩ ?_ ?_
  · exact tR_ids nx O F hO l
  · exact Nat.le_refl _
  · intro i _
    simp [go_sem, idsT, ids, idss, fam_len]
  · simp [go_sem]
  rintro i ⟨hi, hj⟩
  by_cases c : i < l.length
  · have hin : (i : Int) < (l.length : Int) := by omega
    have w1 := inc64 (show i < 1000000000000 by omega)
    have r0 := iv_rint (k := .i64) c
    have h0 := iv_hasI (k := .i64) c
    have hc := (hH l[i]).front [.row 1 (iv .i64 l)] rfl (tM_ids nx O F hO _ (by rw [tM_len]; exact Nat.le_refl _)) (tM_gone _ _ _) rfl (tM_ids nx O F hO _ (by rw [tM_len]; exact Nat.le_refl _)) rfl
    generalize hx : l[i] = x at *
    skip
    refine run_ok 4000 _ _ _ _ ?_
    simp (maxSteps := 10000000) only [go_sem, hrow, hin, w1, r0, h0, Int.natCast_nonneg, iv_len]
    refine sem_callv rfl rfl rfl (hc.mono ?_)
    rintro _ _ ⟨rfl, rfl⟩
    cases hx2 : hs x with
    | true =>
      refine run_ok 4000 _ _ _ _ ?_
      simp (maxSteps := 10000000) only [go_sem, hrow, hin, w1, r0, h0, Int.natCast_nonneg, iv_len]
      have e : l.findIdx? hs = some i := by
        rw [List.findIdx?_eq_some_iff_getElem]
        exact ⟨c, by rw [hx]; exact hx2, fun j hji => by rw [hj j (by omega) hji]; simp⟩
      rw [e]
      exact ⟨_, _, .done, rfl, rfl⟩
    | false =>
      refine run_ok 4000 _ _ _ _ ?_
      simp (maxSteps := 10000000) only [go_sem, hrow, hin, w1, r0, h0, Int.natCast_nonneg, iv_len]
      refine ⟨i + 1, by omega, ⟨c, fun j h hji => ?_⟩, ?_, [], ?_⟩
      · by_cases e : j = i
        · subst e; rw [hx]; exact hx2
        · exact hj j h (by omega)
      · simp [go_sem]
      · simp
  · have hin : ¬ (i : Int) < (l.length : Int) := by omega
    have e : l.findIdx? hs = none := by
      rw [List.findIdx?_eq_none_iff]
      intro x hx
      obtain ⟨j, hj2, rfl⟩ := List.getElem_of_mem hx
      exact hj j hj2 (by omega)
    rw [e]
    skip
    refine run_ok 4000 _ _ _ _ ?_
    simp (maxSteps := 10000000) only [go_sem, hin]
    refine run_ok 4000 _ _ _ _ ?_
    simp (maxSteps := 10000000) only [go_sem, hin]
    exact ⟨_, _, .done, rfl, rfl⟩
theorem fam_rowset (F : List Inn) (x y : Blk) : ms (fam F ++ [x]) F.length y = fam F ++ [y] := by
  have := ms_pre (fam F) x y []
  rwa [fam_len] at this
theorem iv_put {W : List Int} {k : Nat} (h : k < W.length) (x : Int) : rput (iv .i64 W) k 0 [.int .i64 x] = iv .i64 (W.set k x) := by
  unfold rput iv
  refine List.ext_getElem (by simp) fun j h1 h2 => ?_
  simp only [List.getElem_modify, List.getElem_map, List.getElem_set]
  by_cases c : k = j
  · rw [if_pos c, if_pos c]; rfl
  · rw [if_neg c, if_neg c]
theorem iv_inR {W : List Int} {k : Nat} (h : k < W.length) : inR (iv .i64 W) k 0 1 := by
  simp [inR, iv, List.getD_eq_getElem?_getD, h]
def kept (hs : Int → Bool) (l : List Int) (j : Nat) : List Int := (l.take j).filter fun x => !hs x
structure DOk (hs : Int → Bool) (l : List Int) (j : Nat) (W : List Int) : Prop where
  len : W.length = l.length
  front : W.take (kept hs l j).length = kept hs l j
  back : W.drop j = l.drop j
  lt : (kept hs l j).length < j
  le : j ≤ l.length
theorem kept_succ {hs : Int → Bool} {l : List Int} {j : Nat} (h : j < l.length) : kept hs l (j + 1) = kept hs l j ++ if hs l[j] = true then [] else [l[j]] := by
  unfold kept
  rw [List.take_succ_eq_append_getElem h, List.filter_append, List.filter_cons, List.filter_nil]
  cases hs l[j] <;> rfl
theorem DOk.get {hs : Int → Bool} {l : List Int} {j : Nat} {W : List Int} (h : DOk hs l j W) (hj : j < l.length) : ∃ h2 : j < W.length, W[j] = l[j] := by
  refine ⟨by rw [h.len]; exact hj, ?_⟩
  have e := congrArg (fun t => t[0]?) h.back
  simp only [List.getElem?_drop, Nat.add_zero] at e
  rw [List.getElem?_eq_getElem hj, List.getElem?_eq_getElem (by rw [h.len]; exact hj)] at e
  exact Option.some.inj e
theorem DOk.skip {hs : Int → Bool} {l : List Int} {j : Nat} {W : List Int} (h : DOk hs l j W) (hj : j < l.length) (hx : hs l[j] = true) : DOk hs l (j + 1) W ∧ kept hs l (j + 1) = kept hs l j := by
  have e : kept hs l (j + 1) = kept hs l j := by rw [kept_succ hj, if_pos hx, List.append_nil]
  refine ⟨⟨h.len, by rw [e]; exact h.front, ?_, by rw [e]; have := h.lt; omega, hj⟩, e⟩
  rw [← List.drop_drop, ← List.drop_drop, h.back]
theorem DOk.put {hs : Int → Bool} {l : List Int} {j : Nat} {W : List Int} (h : DOk hs l j W) (hj : j < l.length) (hx : hs l[j] = false) :
    DOk hs l (j + 1) (W.set (kept hs l j).length l[j]) ∧ (kept hs l (j + 1)).length = (kept hs l j).length + 1 := by
  have e : kept hs l (j + 1) = kept hs l j ++ [l[j]] := by rw [kept_succ hj, if_neg (by rw [hx]; simp)]
  have hl : (kept hs l (j + 1)).length = (kept hs l j).length + 1 := by rw [e]; simp
  have hlt := h.lt
  have hlw : (kept hs l j).length < W.length := by rw [h.len]; omega
  refine ⟨⟨by rw [List.length_set]; exact h.len, ?_, ?_, by rw [hl]; omega, hj⟩, hl⟩
  · rw [hl, e, List.take_succ_eq_append_getElem (by rw [List.length_set]; exact hlw), List.getElem_set_self, List.take_set_of_le (Nat.le_refl _), h.front]
  · rw [List.drop_set_of_lt (by omega), ← List.drop_drop, ← List.drop_drop, h.back]
theorem DOk.begin {hs : Int → Bool} {l : List Int} {i : Nat} (h : l.findIdx? hs = some i) : DOk hs l (i + 1) l ∧ (kept hs l (i + 1)).length = i := by
  rw [List.findIdx?_eq_some_iff_getElem] at h
  obtain ⟨hi, hx, hb⟩ := h
  have e0 : kept hs l i = l.take i := by
    unfold kept
    rw [List.filter_eq_self]
    intro x hx
    obtain ⟨j, hj, rfl⟩ := List.getElem_of_mem hx
    rw [List.length_take] at hj
    rw [List.getElem_take]
    have := hb j (by omega)
    simpa using this
  have e : kept hs l (i + 1) = l.take i := by rw [kept_succ hi, if_pos hx, List.append_nil, e0]
  have hl : (kept hs l (i + 1)).length = i := by rw [e, List.length_take]; omega
  exact ⟨⟨rfl, by rw [hl, e], rfl, by rw [hl]; omega, hi⟩, hl⟩
theorem del_fn (nx : Int) (O : Outr) (F : List Inn) (hO : OkO O F) (hs : Int → Bool) (hH : ∀ x : Int, Tri Try.prog 104 [.pbox 0 0, .int .i64 x] (tM nx O F) fun v m => v = .bsym (hs x) ∧ m = tM nx O F)
    (l : List Int) (hl : l.length ≤ 100000) :
    Tri Try.prog 102 [.sl (F.length + 1 + 1) 0 l.length l.length false, .fn 104 [.pbox 0 0] []] (tM nx O F ++ [.row 1 (iv .i64 l)])
      (fun v m => ∃ W : List Int, W.take (kept hs l l.length).length = kept hs l l.length ∧ W.length = l.length ∧ v = .sl (F.length + 1 + 1) 0 (kept hs l l.length).length l.length false ∧ m = tM nx O F ++ [.row 1 (iv .i64 W)]) := by
  refine Tri.post ?_
  have hi := idx_spec nx O F hO hs hH l hl
  have hrow := fam_row F (.row 1 (iv .i64 l))
  cases hf : l.findIdx? hs with
  | none =>
    rw [hf] at hi
    skip
    refine (Tri.enter (rl := r102) (code := c102) (by kernel_rfl) Try.func102 rfl c102_ok (by kernel_rfl) (by kernel_rfl) ?_)
    refine run_ok 4000 _ _ _ _ ?_
    simp (maxSteps := 10000000) only [go_sem, c102, r102, hrow]
    refine sem_call rfl rfl ((hi).mono ?_)
    rintro _ _ ⟨rfl, rfl⟩
    refine run_ok 4000 _ _ _ _ ?_
    simp (maxSteps := 10000000) only [go_sem, hrow]
    have e : kept hs l l.length = l := by
      unfold kept
      rw [List.take_length, List.filter_eq_self]
      intro x hx
      rw [List.findIdx?_eq_none_iff] at hf
      have := hf x hx
      simp [this]
    rw [e]
    exact ⟨_, _, .done, l, List.take_length, rfl, rfl, rfl⟩
  | some i =>
    rw [hf] at hi
    obtain ⟨hd0, hk0⟩ := DOk.begin hf
    have hne : ((i : Int) == -1) = false := by simp
    have w0 := inc64 (show i < 1000000000000 by have := hd0.le; omega)
    skip
    refine (Tri.enter (rl := r102) (code := c102) (by kernel_rfl) Try.func102 rfl c102_ok (by kernel_rfl) (by kernel_rfl) ?_)
    refine run_ok 4000 _ _ _ _ ?_
    simp (maxSteps := 10000000) only [go_sem, c102, r102, hrow, hne, w0]
    refine sem_call rfl rfl ((hi).mono ?_)
    rintro _ _ ⟨rfl, rfl⟩
    refine run_ok 4000 _ _ _ _ ?_
    simp (maxSteps := 10000000) only [go_sem, hrow, hne, w0]
    refine sem_roundsJ (fun x : Nat × List Int => DOk hs l x.1 x.2)
      (fun x => [(0, .sl (F.length + 1 + 1) 0 l.length l.length false), (1, .fn 104 [.pbox 0 0] []), (5, .int .i64 (kept hs l x.1).length), (6, .int .i64 (x.1 : Nat))])
      (fun x => tM nx O F ++ [.row 1 (iv .i64 x.2)]) (fun x => l.length - x.1) (i + 1, l) ?_ ?_ ?_ hd0 ?_ ?_
    · intro x _; exact tR_ids nx O F hO x.2
    · intro x _; simp [fam]
    · intro x _; simp [go_sem, idsT, ids, idss, fam_len]
    · simp [go_sem, hk0]
    rintro ⟨j, W⟩ hd
    simp only at hd ⊢
    have hrow := fam_row F (.row 1 (iv .i64 W))
    by_cases c : j < l.length
    · obtain ⟨hj2, hge⟩ := hd.get c
      have hin : (j : Int) < (l.length : Int) := by omega
      have w1 := inc64 (show j < 1000000000000 by omega)
      have r0 := iv_rint (k := .i64) hj2
      have h0 := iv_hasI (k := .i64) hj2
      rw [hge] at r0
      have hc := (hH l[j]).front [.row 1 (iv .i64 W)] rfl (tM_ids nx O F hO _ (by rw [tM_len]; exact Nat.le_refl _)) (tM_gone _ _ _) rfl (tM_ids nx O F hO _ (by rw [tM_len]; exact Nat.le_refl _)) rfl
      cases hx : hs l[j] with
      | true =>
        obtain ⟨d, e⟩ := hd.skip c hx
        rw [hx] at hc
        generalize l[j] = x at *
        generalize kept hs l j = K at *
        skip
        refine run_ok 4000 _ _ _ _ ?_
        simp (maxSteps := 10000000) only [go_sem, hrow, hin, w1, r0, h0, Int.natCast_nonneg, iv_len]
        refine sem_callv rfl rfl rfl (hc.mono ?_)
        rintro _ _ ⟨rfl, rfl⟩
        refine run_ok 4000 _ _ _ _ ?_
        simp (maxSteps := 10000000) only [go_sem, hrow, hin, w1, r0, h0, Int.natCast_nonneg, iv_len]
        refine ⟨(j + 1, W), by simp only; omega, d, ?_, [], ?_⟩
        · simp [go_sem, e]
        · simp
      | false =>
        obtain ⟨d, e⟩ := hd.put c hx
        rw [hx] at hc
        have hlt := hd.lt
        have hle : (kept hs l j).length < W.length := by rw [hd.len]; omega
        have hp := iv_put hle l[j]
        have hi2 := iv_inR hle
        have hfs := fam_rowset F (.row 1 (iv .i64 W)) (.row 1 (iv .i64 (W.set (kept hs l j).length l[j])))
        have w2 := inc64 (show (kept hs l j).length < 1000000000000 by omega)
        have hin2 : ((kept hs l j).length : Int) < (l.length : Int) := by omega
        generalize W.set (kept hs l j).length l[j] = W' at *
        generalize l[j] = x at *
        generalize kept hs l j = K at *
        skip
        refine run_ok 4000 _ _ _ _ ?_
        simp (maxSteps := 10000000) only [go_sem, hrow, hin, hin2, w1, w2, r0, h0, Int.natCast_nonneg, iv_len, hp, hi2, hfs]
        refine sem_callv rfl rfl rfl (hc.mono ?_)
        rintro _ _ ⟨rfl, rfl⟩
        refine run_ok 4000 _ _ _ _ ?_
        simp (maxSteps := 10000000) only [go_sem, hrow, hin, hin2, w1, w2, r0, h0, Int.natCast_nonneg, iv_len, hp, hi2, hfs]
        refine ⟨(j + 1, W'), by simp only; omega, d, ?_, [], ?_⟩
        · simp [go_sem, e]
        · simp
    · have hin : ¬ (j : Int) < (l.length : Int) := by omega
      obtain rfl : j = l.length := by have := hd.le; omega
      have hlt := hd.lt
      have hle : ((kept hs l l.length).length : Int) ≤ (l.length : Int) := by omega
      have hfr := hd.front
      have hln := hd.len
      generalize kept hs l l.length = K at *
      have hX : (iv .i64 W).take K.length ++ List.replicate (l.length - K.length) [AV.int .i64 0] ++ (iv .i64 W).drop (K.length + (l.length - K.length)) = iv .i64 (W.take K.length ++ List.replicate (l.length - K.length) 0 ++ W.drop (K.length + (l.length - K.length))) := by
        simp [iv, List.map_take, List.map_drop]
      have hb : K.length + (l.length - K.length) ≤ W.length := by omega
      have hX2 : (W.take K.length ++ List.replicate (l.length - K.length) 0 ++ W.drop (K.length + (l.length - K.length))).length = l.length := by
        simp; omega
      have hX3 : (W.take K.length ++ List.replicate (l.length - K.length) 0 ++ W.drop (K.length + (l.length - K.length))).take K.length = K := by
        rw [hfr, List.append_assoc, List.take_left']; rfl
      generalize W.take K.length ++ List.replicate (l.length - K.length) 0 ++ W.drop (K.length + (l.length - K.length)) = W2 at *
      have hfs := fam_rowset F (.row 1 (iv .i64 W)) (.row 1 (iv .i64 W2))
      have hrow2 := fam_row F (.row 1 (iv .i64 W2))
      skip
      refine run_ok 4000 _ _ _ _ ?_
      simp (maxSteps := 10000000) only [go_sem, hrow, hin, hle, Int.natCast_nonneg, iv_len, Int.le_refl, Nat.le_refl, hX, hb, hfs, hrow2]
      refine run_ok 4000 _ _ _ _ ?_
      simp (maxSteps := 10000000) only [go_sem, hrow, hin, hle, Int.natCast_nonneg, iv_len, Int.le_refl, Nat.le_refl, hX, hb, hfs, hrow2]
      rw [Nat.sub_zero, Nat.sub_zero]
      exact ⟨_, _, .done, W2, hX3, hX2, rfl, rfl⟩
theorem ivx_all (l : List Int) : sub (iv .i64 l) 0 l.length = iv .i64 l := by simp [sub, iv, List.take_of_length_le]
theorem iclone_spec (L : List Int) (tight : Bool) (hL : L.length ≤ 100000) : Tri Try.prog 103 [.vsl 1 (iv .i64 L) tight] [] (fun v m => v = .sl 0 0 L.length L.length false ∧ m = [.row 1 (iv .i64 L)]) := by
  refine Tri.post ?_
  have hsm : small L.length := by unfold small; omega
  refine (Tri.enter (rl := r103) (code := c103) (by kernel_rfl) Try.func103 rfl c103_ok (by kernel_rfl) (by kernel_rfl) ?_)
  refine run_ok 4000 _ _ _ _ ?_
  simp (maxSteps := 10000000) only [go_sem, c103, r103]
  refine sem_eqn rfl rfl rfl fun b hb => ?_
  cases b with
  | false =>
    skip
    refine run_ok 4000 _ _ _ _ ?_
    simp (maxSteps := 10000000) only [go_sem, ivx_all, iv_len, hsm]
    refine ⟨_, _, .sub [0] ?_ .done, rfl, rfl⟩
    simp only [EmbV, go_sem]
  | true =>
    have h0 : L.length = 0 := by
      by_cases h : L.length = 0
      · exact h
      · exact absurd (hb (by rw [iv_len]; exact h)) (by simp)
    have : L = [] := List.length_eq_zero_iff.1 h0
    subst this
    skip
    refine run_ok 2 _ _ _ _ ?_
    simp (maxSteps := 10000000) only [go_sem, ivx_all, iv_len, hsm]
    skip
    refine sem_virt 2 1 rfl ?_
    refine run_ok 4000 _ _ _ _ ?_
    simp (maxSteps := 10000000) only [go_sem, ivx_all, iv_len, hsm]
    refine ⟨_, _, .sub [0] ?_ .done, rfl, rfl⟩
    simp only [EmbV, go_sem, iv, List.map_nil]
theorem embV_idl {k0 : Nat} {v : AV} {m : Mem} (ex : Mem) (hk : k0 ≤ m.length) (hv : ids m.length v = true) (hm : idsM m.length m = true) : EmbV k0 (idl m.length 0) v (m ++ ex) v m := by
  refine ⟨?_, (ren_idl hv).symm, ?_⟩
  · simp only [hv, hm, nodup_idl, fixed_idl k0 m.length 0 hk, below_idl m.length 0 (m ++ ex).length (by simp), Bool.and_self]
  · have := embM_idl (n := m.length) (N := (m ++ ex).length) (ex := ex) (pm := m) (pre := []) hm
    simpa using this
theorem fzM_fam (b sz : Nat) (xs : List (List AV)) : ∀ (F : List Inn), fzM b sz xs (fam F ++ [.gone]) = (True, fam F ++ [.gone])
  | [] => rfl
  | A :: F => by
    have ih := fzM_fam b sz xs F
    unfold fam at ih ⊢
    simp only [List.map_cons, List.cons_append, fzM, ih]
theorem fz_row (nx : Int) (O : Outr) (F : List Inn) (W : List Int) (k c : Nat) : fzB (F.length + 1 + 1) (.sl (F.length + 1 + 1) 0 k c false) (tM nx O F ++ [.row 1 (iv .i64 W)]) =
    some ((0 + k ≤ (iv .i64 W).length) ∧ ((True ∧ True ∧ True) ∧ True), .vsl 1 (sub (iv .i64 W) 0 k) false, tM nx O F ++ [.gone]) := by
  have hrow := fam_row F (.row 1 (iv .i64 W))
  have hfs := fam_rowset F (.row 1 (iv .i64 W)) .gone
  have hb : Nat.beq (F.length + 1 + 1) (F.length + 1 + 1) = true := Nat.beq_refl _
  simp only [fzB, tM, List.cons_append, mg, hrow, ms, hfs, fzM, fzM_fam, fzR, fzV, fzL, hb]
theorem missing_spec (nx : Int) (O : Outr) (F : List Inn) (hO : OkO O F) (hs : Int → Bool) (hH : ∀ x : Int, Tri Try.prog 104 [.pbox 0 0, .int .i64 x] (tM nx O F) fun v m => v = .bsym (hs x) ∧ m = tM nx O F)
    (l : List Int) (tight : Bool) (hl : l.length ≤ 100000) :
    Tri Try.prog 56 [.pbox 0 0, .vsl 1 (iv .i64 l) tight] (tM nx O F) (fun v m => v = .vsl 1 (iv .i64 (l.filter fun x => !hs x)) false ∧ m = tM nx O F) := by
  refine Tri.post ?_
  have hc := iclone_spec l tight hl
  have hd := del_fn nx O F hO hs hH l hl
  have hkl : kept hs l l.length = l.filter fun x => !hs x := by unfold kept; rw [List.take_length]
  rw [hkl] at hd
  skip
  refine (Tri.enter (rl := r56) (code := c56) (by kernel_rfl) Try.func56 rfl c56_ok (by kernel_rfl) (by kernel_rfl) ?_)
  refine run_ok 4000 _ _ _ _ ?_
  simp (maxSteps := 10000000) only [go_sem, c56, r56, fam_len]
  refine sem_call rfl rfl (((hc).embed [] rfl trivial rfl rfl rfl (by simp)).mono ?_)
  rintro _ _ ⟨_, _, ⟨rfl, rfl⟩, rfl, rfl⟩
  refine run_ok 4000 _ _ _ _ ?_
  simp (maxSteps := 10000000) only [go_sem, fam_len]
  refine sem_call rfl rfl (hd.mono ?_)
  rintro _ _ ⟨W, h1, h2, rfl, rfl⟩
  refine run_ok 4000 _ _ _ _ ?_
  simp (maxSteps := 10000000) only [go_sem, fam_len]
  have h3 : sub (iv .i64 W) 0 (l.filter fun x => !hs x).length = iv .i64 (l.filter fun x => !hs x) := by
    rw [iv_sub]; simp [h1]
  have hz := fz_row nx O F W (l.filter fun x => !hs x).length l.length
  rw [h3] at hz
  have hle : (l.filter fun x => !hs x).length ≤ l.length := List.length_filter_le _ _
  exact ⟨_, _, .fz (F.length + 1 + 1) hz ⟨by rw [iv_len, h2]; omega, ⟨trivial, trivial, trivial⟩, trivial⟩ (.sub (idl (tM nx O F).length 0) (embV_idl [.gone] (by rw [tM_len]; exact Nat.le_refl _) (by simp only [go_sem]) (tM_ids nx O F hO _ (by rw [tM_len]; exact Nat.le_refl _))) .done), rfl, rfl⟩
theorem take_no (nx : Int) (O : Outr) (F : List Inn) (hO : OkO O F) (hs : Int → Bool) (hH : ∀ x : Int, Tri Try.prog 104 [.pbox 0 0, .int .i64 x] (tM nx O F) fun v m => v = .bsym (hs x) ∧ m = tM nx O F)
    (l : List Int) (tight : Bool) (hl : l.length ≤ 100000) (hne : 0 < (l.filter fun x => !hs x).length) :
    Tri Try.prog 12 [.pbox 0 0, .vsl 1 (iv .i64 l) tight] (tM nx O F) (fun v m => v = .tup [.nilsl, .bool false] ∧ m = tM nx O F) := by
  refine Tri.post ?_
  have hm := missing_spec nx O F hO hs hH l tight hl
  have hg : ((l.filter fun x => !hs x).length : Int) > 0 := by omega
  skip
  refine (Tri.enter (rl := r12) (code := c12) (by kernel_rfl) Try.func12 rfl c12_ok (by kernel_rfl) (by kernel_rfl) ?_)
  refine run_ok 4000 _ _ _ _ ?_
  simp (maxSteps := 10000000) only [go_sem, c12, r12, hg, iv_len]
  refine sem_call rfl rfl ((hm).mono ?_)
  rintro _ _ ⟨rfl, rfl⟩
  refine run_ok 4000 _ _ _ _ ?_
  simp (maxSteps := 10000000) only [go_sem, hg, iv_len]
  exact ⟨_, _, .done, rfl, rfl⟩
end Go.AEX
