/- Batch tables: Missing. -/
import Derived.Test.YthdkobfafncpcaaBatE
namespace Go.AEX
open Go Go.AE Go.Proofs
set_option maxRecDepth 100000
set_option linter.unusedVariables false
set_option linter.unusedSimpArgs false

def OkO (O : Outr) (F : List Inn) : Prop := ∀ e ∈ O, e.2 < F.length
theorem orows_ids (n : Nat) (L : List Ord) : ids n (.vsl 4 (orows L) false) = true := by
  simp only [go_sem, orows, orow]
theorem tM_len (nx : Int) (O : Outr) (F : List Inn) : (tM nx O F).length = F.length + 1 + 1 := by simp [fam]
theorem fb_ids (n : Nat) : ∀ (A : Inn), idsP n (fb A) = true
  | [] => rfl
  | e :: A => by
    have ih := fb_ids n A
    unfold fb at ih
    simp only [fb, List.map_cons, idsP, ih, Bool.and_true, orows_ids, Bool.true_and]
    rfl
theorem fam_ids (n : Nat) : ∀ (F : List Inn), idsM n (fam F) = true
  | [] => rfl
  | A :: F => by
    have ih := fam_ids n F
    unfold fam at ih
    simp only [fam, List.map_cons, idsM, ih, Bool.and_true, idsB, fb_ids]
theorem tM_ids (nx : Int) (O : Outr) (F : List Inn) (h : OkO O F) (n : Nat) (hn : F.length + 1 + 1 ≤ n) : idsM n (tM nx O F) = true := by
  have h1 := ob_ids (n := n) O fun e he => by have := h e he; omega
  have h2 := fam_ids n F
  simp only [tM, idsM, idsB, h1, h2, Bool.and_true, idss, ids, Bool.true_and]
  simp; omega
theorem tM_gone (nx : Int) (O : Outr) (F : List Inn) : ∀ k ∈ tM nx O F, k ≠ .gone := by
  intro k hk
  simp only [tM, fam, List.mem_cons, List.mem_map] at hk
  rcases hk with rfl | rfl | ⟨A, _, rfl⟩ <;> simp
theorem fam_row (F : List Inn) (x : Blk) : mg (fam F ++ [x]) F.length = x := by
  have := fam_mg_app F x
  rwa [fam_len] at this
theorem idsM_app (n : Nat) : ∀ (a b : Mem), idsM n (a ++ b) = (idsM n a && idsM n b)
  | [], b => by simp [idsM]
  | x :: a, b => by simp only [List.cons_append, idsM, idsM_app n a b, Bool.and_assoc]
theorem iv_rowids (n : Nat) (l : List Int) : idsM n [Blk.row 1 (iv .i64 l)] = true := by simp only [go_sem]
theorem tR_ids (nx : Int) (O : Outr) (F : List Inn) (h : OkO O F) (l : List Int) : idsM (tM nx O F ++ [Blk.row 1 (iv .i64 l)]).length (tM nx O F ++ [Blk.row 1 (iv .i64 l)]) = true := by
  rw [idsM_app, tM_ids nx O F h _ (by simp [fam]), iv_rowids]; rfl
theorem idx_spec (nx : Int) (O : Outr) (F : List Inn) (hO : OkO O F) (hs : Int → Bool) (hH : ∀ x : Int, Tri Try.prog 14 [.pbox 0 0, .int .i64 x] (tM nx O F) fun v m => v = .bsym (hs x) ∧ m = tM nx O F)
    (l : List Int) (hl : l.length ≤ 100000) :
    Tri Try.prog 55 [.sl (F.length + 1 + 1) 0 l.length l.length false, .fn 14 [.pbox 0 0] []] (tM nx O F ++ [.row 1 (iv .i64 l)])
      (fun v m => v = .int .i64 (match l.findIdx? hs with | some i => (i : Int) | none => -1) ∧ m = tM nx O F ++ [.row 1 (iv .i64 l)]) := by
  refine Tri.post ?_
  have hrow := fam_row F (.row 1 (iv .i64 l))
  skip
  refine (Tri.enter (rl := r55) (code := c55) (by kernel_rfl) Try.func55 rfl c55_ok (by kernel_rfl) (by kernel_rfl) ?_)
  refine run_ok 4000 _ _ _ _ ?_
  simp (maxSteps := 10000000) only [go_sem, c55, r55, hrow]
  refine sem_rounds0 (fun i : Nat => i ≤ l.length ∧ ∀ j (h : j < l.length), j < i → hs l[j] = false)
    (fun i => [(0, .sl (F.length + 1 + 1) 0 l.length l.length false), (1, .fn 14 [.pbox 0 0] []), (7, .int .i64 l.length), (8, .int .i64 (i : Nat))])
    (fun i => l.length - i) 0 ?_ ?_ ?_ ⟨Nat.zero_le _, fun _ _ h => by omega⟩ ?_ ?_
  · exact tR_ids nx O F hO l
  · exact Nat.le_refl _
  · intro i _
    simp [go_sem, idsT, ids, idss, fam_len]
  · simp [go_sem]
  rintro i ⟨hi, hj⟩
  by_cases c : i < l.length
  · have hin : (i : Int) < (l.length : Int) := by omega
    have w1 := inc64 (show i < 1000000000000 by omega)
    have r0 := iv_rint (k := .i64) c
    have h0 := iv_hasI (k := .i64) c
    have hc := (hH l[i]).front [.row 1 (iv .i64 l)] rfl (tM_ids nx O F hO _ (by rw [tM_len]; exact Nat.le_refl _)) (tM_gone _ _ _) rfl (tM_ids nx O F hO _ (by rw [tM_len]; exact Nat.le_refl _)) rfl
    generalize hx : l[i] = x at *
    skip
    refine run_ok 4000 _ _ _ _ ?_
    simp (maxSteps := 10000000) only [go_sem, hrow, hin, w1, r0, h0, Int.natCast_nonneg, iv_len]
    refine sem_callv rfl rfl rfl (hc.mono ?_)
    rintro _ _ ⟨rfl, rfl⟩
    cases hx2 : hs x with
    | true =>
      refine run_ok 4000 _ _ _ _ ?_
      simp (maxSteps := 10000000) only [go_sem, hrow, hin, w1, r0, h0, Int.natCast_nonneg, iv_len]
      have e : l.findIdx? hs = some i := by
        rw [List.findIdx?_eq_some_iff_getElem]
        exact ⟨c, by rw [hx]; exact hx2, fun j hji => by rw [hj j (by omega) hji]; simp⟩
      rw [e]
      exact ⟨_, _, .done, rfl, rfl⟩
    | false =>
      refine run_ok 4000 _ _ _ _ ?_
      simp (maxSteps := 10000000) only [go_sem, hrow, hin, w1, r0, h0, Int.natCast_nonneg, iv_len]
      refine ⟨i + 1, by omega, ⟨c, fun j h hji => ?_⟩, ?_, [], ?_⟩
      · by_cases e : j = i
        · subst e; rw [hx]; exact hx2
        · exact hj j h (by omega)
      · simp [go_sem]
      · simp
  · have hin : ¬ (i : Int) < (l.length : Int) := by omega
    have e : l.findIdx? hs = none := by
      rw [List.findIdx?_eq_none_iff]
      intro x hx
      obtain ⟨j, hj2, rfl⟩ := List.getElem_of_mem hx
      exact hj j hj2 (by omega)
    rw [e]
    skip
    refine run_ok 4000 _ _ _ _ ?_
    simp (maxSteps := 10000000) only [go_sem, hin]
    refine run_ok 4000 _ _ _ _ ?_
    simp (maxSteps := 10000000) only [go_sem, hin]
    exact ⟨_, _, .done, rfl, rfl⟩
end Go.AEX
