/- Batch tables: Missing. -/
import Derived.Test.YthdkobfafncpcaaBatG
namespace Go.AEX
open Go Go.AE Go.Proofs
set_option maxRecDepth 100000
set_option linter.unusedVariables false
set_option linter.unusedSimpArgs false

theorem ivx_all (l : List Int) : sub (iv .i64 l) 0 l.length = iv .i64 l := by simp [sub, iv, List.take_of_length_le]
theorem iclone_spec (L : List Int) (tight : Bool) (hL : L.length ≤ 100000) : Tri Try.prog 43 [.vsl 1 (iv .i64 L) tight] [] (fun v m => v = .sl 0 0 L.length L.length false ∧ m = [.row 1 (iv .i64 L)]) := by
  refine Tri.post ?_
  have hsm : small L.length := by unfold small; omega
  refine (Tri.enter (rl := r43) (code := c43) (by kernel_rfl) Try.func43 rfl c43_ok (by kernel_rfl) (by kernel_rfl) ?_)
  refine run_ok 4000 _ _ _ _ ?_
  simp (maxSteps := 10000000) only [go_sem, c43, r43]
  refine sem_eqn rfl rfl rfl fun b hb => ?_
  cases b with
  | false =>
    skip
    refine run_ok 4000 _ _ _ _ ?_
    simp (maxSteps := 10000000) only [go_sem, ivx_all, iv_len, hsm]
    refine ⟨_, _, .sub [0] ?_ .done, rfl, rfl⟩
    simp only [EmbV, go_sem]
  | true =>
    have h0 : L.length = 0 := by
      by_cases h : L.length = 0
      · exact h
      · exact absurd (hb (by rw [iv_len]; exact h)) (by simp)
    have : L = [] := List.length_eq_zero_iff.1 h0
    subst this
    skip
    refine run_ok 2 _ _ _ _ ?_
    simp (maxSteps := 10000000) only [go_sem, ivx_all, iv_len, hsm]
    skip
    refine sem_virt 2 1 rfl ?_
    refine run_ok 4000 _ _ _ _ ?_
    simp (maxSteps := 10000000) only [go_sem, ivx_all, iv_len, hsm]
    refine ⟨_, _, .sub [0] ?_ .done, rfl, rfl⟩
    simp only [EmbV, go_sem, iv, List.map_nil]
theorem embV_idl {k0 : Nat} {v : AV} {m : Mem} (ex : Mem) (hk : k0 ≤ m.length) (hv : ids m.length v = true) (hm : idsM m.length m = true) : EmbV k0 (idl m.length 0) v (m ++ ex) v m := by
  refine ⟨?_, (ren_idl hv).symm, ?_⟩
  · simp only [hv, hm, nodup_idl, fixed_idl k0 m.length 0 hk, below_idl m.length 0 (m ++ ex).length (by simp), Bool.and_self]
  · have := embM_idl (n := m.length) (N := (m ++ ex).length) (ex := ex) (pm := m) (pre := []) hm
    simpa using this
theorem fzM_fam (b sz : Nat) (xs : List (List AV)) : ∀ (F : List Inn), fzM b sz xs (fam F ++ [.gone]) = (True, fam F ++ [.gone])
  | [] => rfl
  | A :: F => by
    have ih := fzM_fam b sz xs F
    unfold fam at ih ⊢
    simp only [List.map_cons, List.cons_append, fzM, ih]
theorem fz_row (nx : Int) (O : Outr) (F : List Inn) (W : List Int) (k c : Nat) : fzB (F.length + 1 + 1) (.sl (F.length + 1 + 1) 0 k c false) (tM nx O F ++ [.row 1 (iv .i64 W)]) =
    some ((0 + k ≤ (iv .i64 W).length) ∧ ((True ∧ True ∧ True) ∧ True), .vsl 1 (sub (iv .i64 W) 0 k) false, tM nx O F ++ [.gone]) := by
  have hrow := fam_row F (.row 1 (iv .i64 W))
  have hfs := fam_rowset F (.row 1 (iv .i64 W)) .gone
  have hb : Nat.beq (F.length + 1 + 1) (F.length + 1 + 1) = true := Nat.beq_refl _
  simp only [fzB, tM, List.cons_append, mg, hrow, ms, hfs, fzM, fzM_fam, fzR, fzV, fzL, hb]
theorem missing_spec (nx : Int) (O : Outr) (F : List Inn) (hO : OkO O F) (hs : Int → Bool) (hH : ∀ x : Int, Tri Try.prog 14 [.pbox 0 0, .int .i64 x] (tM nx O F) fun v m => v = .bsym (hs x) ∧ m = tM nx O F)
    (l : List Int) (tight : Bool) (hl : l.length ≤ 100000) :
    Tri Try.prog 29 [.pbox 0 0, .vsl 1 (iv .i64 l) tight] (tM nx O F) (fun v m => v = .vsl 1 (iv .i64 (l.filter fun x => !hs x)) false ∧ m = tM nx O F) := by
  refine Tri.post ?_
  have hc := iclone_spec l tight hl
  have hd := del_fn nx O F hO hs hH l hl
  have hkl : kept hs l l.length = l.filter fun x => !hs x := by unfold kept; rw [List.take_length]
  rw [hkl] at hd
  skip
  refine (Tri.enter (rl := r29) (code := c29) (by kernel_rfl) Try.func29 rfl c29_ok (by kernel_rfl) (by kernel_rfl) ?_)
  refine run_ok 4000 _ _ _ _ ?_
  simp (maxSteps := 10000000) only [go_sem, c29, r29, fam_len]
  refine sem_call rfl rfl (((hc).embed [] rfl trivial rfl rfl rfl (by simp)).mono ?_)
  rintro _ _ ⟨_, _, ⟨rfl, rfl⟩, rfl, rfl⟩
  refine run_ok 4000 _ _ _ _ ?_
  simp (maxSteps := 10000000) only [go_sem, fam_len]
  refine sem_call rfl rfl (hd.mono ?_)
  rintro _ _ ⟨W, h1, h2, rfl, rfl⟩
  refine run_ok 4000 _ _ _ _ ?_
  simp (maxSteps := 10000000) only [go_sem, fam_len]
  have h3 : sub (iv .i64 W) 0 (l.filter fun x => !hs x).length = iv .i64 (l.filter fun x => !hs x) := by
    rw [iv_sub]; simp [h1]
  have hz := fz_row nx O F W (l.filter fun x => !hs x).length l.length
  rw [h3] at hz
  have hle : (l.filter fun x => !hs x).length ≤ l.length := List.length_filter_le _ _
  exact ⟨_, _, .fz (F.length + 1 + 1) hz ⟨by rw [iv_len, h2]; omega, ⟨trivial, trivial, trivial⟩, trivial⟩ (.sub (idl (tM nx O F).length 0) (embV_idl [.gone] (by rw [tM_len]; exact Nat.le_refl _) (by simp only [go_sem]) (tM_ids nx O F hO _ (by rw [tM_len]; exact Nat.le_refl _))) .done), rfl, rfl⟩
end Go.AEX
