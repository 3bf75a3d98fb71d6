/- Batch tables: slices.DeleteFunc with the bound Has. -/
import Derived.Test.YthdkobfafncpcaaBatF
namespace Go.AEX
open Go Go.AE Go.Proofs
set_option maxRecDepth 100000
set_option linter.unusedVariables false
set_option linter.unusedSimpArgs false

theorem fam_rowset (F : List Inn) (x y : Blk) : ms (fam F ++ [x]) F.length y = fam F ++ [y] := by
  have := ms_pre (fam F) x y []
  rwa [fam_len] at this
theorem iv_put {W : List Int} {k : Nat} (h : k < W.length) (x : Int) : rput (iv .i64 W) k 0 [.int .i64 x] = iv .i64 (W.set k x) := by
  unfold rput iv
  refine List.ext_getElem (by simp) fun j h1 h2 => ?_
  simp only [List.getElem_modify, List.getElem_map, List.getElem_set]
  by_cases c : k = j
  · rw [if_pos c, if_pos c]; rfl
  · rw [if_neg c, if_neg c]
theorem iv_inR {W : List Int} {k : Nat} (h : k < W.length) : inR (iv .i64 W) k 0 1 := by
  simp [inR, iv, List.getD_eq_getElem?_getD, h]
def kept (hs : Int → Bool) (l : List Int) (j : Nat) : List Int := (l.take j).filter fun x => !hs x
structure DOk (hs : Int → Bool) (l : List Int) (j : Nat) (W : List Int) : Prop where
  len : W.length = l.length
  front : W.take (kept hs l j).length = kept hs l j
  back : W.drop j = l.drop j
  lt : (kept hs l j).length < j
  le : j ≤ l.length
theorem kept_succ {hs : Int → Bool} {l : List Int} {j : Nat} (h : j < l.length) : kept hs l (j + 1) = kept hs l j ++ if hs l[j] = true then [] else [l[j]] := by
  unfold kept
  rw [List.take_succ_eq_append_getElem h, List.filter_append, List.filter_cons, List.filter_nil]
  cases hs l[j] <;> rfl
theorem DOk.get {hs : Int → Bool} {l : List Int} {j : Nat} {W : List Int} (h : DOk hs l j W) (hj : j < l.length) : ∃ h2 : j < W.length, W[j] = l[j] := by
  refine ⟨by rw [h.len]; exact hj, ?_⟩
  have e := congrArg (fun t => t[0]?) h.back
  simp only [List.getElem?_drop, Nat.add_zero] at e
  rw [List.getElem?_eq_getElem hj, List.getElem?_eq_getElem (by rw [h.len]; exact hj)] at e
  exact Option.some.inj e
theorem DOk.skip {hs : Int → Bool} {l : List Int} {j : Nat} {W : List Int} (h : DOk hs l j W) (hj : j < l.length) (hx : hs l[j] = true) : DOk hs l (j + 1) W ∧ kept hs l (j + 1) = kept hs l j := by
  have e : kept hs l (j + 1) = kept hs l j := by rw [kept_succ hj, if_pos hx, List.append_nil]
  refine ⟨⟨h.len, by rw [e]; exact h.front, ?_, by rw [e]; have := h.lt; omega, hj⟩, e⟩
  rw [← List.drop_drop, ← List.drop_drop, h.back]
theorem DOk.put {hs : Int → Bool} {l : List Int} {j : Nat} {W : List Int} (h : DOk hs l j W) (hj : j < l.length) (hx : hs l[j] = false) :
    DOk hs l (j + 1) (W.set (kept hs l j).length l[j]) ∧ (kept hs l (j + 1)).length = (kept hs l j).length + 1 := by
  have e : kept hs l (j + 1) = kept hs l j ++ [l[j]] := by rw [kept_succ hj, if_neg (by rw [hx]; simp)]
  have hl : (kept hs l (j + 1)).length = (kept hs l j).length + 1 := by rw [e]; simp
  have hlt := h.lt
  have hlw : (kept hs l j).length < W.length := by rw [h.len]; omega
  refine ⟨⟨by rw [List.length_set]; exact h.len, ?_, ?_, by rw [hl]; omega, hj⟩, hl⟩
  · rw [hl, e, List.take_succ_eq_append_getElem (by rw [List.length_set]; exact hlw), List.getElem_set_self, List.take_set_of_le (Nat.le_refl _), h.front]
  · rw [List.drop_set_of_lt (by omega), ← List.drop_drop, ← List.drop_drop, h.back]
theorem DOk.begin {hs : Int → Bool} {l : List Int} {i : Nat} (h : l.findIdx? hs = some i) : DOk hs l (i + 1) l ∧ (kept hs l (i + 1)).length = i := by
  rw [List.findIdx?_eq_some_iff_getElem] at h
  obtain ⟨hi, hx, hb⟩ := h
  have e0 : kept hs l i = l.take i := by
    unfold kept
    rw [List.filter_eq_self]
    intro x hx
    obtain ⟨j, hj, rfl⟩ := List.getElem_of_mem hx
    rw [List.length_take] at hj
    rw [List.getElem_take]
    have := hb j (by omega)
    simpa using this
  have e : kept hs l (i + 1) = l.take i := by rw [kept_succ hi, if_pos hx, List.append_nil, e0]
  have hl : (kept hs l (i + 1)).length = i := by rw [e, List.length_take]; omega
  exact ⟨⟨rfl, by rw [hl, e], rfl, by rw [hl]; omega, hi⟩, hl⟩
theorem del_fn (nx : Int) (O : Outr) (F : List Inn) (hO : OkO O F) (hs : Int → Bool) (hH : ∀ x : Int, Tri Try.prog 14 [.pbox 0 0, .int .i64 x] (tM nx O F) fun v m => v = .bsym (hs x) ∧ m = tM nx O F)
    (l : List Int) (hl : l.length ≤ 100000) :
    Tri Try.prog 42 [.sl (F.length + 1 + 1) 0 l.length l.length false, .fn 14 [.pbox 0 0] []] (tM nx O F ++ [.row 1 (iv .i64 l)])
      (fun v m => ∃ W : List Int, W.take (kept hs l l.length).length = kept hs l l.length ∧ W.length = l.length ∧ v = .sl (F.length + 1 + 1) 0 (kept hs l l.length).length l.length false ∧ m = tM nx O F ++ [.row 1 (iv .i64 W)]) := by
  refine Tri.post ?_
  have hi := idx_spec nx O F hO hs hH l hl
  have hrow := fam_row F (.row 1 (iv .i64 l))
  cases hf : l.findIdx? hs with
  | none =>
    rw [hf] at hi
    skip
    refine (Tri.enter (rl := r42) (code := c42) (by kernel_rfl) Try.func42 rfl c42_ok (by kernel_rfl) (by kernel_rfl) ?_)
    refine run_ok 4000 _ _ _ _ ?_
    simp (maxSteps := 10000000) only [go_sem, c42, r42, hrow]
    refine sem_call rfl rfl ((hi).mono ?_)
    rintro _ _ ⟨rfl, rfl⟩
    refine run_ok 4000 _ _ _ _ ?_
    simp (maxSteps := 10000000) only [go_sem, hrow]
    have e : kept hs l l.length = l := by
      unfold kept
      rw [List.take_length, List.filter_eq_self]
      intro x hx
      rw [List.findIdx?_eq_none_iff] at hf
      have := hf x hx
      simp [this]
    rw [e]
    exact ⟨_, _, .done, l, List.take_length, rfl, rfl, rfl⟩
  | some i =>
    rw [hf] at hi
    obtain ⟨hd0, hk0⟩ := DOk.begin hf
    have hne : ((i : Int) == -1) = false := by simp
    have w0 := inc64 (show i < 1000000000000 by have := hd0.le; omega)
    skip
    refine (Tri.enter (rl := r42) (code := c42) (by kernel_rfl) Try.func42 rfl c42_ok (by kernel_rfl) (by kernel_rfl) ?_)
    refine run_ok 4000 _ _ _ _ ?_
    simp (maxSteps := 10000000) only [go_sem, c42, r42, hrow, hne, w0]
    refine sem_call rfl rfl ((hi).mono ?_)
    rintro _ _ ⟨rfl, rfl⟩
    refine run_ok 4000 _ _ _ _ ?_
    simp (maxSteps := 10000000) only [go_sem, hrow, hne, w0]
    refine sem_roundsJ (fun x : Nat × List Int => DOk hs l x.1 x.2)
      (fun x => [(0, .sl (F.length + 1 + 1) 0 l.length l.length false), (1, .fn 14 [.pbox 0 0] []), (5, .int .i64 (kept hs l x.1).length), (6, .int .i64 (x.1 : Nat))])
      (fun x => tM nx O F ++ [.row 1 (iv .i64 x.2)]) (fun x => l.length - x.1) (i + 1, l) ?_ ?_ ?_ hd0 ?_ ?_
    · intro x _; exact tR_ids nx O F hO x.2
    · intro x _; simp [fam]
    · intro x _; simp [go_sem, idsT, ids, idss, fam_len]
    · simp [go_sem, hk0]
    rintro ⟨j, W⟩ hd
    simp only at hd ⊢
    have hrow := fam_row F (.row 1 (iv .i64 W))
    by_cases c : j < l.length
    · obtain ⟨hj2, hge⟩ := hd.get c
      have hin : (j : Int) < (l.length : Int) := by omega
      have w1 := inc64 (show j < 1000000000000 by omega)
      have r0 := iv_rint (k := .i64) hj2
      have h0 := iv_hasI (k := .i64) hj2
      rw [hge] at r0
      have hc := (hH l[j]).front [.row 1 (iv .i64 W)] rfl (tM_ids nx O F hO _ (by rw [tM_len]; exact Nat.le_refl _)) (tM_gone _ _ _) rfl (tM_ids nx O F hO _ (by rw [tM_len]; exact Nat.le_refl _)) rfl
      cases hx : hs l[j] with
      | true =>
        obtain ⟨d, e⟩ := hd.skip c hx
        rw [hx] at hc
        generalize l[j] = x at *
        generalize kept hs l j = K at *
        skip
        refine run_ok 4000 _ _ _ _ ?_
        simp (maxSteps := 10000000) only [go_sem, hrow, hin, w1, r0, h0, Int.natCast_nonneg, iv_len]
        refine sem_callv rfl rfl rfl (hc.mono ?_)
        rintro _ _ ⟨rfl, rfl⟩
        refine run_ok 4000 _ _ _ _ ?_
        simp (maxSteps := 10000000) only [go_sem, hrow, hin, w1, r0, h0, Int.natCast_nonneg, iv_len]
        refine ⟨(j + 1, W), by simp only; omega, d, ?_, [], ?_⟩
        · simp [go_sem, e]
        · simp
      | false =>
        obtain ⟨d, e⟩ := hd.put c hx
        rw [hx] at hc
        have hlt := hd.lt
        have hle : (kept hs l j).length < W.length := by rw [hd.len]; omega
        have hp := iv_put hle l[j]
        have hi2 := iv_inR hle
        have hfs := fam_rowset F (.row 1 (iv .i64 W)) (.row 1 (iv .i64 (W.set (kept hs l j).length l[j])))
        have w2 := inc64 (show (kept hs l j).length < 1000000000000 by omega)
        have hin2 : ((kept hs l j).length : Int) < (l.length : Int) := by omega
        generalize W.set (kept hs l j).length l[j] = W' at *
        generalize l[j] = x at *
        generalize kept hs l j = K at *
        skip
        refine run_ok 4000 _ _ _ _ ?_
        simp (maxSteps := 10000000) only [go_sem, hrow, hin, hin2, w1, w2, r0, h0, Int.natCast_nonneg, iv_len, hp, hi2, hfs]
        refine sem_callv rfl rfl rfl (hc.mono ?_)
        rintro _ _ ⟨rfl, rfl⟩
        refine run_ok 4000 _ _ _ _ ?_
        simp (maxSteps := 10000000) only [go_sem, hrow, hin, hin2, w1, w2, r0, h0, Int.natCast_nonneg, iv_len, hp, hi2, hfs]
        refine ⟨(j + 1, W'), by simp only; omega, d, ?_, [], ?_⟩
        · simp [go_sem, e]
        · simp
    · have hin : ¬ (j : Int) < (l.length : Int) := by omega
      obtain rfl : j = l.length := by have := hd.le; omega
      have hlt := hd.lt
      have hle : ((kept hs l l.length).length : Int) ≤ (l.length : Int) := by omega
      have hfr := hd.front
      have hln := hd.len
      generalize kept hs l l.length = K at *
      have hX : (iv .i64 W).take K.length ++ List.replicate (l.length - K.length) [AV.int .i64 0] ++ (iv .i64 W).drop (K.length + (l.length - K.length)) = iv .i64 (W.take K.length ++ List.replicate (l.length - K.length) 0 ++ W.drop (K.length + (l.length - K.length))) := by
        simp [iv, List.map_take, List.map_drop]
      have hb : K.length + (l.length - K.length) ≤ W.length := by omega
      have hX2 : (W.take K.length ++ List.replicate (l.length - K.length) 0 ++ W.drop (K.length + (l.length - K.length))).length = l.length := by
        simp; omega
      have hX3 : (W.take K.length ++ List.replicate (l.length - K.length) 0 ++ W.drop (K.length + (l.length - K.length))).take K.length = K := by
        rw [hfr, List.append_assoc, List.take_left']; rfl
      generalize W.take K.length ++ List.replicate (l.length - K.length) 0 ++ W.drop (K.length + (l.length - K.length)) = W2 at *
      have hfs := fam_rowset F (.row 1 (iv .i64 W)) (.row 1 (iv .i64 W2))
      have hrow2 := fam_row F (.row 1 (iv .i64 W2))
      skip
      refine run_ok 4000 _ _ _ _ ?_
      simp (maxSteps := 10000000) only [go_sem, hrow, hin, hle, Int.natCast_nonneg, iv_len, Int.le_refl, Nat.le_refl, hX, hb, hfs, hrow2]
      refine run_ok 4000 _ _ _ _ ?_
      simp (maxSteps := 10000000) only [go_sem, hrow, hin, hle, Int.natCast_nonneg, iv_len, Int.le_refl, Nat.le_refl, hX, hb, hfs, hrow2]
      rw [Nat.sub_zero, Nat.sub_zero]
      exact ⟨_, _, .done, W2, hX3, hX2, rfl, rfl⟩
end Go.AEX
