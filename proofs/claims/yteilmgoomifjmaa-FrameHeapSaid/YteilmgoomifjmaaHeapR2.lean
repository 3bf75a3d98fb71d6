/- Frame: any bytes as a heap (FrameReads). -/
import Derived.Test.YteilmgoomifjmaaHeapR
namespace Go.AEX
open Go Go.AE Go.Proofs
set_option maxRecDepth 100000
set_option linter.unusedVariables false
set_option linter.unusedSimpArgs false

theorem rread_spec (s : List UInt8) (e : Int) : Tri Try.prog 41 [.agg [.str s, .int .i64 e]] []
    (fun v m => v = .tup [.agg [.str (readF (s, e)).1, .int .i64 (readF (s, e)).2], .vsl 1 (iv .i64 (readH (s, e))) false] ∧ m = []) := by
  refine Tri.post ?_
  have hco := rtakeCount_spec s e 64 (by unfold I64; omega)
  obtain ⟨c1, c2⟩ := cnt_le (s, e)
  have hcn : (countF (s, e) 64).2 = (cnt (s, e) : Int) := by unfold cnt; omega
  unfold readF readH
  rw [hcn] at hco c2
  generalize cnt (s, e) = n at *
  generalize (countF (s, e) 64).1 = x at *
  refine (Tri.enter (rl := r41) (code := c41) (by kernel_rfl) Try.func41 rfl c41_ok (by kernel_rfl) (by kernel_rfl) ?_)
  refine run_ok 4000 _ _ _ _ ?_
  simp (maxSteps := 10000000) only [go_sem, c41, r41]
  refine sem_call rfl rfl (((hco).embed [] rfl (by repeat' first | exact trivial | rfl | (simp only [go_sem]; done) | constructor) rfl (by first | rfl | simp only [go_sem]) rfl (by simp)).mono ?_)
  rintro _ _ ⟨_, _, ⟨rfl, rfl⟩, rfl, rfl⟩
  refine run_ok 4000 _ _ _ _ ?_
  simp (maxSteps := 10000000) only [go_sem]
  refine sem_call rfl rfl (((rheap_spec).embed [] rfl (by repeat' first | exact trivial | rfl | (simp only [go_sem]; done) | constructor) rfl (by first | rfl | simp only [go_sem]) rfl (by simp)).mono ?_)
  rintro _ _ ⟨_, _, ⟨rfl, rfl⟩, rfl, rfl⟩
  refine run_ok 4000 _ _ _ _ ?_
  simp (maxSteps := 10000000) only [go_sem]
  refine sem_rounds (fun k => k ≤ n) (fun k => [(1, .pbox 0 0), (2, .pbox 1 0), (4, .int .i64 (n : Nat)), (5, .sl 2 0 64 64 false), (6, .int .i64 (k : Nat))])
    (fun k => [.box [.str (rdS x k).1, .int .i64 (rdS x k).2], .box [.str [], .int .i64 0], .row 1 (iv .i64 (rdH x k))]) (fun k => n - k) 0 [0, 1, 2] (by omega) ?_ ?_
  · rw [rdH_zero]
    have e0 : rdS x 0 = x := rfl
    rw [e0]
    simp only [Emb, go_sem]
  intro k hk
  refine run_ok 4000 _ _ _ _ ?_
  simp (maxSteps := 10000000) only [go_sem]
  refine ⟨fun hlt => ?_, fun hge => ?_⟩
  · have hlt : k < n := by omega
    have hii := rtakeInt_spec (rdS x k).1 (rdS x k).2
    have hset := rdH_set x k
    have hl := rdH_len x k
    have hkl : k < (rdH x k).length := by omega
    have hrp := ivs_rput hkl (rdV x k)
    rw [hset] at hrp
    have f1 : (k : Int) < 64 := by omega
    have f2 : k < 64 := by omega
    have hv : sg (numI ((rdS x k).1, (rdS x k).2)).1 = rdV x k := rfl
    rw [hv] at hii
    skip
    refine sem_call rfl rfl (((hii).embed [] rfl (by repeat' first | exact trivial | rfl | (simp only [go_sem]; done) | constructor) rfl (by first | rfl | simp only [go_sem]) rfl (by simp)).mono ?_)
    rintro _ _ ⟨_, _, ⟨rfl, rfl⟩, rfl, rfl⟩
    refine run_ok 4000 _ _ _ _ ?_
    simp (maxSteps := 10000000) only [go_sem, f1, f2, ivs_inR hkl, hrp, Int.natCast_nonneg, Nat.zero_add, inc64 (show k < 1000000000000 by omega)]
    refine ⟨k + 1, by omega, by omega, [0, 1, 2], ?_⟩
    simp only [Emb, go_sem, rdS]
  have hk : k = n := by omega
  subst hk
  cases k with
  | zero =>
    have z0 : ¬ ((0 : Nat) : Int) > 0 := by omega
    have e0 : (if 0 < 0 ∧ rdV x (0 - 1) = 0 then failF (rdS x 0) 2 else rdS x 0) = rdS x 0 := if_neg (by omega)
    rw [e0]
    generalize rdS x 0 = y at *
    have hl := rdH_len x 0
    generalize rdH x 0 = H at *
    skip
    refine run_ok 4000 _ _ _ _ ?_
    simp (maxSteps := 10000000) only [go_sem, z0]
    refine ⟨fun h => absurd h z0, fun _ => ?_⟩
    refine ⟨_, _, .fz 2 rfl (by simp only [go_sem, iv_len, hl, Nat.le_refl]) (.sub [] ?_ .done), rfl, rfl⟩
    have hs : sub (iv .i64 H) 0 64 = iv .i64 H := by rw [← hl]; exact ivs_all H
    simp only [EmbV, go_sem, hs]
  | succ k =>
    have z0 : ((k + 1 : Nat) : Int) > 0 := by omega
    have w1 : iwrap .i64 (((k + 1 : Nat) : Int) - 1) = (k : Int) := by rw [iwrap_i64_in (by omega)]; omega
    have hl := rdH_len x (k + 1)
    have hkl : k < (rdH x (k + 1)).length := by omega
    have f1 : (k : Int) < 64 := by omega
    have hget := rdH_get x (k + 1) k (by omega) (by omega)
    have hr := iv_rint (k := .i64) hkl
    rw [hget] at hr
    have hi := iv_hasI (k := .i64) hkl
    rw [Nat.add_sub_cancel]
    clear hget
    generalize rdH x (k + 1) = H at *
    generalize rdS x (k + 1) = y at *
    by_cases hv : rdV x k = 0
    · have hvb : (rdV x k == 0) = true := by rw [hv]; rfl
      have hcond : 0 < k + 1 ∧ rdV x k = 0 := ⟨by omega, hv⟩
      simp only [if_pos hcond]
      have hfl := rfail_spec y.1 y.2 2
      have hyy : (y.1, y.2) = y := rfl
      rw [hyy] at hfl
      generalize failF y 2 = z at *
      skip
      refine run_ok 4000 _ _ _ _ ?_
      simp (maxSteps := 10000000) only [go_sem, z0, w1, f1, hr, hi, hvb, Int.natCast_nonneg, Nat.zero_add]
      refine sem_call rfl rfl (((hfl).embed [] rfl (by repeat' first | exact trivial | rfl | (simp only [go_sem]; done) | constructor) rfl (by first | rfl | simp only [go_sem]) rfl (by simp)).mono ?_)
      rintro _ _ ⟨_, _, ⟨rfl, rfl⟩, rfl, rfl⟩
      refine run_ok 4000 _ _ _ _ ?_
      simp (maxSteps := 10000000) only [go_sem, z0, w1, f1, hr, hi, hvb, Int.natCast_nonneg, Nat.zero_add]
      refine ⟨_, _, .fz 2 rfl (by simp only [go_sem, iv_len, hl, Nat.le_refl]) (.sub [] ?_ .done), rfl, rfl⟩
      have hs : sub (iv .i64 H) 0 64 = iv .i64 H := by rw [← hl]; exact ivs_all H
      simp only [EmbV, go_sem, hs]
    · have hvb : (rdV x k == 0) = false := by rw [beq_eq_false_iff_ne]; exact hv
      have hcond : ¬ (0 < k + 1 ∧ rdV x k = 0) := fun h => hv h.2
      simp only [if_neg hcond]
      skip
      refine run_ok 4000 _ _ _ _ ?_
      simp (maxSteps := 10000000) only [go_sem, z0, w1, f1, hr, hi, hvb, Int.natCast_nonneg, Nat.zero_add]
      refine ⟨_, _, .fz 2 rfl (by simp only [go_sem, iv_len, hl, Nat.le_refl]) (.sub [] ?_ .done), rfl, rfl⟩
      have hs : sub (iv .i64 H) 0 64 = iv .i64 H := by rw [← hl]; exact ivs_all H
      simp only [EmbV, go_sem, hs]
/-! ### plain -/
theorem zg_sg {n : Nat} (h : n < 18446744073709551616) : zg (sg n) = n := by unfold zg sg; split <;> split <;> omega
theorem sg_I64 {n : Nat} (h : n < 18446744073709551616) : I64 (sg n) := by unfold sg I64; split <;> omega
theorem numI_err (x : List UInt8 × Int) (h : x.2 ≠ 0) : numI x = (0, x.1, x.2) := by unfold numI; rw [if_pos h]
theorem rdS_err (x : List UInt8 × Int) (h : x.2 ≠ 0) : ∀ k, rdS x k = x
  | 0 => rfl
  | k + 1 => by
    have ih := rdS_err x h k
    rw [rdS, ih, numI_err x h]
theorem rdS_next (x : List UInt8 × Int) (k j : Nat) : rdS (rdS x k) j = rdS x (k + j) := by
  induction j with
  | zero => rfl
  | succ j ih => rw [← Nat.add_assoc, rdS, rdS, ih]
/-- What numbers were read from. -/
theorem rdS_back (x : List UInt8 × Int) : ∀ k, (rdS x k).2 = 0 → x.2 = 0 ∧ x.1 = numsB ((List.range k).map fun j => (numI (rdS x j)).1) ++ (rdS x k).1
  | 0, h => ⟨h, by simp [rdS, numsB]⟩
  | k + 1, h => by
    have hk : (rdS x k).2 = 0 := by
      by_cases e : (rdS x k).2 = 0
      · exact e
      · rw [rdS, numI_err _ e] at h; exact absurd h e
    obtain ⟨h1, h2⟩ := rdS_back x k hk
    refine ⟨h1, ?_⟩
    have hn : numI (rdS x k) = tk 0 0 (rdS x k).1 := by unfold numI; rw [if_neg (by simpa using hk)]
    obtain ⟨m, hm1, hm2, _⟩ := tk_num (rdS x k).1 0 0 (numI (rdS x k)).1 (numI (rdS x k)).2.1 (by rw [← hn, ← h, rdS])
    have hv : (numI (rdS x k)).1 = m := by rw [hm2]; simp
    rw [List.range_succ, List.map_append]
    have e2 : (rdS x (k + 1)).1 = (numI (rdS x k)).2.1 := rfl
    rw [e2]
    conv => lhs; rw [h2, hm1]
    simp [numsB, hv]
theorem lastK_is (l : List Int) (n : Nat) (hz : n = 0 ∨ l.getD (n - 1) 0 ≠ 0) : ∀ k, n ≤ k → (∀ j, n ≤ j → j < k → l.getD j 0 = 0) → lastK l k = n
  | 0, h, _ => by have : n = 0 := by omega
                  subst this; rfl
  | k + 1, h, hj => by
    unfold lastK
    by_cases e : n = k + 1
    · subst e
      rcases hz with h0 | h0
      · omega
      · rw [Nat.add_sub_cancel] at h0; rw [if_neg h0]
    · rw [if_pos (hj k (by omega) (by omega))]
      exact lastK_is l n hz k (by omega) (fun j h1 h2 => hj j h1 (by omega))
theorem lastK_ne (l : List Int) : ∀ k, lastK l k = 0 ∨ l.getD (lastK l k - 1) 0 ≠ 0
  | 0 => .inl rfl
  | k + 1 => by
    unfold lastK
    by_cases h : l.getD k 0 = 0
    · rw [if_pos h]; exact lastK_ne l k
    · rw [if_neg h, Nat.add_sub_cancel]; exact .inr h
theorem failF_ne (y : List UInt8 × Int) (e : Int) (he : e ≠ 0) : (failF y e).2 ≠ 0 := by
  unfold failF
  by_cases h : y.2 = 0
  · rw [if_pos ⟨h, he⟩]; exact he
  · rw [if_neg (fun hh => h hh.1)]; exact h
theorem rdH_getD (x : List UInt8 × Int) (k j : Nat) (hj : j < 64) : (rdH x k).getD j 0 = if j < k then rdV x j else 0 := by
  rw [List.getD_eq_getElem?_getD, List.getElem?_eq_getElem (by rw [rdH_len]; exact hj)]
  unfold rdH
  simp
theorem rdH_64 (x : List UInt8 × Int) (k : Nat) : ∀ n ∈ rdH x k, I64 n := by
  intro n hn
  obtain ⟨j, _, rfl⟩ := List.mem_map.1 hn
  split
  · exact sg_I64 (numI_lt _)
  · simp [I64]
theorem read_back (s : List UInt8) (h : (readF (s, 0)).2 = 0) : textH (readH (s, 0)) ++ (readF (s, 0)).1 = s := by
  obtain ⟨c1, c2⟩ := cnt_le (s, 0)
  have hcn : (countF (s, 0) 64).2 = (cnt (s, 0) : Int) := by unfold cnt; omega
  unfold readF readH at *
  have hcond : ¬ (0 < cnt (s, 0) ∧ rdV (countF (s, 0) 64).1 (cnt (s, 0) - 1) = 0) := by
    intro hc
    rw [if_pos hc] at h
    exact failF_ne _ 2 (by omega) h
  rw [if_neg hcond] at h ⊢
  obtain ⟨b1, b2⟩ := rdS_back _ _ h
  have hc3 : ¬ ((numI (s, 0)).1 : Int) > (posN 64 : Int) := by
    intro hc
    unfold countF at b1
    rw [if_pos hc] at b1
    exact failF_ne _ 3 (by omega) b1
  have hx : countF (s, 0) 64 = ((numI (s, 0)).2, ((numI (s, 0)).1 : Int)) := by unfold countF; rw [if_neg hc3]
  have hn : cnt (s, 0) = (numI (s, 0)).1 := by rw [hx] at hcn; simp only at hcn; omega
  have hni : numI (s, 0) = tk 0 0 s := by unfold numI; rw [if_neg (by simp)]
  obtain ⟨m, hm1, hm2, _⟩ := tk_num s 0 0 (numI (s, 0)).1 (numI (s, 0)).2.1 (by
    rw [← hni]
    have : (numI (s, 0)).2.2 = 0 := by rw [hx] at b1; exact b1
    exact Prod.ext rfl (Prod.ext rfl this))
  have hmn : m = cnt (s, 0) := by rw [hn, hm2]; simp
  have hx1 : (countF (s, 0) 64).1.1 = (numI (s, 0)).2.1 := by rw [hx]
  rw [← hx1, hmn] at hm1
  generalize cnt (s, 0) = n at *
  generalize (countF (s, 0) 64).1 = x at *
  have hn64 : n ≤ 64 := by omega
  have hlast : lastK (rdH x n) 64 = n := by
    refine lastK_is _ n ?_ 64 hn64 (fun j h1 h2 => by rw [rdH_getD _ _ _ h2, if_neg (by omega)])
    by_cases h0 : n = 0
    · exact .inl h0
    · right
      rw [rdH_getD _ _ _ (by omega), if_pos (by omega)]
      exact fun hv => hcond ⟨by omega, hv⟩
  unfold textH
  rw [hlast]
  have htk : ((rdH x n).take n).map zg = (List.range n).map fun j => (numI (rdS x j)).1 := by
    apply List.ext_getElem
    · simp [rdH]; omega
    · intro j h1 h2
      simp only [List.getElem_map, List.getElem_take, List.getElem_range]
      have hj : j < n := by simpa using h2
      rw [rdH_get x n j hj (by omega)]
      exact zg_sg (numI_lt _)
  rw [htk]
  conv => rhs; rw [hm1, b2]
  rw [List.append_assoc]
theorem read_put (H : List Int) (hH : H.length = 64) (h6 : ∀ n ∈ H, I64 n) : readF (textH H, 0) = ([], 0) ∧ readH (textH H, 0) = H := by
  have hle := lastK_le H 64
  have hzr := lastK_zero H 64
  have hne := lastK_ne H 64
  unfold textH readF readH cnt
  generalize lastK H 64 = n at *
  have hp := numI_put n (numsB ((H.take n).map zg)) (by omega)
  have hc : countF (numB n ++ numsB ((H.take n).map zg), 0) 64 = ((numsB ((H.take n).map zg), 0), (n : Int)) := by
    unfold countF
    have h64 : posN 64 = 64 := rfl
    rw [hp, h64, if_neg (by simp only; omega)]
  rw [hc]
  simp only [Int.toNat_natCast]
  have hst : ∀ k, k ≤ n → rdS (numsB ((H.take n).map zg), 0) k = (numsB (((H.take n).drop k).map zg), 0) ∧ (k < n → rdV (numsB ((H.take n).map zg), 0) k = H.getD k 0) := by
    intro k
    induction k with
    | zero =>
      intro _
      refine ⟨by simp [rdS], fun h0 => ?_⟩
      have hd : (H.take n) = H[0] :: (H.take n).drop 1 := by
        have := List.drop_eq_getElem_cons (l := H.take n) (i := 0) (by rw [List.length_take]; omega)
        rw [List.drop_zero] at this; rw [List.getElem_take] at this; exact this
      unfold rdV rdS
      rw [hd, List.map_cons]
      have e : numsB (zg H[0] :: List.map zg ((H.take n).drop 1)) = numB (zg H[0]) ++ numsB (List.map zg ((H.take n).drop 1)) := by simp [numsB]
      rw [e, numI_put _ _ (zg_lt (h6 _ (List.getElem_mem _)))]
      rw [sg_zg (h6 _ (List.getElem_mem _)), List.getD_eq_getElem?_getD, List.getElem?_eq_getElem (by omega)]; rfl
    | succ k ih =>
      intro hk
      obtain ⟨i1, _⟩ := ih (by omega)
      have step : ∀ j, j < n → (H.take n).drop j = (H.getD j 0) :: (H.take n).drop (j + 1) := by
        intro j hj
        have := List.drop_eq_getElem_cons (l := H.take n) (i := j) (by rw [List.length_take]; omega)
        rw [this, List.getElem_take, List.getD_eq_getElem?_getD, List.getElem?_eq_getElem (by omega)]; rfl
      have hI : ∀ j, j < n → I64 (H.getD j 0) := by
        intro j hj
        rw [List.getD_eq_getElem?_getD, List.getElem?_eq_getElem (by omega)]; exact h6 _ (List.getElem_mem _)
      have nb : ∀ (a : Nat) (l : List Nat), numsB (a :: l) = numB a ++ numsB l := fun a l => by simp [numsB]
      have e1 : rdS (numsB ((H.take n).map zg), 0) (k + 1) = (numsB (((H.take n).drop (k + 1)).map zg), 0) := by
        rw [rdS, i1, step k (by omega), List.map_cons, nb, numI_put _ _ (zg_lt (hI k (by omega)))]
      refine ⟨e1, fun h => ?_⟩
      unfold rdV
      rw [e1, step (k + 1) h, List.map_cons, nb, numI_put _ _ (zg_lt (hI (k + 1) h)), sg_zg (hI (k + 1) h)]
  have hN := hst n (Nat.le_refl _)
  have hdn : (H.take n).drop n = [] := List.drop_eq_nil_of_le (by rw [List.length_take]; omega)
  rw [hdn] at hN
  have hcond : ¬ (0 < n ∧ rdV (numsB ((H.take n).map zg), 0) (n - 1) = 0) := by
    rintro ⟨h1, h2⟩
    rw [(hst (n - 1) (by omega)).2 (by omega)] at h2
    rcases hne with h | h
    · omega
    · exact h h2
  rw [if_neg hcond]
  refine ⟨by rw [hN.1]; rfl, ?_⟩
  apply List.ext_getElem
  · rw [rdH_len, hH]
  · intro j h1 h2
    have hj : j < 64 := by rw [rdH_len] at h1; exact h1
    have hd := rdH_getD (numsB ((H.take n).map zg), 0) n j hj
    rw [List.getD_eq_getElem?_getD, List.getElem?_eq_getElem h1] at hd
    have hd : (rdH (numsB ((H.take n).map zg), 0) n)[j] = if j < n then rdV (numsB ((H.take n).map zg), 0) j else 0 := hd
    have hg : H.getD j 0 = H[j] := by rw [List.getD_eq_getElem?_getD, List.getElem?_eq_getElem h2]; rfl
    refine Eq.trans hd ?_
    by_cases hjn : j < n
    · rw [if_pos hjn, (hst j (by omega)).2 hjn, hg]
    · rw [if_neg hjn, ← hg, hzr j (by omega) hj]
theorem frameReads_spec (s : List UInt8) (hs : s.length ≤ 140737488351232) : Tri Try.prog 9 [.str s] [] (fun v m => v = .bool true) := by
  have hcut := cut_spec s 300 (by omega)
  have e300 : Int.toNat 300 = 300 := rfl
  rw [e300] at hcut
  have hlen : (s.take 300).length ≤ 300 := by rw [List.length_take]; omega
  refine (Tri.asB (Tri.enter (rl := r9) (code := c9) (by kernel_rfl) Try.func9 rfl c9_ok (by kernel_rfl) (by kernel_rfl) ?_))
  refine run_ok 4000 _ _ _ _ ?_
  simp (maxSteps := 10000000) only [go_sem, c9, r9]
  refine sem_call rfl rfl (((hcut).embed [] rfl trivial rfl rfl rfl (by simp)).mono ?_)
  rintro _ _ ⟨_, _, ⟨rfl, rfl⟩, rfl, rfl⟩
  refine run_ok 4000 _ _ _ _ ?_
  simp (maxSteps := 10000000) only [go_sem]
  generalize s.take 300 = S at *
  have hop := open_spec S
  have hrd := hread_spec S 0
  have hrr := rread_spec S 0
  have hback := read_back S
  have her := err_spec (readF (S, 0)).1 (readF (S, 0)).2
  have hil := ilen_spec (readF (S, 0)).1 (readF (S, 0)).2
  have hH : (readH (S, 0)).length = 64 := rdH_len _ _
  have hH6 : ∀ n ∈ readH (S, 0), I64 n := rdH_64 _ _
  generalize readF (S, 0) = y at *
  generalize readH (S, 0) = H at *
  have ht := htext_spec H hH hH6
  have hrt := rtext_spec H hH hH6
  unfold inM at *
  have hself : (y.2 != y.2) = false := by simp
  by_cases hy : y.2 = 0
  · rw [if_pos hy] at hrd
    have hbk := hback hy
    have hy0 : (y.2 == 0) = true := by rw [hy]; rfl
    have hy1 : (y.2 != 0) = false := by rw [hy]; rfl
    have htl : (textH H ++ y.1).length ≤ 2 ^ 62 := by rw [hbk]; omega
    rw [List.length_append] at htl
    have hl2 : ((y.1.length : Int) == (y.1.length : Int)) = true := by simp
    skip
    refine sem_call rfl rfl (((hop).embed [] rfl (by repeat' first | exact trivial | rfl | (simp only [go_sem]; done) | constructor) rfl (by first | rfl | simp only [go_sem]) rfl (by simp)).mono ?_)
    rintro _ _ ⟨_, _, ⟨rfl, rfl⟩, rfl, rfl⟩
    refine run_ok 4000 _ _ _ _ ?_
    simp (maxSteps := 10000000) only [go_sem, hself, hy0, hy1, hbk, htl, seqb_self, hl2]
    refine sem_call rfl rfl (((hrd).embed [0] rfl (by repeat' first | exact trivial | rfl | (simp only [go_sem]; done) | constructor) rfl (by first | rfl | simp only [go_sem]) rfl (by simp)).mono ?_)
    rintro _ _ ⟨_, _, ⟨rfl, rfl⟩, rfl, rfl⟩
    refine run_ok 4000 _ _ _ _ ?_
    simp (maxSteps := 10000000) only [go_sem, hself, hy0, hy1, hbk, htl, seqb_self, hl2]
    refine sem_call rfl rfl (((hrr).embed [] rfl (by repeat' first | exact trivial | rfl | (simp only [go_sem]; done) | constructor) rfl (by first | rfl | simp only [go_sem]) rfl (by simp)).mono ?_)
    rintro _ _ ⟨_, _, ⟨rfl, rfl⟩, rfl, rfl⟩
    refine run_ok 4000 _ _ _ _ ?_
    simp (maxSteps := 10000000) only [go_sem, hself, hy0, hy1, hbk, htl, seqb_self, hl2]
    refine sem_drawG l9_0_ok (by kernel_rfl) ?_
    intro KK hKK
    simp (maxSteps := 10000000) only [go_sem, l9_0, hself, hy0, hy1, hbk, htl, seqb_self, hl2]
    refine TriZ.of (((awake06_spec).embed [] rfl (by repeat' first | exact trivial | rfl | (simp only [go_sem]; done) | constructor) rfl (by first | rfl | simp only [go_sem]) rfl (by simp)).mono ?_)
    rintro _ _ ⟨_, _, ⟨rfl, rfl⟩, rfl, rfl⟩
    simp (maxSteps := 10000000) only [go_sem, hself, hy0, hy1, hbk, htl, seqb_self, hl2]
    refine TriZ.of (((her).embed [0] rfl (by repeat' first | exact trivial | rfl | (simp only [go_sem]; done) | constructor) rfl (by first | rfl | simp only [go_sem]) rfl (by simp)).mono ?_)
    rintro _ _ ⟨_, _, ⟨rfl, rfl⟩, rfl, rfl⟩
    simp (maxSteps := 10000000) only [go_sem, hself, hy0, hy1, hbk, htl, seqb_self, hl2]
    subst hKK
    simp (maxSteps := 10000000) only [go_sem, hself, hy0, hy1, hbk, htl, seqb_self, hl2]
    refine sem_drawG l9_1_ok (by kernel_rfl) ?_
    intro KK hKK
    simp (maxSteps := 10000000) only [go_sem, l9_1, hself, hy0, hy1, hbk, htl, seqb_self, hl2]
    refine TriZ.of (((ht).embed [1] rfl (by repeat' first | exact trivial | rfl | (simp only [go_sem]; done) | constructor) rfl (by first | rfl | simp only [go_sem]) rfl (by simp)).mono ?_)
    rintro _ _ ⟨_, _, ⟨rfl, rfl⟩, rfl, rfl⟩
    simp (maxSteps := 10000000) only [go_sem, hself, hy0, hy1, hbk, htl, seqb_self, hl2]
    refine TriZ.of (((hrt).embed [] rfl (by repeat' first | exact trivial | rfl | (simp only [go_sem]; done) | constructor) rfl (by first | rfl | simp only [go_sem]) rfl (by simp)).mono ?_)
    rintro _ _ ⟨_, _, ⟨rfl, rfl⟩, rfl, rfl⟩
    simp (maxSteps := 10000000) only [go_sem, hself, hy0, hy1, hbk, htl, seqb_self, hl2]
    refine TriZ.of (((hil).embed [0] rfl (by repeat' first | exact trivial | rfl | (simp only [go_sem]; done) | constructor) rfl (by first | rfl | simp only [go_sem]) rfl (by simp)).mono ?_)
    rintro _ _ ⟨_, _, ⟨rfl, rfl⟩, rfl, rfl⟩
    simp (maxSteps := 10000000) only [go_sem, hself, hy0, hy1, hbk, htl, seqb_self, hl2]
    refine TriZ.of (((ht).embed [1] rfl (by repeat' first | exact trivial | rfl | (simp only [go_sem]; done) | constructor) rfl (by first | rfl | simp only [go_sem]) rfl (by simp)).mono ?_)
    rintro _ _ ⟨_, _, ⟨rfl, rfl⟩, rfl, rfl⟩
    simp (maxSteps := 10000000) only [go_sem, hself, hy0, hy1, hbk, htl, seqb_self, hl2]
    subst hKK
    simp (maxSteps := 10000000) only [go_sem, hself, hy0, hy1, hbk, htl, seqb_self, hl2]
  · rw [if_neg hy] at hrd
    have hy0 : (y.2 == 0) = false := by rw [beq_eq_false_iff_ne]; exact hy
    have hy1 : (y.2 != 0) = true := by rw [bne_iff_ne]; exact hy
    skip
    refine sem_call rfl rfl (((hop).embed [] rfl (by repeat' first | exact trivial | rfl | (simp only [go_sem]; done) | constructor) rfl (by first | rfl | simp only [go_sem]) rfl (by simp)).mono ?_)
    rintro _ _ ⟨_, _, ⟨rfl, rfl⟩, rfl, rfl⟩
    refine run_ok 4000 _ _ _ _ ?_
    simp (maxSteps := 10000000) only [go_sem, hself, hy0, hy1]
    refine sem_call rfl rfl (((hrd).embed [0] rfl (by repeat' first | exact trivial | rfl | (simp only [go_sem]; done) | constructor) rfl (by first | rfl | simp only [go_sem]) rfl (by simp)).mono ?_)
    rintro _ _ ⟨_, _, ⟨rfl, rfl⟩, rfl, rfl⟩
    refine run_ok 4000 _ _ _ _ ?_
    simp (maxSteps := 10000000) only [go_sem, hself, hy0, hy1]
    refine sem_call rfl rfl (((hrr).embed [] rfl (by repeat' first | exact trivial | rfl | (simp only [go_sem]; done) | constructor) rfl (by first | rfl | simp only [go_sem]) rfl (by simp)).mono ?_)
    rintro _ _ ⟨_, _, ⟨rfl, rfl⟩, rfl, rfl⟩
    refine run_ok 4000 _ _ _ _ ?_
    simp (maxSteps := 10000000) only [go_sem, hself, hy0, hy1]
    refine sem_drawG l9_0_ok (by kernel_rfl) ?_
    intro KK hKK
    simp (maxSteps := 10000000) only [go_sem, l9_0, hself, hy0, hy1]
    refine TriZ.of (((awake06_spec).embed [] rfl (by repeat' first | exact trivial | rfl | (simp only [go_sem]; done) | constructor) rfl (by first | rfl | simp only [go_sem]) rfl (by simp)).mono ?_)
    rintro _ _ ⟨_, _, ⟨rfl, rfl⟩, rfl, rfl⟩
    simp (maxSteps := 10000000) only [go_sem, hself, hy0, hy1]
    refine TriZ.of (((her).embed [0] rfl (by repeat' first | exact trivial | rfl | (simp only [go_sem]; done) | constructor) rfl (by first | rfl | simp only [go_sem]) rfl (by simp)).mono ?_)
    rintro _ _ ⟨_, _, ⟨rfl, rfl⟩, rfl, rfl⟩
    simp (maxSteps := 10000000) only [go_sem, hself, hy0, hy1]
    subst hKK
    simp (maxSteps := 10000000) only [go_sem, hself, hy0, hy1]
end Go.AEX
