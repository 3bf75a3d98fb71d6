/- The abstract evaluator: AEzq in one. -/
import Derived.Test.YtpbmlaolpfaicaaAEzp
/- The abstract evaluator, part zq: a contract in front of more memory; rounds whose memory is a function of the state. -/
namespace Go.AE
open Go
variable {P : Program}
theorem ms_pre : ∀ (pre : Mem) (k x : Blk) (m : Mem), ms (pre ++ k :: m) pre.length x = pre ++ x :: m
  | [], _, _, _ => rfl
  | p :: pre, k, x, m => by simp only [List.cons_append, List.length_cons, ms, ms_pre pre k x m]
theorem mrg_idl {n N : Nat} {ex : Mem} : ∀ {pm pm' pre : Mem}, pm'.length = pm.length → idsM n pm' = true → (∀ k ∈ pm, k ≠ .gone) →
    mrg (idl n 0) N (idl pm.length pre.length) pm pm' (pre ++ (pm ++ ex)) = pre ++ (pm' ++ ex)
  | [], [], pre, _, _, _ => by simp [mrg, idl]
  | [], _ :: _, _, h, _, _ => by simp at h
  | _ :: _, [], _, h, _, _ => by simp at h
  | k :: pm, k' :: pm', pre, h, hi, hg => by
    simp only [idsM, Bool.and_eq_true] at hi
    have ih := mrg_idl (N := N) (ex := ex) (pm := pm) (pm' := pm') (pre := pre ++ [k']) (by simpa using h) hi.2 fun x hx => hg x (by simp [hx])
    simp only [List.append_assoc, List.singleton_append, List.length_append, List.length_cons, List.length_nil] at ih
    have hk := hg k (by simp)
    simp only [List.length_cons, idl, List.cons_append]
    have e : ms (pre ++ k :: (pm ++ ex)) pre.length (renB (idl n 0) N k') = pre ++ k' :: (pm ++ ex) := by rw [ms_pre, renB_idl hi.1]
    cases k with
    | gone => exact absurd rfl hk
    | _ => simp only [mrg]; rw [e]; exact ih
theorem Tri.front {f : FuncId} {args : List AV} {m m2 : Mem} {r : AV} (ex : Mem) (spec : Tri P f args m fun v m' => v = r ∧ m' = m2) (ha : idss m.length args = true) (hm : idsM m.length m = true)
    (hg : ∀ k ∈ m, k ≠ .gone) (hl : m2.length = m.length) (hm2 : idsM m.length m2 = true) (hr : ids m.length r = true) : Tri P f args (m ++ ex) fun v m' => v = r ∧ m' = m2 ++ ex := by
  have h := spec.embed (m := m ++ ex) (args := args) (idl m.length 0) (by rw [rens_idl ha])
    (by have := embM_idl (n := m.length) (N := (m ++ ex).length) (ex := ex) (pm := m) (pre := []) hm; simpa using this) ha hm (nodup_idl _ _)
    (fun p hp => by
      obtain ⟨j, hj⟩ := List.getElem?_of_mem hp
      have hlt : j < m.length := by
        have := (List.getElem?_eq_some_iff.1 hj).1
        rwa [idl_len] at this
      rw [idl_get _ _ _ hlt] at hj
      cases hj
      rw [List.length_append]; omega)
  refine h.mono ?_
  rintro _ _ ⟨v0, pm', ⟨rfl, rfl⟩, rfl, rfl⟩
  refine ⟨ren_idl hr, ?_⟩
  have := mrg_idl (n := m.length) (N := (m ++ ex).length) (ex := ex) (pm := m) (pm' := pm') (pre := []) hl hm2 hg
  simpa using this
theorem sem_roundsI {n k0 : Nat} {α : Type} (J : α → Prop) (sl : α → List (Nat × AV)) (mem : α → Mem) (μ : α → Nat) (x0 : α) (ex : Mem) {b k : List C} {t : Tr} {Q : Exit → Tr → Mem → Prop} (hm : ∀ x, J x → idsM (mem x).length (mem x) = true) (hk : ∀ x, J x → k0 ≤ (mem x).length)
    (hsl : ∀ x, J x → idsT (mem x).length (sl x) = true) (hJ : J x0) (h0 : embT0 t (sl x0))
    (round : ∀ x, J x → SemW P n k0 b (mkP (sl x)) (mem x) (Nxt P n k0 k Q fun t' m' => ∃ y, μ y < μ x ∧ J y ∧ embT0 t' (sl y) ∧ ∃ ex, m' = mem y ++ ex)) : SemW P n k0 (.loop b :: k) t (mem x0 ++ ex) Q := by
  refine sem_loop (fun x t m' => J x ∧ embT0 t (sl x) ∧ ∃ ex, m' = mem x ++ ex) μ x0 ⟨hJ, h0, ex, rfl⟩ ?_
  rintro x t m' ⟨hx, he, ex, rfl⟩
  exact sem_sub1 ex (sl x) (hm x hx) (hk x hx) (hsl x hx) he (round x hx)
theorem sem_roundsJ {n k0 : Nat} {α : Type} (J : α → Prop) (sl : α → List (Nat × AV)) (mem : α → Mem) (μ : α → Nat) (x0 : α) {b k : List C} {t : Tr} {Q : Exit → Tr → Mem → Prop} (hm : ∀ x, J x → idsM (mem x).length (mem x) = true) (hk : ∀ x, J x → k0 ≤ (mem x).length)
    (hsl : ∀ x, J x → idsT (mem x).length (sl x) = true) (hJ : J x0) (h0 : embT0 t (sl x0))
    (round : ∀ x, J x → SemW P n k0 b (mkP (sl x)) (mem x) (Nxt P n k0 k Q fun t' m' => ∃ y, μ y < μ x ∧ J y ∧ embT0 t' (sl y) ∧ ∃ ex, m' = mem y ++ ex)) : SemW P n k0 (.loop b :: k) t (mem x0) Q := by
  have := sem_roundsI J sl mem μ x0 [] hm hk hsl hJ h0 round
  rwa [List.append_nil] at this
/-! a middle that stays -/
theorem rid_app {N : Nat} {π2 : List Nat} : ∀ (πA : List Nat) (j : Nat), rid (πA ++ π2) N (πA.length + j) = rid π2 N j
  | [], j => by simp
  | p :: πA, j => by
    rw [List.length_cons, show πA.length + 1 + j = (πA.length + j) + 1 by omega]
    exact rid_app πA j
theorem rid_idlj {N n a j : Nat} (h : j < n) : rid (idl n a) N j = a + j := by
  obtain ⟨p, h1, h2⟩ := rid_lt (π := idl n a) (N := N) (j := j) (by rw [idl_len]; exact h)
  rw [idl_get n a j h] at h1
  rw [h2]; simp at h1; omega
mutual
theorem ren_shfix {n a N : Nat} {π : List Nat} (hr : ∀ j, j < n → rid π N (a + j) = a + j) : ∀ {v : AV}, ids n v = true → ren π N (ren [] a v) = ren [] a v
  | .bool _, _ | .bsym _, _ | .int _ _, _ | .str _, _ | .nilptr, _ | .pval _ _ _ _, _ | .nilsl, _ | .nil0, _ | .vsl _ _ _, _ | .nilmap, _ | .nilfn, _ | .nilif, _ => rfl
  | .pbox b j, h => by simp only [ren, rid]; rw [hr _ (Nat.blt_eq.mp h)]
  | .parr b j i, h => by simp only [ren, rid]; rw [hr _ (Nat.blt_eq.mp h)]
  | .pelt b i j, h => by simp only [ren, rid]; rw [hr _ (Nat.blt_eq.mp h)]
  | .sl b i l c t, h => by simp only [ren, rid]; rw [hr _ (Nat.blt_eq.mp h)]
  | .asl b j i l c, h => by simp only [ren, rid]; rw [hr _ (Nat.blt_eq.mp h)]
  | .map b, h => by simp only [ren, rid]; rw [hr _ (Nat.blt_eq.mp h)]
  | .fn f x c, h => by simp only [ids, Bool.and_eq_true] at h; simp only [ren]; rw [rens_shfix hr h.1, rens_shfix hr h.2]
  | .ifc t v, h => by simp only [ren]; rw [ren_shfix hr (v := v) h]
  | .agg cs, h => by simp only [ren]; rw [rens_shfix hr (vs := cs) h]
  | .tup cs, h => by simp only [ren]; rw [rens_shfix hr (vs := cs) h]
theorem rens_shfix {n a N : Nat} {π : List Nat} (hr : ∀ j, j < n → rid π N (a + j) = a + j) : ∀ {vs : List AV}, idss n vs = true → rens π N (rens [] a vs) = rens [] a vs
  | [], _ => rfl
  | v :: vs, h => by simp only [idss, Bool.and_eq_true] at h; simp only [rens]; rw [ren_shfix hr h.1, rens_shfix hr h.2]
end
theorem renP_shfix {n a N : Nat} {π : List Nat} (hr : ∀ j, j < n → rid π N (a + j) = a + j) : ∀ {es : List (AV × AV)}, idsP n es = true → renP π N (renP [] a es) = renP [] a es
  | [], _ => rfl
  | (x, y) :: es, h => by simp only [idsP, Bool.and_eq_true] at h; simp only [renP]; rw [ren_shfix hr h.1.1, ren_shfix hr h.1.2, renP_shfix hr h.2]
theorem renB_shfix {n a N : Nat} {π : List Nat} (hr : ∀ j, j < n → rid π N (a + j) = a + j) : ∀ {k : Blk}, idsB n k = true → renB π N (renB [] a k) = renB [] a k
  | .box cs, h => by simp only [renB]; rw [rens_shfix hr (vs := cs) h]
  | .row _ _, _ => rfl
  | .map es, h => by simp only [renB]; rw [renP_shfix hr (es := es) h]
  | .mapb _ _ _ es, h => by simp only [renB]; rw [renP_shfix hr (es := es) h]
  | .iter _ _ _ _, _ => rfl
  | .gone, _ => rfl
theorem embM_app {π0 : List Nat} {N : Nat} {m : Mem} {π2 : List Nat} {m2 : Mem} {π1 : List Nat} {m1 : Mem} (hl : π1.length = m1.length) (h1 : embM π0 N m π1 m1) (h2 : embM π0 N m π2 m2) : embM π0 N m (π1 ++ π2) (m1 ++ m2) := by
  induction m1 generalizing π1 with
  | nil => cases π1 with
    | nil => exact h2
    | cons p π1 => simp at hl
  | cons k m1 ih => cases π1 with
    | nil => simp at hl
    | cons p π1 =>
      have hl' : π1.length = m1.length := by simpa using hl
      cases k with
      | gone => exact ih hl' h1
      | _ => exact ⟨h1.1, ih hl' h1.2⟩
theorem embM_midT {π0 : List Nat} {n a N : Nat} {B : Mem} (hr : ∀ j, j < n → rid π0 N (a + j) = a + j) : ∀ {T0 pre : Mem}, idsM n T0 = true →
    embM π0 N (pre ++ (renM [] a T0 ++ B)) (idl T0.length pre.length) (renM [] a T0)
  | [], pre, _ => by simp only [List.length_nil, idl]; exact trivial
  | k :: T0, pre, h => by
    simp only [idsM, Bool.and_eq_true] at h
    have ih := embM_midT (B := B) hr (T0 := T0) (pre := pre ++ [renB [] a k]) h.2
    simp only [List.append_assoc, List.singleton_append, List.length_append, List.length_cons, List.length_nil] at ih
    have hg : mg (pre ++ renB [] a k :: (renM [] a T0 ++ B)) pre.length = renB π0 N (renB [] a k) := by
      rw [renB_shfix hr h.1]
      clear ih h
      induction pre with
      | nil => rfl
      | cons x pre ih => exact ih
    simp only [List.length_cons, idl, renM, List.cons_append]
    cases k with
    | gone => exact ih
    | _ => exact ⟨hg, ih⟩
theorem nodup_mid {a n : Nat} : ∀ {πA : List Nat}, nodupN πA = true → (∀ p ∈ πA, p < a ∨ a + n ≤ p) → nodupN (πA ++ idl n a) = true
  | [], _, _ => nodup_idl n a
  | p :: πA, h, hp => by
    simp only [nodupN, Bool.and_eq_true, Bool.not_eq_true'] at h
    simp only [List.cons_append, nodupN, Bool.and_eq_true, Bool.not_eq_true']
    refine ⟨?_, nodup_mid h.2 fun q hq => hp q (by simp [hq])⟩
    rw [Bool.eq_false_iff]
    intro hc
    have hm : p ∈ πA ++ idl n a := by simpa using hc
    rcases List.mem_append.1 hm with hm | hm
    · have : πA.contains p = true := by simpa using hm
      rw [this] at h; exact absurd h.1 (by simp)
    · have h1 := idl_mem hm
      have h2 := hp p (by simp)
      omega
theorem below_mid {N n a : Nat} : ∀ {πA : List Nat}, below N πA = true → a + n ≤ N → below N (πA ++ idl n a) = true
  | [], _, h => below_idl n a N h
  | p :: πA, h1, h2 => by
    simp only [below, Bool.and_eq_true] at h1
    simp only [List.cons_append, below, h1.1, below_mid h1.2 h2, Bool.and_self]
theorem emb_mid {A A' B T0 : Mem} {πA : List Nat} {t : Tr} {sl : List (Nat × AV)} (hT : idsM T0.length T0 = true) (hA : A'.length = A.length) (hπ : πA.length = A.length)
    (hs : idsT (A.length + T0.length) sl = true) (hiA : idsM (A.length + T0.length) A' = true) (hnd : nodupN πA = true) (hout : ∀ p ∈ πA, p < A.length ∨ A.length + T0.length ≤ p)
    (hb : below (A ++ (renM [] A.length T0 ++ B)).length πA = true) (hE : embT (πA ++ idl T0.length A.length) (A ++ (renM [] A.length T0 ++ B)).length t sl)
    (hM : embM (πA ++ idl T0.length A.length) (A ++ (renM [] A.length T0 ++ B)).length (A ++ (renM [] A.length T0 ++ B)) πA A') :
    Emb 0 (πA ++ idl T0.length A.length) t (A ++ (renM [] A.length T0 ++ B)) sl (A' ++ renM [] A.length T0) := by
  have hl : (A' ++ renM [] A.length T0).length = A.length + T0.length := by rw [List.length_append, hA, renM_len]
  refine ⟨?_, hE, ?_⟩
  · have h1 : idsM (A.length + T0.length) (A' ++ renM [] A.length T0) = true := by rw [idsM_appE, hiA, idsM_sh hT]; rfl
    have h2 := nodup_mid hnd hout
    have h3 := below_mid (n := T0.length) (a := A.length) hb (by rw [List.length_append, List.length_append, renM_len]; omega)
    simp only [chk, hl, hs, h1, h2, h3, fixed, Bool.and_self]
  · have hr : ∀ j, j < T0.length → rid (πA ++ idl T0.length A.length) (A ++ (renM [] A.length T0 ++ B)).length (A.length + j) = A.length + j := by
      intro j hj
      have := rid_app (N := (A ++ (renM [] A.length T0 ++ B)).length) (π2 := idl T0.length A.length) πA j
      rw [hπ] at this
      rw [this, rid_idlj hj]
    exact embM_app (by rw [hπ, hA]) hM (embM_midT hr hT)
end Go.AE
