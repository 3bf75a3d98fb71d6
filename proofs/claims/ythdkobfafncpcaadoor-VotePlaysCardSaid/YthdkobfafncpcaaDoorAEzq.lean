/- The abstract evaluator: AEzq in one. -/
import Derived.Test.YthdkobfafncpcaaDoorAEzp
/- The abstract evaluator, part zq: a contract in front of more memory; rounds whose memory is a function of the state. -/
namespace Go.AE
open Go
variable {P : Program}
theorem ms_pre : ∀ (pre : Mem) (k x : Blk) (m : Mem), ms (pre ++ k :: m) pre.length x = pre ++ x :: m
  | [], _, _, _ => rfl
  | p :: pre, k, x, m => by simp only [List.cons_append, List.length_cons, ms, ms_pre pre k x m]
theorem mrg_idl {n N : Nat} {ex : Mem} : ∀ {pm pm' pre : Mem}, pm'.length = pm.length → idsM n pm' = true → (∀ k ∈ pm, k ≠ .gone) →
    mrg (idl n 0) N (idl pm.length pre.length) pm pm' (pre ++ (pm ++ ex)) = pre ++ (pm' ++ ex)
  | [], [], pre, _, _, _ => by simp [mrg, idl]
  | [], _ :: _, _, h, _, _ => by simp at h
  | _ :: _, [], _, h, _, _ => by simp at h
  | k :: pm, k' :: pm', pre, h, hi, hg => by
    simp only [idsM, Bool.and_eq_true] at hi
    have ih := mrg_idl (N := N) (ex := ex) (pm := pm) (pm' := pm') (pre := pre ++ [k']) (by simpa using h) hi.2 fun x hx => hg x (by simp [hx])
    simp only [List.append_assoc, List.singleton_append, List.length_append, List.length_cons, List.length_nil] at ih
    have hk := hg k (by simp)
    simp only [List.length_cons, idl, List.cons_append]
    have e : ms (pre ++ k :: (pm ++ ex)) pre.length (renB (idl n 0) N k') = pre ++ k' :: (pm ++ ex) := by rw [ms_pre, renB_idl hi.1]
    cases k with
    | gone => exact absurd rfl hk
    | _ => simp only [mrg]; rw [e]; exact ih
theorem Tri.front {f : FuncId} {args : List AV} {m m2 : Mem} {r : AV} (ex : Mem) (spec : Tri P f args m fun v m' => v = r ∧ m' = m2) (ha : idss m.length args = true) (hm : idsM m.length m = true)
    (hg : ∀ k ∈ m, k ≠ .gone) (hl : m2.length = m.length) (hm2 : idsM m.length m2 = true) (hr : ids m.length r = true) : Tri P f args (m ++ ex) fun v m' => v = r ∧ m' = m2 ++ ex := by
  have h := spec.embed (m := m ++ ex) (args := args) (idl m.length 0) (by rw [rens_idl ha])
    (by have := embM_idl (n := m.length) (N := (m ++ ex).length) (ex := ex) (pm := m) (pre := []) hm; simpa using this) ha hm (nodup_idl _ _)
    (fun p hp => by
      obtain ⟨j, hj⟩ := List.getElem?_of_mem hp
      have hlt : j < m.length := by
        have := (List.getElem?_eq_some_iff.1 hj).1
        rwa [idl_len] at this
      rw [idl_get _ _ _ hlt] at hj
      cases hj
      rw [List.length_append]; omega)
  refine h.mono ?_
  rintro _ _ ⟨v0, pm', ⟨rfl, rfl⟩, rfl, rfl⟩
  refine ⟨ren_idl hr, ?_⟩
  have := mrg_idl (n := m.length) (N := (m ++ ex).length) (ex := ex) (pm := m) (pm' := pm') (pre := []) hl hm2 hg
  simpa using this
theorem sem_roundsI {n k0 : Nat} {α : Type} (J : α → Prop) (sl : α → List (Nat × AV)) (mem : α → Mem) (μ : α → Nat) (x0 : α) (ex : Mem) {b k : List C} {t : Tr} {Q : Exit → Tr → Mem → Prop} (hm : ∀ x, J x → idsM (mem x).length (mem x) = true) (hk : ∀ x, J x → k0 ≤ (mem x).length)
    (hsl : ∀ x, J x → idsT (mem x).length (sl x) = true) (hJ : J x0) (h0 : embT0 t (sl x0))
    (round : ∀ x, J x → SemW P n k0 b (mkP (sl x)) (mem x) (Nxt P n k0 k Q fun t' m' => ∃ y, μ y < μ x ∧ J y ∧ embT0 t' (sl y) ∧ ∃ ex, m' = mem y ++ ex)) : SemW P n k0 (.loop b :: k) t (mem x0 ++ ex) Q := by
  refine sem_loop (fun x t m' => J x ∧ embT0 t (sl x) ∧ ∃ ex, m' = mem x ++ ex) μ x0 ⟨hJ, h0, ex, rfl⟩ ?_
  rintro x t m' ⟨hx, he, ex, rfl⟩
  exact sem_sub1 ex (sl x) (hm x hx) (hk x hx) (hsl x hx) he (round x hx)
theorem sem_roundsJ {n k0 : Nat} {α : Type} (J : α → Prop) (sl : α → List (Nat × AV)) (mem : α → Mem) (μ : α → Nat) (x0 : α) {b k : List C} {t : Tr} {Q : Exit → Tr → Mem → Prop} (hm : ∀ x, J x → idsM (mem x).length (mem x) = true) (hk : ∀ x, J x → k0 ≤ (mem x).length)
    (hsl : ∀ x, J x → idsT (mem x).length (sl x) = true) (hJ : J x0) (h0 : embT0 t (sl x0))
    (round : ∀ x, J x → SemW P n k0 b (mkP (sl x)) (mem x) (Nxt P n k0 k Q fun t' m' => ∃ y, μ y < μ x ∧ J y ∧ embT0 t' (sl y) ∧ ∃ ex, m' = mem y ++ ex)) : SemW P n k0 (.loop b :: k) t (mem x0) Q := by
  have := sem_roundsI J sl mem μ x0 [] hm hk hsl hJ h0 round
  rwa [List.append_nil] at this
/-! a middle that stays -/
theorem embM_app {π0 : List Nat} {N : Nat} {m : Mem} {π2 : List Nat} {m2 : Mem} {π1 : List Nat} {m1 : Mem} (hl : π1.length = m1.length) (h1 : embM π0 N m π1 m1) (h2 : embM π0 N m π2 m2) : embM π0 N m (π1 ++ π2) (m1 ++ m2) := by
  induction m1 generalizing π1 with
  | nil => cases π1 with
    | nil => exact h2
    | cons p π1 => simp at hl
  | cons k m1 ih => cases π1 with
    | nil => simp at hl
    | cons p π1 =>
      have hl' : π1.length = m1.length := by simpa using hl
      cases k with
      | gone => exact ih hl' h1
      | _ => exact ⟨h1.1, ih hl' h1.2⟩
end Go.AE
