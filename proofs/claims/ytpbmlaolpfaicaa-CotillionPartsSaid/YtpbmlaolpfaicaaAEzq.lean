/- The abstract evaluator: AEzq in one. -/
import Derived.Test.YtpbmlaolpfaicaaAEzp
/- The abstract evaluator, part zq: a contract in front of more memory; rounds whose memory is a function of the state. -/
namespace Go.AE
open Go
variable {P : Program}
theorem ms_pre : ∀ (pre : Mem) (k x : Blk) (m : Mem), ms (pre ++ k :: m) pre.length x = pre ++ x :: m
  | [], _, _, _ => rfl
  | p :: pre, k, x, m => by simp only [List.cons_append, List.length_cons, ms, ms_pre pre k x m]
theorem mrg_idl {n N : Nat} {ex : Mem} : ∀ {pm pm' pre : Mem}, pm'.length = pm.length → idsM n pm' = true → (∀ k ∈ pm, k ≠ .gone) →
    mrg (idl n 0) N (idl pm.length pre.length) pm pm' (pre ++ (pm ++ ex)) = pre ++ (pm' ++ ex)
  | [], [], pre, _, _, _ => by simp [mrg, idl]
  | [], _ :: _, _, h, _, _ => by simp at h
  | _ :: _, [], _, h, _, _ => by simp at h
  | k :: pm, k' :: pm', pre, h, hi, hg => by
    simp only [idsM, Bool.and_eq_true] at hi
    have ih := mrg_idl (N := N) (ex := ex) (pm := pm) (pm' := pm') (pre := pre ++ [k']) (by simpa using h) hi.2 fun x hx => hg x (by simp [hx])
    simp only [List.append_assoc, List.singleton_append, List.length_append, List.length_cons, List.length_nil] at ih
    have hk := hg k (by simp)
    simp only [List.length_cons, idl, List.cons_append]
    have e : ms (pre ++ k :: (pm ++ ex)) pre.length (renB (idl n 0) N k') = pre ++ k' :: (pm ++ ex) := by rw [ms_pre, renB_idl hi.1]
    cases k with
    | gone => exact absurd rfl hk
    | _ => simp only [mrg]; rw [e]; exact ih
theorem Tri.front {f : FuncId} {args : List AV} {m m2 : Mem} {r : AV} (ex : Mem) (spec : Tri P f args m fun v m' => v = r ∧ m' = m2) (ha : idss m.length args = true) (hm : idsM m.length m = true)
    (hg : ∀ k ∈ m, k ≠ .gone) (hl : m2.length = m.length) (hm2 : idsM m.length m2 = true) (hr : ids m.length r = true) : Tri P f args (m ++ ex) fun v m' => v = r ∧ m' = m2 ++ ex := by
  have h := spec.embed (m := m ++ ex) (args := args) (idl m.length 0) (by rw [rens_idl ha])
    (by have := embM_idl (n := m.length) (N := (m ++ ex).length) (ex := ex) (pm := m) (pre := []) hm; simpa using this) ha hm (nodup_idl _ _)
    (fun p hp => by
      obtain ⟨j, hj⟩ := List.getElem?_of_mem hp
      have hlt : j < m.length := by
        have := (List.getElem?_eq_some_iff.1 hj).1
        rwa [idl_len] at this
      rw [idl_get _ _ _ hlt] at hj
      cases hj
      rw [List.length_append]; omega)
  refine h.mono ?_
  rintro _ _ ⟨v0, pm', ⟨rfl, rfl⟩, rfl, rfl⟩
  refine ⟨ren_idl hr, ?_⟩
  have := mrg_idl (n := m.length) (N := (m ++ ex).length) (ex := ex) (pm := m) (pm' := pm') (pre := []) hl hm2 hg
  simpa using this
/-! a middle that stays -/
end Go.AE
