/- The abstract evaluator, part zl: nil slices that are known to be nil. -/
import Derived.Test.YtcenagdeejbmgaaAEzk
namespace Go.AE
open Go
set_option linter.unusedVariables false
set_option linter.unusedSimpArgs false

variable {P : Program} {n k0 : Nat}

theorem Like.nil0 : Like .nil0 .nilsl := fun _ _ _ h => by cases h; exact .nilsl
theorem ofV_nil {f : Nat} {v : Value} (h : AV.ofV f v = some .nilsl) : v = .slice none 0 0 := by
  cases f with
  | zero => simp [AV.ofV] at h
  | succ f =>
    cases v with
    | slice p l c =>
      cases p with
      | some x => simp [AV.ofV] at h
      | none => cases l with
        | succ l => simp [AV.ofV] at h
        | zero => cases c with
          | succ c => simp [AV.ofV] at h
          | zero => rfl
    | pointer p => cases p <;> simp [AV.ofV] at h
    | map r => cases r <;> simp [AV.ofV] at h
    | agg cs =>
      simp only [AV.ofV, Option.map_eq_some_iff] at h
      obtain ⟨l, _, h⟩ := h
      cases h
    | _ => simp [AV.ofV] at h
theorem cOpd_nil {x : Operand} (h : cOpd x = some (.c .nilsl)) : x = .const (.slice none 0 0) := by
  cases x with
  | tmp i => simp [cOpd] at h
  | const v =>
    simp only [cOpd, Option.map_eq_some_iff] at h
    obtain ⟨b, hb, e⟩ := h
    cases e
    rw [ofV_nil hb]
  | global g => simp [cOpd] at h
  | func f => simp [cOpd] at h
theorem cO_mv {o : Oper} {y : Opd} (h : cO P o = some (.mv y)) : ∃ x, (o.op = .move x ∨ o.op = .assign x) ∧ cOpd x = some y := by
  unfold cO at h
  split at h
  case h_1 x ho =>
    simp only [Option.map_eq_some_iff] at h
    obtain ⟨z, hz, e⟩ := h
    cases e
    exact ⟨x, .inl ho, hz⟩
  case h_2 x ho =>
    simp only [Option.map_eq_some_iff] at h
    obtain ⟨z, hz, e⟩ := h
    cases e
    exact ⟨x, .inr ho, hz⟩
  all_goals ((repeat' split at h) <;> first | (cases h; done) | (simp at h; done))
/-- A slot that takes nil is known to be nil. -/
theorem sem_nil0 {g : Option (Nat × Bool)} {d : Option Nat} {k : List C} {t : Tr} {m : Mem} {Q : Exit → Tr → Mem → Prop} (hg : gok t g = some true)
    (hk : SemW P n k0 k (sp d t .nil0) m Q) : SemW P n k0 (.op g d (.mv (.c .nilsl)) :: k) t m Q := by
  intro cs hcs A φ σ a w hG
  cases view_of P n _ cs _ (Nat.le_refl _) hcs with
  | op hc hr h =>
    rename_i ops i is r
    refine h _ a w ?_
    obtain ⟨o0, g', x0, ho, hgd, hx, e, hd⟩ := cOp_inv hc
    cases e
    have hw := gok_ok hG.tr hgd hg
    obtain ⟨x, hop, hx⟩ := cO_mv hx
    have := cOpd_nil hx
    subst this
    have hrun : (execOp a.eval o0).run P w = .ok (.value (.slice none 0 0)) w := by
      have hk : a.eval (.const (.slice none 0 0)) = .slice none 0 0 := rfl
      unfold execOp
      rcases hop with hop | hop <;> simp only [hop, hk] <;> rfl
    have hG' := hG.put (.refl hG.inv) (d := o0.dst) (fun i hi => hd i hi) (v := .nil0) (v' := .slice none 0 0) .nil0
    have hk' := hk _ hr A φ σ _ w hG'
    show wpOps P ops _ (i :: is) a w
    simp only [wpOps, ho, hw, if_true]
    refine .inl ?_
    unfold Oper.wp
    rw [hrun]
    exact hk'
/-- A slice that is known to be nil, held against nil. -/
theorem sem_eqn0 {g : Option (Nat × Bool)} {d : Option Nat} {neg : Bool} {x : Opd} {k : List C} {t : Tr} {m : Mem} {Q : Exit → Tr → Mem → Prop} (hg : gok t g = some true) (hx : ev t x = some .nil0)
    (h : SemW P n k0 k (sp d t (.bool (!neg))) m Q) : SemW P n k0 (.op g d (.eqn neg x) :: k) t m Q := by
  intro cs hcs A φ σ a w hG
  cases view_of P n _ cs _ (Nat.le_refl _) hcs with
  | op hc hr h' =>
    rename_i ops i is r
    refine h' _ a w ?_
    obtain ⟨o0, g', x0, ho, hgd, hx0, e, hd⟩ := cOp_inv hc
    cases e
    obtain ⟨op, xt, y, et, yt, h1, hop, rfl, hu, hy⟩ := cO_eqn hx0
    have hw := gok_ok hG.tr hgd hg
    have hv := ev_ok hG.tr hy hx
    generalize hval : a.eval y = v0 at hv
    cases hv
    have hrun : (execOp a.eval o0).run P w = .ok (.value (.bool (!(op == .neq)))) w := by
      have hk : a.eval (.const (.slice none 0 0)) = .slice none 0 0 := rfl
      have heq : (Op.equal xt (.slice none 0 0) (.slice none 0 0)).run P w = .ok true w := by
        rw [equal_step, Op.equalIn]
        simp only [Sem.run_bind, und_run hu, Result.andThen_ok]
        rfl
      have hgd : (eqGuard op xt y (.const (.slice none 0 0)) (.slice none 0 0) (.slice none 0 0)).run P w = .ok () w := by
        rcases hop with rfl | rfl <;> simp [eqGuard]
      unfold execOp
      simp only [h1, hk, hval, Sem.run_bind, hgd, Result.andThen_ok]
      rcases hop with rfl | rfl
      · simp only [binOp, Sem.run_bind, heq, Result.andThen_ok]; rfl
      · simp only [binOp, Sem.run_bind, heq, Result.andThen_ok]; rfl
    have hG' := hG.put (.refl hG.inv) (d := o0.dst) (fun i hi => hd i hi) (v := .bool (!(op == .neq))) (v' := .bool (!(op == .neq))) .bool
    have hk := h _ hr A φ σ _ w hG'
    show wpOps P ops _ (i :: is) a w
    rw [wpOps_cons]
    simp only [wpOp, ho, hw, if_true]
    refine .inl ?_
    unfold Oper.wp
    rw [hrun]
    exact hk
end Go.AE
