/- The abstract evaluator: AEzb in one. -/
import Derived.Test.YtpbmlaolpfaicaaAEza
import Derived.Maps.RangeRun
/- The abstract evaluator, part zb: slices held against nil; rounds over maps. -/
namespace Go.AE
open Go
set_option linter.unusedVariables false
set_option linter.unusedSimpArgs false

variable {P : Program} {n k0 : Nat}

def slLen : AV → Option Nat
  | .nilsl => some 0
  | .sl _ _ n _ _ => some n
  | .asl _ _ _ n _ => some n
  | .vsl _ xs _ => some xs.length
  | _ => none
theorem slLen_ok {φ : Fz} {σ : Sg} {v : AV} {x : Value} {l : Nat} (h : VR φ σ v x) (hl : slLen v = some l) : ∃ a c, x = .slice a l c ∧ (l ≠ 0 → a.isNone = false) := by
  cases h <;> simp only [slLen] at hl <;> first | (cases hl; done) | (cases hl; exact ⟨_, _, rfl, fun h => absurd rfl h⟩) | (cases hl; exact ⟨_, _, rfl, fun _ => rfl⟩) | (simp at hl; subst hl; exact ⟨_, _, rfl, fun h => absurd rfl h⟩)
theorem isNilC_ok {y : Operand} (h : isNilC y = true) : y = .const (.slice none 0 0) := by
  cases y with
  | const v =>
    simp only [isNilC] at h
    cases v <;> simp only [isNilV] at h <;> try (cases h; done)
    rename_i a l c
    cases a <;> simp only [isNilV] at h <;> first | (cases h; done) | (simp at h; obtain ⟨rfl, rfl⟩ := h; rfl)
  | _ => cases h
theorem cO_eqn {o : Oper} {neg : Bool} {x : Opd} (h : cO P o = some (.eqn neg x)) : ∃ op xt y e yt, o.op = .binOp op xt y (.const (.slice none 0 0)) yt ∧ (op = .eql ∨ op = .neq) ∧ neg = (op == .neq) ∧ P.underlying xt = some (.slice e) ∧ cOpd y = some x := by
  unfold cO at h
  split at h
  case h_11 op xt x0 y yt ho =>
    split at h
    · rename_i x' y' h1 h2
      have key : ∀ (q : op = .eql ∨ op = .neq), (match P.underlying xt with
        | some (.int _) | some .string => some (O.bin op x' y')
        | some .bool => some (.eqb (op == .neq) x' y')
        | some (.pointer e) => match szT P e with
          | some n => if n ≠ 0 then some (.eqp 0 (op == .neq) x' y') else none
          | none => none
        | some (.map _ _) => some (.eqp 1 (op == .neq) x' y')
        | some (.func _ _ _) => some (.eqp 2 (op == .neq) x' y')
        | some (.slice _) => if isNilC y = true then some (.eqn (op == .neq) x') else none
        | some (.struct fs) => match flatFs P 0 fs.toList with
          | some ks => if P.eqGuardType P.depth xt = false ∧ P.stoodInHeld xt = false then some (.eqa (op == .neq) ks x' y') else none
          | none => none
        | _ => none) = some (.eqn neg x) → ∃ op' xt' y' e yt', Op.binOp op xt x0 y yt = .binOp op' xt' y' (.const (.slice none 0 0)) yt' ∧ (op' = .eql ∨ op' = .neq) ∧ neg = (op' == .neq) ∧ P.underlying xt' = some (.slice e) ∧ cOpd y' = some x := by
        intro q h
        split at h
        · cases h
        · cases h
        · cases h
        · (repeat' split at h) <;> cases h
        · cases h
        · cases h
        · rename_i e hu
          split at h
          · rename_i hn
            cases h
            rw [isNilC_ok hn]
            exact ⟨_, _, _, e, _, rfl, q, rfl, hu, h1⟩
          · cases h
        · (repeat' split at h) <;> cases h
        · cases h
      rw [ho]
      split at h
      · exact key (.inl rfl) h
      · exact key (.inr rfl) h
      · cases h
    · cases h
  all_goals ((repeat' split at h) <;> first | (cases h; done) | (simp at h; done))
theorem sem_eqn {g : Option (Nat × Bool)} {d : Option Nat} {neg : Bool} {x : Opd} {k : List C} {t : Tr} {m : Mem} {Q : Exit → Tr → Mem → Prop} {v : AV} {l : Nat} (hg : gok t g = some true) (hx : ev t x = some v) (hl : slLen v = some l)
    (h : ∀ b : Bool, (l ≠ 0 → b = neg) → SemW P n k0 k (sp d t (.bsym b)) m Q) : SemW P n k0 (.op g d (.eqn neg x) :: k) t m Q := by
  intro cs hcs A φ σ a w hG
  cases view_of P n _ cs _ (Nat.le_refl _) hcs with
  | op hc hr h' =>
    rename_i ops i is r
    refine h' _ a w ?_
    obtain ⟨o0, g', x0, ho, hgd, hx0, e, hd⟩ := cOp_inv hc
    cases e
    obtain ⟨op, xt, y, et, yt, h1, hop, rfl, hu, hy⟩ := cO_eqn hx0
    have hw := gok_ok hG.tr hgd hg
    have hv := ev_ok hG.tr hy hx
    obtain ⟨ad, cp, hval, hne⟩ := slLen_ok hv hl
    have hrun : (execOp a.eval o0).run P w = .ok (.value (.bool (bif op == .neq then !ad.isNone else ad.isNone))) w := by
      have hk : a.eval (.const (.slice none 0 0)) = .slice none 0 0 := rfl
      have heq : (Op.equal xt (.slice ad l cp) (.slice none 0 0)).run P w = .ok ad.isNone w := by
        rw [equal_step, Op.equalIn]
        simp only [Sem.run_bind, und_run hu, Result.andThen_ok]
        cases ad <;> rfl
      have hgd : (eqGuard op xt y (.const (.slice none 0 0)) (.slice ad l cp) (.slice none 0 0)).run P w = .ok () w := by
        rcases hop with rfl | rfl <;> simp [eqGuard]
      unfold execOp
      simp only [h1, hk, hval, Sem.run_bind, hgd, Result.andThen_ok]
      rcases hop with rfl | rfl
      · simp only [binOp, Sem.run_bind, heq, Result.andThen_ok]; rfl
      · simp only [binOp, Sem.run_bind, heq, Result.andThen_ok]; rfl
    have hG' := hG.put (.refl hG.inv) (d := o0.dst) (fun i hi => hd i hi) (v := .bsym (bif op == .neq then !ad.isNone else ad.isNone)) (v' := .bool (bif op == .neq then !ad.isNone else ad.isNone)) .bsym
    have hk := h (bif op == .neq then !ad.isNone else ad.isNone) (fun hne0 => by rw [hne hne0]; cases (op == BinOp.neq) <;> rfl) _ hr A φ σ _ w hG'
    show wpOps P ops _ (i :: is) a w
    rw [wpOps_cons]
    simp only [wpOp, ho, hw, if_true]
    refine .inl ?_
    unfold Oper.wp
    rw [hrun]
    exact hk
end Go.AE
