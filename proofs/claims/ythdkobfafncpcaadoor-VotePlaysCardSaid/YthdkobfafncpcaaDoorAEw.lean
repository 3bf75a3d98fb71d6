/- The abstract evaluator: AEw in one. -/
import Derived.Test.YthdkobfafncpcaaDoorAEv
/- The abstract evaluator, part w: one operation of a region, wherever it stands. -/
namespace Go.AE
open Go
set_option linter.unusedVariables false
set_option linter.unusedSimpArgs false

variable {P : Program} {n k0 : Nat}

def Step1 (P : Program) (n : Nat) (o : O) (t : Tr) (m : Mem) (K : AV → Mem → Prop) : Prop :=
  match o with
  | .call f xs => ∃ args, evs t xs = some args ∧ Tri P f args m K
  | .callv x xs => ∃ f fs cp args, ev t x = some (.fn f fs cp) ∧ evs t xs = some args ∧ Tri P f (fs ++ args ++ cp) m K
  | o => ∃ p v m', ao o t m = some (p, v, m') ∧ p ∧ K v m'

theorem wpOp_step {ops : Array Oper} {i : Nat} {g : Option (Nat × Bool)} {d : Option Nat} {o : O} {t : Tr} {m : Mem} {K : AV → Mem → Prop} {Q : Exit → Act → World → Prop} {KK : Act → World → Prop}
    {A : Anch} {φ : Fz} {σ : Sg} {a : Act} {w : World} (hc : cOp P n ops i = some (.op g d o)) (hg : gok t g = some true) (hG : Good A n k0 φ σ m w t a) (hs : Step1 P n o t m K)
    (hk : ∀ φ' σ' v v' m' w', K v m' → Stp φ σ m w φ' σ' m' w' → VR φ' σ' v v' → KK (a.put d v') w') : wpOp P ops Q i KK a w := by
  obtain ⟨o0, g', x, ho, hgd, hx, e, hd⟩ := cOp_inv hc
  cases e
  have hw := gok_ok hG.tr hgd hg
  simp only [wpOp, ho, hw, if_true]
  refine .inl ?_
  cases o with
  | call f xs =>
    obtain ⟨args, hxs, h⟩ := hs
    obtain ⟨c, h1, h2, h3⟩ := cO_call hx
    have hvs := evs_ok hG.tr h3 hxs
    have hrun : (execOp a.eval o0).run P w = .ok (.enter f (c.args.toList.map a.eval).toArray) w := by
      have hev : a.eval (.func f) = .func (.func f) #[] #[] := rfl
      simp only [execOp, h1, resolve, h2, hev, Deferred.ofValue, pure_bind, invoke, args_map (xs := c.args) rfl]
      rw [callFunc_run h.1]; simp
    unfold Oper.wp
    rw [hrun]
    show Calls P f _ w _
    refine (h.2 φ σ w _ hG.inv hvs).mono ?_
    rintro e w' ⟨v', rfl, φ', σ', v, m', hK, hst, hv⟩
    exact hk φ' σ' v v' m' w' hK hst hv
  | callv x xs =>
    obtain ⟨f, fs, cp, args, hf, hxs, h⟩ := hs
    obtain ⟨c, y, h1, h2, h2', h3⟩ := cO_callv hx
    have hvs := evs_ok hG.tr h3 hxs
    have hfv := ev_ok hG.tr h2' hf
    generalize hy : a.eval y = vy at hfv
    cases hfv with
    | fn hfs hcp =>
      rename_i as' cs'
      have hrun : (execOp a.eval o0).run P w = .ok (.enter f (as' ++ c.args.toList.map a.eval ++ cs').toArray) w := by
        simp only [execOp, h1, resolve, h2, hy, Deferred.ofValue, pure_bind, invoke, args_map (xs := c.args) rfl]
        rw [callFunc_run h.1]; simp
      unfold Oper.wp
      rw [hrun]
      show Calls P f _ w _
      refine (h.2 φ σ w _ hG.inv ((hfs.append hvs).append hcp)).mono ?_
      rintro e w' ⟨v', rfl, φ', σ', v, m', hK, hst, hv⟩
      exact hk φ' σ' v v' m' w' hK hst hv
  | _ =>
    obtain ⟨p, v, m', he, hp, hK⟩ := hs
    obtain ⟨v', w', φ', σ', hrun, hst, hv⟩ := ao_ok hG.inv hG.tr hx he hp
    unfold Oper.wp
    rcases hrun with hrun | ⟨hrun, rfl⟩ <;> rw [hrun] <;> exact hk φ' σ' v _ m' w' hK hst hv
theorem wpOp_skip {ops : Array Oper} {i : Nat} {g : Option (Nat × Bool)} {d : Option Nat} {o : O} {t : Tr} {m : Mem} {Q : Exit → Act → World → Prop} {KK : Act → World → Prop}
    {A : Anch} {φ : Fz} {σ : Sg} {a : Act} {w : World} (hc : cOp P n ops i = some (.op g d o)) (hg : gok t g = some false) (hG : Good A n k0 φ σ m w t a) (hk : KK (a.put d undef) w) : wpOp P ops Q i KK a w := by
  obtain ⟨o0, g', x, ho, hgd, hx, e, hd⟩ := cOp_inv hc
  cases e
  have hw := gok_ok hG.tr hgd hg
  simp only [wpOp, ho, hw, Bool.false_eq_true, if_false]
  exact hk
end Go.AE
