/- The abstract evaluator, part ze: a variable's cell told otherwise. -/
import Derived.Test.YtcenagdeejbmgaaAEzd
namespace Go.AE
open Go
set_option linter.unusedVariables false
set_option linter.unusedSimpArgs false

variable {P : Program} {n k0 : Nat}

theorem ls_VRs {φ : Fz} {σ : Sg} {v u : AV} (hu : Like v u) : ∀ {cs : List AV} {vs : List Value} {j : Nat}, VRs φ σ cs vs → lg cs j = some v → VRs φ σ (ls cs j u) vs
  | _, _, 0, .cons h ht, hj => by simp only [lg, Option.some.injEq] at hj; subst hj; exact .cons (hu _ _ _ h) ht
  | _, _, j + 1, .cons h ht, hj => .cons h (ls_VRs hu ht hj)
  | _, _, _, .nil, hj => by simp [lg] at hj
/-- A variable's cell is told otherwise. -/
theorem sem_likebox (b j : Nat) {v : AV} (u : AV) {k : List C} {t : Tr} {m : Mem} {Q : Exit → Tr → Mem → Prop} {cs : List AV} (hb : mg m b = .box cs) (hj : lg cs j = some v) (hu : Like v u)
    (h : SemW P n k0 k t (ms m b (.box (ls cs j u))) Q) : SemW P n k0 k t m Q := by
  intro c0 hcs A φ σ a w hG
  have hbm := mg_get hb rfl
  have hI := hG.inv
  have bl : ∀ (c : Nat) (l : Blk), (ms m b (.box (ls cs j u)))[c]? = some l → ∃ l0, m[c]? = some l0 ∧ l.owned = l0.owned ∧ (BM φ σ w (σ c) l0 → BM φ σ w (σ c) l) := by
    intro c l hc
    rcases ms_get _ _ _ _ _ hc with ⟨e, e2⟩ | ⟨_, hc⟩
    · subst e; subst e2
      refine ⟨_, hbm, rfl, fun h => ?_⟩
      obtain ⟨img, c1, e, fr, h1, h2, h3, h4, h5, h6⟩ := h
      exact ⟨img, c1, e, fr, h1, h2, h3, h4, ls_VRs hu h5 hj, h6⟩
    · exact ⟨l, hc, rfl, id⟩
  refine h c0 hcs A φ σ a w ⟨hG.fz, hG.sg, ⟨hI.fz, fun c l hc => ?_, fun c d l l' i j hc hd hl hl' hi hj hne => ?_, fun c l i hc hl hi => ?_, fun c hc => hI.fresh c (by rw [ms_len] at hc; exact hc)⟩, hG.tr, hG.sz, hG.df, hG.grow, hG.kept, fun c l i hc hl hi => ?_, by rw [ms_len]; exact hG.len, hG.ice, hG.env⟩
  · obtain ⟨l0, h1, h2, h3⟩ := bl c l hc
    exact h3 (hI.blk c l0 h1)
  · obtain ⟨l0, h1, h2, _⟩ := bl c l hc
    obtain ⟨g0, g1, g2, _⟩ := bl d l' hd
    exact hI.inj c d l0 g0 i j h1 g1 (by rw [← h2]; exact hl) (by rw [← g2]; exact hl') hi hj hne
  · obtain ⟨l0, h1, h2, _⟩ := bl c l hc
    exact hI.apart c l0 i h1 (by rw [← h2]; exact hl) hi
  · obtain ⟨l0, h1, h2, _⟩ := bl c l hc
    exact hG.own c l0 i h1 (by rw [← h2]; exact hl) hi
end Go.AE
