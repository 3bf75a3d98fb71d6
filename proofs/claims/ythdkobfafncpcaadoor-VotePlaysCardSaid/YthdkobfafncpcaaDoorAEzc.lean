/- The abstract evaluator: AEzc in one. -/
import Derived.Test.YthdkobfafncpcaaDoorAEzb
/- The abstract evaluator, part zc: a row's block told under a new number; a nil slice in a variable told as a row of no elements. -/
namespace Go.AE
open Go
set_option linter.unusedVariables false
set_option linter.unusedSimpArgs false

variable {P : Program} {n k0 : Nat}

def mvL : Nat → Nat → Nat → List Nat
  | 0, _, _ => []
  | l + 1, i, b => bif Nat.beq i b then (i + l + 1) :: mvL l (i + 1) b else i :: mvL l (i + 1) b
def renT (π : List Nat) (N : Nat) : Tr → Tr
  | .lf => .lf
  | .nd l v r => match v with
    | some v => .nd (renT π N l) (some (ren π N v)) (renT π N r)
    | none => .nd (renT π N l) none (renT π N r)
def renM (π : List Nat) (N : Nat) : Mem → Mem
  | [] => []
  | k :: m => renB π N k :: renM π N m
theorem renM_len {π : List Nat} {N : Nat} : ∀ {m : Mem}, (renM π N m).length = m.length
  | [] => rfl
  | k :: m => by simp [renM, renM_len]
theorem lg_ls_VRs {φ : Fz} {σ : Sg} {u : AV} (hu : ∀ x, VR φ σ .nilsl x → VR φ σ u x) : ∀ {cs : List AV} {vs : List Value} {j : Nat}, VRs φ σ cs vs → lg cs j = some .nilsl → VRs φ σ (ls cs j u) vs
  | _, _, 0, .cons h ht, hj => by simp only [lg, Option.some.injEq] at hj; subst hj; exact .cons (hu _ h) ht
  | _, _, j + 1, .cons h ht, hj => .cons h (lg_ls_VRs hu ht hj)
  | _, _, _, .nil, hj => by simp [lg] at hj
theorem sem_nilbox (b j sz : Nat) {k : List C} {t : Tr} {m : Mem} {Q : Exit → Tr → Mem → Prop} {cs : List AV} (hb : mg m b = .box cs) (hj : lg cs j = some .nilsl)
    (h : SemW P n k0 k t (ms m b (.box (ls cs j (.sl m.length 0 0 0 false))) ++ [.row sz []]) Q) : SemW P n k0 k t m Q := by
  intro c0 hcs A φ σ a w hG
  have hbm := mg_get hb rfl
  have hI := hG.inv
  have hbl : b < m.length := by
    rcases Nat.lt_or_ge b m.length with h | h
    · exact h
    · rw [List.getElem?_eq_none h] at hbm; cases hbm
  have hG1 : Good A n k0 φ σ (ms m b (.box (ls cs j (.sl m.length 0 0 0 false)))) w t a := by
    have bl : ∀ (c : Nat) (l : Blk), (ms m b (.box (ls cs j (.sl m.length 0 0 0 false))))[c]? = some l → ∃ l0, m[c]? = some l0 ∧ l.owned = l0.owned ∧ (BM φ σ w (σ c) l0 → BM φ σ w (σ c) l) := by
      intro c l hc
      rcases ms_get _ _ _ _ _ hc with ⟨e, e2⟩ | ⟨_, hc⟩
      · subst e; subst e2
        refine ⟨_, hbm, rfl, fun h => ?_⟩
        obtain ⟨img, c1, e, fr, h1, h2, h3, h4, h5, h6⟩ := h
        exact ⟨img, c1, e, fr, h1, h2, h3, h4, lg_ls_VRs (fun x hx => by cases hx; exact .sl0) h5 hj, h6⟩
      · exact ⟨l, hc, rfl, id⟩
    refine ⟨hG.fz, hG.sg, ⟨hI.lf, hI.fz, fun c l hc => ?_, fun c d l l' i j hc hd hl hl' hi hj hne => ?_, fun c l i hc hl hi => ?_, fun c hc => hI.fresh c (by rw [ms_len] at hc; exact hc)⟩, hG.tr, hG.sz, hG.df, hG.grow, hG.kept, fun c l i hc hl hi => ?_, by rw [ms_len]; exact hG.len, hG.ice, hG.env⟩
    · obtain ⟨l0, h1, h2, h3⟩ := bl c l hc
      exact h3 (hI.blk c l0 h1)
    · obtain ⟨l0, h1, h2, _⟩ := bl c l hc
      obtain ⟨g0, g1, g2, _⟩ := bl d l' hd
      exact hI.inj c d l0 g0 i j h1 g1 (by rw [← h2]; exact hl) (by rw [← g2]; exact hl') hi hj hne
    · obtain ⟨l0, h1, h2, _⟩ := bl c l hc
      exact hI.apart c l0 i h1 (by rw [← h2]; exact hl) hi
    · obtain ⟨l0, h1, h2, _⟩ := bl c l hc
      exact hG.own c l0 i h1 (by rw [← h2]; exact hl) hi
  exact h c0 hcs A φ σ a w (hG1.virt sz)
attribute [go_sem] mvL renT renM rid slLen
end Go.AE
