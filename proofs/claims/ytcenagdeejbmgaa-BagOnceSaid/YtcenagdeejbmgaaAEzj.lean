/- The abstract evaluator, part zj: less is told of a block. -/
import Derived.Test.YtcenagdeejbmgaaAEzi
namespace Go.AE
open Go
set_option linter.unusedVariables false
set_option linter.unusedSimpArgs false

variable {P : Program} {n k0 : Nat}

/-- What holds of a block whenever what is told does. -/
theorem sem_weak (b : Nat) (l : Blk) {k : List C} {t : Tr} {m : Mem} {Q : Exit → Tr → Mem → Prop} (hB : ∀ l0, m[b]? = some l0 → (∀ φ σ w i, BM φ σ w i l0 → BM φ σ w i l) ∧ (l.owned = true → l0.owned = true))
    (h : SemW P n k0 k t (ms m b l) Q) : SemW P n k0 k t m Q := by
  intro cs hcs A φ σ a w hG
  have hI := hG.inv
  have blks : ∀ (c : Nat) (l' : Blk), (ms m b l)[c]? = some l' → ∃ l0, m[c]? = some l0 ∧ (∀ φ σ w i, BM φ σ w i l0 → BM φ σ w i l') ∧ (l'.owned = true → l0.owned = true) := by
    intro c l' hc
    rcases ms_get _ _ _ _ _ hc with ⟨e1, e2⟩ | ⟨_, hc⟩
    · subst e1; subst e2
      have hlt : c < m.length := by
        rcases Nat.lt_or_ge c (ms m c l').length with h | h
        · rwa [ms_len] at h
        · rw [List.getElem?_eq_none h] at hc; cases hc
      have h0 : m[c]? = some m[c] := List.getElem?_eq_getElem hlt
      exact ⟨_, h0, hB _ h0⟩
    · exact ⟨_, hc, fun _ _ _ _ h => h, id⟩
  refine h cs hcs A φ σ a w ⟨hG.fz, hG.sg, ⟨hI.fz, fun c l' hc => ?_, fun c d l1 l2 i j hc hd h1 h2 hi hj hne => ?_, fun c l' i hc hl hi => ?_, fun c hc => hI.fresh c (by rwa [ms_len] at hc)⟩, hG.tr, hG.sz, hG.df, hG.grow, hG.kept, fun c l' i hc hl hi => ?_, by rw [ms_len]; exact hG.len, hG.ice, hG.env⟩
  · obtain ⟨l0, g1, g2, _⟩ := blks c l' hc
    exact g2 _ _ _ _ (hI.blk c l0 g1)
  · obtain ⟨l0, g1, _, g2⟩ := blks c l1 hc
    obtain ⟨l3, g3, _, g4⟩ := blks d l2 hd
    exact hI.inj c d l0 l3 i j g1 g3 (g2 h1) (g4 h2) hi hj hne
  · obtain ⟨l0, g1, _, g2⟩ := blks c l' hc
    exact hI.apart c l0 i g1 (g2 hl) hi
  · obtain ⟨l0, g1, _, g2⟩ := blks c l' hc
    exact hG.own c l0 i g1 (g2 hl) hi
/-- Of a row its first elements. -/
theorem sem_tell (b c : Nat) {k : List C} {t : Tr} {m : Mem} {Q : Exit → Tr → Mem → Prop} {sz : Nat} {xs : List (List AV)} (hb : mg m b = .row sz xs) (h : SemW P n k0 k t (ms m b (.row sz (xs.take c))) Q) : SemW P n k0 k t m Q := by
  refine sem_weak b _ ?_ h
  intro l0 hl
  have e := mg_get hb rfl
  rw [hl] at e
  cases e
  refine ⟨?_, fun _ => rfl⟩
  intro φ σ w i hB
  rcases hB with ⟨rfl, h2⟩ | ⟨img, c', e, fr, h1, h2, h3, h4, h5, h6, h7, h8⟩
  · exact .inl ⟨by simp, h2⟩
  · have hle : (xs.take c).length ≤ xs.length := by rw [List.length_take]; omega
    have hle2 := Nat.mul_le_mul_right sz hle
    refine .inr ⟨img, c', e, fr, h1, h2, h3, h4, by omega, ?_, ?_, h8⟩
    · intro q u q1 q2; exact h6 q u q1 (by omega)
    · intro i x hx
      refine h7 i x ?_
      rw [List.getElem?_take] at hx
      split at hx
      · exact hx
      · cases hx
/-- Nothing. -/
theorem sem_forget (b : Nat) {k : List C} {t : Tr} {m : Mem} {Q : Exit → Tr → Mem → Prop} (h : SemW P n k0 k t (ms m b .gone) Q) : SemW P n k0 k t m Q := by
  refine sem_weak b _ ?_ h
  intro l0 hl
  exact ⟨fun _ _ _ _ _ => trivial, fun h => by cases h⟩
end Go.AE
