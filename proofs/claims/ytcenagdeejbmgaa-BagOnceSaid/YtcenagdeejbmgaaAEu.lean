/- The abstract evaluator, part u: a nil slice as a row of no elements. -/
import Derived.Test.YtcenagdeejbmgaaAEt
namespace Go.AE
open Go
set_option linter.unusedVariables false
set_option linter.unusedSimpArgs false

variable {P : Program} {n k0 : Nat}

theorem app_get {m : Mem} {x k : Blk} {b : Nat} (h : (m ++ [x])[b]? = some k) : m[b]? = some k ∨ (b = m.length ∧ k = x) := by
  rcases Nat.lt_or_ge b m.length with hb | hb
  · rw [List.getElem?_append_left hb] at h; exact .inl h
  · rw [List.getElem?_append_right hb] at h
    cases hd : b - m.length with
    | zero => rw [hd] at h; simp at h; exact .inr ⟨by omega, h.symm⟩
    | succ d => rw [hd] at h; simp at h
theorem Good.virt {A : Anch} {φ : Fz} {σ : Sg} {m : Mem} {w : World} {t : Tr} {a : Act} (sz : Nat) (h : Good A n k0 φ σ m w t a) : Good A n k0 φ σ (m ++ [.row sz []]) w t a := by
  have hI := h.inv
  have hn : σ m.length = none := hI.fresh _ (Nat.le_refl _)
  refine ⟨h.fz, h.sg, ⟨hI.fz, fun b k hb => ?_, fun b c k l i j hb hc hk hl hi hj hne => ?_, fun b k i hb hk hi => ?_, fun b hb => hI.fresh b (by simp at hb; omega)⟩, h.tr, h.sz, h.df, h.grow, h.kept, fun b k i hb hk hi => ?_, by have := h.len; simp; omega, h.ice, h.env⟩
  · rcases app_get hb with hb | ⟨rfl, rfl⟩
    · exact hI.blk b k hb
    · exact .inl ⟨rfl, hn⟩
  · rcases app_get hb with hb | ⟨rfl, rfl⟩
    · rcases app_get hc with hc | ⟨rfl, rfl⟩
      · exact hI.inj b c k l i j hb hc hk hl hi hj hne
      · rw [hn] at hj; cases hj
    · rw [hn] at hi; cases hi
  · rcases app_get hb with hb | ⟨rfl, rfl⟩
    · exact hI.apart b k i hb hk hi
    · rw [hn] at hi; cases hi
  · rcases app_get hb with hb | ⟨rfl, rfl⟩
    · exact h.own b k i hb hk hi
    · rw [hn] at hi; cases hi
/-- A slot's nil slice, told as a new row of no elements. -/
theorem sem_virt {k : List C} {t : Tr} {m : Mem} {Q : Exit → Tr → Mem → Prop} (j sz : Nat) (hj : t.get j = some .nilsl) (h : SemW P n k0 k (t.set j (.sl m.length 0 0 0 false)) (m ++ [.row sz []]) Q) : SemW P n k0 k t m Q := by
  intro cs hcs A φ σ a w hG
  have hV := hG.virt sz
  obtain ⟨v', g1, g2⟩ := hG.tr j _ hj
  cases g2
  rename_i ad
  have hlt : j < a.tmps.size := by
    rcases Nat.lt_or_ge j a.tmps.size with h | h
    · exact h
    · rw [Array.getElem?_eq_none h] at g1; cases g1
  have hsame : a.tmps.setIfInBounds j (.slice ad 0 0) = a.tmps := by
    apply Array.ext'
    apply List.ext_getElem?
    intro q
    rw [Array.toList_setIfInBounds, List.getElem?_set]
    split
    · rename_i e; subst e
      have : a.tmps.toList[j]? = some (.slice ad 0 0) := by simpa using g1
      rw [this]; simp [hlt]
    · rfl
  refine h cs hcs A φ σ a w ⟨hV.fz, hV.sg, hV.inv, ?_, hV.sz, hV.df, hV.grow, hV.kept, hV.own, hV.len, hV.ice, hV.env⟩
  have := hV.tr.set hlt (v := .sl m.length 0 0 0 false) (v' := .slice ad 0 0) .sl0
  rwa [hsame] at this
/-- Arguments told otherwise. -/
theorem Tri.recast {f : FuncId} {args args' : List AV} {m : Mem} {K : AV → Mem → Prop} (h : Tri P f args' m K) (hc : ∀ φ σ vs, VRs φ σ args vs → VRs φ σ args' vs) : Tri P f args m K :=
  ⟨h.1, fun φ σ w vs hI hv => h.2 φ σ w vs hI (hc φ σ vs hv)⟩
/-- A nil slice is a value of no elements. -/
theorem VR.nilv {φ : Fz} {σ : Sg} {v : Value} (sz : Nat) (t : Bool) (h : VR φ σ .nilsl v) : VR φ σ (.vsl sz [] t) v := by cases h; exact .vsl0
theorem Tri.nil1 {f : FuncId} {m : Mem} {K : AV → Mem → Prop} (sz : Nat) (t : Bool) (h : Tri P f [.vsl sz [] t] m K) : Tri P f [.nilsl] m K :=
  h.recast fun φ σ vs hv => by cases hv with | cons h1 h2 => exact .cons (h1.nilv sz t) h2
end Go.AE
