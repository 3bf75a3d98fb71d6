/- The abstract evaluator: AEsa in one. -/
import Derived.Test.YthdkobfafncpcaaAEs
/- The abstract evaluator, part sa: a law's arguments, of any plain type (whole numbers, truth values, texts, structs and slices of such). -/
namespace Go.AE
open Go Go.ChangeShapes Go.WideShapes
set_option linter.unusedVariables false
set_option linter.unusedSimpArgs false

inductive Sh where
  | int (k : IntKind) | bool | str | sl (es : List Sh)
mutual
def Has : Sh → AV → Prop
  | .int k, a => ∃ n, a = .int k n ∧ (Lit.int k n).wf = true
  | .bool, a => ∃ b, a = .bsym b
  | .str, a => ∃ s : List UInt8, a = .str s ∧ s.length ≤ 9223372036854775807
  | .sl es, a => ∃ xs, a = .vsl es.length xs false ∧ xs.length ≤ 9223372036854775807 ∧ ∀ x ∈ xs, HasL es x
def HasL : List Sh → List AV → Prop
  | [], as => as = []
  | s :: ss, as => ∃ a r, as = a :: r ∧ Has s a ∧ HasL ss r
end
theorem HasL.append : ∀ {ss rs : List Sh} {as bs : List AV}, HasL ss as → HasL rs bs → HasL (ss ++ rs) (as ++ bs)
  | [], rs, as, bs, h, h' => by
    simp only [HasL] at h; subst h; exact h'
  | s :: ss, rs, as, bs, h, h' => by
    simp only [HasL] at h
    obtain ⟨a, r, rfl, h1, h2⟩ := h
    simp only [List.cons_append, HasL]
    exact ⟨a, r ++ bs, rfl, h1, h2.append h'⟩
theorem Has.one {s : Sh} {as : List AV} (h : HasL [s] as) : ∃ a, as = [a] ∧ Has s a := by
  simp only [HasL] at h
  obtain ⟨a, r, rfl, h1, rfl⟩ := h
  exact ⟨a, rfl, h1⟩
theorem HasL.ones {φ : Fz} {σ : Sg} : ∀ {ss : List Sh} {as : List AV} {vs : List Value}, HasL ss as → VRs φ σ as vs → as.length = ss.length ∧ ∀ u ∈ vs, u.oneCell' = true
  | [], as, vs, h, hv => by
    simp only [HasL] at h; subst h; cases hv; simp
  | s :: ss, as, vs, h, hv => by
    simp only [HasL] at h
    obtain ⟨a, r, rfl, h1, h2⟩ := h
    cases hv with
    | cons hv ht =>
      obtain ⟨q1, q2⟩ := h2.ones ht
      refine ⟨by simp [q1], fun u hu => ?_⟩
      rcases List.mem_cons.1 hu with rfl | hu
      · cases s <;> simp only [Has] at h1
        · obtain ⟨n, rfl, _⟩ := h1; cases hv; rfl
        · obtain ⟨n, rfl⟩ := h1; cases hv; rfl
        · obtain ⟨n, rfl, _⟩ := h1; cases hv; rfl
        · obtain ⟨n, rfl, _⟩ := h1; cases hv <;> rfl
      · exact q2 u hu

theorem HasL.len : ∀ {ss : List Sh} {as : List AV}, HasL ss as → as.length = ss.length
  | [], as, h => by simp only [HasL] at h; subst h; rfl
  | s :: ss, as, h => by
    simp only [HasL] at h
    obtain ⟨a, r, rfl, _, h2⟩ := h
    simp [h2.len]
end Go.AE
