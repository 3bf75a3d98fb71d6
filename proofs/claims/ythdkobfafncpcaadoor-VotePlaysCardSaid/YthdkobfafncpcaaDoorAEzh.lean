/- The abstract evaluator: AEzh in one. -/
import Derived.Test.YthdkobfafncpcaaDoorAEzg
/- The abstract evaluator, part zh: regions in which a new variable may come ahead of a call, or behind it: two orders. -/
namespace Go.AE
open Go
set_option linter.unusedVariables false
set_option linter.unusedSimpArgs false

variable {P : Program} {n k0 : Nat} {r : List It} {T : List (Nat × Nat)} {ord0 ord1 pre ord : List (Nat × Bool)} {A : Anch} {listed : Array Bool} {lag : List (Nat × AV)} {t : Tr} {m : Mem} {φ : Fz} {σ : Sg} {a : Act} {w : World}

def DX1 (P : Program) (r : List It) (R : RF) (i : Nat) (s : Bool) (lag : List (Nat × AV)) (t : Tr) (m : Mem) : Prop := match ig r i with
    | none => False
    | some (g, d, o, ps) => match gk t g with
      | .stuck => False
      | .yes => goW P r i s d o ps lag t m R
      | .no => skipW r i s d ps lag t m R
      | .fork j q w => Nat.blt j 4000 = true ∧
        (q = true → Re r lag (t.set j (.bool true)) m ∧ (bif w then goW P r i s d o ps lag (t.set j (.bool true)) m R else skipW r i s d ps lag (t.set j (.bool true)) m R)) ∧
        (q = false → Re r lag (t.set j (.bool false)) m ∧ (bif w then skipW r i s d ps lag (t.set j (.bool false)) m R else goW P r i s d o ps lag (t.set j (.bool false)) m R))
theorem DX1_head {R : RF} {i : Nat} {s : Bool} (D : DS r A n k0 ord0 listed pre ord lag t m φ σ a w) (h : DX1 P r R i s lag t m) {g : Option (Nat × Bool)} {d : Option Nat} {c : O} {ps : List Nat} (hit : ig r i = some (g, d, c, ps)) :
    ∃ t', DS r A n k0 ord0 listed pre ord lag t' m φ σ a w ∧ ((gk t' g = .yes ∧ goW P r i s d c ps lag t' m R) ∨ (gk t' g = .no ∧ skipW r i s d ps lag t' m R)) := by
  simp only [DX1, hit] at h
  cases hg : gk t g with
  | stuck => rw [hg] at h; exact h.elim
  | yes => rw [hg] at h; exact ⟨t, D, .inl ⟨hg, h⟩⟩
  | no => rw [hg] at h; exact ⟨t, D, .inr ⟨hg, h⟩⟩
  | fork j q b =>
    rw [hg] at h
    obtain ⟨hlt, h1, h2⟩ := h
    obtain ⟨rfl, hj⟩ := gk_fork hg
    have hjl : j + 1 < 2 ^ 12 := by have := Nat.le_of_ble_eq_true hlt; omega
    cases q with
    | true =>
      obtain ⟨hre, h⟩ := h1 rfl
      refine ⟨_, D.fork hj rfl hre, ?_⟩
      have e : (t.set j (.bool true)).get j = some (.bool true) := Tr.put_get 12 t j _ hjl
      cases b with
      | true => exact .inl ⟨by simp only [gk, e], h⟩
      | false => exact .inr ⟨by simp only [gk, e], h⟩
    | false =>
      obtain ⟨hre, h⟩ := h2 rfl
      refine ⟨_, D.fork hj rfl hre, ?_⟩
      have e : (t.set j (.bool false)).get j = some (.bool false) := Tr.put_get 12 t j _ hjl
      cases b with
      | true => exact .inr ⟨by simp only [gk, e], h⟩
      | false => exact .inl ⟨by simp only [gk, e], h⟩
theorem none_ready {ops : Array Oper} {E : Nat → Nat → Bool} (H : DOk P n ops r T ord0 E) : ∀ (listed : Array Bool), listed.size = ops.size → Region.ready .any ops listed = [] → ∀ i, i < ops.size → listed.getD i false = true := by
  intro listed hsz hr
  have first : ∀ (pre ord : List (Nat × Bool)), ord0 = pre ++ ord → (∀ x ∈ pre, listed.getD x.1 false = true) → ∀ x ∈ ord, listed.getD x.1 false = true := by
    intro pre ord
    induction ord generalizing pre with
    | nil => intro _ _ x hx; cases hx
    | cons y ord ih =>
      intro e hpre
      have hy : listed.getD y.1 false = true := by
        obtain ⟨it, hit, h2, _⟩ := H.ord pre y.1 y.2 ord e
        cases hyl : listed.getD y.1 false with
        | true => rfl
        | false =>
          exfalso
          have hylt := H.bnd y.1 it hit
          have hin : y.1 ∈ Region.ready .any ops listed := by
            rw [mem_ready]
            refine ⟨?_, ops[y.1], by simp [hylt], fun e' he' hb' => ?_⟩
            · have : y.1 < listed.size := by omega
              simp [this] at hyl ⊢; exact hyl
            · obtain ⟨g, d, c, _, q2⟩ := H.it y.1 ops[y.1] (by simp [hylt])
              rw [hit] at q2; cases q2
              obtain ⟨x, hx, hxe⟩ := h2 e'.on (by
                unfold preds
                exact List.mem_filterMap.2 ⟨e', by simpa using he', by simp [hb']⟩)
              rw [← hxe]; exact hpre x hx
          rw [hr] at hin; cases hin
      intro x hx
      rcases List.mem_cons.1 hx with rfl | hx
      · exact hy
      · exact ih (pre ++ [y]) (by rw [e]; simp) (fun z hz => by
          rcases List.mem_append.1 hz with hz | hz
          · exact hpre z hz
          · simp at hz; rw [hz]; exact hy) x hx
  intro i hi
  obtain ⟨s, hs⟩ := H.all i hi
  exact first [] ord0 rfl (fun x hx => by cases hx) (i, s) hs
end Go.AE
