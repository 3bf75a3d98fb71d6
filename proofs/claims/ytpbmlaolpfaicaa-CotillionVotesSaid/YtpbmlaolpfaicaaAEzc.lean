/- The abstract evaluator: AEzc in one. -/
import Derived.Test.YtpbmlaolpfaicaaAEzb
/- The abstract evaluator, part zc: a row's block told under a new number; a nil slice in a variable told as a row of no elements. -/
namespace Go.AE
open Go
set_option linter.unusedVariables false
set_option linter.unusedSimpArgs false

variable {P : Program} {n k0 : Nat}

def mvL : Nat → Nat → Nat → List Nat
  | 0, _, _ => []
  | l + 1, i, b => bif Nat.beq i b then (i + l + 1) :: mvL l (i + 1) b else i :: mvL l (i + 1) b
def renT (π : List Nat) (N : Nat) : Tr → Tr
  | .lf => .lf
  | .nd l v r => match v with
    | some v => .nd (renT π N l) (some (ren π N v)) (renT π N r)
    | none => .nd (renT π N l) none (renT π N r)
def renM (π : List Nat) (N : Nat) : Mem → Mem
  | [] => []
  | k :: m => renB π N k :: renM π N m
theorem mvL_get : ∀ (l i b j : Nat), j < l → (mvL l i b)[j]? = some (if i + j = b then i + l else i + j)
  | 0, i, b, j, h => by omega
  | l + 1, i, b, 0, h => by
    simp only [mvL]
    cases hb : Nat.beq i b with
    | true => simp [Nat.eq_of_beq_eq_true hb, Nat.add_assoc]
    | false => simp; intro e; rw [e, Nat.beq_refl] at hb; cases hb
  | l + 1, i, b, j + 1, h => by
    have ih := mvL_get l (i + 1) b j (by omega)
    have e : (if i + 1 + j = b then i + 1 + l else i + 1 + j) = (if i + (j + 1) = b then i + (l + 1) else i + (j + 1)) := by
      by_cases h : i + 1 + j = b
      · rw [if_pos h, if_pos (by omega)]; omega
      · rw [if_neg h, if_neg (by omega)]; omega
    simp only [mvL]
    cases Nat.beq i b <;> simp [ih, e]
theorem mvL_len : ∀ (l i b : Nat), (mvL l i b).length = l
  | 0, _, _ => rfl
  | l + 1, i, b => by simp only [mvL]; cases Nat.beq i b <;> simp [mvL_len l (i + 1) b]
theorem rid_mv {N b j : Nat} : rid (mvL N 0 b) N j = if j < N ∧ j = b then N else j := by
  by_cases hj : j < N
  · obtain ⟨p, h1, h2⟩ := rid_lt (π := mvL N 0 b) (N := N) (j := j) (by rw [mvL_len]; exact hj)
    rw [mvL_get N 0 b j hj] at h1
    simp at h1
    rw [h2, ← h1]
    by_cases e : j = b
    · simp [e, e ▸ hj]
    · simp [e]
  · rw [rid_ge (by rw [mvL_len]; omega), mvL_len]
    rw [if_neg (by omega)]; omega
theorem renT_get {π : List Nat} {N : Nat} : ∀ {t : Tr} {i : Nat}, (renT π N t).get i = (t.get i).map (ren π N)
  | .lf, i => rfl
  | .nd l v r, 0 => by cases v <;> rfl
  | .nd l v r, i + 1 => by
    cases v <;> simp only [renT, Tr.get] <;> cases (i % 2 == 0) <;> simp only [cond_true, cond_false, renT_get]
theorem renM_get {π : List Nat} {N : Nat} : ∀ {m : Mem} {i : Nat}, (renM π N m)[i]? = m[i]?.map (renB π N)
  | [], i => by simp [renM]
  | k :: m, 0 => by simp [renM]
  | k :: m, i + 1 => by simp [renM, renM_get]
theorem renM_len {π : List Nat} {N : Nat} : ∀ {m : Mem}, (renM π N m).length = m.length
  | [] => rfl
  | k :: m => by simp [renM, renM_len]
theorem sem_move (b : Nat) {k : List C} {t : Tr} {m : Mem} {Q : Exit → Tr → Mem → Prop} {sz : Nat} {xs : List (List AV)} (hb : mg m b = .row sz xs)
    (h : SemW P n k0 k (renT (mvL m.length 0 b) m.length t) (ms (renM (mvL m.length 0 b) m.length m) b .gone ++ [.row sz xs]) Q) : SemW P n k0 k t m Q := by
  intro cs hcs A φ σ a w hG
  have hI := hG.inv
  have hbm := mg_get hb rfl
  have hbl : b < m.length := by
    rcases Nat.lt_or_ge b m.length with h | h
    · exact h
    · rw [List.getElem?_eq_none h] at hbm; cases hbm
  generalize hN : m.length = N at *
  have hσ : ∀ c i, σ c = some i → (σ.upd N (σ b)) (rid (mvL N 0 b) N c) = some i := by
    intro c i hc
    rw [rid_mv]
    by_cases e : c < N ∧ c = b
    · rw [if_pos e]; simp [Sg.upd, ← e.2, hc]
    · rw [if_neg e]
      have : c ≠ N := by
        rintro rfl
        rw [hI.fresh _ (by omega)] at hc; cases hc
      simp [Sg.upd, this, hc]
  have blks : ∀ (c : Nat) (l : Blk), (ms (renM (mvL N 0 b) N m) b .gone ++ [.row sz xs])[c]? = some l → l.owned = true →
      (c < N ∧ c ≠ b ∧ ∃ l0, m[c]? = some l0 ∧ l0.owned = true ∧ l = renB (mvL N 0 b) N l0 ∧ σ.upd N (σ b) c = σ c) ∨ (c = N ∧ l = .row sz xs ∧ σ.upd N (σ b) c = σ b) := by
    intro c l hc hl
    rcases app_get hc with hc | ⟨e, rfl⟩
    · rcases ms_get _ _ _ _ _ hc with ⟨_, e⟩ | ⟨hne, hc⟩
      · subst e; cases hl
      · rw [renM_get] at hc
        rw [Option.map_eq_some_iff] at hc
        obtain ⟨l0, h1, rfl⟩ := hc
        rw [renB_owned] at hl
        have hcN : c < N := by
          rcases Nat.lt_or_ge c m.length with h | h
          · omega
          · rw [List.getElem?_eq_none h] at h1; cases h1
        exact .inl ⟨hcN, hne, l0, h1, hl, rfl, by simp [Sg.upd, Nat.ne_of_lt hcN]⟩
    · rw [ms_len, renM_len, hN] at e
      exact .inr ⟨e, rfl, by simp [Sg.upd, e]⟩
  refine h cs hcs A φ (σ.upd N (σ b)) a w ⟨hG.fz, fun c hc => ?_, ⟨hI.fz, fun c l hc => ?_, fun c d l l' i j hc hd hl hl' hi hj hne => ?_, fun c l i hc hl hi => ?_, fun c hc => ?_⟩, fun i v hv => ?_, hG.sz, hG.df, hG.grow, hG.kept, fun c l i hc hl hi => ?_, ?_, hG.ice, hG.env⟩
  · have := hG.len
    have : c ≠ N := by omega
    simp only [Sg.upd, this, if_false]; exact hG.sg c hc
  · cases hl : l.owned with
    | false => cases l <;> simp [Blk.owned] at hl; trivial
    | true =>
      rcases blks c l hc hl with ⟨h1, h2, l0, h3, h4, rfl, h5⟩ | ⟨h1, rfl, h2⟩
      · rw [h5]; exact renB_ok hσ (hI.blk c l0 h3)
      · rw [h2]; exact hI.blk b _ hbm
  · rcases blks c l hc hl with ⟨h1, h2, l0, h3, h4, rfl, h5⟩ | ⟨h1, rfl, h2⟩ <;> rcases blks d l' hd hl' with ⟨g1, g2, g0, g3, g4, rfl, g5⟩ | ⟨g1, rfl, g2⟩
    · rw [h5] at hi; rw [g5] at hj; exact hI.inj c d l0 g0 i j h3 g3 h4 g4 hi hj hne
    · rw [h5] at hi; rw [g2] at hj; exact hI.inj c b l0 _ i j h3 hbm h4 rfl hi hj h2
    · rw [h2] at hi; rw [g5] at hj; exact hI.inj b d _ g0 i j hbm g3 rfl g4 hi hj (Ne.symm g2)
    · omega
  · rcases blks c l hc hl with ⟨h1, h2, l0, h3, h4, rfl, h5⟩ | ⟨h1, rfl, h2⟩
    · rw [h5] at hi; exact hI.apart c l0 i h3 h4 hi
    · rw [h2] at hi; exact hI.apart b _ i hbm rfl hi
  · rw [List.length_append, ms_len, renM_len, hN] at hc
    simp at hc
    have : c ≠ N := by omega
    simp only [Sg.upd, this, if_false]; exact hI.fresh c (by omega)
  · rw [renT_get, Option.map_eq_some_iff] at hv
    obtain ⟨v0, h1, rfl⟩ := hv
    obtain ⟨v', h2, h3⟩ := hG.tr i v0 h1
    exact ⟨v', h2, ren_ok h3 hσ⟩
  · rcases blks c l hc hl with ⟨h1, h2, l0, h3, h4, rfl, h5⟩ | ⟨h1, rfl, h2⟩
    · rw [h5] at hi; exact hG.own c l0 i h3 h4 hi
    · rw [h2] at hi; exact hG.own b _ i hbm rfl hi
  · rw [List.length_append, ms_len, renM_len]
    have := hG.len; simp; omega
theorem lg_ls_VRs {φ : Fz} {σ : Sg} {u : AV} (hu : ∀ x, VR φ σ .nilsl x → VR φ σ u x) : ∀ {cs : List AV} {vs : List Value} {j : Nat}, VRs φ σ cs vs → lg cs j = some .nilsl → VRs φ σ (ls cs j u) vs
  | _, _, 0, .cons h ht, hj => by simp only [lg, Option.some.injEq] at hj; subst hj; exact .cons (hu _ h) ht
  | _, _, j + 1, .cons h ht, hj => .cons h (lg_ls_VRs hu ht hj)
  | _, _, _, .nil, hj => by simp [lg] at hj
theorem sem_nilbox (b j sz : Nat) {k : List C} {t : Tr} {m : Mem} {Q : Exit → Tr → Mem → Prop} {cs : List AV} (hb : mg m b = .box cs) (hj : lg cs j = some .nilsl)
    (h : SemW P n k0 k t (ms m b (.box (ls cs j (.sl m.length 0 0 0 false))) ++ [.row sz []]) Q) : SemW P n k0 k t m Q := by
  intro c0 hcs A φ σ a w hG
  have hbm := mg_get hb rfl
  have hI := hG.inv
  have hbl : b < m.length := by
    rcases Nat.lt_or_ge b m.length with h | h
    · exact h
    · rw [List.getElem?_eq_none h] at hbm; cases hbm
  have hG1 : Good A n k0 φ σ (ms m b (.box (ls cs j (.sl m.length 0 0 0 false)))) w t a := by
    have bl : ∀ (c : Nat) (l : Blk), (ms m b (.box (ls cs j (.sl m.length 0 0 0 false))))[c]? = some l → ∃ l0, m[c]? = some l0 ∧ l.owned = l0.owned ∧ (BM φ σ w (σ c) l0 → BM φ σ w (σ c) l) := by
      intro c l hc
      rcases ms_get _ _ _ _ _ hc with ⟨e, e2⟩ | ⟨_, hc⟩
      · subst e; subst e2
        refine ⟨_, hbm, rfl, fun h => ?_⟩
        obtain ⟨img, c1, e, fr, h1, h2, h3, h4, h5, h6⟩ := h
        exact ⟨img, c1, e, fr, h1, h2, h3, h4, lg_ls_VRs (fun x hx => by cases hx; exact .sl0) h5 hj, h6⟩
      · exact ⟨l, hc, rfl, id⟩
    refine ⟨hG.fz, hG.sg, ⟨hI.fz, fun c l hc => ?_, fun c d l l' i j hc hd hl hl' hi hj hne => ?_, fun c l i hc hl hi => ?_, fun c hc => hI.fresh c (by rw [ms_len] at hc; exact hc)⟩, hG.tr, hG.sz, hG.df, hG.grow, hG.kept, fun c l i hc hl hi => ?_, by rw [ms_len]; exact hG.len, hG.ice, hG.env⟩
    · obtain ⟨l0, h1, h2, h3⟩ := bl c l hc
      exact h3 (hI.blk c l0 h1)
    · obtain ⟨l0, h1, h2, _⟩ := bl c l hc
      obtain ⟨g0, g1, g2, _⟩ := bl d l' hd
      exact hI.inj c d l0 g0 i j h1 g1 (by rw [← h2]; exact hl) (by rw [← g2]; exact hl') hi hj hne
    · obtain ⟨l0, h1, h2, _⟩ := bl c l hc
      exact hI.apart c l0 i h1 (by rw [← h2]; exact hl) hi
    · obtain ⟨l0, h1, h2, _⟩ := bl c l hc
      exact hG.own c l0 i h1 (by rw [← h2]; exact hl) hi
  exact h c0 hcs A φ σ a w (hG1.virt sz)
attribute [go_sem] mvL renT renM rid slLen
end Go.AE
