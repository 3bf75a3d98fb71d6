/- The abstract evaluator, part zk: a row whose first elements nobody reads any more is told without them. -/
import Derived.Test.YtcenagdeejbmgaaAEzj
namespace Go.AE
open Go
set_option linter.unusedVariables false
set_option linter.unusedSimpArgs false

variable {P : Program} {n k0 : Nat}

mutual
def shV (b N k : Nat) : AV → AV
  | .sl b' i n c t => match Nat.beq b' b, Nat.ble k i with
    | true, true => .sl N (i - k) n c t
    | _, _ => .sl b' i n c t
  | .agg vs => .agg (shL b N k vs)
  | v => v
def shL (b N k : Nat) : List AV → List AV
  | [] => []
  | v :: vs => shV b N k v :: shL b N k vs
end
def shT (b N k : Nat) : Tr → Tr
  | .lf => .lf
  | .nd l v r => match v with
    | some v => .nd (shT b N k l) (some (shV b N k v)) (shT b N k r)
    | none => .nd (shT b N k l) none (shT b N k r)
def shB (b N k : Nat) : Blk → Blk
  | .box cs => .box (shL b N k cs)
  | l => l
def shM (b N k : Nat) : Mem → Mem
  | [] => []
  | l :: m => shB b N k l :: shM b N k m
mutual
theorem shV_ok {φ : Fz} {σ σ' : Sg} {b N k : Nat} (hσ : σ.le σ') (hN : ∀ img, σ b = some img → σ' N = some ⟨img.B, img.o + k * img.sz, img.sz, img.cap⟩) :
    ∀ {v : AV} {v' : Value}, VR φ σ v v' → VR φ σ' (shV b N k v) v' := by
  intro v v' h
  have old := h.mono (Fz.le_refl φ) hσ
  unfold shV
  split
  · rename_i b' i n c t
    split
    · rename_i hb hk
      have hb := Nat.eq_of_beq_eq_true hb
      have hk := Nat.le_of_ble_eq_true hk
      subst hb
      cases h with
      | sl hi h1 h2 h3 h4 =>
        rename_i cap' img
        have := VR.sl (φ := φ) (σ := σ') (i := i - k) (hN img hi) h1 h2 h3 (by
          simp only
          have e1 : (i + cap') * img.sz = k * img.sz + (i - k + cap') * img.sz := by rw [← Nat.add_mul]; congr 1; omega
          omega)
        simp only at this
        rw [show img.o + k * img.sz + (i - k) * img.sz = img.o + i * img.sz by rw [Nat.add_assoc, ← Nat.add_mul]; congr 2; omega] at this
        exact this
      | sl0 => exact .sl0
    · exact old
  · rename_i vs
    cases h with
    | agg h => exact .agg (shL_ok hσ hN h)
  · exact old
theorem shL_ok {φ : Fz} {σ σ' : Sg} {b N k : Nat} (hσ : σ.le σ') (hN : ∀ img, σ b = some img → σ' N = some ⟨img.B, img.o + k * img.sz, img.sz, img.cap⟩) :
    ∀ {vs : List AV} {us : List Value}, VRs φ σ vs us → VRs φ σ' (shL b N k vs) us
  | [], _, .nil => .nil
  | v :: vs, _, .cons h ht => .cons (shV_ok hσ hN h) (shL_ok hσ hN ht)
end
theorem shT_get {b N k : Nat} : ∀ {t : Tr} {i : Nat}, (shT b N k t).get i = (t.get i).map (shV b N k)
  | .lf, i => rfl
  | .nd l v r, 0 => by cases v <;> rfl
  | .nd l v r, i + 1 => by
    cases v <;> simp only [shT, Tr.get] <;> cases (i % 2 == 0) <;> simp only [cond_true, cond_false, shT_get]
theorem shM_get {b N k : Nat} : ∀ {m : Mem} {i : Nat}, (shM b N k m)[i]? = m[i]?.map (shB b N k)
  | [], i => by simp [shM]
  | l :: m, 0 => by simp [shM]
  | l :: m, i + 1 => by simp [shM, shM_get]
theorem shM_len {b N k : Nat} : ∀ {m : Mem}, (shM b N k m).length = m.length
  | [] => rfl
  | l :: m => by simp [shM, shM_len (m := m)]
theorem shB_owned {b N k : Nat} (l : Blk) : (shB b N k l).owned = l.owned := by cases l <;> rfl
/-- A row is told without its first k elements, under a new number. -/
theorem sem_drop (b d : Nat) {k : List C} {t : Tr} {m : Mem} {Q : Exit → Tr → Mem → Prop} {sz : Nat} {xs : List (List AV)} (hm : mg m b = .row sz xs) (hdx : d ≤ xs.length)
    (h : SemW P n k0 k (shT b m.length d t) (shM b m.length d (ms m b .gone) ++ [.row sz (xs.drop d)]) Q) : SemW P n k0 k t m Q := by
  intro cs hcs A φ σ a w hG
  have hI := hG.inv
  have hb := mg_get hm rfl
  have hB := hI.blk b _ hb
  have hbl : b < m.length := by
    rcases Nat.lt_or_ge b m.length with h | h
    · exact h
    · rw [List.getElem?_eq_none h] at hb; cases hb
  let im : Option Img := (σ b).map fun img => ⟨img.B, img.o + d * img.sz, img.sz, img.cap⟩
  generalize hN : m.length = N at *
  have hσ : σ.le (σ.upd N im) := fun c i hc => by
    have : c ≠ N := by
      rintro rfl
      rw [hI.fresh _ (by omega)] at hc; cases hc
    simp [Sg.upd, this, hc]
  have hσN : ∀ img, σ b = some img → (σ.upd N im) N = some ⟨img.B, img.o + d * img.sz, img.sz, img.cap⟩ := fun img hi => by simp [Sg.upd, im, hi]
  have hone : ∀ c, c ≠ N → σ.upd N im c = σ c := fun c hc => by simp [Sg.upd, hc]
  have hNew : BM φ (σ.upd N im) w im (.row sz (xs.drop d)) := by
    rcases hB with ⟨h1, h2⟩ | ⟨img, c, e, fr, hi, hs, hh, hc, hl, ho, hx, hpl⟩
    · exact .inl ⟨by simp [h1], by simp [im, h2]⟩
    · have e1 : d * sz + (xs.length - d) * sz = xs.length * sz := by rw [← Nat.add_mul]; congr 1; omega
      refine .inr ⟨⟨img.B, img.o + d * img.sz, img.sz, img.cap⟩, c, e, fr, by simp [im, hi], hs, hh, hc, ?_, ?_, fun i x hxi => ?_, hpl⟩
      · simp only [List.length_drop, hs]; omega
      · simp only [List.length_drop, hs]
        exact fun p u q1 q2 q3 => ho p u (by omega) (by omega) q3
      · rw [List.getElem?_drop] at hxi
        have := hx _ _ hxi
        simp only [hs]
        rw [show img.o + d * sz + i * sz = img.o + (d + i) * sz by rw [Nat.add_mul]; omega]
        exact this
  -- the blocks of the new memory
  have blks : ∀ (c : Nat) (l : Blk), (shM b N d (ms m b .gone) ++ [.row sz (xs.drop d)])[c]? = some l → l.owned = true →
      (c ≠ N ∧ c ≠ b ∧ ∃ l0, m[c]? = some l0 ∧ l0.owned = true ∧ l = shB b N d l0) ∨ (c = N ∧ l = .row sz (xs.drop d)) := by
    intro c l hc hl
    rcases app_get hc with hc | ⟨e, rfl⟩
    · have hcN : c ≠ N := by
        rintro rfl
        rw [List.getElem?_eq_none (by rw [shM_len, ms_len]; omega)] at hc; cases hc
      left
      rw [shM_get, Option.map_eq_some_iff] at hc
      obtain ⟨l0, h1, rfl⟩ := hc
      rw [shB_owned] at hl
      rcases ms_get _ _ _ _ _ h1 with ⟨_, h4⟩ | ⟨h4, h5⟩
      · subst h4; cases hl
      · exact ⟨hcN, h4, _, h5, hl, rfl⟩
    · rw [shM_len, ms_len, hN] at e
      exact .inr ⟨e, rfl⟩
  have himg : ∀ i : Img, im = some i → ∃ img, σ b = some img ∧ i.B = img.B := by
    intro i hi
    simp only [im, Option.map_eq_some_iff] at hi
    obtain ⟨img, h1, rfl⟩ := hi
    exact ⟨img, h1, rfl⟩
  have hNN : σ.upd N im N = im := by simp [Sg.upd]
  refine h cs hcs A φ (σ.upd N im) a w ⟨hG.fz, fun c hc => ?_, ⟨hI.fz, fun c l hc => ?_, fun c d l l' i j hc hd hl hl' hi hj hne => ?_, fun c l i hc hl hi => ?_, fun c hc => ?_⟩, fun i v hv => ?_, hG.sz, hG.df, hG.grow, hG.kept, fun c l i hc hl hi => ?_, ?_, hG.ice, hG.env⟩
  · have := hG.len
    rw [hone c (by omega)]; exact hG.sg c hc
  · cases hl : l.owned with
    | false => cases l <;> simp [Blk.owned] at hl; trivial
    | true =>
      rcases blks c l hc hl with ⟨h1, h2, l0, h3, h4, h5⟩ | ⟨rfl, rfl⟩
      · rw [hone c h1]
        have h6 := hI.blk c l0 h3
        subst h5
        cases l0 with
        | box vs =>
          obtain ⟨img, q, e, fr, q1, q2, q3, q4, q5, q6⟩ := h6
          exact ⟨img, q, e, fr, q1, q2, q3, q4, shL_ok hσ hσN q5, q6⟩
        | row s ys => exact h6.frame (Fz.le_refl _) hσ fun _ _ => rfl
        | map es => exact h6.frame (Fz.le_refl _) hσ fun _ _ => rfl
        | mapb bm cl bs es => exact h6.frame (Fz.le_refl _) hσ fun _ _ => rfl
        | iter bm si se st => exact h6.frame (Fz.le_refl _) hσ fun _ _ => rfl
        | gone => trivial
      · rw [hNN]; exact hNew
  · rcases blks c l hc hl with ⟨h1, h2, l0, h3, h4, h5⟩ | ⟨rfl, rfl⟩ <;> rcases blks d l' hd hl' with ⟨g1, g2, g0, g3, g4, g5⟩ | ⟨rfl, rfl⟩
    · rw [hone c h1] at hi; rw [hone d g1] at hj; exact hI.inj c d l0 g0 i j h3 g3 h4 g4 hi hj hne
    · rw [hone c h1] at hi; rw [hNN] at hj
      obtain ⟨img, e1, e2⟩ := himg j hj
      rw [e2]; exact hI.inj c b l0 _ i img h3 hb h4 rfl hi e1 h2
    · rw [hNN] at hi; rw [hone d g1] at hj
      obtain ⟨img, e1, e2⟩ := himg i hi
      rw [e2]; exact hI.inj b d _ g0 img j hb g3 rfl g4 e1 hj (Ne.symm g2)
    · exact absurd rfl hne
  · rcases blks c l hc hl with ⟨h1, h2, l0, h3, h4, h5⟩ | ⟨rfl, rfl⟩
    · rw [hone c h1] at hi; exact hI.apart c l0 i h3 h4 hi
    · rw [hNN] at hi
      obtain ⟨img, e1, e2⟩ := himg i hi
      rw [e2]; exact hI.apart b _ img hb rfl e1
  · rw [List.length_append, shM_len, ms_len, hN] at hc
    simp at hc
    rw [hone c (by omega)]; exact hI.fresh c (by omega)
  · rw [shT_get, Option.map_eq_some_iff] at hv
    obtain ⟨u, h1, rfl⟩ := hv
    obtain ⟨v', g1, g2⟩ := hG.tr i u h1
    exact ⟨v', g1, shV_ok hσ hσN g2⟩
  · rcases blks c l hc hl with ⟨h1, h2, l0, h3, h4, h5⟩ | ⟨rfl, rfl⟩
    · rw [hone c h1] at hi; exact hG.own c l0 i h3 h4 hi
    · rw [hNN] at hi
      obtain ⟨img, e1, e2⟩ := himg i hi
      rw [e2]; exact hG.own b _ img hb rfl e1
  · rw [List.length_append, shM_len, ms_len]
    have := hG.len; simp; omega
attribute [go_sem] shT shM shB shV shL Nat.ble
end Go.AE
