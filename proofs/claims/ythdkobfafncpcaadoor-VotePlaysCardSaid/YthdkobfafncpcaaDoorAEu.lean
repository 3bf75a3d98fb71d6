/- The abstract evaluator: AEt, AEu in one. -/
import Derived.Test.YthdkobfafncpcaaDoorAEs
/- The abstract evaluator, part t: a row of one's own that nobody writes any more becomes a value. -/
namespace Go.AE
open Go
set_option linter.unusedVariables false
set_option linter.unusedSimpArgs false

variable {P : Program} {n k0 : Nat}

mutual
def fzV (b sz : Nat) (xs : List (List AV)) : AV → Prop × AV
  | .sl b' i n c t => match Nat.beq b' b with
    | true => (i + n ≤ xs.length, .vsl sz (sub xs i n) false)
    | false => (True, .sl b' i n c t)
  | .agg vs => match fzL b sz xs vs with
    | (p, vs') => (p, .agg vs')
  | v => (True, v)
def fzL (b sz : Nat) (xs : List (List AV)) : List AV → Prop × List AV
  | [] => (True, [])
  | v :: vs => match fzV b sz xs v, fzL b sz xs vs with
    | (p, v'), (q, vs') => (p ∧ q, v' :: vs')
end
def fzT (b sz : Nat) (xs : List (List AV)) : Tr → Prop × Tr
  | .lf => (True, .lf)
  | .nd l v r => match fzT b sz xs l, fzT b sz xs r with
    | (p, l'), (q, r') => match v with
      | some v => match fzV b sz xs v with
        | (s, v') => (s ∧ p ∧ q, .nd l' (some v') r')
      | none => (p ∧ q, .nd l' none r')
def fzM (b sz : Nat) (xs : List (List AV)) : Mem → Prop × Mem
  | [] => (True, [])
  | .box cs :: m => match fzL b sz xs cs, fzM b sz xs m with
    | (p, cs'), (q, m') => (p ∧ q, .box cs' :: m')
  | k :: m => match fzM b sz xs m with
    | (q, m') => (q, k :: m')
def fzA (b : Nat) (t : Tr) (m : Mem) : Option (Prop × Tr × Mem) := match mg m b with
  | .row sz xs => match fzT b sz xs t, fzM b sz xs (ms m b .gone) with
    | (p, t'), (q, m') => some (p ∧ q, t', m')
  | _ => none

structure Fzn (φ φ' : Fz) (σ : Sg) (b sz : Nat) (xs : List (List AV)) : Prop where
  le : φ.le φ'
  row : xs = [] ∧ σ b = none ∨ ∃ img c e fr, σ b = some img ∧ img.sz = sz ∧ φ' img.B = some (.cells c e fr) ∧ img.o + xs.length * sz ≤ c.size ∧ Ones c img.o (img.o + xs.length * sz) ∧
    ∀ i x, xs[i]? = some x → VRs φ' noS x ((c.toList.drop (img.o + i * sz)).take sz)

mutual
theorem fzV_ok {φ φ' : Fz} {σ : Sg} {b sz : Nat} {xs : List (List AV)} (hf : Fzn φ φ' σ b sz xs) : ∀ {v : AV} {v' : Value}, VR φ σ v v' → (fzV b sz xs v).1 → VR φ' σ (fzV b sz xs v).2 v' := by
  intro v v' h hp
  have old := h.mono hf.le (Sg.le_refl σ)
  unfold fzV at hp ⊢
  split at hp
  · rename_i b' i n c t
    split at hp
    · rename_i hb
      have hb := Nat.eq_of_beq_eq_true hb
      subst hb
      have hbb : Nat.beq b' b' = true := Nat.beq_refl b'
      simp only [hbb]
      simp only at hp
      cases h with
      | sl hi h1 h2 h3 h4 =>
        rename_i cap' img
        rcases hf.row with ⟨_, h0⟩ | ⟨img', c', e, fr, g1, g2, g3, g4, g5, g6⟩
        · rw [h0] at hi; cases hi
        · rw [g1] at hi; cases hi
          have hlen : (sub xs i n).length = n := by simp [sub]; omega
          have hmul : i * img.sz + n * img.sz ≤ xs.length * img.sz := by rw [← Nat.add_mul]; exact Nat.mul_le_mul_right _ hp
          subst g2
          have := VR.vsl (σ := σ) (sz := img.sz) (xs := sub xs i n) (tight := false) (o := img.o + i * img.sz) (cap' := cap') g3 (by rw [hlen]; omega) (fun p u q1 q2 q3 => g5 p u (by omega) (by rw [hlen] at q2; omega) q3) (fun k x hx => by
            have hk : k < n := by
              rcases Nat.lt_or_ge k n with h | h
              · exact h
              · rw [List.getElem?_eq_none (by omega)] at hx; cases hx
            have hx' : xs[i + k]? = some x := by
              simp only [sub, List.getElem?_take_of_lt hk, List.getElem?_drop] at hx; exact hx
            have := g6 _ _ hx'
            rw [show img.o + i * img.sz + k * img.sz = img.o + (i + k) * img.sz by rw [Nat.add_mul]; omega]
            exact this) (by rw [hlen]; omega) (fun e => by cases e)
          rw [hlen] at this; exact this
      | sl0 =>
        rw [show sub xs i 0 = [] by simp [sub]]; exact .vsl0
    · rename_i hb
      simp only [hb]; exact old
  · rename_i vs
    cases h with
    | agg h => exact .agg (fzL_ok hf h hp)
  · exact old
theorem fzL_ok {φ φ' : Fz} {σ : Sg} {b sz : Nat} {xs : List (List AV)} (hf : Fzn φ φ' σ b sz xs) : ∀ {vs : List AV} {us : List Value}, VRs φ σ vs us → (fzL b sz xs vs).1 → VRs φ' σ (fzL b sz xs vs).2 us
  | [], _, .nil, _ => .nil
  | v :: vs, _, .cons h ht, hp => .cons (fzV_ok hf h hp.1) (fzL_ok hf ht hp.2)
end
theorem fzT_get {b sz : Nat} {xs : List (List AV)} : ∀ {t : Tr} {i : Nat} {v : AV}, (fzT b sz xs t).2.get i = some v → (fzT b sz xs t).1 → ∃ u, t.get i = some u ∧ v = (fzV b sz xs u).2 ∧ (fzV b sz xs u).1
  | .lf, i, v, h, _ => by simp [fzT, Tr.get] at h
  | .nd l u r, i, v, h, hp => by
    cases u with
    | none =>
      simp only [fzT] at h hp
      cases i with
      | zero => simp [Tr.get] at h
      | succ i =>
        simp only [Tr.get] at h ⊢
        cases hi : (i % 2 == 0) <;> simp only [hi, cond_true, cond_false] at h ⊢
        · exact fzT_get h hp.2
        · exact fzT_get h hp.1
    | some u =>
      simp only [fzT] at h hp
      cases i with
      | zero => simp only [Tr.get, Option.some.injEq] at h; exact ⟨u, rfl, h.symm, hp.1⟩
      | succ i =>
        simp only [Tr.get] at h ⊢
        cases hi : (i % 2 == 0) <;> simp only [hi, cond_true, cond_false] at h ⊢
        · exact fzT_get h hp.2.2
        · exact fzT_get h hp.2.1
theorem fzM_get {b sz : Nat} {xs : List (List AV)} : ∀ {m : Mem} {i : Nat} {k : Blk}, (fzM b sz xs m).2[i]? = some k → (fzM b sz xs m).1 → (∃ cs, m[i]? = some (.box cs) ∧ k = .box (fzL b sz xs cs).2 ∧ (fzL b sz xs cs).1) ∨ m[i]? = some k
  | [], i, k, h, _ => by simp [fzM] at h
  | .box cs :: m, i, k, h, hp => by
    simp only [fzM] at h hp
    cases i with
    | zero => simp at h; exact .inl ⟨cs, by simp, h.symm, hp.1⟩
    | succ i => simp at h ⊢; exact fzM_get h hp.2
  | .row s y :: m, i, k, h, hp => by
    simp only [fzM] at h hp
    cases i with
    | zero => exact .inr h
    | succ i => simp at h ⊢; exact fzM_get h hp
  | .map e :: m, i, k, h, hp => by
    simp only [fzM] at h hp
    cases i with
    | zero => exact .inr h
    | succ i => simp at h ⊢; exact fzM_get h hp
  | .mapb _ _ _ e :: m, i, k, h, hp => by
    simp only [fzM] at h hp
    cases i with
    | zero => exact .inr h
    | succ i => simp at h ⊢; exact fzM_get h hp
  | .iter _ _ _ _ :: m, i, k, h, hp => by
    simp only [fzM] at h hp
    cases i with
    | zero => exact .inr h
    | succ i => simp at h ⊢; exact fzM_get h hp
  | .gone :: m, i, k, h, hp => by
    simp only [fzM] at h hp
    cases i with
    | zero => exact .inr h
    | succ i => simp at h ⊢; exact fzM_get h hp
theorem fzM_len {b sz : Nat} {xs : List (List AV)} : ∀ {m : Mem}, (fzM b sz xs m).2.length = m.length
  | [] => rfl
  | .box cs :: m => by simp [fzM, fzM_len (m := m)]
  | .row s y :: m => by simp [fzM, fzM_len (m := m)]
  | .map e :: m => by simp [fzM, fzM_len (m := m)]
  | .mapb _ _ _ e :: m => by simp [fzM, fzM_len (m := m)]
  | .iter _ _ _ _ :: m => by simp [fzM, fzM_len (m := m)]
  | .gone :: m => by simp [fzM, fzM_len (m := m)]

theorem sem_freeze (b : Nat) {k : List C} {t t' : Tr} {m m' : Mem} {Q : Exit → Tr → Mem → Prop} {p : Prop} (he : fzA b t m = some (p, t', m')) (hp : p) (h : SemW P n k0 k t' m' Q) : SemW P n k0 k t m Q := by
  unfold fzA at he
  split at he
  case h_2 => cases he
  rename_i sz xs hm
  cases he
  obtain ⟨hp1, hp2⟩ := hp
  intro cs hcs A φ σ a w hG
  have hI := hG.inv
  have hb := mg_get hm rfl
  have hB := hI.blk b _ hb
  have main : ∃ φ' : Fz, Fzn φ φ' σ b sz xs ∧ (∀ B, φ' B = φ B ∨ (∃ img, σ b = some img ∧ B = img.B ∧ φ' B = w.heap[B]?)) := by
    rcases hB with ⟨h1, h2⟩ | ⟨img, c, e, fr, hi, hs, hh, hc, hl, ho, hx, hpl⟩
    · exact ⟨φ, ⟨Fz.le_refl _, .inl ⟨h1, h2⟩⟩, fun B => .inl rfl⟩
    · have hle : φ.le (fun B => if B = img.B then w.heap[B]? else φ B) := by
        intro B o hBo
        show (if B = img.B then w.heap[B]? else φ B) = some o
        split
        · rename_i e; subst e; rw [hI.apart b _ img hb rfl hi] at hBo; cases hBo
        · exact hBo
      refine ⟨fun B => if B = img.B then w.heap[B]? else φ B, ⟨hle, .inr ⟨img, c, e, fr, hi, hs, by simp [hh], by omega, ho, fun i x hxi => (hx i x hxi).mono hle (Sg.le_refl _)⟩⟩, fun B => ?_⟩
      by_cases hBe : B = img.B
      · exact .inr ⟨img, hi, hBe, by simp [hBe]⟩
      · exact .inl (by simp [hBe])
  obtain ⟨φ', hf, hφ⟩ := main
  have cls : ∀ (c : Nat) (l : Blk), (fzM b sz xs (ms m b .gone)).2[c]? = some l → l.owned = true → c ≠ b ∧ ∃ l0, m[c]? = some l0 ∧ l0.owned = true ∧ (l = l0 ∨ ∃ cs, l0 = .box cs ∧ l = .box (fzL b sz xs cs).2 ∧ (fzL b sz xs cs).1) := by
    intro c l hc hl
    rcases fzM_get hc hp2 with ⟨cs, h1, h2, h3⟩ | h1
    · rcases ms_get _ _ _ _ _ h1 with ⟨_, h4⟩ | ⟨h4, h5⟩
      · cases h4
      · exact ⟨h4, _, h5, rfl, .inr ⟨cs, rfl, h2, h3⟩⟩
    · rcases ms_get _ _ _ _ _ h1 with ⟨_, h4⟩ | ⟨h4, h5⟩
      · subst h4; cases hl
      · exact ⟨h4, _, h5, hl, .inl rfl⟩
  refine h cs hcs A φ' σ a w ⟨Fz.le_trans hG.fz hf.le, hG.sg, ⟨hI.lf.mono hf.le, fun B o hB => ?_, fun c l hc => ?_, fun c d l l' i j hc hd hl hl' hi hj hne => ?_, fun c l i hc hl hi => ?_, fun c hc => hI.fresh c (by rw [fzM_len, ms_len] at hc; exact hc)⟩, fun i v hv => ?_, hG.sz, hG.df, hG.grow, hG.kept, fun c l i hc hl hi => ?_, by rw [fzM_len, ms_len]; exact hG.len, fun B h1 h2 h3 => ?_, hG.env⟩
  · rcases hφ B with e | ⟨img, hi, e1, e2⟩
    · rw [e] at hB; exact hI.fz B o hB
    · rw [e2] at hB; exact hB
  · cases hk : l.owned with
    | false => cases l <;> simp [Blk.owned] at hk; trivial
    | true =>
      obtain ⟨_, l0, h1, h2, h3⟩ := cls c l hc hk
      have h4 := hI.blk c l0 h1
      rcases h3 with rfl | ⟨vs, rfl, rfl, h5⟩
      · exact h4.frame hf.le (Sg.le_refl _) fun _ _ => rfl
      · obtain ⟨img, q, e, fr, q1, q2, q3, q4, q5, q6⟩ := h4
        exact ⟨img, q, e, fr, q1, q2, q3, q4, fzL_ok hf q5 h5, q6⟩
  · obtain ⟨_, l0, h1, h2, _⟩ := cls c l hc hl
    obtain ⟨_, l0', h1', h2', _⟩ := cls d l' hd hl'
    exact hI.inj c d _ _ i j h1 h1' h2 h2' hi hj hne
  · obtain ⟨hcb, l0, h1, h2, _⟩ := cls c l hc hl
    rcases hφ i.B with e | ⟨img, hi', e1, e2⟩
    · rw [e]; exact hI.apart c _ i h1 h2 hi
    · exact absurd e1 (hI.inj c b _ _ i img h1 hb h2 rfl hi hi' hcb)
  · obtain ⟨u, h1, rfl, h3⟩ := fzT_get hv hp1
    obtain ⟨v', g1, g2⟩ := hG.tr i u h1
    exact ⟨v', g1, fzV_ok hf g2 h3⟩
  · obtain ⟨_, l0, h1, h2, _⟩ := cls c l hc hl
    exact hG.own c _ i h1 h2 hi
  · rcases hφ B with e | ⟨img, hi', e1, e2⟩
    · rw [e]; exact hG.ice B h1 h2 h3
    · subst e1
      rcases hG.own b _ img hb rfl hi' with h | h
      · exact absurd h h3
      · omega
attribute [go_sem] fzA fzT fzM fzV fzL
end Go.AE

/- The abstract evaluator, part u: a nil slice as a row of no elements. -/
namespace Go.AE
open Go
set_option linter.unusedVariables false
set_option linter.unusedSimpArgs false

variable {P : Program} {n k0 : Nat}

theorem app_get {m : Mem} {x k : Blk} {b : Nat} (h : (m ++ [x])[b]? = some k) : m[b]? = some k ∨ (b = m.length ∧ k = x) := by
  rcases Nat.lt_or_ge b m.length with hb | hb
  · rw [List.getElem?_append_left hb] at h; exact .inl h
  · rw [List.getElem?_append_right hb] at h
    cases hd : b - m.length with
    | zero => rw [hd] at h; simp at h; exact .inr ⟨by omega, h.symm⟩
    | succ d => rw [hd] at h; simp at h
theorem Good.virt {A : Anch} {φ : Fz} {σ : Sg} {m : Mem} {w : World} {t : Tr} {a : Act} (sz : Nat) (h : Good A n k0 φ σ m w t a) : Good A n k0 φ σ (m ++ [.row sz []]) w t a := by
  have hI := h.inv
  have hn : σ m.length = none := hI.fresh _ (Nat.le_refl _)
  refine ⟨h.fz, h.sg, ⟨hI.lf, hI.fz, fun b k hb => ?_, fun b c k l i j hb hc hk hl hi hj hne => ?_, fun b k i hb hk hi => ?_, fun b hb => hI.fresh b (by simp at hb; omega)⟩, h.tr, h.sz, h.df, h.grow, h.kept, fun b k i hb hk hi => ?_, by have := h.len; simp; omega, h.ice, h.env⟩
  · rcases app_get hb with hb | ⟨rfl, rfl⟩
    · exact hI.blk b k hb
    · exact .inl ⟨rfl, hn⟩
  · rcases app_get hb with hb | ⟨rfl, rfl⟩
    · rcases app_get hc with hc | ⟨rfl, rfl⟩
      · exact hI.inj b c k l i j hb hc hk hl hi hj hne
      · rw [hn] at hj; cases hj
    · rw [hn] at hi; cases hi
  · rcases app_get hb with hb | ⟨rfl, rfl⟩
    · exact hI.apart b k i hb hk hi
    · rw [hn] at hi; cases hi
  · rcases app_get hb with hb | ⟨rfl, rfl⟩
    · exact h.own b k i hb hk hi
    · rw [hn] at hi; cases hi
theorem sem_virt {k : List C} {t : Tr} {m : Mem} {Q : Exit → Tr → Mem → Prop} (j sz : Nat) (hj : t.get j = some .nilsl) (h : SemW P n k0 k (t.set j (.sl m.length 0 0 0 false)) (m ++ [.row sz []]) Q) : SemW P n k0 k t m Q := by
  intro cs hcs A φ σ a w hG
  have hV := hG.virt sz
  obtain ⟨v', g1, g2⟩ := hG.tr j _ hj
  cases g2
  rename_i ad
  have hlt : j < a.tmps.size := by
    rcases Nat.lt_or_ge j a.tmps.size with h | h
    · exact h
    · rw [Array.getElem?_eq_none h] at g1; cases g1
  have hsame : a.tmps.setIfInBounds j (.slice ad 0 0) = a.tmps := by
    apply Array.ext'
    apply List.ext_getElem?
    intro q
    rw [Array.toList_setIfInBounds, List.getElem?_set]
    split
    · rename_i e; subst e
      have : a.tmps.toList[j]? = some (.slice ad 0 0) := by simpa using g1
      rw [this]; simp [hlt]
    · rfl
  refine h cs hcs A φ σ a w ⟨hV.fz, hV.sg, hV.inv, ?_, hV.sz, hV.df, hV.grow, hV.kept, hV.own, hV.len, hV.ice, hV.env⟩
  have := hV.tr.set hlt (v := .sl m.length 0 0 0 false) (v' := .slice ad 0 0) .sl0
  rwa [hsame] at this
theorem Tri.recast {f : FuncId} {args args' : List AV} {m : Mem} {K : AV → Mem → Prop} (h : Tri P f args' m K) (hc : ∀ φ σ vs, VRs φ σ args vs → VRs φ σ args' vs) : Tri P f args m K :=
  ⟨h.1, fun φ σ w vs hI hv => h.2 φ σ w vs hI (hc φ σ vs hv)⟩
theorem VR.nilv {φ : Fz} {σ : Sg} {v : Value} (sz : Nat) (t : Bool) (h : VR φ σ .nilsl v) : VR φ σ (.vsl sz [] t) v := by cases h; exact .vsl0
end Go.AE
