/- The abstract evaluator: AEzd, AEze, AEzf, AEzg in one. -/
import Derived.Test.YthdkobfafncpcaaDoorAEzc
/- The abstract evaluator, part zd: results told otherwise: a row that nobody writes any more; values like others. -/
namespace Go.AE
open Go
set_option linter.unusedVariables false
set_option linter.unusedSimpArgs false

variable {P : Program} {n k0 : Nat}

theorem Inv.freeze {φ : Fz} {σ : Sg} {m : Mem} {w : World} {b sz : Nat} {xs : List (List AV)} (hI : Inv φ σ m w) (hm : mg m b = .row sz xs) (hp2 : (fzM b sz xs (ms m b .gone)).1) :
    ∃ φ' : Fz, Fzn φ φ' σ b sz xs ∧ Inv φ' σ (fzM b sz xs (ms m b .gone)).2 w ∧ (∀ B, φ' B = φ B ∨ ∃ img, σ b = some img ∧ B = img.B) ∧
      ∀ (c : Nat) (l : Blk), (fzM b sz xs (ms m b .gone)).2[c]? = some l → l.owned = true → c ≠ b ∧ ∃ l0, m[c]? = some l0 ∧ l0.owned = true := by
  have hb := mg_get hm rfl
  have hB := hI.blk b _ hb
  have main : ∃ φ' : Fz, Fzn φ φ' σ b sz xs ∧ (∀ B, φ' B = φ B ∨ (∃ img, σ b = some img ∧ B = img.B ∧ φ' B = w.heap[B]?)) := by
    rcases hB with ⟨h1, h2⟩ | ⟨img, c, e, fr, hi, hs, hh, hc, hl, ho, hx, hpl⟩
    · exact ⟨φ, ⟨Fz.le_refl _, .inl ⟨h1, h2⟩⟩, fun B => .inl rfl⟩
    · have hle : φ.le (fun B => if B = img.B then w.heap[B]? else φ B) := by
        intro B o hBo
        show (if B = img.B then w.heap[B]? else φ B) = some o
        split
        · rename_i e; subst e; rw [hI.apart b _ img hb rfl hi] at hBo; cases hBo
        · exact hBo
      refine ⟨fun B => if B = img.B then w.heap[B]? else φ B, ⟨hle, .inr ⟨img, c, e, fr, hi, hs, by simp [hh], by omega, ho, fun i x hxi => (hx i x hxi).mono hle (Sg.le_refl _)⟩⟩, fun B => ?_⟩
      by_cases hBe : B = img.B
      · exact .inr ⟨img, hi, hBe, by simp [hBe]⟩
      · exact .inl (by simp [hBe])
  obtain ⟨φ', hf, hφ⟩ := main
  have cls : ∀ (c : Nat) (l : Blk), (fzM b sz xs (ms m b .gone)).2[c]? = some l → l.owned = true → c ≠ b ∧ ∃ l0, m[c]? = some l0 ∧ l0.owned = true ∧ (l = l0 ∨ ∃ cs, l0 = .box cs ∧ l = .box (fzL b sz xs cs).2 ∧ (fzL b sz xs cs).1) := by
    intro c l hc hl
    rcases fzM_get hc hp2 with ⟨cs, h1, h2, h3⟩ | h1
    · rcases ms_get _ _ _ _ _ h1 with ⟨_, h4⟩ | ⟨h4, h5⟩
      · cases h4
      · exact ⟨h4, _, h5, rfl, .inr ⟨cs, rfl, h2, h3⟩⟩
    · rcases ms_get _ _ _ _ _ h1 with ⟨_, h4⟩ | ⟨h4, h5⟩
      · subst h4; cases hl
      · exact ⟨h4, _, h5, hl, .inl rfl⟩
  refine ⟨φ', hf, ⟨hI.lf.mono hf.le, fun B o hB => ?_, fun c l hc => ?_, fun c d l l' i j hc hd hl hl' hi hj hne => ?_, fun c l i hc hl hi => ?_, fun c hc => hI.fresh c (by rw [fzM_len, ms_len] at hc; exact hc)⟩, fun B => ?_, fun c l hc hl => ?_⟩
  · rcases hφ B with e | ⟨img, hi, e1, e2⟩
    · rw [e] at hB; exact hI.fz B o hB
    · rw [e2] at hB; exact hB
  · cases hk : l.owned with
    | false => cases l <;> simp [Blk.owned] at hk; trivial
    | true =>
      obtain ⟨_, l0, h1, h2, h3⟩ := cls c l hc hk
      have h4 := hI.blk c l0 h1
      rcases h3 with rfl | ⟨vs, rfl, rfl, h5⟩
      · exact h4.frame hf.le (Sg.le_refl _) fun _ _ => rfl
      · obtain ⟨img, q, e, fr, q1, q2, q3, q4, q5, q6⟩ := h4
        exact ⟨img, q, e, fr, q1, q2, q3, q4, fzL_ok hf q5 h5, q6⟩
  · obtain ⟨_, l0, h1, h2, _⟩ := cls c l hc hl
    obtain ⟨_, l0', h1', h2', _⟩ := cls d l' hd hl'
    exact hI.inj c d _ _ i j h1 h1' h2 h2' hi hj hne
  · obtain ⟨hcb, l0, h1, h2, _⟩ := cls c l hc hl
    rcases hφ i.B with e | ⟨img, hi', e1, e2⟩
    · rw [e]; exact hI.apart c _ i h1 h2 hi
    · exact absurd e1 (hI.inj c b _ _ i img h1 hb h2 rfl hi hi' hcb)
  · rcases hφ B with e | ⟨img, hi, e1, _⟩
    · exact .inl e
    · exact .inr ⟨img, hi, e1⟩
  · obtain ⟨h1, l0, h2, h3, _⟩ := cls c l hc hl
    exact ⟨h1, l0, h2, h3⟩
def fzR (b sz : Nat) (xs : List (List AV)) : AV → Prop × AV
  | .tup vs => match fzL b sz xs vs with
    | (p, vs') => (p, .tup vs')
  | v => fzV b sz xs v
theorem fzR_ok {φ φ' : Fz} {σ : Sg} {b sz : Nat} {xs : List (List AV)} (hf : Fzn φ φ' σ b sz xs) {v : AV} {v' : Value} (h : VR φ σ v v') (hp : (fzR b sz xs v).1) : VR φ' σ (fzR b sz xs v).2 v' := by
  cases v <;> first | exact fzV_ok hf h hp | (cases h with | tup h => exact .tup (fzL_ok hf h hp))
def fzB (b : Nat) (v : AV) (m : Mem) : Option (Prop × AV × Mem) := match mg m b with
  | .row sz xs => match fzR b sz xs v, fzM b sz xs (ms m b .gone) with
    | (p, v'), (q, m') => some (p ∧ q, v', m')
  | _ => none
theorem Tri.fz {f : FuncId} {args : List AV} {m : Mem} {K : AV → Mem → Prop} (b : Nat) (h : Tri P f args m fun v m' => ∃ p v2 m2, fzB b v m' = some (p, v2, m2) ∧ p ∧ K v2 m2) : Tri P f args m K := by
  refine ⟨h.1, fun φ σ w vs hI hv => (h.2 φ σ w vs hI hv).mono ?_⟩
  rintro e w' ⟨v', he, φ', σ', v, m', ⟨p, v2, m2, hz, hp, hK⟩, hst, hr⟩
  unfold fzB at hz
  split at hz
  case h_2 => cases hz
  rename_i sz xs hm
  cases hz
  obtain ⟨hp1, hp2⟩ := hp
  obtain ⟨φ2, hf, hI2, hφ, cls⟩ := hst.inv.freeze hm hp2
  have hb := mg_get hm rfl
  refine ⟨v', he, φ2, σ', _, _, hK, ⟨Fz.le_trans hst.fz hf.le, hst.sg, hI2, hst.size, hst.frame, fun c l i hc hl hi => ?_, hst.old, by rw [fzM_len, ms_len]; exact hst.len, fun B h1 h2 h3 => ?_, hst.env⟩, fzR_ok hf hr hp1⟩
  · obtain ⟨_, l0, q1, q2⟩ := cls c l hc hl
    exact hst.own c l0 i q1 q2 hi
  · rcases hφ B with e | ⟨img, hi, rfl⟩
    · rw [e]; exact hst.ice B h1 h2 h3
    · rcases hst.own b _ img hb rfl hi with ⟨c, l, j, g1, g2, g3, g4⟩ | g
      · exact absurd g4 (h3 c l j g1 g2 g3)
      · omega
def Like (v u : AV) : Prop := ∀ (φ : Fz) (σ : Sg) (x : Value), VR φ σ v x → VR φ σ u x
theorem Like.refl (v : AV) : Like v v := fun _ _ _ h => h
theorem Like.nilv (sz : Nat) (t : Bool) : Like .nilsl (.vsl sz [] t) := fun _ _ _ h => h.nilv sz t
theorem Like.bsym (b : Bool) : Like (.bool b) (.bsym b) := fun _ _ _ h => by cases h; exact .bsym
theorem Like.bool (b : Bool) : Like (.bsym b) (.bool b) := fun _ _ _ h => by cases h; exact .bool
theorem Like.cap {b i n c : Nat} : Like (.sl b i n c false) (.sl b i n n false) := fun _ _ _ h => by
  cases h with
  | sl h h1 h2 h3 h4 => exact .sl h (Nat.le_refl _) (Nat.le_trans h1 h2) (fun e => by cases e) h4
  | sl0 => exact .sl0
theorem Tri.like {f : FuncId} {args : List AV} {m : Mem} {K : AV → Mem → Prop} (h : Tri P f args m fun v m' => ∃ u, Like v u ∧ K u m') : Tri P f args m K :=
  ⟨h.1, fun φ σ w vs hI hv => (h.2 φ σ w vs hI hv).mono fun e w' ⟨v', he, φ', σ', v, m', ⟨u, hu, hK⟩, hs, hr⟩ => ⟨v', he, φ', σ', u, m', hK, hs, hu _ _ _ hr⟩⟩
theorem sem_like {k : List C} {t : Tr} {m : Mem} {Q : Exit → Tr → Mem → Prop} (j : Nat) {v : AV} (u : AV) (hj : t.get j = some v) (hu : Like v u) (h : SemW P n k0 k (t.set j u) m Q) : SemW P n k0 k t m Q := by
  intro cs hcs A φ σ a w hG
  obtain ⟨v', g1, g2⟩ := hG.tr j _ hj
  have hlt : j < a.tmps.size := by
    rcases Nat.lt_or_ge j a.tmps.size with h | h
    · exact h
    · rw [Array.getElem?_eq_none h] at g1; cases g1
  have hsame : a.tmps.setIfInBounds j v' = a.tmps := by
    apply Array.ext'
    apply List.ext_getElem?
    intro q
    rw [Array.toList_setIfInBounds, List.getElem?_set]
    split
    · rename_i e; subst e
      have : a.tmps.toList[j]? = some v' := by simpa using g1
      rw [this]; simp [hlt]
    · rfl
  have := hG.tr.set hlt (hu _ _ _ g2)
  rw [hsame] at this
  exact h cs hcs A φ σ a w (hG.retr this)
theorem res_fz {φ φ' : Fz} {σ σ' : Sg} {m m' m2 : Mem} {w w' : World} {v v2 : AV} {v' : Value} {b : Nat} {p : Prop} (hst : Stp φ σ m w φ' σ' m' w') (hr : VR φ' σ' v v') (hz : fzB b v m' = some (p, v2, m2)) (hp : p) :
    ∃ φ2 σ2, Stp φ σ m w φ2 σ2 m2 w' ∧ VR φ2 σ2 v2 v' := by
  unfold fzB at hz
  split at hz
  case h_2 => cases hz
  rename_i sz xs hm
  cases hz
  obtain ⟨hp1, hp2⟩ := hp
  obtain ⟨φ2, hf, hI2, hφ, cls⟩ := hst.inv.freeze hm hp2
  have hb := mg_get hm rfl
  refine ⟨φ2, σ', ⟨Fz.le_trans hst.fz hf.le, hst.sg, hI2, hst.size, hst.frame, fun c l i hc hl hi => ?_, hst.old, by rw [fzM_len, ms_len]; exact hst.len, fun B h1 h2 h3 => ?_, hst.env⟩, fzR_ok hf hr hp1⟩
  · obtain ⟨_, l0, q1, q2⟩ := cls c l hc hl
    exact hst.own c l0 i q1 q2 hi
  · rcases hφ B with e | ⟨img, hi, rfl⟩
    · rw [e]; exact hst.ice B h1 h2 h3
    · rcases hst.own b _ img hb rfl hi with ⟨c, l, j, g1, g2, g3, g4⟩ | g
      · exact absurd g4 (h3 c l j g1 g2 g3)
      · omega
theorem res_sub {φ φ' : Fz} {σ σ' : Sg} {m m' m2 : Mem} {w w' : World} {v v2 : AV} {v' : Value} {π : List Nat} (hI : Inv φ σ m w) (hst : Stp φ σ m w φ' σ' m' w') (hr : VR φ' σ' v v') (hE : EmbV m.length π v m' v2 m2) :
    ∃ φ2 σ2, Stp φ σ m w φ2 σ2 m2 w' ∧ VR φ2 σ2 v2 v' := by
  obtain ⟨hc, rfl, hM⟩ := hE
  simp only [Bool.and_eq_true] at hc
  obtain ⟨⟨⟨⟨hiV, hiM⟩, hnd⟩, hbel⟩, hfix⟩ := hc
  obtain ⟨hπl, hemb⟩ := embM_get hM
  have hI' := hst.inv
  let σ2 : Sg := fun b => if b < m2.length then σ' (rid π m'.length b) else none
  have hσ2 : ∀ b, b < m2.length → σ' (rid π m'.length b) = σ2 b := fun b hb => by show _ = if b < m2.length then _ else _; rw [if_pos hb]
  have hσn : ∀ b, m2.length ≤ b → σ2 b = none := fun b hb => by show (if b < m2.length then _ else _) = none; rw [if_neg (by omega)]
  have here : ∀ (b : Nat) (k : Blk), m2[b]? = some k → k.owned = true → ∃ p, π[b]? = some p ∧ rid π m'.length b = p ∧ m'[p]? = some (renB π m'.length k) ∧ σ2 b = σ' p ∧ b < m2.length := by
    intro b k hb hk
    obtain ⟨p, h1, h2⟩ := hemb b k hb hk
    have hbl : b < m2.length := by
      rcases Nat.lt_or_ge b m2.length with h | h
      · exact h
      · rw [List.getElem?_eq_none h] at hb; cases hb
    obtain ⟨p', h3, h4⟩ := rid_lt (N := m'.length) (show b < π.length by omega)
    rw [h1] at h3; cases h3
    exact ⟨p, h1, h4, mg_get h2 (by rw [renB_owned]; exact hk), by rw [← hσ2 b hbl, h4], hbl⟩
  have hlen : m.length ≤ m2.length := by
    rcases Nat.lt_or_ge m2.length m.length with h' | h'
    · have := fixed_get hfix m2.length h'
      rw [List.getElem?_eq_none (by omega)] at this; cases this
    · exact h'
  have hold : ∀ b, b < m.length → σ2 b = σ b := by
    intro b hb
    have h1 := fixed_get hfix b hb
    rw [Nat.zero_add] at h1
    obtain ⟨p', h3, h4⟩ := rid_lt (N := m'.length) (show b < π.length by omega)
    rw [h1] at h3; cases h3
    rw [← hσ2 b (by omega), h4]; exact hst.old b hb
  refine ⟨φ', σ2, ⟨hst.fz, fun b i hb => ?_, ⟨hI'.lf, hI'.fz, fun b k hb => ?_, fun b c k l i j hb hc hk hl hi hj hne => ?_, fun b k i hb hk hi => ?_, hσn⟩, hst.size, hst.frame, fun b k i hb hk hi => ?_, hold, hlen, hst.ice, hst.env⟩, unren_ok hσ2 hr hiV⟩
  · have hbl : b < m.length := by
      rcases Nat.lt_or_ge b m.length with h | h
      · exact h
      · rw [hI.fresh b h] at hb; cases hb
    rw [hold b hbl]; exact hb
  · cases hk : k.owned with
    | false => cases k <;> simp [Blk.owned] at hk; trivial
    | true =>
      obtain ⟨p, h1, h2, h3, h4, h5⟩ := here b k hb hk
      rw [h4]
      exact unrenB_ok hσ2 (hI'.blk p _ h3) (idsM_get hiM hb)
  · obtain ⟨p, h1, h2, h3, h4, h5⟩ := here b k hb hk
    obtain ⟨q, g1, g2, g3, g4, g5⟩ := here c l hc hl
    exact hI'.inj p q _ _ i j h3 g3 (by rw [renB_owned]; exact hk) (by rw [renB_owned]; exact hl) (by rw [← h4]; exact hi) (by rw [← g4]; exact hj) (nodup_ne hnd h1 g1 hne)
  · obtain ⟨p, h1, h2, h3, h4, h5⟩ := here b k hb hk
    exact hI'.apart p _ i h3 (by rw [renB_owned]; exact hk) (by rw [← h4]; exact hi)
  · obtain ⟨p, h1, h2, h3, h4, h5⟩ := here b k hb hk
    exact hst.own p _ i h3 (by rw [renB_owned]; exact hk) (by rw [← h4]; exact hi)
inductive Post (k0 : Nat) : AV → Mem → AV → Mem → Prop where
  | done {v : AV} {m : Mem} : Post k0 v m v m
  | like {v u v' : AV} {m m' : Mem} (hl : Like v u) (h : Post k0 u m v' m') : Post k0 v m v' m'
  | fz {v v2 v' : AV} {m m2 m' : Mem} {p : Prop} (b : Nat) (he : fzB b v m = some (p, v2, m2)) (hp : p) (h : Post k0 v2 m2 v' m') : Post k0 v m v' m'
  | sub {v v2 v' : AV} {m m2 m' : Mem} (π : List Nat) (he : EmbV k0 π v m v2 m2) (h : Post k0 v2 m2 v' m') : Post k0 v m v' m'
theorem Tri.post {f : FuncId} {args : List AV} {m : Mem} {K : AV → Mem → Prop} (h : Tri P f args m fun v m' => ∃ v2 m2, Post m.length v m' v2 m2 ∧ K v2 m2) : Tri P f args m K := by
  refine ⟨h.1, fun φ σ w vs hI hv => (h.2 φ σ w vs hI hv).mono ?_⟩
  rintro e w' ⟨v', he, φ', σ', v, m', ⟨v2, m2, hpo, hK⟩, hst, hr⟩
  refine ⟨v', he, ?_⟩
  clear he
  have : ∃ φ2 σ2, Stp φ σ m w φ2 σ2 m2 w' ∧ VR φ2 σ2 v2 v' := by
    clear hK
    induction hpo generalizing φ' σ' with
    | done => exact ⟨φ', σ', hst, hr⟩
    | like hl _ ih => exact ih φ' σ' hst (hl _ _ _ hr)
    | fz b hz hp _ ih =>
      obtain ⟨φ2, σ2, h1, h2⟩ := res_fz hst hr hz hp
      exact ih φ2 σ2 h1 h2
    | sub π hE _ ih =>
      obtain ⟨φ2, σ2, h1, h2⟩ := res_sub hI hst hr hE
      exact ih φ2 σ2 h1 h2
  obtain ⟨φ2, σ2, h1, h2⟩ := this
  exact ⟨φ2, σ2, v2, m2, hK, h1, h2⟩
attribute [go_sem] fzB fzR
end Go.AE

/- The abstract evaluator, part ze: a variable's cell told otherwise. -/
namespace Go.AE
open Go
set_option linter.unusedVariables false
set_option linter.unusedSimpArgs false

variable {P : Program} {n k0 : Nat}

theorem ls_VRs {φ : Fz} {σ : Sg} {v u : AV} (hu : Like v u) : ∀ {cs : List AV} {vs : List Value} {j : Nat}, VRs φ σ cs vs → lg cs j = some v → VRs φ σ (ls cs j u) vs
  | _, _, 0, .cons h ht, hj => by simp only [lg, Option.some.injEq] at hj; subst hj; exact .cons (hu _ _ _ h) ht
  | _, _, j + 1, .cons h ht, hj => .cons h (ls_VRs hu ht hj)
  | _, _, _, .nil, hj => by simp [lg] at hj
theorem sem_likebox (b j : Nat) {v : AV} (u : AV) {k : List C} {t : Tr} {m : Mem} {Q : Exit → Tr → Mem → Prop} {cs : List AV} (hb : mg m b = .box cs) (hj : lg cs j = some v) (hu : Like v u)
    (h : SemW P n k0 k t (ms m b (.box (ls cs j u))) Q) : SemW P n k0 k t m Q := by
  intro c0 hcs A φ σ a w hG
  have hbm := mg_get hb rfl
  have hI := hG.inv
  have bl : ∀ (c : Nat) (l : Blk), (ms m b (.box (ls cs j u)))[c]? = some l → ∃ l0, m[c]? = some l0 ∧ l.owned = l0.owned ∧ (BM φ σ w (σ c) l0 → BM φ σ w (σ c) l) := by
    intro c l hc
    rcases ms_get _ _ _ _ _ hc with ⟨e, e2⟩ | ⟨_, hc⟩
    · subst e; subst e2
      refine ⟨_, hbm, rfl, fun h => ?_⟩
      obtain ⟨img, c1, e, fr, h1, h2, h3, h4, h5, h6⟩ := h
      exact ⟨img, c1, e, fr, h1, h2, h3, h4, ls_VRs hu h5 hj, h6⟩
    · exact ⟨l, hc, rfl, id⟩
  refine h c0 hcs A φ σ a w ⟨hG.fz, hG.sg, ⟨hI.lf, hI.fz, fun c l hc => ?_, fun c d l l' i j hc hd hl hl' hi hj hne => ?_, fun c l i hc hl hi => ?_, fun c hc => hI.fresh c (by rw [ms_len] at hc; exact hc)⟩, hG.tr, hG.sz, hG.df, hG.grow, hG.kept, fun c l i hc hl hi => ?_, by rw [ms_len]; exact hG.len, hG.ice, hG.env⟩
  · obtain ⟨l0, h1, h2, h3⟩ := bl c l hc
    exact h3 (hI.blk c l0 h1)
  · obtain ⟨l0, h1, h2, _⟩ := bl c l hc
    obtain ⟨g0, g1, g2, _⟩ := bl d l' hd
    exact hI.inj c d l0 g0 i j h1 g1 (by rw [← h2]; exact hl) (by rw [← g2]; exact hl') hi hj hne
  · obtain ⟨l0, h1, h2, _⟩ := bl c l hc
    exact hI.apart c l0 i h1 (by rw [← h2]; exact hl) hi
  · obtain ⟨l0, h1, h2, _⟩ := bl c l hc
    exact hG.own c l0 i h1 (by rw [← h2]; exact hl) hi
end Go.AE

/- The abstract evaluator, part zf: a row that is lent: a contract about a slice that nobody writes holds for one of one's own too. -/
namespace Go.AE
open Go
set_option linter.unusedVariables false
set_option linter.unusedSimpArgs false

variable {P : Program} {n k0 : Nat}

end Go.AE

/- The abstract evaluator, part zg: a slice literal that is told as a row of one's own. -/
namespace Go.AE
open Go
set_option linter.unusedVariables false
set_option linter.unusedSimpArgs false

variable {P : Program} {n k0 : Nat}

end Go.AE
