/- The abstract evaluator: AEzi, AEzj in one. -/
import Derived.Test.YtpbmlaolpfaicaaAEzh
/- The abstract evaluator, part zi: cells behind those that are told are cleared. -/
namespace Go.AE
open Go
set_option linter.unusedVariables false
set_option linter.unusedSimpArgs false

variable {P : Program} {n k0 : Nat} {φ : Fz} {σ : Sg} {m : Mem} {w : World}

theorem tail_write (hI : Inv φ σ m w) {b sz i : Nat} {xs ys : List (List AV)} {img : Img} {vs : List Value} (hm : mg m b = .row sz xs) (hi : σ b = some img) (hr : RowsAre φ sz ys vs) (hle : xs.length ≤ i) (hcap : img.o + (i + ys.length) * img.sz ≤ img.cap) :
    ∃ w', (storeCells ⟨img.B, img.o + i * img.sz, none⟩ vs).run P w = .ok () w' ∧ Stp φ σ m w φ σ m w' := by
  obtain ⟨c, e, fr, e2, e3, e4, e5, e5o, e6, e7⟩ := row_at hI hm hi
  have hb := mg_get hm rfl
  have hvl : vs.length = ys.length * sz := hr.1
  have hxi : xs.length * sz ≤ i * sz := Nat.mul_le_mul_right _ hle
  have hcap' : img.o + i * sz + ys.length * sz ≤ img.cap := by rw [e2, Nat.add_mul] at hcap; omega
  obtain ⟨w', c', g1, g2, g3, g4, g5, g6⟩ := storeCells_ok (P := P) (o := img.o + i * img.sz) vs 0 c w e3 hr.2.1 (by rw [e2, hvl]; omega) (fun q q1 q2 => e7 q (by rw [e2, hvl] at q2; omega))
  refine ⟨w', g1, ?_⟩
  have hlb : b < m.length := by
    rcases Nat.lt_or_ge b m.length with h' | h'
    · exact h'
    · rw [List.getElem?_eq_none h'] at hb; cases hb
  have hsl : img.o + i * img.sz + vs.length ≤ c.toList.length := by rw [e2, hvl]; simp; omega
  have hcl' : c'.toList.length = c.toList.length := by rw [g5, Nat.add_zero]; exact splice_len hsl
  have hcs : c'.size = c.size := by simpa using hcl'
  have hsame : ms m b (.row sz xs) = m := ms_id hm rfl
  suffices h : Stp φ σ m w φ σ (ms m b (.row sz xs)) w' by rwa [hsame] at h
  refine hI.change img.B b (Sg.le_refl _) (by omega) (fun B hB _ => g3 B hB) (hI.apart b _ img hb rfl hi) (.inl ⟨b, _, img, hb, rfl, hi, rfl⟩) ?_ (fun _ _ => rfl) (by rw [ms_len]; exact Nat.le_refl _) g6 ?_ ?_
  · intro b' hb'; rw [ms_len] at hb'; exact hI.fresh b' hb'
  · intro b' l hb' hl hne
    rcases ms_get m b _ b' l hb' with ⟨e, _⟩ | ⟨_, e⟩
    · exact absurd e hne
    · exact ⟨e, rfl, fun i hi' => hI.inj b' b l _ i img e hb hl rfl hi' hi hne⟩
  · intro l hl _
    rw [ms_same m b _ hlb] at hl
    cases hl
    refine ⟨?_, fun i hi' => by rw [hi] at hi'; cases hi'; rfl⟩
    rw [hi]
    refine .inr ⟨img, c', e, fr, rfl, e2, g4, by rw [hcs, e4], e5, ?_, ?_, e7⟩
    · intro p0 u0 p1 p2 pu
      have hpu : c'.toList[p0]? = some u0 := by simpa using pu
      rw [g5, Nat.add_zero, splice_get hsl] at hpu
      split at hpu
      · exact hr.2.1 u0 (List.mem_of_getElem? hpu)
      · exact e5o p0 u0 p1 p2 (by simpa using hpu)
    · intro j x hj
      rw [g5, Nat.add_zero, e2]
      have hjl : j < xs.length := (List.getElem?_eq_some_iff.1 hj).1
      have hji : j * sz + sz ≤ i * sz := by rw [← Nat.succ_mul]; exact Nat.mul_le_mul_right _ (by omega)
      rw [splice_split (by rw [e2] at hsl; exact hsl) _ _ (.inl (by omega))]
      exact e6 j x hj
theorem clr_fin {o : Oper} {c : Call} {e : TypeId} {sz : Nat} {z : List AV} {y : Opd} (h1 : o.op = .call c) (h2 : c.callee = .builtin .clear) (h3 : cOpds c.args.toList = some [y]) (h4 : (c.argTypes[0]?).bind P.underlying = some (.slice e)) (h5 : szT P e = some sz) (h6 : zeroT P e = some z) (h7 : z.length = sz ∧ 0 < sz ∧ z.all one = true) :
    ∃ c st e, o.op = .call c ∧ c.callee = .builtin .clear ∧ cOpds c.args.toList = some [y] ∧ c.argTypes[0]? = some st ∧ P.underlying st = some (.slice e) ∧ szT P e = some sz ∧ zeroT P e = some z ∧ z.length = sz ∧ 0 < sz ∧ z.all one = true := by
  simp only [Option.bind_eq_some_iff] at h4
  obtain ⟨st, g1, g2⟩ := h4
  exact ⟨c, st, e, h1, h2, h3, g1, g2, h5, h6, h7⟩
theorem cO_clr {o : Oper} {sz : Nat} {z : List AV} {y : Opd} (h : cO P o = some (.clr sz z y)) : ∃ c st e, o.op = .call c ∧ c.callee = .builtin .clear ∧ cOpds c.args.toList = some [y] ∧ c.argTypes[0]? = some st ∧ P.underlying st = some (.slice e) ∧
    szT P e = some sz ∧ zeroT P e = some z ∧ z.length = sz ∧ 0 < sz ∧ z.all one = true := by
  unfold cO at h
  split at h
  all_goals ((repeat' split at h) <;> first | (cases h; done) | (cases h; exact clr_fin (by assumption) (by assumption) (by assumption) (by assumption) (by assumption) (by assumption) (by assumption)) | (simp at h; done))
theorem sem_clrT {g : Option (Nat × Bool)} {d : Option Nat} {sz : Nat} {z : List AV} {y : Opd} {k : List C} {t : Tr} {Q : Exit → Tr → Mem → Prop} {b i l c0 : Nat} {tg : Bool} {xs : List (List AV)} (hg : gok t g = some true) (hy : ev t y = some (.sl b i l c0 tg))
    (hm : mg m b = .row sz xs) (hle : xs.length ≤ i) (hk : SemW P n k0 k (sp d t (.tup [])) m Q) : SemW P n k0 (.op g d (.clr sz z y) :: k) t m Q := by
  intro cs hcs A φ σ a w hG
  cases view_of P n _ cs _ (Nat.le_refl _) hcs with
  | op hc hr h =>
    rename_i ops i' is r
    refine h _ a w ?_
    obtain ⟨o0, g', x, ho, hgd, hx, e0, hd⟩ := cOp_inv hc
    cases e0
    have hw := gok_ok hG.tr hgd hg
    obtain ⟨c, st, e, hop, hcal, hargs, h0, hu, hs, hz, hzl, hsz, h1z⟩ := cO_clr hx
    obtain ⟨v', w', φ', σ', hrun, hst, hv⟩ : OpOk P o0 a φ σ m w (.tup []) m := by
      have hI := hG.inv
      obtain ⟨it, zv, hi', hzv, hzr⟩ := zeroT_ok hz
      have hzs : zv.cells.size = sz := by rw [← hzl]; simpa using (hzr φ σ).length.symm
      obtain ⟨cs, hrun⟩ := run_builtin (P := P) (w := w) (a := a) hop hcal
      have zrun : ∀ w : World, (zeroValue e).run P w = .ok zv w := by
        intro w
        simp [zeroValue, typeInfo, hi', hzv]
      have fin : ∀ {base : Option Addr} {n cap' : Nat} {W : World}, c.args.map a.eval = #[.slice base n cap'] → (n = 0 → W = w) → (0 < n → ∃ A, base = some A ∧ (storeCells A (Builtin.zeroCells zv.cells n).toList).run P w = .ok () W) → Stp φ σ m w φ σ m W →
          OpOk P o0 a φ σ m w (.tup []) m := by
        intro base n cap' W hvd h0n hst hstp
        refine ⟨.tuple #[], W, φ, σ, .inl ?_, hstp, .tup .nil⟩
        rw [hrun, hvd]
        simp only [builtin, Sem.run_bind]
        have : (Builtin.clear_ c.argTypes o0.type #[.slice base n cap']).run P w = .ok (.tuple #[]) W := by
          unfold Builtin.clear_
          simp only [h0, List.getElem?_toArray, List.getElem?_cons_zero, Sem.run_bind, und_run hu, Result.andThen_ok]
          cases n with
          | zero => rw [h0n rfl]; cases base <;> simp
          | succ n =>
            obtain ⟨A, rfl, hA⟩ := hst (by omega)
            simp only [Sem.run_bind, zrun, Result.andThen_ok, hA, Sem.run_pure]
        rw [this]; rfl
      have hvs := evs_ok hG.tr hargs (vs := [.sl b i l c0 tg]) (by simp [evs, hy])
      generalize hgg : c.args.toList.map a.eval = L at hvs
      cases hvs with
      | cons hd hnil =>
        cases hnil
        have harg := args_map hgg
        have hrows : RowsAre φ sz (List.replicate l z) (Builtin.zeroCells zv.cells l).toList := by
          have := made_rows (φ := φ) (zc := zv.cells) (n := l) hzr hzl hsz h1z
          have e : (madeCells zv.cells (l * sz)).toList = (Builtin.zeroCells zv.cells l).toList := by
            unfold madeCells Builtin.zeroCells; rw [hzs]
          rw [e] at this; exact this
        cases hd with
        | sl hσ h1 h2 h3 h4 =>
          rename_i cap' img
          obtain ⟨c1, e1, fr1, q2, _⟩ := row_at hI hm hσ
          have hlc : img.o + (i + l) * img.sz ≤ img.cap := Nat.le_trans (Nat.add_le_add_left (Nat.mul_le_mul_right _ (by omega)) _) h4
          obtain ⟨W, g1, g2⟩ := tail_write (P := P) hI hm hσ hrows hle (by rw [List.length_replicate]; exact hlc)
          by_cases hn : l = 0
          · subst hn
            have : W = w := by
              have : (Builtin.zeroCells zv.cells 0).toList = [] := by simp [Builtin.zeroCells]
              rw [this] at g1; simp [storeCells] at g1; exact g1.symm
            exact fin harg (fun _ => this) (fun h => by omega) g2
          · exact fin harg (fun h => absurd h hn) (fun _ => ⟨_, rfl, g1⟩) g2
        | sl0 => exact fin harg (fun _ => rfl) (fun h => by omega) (.refl hI)
    have hG' := hG.put hst (d := o0.dst) (fun i hi => hd i hi) hv
    have hk' := hk _ hr A φ' σ' _ w' hG'
    show wpOps P ops _ (i' :: is) a w
    simp only [wpOps, ho, hw, if_true]
    refine .inl ?_
    unfold Oper.wp
    rcases hrun with hrun | ⟨hrun, rfl⟩ <;> rw [hrun] <;> exact hk'
end Go.AE

/- The abstract evaluator, part zj: less is told of a block. -/
namespace Go.AE
open Go
set_option linter.unusedVariables false
set_option linter.unusedSimpArgs false

variable {P : Program} {n k0 : Nat}

theorem sem_weak (b : Nat) (l : Blk) {k : List C} {t : Tr} {m : Mem} {Q : Exit → Tr → Mem → Prop} (hB : ∀ l0, m[b]? = some l0 → (∀ φ σ w i, BM φ σ w i l0 → BM φ σ w i l) ∧ (l.owned = true → l0.owned = true))
    (h : SemW P n k0 k t (ms m b l) Q) : SemW P n k0 k t m Q := by
  intro cs hcs A φ σ a w hG
  have hI := hG.inv
  have blks : ∀ (c : Nat) (l' : Blk), (ms m b l)[c]? = some l' → ∃ l0, m[c]? = some l0 ∧ (∀ φ σ w i, BM φ σ w i l0 → BM φ σ w i l') ∧ (l'.owned = true → l0.owned = true) := by
    intro c l' hc
    rcases ms_get _ _ _ _ _ hc with ⟨e1, e2⟩ | ⟨_, hc⟩
    · subst e1; subst e2
      have hlt : c < m.length := by
        rcases Nat.lt_or_ge c (ms m c l').length with h | h
        · rwa [ms_len] at h
        · rw [List.getElem?_eq_none h] at hc; cases hc
      have h0 : m[c]? = some m[c] := List.getElem?_eq_getElem hlt
      exact ⟨_, h0, hB _ h0⟩
    · exact ⟨_, hc, fun _ _ _ _ h => h, id⟩
  refine h cs hcs A φ σ a w ⟨hG.fz, hG.sg, ⟨hI.fz, fun c l' hc => ?_, fun c d l1 l2 i j hc hd h1 h2 hi hj hne => ?_, fun c l' i hc hl hi => ?_, fun c hc => hI.fresh c (by rwa [ms_len] at hc)⟩, hG.tr, hG.sz, hG.df, hG.grow, hG.kept, fun c l' i hc hl hi => ?_, by rw [ms_len]; exact hG.len, hG.ice, hG.env⟩
  · obtain ⟨l0, g1, g2, _⟩ := blks c l' hc
    exact g2 _ _ _ _ (hI.blk c l0 g1)
  · obtain ⟨l0, g1, _, g2⟩ := blks c l1 hc
    obtain ⟨l3, g3, _, g4⟩ := blks d l2 hd
    exact hI.inj c d l0 l3 i j g1 g3 (g2 h1) (g4 h2) hi hj hne
  · obtain ⟨l0, g1, _, g2⟩ := blks c l' hc
    exact hI.apart c l0 i g1 (g2 hl) hi
  · obtain ⟨l0, g1, _, g2⟩ := blks c l' hc
    exact hG.own c l0 i g1 (g2 hl) hi
theorem sem_tell (b c : Nat) {k : List C} {t : Tr} {m : Mem} {Q : Exit → Tr → Mem → Prop} {sz : Nat} {xs : List (List AV)} (hb : mg m b = .row sz xs) (h : SemW P n k0 k t (ms m b (.row sz (xs.take c))) Q) : SemW P n k0 k t m Q := by
  refine sem_weak b _ ?_ h
  intro l0 hl
  have e := mg_get hb rfl
  rw [hl] at e
  cases e
  refine ⟨?_, fun _ => rfl⟩
  intro φ σ w i hB
  rcases hB with ⟨rfl, h2⟩ | ⟨img, c', e, fr, h1, h2, h3, h4, h5, h6, h7, h8⟩
  · exact .inl ⟨by simp, h2⟩
  · have hle : (xs.take c).length ≤ xs.length := by rw [List.length_take]; omega
    have hle2 := Nat.mul_le_mul_right sz hle
    refine .inr ⟨img, c', e, fr, h1, h2, h3, h4, by omega, ?_, ?_, h8⟩
    · intro q u q1 q2; exact h6 q u q1 (by omega)
    · intro i x hx
      refine h7 i x ?_
      rw [List.getElem?_take] at hx
      split at hx
      · exact hx
      · cases hx
end Go.AE
