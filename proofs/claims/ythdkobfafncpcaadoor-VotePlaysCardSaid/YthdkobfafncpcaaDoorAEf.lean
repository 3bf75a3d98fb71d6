/- The abstract evaluator: AEf in one. -/
import Derived.Test.YthdkobfafncpcaaDoorAEe
/- The abstract evaluator, part f: places and loads. -/
namespace Go.AE
open Go
set_option linter.unusedVariables false
set_option linter.unusedSimpArgs false

variable {P : Program} {φ : Fz} {σ : Sg} {t : Tr} {a : Act} {m m' : Mem} {w : World} {p : Prop} {v : AV}

theorem cell_of {B o : Nat} {c : Array Value} {e : TypeId} {fr : Nat × Nat} (h : w.heap[B]? = some (.cells c e fr)) : w.cell? ⟨B, o, none⟩ = c[o]? := by
  simp [World.cell?, h]
theorem box_at (hI : Inv φ σ m w) {b : Nat} {cs : List AV} (h : mg m b = .box cs) {img : Img} (hi : σ b = some img) :
    ∃ c e fr, img.o = 0 ∧ w.heap[img.B]? = some (.cells c e fr) ∧ c.size = img.cap ∧ VRs φ σ cs c.toList ∧ Plain fr img.cap := by
  have := hI.blk b _ (mg_get h rfl)
  rw [hi] at this
  obtain ⟨img', c, e, fr, e1, e2, e3, e4, e5, e6⟩ := this
  cases e1
  exact ⟨c, e, fr, e2, e3, e4, e5, e6⟩
theorem box_cell (hI : Inv φ σ m w) {b : Nat} {cs : List AV} (h : mg m b = .box cs) {img : Img} (hi : σ b = some img) {j : Nat} {u : AV} (hj : cs[j]? = some u) :
    ∃ v', w.cell? ⟨img.B, img.o + j, none⟩ = some v' ∧ VR φ σ u v' := by
  obtain ⟨c, e, fr, e2, e3, e4, e5, e6⟩ := box_at hI h hi
  obtain ⟨v', h1, h2⟩ := e5.get hj
  refine ⟨v', ?_, h2⟩
  rw [cell_of e3, e2]; simpa using h1
theorem row_at (hI : Inv φ σ m w) {b sz : Nat} {xs : List (List AV)} (h : mg m b = .row sz xs) {img : Img} (hi : σ b = some img) :
    ∃ c e fr, img.sz = sz ∧ w.heap[img.B]? = some (.cells c e fr) ∧ c.size = img.cap ∧ img.o + xs.length * sz ≤ img.cap ∧ Ones c img.o (img.o + xs.length * sz) ∧
      (∀ i x, xs[i]? = some x → VRs φ noS x ((c.toList.drop (img.o + i * sz)).take sz)) ∧ Plain fr img.cap := by
  have := hI.blk b _ (mg_get h rfl)
  rw [hi] at this
  rcases this with ⟨_, e⟩ | ⟨img', c, e, fr, e1, e2, e3, e4, e5, e5', e6, e7⟩
  · cases e
  · cases e1; exact ⟨c, e, fr, e2, e3, e4, e5, e5', e6, e7⟩
theorem win_get {c : List Value} {o s j : Nat} {u : Value} (h : ((c.drop o).take s)[j]? = some u) : c[o + j]? = some u ∧ j < s := by
  rw [List.getElem?_take] at h
  split at h
  · rename_i hj; exact ⟨by simpa using h, hj⟩
  · cases h
theorem row_cell (hI : Inv φ σ m w) {b sz : Nat} {xs : List (List AV)} (h : mg m b = .row sz xs) {img : Img} (hi : σ b = some img) {i j : Nat} {x : List AV} {u : AV} (hx : xs[i]? = some x) (hj : x[j]? = some u) :
    ∃ v', w.cell? ⟨img.B, img.o + i * img.sz + j, none⟩ = some v' ∧ VR φ noS u v' := by
  obtain ⟨c, e, fr, e2, e3, e4, e5, _, e6, _⟩ := row_at hI h hi
  obtain ⟨v', h1, h2⟩ := (e6 i x hx).get hj
  refine ⟨v', ?_, h2⟩
  rw [cell_of e3, e2]; simpa using (win_get h1).1

theorem rd1_ok {k : CK} {xs : List (List AV)} {i j : Nat} (h : rd1 k xs i j = some (p, v)) (hp : p) :
    ∃ x u, xs[i]? = some x ∧ x[j]? = some u ∧ ∀ {σ : Sg} {v' : Value}, VR φ σ u v' → VR φ σ v v' := by
  cases k <;> simp only [rd1] at h <;> cases h
  · obtain ⟨x, n, h1, h2⟩ := hp
    refine ⟨x, _, h1, h2, fun {σ v'} hv => ?_⟩
    have : rint xs i j = n := by simp [rint, List.getD_eq_getElem?_getD, h1, h2]
    rw [this]; exact hv
  · obtain ⟨x, b, h1, h2⟩ := hp
    rcases h2 with h2 | h2
    · refine ⟨x, _, h1, h2, fun {σ v'} hv => ?_⟩
      have : rbool xs i j = b := by simp [rbool, List.getD_eq_getElem?_getD, h1, h2]
      rw [this]; cases hv; exact .bsym
    · refine ⟨x, _, h1, h2, fun {σ v'} hv => ?_⟩
      have : rbool xs i j = b := by simp [rbool, List.getD_eq_getElem?_getD, h1, h2]
      rw [this]; cases hv; exact .bsym
  · obtain ⟨x, s, h1, h2⟩ := hp
    refine ⟨x, _, h1, h2, fun {σ v'} hv => ?_⟩
    have : rstr xs i j = s := by simp [rstr, List.getD_eq_getElem?_getD, h1, h2]
    rw [this]; exact hv
  · obtain ⟨x, u, h1, h2⟩ := hp
    refine ⟨x, u, h1, h2, fun {σ v'} hv => ?_⟩
    have : rany xs i j = u := by simp [rany, List.getD_eq_getElem?_getD, h1, h2]
    rw [this]; exact hv

theorem ldA_ok (hI : Inv φ σ m w) {k : CK} {q : AV} {vq : Value} (hq : VR φ σ q vq) (h : ldA k m q = some (p, v, m')) (hp : p) :
    ∃ A v', vq = .pointer (some A) ∧ w.cell? A = some v' ∧ VR φ σ v v' ∧ m' = m := by
  unfold ldA at h
  split at h
  · rename_i b j
    split at h
    · rename_i cs hb
      split at h
      · rename_i u hu
        cases h
        cases hq with
        | pbox hi =>
          obtain ⟨v', h1, h2⟩ := box_cell hI hb hi (lg_get hu)
          exact ⟨_, v', rfl, h1, h2, rfl⟩
      · cases h
    · cases h
  · rename_i b j i
    split at h
    · rename_i cs hb
      split at h
      · rename_i q u hu
        cases h
        cases hq with
        | parr hi =>
          obtain ⟨x, u0, h1, h2, h3⟩ := rd1_ok (φ := φ) hu hp
          simp only [List.getElem?_map, Option.map_eq_some_iff] at h1
          obtain ⟨c0, h1, rfl⟩ := h1
          simp at h2; subst h2
          obtain ⟨v', g1, g2⟩ := box_cell hI hb hi h1
          exact ⟨_, v', rfl, g1, h3 g2, rfl⟩
      · cases h
    · cases h
  · rename_i b i j
    split at h
    · rename_i s xs hb
      split at h
      · rename_i q u hu
        cases h
        cases hq with
        | pelt hi =>
          obtain ⟨x, u0, h1, h2, h3⟩ := rd1_ok (φ := φ) hu hp
          obtain ⟨v', g1, g2⟩ := row_cell hI hb hi h1 h2
          exact ⟨_, v', rfl, g1, h3 (g2.mono (Fz.le_refl _) (noS_le _)), rfl⟩
      · cases h
    · cases h
  · rename_i s xs i j
    split at h
    · rename_i q u hu
      cases h
      cases hq with
      | pval hφ hb hon hx =>
        rename_i B o c e fr
        obtain ⟨x, u0, h1, h2, h3⟩ := rd1_ok (φ := φ) hu hp
        obtain ⟨v', g1, g2⟩ := (hx i x h1).get h2
        refine ⟨_, v', rfl, ?_, h3 (g2.mono (Fz.le_refl _) (noS_le _)), rfl⟩
        rw [cell_of (hI.fz B _ hφ)]; simpa using (win_get g1).1
    · cases h
  · cases h

theorem isAgg_run {ty : TypeId} {u : TypeDesc} (hu : P.underlying ty = some u) : (isAgg ty).run P w = .ok (isAggB P ty) w := by
  simp only [isAgg, Sem.run_bind, und_run hu, Result.andThen_ok, isAggB, hu]
  cases u <;> rfl
theorem cks_und {f : Nat} {ty : TypeId} {ks : List CK} (h : cks P f ty = some ks) : ∃ u, P.underlying ty = some u := by
  cases f with
  | zero => simp [cks] at h
  | succ f =>
    cases hu : P.underlying ty with
    | some u => exact ⟨u, rfl⟩
    | none => simp [cks, hu] at h

theorem ok_ld (hI : Inv φ σ m w) (ht : TR φ σ t a.tmps) {o : Oper} {ty : TypeId} {x : Operand} {y : Opd} {k : CK} {f : Nat} {ks : List CK} (ho : o.op = .load ty x) (hx : cOpd x = some y)
    (hk : cks P f ty = some ks) (hn : isAggB P ty = false) (he : ao (.ld k y) t m = some (p, v, m')) (hp : p) : OpOk P o a φ σ m w v m' := by
  simp only [ao] at he
  split at he
  · rename_i u hu
    obtain ⟨A, v', h1, h2, h3, rfl⟩ := ldA_ok hI (ev_ok ht hx hu) he hp
    obtain ⟨d, hd⟩ := cks_und hk
    refine .pure hI (v' := v') ?_ h3
    simp [execOp, ho, h1, Instr.loadAt, Instr.sureAddr, loadVar, isAgg_run hd, hn, h2]
  · cases he

def Lays (φ : Fz) (σ : Sg) (w : World) (A : Addr) (vs : List AV) : Prop := ∃ us, VRs φ σ vs us ∧ ∀ j u, us[j]? = some u → w.cell? (A.add j) = some u

theorem rdn_ok : ∀ {ks : List CK} {xs : List (List AV)} {i j : Nat} {q : Prop} {vs : List AV}, rdn ks xs i j = some (q, vs) → q →
    vs.length = ks.length ∧ ∀ n u, vs[n]? = some u → ∃ x u0, xs[i]? = some x ∧ x[j + n]? = some u0 ∧ ∀ {σ : Sg} {v' : Value}, VR φ σ u0 v' → VR φ σ u v'
  | [], xs, i, j, q, vs, h, hq => by simp only [rdn] at h; cases h; simp
  | k :: ks, xs, i, j, q, vs, h, hq => by
    simp only [rdn] at h
    split at h
    · rename_i p1 v1 p2 vs2 e1 e2
      cases h
      obtain ⟨hl, hr⟩ := rdn_ok e2 hq.2
      refine ⟨by simp [hl], fun n u hu => ?_⟩
      cases n with
      | zero => simp at hu; subst hu; exact rd1_ok e1 hq.1
      | succ n =>
        simp at hu
        obtain ⟨x, u0, h1, h2, h3⟩ := hr n u hu
        exact ⟨x, u0, h1, by rw [← h2]; congr 1; omega, h3⟩
    · cases h

theorem lays_of {A : Addr} {vs : List AV} (h : ∀ n u, vs[n]? = some u → ∃ v', w.cell? (A.add n) = some v' ∧ VR φ σ u v') : Lays φ σ w A vs := by
  have key : ∀ (n : Nat), n ≤ vs.length → ∃ us : List Value, us.length = n ∧ (∀ (j : Nat) (a : AV) (b : Value), vs[j]? = some a → us[j]? = some b → VR φ σ a b) ∧ ∀ (j : Nat) (u : Value), us[j]? = some u → w.cell? (A.add j) = some u := by
    intro n
    induction n with
    | zero => intro _; exact ⟨[], rfl, by simp, by simp⟩
    | succ n ih =>
      intro hn
      obtain ⟨us, hl, h1, h2⟩ := ih (by omega)
      obtain ⟨v', g1, g2⟩ := h n vs[n] (by simp)
      refine ⟨us ++ [v'], by simp [hl], ?_, ?_⟩
      · intro j a b ha hb
        rcases Nat.lt_trichotomy j n with hj | hj | hj
        · rw [List.getElem?_append_left (by omega)] at hb; exact h1 j a b ha hb
        · subst hj
          rw [List.getElem?_append_right (by omega)] at hb
          simp [hl] at hb; subst hb
          rw [List.getElem?_eq_getElem (by omega)] at ha; cases ha; exact g2
        · rw [List.getElem?_eq_none (by simp; omega)] at hb; cases hb
      · intro j u hu
        rcases Nat.lt_trichotomy j n with hj | hj | hj
        · rw [List.getElem?_append_left (by omega)] at hu; exact h2 j u hu
        · subst hj
          rw [List.getElem?_append_right (by omega)] at hu
          simp [hl] at hu; subst hu; exact g1
        · rw [List.getElem?_eq_none (by simp; omega)] at hu; cases hu
  obtain ⟨us, hl, h1, h2⟩ := key vs.length (Nat.le_refl _)
  exact ⟨us, VRs.of_get hl.symm h1, h2⟩

theorem ldN_ok (hI : Inv φ σ m w) {ks : List CK} {q : AV} {vq : Value} (hq : VR φ σ q vq) (h : ldN ks m q = some (p, v, m')) (hp : p) :
    ∃ A vs, vq = .pointer (some A) ∧ v = .agg vs ∧ vs.length = ks.length ∧ Lays φ σ w A vs ∧ m' = m := by
  unfold ldN at h
  split at h
  · rename_i b j
    split at h
    · rename_i cs hb
      split at h
      · rename_i vs hvs
        cases h
        cases hq with
        | pbox hi =>
          obtain ⟨rfl, hl⟩ := ltk_eq hvs
          refine ⟨_, _, rfl, rfl, hl, ?_, rfl⟩
          refine lays_of fun n u hu => ?_
          rw [add_eq]
          rw [ldr_eq, List.getElem?_take] at hu
          split at hu
          · rw [List.getElem?_drop] at hu
            obtain ⟨v', g1, g2⟩ := box_cell hI hb hi hu
            exact ⟨v', by rw [Nat.add_assoc]; exact g1, g2⟩
          · cases hu
      · cases h
    · cases h
  · rename_i b i j
    split at h
    · rename_i s xs hb
      split at h
      · rename_i q vs hvs
        cases h
        cases hq with
        | pelt hi =>
          obtain ⟨hl, hr⟩ := rdn_ok (φ := φ) hvs hp
          refine ⟨_, _, rfl, rfl, hl, ?_, rfl⟩
          refine lays_of fun n u hu => ?_
          rw [add_eq]
          obtain ⟨x, u0, h1, h2, h3⟩ := hr n u hu
          obtain ⟨v', g1, g2⟩ := row_cell hI hb hi h1 h2
          exact ⟨v', by rw [Nat.add_assoc]; exact g1, h3 (g2.mono (Fz.le_refl _) (noS_le _))⟩
      · cases h
    · cases h
  · rename_i s xs i j
    split at h
    · rename_i q vs hvs
      cases h
      cases hq with
      | pval hφ hb hon hx =>
        rename_i B o c e fr
        obtain ⟨hl, hr⟩ := rdn_ok (φ := φ) hvs hp
        refine ⟨_, _, rfl, rfl, hl, ?_, rfl⟩
        refine lays_of fun n u hu => ?_
        rw [add_eq]
        obtain ⟨x, u0, h1, h2, h3⟩ := hr n u hu
        obtain ⟨v', g1, g2⟩ := (hx i x h1).get h2
        refine ⟨v', ?_, h3 (g2.mono (Fz.le_refl _) (noS_le _))⟩
        rw [cell_of (hI.fz B _ hφ), Nat.add_assoc]; simpa using (win_get g1).1
    · cases h
  · cases h

theorem ok_ldn (hI : Inv φ σ m w) (ht : TR φ σ t a.tmps) {o : Oper} {ty : TypeId} {x : Operand} {y : Opd} {f : Nat} {ks : List CK} (ho : o.op = .load ty x) (hx : cOpd x = some y)
    (hk : cks P f ty = some ks) (hn : isAggB P ty = true) (hs : szT P ty = some ks.length) (he : ao (.ldn ks y) t m = some (p, v, m')) (hp : p) : OpOk P o a φ σ m w v m' := by
  simp only [ao] at he
  split at he
  · rename_i u hu
    obtain ⟨A, vs, h1, rfl, hl, ⟨us, hus, hcell⟩, rfl⟩ := ldN_ok hI (ev_ok ht hx hu) he hp
    obtain ⟨d, hd⟩ := cks_und hk
    have hul : us.length = ks.length := by rw [← hus.length, hl]
    have hload : (loadCells A ks.length).run P w = .ok us.toArray w := by
      rw [← hul]; exact run_loadCells_list _ A us fun j u hu => hcell j u hu
    refine .pure hI (v' := .agg us.toArray) ?_ (.agg hus)
    simp [execOp, ho, h1, Instr.loadAt, Instr.sureAddr, loadVar, isAgg_run hd, hn, size_run hs, hload]
  · cases he

theorem ok_fad (hI : Inv φ σ m w) (ht : TR φ σ t a.tmps) {o : Oper} {s : TypeId} {x : Operand} {y : Opd} {i n : Nat} {fs : Array Field} {f : Field} (ho : o.op = .fieldAddr s x i) (hx : cOpd x = some y)
    (hu : P.underlying s = some (.struct fs)) (hf : fs[i]? = some f) (hs : szT P f.type = some n) (hn : n ≠ 0) (he : ao (.fad f.offset y) t m = some (p, v, m')) : OpOk P o a φ σ m w v m' := by
  simp only [ao] at he
  split at he
  · rename_i u hu'
    have hv := ev_ok ht hx hu'
    split at he
    · rename_i r hr
      cases he
      have key : ∃ A, a.eval x = .pointer (some A) ∧ VR φ σ v (.pointer (some (A.add f.offset))) := by
        generalize a.eval x = vx at hv
        unfold fadA at hr
        split at hr
        · cases hr; cases hv with | pbox hi => exact ⟨_, rfl, by rw [add_eq, Nat.add_assoc]; exact .pbox hi⟩
        · cases hr; cases hv with | pelt hi => exact ⟨_, rfl, by rw [add_eq, Nat.add_assoc]; exact .pelt hi⟩
        · cases hr; cases hv with | pval h1 h2 h3 h4 => exact ⟨_, rfl, by rw [add_eq, Nat.add_assoc]; exact .pval h1 h2 h3 h4⟩
        · cases hr
      obtain ⟨A, hA, hv'⟩ := key
      refine .pure hI (v' := .pointer (some (A.add f.offset))) ?_ hv'
      simp [execOp, ho, hA, Instr.fieldAt, und_run hu, hf, Instr.sureAddr, fieldPlace, size_run hs, hn]
    · cases he
  · cases he

theorem ok_fld (hI : Inv φ σ m w) (ht : TR φ σ t a.tmps) {o : Oper} {s : TypeId} {x : Operand} {y : Opd} {i : Nat} {n : Option Nat} {fs : Array Field} {f : Field} {d : TypeDesc} (ho : o.op = .field s x i) (hx : cOpd x = some y)
    (hu : P.underlying s = some (.struct fs)) (hf : fs[i]? = some f) (hd : P.underlying f.type = some d)
    (hn : (isAggB P f.type = true ∧ ∃ k, n = some k ∧ szT P f.type = some k) ∨ (isAggB P f.type = false ∧ n = none))
    (he : ao (.fld f.offset n y) t m = some (p, v, m')) : OpOk P o a φ σ m w v m' := by
  simp only [ao] at he
  split at he
  · rename_i cs hu'
    have hv := ev_ok ht hx hu'
    generalize hg : a.eval x = vx at hv
    cases hv with
    | agg hcs =>
      rename_i us
      rcases hn with ⟨hagg, k, rfl, hk⟩ | ⟨hagg, rfl⟩
      · dsimp only at he
        split at he
        · rename_i vs hvs
          cases he
          obtain ⟨rfl, hl⟩ := ltk_eq hvs
          rw [ldr_eq] at *
          refine .pure hI (v' := .agg (us.toArray.extract f.offset (f.offset + k))) ?_ ?_
          · simp [execOp, ho, hg, Instr.field, und_run hu, hf, asAgg, part, isAgg_run hd, hagg, size_run hk]
          · have : us.toArray.extract f.offset (f.offset + k) = ((us.drop f.offset).take k).toArray := by
              apply Array.ext'; simp
            rw [this]
            exact .agg ((hcs.drop _).take _)
        · cases he
      · dsimp only at he
        split at he
        · rename_i u hu2
          cases he
          obtain ⟨u', g1, g2⟩ := hcs.get (lg_get hu2)
          refine .pure hI (v' := u') ?_ g2
          simp [execOp, ho, hg, Instr.field, und_run hu, hf, asAgg, part, isAgg_run hd, hagg, g1]
        · cases he
  · cases he

theorem ok_iad (hI : Inv φ σ m w) (ht : TR φ σ t a.tmps) {o : Oper} {ty e : TypeId} {x i : Operand} {y j : Opd} {sz : Nat} (ho : o.op = .indexAddr ty x i) (hx : cOpd x = some y) (hi : cOpd i = some j)
    (hu : P.underlying ty = some (.slice e)) (hs : szT P e = some sz) (he : ao (.iad sz y j) t m = some (p, v, m')) (hp : p) : OpOk P o a φ σ m w v m' := by
  simp only [ao] at he
  split at he
  · rename_i u1 u2 e1 e2
    have h1 := ev_ok ht hx e1
    have h2 := ev_ok ht hi e2
    generalize hg1 : a.eval x = vx at h1
    generalize hg2 : a.eval i = vi at h2
    split at he
    · rename_i q r hr
      cases he
      have run : ∀ {A : Addr} {n c : Nat} {k : IntKind} {z : Int}, vx = .slice (some A) n c → vi = .int k z → inb z n →
          (execOp a.eval o).run P w = .ok (.value (.pointer (some (A.add (z.toNat * sz))))) w := by
        intro A n c k z e1 e2 ⟨b1, b2⟩
        subst e1; subst e2
        simp [execOp, ho, hg1, hg2, Instr.indexAt, asIntOf, und_run hu, b1, b2, size_run hs]
      unfold iadA at hr
      split at hr
      · rename_i b i n c tight k z
        split at hr
        · rename_i hrow
          cases hr
          obtain ⟨xs, _, hrow⟩ := isRow_ok hI hrow
          cases h2
          cases h1 with
          | sl hσ g1 g2 g3 g4 =>
            rename_i cap' img
            have hisz := row_sz hI hrow hσ
            refine .pure hI (run rfl rfl hp) ?_
            have := VR.pelt (φ := φ) (σ := σ) (b := b) (i := addi i z) (j := 0) hσ
            rw [add_eq]
            rw [addi, Nat.add_mul, ← Nat.add_assoc, Nat.add_zero, hisz] at this
            rw [hisz]
            exact this
          | sl0 => exact absurd hp.2 (by have := hp.1; simp; omega)
        · cases hr
      · rename_i b j i n c k z
        split at hr
        · rename_i hs1
          cases hr
          have : sz = 1 := by simpa using hs1
          subst this
          cases h2
          cases h1 with
          | asl hσ g1 g2 g4 =>
            rename_i cap' img
            refine .pure hI (run rfl rfl hp) ?_
            have := VR.parr (φ := φ) (σ := σ) (b := b) (j := j) (i := addi i z) hσ
            rw [add_eq]
            rw [addi, show img.o + (j + (i + z.toNat)) = img.o + (j + i) + z.toNat * 1 by omega] at this
            exact this
          | asl0 => exact absurd hp.2 (by have := hp.1; simp; omega)
        · cases hr
      · rename_i s xs tight k z
        split at hr
        · rename_i hs1
          cases hr
          cases h2
          have : s = sz := by simpa using hs1
          subst this
          cases h1 with
          | vsl hφ hb hon hx' hc htt =>
            refine .pure hI (run rfl rfl hp) ?_
            have := VR.pval (φ := φ) (σ := σ) (i := addi 0 z) (j := 0) hφ hb hon hx'
            rw [add_eq]
            rw [addi, Nat.zero_add, Nat.add_zero] at this
            rw [addi, Nat.zero_add]
            exact this
          | vsl0 => exact absurd hp.2 (by have := hp.1; simp; omega)
        · cases hr
      · cases hr
    · cases he
  · cases he

theorem ok_iaa (hI : Inv φ σ m w) (ht : TR φ σ t a.tmps) {o : Oper} {ty e : TypeId} {x i : Operand} {y j : Opd} {n : Nat} (ho : o.op = .indexAddr ty x i) (hx : cOpd x = some y) (hi : cOpd i = some j)
    (hu : P.underlying ty = some (.array n e)) (hs : szT P e = some 1) (he : ao (.iaa n y j) t m = some (p, v, m')) (hp : p) : OpOk P o a φ σ m w v m' := by
  simp only [ao] at he
  split at he
  · rename_i b j k z e1 e2
    have h1 := ev_ok ht hx e1
    have h2 := ev_ok ht hi e2
    generalize hg1 : a.eval x = vx at h1
    generalize hg2 : a.eval i = vi at h2
    cases he
    obtain ⟨b1, b2⟩ := hp
    cases h2
    cases h1 with
    | pbox hσ =>
      rename_i img
      refine .pure hI (v' := .pointer (some (Addr.add ⟨img.B, img.o + j, none⟩ (z.toNat * 1)))) ?_ ?_
      · simp [execOp, ho, hg1, hg2, Instr.indexAt, asIntOf, und_run hu, Instr.sureAddr, b1, b2, size_run hs]
      · rw [add_eq, Nat.mul_one, Nat.add_assoc]; exact .parr hσ
  · cases he

theorem ok_asl (hI : Inv φ σ m w) (ht : TR φ σ t a.tmps) {o : Oper} {ty e : TypeId} {x : Operand} {lo hi : Option Operand} {y : Opd} {lo' hi' : Option Opd} {n : Nat} (ho : o.op = .slice ty x lo hi none) (hx : cOpd x = some y)
    (hlo : cOpt lo = some lo') (hhi : cOpt hi = some hi') (hu : P.underlying ty = some (.array n e)) (hs : szT P e = some 1) (he : ao (.asl n y lo' hi') t m = some (p, v, m')) (hp : p) : OpOk P o a φ σ m w v m' := by
  simp only [ao] at he
  split at he
  · rename_i b j e1
    have h1 := ev_ok ht hx e1
    generalize hg1 : a.eval x = vx at h1
    split at he
    · rename_i q l h cs hb hm
      cases he
      cases h1 with
      | pbox hσ =>
        rename_i img
        obtain ⟨c, e, fr, e2, e3, e4, e5, e6⟩ := box_at hI hm hσ
        have hcl : cs.length = img.cap := by rw [e5.length]; simpa using e4
        obtain ⟨hb', g1, g2, g3⟩ := bnds_ok (P := P) (w := w) (a := a) (isS := false) ht hlo hhi hb hp.1 (Nat.le_refl _) (Nat.le_refl _)
        refine .pure hI (v' := .slice (some (if n = l then ⟨img.B, img.o + j, none⟩ else Addr.add ⟨img.B, img.o + j, none⟩ (l * 1))) (h - l) (n - l)) ?_ ?_
        · simp [execOp, ho, hg1, Instr.sliceAt, und_run hu, Instr.sureAddr, hb', size_run hs]
        · by_cases hnl : n = l
          · rw [if_pos hnl, show n - l = 0 by omega, show h - l = 0 by omega]; exact .asl0
          · rw [if_neg hnl, add_eq]
            have := VR.asl (φ := φ) (σ := σ) (b := b) (j := j) (i := l) (len := h - l) (cap := n - l) (cap' := n - l) hσ (by omega) (by omega) (by have := hp.2; omega)
            rw [show img.o + (j + l) = img.o + j + l * 1 by omega] at this
            exact this
    · cases he
  · cases he
end Go.AE
