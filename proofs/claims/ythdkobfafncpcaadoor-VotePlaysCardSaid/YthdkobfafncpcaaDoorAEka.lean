/- The abstract evaluator: AEka in one. -/
import Derived.Test.YthdkobfafncpcaaDoorAEk
import Derived.Laws.StructEq
/- The abstract evaluator, part ka: structs held against each other; copy; clear. -/
namespace Go.AE
open Go
set_option linter.unusedVariables false
set_option linter.unusedSimpArgs false

variable {P : Program} {φ : Fz} {σ : Sg} {t : Tr} {a : Act} {m m' : Mem} {w : World} {p : Prop} {v : AV}

theorem part_run {ty : TypeId} {u : TypeDesc} {xs : Array Value} {i : Nat} {x : Value} (hu : P.underlying ty = some u) (hn : isAggB P ty = false) (h : xs[i]? = some x) : (part ty xs i).run P w = .ok x w := by
  unfold part
  simp only [Sem.run_bind, isAgg_run hu, hn, Result.andThen_ok, Bool.false_eq_true, if_false, h, Sem.run_pure]
theorem ok_iag (hI : Inv φ σ m w) (ht : TR φ σ t a.tmps) {o : Oper} {ty e : TypeId} {x i : Operand} {j : Opd} {g : Nat} {k : IntKind} {l : List Int} (ho : o.op = .indexAddr ty x i) (hx : gOpd x = some (g, k, l)) (hi : cOpd i = some j)
    (hu : P.underlying ty = some (.array l.length e)) (hs : szT P e = some 1) (he : ao (.iag g k l j) t m = some (p, v, m')) (hp : p) : OpOk P o a φ σ m w v m' := by
  simp only [ao] at he
  split at he
  · rename_i k2 z e2
    have h2 := ev_ok ht hi e2
    generalize hg2 : a.eval i = vi at h2
    cases he
    obtain ⟨b1, b2⟩ := hp
    cases h2
    obtain ⟨rfl, hgl⟩ := gOpd_ok hx
    obtain ⟨ty2, fr, hφ⟩ := hI.lf g k l hgl
    have hg1 : a.eval (.global g) = .pointer (some ⟨g, 0, none⟩) := rfl
    refine .pure hI (v' := .pointer (some (Addr.add ⟨g, 0, none⟩ (z.toNat * 1)))) ?_ ?_
    · simp [execOp, ho, hg1, hg2, Instr.indexAt, asIntOf, und_run hu, Instr.sureAddr, b1, b2, size_run hs]
    · rw [add_eq, Nat.mul_one, Nat.zero_add]
      have := VR.pval (φ := φ) (σ := σ) (sz := 1) (xs := l.map fun n => [AV.int k n]) (i := z.toNat) (j := 0) (B := g) (o := 0) hφ (by simp) (by
        intro q u _ _ hq
        simp only [List.getElem?_toArray, List.getElem?_map, Option.map_eq_some_iff] at hq
        obtain ⟨n, _, rfl⟩ := hq
        rfl) (by
        intro q x hq
        simp only [List.getElem?_map, Option.map_eq_some_iff] at hq
        obtain ⟨n, hn, rfl⟩ := hq
        have : ((l.map fun n => Value.int k n).toArray.toList.drop (0 + q * 1)).take 1 = [Value.int k n] := by
          rw [Nat.zero_add, Nat.mul_one, List.take_one, List.head?_drop]
          simp [hn]
        rw [this]
        exact .cons .int .nil)
      simpa using this
  · cases he
theorem ok_ixa (hI : Inv φ σ m w) (ht : TR φ σ t a.tmps) {o : Oper} {ty e : TypeId} {n f : Nat} {ck : CK} {x i : Operand} {y j : Opd} (ho : o.op = .index ty x i) (hx : cOpd x = some y) (hi : cOpd i = some j)
    (hu : P.underlying ty = some (.array n e)) (hs : szT P e = some 1) (hk : cks P f e = some [ck]) (hn : isAggB P e = false) (he : ao (.ixa n ck y j) t m = some (p, v, m')) (hp : p) : OpOk P o a φ σ m w v m' := by
  simp only [ao] at he
  split at he
  · rename_i cs k z e1 e2
    have h1 := ev_ok ht hx e1
    have h2 := ev_ok ht hi e2
    split at he
    · rename_i q u hr
      cases he
      obtain ⟨⟨p1, p2⟩, hq⟩ := hp
      obtain ⟨x0, u0, g1, g2, g3⟩ := rd1_ok (φ := φ) hr hq
      simp only [ones, List.getElem?_map, Option.map_eq_some_iff] at g1
      obtain ⟨c0, g1, rfl⟩ := g1
      simp at g2; subst g2
      generalize hg : a.eval x = vx at h1
      generalize hg2 : a.eval i = vi at h2
      cases h2
      cases h1 with
      | agg hc =>
        rename_i cs'
        obtain ⟨v', q1, q2⟩ := hc.get g1
        obtain ⟨d, hd⟩ := cks_und hk
        refine .pure hI (v' := v') ?_ (g3 q2)
        have hpart := part_run (P := P) (w := w) (xs := cs'.toArray) (i := z.toNat) (x := v') hd hn (by simpa using q1)
        simp [execOp, ho, hg, hg2, Instr.index, asIntOf, und_run hu, p1, p2, size_run hs, hpart]
    · cases he
  · cases he
theorem eqF_ok {d : Nat} {xs ys : Array Value} : ∀ (fs : List Field) (i : Nat) (ks : List CK) (cs ds : List AV) (b : Bool), flatFs P i fs = some ks → VRs φ σ cs (xs.toList.drop i) → VRs φ σ ds (ys.toList.drop i) →
    eqc ks cs ds = some b → (Op.eqFields (d + 1) xs ys fs).run P w = .ok b w
  | [], i, ks, cs, ds, b, hf, h1, h2, he => by
    simp only [flatFs, Option.some.injEq] at hf
    subst hf
    cases cs <;> cases ds <;> simp only [eqc] at he <;> first | (cases he; done) | (cases he; simp [Op.eqFields])
  | f :: fs, i, ks, cs, ds, b, hf, h1, h2, he => by
    simp only [flatFs] at hf
    have step : ∀ {u : TypeDesc} {ks' : List CK} {c e : AV} {cs' ds' : List AV} {x y : Bool}, (f.name != "_" && f.offset == i) = true → P.underlying f.type = some u → isAggB P f.type = false → flatFs P (i + 1) fs = some ks' →
        VRs φ σ (c :: cs') (xs.toList.drop i) → VRs φ σ (e :: ds') (ys.toList.drop i) → eqc ks' cs' ds' = some y →
        (∀ vx vy, VR φ σ c vx → VR φ σ e vy → (Op.equalIn (d + 1) f.type vx vy).run P w = .ok x w) → (Op.eqFields (d + 1) xs ys (f :: fs)).run P w = .ok (x && y) w := by
      intro u ks' c e cs' ds' x y hn hu ha hks v1 v2 hy heq
      have g : ∀ {l : List AV} {c : AV} {zs : Array Value}, VRs φ σ (c :: l) (zs.toList.drop i) → ∃ z, zs[i]? = some z ∧ VR φ σ c z ∧ VRs φ σ l (zs.toList.drop (i + 1)) := by
        intro l c zs h
        generalize hd : zs.toList.drop i = dl at h
        cases h with
        | cons hz ht =>
          rename_i z zl
          have h0 := congrArg (fun l => l[0]?) hd
          simp at h0
          refine ⟨z, h0, hz, ?_⟩
          have h1 := congrArg (List.drop 1) hd
          simp at h1
          rw [show i + 1 = i + 1 from rfl]
          rw [h1]; exact ht
      obtain ⟨vx, hx, hrx, htx⟩ := g v1
      obtain ⟨vy, hyy, hry, hty⟩ := g v2
      simp only [Bool.and_eq_true, bne_iff_ne, ne_eq, beq_iff_eq] at hn
      have rest := eqF_ok (d := d) fs (i + 1) ks' cs' ds' y hks htx hty hy
      simp only [Op.eqFields, ne_eq, hn.1, not_false_eq_true, if_true, Sem.run_bind, hn.2, part_run (w := w) hu ha hx, part_run (w := w) hu ha hyy, Result.andThen_ok, heq vx vy hrx hry]
      cases x
      · simp
      · simp [rest]
    have bb : ∀ (x y : Bool) (vx vy : Value), P.underlying f.type = some .bool → (VR φ σ (.bool x) vx ∨ VR φ σ (.bsym x) vx) → (VR φ σ (.bool y) vy ∨ VR φ σ (.bsym y) vy) → (Op.equalIn (d + 1) f.type vx vy).run P w = .ok (x == y) w := by
      intro x y vx vy hu hvx hvy
      have e1 : vx = .bool x := by rcases hvx with h | h <;> cases h <;> rfl
      have e2 : vy = .bool y := by rcases hvy with h | h <;> cases h <;> rfl
      subst e1; subst e2
      exact run_equalIn_bool' w d _ _ _ hu
    unfold eqc at he
    split at hf
    · rename_i k ks' hn hu hks
      cases hf
      split at he
      · rename_i h; cases h
      · rename_i h
        cases h
        split at he
        · rename_i b' hk hb
          cases he
          rename_i k1 x l k2 y r _ _
          have : k1 = k2 := by simpa [kd] using hk
          subst this
          exact step hn hu (by simp [isAggB, hu]) hks h1 h2 hb fun vx vy hvx hvy => by
            cases hvx; cases hvy; exact run_equalIn_int w d _ _ _ _ _ hu
        · cases he
      all_goals first | (rename_i h; cases h; done) | (cases he; done)
    · rename_i ks' hn hu hks
      cases hf
      split at he
      · rename_i h; cases h
      · rename_i h; cases h
      · rename_i h; cases h
      · rename_i h
        cases h
        split at he
        · rename_i b' hb
          cases he
          exact step hn hu (by simp [isAggB, hu]) hks h1 h2 hb fun vx vy hvx hvy => bb _ _ vx vy hu (.inr hvx) (.inr hvy)
        · cases he
      · rename_i h
        cases h
        split at he
        · rename_i b' hb
          cases he
          exact step hn hu (by simp [isAggB, hu]) hks h1 h2 hb fun vx vy hvx hvy => bb _ _ vx vy hu (.inl hvx) (.inr hvy)
        · cases he
      · rename_i h
        cases h
        split at he
        · rename_i b' hb
          cases he
          exact step hn hu (by simp [isAggB, hu]) hks h1 h2 hb fun vx vy hvx hvy => bb _ _ vx vy hu (.inr hvx) (.inl hvy)
        · cases he
      · rename_i h
        cases h
        split at he
        · rename_i b' hb
          cases he
          exact step hn hu (by simp [isAggB, hu]) hks h1 h2 hb fun vx vy hvx hvy => bb _ _ vx vy hu (.inl hvx) (.inl hvy)
        · cases he
      · cases he
    · rename_i ks' hn hu hks
      cases hf
      split at he
      · rename_i h; cases h
      · rename_i h; cases h
      · rename_i h
        cases h
        split at he
        · rename_i b' hb
          cases he
          exact step hn hu (by simp [isAggB, hu]) hks h1 h2 hb fun vx vy hvx hvy => by
            cases hvx; cases hvy; rw [run_equalIn_string w d _ _ _ hu, bytes_beq]
        · cases he
      all_goals first | (rename_i h; cases h; done) | (cases he; done)
    · cases hf
theorem ok_eqa (hI : Inv φ σ m w) (ht : TR φ σ t a.tmps) {o : Oper} {op : BinOp} {xt yt : TypeId} {x y : Operand} {x' y' : Opd} {ks : List CK} {fs : Array Field} (ho : o.op = .binOp op xt x y yt) (hop : op = .eql ∨ op = .neq)
    (hu : P.underlying xt = some (.struct fs)) (hf : flatFs P 0 fs.toList = some ks) (hg : P.eqGuardType P.depth xt = false) (hs : P.stoodInHeld xt = false) (hx : cOpd x = some x') (hy : cOpd y = some y')
    (he : ao (.eqa (op == .neq) ks x' y') t m = some (p, v, m')) : OpOk P o a φ σ m w v m' := by
  simp only [ao] at he
  split at he
  case h_2 => cases he
  rename_i cs ds e1 e2
  split at he
  case h_2 => cases he
  rename_i b hb
  cases he
  have h1 := ev_ok ht hx e1
  have h2 := ev_ok ht hy e2
  generalize hvx : a.eval x = vx at h1
  generalize hvy : a.eval y = vy at h2
  cases h1 with
  | agg h1 =>
    cases h2 with
    | agg h2 =>
      rename_i xs ys
      have hfo : P.fieldsOf xt = fs := by simp [Program.fieldsOf, hu]
      have key : (Op.equalIn 10000 xt (.agg ⟨xs⟩) (.agg ⟨ys⟩)).run P w = .ok b w := by
        rw [run_equalIn_struct w 9999 xt _ _ (by rw [hfo]; exact hu) hs, hfo]
        exact eqF_ok (d := 9998) fs.toList 0 ks cs ds b hf (by simpa using h1) (by simpa using h2) hb
      refine .pure hI (v' := .bool (bif op == .neq then !b else b)) ?_ .bsym
      unfold execOp
      simp only [ho, hvx, hvy, Sem.run_bind, run_eqGuard_agg w op xt x y _ _ hg, Result.andThen_ok]
      rcases hop with rfl | rfl
      · rw [run_eql_struct, key]; rfl
      · rw [run_neq_struct, key]; rfl
theorem elems_part (hI : Inv φ σ m w) {sz : Nat} {x : AV} {vx : Value} {ys : List (List AV)} {k : Nat} (hx : VR φ σ x vx) (h : elems sz m x = some (p, ys, k)) (hp : p) {q : Nat} (hq : q ≤ k) :
    ∃ cl : List Value, (∀ w' : World, w'.heap = w.heap → (Builtin.firstCells sz q vx).run P w' = .ok cl.toArray w') ∧ RowsAre φ sz (ys.take q) cl := by
  unfold elems at h
  split at h
  · cases h
    cases hx
    rename_i A
    have : q = 0 := by omega
    subst this
    refine ⟨[], ?_, by simp [RowsAre]⟩
    intro w' _; cases A <;> simp [Builtin.firstCells, loadCells, loadCellsFrom]
  · rename_i s xs tight
    split at h
    · rename_i hs
      simp only [Option.some.injEq, Prod.mk.injEq] at h
      obtain ⟨rfl, rfl, rfl⟩ := h
      have : s = sz := by simpa using hs
      subst this
      cases hx with
      | vsl hφ hb hon hxx hc htt =>
        rename_i B o c e fr cap'
        have hql : (xs.take q).length = q := by simp; omega
        have hmul : q * s ≤ xs.length * s := Nat.mul_le_mul_right _ hq
        refine ⟨_, ?_, RowsAre.window (c := c.toList) (o := o) (by rw [hql]; simp; omega) (fun p u p1 p2 pu => hon p u p1 (by rw [hql] at p2; omega) (by simpa using pu)) (fun i x hi => hxx i x (by
          rw [List.getElem?_take] at hi
          split at hi
          · exact hi
          · cases hi))⟩
        intro w' hw'
        simp only [Builtin.firstCells, hql]
        exact load_win (by rw [hw']; exact hI.fz B _ hφ) (by omega)
      | vsl0 =>
        rename_i A
        have : q = 0 := by simpa using hq
        subst this
        refine ⟨[], ?_, by simp [RowsAre]⟩
        intro w' _; cases A <;> simp [Builtin.firstCells, loadCells, loadCellsFrom]
    · cases h
  · rename_i b i n c0 tight
    split at h
    · rename_i s xs hm
      split at h
      · rename_i hs
        cases h
        have : s = sz := by simpa using hs
        subst this
        cases hx with
        | sl hσ h1 h2 h3 h4 =>
          rename_i cap' img
          obtain ⟨c, e, fr, e2, e3, e4, e5, e5o, e6, _⟩ := row_at hI hm hσ
          have hsub : ((sub xs i k).take q).length = q := by rw [List.length_take, sub_len hp]; omega
          have hm1 : i * s + q * s ≤ xs.length * s := by rw [← Nat.add_mul]; exact Nat.mul_le_mul_right _ (by omega)
          refine ⟨_, ?_, RowsAre.window (c := c.toList) (o := img.o + i * s) (xs := (sub xs i k).take q) (by rw [hsub]; simp; omega) (fun p u p1 p2 pu => e5o p u (by omega) (by rw [hsub] at p2; omega) (by simpa using pu)) (fun j x hx' => by
            have hx' : (sub xs i k)[j]? = some x := by
              rw [List.getElem?_take] at hx'
              split at hx'
              · exact hx'
              · cases hx'
            have := e6 (i + j) x (sub_get hx')
            rw [show img.o + i * s + j * s = img.o + (i + j) * s by rw [Nat.add_mul]; omega]; exact this)⟩
          intro w' hw'
          simp only [Builtin.firstCells, e2, hsub]
          exact load_win (by rw [hw']; exact e3) (by omega)
        | sl0 =>
          rename_i A
          have : q = 0 := by omega
          subst this
          refine ⟨[], ?_, by simp [RowsAre]⟩
          intro w' _; cases A <;> simp [Builtin.firstCells, loadCells, loadCellsFrom]
      · cases h
    · cases h
  · rename_i s
    split at h
    · rename_i hs
      cases h
      have : sz = 1 := by simpa using hs
      subst this
      cases hx
      refine ⟨(s.take q).map fun b => Value.int .u8 b.toNat, ?_, by
        have := bytes_rows (φ := φ) (s.take q)
        rw [show (bytes s).take q = bytes (s.take q) by simp [bytes, List.map_take]]; exact this⟩
      intro w' _
      simp only [Builtin.firstCells, Sem.run_pure]
      congr 1
      apply Array.ext'
      rw [Array.toList_map, Lib.extract_data]
      simp
    · cases h
  · cases h

theorem row_write (hI : Inv φ σ m w) {b sz i : Nat} {xs ys : List (List AV)} {img : Img} {vs : List Value} (hm : mg m b = .row sz xs) (hi : σ b = some img) (hr : RowsAre φ sz ys vs) (hle : i + ys.length ≤ xs.length) :
    ∃ w', (storeCells ⟨img.B, img.o + i * img.sz, none⟩ vs).run P w = .ok () w' ∧ Stp φ σ m w φ σ (ms m b (.row sz (xs.take i ++ ys ++ xs.drop (i + ys.length)))) w' := by
  obtain ⟨c, e, fr, e2, e3, e4, e5, e5o, e6, e7⟩ := row_at hI hm hi
  have hb := mg_get hm rfl
  have hmul : i * sz + ys.length * sz ≤ xs.length * sz := by rw [← Nat.add_mul]; exact Nat.mul_le_mul_right _ hle
  have hvl : vs.length = ys.length * sz := hr.1
  obtain ⟨w', c', g1, g2, g3, g4, g5, g6⟩ := storeCells_ok (P := P) (o := img.o + i * img.sz) vs 0 c w e3 hr.2.1 (by rw [e2, hvl]; omega) (fun q q1 q2 => e7 q (by rw [e2, hvl] at q2; omega))
  refine ⟨w', g1, ?_⟩
  have hlb : b < m.length := by
    rcases Nat.lt_or_ge b m.length with h' | h'
    · exact h'
    · rw [List.getElem?_eq_none h'] at hb; cases hb
  have hsl : img.o + i * img.sz + vs.length ≤ c.toList.length := by rw [e2, hvl]; simp; omega
  have hcl' : c'.toList.length = c.toList.length := by rw [g5, Nat.add_zero]; exact splice_len hsl
  have hcs : c'.size = c.size := by simpa using hcl'
  have hlen : (xs.take i ++ ys ++ xs.drop (i + ys.length)).length = xs.length := by simp; omega
  refine hI.change img.B b (Sg.le_refl _) (by omega) (fun B hB _ => g3 B hB) (hI.apart b _ img hb rfl hi) (.inl ⟨b, _, img, hb, rfl, hi, rfl⟩) ?_ (fun _ _ => rfl) (by rw [ms_len]; exact Nat.le_refl _) g6 ?_ ?_
  · intro b' hb'; rw [ms_len] at hb'; exact hI.fresh b' hb'
  · intro b' l hb' hl hne
    rcases ms_get m b _ b' l hb' with ⟨e, _⟩ | ⟨_, e⟩
    · exact absurd e hne
    · exact ⟨e, rfl, fun i hi' => hI.inj b' b l _ i img e hb hl rfl hi' hi hne⟩
  · intro l hl _
    rw [ms_same m b _ hlb] at hl
    cases hl
    refine ⟨?_, fun i hi' => by rw [hi] at hi'; cases hi'; rfl⟩
    rw [hi]
    refine .inr ⟨img, c', e, fr, rfl, e2, g4, by rw [hcs, e4], by rw [hlen]; exact e5, ?_, ?_, e7⟩
    · intro p0 u0 p1 p2 pu
      have hpu : c'.toList[p0]? = some u0 := by simpa using pu
      rw [g5, Nat.add_zero, splice_get hsl] at hpu
      split at hpu
      · exact hr.2.1 u0 (List.mem_of_getElem? hpu)
      · exact e5o p0 u0 p1 (by rw [hlen] at p2; exact p2) (by simpa using hpu)
    · intro j x hj
      rw [g5, Nat.add_zero, e2]
      rw [List.append_assoc] at hj
      rcases Nat.lt_or_ge j i with h | h
      · rw [List.getElem?_append_left (by simp; omega), List.getElem?_take, if_pos h] at hj
        have hji : j * sz + sz ≤ i * sz := by rw [← Nat.succ_mul]; exact Nat.mul_le_mul_right _ h
        rw [splice_split (by rw [e2] at hsl; exact hsl) _ _ (.inl (by omega))]
        exact e6 j x hj
      · rw [List.getElem?_append_right (by simp; omega)] at hj
        have hti : (xs.take i).length = i := by simp; omega
        rw [hti] at hj
        rcases Nat.lt_or_ge (j - i) ys.length with h2 | h2
        · rw [List.getElem?_append_left h2] at hj
          have hy := hr.2.2 _ x hj
          have hm3 : (j - i) * sz + sz ≤ ys.length * sz := by rw [← Nat.succ_mul]; exact Nat.mul_le_mul_right _ h2
          have hji : j * sz = i * sz + (j - i) * sz := by rw [← Nat.add_mul]; congr 1; omega
          have : ((splice c.toList (img.o + i * sz) vs).drop (img.o + j * sz)).take sz = (vs.drop ((j - i) * sz)).take sz := by
            rw [e2] at hsl
            apply List.ext_getElem?
            intro k
            rw [List.getElem?_take, List.getElem?_take]
            split
            · rename_i hk
              rw [List.getElem?_drop, List.getElem?_drop, splice_get hsl, if_pos (by rw [hvl]; omega)]
              congr 1; omega
            · rfl
          rw [this]; exact hy
        · rw [List.getElem?_append_right h2, List.getElem?_drop] at hj
          have hji : i * sz + ys.length * sz ≤ j * sz := by rw [← Nat.add_mul]; exact Nat.mul_le_mul_right _ (by omega)
          rw [splice_split (by rw [e2] at hsl; exact hsl) _ _ (.inr (by rw [hvl]; omega))]
          refine e6 j x ?_
          rw [← hj]; congr 1; omega
theorem ms_id {m : Mem} {b : Nat} {k : Blk} (h : mg m b = k) (ho : k.owned = true) : ms m b k = m := by
  induction m generalizing b with
  | nil => rfl
  | cons x m ih =>
    cases b with
    | zero => simp only [mg] at h; rw [h]; rfl
    | succ b => simp only [mg] at h; simp only [ms, ih h]
theorem ok_cpy (hI : Inv φ σ m w) (ht : TR φ σ t a.tmps) {o : Oper} {c : Call} {y1 y2 : Opd} {st e : TypeId} {sz : Nat} (ho : o.op = .call c) (hc : c.callee = .builtin .copy)
    (hx : cOpds c.args.toList = some [y1, y2]) (h0 : c.argTypes[0]? = some st) (hu : P.underlying st = some (.slice e)) (hs : szT P e = some sz) (hsz : 0 < sz)
    (he : ao (.cpy sz y1 y2) t m = some (p, v, m')) (hp : p) : OpOk P o a φ σ m w v m' := by
  simp only [ao] at he
  split at he
  rotate_left
  · cases he
  rename_i b i n c0 tg x e1 e2
  have hvs := evs_ok ht hx (vs := [.sl b i n c0 tg, x]) (by simp [evs, e1, e2])
  generalize hg : c.args.toList.map a.eval = l at hvs
  cases hvs with
  | cons hd hvs => cases hvs with
    | cons hxv hnil =>
      cases hnil
      rename_i vd vx
      have harg := args_map hg
      obtain ⟨cs, hrun⟩ := run_builtin (P := P) (w := w) (a := a) ho hc
      rw [harg] at hrun
      split at he
      rotate_left
      · cases he
      rename_i s xs q ys k hm hel
      split at he
      rotate_left
      · cases he
      rename_i hss
      have : s = sz := by simpa using hss
      subst this
      cases he
      obtain ⟨hq, hle⟩ := hp
      obtain ⟨hyl, hlen, _⟩ := elems_ok (P := P) hI hxv hel hq
      obtain ⟨cl, hfc, hrows⟩ := elems_part (P := P) hI hxv hel hq (q := min k n) (Nat.min_le_left _ _)
      have hyt : (ys.take (min k n)).length = min k n := by rw [List.length_take, hyl]; omega
      have fin : ∀ {base : Option Addr} {cap' : Nat} {W : World}, vd = .slice base n cap' → (match base with | some A => (storeCells A cl).run P w = .ok () W | none => W = w) → Stp φ σ m w φ σ (ms m b (.row s (xs.take i ++ ys.take (min k n) ++ xs.drop (i + min k n)))) W →
          OpOk P o a φ σ m w (.int .i64 (min k n : Nat)) (ms m b (.row s (xs.take i ++ ys.take (min k n) ++ xs.drop (i + min k n)))) := by
        intro base cap' W hvd hst hstp
        refine ⟨.int .i64 (min k n : Nat), W, φ, σ, .inl ?_, hstp, .int⟩
        rw [hrun]
        simp only [builtin, Sem.run_bind]
        have : (Builtin.copy_ c.argTypes o.type #[vd, vx]).run P w = .ok (.int .i64 (min k n : Nat)) W := by
          subst hvd
          unfold Builtin.copy_
          simp only [h0, List.getElem?_toArray, List.getElem?_cons_zero, List.getElem?_cons_succ, Sem.run_bind, und_run hu, Result.andThen_ok, hlen, size_run hs]
          rw [show Nat.min k n = min k n from rfl, hfc w rfl]
          cases base with
          | none => cases hst; simp [goInt]
          | some A => simp only [Result.andThen_ok, Sem.run_bind, hst]; simp [goInt]
        rw [this]; rfl
      cases hd with
      | sl hσ h1 h2 h3 h4 =>
        rename_i cap' img
        obtain ⟨W, g1, g2⟩ := row_write (P := P) hI hm hσ hrows (i := i) (by rw [hyt]; omega)
        rw [hyt] at g2
        exact fin rfl g1 g2
      | sl0 =>
        rename_i A
        have hcl : cl = [] := List.eq_nil_of_length_eq_zero (by rw [hrows.1, hyt]; simp)
        have hsame : ms m b (.row s (xs.take i ++ ys.take (min k 0) ++ xs.drop (i + min k 0))) = m := by
          rw [Nat.min_zero, List.take_zero, List.append_nil, Nat.add_zero, List.take_append_drop]
          exact ms_id hm rfl
        refine fin (base := A) rfl ?_ (by rw [hsame]; exact .refl hI)
        subst hcl
        cases A with
        | none => rfl
        | some A => simp [storeCells]
theorem ok_clr (hI : Inv φ σ m w) (ht : TR φ σ t a.tmps) {o : Oper} {c : Call} {y : Opd} {st e : TypeId} {sz : Nat} {z : List AV} (ho : o.op = .call c) (hc : c.callee = .builtin .clear)
    (hx : cOpds c.args.toList = some [y]) (h0 : c.argTypes[0]? = some st) (hu : P.underlying st = some (.slice e)) (hz : zeroT P e = some z) (hzl : z.length = sz) (hsz : 0 < sz) (h1z : z.all one = true)
    (he : ao (.clr sz z y) t m = some (p, v, m')) (hp : p) : OpOk P o a φ σ m w v m' := by
  obtain ⟨it, zv, hi', hzv, hzr⟩ := zeroT_ok hz
  have hzs : zv.cells.size = sz := by rw [← hzl]; simpa using (hzr φ σ).length.symm
  obtain ⟨cs, hrun⟩ := run_builtin (P := P) (w := w) (a := a) ho hc
  have zrun : ∀ w : World, (zeroValue e).run P w = .ok zv w := by
    intro w
    simp [zeroValue, typeInfo, hi', hzv]
  have fin : ∀ {base : Option Addr} {n cap' : Nat} {W : World} {m' : Mem}, c.args.map a.eval = #[.slice base n cap'] → (n = 0 → W = w) → (0 < n → ∃ A, base = some A ∧ (storeCells A (Builtin.zeroCells zv.cells n).toList).run P w = .ok () W) → Stp φ σ m w φ σ m' W →
      OpOk P o a φ σ m w (.tup []) m' := by
    intro base n cap' W m' hvd h0n hst hstp
    refine ⟨.tuple #[], W, φ, σ, .inl ?_, hstp, .tup .nil⟩
    rw [hrun, hvd]
    simp only [builtin, Sem.run_bind]
    have : (Builtin.clear_ c.argTypes o.type #[.slice base n cap']).run P w = .ok (.tuple #[]) W := by
      unfold Builtin.clear_
      simp only [h0, List.getElem?_toArray, List.getElem?_cons_zero, Sem.run_bind, und_run hu, Result.andThen_ok]
      cases n with
      | zero => rw [h0n rfl]; cases base <;> simp
      | succ n =>
        obtain ⟨A, rfl, hA⟩ := hst (by omega)
        simp only [Sem.run_bind, zrun, Result.andThen_ok, hA, Sem.run_pure]
    rw [this]; rfl
  simp only [ao] at he
  split at he
  · rename_i b i n c0 tg e1
    have hvs := evs_ok ht hx (vs := [.sl b i n c0 tg]) (by simp [evs, e1])
    generalize hg : c.args.toList.map a.eval = l at hvs
    cases hvs with
    | cons hd hnil =>
      cases hnil
      rename_i vd
      have harg := args_map hg
      split at he
      rotate_left
      · cases he
      rename_i s xs hm hfl
      split at he
      rotate_left
      · cases he
      rename_i hss
      have : s = sz := by simpa using hss
      subst this
      cases he
      have hrows : RowsAre φ s (List.replicate n z) (Builtin.zeroCells zv.cells n).toList := by
        have := made_rows (φ := φ) (zc := zv.cells) (n := n) hzr hzl hsz h1z
        have e : (madeCells zv.cells (n * s)).toList = (Builtin.zeroCells zv.cells n).toList := by
          unfold madeCells Builtin.zeroCells; rw [hzs]
        rw [e] at this; exact this
      cases hd with
      | sl hσ h1 h2 h3 h4 =>
        rename_i cap' img
        obtain ⟨W, g1, g2⟩ := row_write (P := P) hI hm hσ hrows (i := i) (by simpa using hp)
        rw [List.length_replicate] at g2
        by_cases hn : n = 0
        · subst hn
          have : W = w := by
            have : (Builtin.zeroCells zv.cells 0).toList = [] := by simp [Builtin.zeroCells]
            rw [this] at g1; simp [storeCells] at g1; exact g1.symm
          exact fin harg (fun _ => this) (fun h => by omega) g2
        · exact fin harg (fun h => absurd h hn) (fun _ => ⟨_, rfl, g1⟩) g2
      | sl0 =>
        have hsame : ms m b (.row s (xs.take i ++ List.replicate 0 z ++ xs.drop (i + 0))) = m := by
          rw [List.replicate_zero, List.append_nil, Nat.add_zero, List.take_append_drop]
          exact ms_id hm rfl
        exact fin harg (fun _ => rfl) (fun h => by omega) (by rw [hsame]; exact .refl hI)
  · rename_i e1
    cases he
    have hvs := evs_ok ht hx (vs := [.nilsl]) (by simp [evs, e1])
    generalize hg : c.args.toList.map a.eval = l at hvs
    cases hvs with
    | cons hd hnil =>
      cases hnil
      cases hd
      exact fin (args_map hg) (fun _ => rfl) (fun h => by omega) (.refl hI)
  · cases he
end Go.AE
