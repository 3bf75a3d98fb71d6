/- The abstract evaluator: AEo in one. -/
import Derived.Test.YthdkobfafncpcaaDoorAEn
/- The abstract evaluator, part o: contracts: how they are proved, used, and moved to another memory. -/
namespace Go.AE
open Go
set_option linter.unusedVariables false
set_option linter.unusedSimpArgs false

variable {P : Program} {n k0 : Nat}

def isFn (P : Program) (f : FuncId) : Bool := match P.funcs[f]? with
  | some fn => fn.name != "runtime.NumGoroutine" && fn.body.isSome
  | none => false
def Tri (P : Program) (f : FuncId) (args : List AV) (m : Mem) (K : AV → Mem → Prop) : Prop :=
  isFn P f = true ∧ ∀ (φ : Fz) (σ : Sg) (w : World) (vs : List Value), Inv φ σ m w → VRs φ σ args vs →
    Calls P f vs.toArray w fun e w' => ∃ v', e = .returned v' ∧ ∃ φ' σ' v m', K v m' ∧ Stp φ σ m w φ' σ' m' w' ∧ VR φ' σ' v v'
theorem Tri.mono {f : FuncId} {args : List AV} {m : Mem} {K K' : AV → Mem → Prop} (h : Tri P f args m K) (hk : ∀ v m', K v m' → K' v m') : Tri P f args m K' :=
  ⟨h.1, fun φ σ w vs hI hv => (h.2 φ σ w vs hI hv).mono fun e w' ⟨v', he, φ', σ', v, m', hK, hr⟩ => ⟨v', he, φ', σ', v, m', hk _ _ hK, hr⟩⟩

/-! ### results -/
inductive RV where
  | t (i : Nat)
  | c (i : Nat)
  | cn (i n : Nat)
def resV (t : Tr) (m : Mem) : RV → Option AV
  | .t i => t.get i
  | .c i => match t.get i with
    | some (.pbox b j) => match mg m b with
      | .box cs => lg cs j
      | _ => none
    | _ => none
  | .cn i n => match t.get i with
    | some (.pbox b j) => match mg m b with
      | .box cs => match ltk n (ldr j cs) with
        | some vs => some (.agg vs)
        | none => none
      | _ => none
    | _ => none
def resVs (t : Tr) (m : Mem) : List RV → Option (List AV)
  | [] => some []
  | r :: rs => match resV t m r, resVs t m rs with
    | some v, some vs => some (v :: vs)
    | _, _ => none
def res (t : Tr) (m : Mem) : List RV → Option AV
  | [r] => resV t m r
  | rs => match resVs t m rs with
    | some vs => some (.tup vs)
    | none => none
def cRV (P : Program) : ResultVar → Option RV
  | .tmp i => some (.t i)
  | .cell i ty => match P.underlying ty, szT P ty with
    | some _, some n => if isAggB P ty then some (.cn i n) else some (.c i)
    | _, _ => none
def cRVs (P : Program) : List ResultVar → Option (List RV)
  | [] => some []
  | r :: rs => match cRV P r, cRVs P rs with
    | some x, some xs => some (x :: xs)
    | _, _ => none
def RtR (rl : List RV) (K : AV → Mem → Prop) (t : Tr) (m : Mem) : Prop := match res t m rl with
  | some v => K v m
  | none => False
def Rt (rl : List RV) (K : AV → Mem → Prop) (e : Exit) (t : Tr) (m : Mem) : Prop := match e with
  | .ret => RtR rl K t m
  | .normal => RtR rl K t m
  | _ => False

def resM (tmps : Array Value) : ResultVar → Sem Value
  | .tmp t => pure (tmps.getD t undef)
  | .cell a t => do loadVar t (← asAddr (tmps.getD a undef))

theorem resV_ok {φ : Fz} {σ : Sg} {m : Mem} {w : World} {t : Tr} {tmps : Array Value} (hI : Inv φ σ m w) (ht : TR φ σ t tmps) {r : ResultVar} {x : RV} {v : AV} (hx : cRV P r = some x) (hv : resV t m x = some v) :
    ∃ v', (resM tmps r).run P w = .ok v' w ∧ VR φ σ v v' := by
  cases r with
  | tmp i =>
    simp only [cRV] at hx; cases hx
    obtain ⟨v', h1, h2⟩ := ht i v hv
    exact ⟨v', by simp [resM, h1], h2⟩
  | cell i ty =>
    simp only [cRV] at hx
    split at hx
    · rename_i u n hu hn
      split at hx
      · rename_i hagg
        cases hx
        simp only [resV] at hv
        split at hv
        · rename_i b j hp
          obtain ⟨v', h1, h2⟩ := ht i _ hp
          split at hv
          · rename_i cs hm
            split at hv
            · rename_i vs hvs
              cases hv
              obtain ⟨rfl, hl⟩ := ltk_eq hvs
              cases h2 with
              | pbox hi =>
                rename_i img
                have hlay : Lays φ σ w ⟨img.B, img.o + j, none⟩ ((ldr j cs).take n) := lays_of fun q u hu => by
                  rw [add_eq]
                  rw [ldr_eq, List.getElem?_take] at hu
                  split at hu
                  · rw [List.getElem?_drop] at hu
                    obtain ⟨v', g1, g2⟩ := box_cell hI hm hi hu
                    exact ⟨v', by rw [Nat.add_assoc]; exact g1, g2⟩
                  · cases hu
                obtain ⟨us, hus, hcell⟩ := hlay
                have hul : us.length = n := by rw [← hus.length, hl]
                have hload : (loadCells ⟨img.B, img.o + j, none⟩ n).run P w = .ok us.toArray w := by
                  rw [← hul]; exact run_loadCells_list _ _ us fun j u hu => hcell j u hu
                refine ⟨.agg us.toArray, ?_, .agg hus⟩
                simp [resM, h1, asAddr, loadVar, isAgg_run hu, hagg, size_run hn, hload]
            · cases hv
          · cases hv
        · cases hv
      · rename_i hagg
        have hagg : isAggB P ty = false := by simpa using hagg
        cases hx
        simp only [resV] at hv
        split at hv
        · rename_i b j hp
          obtain ⟨v', h1, h2⟩ := ht i _ hp
          split at hv
          · rename_i cs hm
            cases h2 with
            | pbox hi =>
              obtain ⟨v', g1, g2⟩ := box_cell hI hm hi (lg_get hv)
              exact ⟨v', by simp [resM, h1, asAddr, loadVar, isAgg_run hu, hagg, g1], g2⟩
          · cases hv
        · cases hv
    · cases hx
theorem resVs_ok {φ : Fz} {σ : Sg} {m : Mem} {w : World} {t : Tr} {tmps : Array Value} (hI : Inv φ σ m w) (ht : TR φ σ t tmps) : ∀ {rs : List ResultVar} {xs : List RV} {vs : List AV}, cRVs P rs = some xs → resVs t m xs = some vs →
    ∃ us : List Value, (rs.mapM (resM tmps)).run P w = .ok us w ∧ VRs φ σ vs us
  | [], xs, vs, hx, hv => by simp [cRVs] at hx; subst hx; simp [resVs] at hv; subst hv; exact ⟨[], by simp, .nil⟩
  | r :: rs, xs, vs, hx, hv => by
    simp only [cRVs] at hx
    split at hx
    · rename_i x xs' h1 h2
      cases hx
      simp only [resVs] at hv
      split at hv
      · rename_i v vs' h3 h4
        cases hv
        obtain ⟨u, g1, g2⟩ := resV_ok (P := P) hI ht h1 h3
        obtain ⟨us, g3, g4⟩ := resVs_ok hI ht h2 h4
        exact ⟨u :: us, by simp [List.mapM_cons, g1, g3], .cons g2 g4⟩
      · cases hv
    · cases hx
theorem results_eq {fn : Func} {tmps : Array Value} : results fn tmps = (do
    let vs ← fn.results.mapM (resM tmps)
    pure (if h : vs.size = 1 then vs[0] else .tuple vs)) := by
  unfold results
  congr 1
theorem res_ok {φ : Fz} {σ : Sg} {m : Mem} {w : World} {t : Tr} {tmps : Array Value} (hI : Inv φ σ m w) (ht : TR φ σ t tmps) {fn : Func} {xs : List RV} {v : AV} (hx : cRVs P fn.results.toList = some xs) (hv : res t m xs = some v) :
    ∃ v', (results fn tmps).run P w = .ok v' w ∧ VR φ σ v v' := by
  have hvs : ∃ vs, resVs t m xs = some vs ∧ ((vs.length = 1 ∧ vs = [v]) ∨ (vs.length ≠ 1 ∧ v = .tup vs)) := by
    cases xs with
    | nil => simp [res, resVs] at hv; exact ⟨[], rfl, .inr ⟨by simp, hv.symm⟩⟩
    | cons r rs =>
      cases rs with
      | nil => simp only [res] at hv; exact ⟨[v], by simp [resVs, hv], .inl ⟨rfl, rfl⟩⟩
      | cons r2 rs =>
        simp only [res] at hv
        split at hv
        · rename_i vs hvs
          cases hv
          refine ⟨vs, hvs, .inr ⟨?_, rfl⟩⟩
          have hlen : ∀ {l : List RV} {vs : List AV}, resVs t m l = some vs → vs.length = l.length := by
            intro l
            induction l with
            | nil => intro vs h; simp [resVs] at h; subst h; rfl
            | cons x l ih =>
              intro vs h
              simp only [resVs] at h
              split at h
              · rename_i h1 h2; cases h; simp [ih h2]
              · cases h
          rw [hlen hvs]; simp
        · cases hv
  obtain ⟨vs, h1, h2⟩ := hvs
  obtain ⟨us, g1, g2⟩ := resVs_ok (P := P) hI ht hx h1
  have hul := g2.length
  rw [results_eq, Array.mapM_eq_mapM_toList]
  rcases h2 with ⟨e1, rfl⟩ | ⟨e1, rfl⟩
  · cases g2 with
    | cons g2 g3 =>
      cases g3
      rename_i u
      exact ⟨u, by simp [g1], g2⟩
  · refine ⟨.tuple us.toArray, ?_, .tup g2⟩
    have : us.length ≠ 1 := by omega
    simp [g1, this]

/-! ### a function's beginning -/
def mkT : Nat → List AV → Tr → Tr
  | _, [], t => t
  | i, v :: vs, t => mkT (i + 1) vs (t.set i v)
theorem mkT_ok {φ : Fz} {σ : Sg} {tmps : Array Value} : ∀ {vs : List AV} {us : List Value} {i : Nat} {t : Tr}, VRs φ σ vs us → TR φ σ t tmps → (∀ j u, us[j]? = some u → tmps[i + j]? = some u) → TR φ σ (mkT i vs t) tmps
  | [], us, i, t, h, ht, hg => ht
  | v :: vs, _, i, t, .cons (v := u) (vs := us) h hs, ht, hg => by
    have h0 : tmps[i]? = some u := hg 0 u rfl
    have hlt : i < tmps.size := by
      rcases Nat.lt_or_ge i tmps.size with h' | h'
      · exact h'
      · rw [Array.getElem?_eq_none h'] at h0; cases h0
    have := ht.set hlt h
    have hsame : tmps.setIfInBounds i u = tmps := by
      apply Array.ext'
      apply List.ext_getElem?
      intro q
      rw [Array.toList_setIfInBounds, List.getElem?_set]
      split
      · rename_i e; subst e
        have : tmps.toList[i]? = some u := by simpa using h0
        rw [this]; simp [hlt]
      · rfl
    rw [hsame] at this
    show TR φ σ (mkT (i + 1) vs (t.set i v)) tmps
    exact mkT_ok hs this fun j u' hu => by rw [show i + 1 + j = i + (j + 1) by omega]; exact hg (j + 1) u' (by simpa using hu)

theorem Tri.enter {f : FuncId} {args : List AV} {m : Mem} {K : AV → Mem → Prop} {fn : Func} {c : Code} {code : List C} {rl : List RV} (hi : isFn P f = true) (hf : P.funcs[f]? = some fn) (hb : fn.body = some c)
    (hc : cC P fn.ntmps c = some code) (hr : cRVs P fn.results.toList = some rl) (hn : Nat.ble args.length fn.ntmps = true)
    (h : SemW P fn.ntmps m.length code (mkT 0 args .lf) m (Rt rl K)) : Tri P f args m K := by
  have hn := Nat.le_of_ble_eq_true hn
  refine ⟨hi, fun φ σ w vs hI hv => calls_of_wp hf hb ?_⟩
  have hvl := hv.length
  have hG : Good ⟨φ, σ, w, fun B => ∃ b k i, m[b]? = some k ∧ k.owned = true ∧ σ b = some i ∧ i.B = B⟩ fn.ntmps m.length φ σ m w (mkT 0 args .lf) { tmps := vs.toArray ++ Array.replicate (fn.ntmps - vs.toArray.size) undef, defers := [] } := by
    refine ⟨Fz.le_refl _, fun _ _ => rfl, hI, mkT_ok hv (fun i v e => by cases e) (fun j u hu => ?_), ?_, rfl, Nat.le_refl _, fun _ _ _ => rfl, fun b k i h1 h2 h3 => .inl ⟨b, k, i, h1, h2, h3, rfl⟩, Nat.le_refl _, fun _ h _ _ => h, Env.refl _⟩
    · have hj : j < vs.length := by
        rcases Nat.lt_or_ge j vs.length with h' | h'
        · exact h'
        · rw [List.getElem?_eq_none h'] at hu; cases hu
      simp only [Nat.zero_add]
      rw [Array.getElem?_append_left (by simpa using hj)]
      simpa using hu
    · simp; omega
  have := h [.code c] (by have := cIs_cons (P := P) (n := fn.ntmps) (x := .code c) (r := []) (q := []) hc rfl; rw [List.append_nil] at this; exact this) _ φ σ _ w hG
  refine wp_mono this ?_
  rintro e a' w' ⟨φ', σ', t', m', hq, hG'⟩
  have fin : RtR rl K t' m' → a'.defers = [] ∧ ∃ v, (results fn a'.tmps).run P w' = .ok v w' ∧ ∃ v', Ending.returned v = .returned v' ∧ ∃ φ' σ' v m', K v m' ∧ Stp φ σ m w φ' σ' m' w' ∧ VR φ' σ' v v' := by
    intro hq
    unfold RtR at hq
    split at hq
    · rename_i v hv
      obtain ⟨v', g1, g2⟩ := res_ok (P := P) hG'.inv hG'.tr hr hv
      refine ⟨hG'.df, v', g1, v', rfl, φ', σ', v, m', hq, ⟨hG'.fz, ?_, hG'.inv, hG'.grow, ?_, ?_, hG'.sg, hG'.len, fun B h1 h2 h3 => hG'.ice B h1 h2 fun ⟨b, k, i, g1, g2, g3, g4⟩ => h3 b k i g1 g2 g3 g4, hG'.env⟩, g2⟩
      · intro b i hbi
        have hlt : b < m.length := by
          rcases Nat.lt_or_ge b m.length with h' | h'
          · exact h'
          · rw [hI.fresh b h'] at hbi; cases hbi
        rw [hG'.sg b hlt]; exact hbi
      · intro B hB hno
        exact hG'.kept B hB fun ⟨b, k, i, h1, h2, h3, h4⟩ => hno b k i h1 h2 h3 h4
      · intro b k i h1 h2 h3
        rcases hG'.own b k i h1 h2 h3 with ⟨c, l, j, g1, g2, g3, g4⟩ | g
        · exact .inl ⟨c, l, j, g1, g2, g3, g4⟩
        · exact .inr g
    · exact hq.elim
  cases e with
  | normal => exact fin hq
  | ret => exact fin hq
  | exit id => exact hq.elim
  | goto l => exact hq.elim
  | panic ch => exact hq.elim
  | outgrown => exact hq.elim

/-! ### calls -/
theorem Good.call {A : Anch} {φ φ' : Fz} {σ σ' : Sg} {m m' : Mem} {w w' : World} {t : Tr} {a : Act} (h : Good A n k0 φ σ m w t a) (hs : Stp φ σ m w φ' σ' m' w') {d : Option Nat} (hd : ∀ i, d = some i → i < n)
    {v : AV} {v' : Value} (hv : VR φ' σ' v v') : Good A n k0 φ' σ' m' w' (sp d t v) (a.put d v') := h.put hs hd hv

theorem callFunc_run {f : FuncId} {args : Array Value} {w : World} (hi : isFn P f = true) : (callFunc f args).run P w = .ok (.enter f args) w := by
  unfold isFn at hi
  split at hi
  · rename_i fn hf
    simp only [Bool.and_eq_true, bne_iff_ne, ne_eq] at hi
    have hb : fn.body.isNone = false := by
      cases hbb : fn.body with
      | none => rw [hbb] at hi; simp at hi
      | some _ => rfl
    simp [callFunc, hf, hi.1, hb]
    intro hnone; rw [hnone] at hi; simp at hi
  · cases hi

theorem cO_call {o : Oper} {f : FuncId} {xs : List Opd} (h : cO P o = some (.call f xs)) : ∃ c : Call, o.op = .call c ∧ c.callee = .value (.func f) ∧ cOpds c.args.toList = some xs := by
  unfold cO at h
  split at h
  case h_26 c ho =>
    split at h
    · rename_i h1 h2; cases h; exact ⟨c, ho, h1, h2⟩
    all_goals ((repeat' split at h) <;> first | (cases h; done) | (simp at h; done))
  all_goals ((repeat' split at h) <;> first | (cases h; done) | (simp at h; done))
theorem cO_callv {o : Oper} {x : Opd} {xs : List Opd} (h : cO P o = some (.callv x xs)) : ∃ (c : Call) (y : Operand), o.op = .call c ∧ c.callee = .value y ∧ cOpd y = some x ∧ cOpds c.args.toList = some xs := by
  unfold cO at h
  split at h
  case h_26 c ho =>
    split at h
    · cases h
    · rename_i i xs' h1 h2; cases h; exact ⟨c, .tmp i, ho, h1, rfl, h2⟩
    all_goals ((repeat' split at h) <;> first | (cases h; done) | (simp at h; done))
  all_goals ((repeat' split at h) <;> first | (cases h; done) | (simp at h; done))
theorem sem_call {g : Option (Nat × Bool)} {d : Option Nat} {f : FuncId} {xs : List Opd} {args : List AV} {k : List C} {t : Tr} {m : Mem} {Q : Exit → Tr → Mem → Prop}
    (hg : gok t g = some true) (hx : evs t xs = some args) (h : Tri P f args m fun v m' => SemW P n k0 k (sp d t v) m' Q) : SemW P n k0 (.op g d (.call f xs) :: k) t m Q := by
  intro cs hcs A φ σ a w hG
  cases view_of P n _ cs _ (Nat.le_refl _) hcs with
  | op hc hr h' =>
    rename_i ops i is r
    refine h' _ a w ?_
    obtain ⟨o0, g', x, ho, hgd, hx', e, hd⟩ := cOp_inv hc
    cases e
    have hw := gok_ok hG.tr hgd hg
    show wpOps P ops _ (i :: is) a w
    simp only [wpOps, ho, hw, if_true]
    refine .inl ?_
    have hcall := cO_call hx'
    obtain ⟨c, h1, h2, h3⟩ := hcall
    have hvs := evs_ok hG.tr h3 hx
    have hrun : (execOp a.eval o0).run P w = .ok (.enter f (c.args.toList.map a.eval).toArray) w := by
      have hev : a.eval (.func f) = .func (.func f) #[] #[] := rfl
      simp only [execOp, h1, resolve, h2, hev, Deferred.ofValue, pure_bind, invoke, args_map (xs := c.args) rfl]
      rw [callFunc_run h.1]; simp
    unfold Oper.wp
    rw [hrun]
    show Calls P f _ w _
    refine (h.2 φ σ w _ hG.inv hvs).mono ?_
    rintro e w' ⟨v', rfl, φ', σ', v, m', hK, hst, hv⟩
    exact hK _ hr A φ' σ' _ w' (hG.call hst (d := o0.dst) (fun i hi => hd i hi) hv)
theorem sem_callv {g : Option (Nat × Bool)} {d : Option Nat} {f : FuncId} {x : Opd} {xs : List Opd} {args fs cp : List AV} {k : List C} {t : Tr} {m : Mem} {Q : Exit → Tr → Mem → Prop}
    (hg : gok t g = some true) (hf : ev t x = some (.fn f fs cp)) (hx : evs t xs = some args) (h : Tri P f (fs ++ args ++ cp) m fun v m' => SemW P n k0 k (sp d t v) m' Q) : SemW P n k0 (.op g d (.callv x xs) :: k) t m Q := by
  intro cs hcs A φ σ a w hG
  cases view_of P n _ cs _ (Nat.le_refl _) hcs with
  | op hc hr h' =>
    rename_i ops i is r
    refine h' _ a w ?_
    obtain ⟨o0, g', x0, ho, hgd, hx', e, hd⟩ := cOp_inv hc
    cases e
    have hw := gok_ok hG.tr hgd hg
    show wpOps P ops _ (i :: is) a w
    simp only [wpOps, ho, hw, if_true]
    refine .inl ?_
    have hcall := cO_callv hx'
    obtain ⟨c, y, h1, h2, h2', h3⟩ := hcall
    have hvs := evs_ok hG.tr h3 hx
    have hfv := ev_ok hG.tr h2' hf
    generalize hy : a.eval y = vy at hfv
    cases hfv with
    | fn hfs hcp =>
      rename_i as' cs'
      have hrun : (execOp a.eval o0).run P w = .ok (.enter f (as' ++ c.args.toList.map a.eval ++ cs').toArray) w := by
        simp only [execOp, h1, resolve, h2, hy, Deferred.ofValue, pure_bind, invoke, args_map (xs := c.args) rfl]
        rw [callFunc_run h.1]; simp
      unfold Oper.wp
      rw [hrun]
      show Calls P f _ w _
      refine (h.2 φ σ w _ hG.inv ((hfs.append hvs).append hcp)).mono ?_
      rintro e w' ⟨v', rfl, φ', σ', v, m', hK, hst, hv⟩
      exact hK _ hr A φ' σ' _ w' (hG.call hst (d := o0.dst) (fun i hi => hd i hi) hv)
end Go.AE
