/- The abstract evaluator: AEzk, AEzl, AEzm, AEzn in one. -/
import Derived.Test.YthpfmahafgfbeaaAEzj
import Derived.Maps.RangeRun
/- The abstract evaluator, part zk: a row whose first elements nobody reads any more is told without them. -/
namespace Go.AE
open Go
set_option linter.unusedVariables false
set_option linter.unusedSimpArgs false

variable {P : Program} {n k0 : Nat}

mutual
def shV (b N k : Nat) : AV → AV
  | .sl b' i n c t => match Nat.beq b' b, Nat.ble k i with
    | true, true => .sl N (i - k) n c t
    | _, _ => .sl b' i n c t
  | .agg vs => .agg (shL b N k vs)
  | v => v
def shL (b N k : Nat) : List AV → List AV
  | [] => []
  | v :: vs => shV b N k v :: shL b N k vs
end
def shT (b N k : Nat) : Tr → Tr
  | .lf => .lf
  | .nd l v r => match v with
    | some v => .nd (shT b N k l) (some (shV b N k v)) (shT b N k r)
    | none => .nd (shT b N k l) none (shT b N k r)
def shB (b N k : Nat) : Blk → Blk
  | .box cs => .box (shL b N k cs)
  | l => l
def shM (b N k : Nat) : Mem → Mem
  | [] => []
  | l :: m => shB b N k l :: shM b N k m
attribute [go_sem] shT shM shB shV shL Nat.ble
end Go.AE

/- The abstract evaluator, part zl: nil slices that are known to be nil. -/
namespace Go.AE
open Go
set_option linter.unusedVariables false
set_option linter.unusedSimpArgs false

variable {P : Program} {n k0 : Nat}

theorem Like.nil0 : Like .nil0 .nilsl := fun _ _ _ h => by cases h; exact .nilsl
theorem ofV_nil {f : Nat} {v : Value} (h : AV.ofV f v = some .nilsl) : v = .slice none 0 0 := by
  cases f with
  | zero => simp [AV.ofV] at h
  | succ f =>
    cases v with
    | slice p l c =>
      cases p with
      | some x => simp [AV.ofV] at h
      | none => cases l with
        | succ l => simp [AV.ofV] at h
        | zero => cases c with
          | succ c => simp [AV.ofV] at h
          | zero => rfl
    | pointer p => cases p <;> simp [AV.ofV] at h
    | map r => cases r <;> simp [AV.ofV] at h
    | agg cs =>
      simp only [AV.ofV, Option.map_eq_some_iff] at h
      obtain ⟨l, _, h⟩ := h
      cases h
    | _ => simp [AV.ofV] at h
theorem cOpd_nil {x : Operand} (h : cOpd x = some (.c .nilsl)) : x = .const (.slice none 0 0) := by
  cases x with
  | tmp i => simp [cOpd] at h
  | const v =>
    simp only [cOpd, Option.map_eq_some_iff] at h
    obtain ⟨b, hb, e⟩ := h
    cases e
    rw [ofV_nil hb]
  | global g => simp [cOpd] at h
  | func f => simp [cOpd] at h
theorem cO_mv {o : Oper} {y : Opd} (h : cO P o = some (.mv y)) : ∃ x, (o.op = .move x ∨ o.op = .assign x) ∧ cOpd x = some y := by
  unfold cO at h
  split at h
  case h_1 x ho =>
    simp only [Option.map_eq_some_iff] at h
    obtain ⟨z, hz, e⟩ := h
    cases e
    exact ⟨x, .inl ho, hz⟩
  case h_2 x ho =>
    simp only [Option.map_eq_some_iff] at h
    obtain ⟨z, hz, e⟩ := h
    cases e
    exact ⟨x, .inr ho, hz⟩
  all_goals ((repeat' split at h) <;> first | (cases h; done) | (simp at h; done))
theorem sem_nil0 {g : Option (Nat × Bool)} {d : Option Nat} {k : List C} {t : Tr} {m : Mem} {Q : Exit → Tr → Mem → Prop} (hg : gok t g = some true)
    (hk : SemW P n k0 k (sp d t .nil0) m Q) : SemW P n k0 (.op g d (.mv (.c .nilsl)) :: k) t m Q := by
  intro cs hcs A φ σ a w hG
  cases view_of P n _ cs _ (Nat.le_refl _) hcs with
  | op hc hr h =>
    rename_i ops i is r
    refine h _ a w ?_
    obtain ⟨o0, g', x0, ho, hgd, hx, e, hd⟩ := cOp_inv hc
    cases e
    have hw := gok_ok hG.tr hgd hg
    obtain ⟨x, hop, hx⟩ := cO_mv hx
    have := cOpd_nil hx
    subst this
    have hrun : (execOp a.eval o0).run P w = .ok (.value (.slice none 0 0)) w := by
      have hk : a.eval (.const (.slice none 0 0)) = .slice none 0 0 := rfl
      unfold execOp
      rcases hop with hop | hop <;> simp only [hop, hk] <;> rfl
    have hG' := hG.put (.refl hG.inv) (d := o0.dst) (fun i hi => hd i hi) (v := .nil0) (v' := .slice none 0 0) .nil0
    have hk' := hk _ hr A φ σ _ w hG'
    show wpOps P ops _ (i :: is) a w
    simp only [wpOps, ho, hw, if_true]
    refine .inl ?_
    unfold Oper.wp
    rw [hrun]
    exact hk'
theorem sem_eqn0 {g : Option (Nat × Bool)} {d : Option Nat} {neg : Bool} {x : Opd} {k : List C} {t : Tr} {m : Mem} {Q : Exit → Tr → Mem → Prop} (hg : gok t g = some true) (hx : ev t x = some .nil0)
    (h : SemW P n k0 k (sp d t (.bool (!neg))) m Q) : SemW P n k0 (.op g d (.eqn neg x) :: k) t m Q := by
  intro cs hcs A φ σ a w hG
  cases view_of P n _ cs _ (Nat.le_refl _) hcs with
  | op hc hr h' =>
    rename_i ops i is r
    refine h' _ a w ?_
    obtain ⟨o0, g', x0, ho, hgd, hx0, e, hd⟩ := cOp_inv hc
    cases e
    obtain ⟨op, xt, y, et, yt, h1, hop, rfl, hu, hy⟩ := cO_eqn hx0
    have hw := gok_ok hG.tr hgd hg
    have hv := ev_ok hG.tr hy hx
    generalize hval : a.eval y = v0 at hv
    cases hv
    have hrun : (execOp a.eval o0).run P w = .ok (.value (.bool (!(op == .neq)))) w := by
      have hk : a.eval (.const (.slice none 0 0)) = .slice none 0 0 := rfl
      have heq : (Op.equal xt (.slice none 0 0) (.slice none 0 0)).run P w = .ok true w := by
        rw [equal_step, Op.equalIn]
        simp only [Sem.run_bind, und_run hu, Result.andThen_ok]
        rfl
      have hgd : (eqGuard op xt y (.const (.slice none 0 0)) (.slice none 0 0) (.slice none 0 0)).run P w = .ok () w := by
        rcases hop with rfl | rfl <;> simp [eqGuard]
      unfold execOp
      simp only [h1, hk, hval, Sem.run_bind, hgd, Result.andThen_ok]
      rcases hop with rfl | rfl
      · simp only [binOp, Sem.run_bind, heq, Result.andThen_ok]; rfl
      · simp only [binOp, Sem.run_bind, heq, Result.andThen_ok]; rfl
    have hG' := hG.put (.refl hG.inv) (d := o0.dst) (fun i hi => hd i hi) (v := .bool (!(op == .neq))) (v' := .bool (!(op == .neq))) .bool
    have hk := h _ hr A φ σ _ w hG'
    show wpOps P ops _ (i :: is) a w
    rw [wpOps_cons]
    simp only [wpOp, ho, hw, if_true]
    refine .inl ?_
    unfold Oper.wp
    rw [hrun]
    exact hk
end Go.AE

/- The abstract evaluator, part zm: loops over maps. -/
namespace Go.AE
open Go
open Go.ChangeMaps (setBlock)
set_option linter.unusedVariables false
set_option linter.unusedSimpArgs false

variable {P : Program} {n k0 : Nat}

end Go.AE

/- The abstract evaluator, part zn: rounds that leave the memory as it is. -/
namespace Go.AE
open Go
set_option linter.unusedVariables false
set_option linter.unusedSimpArgs false

variable {P : Program} {n k0 : Nat}

def idl : Nat → Nat → List Nat
  | 0, _ => []
  | n + 1, i => i :: idl n (i + 1)
theorem idl_len : ∀ (n i : Nat), (idl n i).length = n
  | 0, _ => rfl
  | n + 1, i => by simp [idl, idl_len n]
theorem idl_get : ∀ (n i j : Nat), j < n → (idl n i)[j]? = some (i + j)
  | 0, _, _, h => by omega
  | n + 1, i, 0, _ => by simp [idl]
  | n + 1, i, j + 1, h => by simp only [idl, List.getElem?_cons_succ]; rw [idl_get n (i + 1) j (by omega)]; congr 1; omega
theorem rid_idl {n N b : Nat} (h : b < n) : rid (idl n 0) N b = b := by
  obtain ⟨p, h1, h2⟩ := rid_lt (π := idl n 0) (N := N) (j := b) (by rw [idl_len]; exact h)
  rw [idl_get n 0 b h] at h1
  rw [h2]; simp at h1; omega
mutual
theorem ren_idl {n N : Nat} : ∀ {v : AV}, ids n v = true → ren (idl n 0) N v = v
  | .bool _, _ | .bsym _, _ | .int _ _, _ | .str _, _ | .nilptr, _ | .pval _ _ _ _, _ | .nilsl, _ | .nil0, _ | .vsl _ _ _, _ | .nilmap, _ | .nilfn, _ | .nilif, _ => rfl
  | .pbox b j, h => by simp only [ren]; rw [rid_idl (Nat.blt_eq.mp h)]
  | .parr b j i, h => by simp only [ren]; rw [rid_idl (Nat.blt_eq.mp h)]
  | .pelt b j i, h => by simp only [ren]; rw [rid_idl (Nat.blt_eq.mp h)]
  | .sl b i l c t, h => by simp only [ren]; rw [rid_idl (Nat.blt_eq.mp h)]
  | .asl b j i l c, h => by simp only [ren]; rw [rid_idl (Nat.blt_eq.mp h)]
  | .map b, h => by simp only [ren]; rw [rid_idl (Nat.blt_eq.mp h)]
  | .fn f a c, h => by simp only [ids, Bool.and_eq_true] at h; simp only [ren]; rw [rens_idl h.1, rens_idl h.2]
  | .ifc t v, h => by simp only [ren]; rw [ren_idl (v := v) h]
  | .agg cs, h => by simp only [ren]; rw [rens_idl (vs := cs) h]
  | .tup cs, h => by simp only [ren]; rw [rens_idl (vs := cs) h]
theorem rens_idl {n N : Nat} : ∀ {vs : List AV}, idss n vs = true → rens (idl n 0) N vs = vs
  | [], _ => rfl
  | v :: vs, h => by simp only [idss, Bool.and_eq_true] at h; simp only [rens]; rw [ren_idl h.1, rens_idl h.2]
end
theorem renP_idl {n N : Nat} : ∀ {es : List (AV × AV)}, idsP n es = true → renP (idl n 0) N es = es
  | [], _ => rfl
  | (a, b) :: es, h => by simp only [idsP, Bool.and_eq_true] at h; simp only [renP]; rw [ren_idl h.1.1, ren_idl h.1.2, renP_idl h.2]
theorem renB_idl {n N : Nat} : ∀ {k : Blk}, idsB n k = true → renB (idl n 0) N k = k
  | .box cs, h => by simp only [renB]; rw [rens_idl (vs := cs) h]
  | .row _ _, _ => rfl
  | .map es, h => by simp only [renB]; rw [renP_idl (es := es) h]
  | .mapb _ _ _ es, h => by simp only [renB]; rw [renP_idl (es := es) h]
  | .iter _ _ _ _, _ => rfl
  | .gone, _ => rfl
theorem embM_idl {n N : Nat} {ex : Mem} : ∀ {pm pre : Mem}, idsM n pm = true → embM (idl n 0) N (pre ++ (pm ++ ex)) (idl pm.length pre.length) pm
  | [], _, _ => trivial
  | k :: pm, pre, h => by
    simp only [idsM, Bool.and_eq_true] at h
    have ih := embM_idl (N := N) (ex := ex) (pm := pm) (pre := pre ++ [k]) h.2
    simp only [List.append_assoc, List.singleton_append, List.length_append, List.length_cons, List.length_nil] at ih
    have hg : mg (pre ++ k :: (pm ++ ex)) pre.length = renB (idl n 0) N k := by
      rw [renB_idl h.1]
      clear ih h
      induction pre with
      | nil => rfl
      | cons x pre ih => exact ih
    simp only [List.length_cons, idl, List.cons_append]
    cases k with
    | gone => exact ih
    | _ => exact ⟨hg, ih⟩
theorem nodup_idl : ∀ (n i : Nat), nodupN (idl n i) = true
  | 0, _ => rfl
  | n + 1, i => by
    simp only [idl, nodupN, nodup_idl n (i + 1), Bool.and_true, Bool.not_eq_true']
    rw [Bool.eq_false_iff]
    intro h
    have hm : i ∈ idl n (i + 1) := by simpa using h
    obtain ⟨j, hj⟩ := List.getElem?_of_mem hm
    have hjl : j < n := by
      rcases Nat.lt_or_ge j n with h | h
      · exact h
      · rw [List.getElem?_eq_none (by rw [idl_len]; exact h)] at hj; cases hj
    rw [idl_get n (i + 1) j hjl] at hj
    simp at hj; omega
theorem below_idl : ∀ (n i N : Nat), i + n ≤ N → below N (idl n i) = true
  | 0, _, _, _ => rfl
  | n + 1, i, N, h => by
    simp only [idl, below, below_idl n (i + 1) N (by omega), Bool.and_true]
    exact Nat.blt_eq.mpr (by omega)
theorem fixed_idl : ∀ (k n i : Nat), k ≤ n → fixed k i (idl n i) = true
  | 0, _, _, _ => rfl
  | k + 1, 0, i, h => by omega
  | k + 1, n + 1, i, h => by simp only [idl, fixed, beq_self_eq_true, Bool.true_and]; exact fixed_idl k n (i + 1) (by omega)
def embT0 (t : Tr) : List (Nat × AV) → Prop
  | [] => True
  | (i, v) :: l => t.get i = some v ∧ embT0 t l
theorem embT_idl {n N : Nat} {t : Tr} : ∀ {l : List (Nat × AV)}, idsT n l = true → embT0 t l → embT (idl n 0) N t l
  | [], _, _ => trivial
  | (i, v) :: l, h, he => by
    simp only [idsT, Bool.and_eq_true] at h
    exact ⟨by rw [ren_idl h.1]; exact he.1, embT_idl h.2 he.2⟩
theorem sem_sub1 {k : List C} {t : Tr} {m : Mem} (ex : Mem) {Q : Exit → Tr → Mem → Prop} (sl : List (Nat × AV)) (hm : idsM m.length m = true) (hk : k0 ≤ m.length) (hT : idsT m.length sl = true) (he : embT0 t sl)
    (h : SemW P n k0 k (mkP sl) m Q) : SemW P n k0 k t (m ++ ex) Q := by
  refine sem_sub (idl m.length 0) (m2 := m) (sl := sl) ⟨?_, embT_idl hT he, ?_⟩ h
  · simp only [chk, hT, hm, nodup_idl, fixed_idl k0 m.length 0 hk, below_idl m.length 0 (m ++ ex).length (by simp), Bool.and_self]
  · have := embM_idl (n := m.length) (N := (m ++ ex).length) (ex := ex) (pm := m) (pre := []) hm
    simpa using this
theorem sem_rounds1 {α : Type} (J : α → Prop) (sl : α → List (Nat × AV)) (μ : α → Nat) (x0 : α) (ex : Mem) {b k : List C} {t : Tr} {m : Mem} {Q : Exit → Tr → Mem → Prop} (hm : idsM m.length m = true) (hk : k0 ≤ m.length) (hsl : ∀ x, J x → idsT m.length (sl x) = true)
    (hJ : J x0) (h0 : embT0 t (sl x0))
    (round : ∀ x, J x → SemW P n k0 b (mkP (sl x)) m (Nxt P n k0 k Q fun t' m' => ∃ y, μ y < μ x ∧ J y ∧ embT0 t' (sl y) ∧ ∃ ex, m' = m ++ ex)) : SemW P n k0 (.loop b :: k) t (m ++ ex) Q := by
  refine sem_loop (fun x t m' => J x ∧ embT0 t (sl x) ∧ ∃ ex, m' = m ++ ex) μ x0 ⟨hJ, h0, ex, rfl⟩ ?_
  rintro x t m' ⟨hx, he, ex, rfl⟩
  exact sem_sub1 ex (sl x) hm hk (hsl x hx) he (round x hx)
theorem sem_sub0 {k : List C} {t : Tr} {m : Mem} {Q : Exit → Tr → Mem → Prop} (sl : List (Nat × AV)) (hm : idsM m.length m = true) (hk : k0 ≤ m.length) (hT : idsT m.length sl = true) (he : embT0 t sl)
    (h : SemW P n k0 k (mkP sl) m Q) : SemW P n k0 k t m Q := by
  have := sem_sub1 [] sl hm hk hT he h
  rwa [List.append_nil] at this
theorem sem_rounds0 {α : Type} (J : α → Prop) (sl : α → List (Nat × AV)) (μ : α → Nat) (x0 : α) {b k : List C} {t : Tr} {m : Mem} {Q : Exit → Tr → Mem → Prop} (hm : idsM m.length m = true) (hk : k0 ≤ m.length) (hsl : ∀ x, J x → idsT m.length (sl x) = true)
    (hJ : J x0) (h0 : embT0 t (sl x0))
    (round : ∀ x, J x → SemW P n k0 b (mkP (sl x)) m (Nxt P n k0 k Q fun t' m' => ∃ y, μ y < μ x ∧ J y ∧ embT0 t' (sl y) ∧ ∃ ex, m' = m ++ ex)) : SemW P n k0 (.loop b :: k) t m Q := by
  have := sem_rounds1 J sl μ x0 [] hm hk hsl hJ h0 round
  rwa [List.append_nil] at this
attribute [go_sem] embT0
end Go.AE
