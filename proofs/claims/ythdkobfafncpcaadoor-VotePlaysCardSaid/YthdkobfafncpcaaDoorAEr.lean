/- The abstract evaluator: AEq, AEr in one. -/
import Derived.Test.YthdkobfafncpcaaDoorAEp
import Derived.Below
/- The abstract evaluator, part q: patterns: what is forgotten, rounds, a law's beginning. -/
namespace Go.AE
open Go
set_option linter.unusedVariables false
set_option linter.unusedSimpArgs false

variable {P : Program} {n k0 : Nat}

def mkP : List (Nat × AV) → Tr
  | [] => .lf
  | (i, v) :: l => (mkP l).set i v
def embT (π : List Nat) (N : Nat) (t : Tr) : List (Nat × AV) → Prop
  | [] => True
  | (i, v) :: l => t.get i = some (ren π N v) ∧ embT π N t l
def idsT (k : Nat) : List (Nat × AV) → Bool
  | [] => true
  | (_, v) :: l => ids k v && idsT k l
theorem mkP_get {π : List Nat} {N k : Nat} {t : Tr} : ∀ {l : List (Nat × AV)} {i : Nat} {v : AV}, embT π N t l → idsT k l = true → (mkP l).get i = some v → t.get i = some (ren π N v) ∧ ids k v = true
  | [], i, v, _, _, h => by simp [mkP, Tr.get] at h
  | (j, u) :: l, i, v, he, hk, h => by
    simp only [idsT, Bool.and_eq_true] at hk
    rcases Tr.get_put _ _ _ _ _ _ h with ⟨rfl, e⟩ | ⟨_, e⟩
    · cases e; exact ⟨he.1, hk.1⟩
    · exact mkP_get he.2 hk.2 e
def fixed : Nat → Nat → List Nat → Bool
  | 0, _, _ => true
  | _ + 1, _, [] => false
  | k + 1, i, p :: π => p == i && fixed k (i + 1) π
theorem fixed_get : ∀ {k i : Nat} {π : List Nat}, fixed k i π = true → ∀ j, j < k → π[j]? = some (i + j)
  | 0, _, _, _, j, hj => by omega
  | _ + 1, _, [], h, j, hj => by simp [fixed] at h
  | k + 1, i, p :: π, h, j, hj => by
    simp only [fixed, Bool.and_eq_true, beq_iff_eq] at h
    cases j with
    | zero => simp [h.1]
    | succ j => have := fixed_get h.2 j (by omega); simp only [List.getElem?_cons_succ]; rw [this]; congr 1; omega
def below (N : Nat) : List Nat → Bool
  | [] => true
  | p :: π => Nat.blt p N && below N π
def chk (k0 : Nat) (π : List Nat) (N : Nat) (sl : List (Nat × AV)) (m2 : Mem) : Bool :=
  idsT m2.length sl && idsM m2.length m2 && nodupN π && below N π && fixed k0 0 π
def Emb (k0 : Nat) (π : List Nat) (t : Tr) (m : Mem) (sl : List (Nat × AV)) (m2 : Mem) : Prop :=
  chk k0 π m.length sl m2 = true ∧ embT π m.length t sl ∧ embM π m.length m π m2

theorem sem_sub {k : List C} {t : Tr} {m : Mem} {Q : Exit → Tr → Mem → Prop} {sl : List (Nat × AV)} {m2 : Mem} (π : List Nat) (he : Emb k0 π t m sl m2) (h : SemW P n k0 k (mkP sl) m2 Q) : SemW P n k0 k t m Q := by
  obtain ⟨hc, hT, hM⟩ := he
  simp only [chk, Bool.and_eq_true] at hc
  obtain ⟨⟨⟨⟨hiT, hiM⟩, hnd⟩, hbel⟩, hfix⟩ := hc
  obtain ⟨hπl, hemb⟩ := embM_get hM
  intro cs hcs A φ σ a w hG
  have hI := hG.inv
  let σ2 : Sg := fun b => if b < m2.length then σ (rid π m.length b) else none
  have hσ2 : ∀ b, b < m2.length → σ (rid π m.length b) = σ2 b := fun b hb => by show _ = if b < m2.length then _ else _; rw [if_pos hb]
  have hσn : ∀ b, m2.length ≤ b → σ2 b = none := fun b hb => by show (if b < m2.length then _ else _) = none; rw [if_neg (by omega)]
  have here : ∀ (b : Nat) (k : Blk), m2[b]? = some k → k.owned = true → ∃ p, π[b]? = some p ∧ rid π m.length b = p ∧ m[p]? = some (renB π m.length k) ∧ σ2 b = σ p ∧ b < m2.length := by
    intro b k hb hk
    obtain ⟨p, h1, h2⟩ := hemb b k hb hk
    have hbl : b < m2.length := by
      rcases Nat.lt_or_ge b m2.length with h | h
      · exact h
      · rw [List.getElem?_eq_none h] at hb; cases hb
    obtain ⟨p', h3, h4⟩ := rid_lt (N := m.length) (show b < π.length by omega)
    rw [h1] at h3; cases h3
    exact ⟨p, h1, h4, mg_get h2 (by rw [renB_owned]; exact hk), by rw [← hσ2 b hbl, h4], hbl⟩
  have hk0 : k0 ≤ m2.length := by
    rcases Nat.lt_or_ge m2.length k0 with h' | h'
    · have := fixed_get hfix m2.length h'
      rw [List.getElem?_eq_none (by omega)] at this; cases this
    · exact h'
  refine h cs hcs A φ σ2 a w ⟨hG.fz, fun b hb => ?_, ⟨hI.lf, hI.fz, fun b k hb => ?_, fun b c k l i j hb hc hk hl hi hj hne => ?_, fun b k i hb hk hi => ?_, hσn⟩, fun i v hv => ?_, hG.sz, hG.df, hG.grow, hG.kept, fun b k i hb hk hi => ?_, hk0, hG.ice, hG.env⟩
  · have h1 := fixed_get hfix b hb
    rw [Nat.zero_add] at h1
    obtain ⟨p', h3, h4⟩ := rid_lt (N := m.length) (show b < π.length by omega)
    rw [h1] at h3; cases h3
    rw [← hσ2 b (by omega), h4]; exact hG.sg b hb
  · cases hk : k.owned with
    | false => cases k <;> simp [Blk.owned] at hk; trivial
    | true =>
      obtain ⟨p, h1, h2, h3, h4, h5⟩ := here b k hb hk
      rw [h4]
      exact unrenB_ok hσ2 (hI.blk p _ h3) (idsM_get hiM hb)
  · obtain ⟨p, h1, h2, h3, h4, h5⟩ := here b k hb hk
    obtain ⟨q, g1, g2, g3, g4, g5⟩ := here c l hc hl
    exact hI.inj p q _ _ i j h3 g3 (by rw [renB_owned]; exact hk) (by rw [renB_owned]; exact hl) (by rw [← h4]; exact hi) (by rw [← g4]; exact hj) (nodup_ne hnd h1 g1 hne)
  · obtain ⟨p, h1, h2, h3, h4, h5⟩ := here b k hb hk
    exact hI.apart p _ i h3 (by rw [renB_owned]; exact hk) (by rw [← h4]; exact hi)
  · obtain ⟨g1, g2⟩ := mkP_get hT hiT hv
    obtain ⟨v', q1, q2⟩ := hG.tr i _ g1
    exact ⟨v', q1, unren_ok hσ2 q2 g2⟩
  · obtain ⟨p, h1, h2, h3, h4, h5⟩ := here b k hb hk
    exact hG.own p _ i h3 (by rw [renB_owned]; exact hk) (by rw [← h4]; exact hi)

theorem sem_rounds {α : Type} (J : α → Prop) (sl : α → List (Nat × AV)) (mm : α → Mem) (μ : α → Nat) (x0 : α) (π0 : List Nat) {b k : List C} {t : Tr} {m : Mem} {Q : Exit → Tr → Mem → Prop} (hJ : J x0) (h0 : Emb k0 π0 t m (sl x0) (mm x0))
    (round : ∀ x, J x → SemW P n k0 b (mkP (sl x)) (mm x) (Nxt P n k0 k Q fun t' m' => ∃ y, μ y < μ x ∧ J y ∧ ∃ π, Emb k0 π t' m' (sl y) (mm y))) : SemW P n k0 (.loop b :: k) t m Q := by
  refine sem_loop (fun x t m => J x ∧ ∃ π, Emb k0 π t m (sl x) (mm x)) μ x0 ⟨hJ, π0, h0⟩ ?_
  rintro x t m ⟨hx, π, he⟩
  exact sem_sub π he (round x hx)

def asB : AV → AV
  | .bsym b => .bool b
  | v => v
def asS : AV → AV
  | .bool b => .bsym b
  | v => v
theorem VR.asB {φ : Fz} {σ : Sg} {v : AV} {v' : Value} (h : VR φ σ v v') : VR φ σ (asB v) v' := by
  cases v <;> first | exact h | (cases h; exact .bool)
theorem Tri.asB {f : FuncId} {args : List AV} {m : Mem} {K : AV → Mem → Prop} (h : Tri P f args m fun v m' => K (AE.asB v) m') : Tri P f args m K :=
  ⟨h.1, fun φ σ w vs hI hv => (h.2 φ σ w vs hI hv).mono fun e w' ⟨v', he, φ', σ', v, m', hK, hs, hr⟩ => ⟨v', he, φ', σ', _, m', hK, hs, hr.asB⟩⟩
theorem VR.asS {φ : Fz} {σ : Sg} {v : AV} {v' : Value} (h : VR φ σ v v') : VR φ σ (asS v) v' := by
  cases v <;> first | exact h | (cases h; exact .bsym)
theorem Tri.asS {f : FuncId} {args : List AV} {m : Mem} {K : AV → Mem → Prop} (h : Tri P f args m fun v m' => K (AE.asS v) m') : Tri P f args m K :=
  ⟨h.1, fun φ σ w vs hI hv => (h.2 φ σ w vs hI hv).mono fun e w' ⟨v', he, φ', σ', v, m', hK, hs, hr⟩ => ⟨v', he, φ', σ', _, m', hK, hs, hr.asS⟩⟩

def EmbV (k0 : Nat) (π : List Nat) (v : AV) (m : Mem) (v2 : AV) (m2 : Mem) : Prop :=
  (ids m2.length v2 && idsM m2.length m2 && nodupN π && below m.length π && fixed k0 0 π) = true ∧ v = ren π m.length v2 ∧ embM π m.length m π m2
theorem Tri.sub {f : FuncId} {args : List AV} {m : Mem} {K : AV → Mem → Prop} (h : Tri P f args m fun v m' => ∃ π v2 m2, EmbV m.length π v m' v2 m2 ∧ K v2 m2) : Tri P f args m K := by
  refine ⟨h.1, fun φ σ w vs hI hv => (h.2 φ σ w vs hI hv).mono ?_⟩
  rintro e w' ⟨v', he, φ', σ', v, m', ⟨π, v2, m2, ⟨hc, rfl, hM⟩, hK⟩, hst, hr⟩
  simp only [Bool.and_eq_true] at hc
  obtain ⟨⟨⟨⟨hiV, hiM⟩, hnd⟩, hbel⟩, hfix⟩ := hc
  obtain ⟨hπl, hemb⟩ := embM_get hM
  have hI' := hst.inv
  let σ2 : Sg := fun b => if b < m2.length then σ' (rid π m'.length b) else none
  have hσ2 : ∀ b, b < m2.length → σ' (rid π m'.length b) = σ2 b := fun b hb => by show _ = if b < m2.length then _ else _; rw [if_pos hb]
  have hσn : ∀ b, m2.length ≤ b → σ2 b = none := fun b hb => by show (if b < m2.length then _ else _) = none; rw [if_neg (by omega)]
  have here : ∀ (b : Nat) (k : Blk), m2[b]? = some k → k.owned = true → ∃ p, π[b]? = some p ∧ rid π m'.length b = p ∧ m'[p]? = some (renB π m'.length k) ∧ σ2 b = σ' p ∧ b < m2.length := by
    intro b k hb hk
    obtain ⟨p, h1, h2⟩ := hemb b k hb hk
    have hbl : b < m2.length := by
      rcases Nat.lt_or_ge b m2.length with h | h
      · exact h
      · rw [List.getElem?_eq_none h] at hb; cases hb
    obtain ⟨p', h3, h4⟩ := rid_lt (N := m'.length) (show b < π.length by omega)
    rw [h1] at h3; cases h3
    exact ⟨p, h1, h4, mg_get h2 (by rw [renB_owned]; exact hk), by rw [← hσ2 b hbl, h4], hbl⟩
  have hlen : m.length ≤ m2.length := by
    rcases Nat.lt_or_ge m2.length m.length with h' | h'
    · have := fixed_get hfix m2.length h'
      rw [List.getElem?_eq_none (by omega)] at this; cases this
    · exact h'
  have hold : ∀ b, b < m.length → σ2 b = σ b := by
    intro b hb
    have h1 := fixed_get hfix b hb
    rw [Nat.zero_add] at h1
    obtain ⟨p', h3, h4⟩ := rid_lt (N := m'.length) (show b < π.length by omega)
    rw [h1] at h3; cases h3
    rw [← hσ2 b (by omega), h4]; exact hst.old b hb
  refine ⟨v', he, φ', σ2, v2, m2, hK, ⟨hst.fz, fun b i hb => ?_, ⟨hI'.lf, hI'.fz, fun b k hb => ?_, fun b c k l i j hb hc hk hl hi hj hne => ?_, fun b k i hb hk hi => ?_, hσn⟩, hst.size, hst.frame, fun b k i hb hk hi => ?_, hold, hlen, hst.ice, hst.env⟩, unren_ok hσ2 hr hiV⟩
  · have hbl : b < m.length := by
      rcases Nat.lt_or_ge b m.length with h | h
      · exact h
      · rw [hI.fresh b h] at hb; cases hb
    rw [hold b hbl]; exact hb
  · cases hk : k.owned with
    | false => cases k <;> simp [Blk.owned] at hk; trivial
    | true =>
      obtain ⟨p, h1, h2, h3, h4, h5⟩ := here b k hb hk
      rw [h4]
      exact unrenB_ok hσ2 (hI'.blk p _ h3) (idsM_get hiM hb)
  · obtain ⟨p, h1, h2, h3, h4, h5⟩ := here b k hb hk
    obtain ⟨q, g1, g2, g3, g4, g5⟩ := here c l hc hl
    exact hI'.inj p q _ _ i j h3 g3 (by rw [renB_owned]; exact hk) (by rw [renB_owned]; exact hl) (by rw [← h4]; exact hi) (by rw [← g4]; exact hj) (nodup_ne hnd h1 g1 hne)
  · obtain ⟨p, h1, h2, h3, h4, h5⟩ := here b k hb hk
    exact hI'.apart p _ i h3 (by rw [renB_owned]; exact hk) (by rw [← h4]; exact hi)
  · obtain ⟨p, h1, h2, h3, h4, h5⟩ := here b k hb hk
    exact hst.own p _ i h3 (by rw [renB_owned]; exact hk) (by rw [← h4]; exact hi)

/-! ### a law -/
theorem law_calls {f : FuncId} {args : List AV} {vs : List Value} {w : World} (h : Tri P f args [] fun v _ => v = .bool true) (hv : VRs (fun B => w.heap[B]?) noS args vs) (hl : Laid (fun B => w.heap[B]?) := by intro _ _ _ h; cases h) :
    Calls P f vs.toArray w fun e w' => e = .returned (.bool true) ∧ Go.RowKit.Below w.heap.size w w' := by
  have hI : Inv (fun B => w.heap[B]?) noS [] w := ⟨hl, fun _ _ h => h, fun b k h => by simp at h, fun b c k l i j h => by simp at h, fun b k i h => by simp at h, fun _ _ => rfl⟩
  refine (h.2 _ _ w vs hI hv).mono ?_
  rintro e w' ⟨v', rfl, φ', σ', v, m', hK, hst, hv'⟩
  refine ⟨?_, hst.env.1, hst.env.2.1, hst.env.2.2, hst.size, fun B hB => hst.frame B hB fun b k i h => by simp at h⟩
  subst hK; cases hv'; rfl
end Go.AE

/- The abstract evaluator, part r: the words of an evaluation. -/
namespace Go.AE
open Go
set_option linter.unusedVariables false
set_option linter.unusedSimpArgs false

theorem asB_bool (b : Bool) : asB (.bool b) = .bool b := rfl
theorem asB_bsym (b : Bool) : asB (.bsym b) = .bool b := rfl
theorem asB_int (k : IntKind) (n : Int) : asB (.int k n) = .int k n := rfl
theorem asB_str (s : List UInt8) : asB (.str s) = .str s := rfl
theorem asB_tup (s : List AV) : asB (.tup s) = .tup s := rfl
theorem asB_agg (s : List AV) : asB (.agg s) = .agg s := rfl
theorem asS_bool (b : Bool) : asS (.bool b) = .bsym b := rfl
theorem asS_bsym (b : Bool) : asS (.bsym b) = .bsym b := rfl
theorem blt_dec (a b : Nat) : Nat.blt a b = decide (a < b) := by
  cases h : Nat.blt a b with
  | true => simp only [Nat.blt_eq] at h; simp [h]
  | false => simp only [Nat.blt_eq, ← Bool.not_eq_true] at h; simp [h]
/-! The evaluator's steps, proved by more than rfl: else simp leaves whole runs to the kernel. -/
section
variable {S : List C → Tr → Mem → (Exit → Tr → Mem → Prop) → Prop} {n : Nat} {k : List C} {t : Tr} {m : Mem} {Q : Exit → Tr → Mem → Prop}
theorem exec_zero : exec S 0 k t m Q = S k t m Q := propext Iff.rfl
theorem exec_nil : exec S (n + 1) [] t m Q = Q .normal t m := propext Iff.rfl
theorem exec_ret : exec S (n + 1) (.ret :: k) t m Q = Q .ret t m := propext Iff.rfl
theorem exec_endb (id : Nat) : exec S (n + 1) (.endb id :: k) t m Q = exec S n k t m Q := propext Iff.rfl
theorem exec_exit (id : Nat) : exec S (n + 1) (.exit id :: k) t m Q = match exk id k with
      | some k' => exec S n k' t m Q
      | none => Q (.exit id) t m := propext Iff.rfl
theorem exec_blk (id : Nat) (b : List C) : exec S (n + 1) (.blk id b :: k) t m Q = exec S n (b ++ .endb id :: k) t m Q := propext Iff.rfl
theorem exec_cond (x : Opd) (a b : List C) : exec S (n + 1) (.cond x a b :: k) t m Q = match ev t x with
      | some (.bool true) => exec S n (a ++ k) t m Q
      | some (.bool false) => exec S n (b ++ k) t m Q
      | some (.bsym q) => fk q (exec S n (a ++ k) t m Q) (exec S n (b ++ k) t m Q)
      | _ => S (.cond x a b :: k) t m Q := propext Iff.rfl
theorem exec_op (d : Option Nat) (o : O) : exec S (n + 1) (.op none d o :: k) t m Q = match ao o t m with
        | some (p, v, m') => p ∧ exec S n k (sp d t v) m' Q
        | none => S (.op none d o :: k) t m Q := propext Iff.rfl
theorem exec_opg (j : Nat) (w : Bool) (d : Option Nat) (o : O) : exec S (n + 1) (.op (some (j, w)) d o :: k) t m Q = match t.get j, w with
        | some (.bool true), true => match ao o t m with
          | some (p, v, m') => p ∧ exec S n k (sp d t v) m' Q
          | none => S (.op (some (j, w)) d o :: k) t m Q
        | some (.bool false), false => match ao o t m with
          | some (p, v, m') => p ∧ exec S n k (sp d t v) m' Q
          | none => S (.op (some (j, w)) d o :: k) t m Q
        | some (.bool _), _ => exec S n k (sp d t (.tup [])) m Q
        | some (.tup _), _ => exec S n k (sp d t (.tup [])) m Q
        | some (.bsym q), _ => fk q (exec S n (.op (some (j, w)) d o :: k) (t.set j (.bool true)) m Q) (exec S n (.op (some (j, w)) d o :: k) (t.set j (.bool false)) m Q)
        | _, _ => S (.op (some (j, w)) d o :: k) t m Q := propext Iff.rfl
theorem exec_loop (b : List C) : exec S (n + 1) (.loop b :: k) t m Q = S (.loop b :: k) t m Q := propext Iff.rfl
theorem exec_draw (r : List (Option (Nat × Bool) × Option Nat × O × List Nat)) : exec S (n + 1) (.draw r :: k) t m Q = S (.draw r :: k) t m Q := propext Iff.rfl
end
attribute [go_sem ↓] fk_true fk_false
attribute [go_sem] fk_def asB_bool asB_bsym asB_int asB_str asB_tup asB_agg asS_bool asS_bsym blt_dec List.contains_cons List.contains_nil Bool.or_false Bool.false_or Nxt exec_zero exec_nil exec_ret exec_endb exec_exit exec_blk exec_cond exec_op exec_opg exec_loop exec_draw ao bin binI binS ev evs sp Tr.get Tr.set Tr.put mkT mg ms lg ls ldr ltk lput kd isNil isK fadA ldA ldN stA cells nz Rt RtR res resV resVs one eqp eqb un
  lenA keysOk keyOk isKey mfind mset mdel keq lookA okv eqc lenA iadA isRow lslA bnds tgt elems apA bputs slits exk mxI mnI inb flat flats gok rd1 rdn
  List.length_cons List.length_nil List.all_cons List.all_nil List.cons_append List.nil_append repN List.set_cons_zero List.set_cons_succ List.append_nil List.map_cons List.map_nil List.drop_succ_cons List.drop_zero List.take_succ_cons List.take_zero Bool.and_true Bool.true_and Bool.and_false Bool.false_and true_and and_true cond_true cond_false
  Nat.reduceAdd Nat.reduceMod Nat.reduceDiv Nat.reduceBEq Nat.reduceSub Nat.reduceLT Nat.reduceLeDiff beq_self_eq_true decide_true decide_false Bool.not_true Bool.not_false Nat.beq
  ids idss idsP idsB idsM embT embM idsT fixed below chk nodupN rid ren rens renP renB mrg mkP ne_eq not_true_eq_false not_false_eq_true reduceCtorEq
  Int.reduceLE Int.reduceLT Int.reduceEq Int.reduceNe Int.reduceToNat Int.reduceAdd Int.reduceSub Int.reduceNeg Int.reduceBEq Int.reduceBNe decide_eq_true_eq decide_eq_false_iff_not eq_self true_implies Bool.false_eq_true Bool.true_eq_false false_implies implies_true forall_const and_self
end Go.AE
