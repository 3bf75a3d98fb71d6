/- The abstract evaluator: AEd in one. -/
import Derived.Test.YthdkobfafncpcaaDoorAEc
/- The abstract evaluator, part d: the operations do what the evaluator says (those that leave the memory alone). -/
namespace Go.AE
open Go
set_option linter.unusedVariables false
set_option linter.unusedSimpArgs false

variable {P : Program} {φ : Fz} {σ : Sg} {t : Tr} {a : Act} {m m' : Mem} {w : World} {p : Prop} {v : AV}

theorem und_run {u : TypeDesc} {ty : TypeId} (h : P.underlying ty = some u) : (underlying ty).run P w = .ok u w := by
  simp [underlying, h]
theorem size_run {n : Nat} {ty : TypeId} (h : szT P ty = some n) : (sizeOf ty).run P w = .ok n w := by
  unfold szT at h
  cases hi : P.info? ty with
  | none => simp [hi] at h
  | some i => simp [hi] at h; simp [sizeOf, typeInfo, hi, h]

theorem ok_mv (hI : Inv φ σ m w) (ht : TR φ σ t a.tmps) {o : Oper} {x : Operand} {y : Opd} (ho : o.op = .move x ∨ o.op = .assign x) (hx : cOpd x = some y)
    (he : ao (.mv y) t m = some (p, v, m')) : OpOk P o a φ σ m w v m' := by
  simp only [ao] at he
  cases hv : ev t y with
  | none => rw [hv] at he; cases he
  | some u =>
    rw [hv] at he; cases he
    refine .pure hI (v' := a.eval x) ?_ (ev_ok ht hx hv)
    rcases ho with ho | ho <;> simp [execOp, ho]

theorem ok_pick (hI : Inv φ σ m w) (ht : TR φ σ t a.tmps) {o : Oper} {c x y : Operand} {c' x' y' : Opd} (ho : o.op = .pick c x y) (hc : cOpd c = some c') (hx : cOpd x = some x') (hy : cOpd y = some y')
    (he : ao (.pick c' x' y') t m = some (p, v, m')) : OpOk P o a φ σ m w v m' := by
  simp only [ao] at he
  split at he
  · rename_i hv
    have hu := ev_ok ht hc hv
    generalize hg : a.eval c = cv at hu
    cases hu
    split at he
    · rename_i z hz
      cases he
      exact .pure hI (v' := a.eval x) (by simp [execOp, ho, asBool, hg]) (ev_ok ht hx hz)
    · cases he
  · rename_i hv
    have hu := ev_ok ht hc hv
    generalize hg : a.eval c = cv at hu
    cases hu
    split at he
    · rename_i z hz
      cases he
      exact .pure hI (v' := a.eval y) (by simp [execOp, ho, asBool, hg]) (ev_ok ht hy hz)
    · cases he
  · cases he

theorem toList_mk (l : List UInt8) : (ByteArray.mk l.toArray).toList = l := by
  rw [ByteArray.toList_eq]
theorem size_mk (l : List UInt8) : (ByteArray.mk l.toArray).size = l.length := by
  simp [ByteArray.size]

theorem binI_ok {op : BinOp} {xt : TypeId} {k : IntKind} {n n2 : Int} (hs : op ≠ .shl) (hs' : op ≠ .shr) (he : binI op k n n2 = some (p, v)) (hp : p) :
    ∃ r, (binOp op xt (.int k n) (.int k n2)).run P w = .ok r w ∧ VR φ σ v r := by
  cases op <;> simp only [binI] at he <;> first | (cases he; done) | skip
  all_goals first | exact absurd rfl hs | exact absurd rfl hs' | skip
  all_goals cases he
  all_goals simp only [binOp, ne_eq, not_true_eq_false, if_false, Op.intArith, Op.intDiv, Op.intBits, Op.intCmp, Sem.run_pure, Sem.run_ite, iwrap, ibits]
  all_goals first
    | exact ⟨_, rfl, .int⟩
    | exact ⟨_, rfl, .bsym⟩
    | (rw [if_neg hp]; exact ⟨_, rfl, .int⟩)

theorem bytes_beq (s s' : List UInt8) : ((⟨s.toArray⟩ : ByteArray).toList == (⟨s'.toArray⟩ : ByteArray).toList) = seqb s s' := by
  rw [toList_mk, toList_mk]; rfl
theorem append_mk (s s' : List UInt8) : (⟨s.toArray⟩ ++ ⟨s'.toArray⟩ : ByteArray) = ⟨(s ++ s').toArray⟩ := by
  ext1; simp
theorem binS_ok {op : BinOp} {xt : TypeId} {x y : List UInt8} (he : binS op x y = some (p, v)) (hp : p) :
    ∃ r, (binOp op xt (.string ⟨x.toArray⟩) (.string ⟨y.toArray⟩)).run P w = .ok r w ∧ VR φ σ v r := by
  cases op <;> simp only [binS] at he <;> first | (cases he; done) | skip
  all_goals cases he
  case add =>
    refine ⟨.string ⟨(x ++ y).toArray⟩, ?_, .str⟩
    have : ¬ (((ByteArray.mk x.toArray).size + (ByteArray.mk y.toArray).size : Nat) : Int) > IntKind.i64.max := by
      rw [size_mk, size_mk]; simp [IntKind.max, IntKind.signed, IntKind.bits]; omega
    simp only [binOp, Op.stringOp]
    rw [if_neg this, append_mk]; rfl
  all_goals simp only [binOp, Op.stringOp, Sem.run_pure, bytes_beq, toList_mk]
  all_goals exact ⟨_, rfl, .bsym⟩

theorem eqGuard_int {op : BinOp} {xt : TypeId} {x y : Operand} {k l : IntKind} {n n2 : Int} : (eqGuard op xt x y (.int k n) (.int l n2)).run P w = .ok () w := by
  unfold eqGuard; cases op <;> simp
theorem eqGuard_str {op : BinOp} {xt : TypeId} {x y : Operand} {n n2 : ByteArray} : (eqGuard op xt x y (.string n) (.string n2)).run P w = .ok () w := by
  unfold eqGuard; cases op <;> simp

theorem bin_ok {op : BinOp} {xt : TypeId} {x y : Operand} {va vb : Value} {u1 u2 : AV} (h1 : VR φ σ u1 va) (h2 : VR φ σ u2 vb) (he : bin op u1 u2 = some (p, v)) (hp : p) :
    ∃ r, (do eqGuard op xt x y va vb; binOp op xt va vb : Sem Value).run P w = .ok r w ∧ VR φ σ v r := by
  unfold bin at he
  split at he
  · rename_i k n l n2
    cases h1; cases h2
    simp only [Sem.run_bind, eqGuard_int, Result.andThen_ok]
    split at he
    · cases he
      have h0 : ¬ n2 < 0 := by omega
      refine ⟨_, ?_, .int⟩
      simp only [binOp, Op.shift, Sem.run_ite]
      rw [if_neg h0]; rfl
    · cases he
      have h0 : ¬ n2 < 0 := by omega
      refine ⟨_, ?_, .int⟩
      simp only [binOp, Op.shift, Sem.run_ite]
      rw [if_neg h0]; rfl
    · rename_i o1 o2
      cases hk : kd k l with
      | false => rw [hk] at he; cases he
      | true =>
        rw [hk] at he
        have : k = l := by simpa [kd] using hk
        subst this
        exact binI_ok (fun e => o1 e) (fun e => o2 e) he hp
  · cases h1; cases h2
    simp only [Sem.run_bind, eqGuard_str, Result.andThen_ok]
    exact binS_ok he hp
  · cases he

theorem ok_bin (hI : Inv φ σ m w) (ht : TR φ σ t a.tmps) {o : Oper} {op : BinOp} {xt yt : TypeId} {x y : Operand} {x' y' : Opd} (ho : o.op = .binOp op xt x y yt) (hx : cOpd x = some x') (hy : cOpd y = some y')
    (he : ao (.bin op x' y') t m = some (p, v, m')) (hp : p) : OpOk P o a φ σ m w v m' := by
  simp only [ao] at he
  split at he
  · rename_i u1 u2 e1 e2
    split at he
    · rename_i q r hb
      cases he
      obtain ⟨z, hz, hv⟩ := bin_ok (P := P) (w := w) (op := op) (xt := xt) (x := x) (y := y) (ev_ok ht hx e1) (ev_ok ht hy e2) hb hp
      refine .pure hI (v' := z) ?_ hv
      simp only [execOp, ho]
      rw [Sem.run_bind, hz]; rfl
    · cases he
  · cases he

theorem isNil_ok {x : AV} {vx : Value} (h : VR φ σ x vx) {b : Bool} (hb : isNil x = some b) :
    (b = true → vx = .pointer none ∨ vx = .map none ∨ vx = .nilFunc) ∧
    (b = false → (∃ q, vx = .pointer (some q)) ∨ (∃ r, vx = .map (some r)) ∨ (∃ f a c, vx = .func (.func f) a c)) := by
  cases h <;> simp [isNil] at hb <;> subst hb <;> simp

theorem ok_nck (hI : Inv φ σ m w) (ht : TR φ σ t a.tmps) {o : Oper} {x : Operand} {y : Opd} (ho : o.op = .nilCheck x) (hx : cOpd x = some y)
    (he : ao (.nck y) t m = some (p, v, m')) : OpOk P o a φ σ m w v m' := by
  simp only [ao] at he
  split at he
  · rename_i u hu
    have hv := ev_ok ht hx hu
    split at he
    · rename_i hn
      cases he
      refine .pure hI (v' := a.eval x) ?_ hv
      rcases (isNil_ok hv hn).2 rfl with ⟨q, hq⟩ | ⟨q, hq⟩ | ⟨f, b, c, hq⟩ <;> simp [execOp, ho, hq]
    · cases he
  · cases he

theorem equal_bool {ty : TypeId} {b c : Bool} (h : P.underlying ty = some .bool) : (Op.equal ty (.bool b) (.bool c)).run P w = .ok (b == c) w := by
  show (Op.equalIn (9999 + 1) ty (.bool b) (.bool c)).run P w = _
  rw [Op.equalIn]
  simp [und_run h]

theorem eqGuard_bool {op : BinOp} {xt : TypeId} {x y : Operand} {b c : Bool} : (eqGuard op xt x y (.bool b) (.bool c)).run P w = .ok () w := by
  unfold eqGuard; cases op <;> simp
theorem ok_eqb (hI : Inv φ σ m w) (ht : TR φ σ t a.tmps) {o : Oper} {op : BinOp} {xt yt : TypeId} {x y : Operand} {x' y' : Opd} (ho : o.op = .binOp op xt x y yt) (hop : op = .eql ∨ op = .neq)
    (hu : P.underlying xt = some .bool) (hx : cOpd x = some x') (hy : cOpd y = some y')
    (he : ao (.eqb (op == .neq) x' y') t m = some (p, v, m')) : OpOk P o a φ σ m w v m' := by
  simp only [ao] at he
  split at he
  · rename_i u1 u2 e1 e2
    have h1 := ev_ok ht hx e1
    have h2 := ev_ok ht hy e2
    split at he
    · rename_i r hb
      cases he
      have key : ∃ b c, a.eval x = .bool b ∧ a.eval y = .bool c ∧ v = .bsym (bif op == .neq then !(b == c) else b == c) := by
        unfold eqb at hb
        generalize a.eval x = vx at *
        generalize a.eval y = vy at *
        split at hb <;> first | (cases hb; cases h1; cases h2; exact ⟨_, _, rfl, rfl, rfl⟩) | cases hb
      obtain ⟨b, c, e1, e2, rfl⟩ := key
      refine .pure hI (v' := .bool (bif op == .neq then !(b == c) else b == c)) ?_ .bsym
      rcases hop with rfl | rfl <;> simp only [execOp, ho, Sem.run_bind, e1, e2, eqGuard_bool, Result.andThen_ok, binOp, equal_bool hu] <;> rfl
    · cases he
  · cases he

theorem ok_un (hI : Inv φ σ m w) (ht : TR φ σ t a.tmps) {o : Oper} {op : UnOp} {xt : TypeId} {x : Operand} {y : Opd} (ho : o.op = .unOp op xt x) (hx : cOpd x = some y)
    (he : ao (.un op y) t m = some (p, v, m')) : OpOk P o a φ σ m w v m' := by
  simp only [ao] at he
  split at he
  · rename_i u hu
    have hv := ev_ok ht hx hu
    split at he
    · rename_i r hr
      cases he
      have key : ∃ z, (Op.unary op (a.eval x)).run P w = .ok z w ∧ VR φ σ v z := by
        generalize a.eval x = vx at *
        unfold un at hr
        split at hr
        · rename_i k n
          cases hv
          split at hr
          · cases hr; exact ⟨_, rfl, .int⟩
          · cases hr
            refine ⟨_, ?_, .int⟩
            cases hk : k.signed <;> simp [Op.unary, Op.intBits, hk, ibits]
          · cases hr
        · rename_i b
          cases hv
          split at hr
          · cases hr; exact ⟨_, rfl, .bool⟩
          · cases hr
        · rename_i b
          cases hv
          split at hr
          · cases hr; exact ⟨_, rfl, .bsym⟩
          · cases hr
        · cases hr
      obtain ⟨z, hz, hvz⟩ := key
      refine .pure hI (v' := z) ?_ hvz
      simp only [execOp, ho]
      rw [Sem.run_bind, hz]; rfl
    · cases he
  · cases he

theorem ok_cvi (hI : Inv φ σ m w) (ht : TR φ σ t a.tmps) {o : Oper} {s d : TypeId} {k0 k : IntKind} {x : Operand} {y : Opd} (ho : o.op = .convert s d x) (hx : cOpd x = some y)
    (hs : P.underlying s = some (.int k0)) (hd : P.underlying d = some (.int k)) (he : ao (.cvi k y) t m = some (p, v, m')) : OpOk P o a φ σ m w v m' := by
  simp only [ao] at he
  split at he
  · rename_i k1 n hu
    have hv := ev_ok ht hx hu
    cases he
    refine .pure hI (v' := .int k (k.wrap n)) ?_ .int
    generalize hg : a.eval x = vx at hv
    cases hv
    simp [execOp, ho, hg, convert, und_run hs, und_run hd, Conv.intToInt]
  · cases he
theorem ok_cvt (hI : Inv φ σ m w) (ht : TR φ σ t a.tmps) {o : Oper} {s d : TypeId} {x : Operand} {y : Opd} (ho : o.op = .convert s d x) (hx : cOpd x = some y)
    (hs : P.underlying s = some .string) (hd : P.underlying d = some .string) (he : ao (.cvt y) t m = some (p, v, m')) : OpOk P o a φ σ m w v m' := by
  simp only [ao] at he
  split at he
  · rename_i n hu
    have hv := ev_ok ht hx hu
    cases he
    refine .pure hI (v' := a.eval x) ?_ hv
    generalize hg : a.eval x = vx at hv
    cases hv
    simp [execOp, ho, hg, convert, und_run hs, und_run hd]
  · cases he
theorem ok_ifc (hI : Inv φ σ m w) (ht : TR φ σ t a.tmps) {o : Oper} {ty : TypeId} {u : TypeDesc} {x : Operand} {y : Opd} (ho : o.op = .makeInterface ty x) (hx : cOpd x = some y)
    (hu : P.underlying ty = some u) (hn : ∀ ms, u ≠ .interface ms) (he : ao (.ifc ty y) t m = some (p, v, m')) : OpOk P o a φ σ m w v m' := by
  simp only [ao] at he
  split at he
  · rename_i z hz
    have hv := ev_ok ht hx hz
    cases he
    refine .pure hI (v' := .iface ty (a.eval x)) ?_ (.ifc hv)
    simp only [execOp, ho, Instr.makeInterface, Sem.run_bind, und_run hu, Result.andThen_ok]
    first
      | rfl
      | (split
         · rename_i ms; exact absurd rfl (hn ms)
         · rfl)
  · cases he
theorem ok_mkfn (hI : Inv φ σ m w) (ht : TR φ σ t a.tmps) {o : Oper} {f : FuncId} {xs ys : Array Operand} {xs' ys' : List Opd} (ho : o.op = .makeFunc (.func f) xs ys)
    (hx : cOpds xs.toList = some xs') (hy : cOpds ys.toList = some ys') (he : ao (.mkfn f xs' ys') t m = some (p, v, m')) : OpOk P o a φ σ m w v m' := by
  simp only [ao] at he
  split at he
  · rename_i u1 u2 e1 e2
    cases he
    have h1 := evs_ok ht hx e1
    have h2 := evs_ok ht hy e2
    refine .pure hI (v' := .func (.func f) (xs.map a.eval) (ys.map a.eval)) (by simp [execOp, ho, Instr.makeFunc]) ?_
    have e1 : xs.map a.eval = ⟨xs.toList.map a.eval⟩ := by cases xs; simp
    have e2 : ys.map a.eval = ⟨ys.toList.map a.eval⟩ := by cases ys; simp
    rw [e1, e2]
    exact .fn h1 h2
  · cases he
theorem ok_ext (hI : Inv φ σ m w) (ht : TR φ σ t a.tmps) {o : Oper} {x : Operand} {y : Opd} {i : Nat} (ho : o.op = .extract x i) (hx : cOpd x = some y)
    (he : ao (.ext y i) t m = some (p, v, m')) : OpOk P o a φ σ m w v m' := by
  simp only [ao] at he
  split at he
  · rename_i vs hu
    have hv := ev_ok ht hx hu
    split at he
    · rename_i r hr
      cases he
      generalize hg : a.eval x = vx at hv
      cases hv with
      | tup h =>
        rename_i cs'
        obtain ⟨r', hr', hv⟩ := h.get (lg_get hr)
        refine .pure hI (v' := r') ?_ hv
        simp [execOp, ho, hg, Instr.extract, hr']
    · cases he
  · cases he
theorem ok_ist (hI : Inv φ σ m w) (ht : TR φ σ t a.tmps) {o : Oper} {ty : TypeId} {x i : Operand} {y j : Opd} (ho : o.op = .index ty x i) (hx : cOpd x = some y) (hi : cOpd i = some j)
    (hu : P.underlying ty = some .string) (he : ao (.ist y j) t m = some (p, v, m')) (hp : p) : OpOk P o a φ σ m w v m' := by
  simp only [ao] at he
  split at he
  · rename_i s k n e1 e2
    have h1 := ev_ok ht hx e1
    have h2 := ev_ok ht hi e2
    cases he
    generalize hg : a.eval x = vx at h1
    generalize hg2 : a.eval i = vi at h2
    cases h1; cases h2
    obtain ⟨p1, p2⟩ := hp
    have hlt : n.toNat < s.length := by omega
    refine .pure hI (v' := .int .u8 (sget s n)) ?_ .int
    have hget : (⟨s.toArray⟩ : ByteArray)[n.toNat]? = some s[n.toNat] := by
      have hlt' : n.toNat < (⟨s.toArray⟩ : ByteArray).size := by rw [size_mk]; exact hlt
      rw [getElem?_pos (⟨s.toArray⟩ : ByteArray) n.toNat hlt']
      simp [ByteArray.getElem_eq_getElem_data]
    simp [execOp, ho, hg, hg2, Instr.index, asIntOf, und_run hu, p1, hget, sget, hlt]
  · cases he
end Go.AE
