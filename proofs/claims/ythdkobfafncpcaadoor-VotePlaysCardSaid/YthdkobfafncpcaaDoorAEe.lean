/- The abstract evaluator: AEe in one. -/
import Derived.Test.YthdkobfafncpcaaDoorAEd
import Derived.Lib.Strings
/- The abstract evaluator, part e: lengths, cuts, places, loads. -/
namespace Go.AE
open Go
set_option linter.unusedVariables false
set_option linter.unusedSimpArgs false

variable {P : Program} {φ : Fz} {σ : Sg} {t : Tr} {a : Act} {m m' : Mem} {w : World} {p : Prop} {v : AV}

theorem add_eq (B o n : Nat) : Addr.add ⟨B, o, none⟩ n = ⟨B, o + n, none⟩ := by
  unfold Addr.add; split
  · rename_i h; subst h; rfl
  · rfl

/-! ### eqp -/
theorem isK0_ok {x : AV} {vx : Value} (h : VR φ σ x vx) {b : Bool} (hb : isK 0 x = some b) : ∃ q, vx = .pointer q ∧ b = q.isNone := by
  cases h <;> simp [isK] at hb <;> subst hb <;> exact ⟨_, rfl, rfl⟩
theorem isK1_ok {x : AV} {vx : Value} (h : VR φ σ x vx) {b : Bool} (hb : isK 1 x = some b) : ∃ q, vx = .map q ∧ b = q.isNone := by
  cases h <;> simp [isK] at hb <;> subst hb <;> exact ⟨_, rfl, rfl⟩
theorem isK2_ok {x : AV} {vx : Value} (h : VR φ σ x vx) {b : Bool} (hb : isK 2 x = some b) : (vx = .nilFunc ∧ b = true) ∨ ∃ f y c, vx = .func f y c ∧ b = false := by
  cases h <;> simp [isK] at hb <;> subst hb
  · exact .inl ⟨rfl, rfl⟩
  · exact .inr ⟨_, _, _, rfl, rfl⟩
theorem eqp_cases {k : Nat} {neg : Bool} {x y r : AV} (h : eqp k neg x y = some r) : ∃ b c, isK k x = some b ∧ isK k y = some c ∧ (b || c) = true ∧ r = .bool (bif neg then !(b && c) else b && c) := by
  unfold eqp at h
  split at h <;> first | (cases h; done) | skip
  all_goals rename_i h1 h2
  all_goals cases h
  all_goals refine ⟨_, _, h1, h2, rfl, ?_⟩
  all_goals cases neg <;> rfl

theorem eqGuard_ptr {op : BinOp} {xt : TypeId} {x y : Operand} {va vb : Value} (h : (∃ q, va = .pointer q) ∨ (∃ q, va = .map q) ∨ va = .nilFunc ∨ ∃ f b c, va = .func f b c) :
    (eqGuard op xt x y va vb).run P w = .ok () w := by
  unfold eqGuard
  rcases h with ⟨q, rfl⟩ | ⟨q, rfl⟩ | rfl | ⟨f, b, c, rfl⟩ <;> cases op <;> simp

theorem equal_step {ty : TypeId} {x y : Value} : (Op.equal ty x y).run P w = (Op.equalIn (9999 + 1) ty x y).run P w := rfl

theorem ok_eqp (hI : Inv φ σ m w) (ht : TR φ σ t a.tmps) {o : Oper} {op : BinOp} {xt yt : TypeId} {x y : Operand} {x' y' : Opd} {k : Nat} (ho : o.op = .binOp op xt x y yt) (hop : op = .eql ∨ op = .neq)
    (hu : (k = 0 ∧ ∃ e, P.underlying xt = some (.pointer e)) ∨ (k = 1 ∧ ∃ e f, P.underlying xt = some (.map e f)) ∨ (k = 2 ∧ ∃ e f g, P.underlying xt = some (.func e f g)))
    (hx : cOpd x = some x') (hy : cOpd y = some y')
    (he : ao (.eqp k (op == .neq) x' y') t m = some (p, v, m')) : OpOk P o a φ σ m w v m' := by
  simp only [ao] at he
  split at he
  · rename_i u1 u2 e1 e2
    have h1 := ev_ok ht hx e1
    have h2 := ev_ok ht hy e2
    split at he
    · rename_i r hb
      cases he
      generalize hg1 : a.eval x = vx at *
      generalize hg2 : a.eval y = vy at *
      obtain ⟨b1, b2, k1, k2, hbb, rfl⟩ := eqp_cases hb
      have key : (Op.equal xt vx vy).run P w = .ok (b1 && b2) w ∧ ((∃ q, vx = .pointer q) ∨ (∃ q, vx = .map q) ∨ vx = .nilFunc ∨ ∃ f b c, vx = .func f b c) := by
        rcases hu with ⟨rfl, e, hu⟩ | ⟨rfl, e, f, hu⟩ | ⟨rfl, e, f, g, hu⟩
        · obtain ⟨q1, rfl, rfl⟩ := isK0_ok h1 k1
          obtain ⟨q2, rfl, rfl⟩ := isK0_ok h2 k2
          refine ⟨?_, .inl ⟨_, rfl⟩⟩
          rw [equal_step, Op.equalIn]
          cases q1 <;> cases q2 <;> first | (cases hbb; done) | (simp only [Sem.run_bind, und_run hu, Result.andThen_ok]; rfl)
        · obtain ⟨q1, rfl, rfl⟩ := isK1_ok h1 k1
          obtain ⟨q2, rfl, rfl⟩ := isK1_ok h2 k2
          refine ⟨?_, .inr (.inl ⟨_, rfl⟩)⟩
          rw [equal_step, Op.equalIn]
          cases q1 <;> cases q2 <;> first | (cases hbb; done) | (simp only [Sem.run_bind, und_run hu, Result.andThen_ok]; rfl)
        · rcases isK2_ok h1 k1 with ⟨rfl, rfl⟩ | ⟨f1, y1, c1, rfl, rfl⟩ <;> rcases isK2_ok h2 k2 with ⟨rfl, rfl⟩ | ⟨f2, y2, c2, rfl, rfl⟩ <;> first | (cases hbb; done) | skip
          all_goals refine ⟨?_, by first | exact .inr (.inr (.inl rfl)) | exact .inr (.inr (.inr ⟨_, _, _, rfl⟩))⟩
          all_goals rw [equal_step, Op.equalIn]
          all_goals simp only [Sem.run_bind, und_run hu, Result.andThen_ok]
          all_goals rfl
      obtain ⟨hb', hpt⟩ := key
      generalize (b1 && b2) = b at *
      refine .pure hI (v' := .bool (bif op == .neq then !b else b)) ?_ .bool
      have hbin : (binOp op xt vx vy).run P w = .ok (.bool (bif op == .neq then !b else b)) w := by
        rcases hpt with ⟨q, rfl⟩ | ⟨q, rfl⟩ | rfl | ⟨f, b', c, rfl⟩ <;> rcases hop with rfl | rfl <;>
          (simp only [binOp, Sem.run_bind, hb', Result.andThen_ok]; rfl)
      simp only [execOp, ho, Sem.run_bind, hg1, hg2, eqGuard_ptr hpt, Result.andThen_ok, hbin]
      rfl
    · cases he
  · cases he

/-! ### lengths, greatest, least -/
theorem run_builtin {o : Oper} {c : Call} {b : Builtin} (ho : o.op = .call c) (hc : c.callee = .builtin b) :
    ∃ cs, (execOp a.eval o).run P w = (builtin b c.argTypes o.type cs (c.args.map a.eval)).run P w := by
  refine ⟨c.args.map fun | .const _ => true | _ => false, ?_⟩
  simp only [execOp, ho, resolve, hc, invoke, pure_bind]
  rfl
theorem args_map {xs : Array Operand} {l : List Value} (h : xs.toList.map a.eval = l) : xs.map a.eval = l.toArray := by
  cases xs; simp at h; simp [h]

theorem ok_len (hI : Inv φ σ m w) (ht : TR φ σ t a.tmps) {o : Oper} {c : Call} {s : Bool} {y : Opd} {ty : TypeId} (ho : o.op = .call c) (hc : c.callee = .builtin .len)
    (hx : cOpds c.args.toList = some [y]) (hty : c.argTypes[0]? = some ty) (hu : (s = true ∧ P.underlying ty = some .string) ∨ (s = false ∧ ∃ e, P.underlying ty = some (.slice e)))
    (he : ao (.len s y) t m = some (p, v, m')) : OpOk P o a φ σ m w v m' := by
  simp only [ao] at he
  split at he
  · rename_i u hu'
    split at he
    · rename_i r hr
      cases he
      have hvs := evs_ok ht hx (vs := [u]) (by simp [evs, hu'])
      generalize hg : c.args.toList.map a.eval = l at hvs
      cases hvs with
      | cons hv hnil =>
        rename_i v0 _
        cases hnil
        have harg := args_map hg
        have key : ∃ z, (Builtin.len_ c.argTypes o.type #[v0]).run P w = .ok z w ∧ VR φ σ v z := by
          unfold lenA at hr
          rcases hu with ⟨rfl, hu⟩ | ⟨rfl, e, hu⟩
          · split at hr <;> first | (cases hr; done) | skip
            cases hr; cases hv
            refine ⟨_, ?_, .int⟩
            simp [Builtin.len_, hty, und_run hu, goInt, size_mk]
          · split at hr <;> first | (cases hr; done) | skip
            all_goals cases hr
            all_goals cases hv
            all_goals refine ⟨_, ?_, .int⟩
            all_goals simp [Builtin.len_, hty, und_run hu, goInt]
        obtain ⟨z, hz, hvz⟩ := key
        refine .pure hI (v' := z) ?_ hvz
        obtain ⟨cs, hrun⟩ := run_builtin (P := P) (w := w) (a := a) ho hc
        rw [hrun, harg]
        simp only [builtin, Sem.run_bind]
        rw [hz]; rfl
    · cases he
  · cases he

theorem ok_mx (hI : Inv φ σ m w) (ht : TR φ σ t a.tmps) {o : Oper} {c : Call} {ys : List Opd} (ho : o.op = .call c) (hc : c.callee = .builtin .max)
    (hx : cOpds c.args.toList = some ys) (he : ao (.mx ys) t m = some (p, v, m')) : OpOk P o a φ σ m w v m' := by
  simp only [ao] at he
  split at he
  · rename_i l hl
    split at he
    · rename_i r hr
      cases he
      have hvs := evs_ok ht hx hl
      unfold mxI at hr
      split at hr
      · rename_i k x k' y
        split at hr
        · rename_i hk
          cases hr
          have : k = k' := by simpa [kd] using hk
          subst this
          generalize hg : c.args.toList.map a.eval = l at hvs
          cases hvs with
          | cons h1 h2 => cases h1; cases h2 with
            | cons h1 h2 =>
              cases h1; cases h2
              refine .pure hI (v' := .int k (if y > x then y else x)) ?_ .int
              obtain ⟨cs, hrun⟩ := run_builtin (P := P) (w := w) (a := a) ho hc
              rw [hrun, args_map hg]
              simp [builtin, Builtin.max_, Builtin.max2]
        · cases hr
      · cases hr
    · cases he
  · cases he
theorem ok_mn (hI : Inv φ σ m w) (ht : TR φ σ t a.tmps) {o : Oper} {c : Call} {ys : List Opd} (ho : o.op = .call c) (hc : c.callee = .builtin .min)
    (hx : cOpds c.args.toList = some ys) (he : ao (.mn ys) t m = some (p, v, m')) : OpOk P o a φ σ m w v m' := by
  simp only [ao] at he
  split at he
  · rename_i l hl
    split at he
    · rename_i r hr
      cases he
      have hvs := evs_ok ht hx hl
      unfold mnI at hr
      split at hr
      · rename_i k x k' y
        split at hr
        · rename_i hk
          cases hr
          have : k = k' := by simpa [kd] using hk
          subst this
          generalize hg : c.args.toList.map a.eval = l at hvs
          cases hvs with
          | cons h1 h2 => cases h1; cases h2 with
            | cons h1 h2 =>
              cases h1; cases h2
              refine .pure hI (v' := .int k (if y < x then y else x)) ?_ .int
              obtain ⟨cs, hrun⟩ := run_builtin (P := P) (w := w) (a := a) ho hc
              rw [hrun, args_map hg]
              simp [builtin, Builtin.min_, Builtin.min2]
        · cases hr
      · cases hr
    · cases he
  · cases he

/-! ### cuts -/
theorem cOpt_cases {x : Option Operand} {y : Option Opd} (h : cOpt x = some y) : (x = none ∧ y = none) ∨ ∃ x0 y0, x = some x0 ∧ y = some y0 ∧ cOpd x0 = some y0 := by
  cases x with
  | none => simp [cOpt] at h; exact .inl ⟨rfl, h.symm⟩
  | some x0 => simp only [cOpt, Option.map_eq_some_iff] at h; obtain ⟨y0, h1, h2⟩ := h; exact .inr ⟨x0, y0, rfl, h2.symm, h1⟩
theorem sliceBound_run {k : IntKind} {x : Int} {y : Nat} {code : BoundsCode} (h0 : 0 ≤ x) (h1 : x ≤ y) : (Instr.sliceBound (.int k x) y code).run P w = .ok x.toNat w := by
  simp [Instr.sliceBound, asIntOf, h0, h1]
theorem bnds_ok (ht : TR φ σ t a.tmps) {isS : Bool} {len most cap l h : Nat} {lo hi : Option Operand} {lo' hi' : Option Opd} (hlo : cOpt lo = some lo') (hhi : cOpt hi = some hi')
    (hb : bnds len t lo' hi' most = some (p, l, h)) (hp : p) (hm : most ≤ cap) (hl : len ≤ most) :
    (Instr.sliceBounds isS len cap (lo.map a.eval) (hi.map a.eval) none).run P w = .ok (l, h, cap) w ∧ l ≤ h ∧ h ≤ most ∧ (hi' = none → h = len) := by
  rcases cOpt_cases hlo with ⟨rfl, rfl⟩ | ⟨x0, y0, rfl, rfl, hx⟩ <;> rcases cOpt_cases hhi with ⟨rfl, rfl⟩ | ⟨x1, y1, rfl, rfl, hy⟩
  · simp only [bnds] at hb; cases hb
    refine ⟨by simp [Instr.sliceBounds], by omega, by omega, fun _ => rfl⟩
  · simp only [bnds] at hb
    split at hb
    · rename_i k y hy'
      cases hb
      have hv := ev_ok ht hy hy'
      generalize hg : a.eval x1 = vx at hv
      cases hv
      refine ⟨by simp [Instr.sliceBounds, hg, sliceBound_run hp.1 (by omega : y ≤ (cap : Int))], by omega, by omega, fun h => by cases h⟩
    · cases hb
  · simp only [bnds] at hb
    split at hb
    · rename_i k y hy'
      cases hb
      have hv := ev_ok ht hx hy'
      generalize hg : a.eval x0 = vx at hv
      cases hv
      refine ⟨by simp [Instr.sliceBounds, hg, sliceBound_run hp.1 hp.2], by omega, by omega, fun _ => rfl⟩
    · cases hb
  · simp only [bnds] at hb
    split at hb
    · rename_i k x k' y e1 e2
      cases hb
      have hv1 := ev_ok ht hx e1
      have hv2 := ev_ok ht hy e2
      generalize hg1 : a.eval x0 = vx at hv1
      generalize hg2 : a.eval x1 = vy at hv2
      cases hv1; cases hv2
      refine ⟨by simp [Instr.sliceBounds, hg1, hg2, sliceBound_run (x := y) (y := cap) (by omega) (by omega), sliceBound_run (x := x) (y := y.toNat) hp.1 (by omega)], by omega, by omega, fun h => by cases h⟩
    · cases hb
theorem bnds3_ok (ht : TR φ σ t a.tmps) {len cap l h : Nat} {lo hi : Option Operand} {mx : Operand} {lo' hi' : Option Opd} {mx' : Opd} {k : IntKind} {z : Int} (hlo : cOpt lo = some lo') (hhi : cOpt hi = some hi') (hn : hi' ≠ none)
    (hmx : cOpd mx = some mx') (hz : ev t mx' = some (.int k z))
    (hb : bnds len t lo' hi' z.toNat = some (p, l, h)) (hp : p) (h0 : 0 ≤ z) (hm : z ≤ cap) :
    (Instr.sliceBounds true len cap (lo.map a.eval) (hi.map a.eval) (some (a.eval mx))).run P w = .ok (l, h, z.toNat) w ∧ l ≤ h ∧ h ≤ z.toNat := by
  have hvz := ev_ok ht hmx hz
  generalize hgz : a.eval mx = vz at hvz
  cases hvz
  rcases cOpt_cases hhi with ⟨rfl, rfl⟩ | ⟨x1, y1, rfl, rfl, hy⟩
  · exact absurd rfl hn
  rcases cOpt_cases hlo with ⟨rfl, rfl⟩ | ⟨x0, y0, rfl, rfl, hx⟩
  · simp only [bnds] at hb
    split at hb
    · rename_i k y hy'
      cases hb
      have hv := ev_ok ht hy hy'
      generalize hg : a.eval x1 = vx at hv
      cases hv
      refine ⟨by simp [Instr.sliceBounds, hg, sliceBound_run h0 hm, sliceBound_run (x := y) (y := z.toNat) hp.1 (by omega)], by omega, by omega⟩
    · cases hb
  · simp only [bnds] at hb
    split at hb
    · rename_i k x k' y e1 e2
      cases hb
      have hv1 := ev_ok ht hx e1
      have hv2 := ev_ok ht hy e2
      generalize hg1 : a.eval x0 = vx at hv1
      generalize hg2 : a.eval x1 = vy at hv2
      cases hv1; cases hv2
      refine ⟨by simp [Instr.sliceBounds, hg1, hg2, sliceBound_run h0 hm, sliceBound_run (x := y) (y := z.toNat) (by omega) (by omega), sliceBound_run (x := x) (y := y.toNat) hp.1 (by omega)], by omega, by omega⟩
    · cases hb

theorem extract_mk (s : List UInt8) (l h : Nat) : (⟨s.toArray⟩ : ByteArray).extract l h = ⟨(ssub s l h).toArray⟩ := by
  apply ByteArray.ext
  apply Array.ext'
  rw [Lib.extract_data]; simp [ssub]

theorem ok_ssl (hI : Inv φ σ m w) (ht : TR φ σ t a.tmps) {o : Oper} {ty : TypeId} {x : Operand} {lo hi : Option Operand} {x' : Opd} {lo' hi' : Option Opd} (ho : o.op = .slice ty x lo hi none) (hx : cOpd x = some x')
    (hlo : cOpt lo = some lo') (hhi : cOpt hi = some hi') (hu : P.underlying ty = some .string) (he : ao (.ssl x' lo' hi') t m = some (p, v, m')) (hp : p) : OpOk P o a φ σ m w v m' := by
  simp only [ao] at he
  split at he
  · rename_i s e1
    have h1 := ev_ok ht hx e1
    split at he
    · rename_i q l h hb
      cases he
      generalize hg : a.eval x = vx at h1
      cases h1
      obtain ⟨hr, _⟩ := bnds_ok (P := P) (w := w) (a := a) (isS := false) ht hlo hhi hb hp (Nat.le_refl _) (Nat.le_refl _)
      refine .pure hI (v' := .string ⟨(ssub s l h).toArray⟩) ?_ .str
      rw [← extract_mk]
      simp [execOp, ho, hg, Instr.sliceAt, Instr.slice, und_run hu, size_mk, hr]
    · cases he
  · cases he

theorem isRow_ok (hI : Inv φ σ m w) {b sz : Nat} (h : isRow m b sz = true) : ∃ xs, mg m b = .row sz xs ∧ m[b]? = some (.row sz xs) := by
  unfold isRow at h
  split at h
  · rename_i s xs e
    have : s = sz := by simpa using h
    subst this
    exact ⟨xs, e, mg_get e rfl⟩
  · cases h
theorem row_sz (hI : Inv φ σ m w) {b sz : Nat} {xs : List (List AV)} {img : Img} (h : m[b]? = some (.row sz xs)) (hi : σ b = some img) : img.sz = sz := by
  have := hI.blk b _ h
  rw [hi] at this
  rcases this with ⟨_, e⟩ | ⟨img', c, e, fr, e1, e2, _⟩
  · cases e
  · cases e1; exact e2

theorem slice_adv {B o l m s : Nat} : (if m = l then some (⟨B, o, none⟩ : Addr) else (some (⟨B, o, none⟩ : Addr)).map (·.add (l * s))) = some ⟨B, if m = l then o else o + l * s, none⟩ := by
  split <;> simp [add_eq]

theorem sub_len {xs : List (List AV)} {l n : Nat} (h : l + n ≤ xs.length) : (sub xs l n).length = n := by
  simp [sub]; omega
theorem sub_get {xs : List (List AV)} {l n i : Nat} {x : List AV} (h : (sub xs l n)[i]? = some x) : xs[l + i]? = some x := by
  simp only [sub] at h
  rw [List.getElem?_take] at h
  split at h
  · simpa using h
  · cases h

theorem ok_lsl (hI : Inv φ σ m w) (ht : TR φ σ t a.tmps) {o : Oper} {ty e : TypeId} {sz : Nat} {x : Operand} {lo hi mx : Option Operand} {x' : Opd} {lo' hi' mx' : Option Opd} (ho : o.op = .slice ty x lo hi mx) (hx : cOpd x = some x')
    (hlo : cOpt lo = some lo') (hhi : cOpt hi = some hi') (hmx : cOpt mx = some mx') (hu : P.underlying ty = some (.slice e)) (hsz : szT P e = some sz)
    (he : ao (.lsl sz x' lo' hi' mx') t m = some (p, v, m')) (hp : p) : OpOk P o a φ σ m w v m' := by
  simp only [ao] at he
  split at he
  · rename_i u hu'
    have hv := ev_ok ht hx hu'
    generalize hg : a.eval x = vx at hv
    split at he
    · rename_i q r hr
      cases he
      have run : ∀ {A : Option Addr} {len cap l h m0 : Nat}, vx = .slice A len cap → (Instr.sliceBounds true len cap (lo.map a.eval) (hi.map a.eval) (mx.map a.eval)).run P w = .ok (l, h, m0) w →
          (execOp a.eval o).run P w = .ok (.value (.slice (if m0 = l then A else A.map (·.add (l * sz))) (h - l) (m0 - l))) w := by
        intro A len cap l h m0 hvx hb
        subst hvx
        simp [execOp, ho, hg, Instr.sliceAt, Instr.slice, und_run hu, hb, size_run hsz]
      unfold lslA at hr
      split at hr
      · -- empty
        rename_i hx0
        cases hv
        rename_i A
        rcases cOpt_cases hmx with ⟨rfl, rfl⟩ | ⟨x0, y0, rfl, rfl, hx⟩
        · dsimp only at hr
          split at hr
          · rename_i q l h hb
            cases hr
            obtain ⟨hb', h1, h2, h3⟩ := bnds_ok (P := P) (w := w) (a := a) (isS := true) (cap := 0) ht hlo hhi hb hp (Nat.le_refl _) (Nat.le_refl _)
            have : l = 0 := by omega
            have : h = 0 := by omega
            subst l; subst h
            exact .pure hI (run rfl hb') .nilsl
          · cases hr
        · cases hr
      · -- a slice that nobody writes
        rename_i s xs tight
        split at hr
        · cases hr
        · rename_i hs
          have : s = sz := by simpa using hs
          subst this
          split at hr
          · -- two bounds
            rename_i hmx0 _
            rcases cOpt_cases hmx with ⟨rfl, _⟩ | ⟨x0, y0, _, e0, _⟩
            rotate_left
            · cases e0
            split at hr
            · rename_i q l h hb
              cases hr
              cases hv with
              | vsl hφ hbn hon hxx hc htt =>
                rename_i B o0 c e fr cap'
                obtain ⟨hb', h1, h2, h3⟩ := bnds_ok (P := P) (w := w) (a := a) (isS := true) (cap := cap') ht hlo hhi hb hp hc (Nat.le_refl _)
                refine .pure hI (run rfl hb') ?_
                rw [slice_adv]
                have hlen : (sub xs l (h - l)).length = h - l := sub_len (by omega)
                have hmul : l * s + (h - l) * s ≤ xs.length * s := by rw [← Nat.add_mul]; exact Nat.mul_le_mul_right _ (by omega)
                by_cases hcl : cap' = l
                · rw [if_pos hcl]
                  have : h - l = 0 := by omega
                  have hnil : sub xs l (h - l) = [] := by rw [this]; simp [sub]
                  rw [hnil, this, show cap' - l = 0 by omega]
                  exact .vsl0
                · rw [if_neg hcl]
                  have := VR.vsl (φ := φ) (σ := σ) (sz := s) (xs := sub xs l (h - l)) (tight := tgt hi' tight) (B := B) (o := o0 + l * s) (cap' := cap' - l) hφ (by rw [hlen]; omega) (fun p u p1 p2 pu => hon p u (by omega) (by rw [hlen] at p2; omega) pu)
                    (fun i x hx => by
                      have := hxx (l + i) x (sub_get hx)
                      rw [show o0 + l * s + i * s = o0 + (l + i) * s by rw [Nat.add_mul]; omega]
                      exact this) (by rw [hlen]; omega) (by
                      cases hi' with
                      | none => intro htt'; have := htt htt'; have := h3 rfl; rw [hlen]; omega
                      | some _ => intro h; cases h)
                  rw [hlen] at this
                  exact this
              | vsl0 =>
                obtain ⟨hb', h1, h2, h3⟩ := bnds_ok (P := P) (w := w) (a := a) (isS := true) (cap := 0) ht hlo hhi hb hp (Nat.le_refl _) (Nat.le_refl _)
                have : l = 0 := by simp at h2; omega
                have : h = 0 := by simp at h2; omega
                subst l; subst h
                refine .pure hI (run rfl hb') ?_
                simp [sub]
                exact .vsl0
            · cases hr
          · -- three bounds
            rename_i mx0 hi0 _
            rcases cOpt_cases hmx with ⟨_, e0⟩ | ⟨x0, y0, rfl, e0, hmx0⟩
            · cases e0
            cases e0
            split at hr
            · rename_i k z hz
              split at hr
              · rename_i q l h hb
                cases hr
                obtain ⟨hp1, hp2, hp3, hp4⟩ := hp
                cases hv with
                | vsl hφ hbn hon hxx hc htt =>
                  rename_i B o0 c e fr cap'
                  obtain ⟨hb', h1, h2⟩ := bnds3_ok (P := P) (w := w) (a := a) (cap := cap') ht hlo hhi (by simp) hmx0 hz hb hp1 hp2 (by omega)
                  refine .pure hI (run rfl hb') ?_
                  rw [slice_adv]
                  have hlen : (sub xs l (h - l)).length = h - l := sub_len (by omega)
                  have hmul : l * s + (h - l) * s ≤ xs.length * s := by rw [← Nat.add_mul]; exact Nat.mul_le_mul_right _ (by omega)
                  by_cases hcl : z.toNat = l
                  · rw [if_pos hcl]
                    have : h - l = 0 := by omega
                    have hnil : sub xs l (h - l) = [] := by rw [this]; simp [sub]
                    rw [hnil, this, show z.toNat - l = 0 by omega]
                    exact .vsl0
                  · rw [if_neg hcl]
                    have := VR.vsl (φ := φ) (σ := σ) (sz := s) (xs := sub xs l (h - l)) (tight := true) (B := B) (o := o0 + l * s) (cap' := z.toNat - l) hφ (by rw [hlen]; omega) (fun p u p1 p2 pu => hon p u (by omega) (by rw [hlen] at p2; omega) pu)
                      (fun i x hx => by
                        have := hxx (l + i) x (sub_get hx)
                        rw [show o0 + l * s + i * s = o0 + (l + i) * s by rw [Nat.add_mul]; omega]
                        exact this) (by rw [hlen]; omega) (fun _ => by rw [hlen]; omega)
                    rw [hlen] at this
                    exact this
                | vsl0 =>
                  obtain ⟨hb', h1, h2⟩ := bnds3_ok (P := P) (w := w) (a := a) (cap := 0) ht hlo hhi (by simp) hmx0 hz hb hp1 hp2 (by simp at hp3; omega)
                  simp at hp3
                  have : l = 0 := by omega
                  have : h = 0 := by omega
                  subst l; subst h
                  refine .pure hI (run rfl hb') ?_
                  have : z.toNat = 0 := by omega
                  rw [this]
                  simp [sub]
                  exact .vsl0
              · cases hr
            · cases hr
          · cases hr
      · -- one's own
        rename_i b i n c tight
        split at hr
        · cases hr
        · rename_i hs
          obtain ⟨xs, _, hrow⟩ := isRow_ok hI hs
          split at hr
          · rename_i hmx0 _
            rcases cOpt_cases hmx with ⟨rfl, _⟩ | ⟨x0, y0, _, e0, _⟩
            rotate_left
            · cases e0
            split at hr
            · rename_i q l h hb
              cases hr
              cases hv with
              | sl hσ h1 h2 h3 h4 =>
                rename_i cap' img
                have hisz := row_sz hI hrow hσ
                obtain ⟨hb', g1, g2, g3⟩ := bnds_ok (P := P) (w := w) (a := a) (isS := true) (cap := cap') ht hlo hhi hb hp h2 h1
                refine .pure hI (run rfl hb') ?_
                rw [slice_adv]
                by_cases hcl : cap' = l
                · rw [if_pos hcl, show cap' - l = 0 by omega, show c - l = 0 by omega, show h - l = 0 by omega]
                  exact .sl0
                · rw [if_neg hcl]
                  have := VR.sl (φ := φ) (σ := σ) (b := b) (i := i + l) (len := h - l) (cap := c - l) (cap' := cap' - l) (tight := tight) hσ (by omega) (by omega) (fun e => by have := h3 e; omega)
                    (by rw [show i + l + (cap' - l) = i + cap' by omega]; exact h4)
                  rw [Nat.add_mul, ← Nat.add_assoc] at this
                  rw [← hisz]
                  exact this
              | sl0 =>
                obtain ⟨hb', g1, g2, g3⟩ := bnds_ok (P := P) (w := w) (a := a) (isS := true) (cap := 0) ht hlo hhi hb hp (Nat.le_refl _) (Nat.le_refl _)
                have : l = 0 := by omega
                have : h = 0 := by omega
                subst l; subst h
                refine .pure hI (run rfl hb') ?_
                simp
                exact .sl0
            · cases hr
          · rename_i mx0 hi0 _
            rcases cOpt_cases hmx with ⟨_, e0⟩ | ⟨x0, y0, rfl, e0, hmx0⟩
            · cases e0
            cases e0
            split at hr
            · rename_i k z hz
              split at hr
              · rename_i q l h hb
                cases hr
                obtain ⟨hp1, hp2, hp3⟩ := hp
                cases hv with
                | sl hσ h1 h2 h3 h4 =>
                  rename_i cap' img
                  have hisz := row_sz hI hrow hσ
                  obtain ⟨hb', g1, g2⟩ := bnds3_ok (P := P) (w := w) (a := a) (cap := cap') ht hlo hhi (by simp) hmx0 hz hb hp1 hp2 (by omega)
                  refine .pure hI (run rfl hb') ?_
                  rw [slice_adv]
                  by_cases hcl : z.toNat = l
                  · rw [if_pos hcl, show z.toNat - l = 0 by omega, show h - l = 0 by omega]
                    exact .sl0
                  · rw [if_neg hcl]
                    have := VR.sl (φ := φ) (σ := σ) (b := b) (i := i + l) (len := h - l) (cap := z.toNat - l) (cap' := z.toNat - l) (tight := true) hσ (by omega) (by omega) (fun e => rfl)
                      (Nat.le_trans (Nat.add_le_add_left (Nat.mul_le_mul_right _ (by omega : i + l + (z.toNat - l) ≤ i + cap')) _) h4)
                    rw [Nat.add_mul, ← Nat.add_assoc] at this
                    rw [← hisz]
                    exact this
                | sl0 =>
                  obtain ⟨hb', g1, g2⟩ := bnds3_ok (P := P) (w := w) (a := a) (cap := 0) ht hlo hhi (by simp) hmx0 hz hb hp1 hp2 hp3
                  have : z.toNat = 0 := by omega
                  have : l = 0 := by omega
                  have : h = 0 := by omega
                  subst l; subst h
                  refine .pure hI (run rfl hb') ?_
                  rw [‹z.toNat = 0›]
                  simp
                  exact .sl0
              · cases hr
            · cases hr
          · cases hr
      · -- over an array of one's own
        rename_i b j i n c
        split at hr
        · cases hr
        · rename_i hs
          have hs1 : sz = 1 := by simpa using hs
          rcases cOpt_cases hmx with ⟨rfl, rfl⟩ | ⟨x0, y0, rfl, rfl, _⟩
          · dsimp only at hr
            split at hr
            · rename_i q l h hb
              cases hr
              cases hv with
              | asl hσ h1 h2 h4 =>
                rename_i cap' img
                obtain ⟨hb', g1, g2, g3⟩ := bnds_ok (P := P) (w := w) (a := a) (isS := true) (cap := cap') ht hlo hhi hb hp h2 h1
                refine .pure hI (run rfl hb') ?_
                rw [slice_adv, hs1]
                by_cases hcl : cap' = l
                · rw [if_pos hcl, show cap' - l = 0 by omega, show c - l = 0 by omega, show h - l = 0 by omega]
                  exact .asl0
                · rw [if_neg hcl]
                  have := VR.asl (φ := φ) (σ := σ) (b := b) (j := j) (i := i + l) (len := h - l) (cap := c - l) (cap' := cap' - l) hσ (by omega) (by omega) (by omega)
                  rw [show img.o + (j + (i + l)) = img.o + (j + i) + l * 1 by omega] at this
                  exact this
              | asl0 =>
                obtain ⟨hb', g1, g2, g3⟩ := bnds_ok (P := P) (w := w) (a := a) (isS := true) (cap := 0) ht hlo hhi hb hp (Nat.le_refl _) (Nat.le_refl _)
                have : l = 0 := by omega
                have : h = 0 := by omega
                subst l; subst h
                refine .pure hI (run rfl hb') ?_
                simp
                exact .asl0
            · cases hr
          · cases hr
      · cases hr
    · cases he
  · cases he
end Go.AE
