/- The abstract evaluator: AEh in one. -/
import Derived.Test.YthdkobfafncpcaaDoorAEg
import Derived.Laws.BytesArg
import Derived.Lib.ConvBytes
import Derived.Laws.MakeOwn
import Derived.Laws.Tables
/- The abstract evaluator, part h: what is made: structs, variables, rows, strings of bytes and back. -/
namespace Go.AE
open Go
set_option linter.unusedVariables false
set_option linter.unusedSimpArgs false

variable {P : Program} {φ : Fz} {σ : Sg} {t : Tr} {a : Act} {m m' : Mem} {w : World} {p : Prop} {v : AV}

theorem foldl_splice : ∀ (vs : List Value) (k off : Nat) (c : Array Value), off + k + vs.length ≤ c.size →
    ((vs.zipIdx k).foldl (fun cs (x : Value × Nat) => cs.setIfInBounds (off + x.2) x.1) c).toList = splice c.toList (off + k) vs
  | [], k, off, c, h => by simp [splice]
  | v :: vs, k, off, c, h => by
    have h' : off + (k + 1) + vs.length ≤ (c.setIfInBounds (off + k) v).size := by simp at h ⊢; omega
    simp only [List.zipIdx_cons, List.foldl_cons]
    rw [foldl_splice vs (k + 1) off _ h']
    have hlen : off + k + (v :: vs).length ≤ c.toList.length := by simpa using h
    have hlen' : off + (k + 1) + vs.length ≤ (c.setIfInBounds (off + k) v).toList.length := by simpa using h'
    have hlt : off + k < c.size := by simp at h; omega
    apply List.ext_getElem?
    intro j
    rw [splice_get hlen', splice_get hlen]
    by_cases e1 : j = off + k
    · subst e1
      rw [if_neg (by omega), if_pos (by simp)]
      simp [hlt]
    · by_cases e2 : off + (k + 1) ≤ j ∧ j < off + (k + 1) + vs.length
      · rw [if_pos e2, if_pos (by simp; omega), show j - (off + k) = (j - (off + (k + 1))) + 1 by omega]; simp
      · rw [if_neg e2, if_neg (by simp; omega)]
        simp [List.getElem?_set_ne (Ne.symm e1)]

theorem splice_ok {cs r vs : List AV} {us ws : List Value} {j : Nat} (h : lput cs j vs = some r) (hv : VRs φ σ cs us) (hw : VRs φ σ vs ws) (hle : j + vs.length ≤ cs.length) :
    VRs φ σ r (splice us j ws) := by
  have hl := lput_len h
  have hws := hw.length
  have hus := hv.length
  have hsl : j + ws.length ≤ us.length := by omega
  refine VRs.of_get (by rw [splice_len hsl, hl.1, hus]) fun n a b ha hb => ?_
  rw [lput_get h] at ha
  rw [splice_get hsl, ← hws] at hb
  by_cases hin : j ≤ n ∧ n < j + vs.length
  · rw [if_pos hin] at ha hb
    obtain ⟨b', hb', hr⟩ := hw.get ha
    rw [hb'] at hb; cases hb; exact hr
  · rw [if_neg hin] at ha hb
    obtain ⟨b', hb', hr⟩ := hv.get ha
    rw [hb'] at hb; cases hb; exact hr

theorem fill_ok (ht : TR φ σ t a.tmps) {pl : Nat → Option (Nat × Nat)} : ∀ {parts : List (Nat × Operand)} {ps : List (Nat × Nat × Opd)} {z cs : List AV} {zc : Array Value},
    cParts pl parts = some ps → bputs z ps t = some cs → VRs φ σ z zc.toList →
    ∃ c : Array Value, Instr.fill pl zc (parts.map fun x => (x.1, a.eval x.2)) = some c ∧ VRs φ σ cs c.toList
  | [], ps, z, cs, zc, hp, hb, hz => by simp [cParts] at hp; subst hp; simp [bputs] at hb; subst hb; exact ⟨zc, rfl, hz⟩
  | (i, x) :: r, ps, z, cs, zc, hp, hb, hz => by
    simp only [cParts] at hp
    split at hp
    · rename_i o n y ys e1 e2 e3
      cases hp
      simp only [bputs] at hb
      split at hb
      · rename_i v hv
        split at hb
        · rename_i hn
          simp only [Bool.and_eq_true, beq_iff_eq] at hn
          obtain ⟨⟨hn0, hn⟩, hone⟩ := hn
          have hn0 : 0 < n := nz_pos hn0
          split at hb
          · rename_i z' hz'
            have hvr := ev_ok ht e2 hv
            have hcs := cells_ok hvr
            have hle := lput_le hz' (by omega)
            have hsz : (a.eval x).cells.size = n := by rw [hn, hcs.length]; simp
            have hzl : z.length = zc.size := by simpa using hz.length
            have hfs := foldl_splice (a.eval x).cells.toList 0 o zc (by simp; omega)
            have hnew := splice_ok hz' hz hcs hle
            obtain ⟨c, h1, h2⟩ := fill_ok ht (zc := (a.eval x).cells.zipIdx.foldl (fun cs (x : Value × Nat) => cs.setIfInBounds (o + x.2) x.1) zc) e3 hb (by
              rw [← Array.foldl_toList, Array.toList_zipIdx, hfs]; exact hnew)
            refine ⟨c, ?_, h2⟩
            simp only [List.map_cons, Instr.fill, e1]
            rw [if_neg]
            · exact h1
            · simp; omega
          · cases hb
        · cases hb
      · cases hb
    · cases hp

theorem zeroT_ok {ty : TypeId} {z : List AV} (h : zeroT P ty = some z) : ∃ i zv, P.info? ty = some i ∧ i.zero = some zv ∧ ∀ (φ : Fz) (σ : Sg), VRs φ σ z zv.cells.toList := by
  unfold zeroT at h
  cases hi : P.info? ty with
  | none => simp [hi] at h
  | some i =>
    cases hz : i.zero with
    | none => simp [hi, hz] at h
    | some zv =>
      simp [hi, hz] at h
      exact ⟨i, zv, rfl, hz, fun φ σ => ofVs_ok φ σ 300 _ _ h⟩

theorem ok_build (hI : Inv φ σ m w) (ht : TR φ σ t a.tmps) {o : Oper} {ty : TypeId} {parts : Array (Nat × Operand)} {ps : List (Nat × Nat × Opd)} {z : List AV} {pl : Nat → Option (Nat × Nat)} (ho : o.op = .build ty parts)
    (hz : zeroT P ty = some z) (hp : cParts pl parts.toList = some ps)
    (hpl : (∃ fs places, P.underlying ty = some (.struct fs) ∧ fs.toList.mapM (fun f => (P.info? f.type).map fun i => (f.offset, i.size)) = some places ∧ pl = fun i => places[i]?) ∨
      (∃ k e n, P.underlying ty = some (.array k e) ∧ szT P e = some n ∧ pl = fun i => some (i * n, n)))
    (he : ao (.build z ps) t m = some (p, v, m')) : OpOk P o a φ σ m w v m' := by
  simp only [ao] at he
  split at he
  · rename_i cs hcs
    cases he
    obtain ⟨it, zv, hi, hzv, hzr⟩ := zeroT_ok hz
    obtain ⟨c, h1, h2⟩ := fill_ok ht hp hcs (hzr φ σ)
    have hb : P.built ty (parts.toList.map fun x => (x.1, a.eval x.2)) = some c := by
      unfold Program.built
      rcases hpl with ⟨fs, places, hu, hpl, rfl⟩ | ⟨k, e, n, hu, hn, rfl⟩
      · simp only [hi, hu, hzv, hpl]
        simpa using h1
      · unfold szT at hn
        cases hie : P.info? e with
        | none => simp [hie] at hn
        | some ie =>
          simp [hie] at hn
          subst hn
          simp only [hi, hu, hzv, hie]
          exact h1
    have hrun := run_build (P := P) w ty (parts.map fun x => (x.1, a.eval x.2)) c (by simpa using hb)
    refine .pure hI (v' := .agg c) ?_ (by cases c; exact .agg h2)
    simp only [execOp, ho, Sem.run_bind]
    rw [show (parts.map fun (x : Nat × Operand) => match x with | (i, x) => (i, a.eval x)) = (parts.map fun x => (x.1, a.eval x.2)) from rfl, hrun]
    rfl
  · cases he

theorem box_ok (hI : Inv φ σ m w) {cs : List AV} {c : Array Value} {e : TypeId} (h : VRs φ σ cs c.toList) :
    ∃ φ' σ', Stp φ σ m w φ' σ' (m ++ [.box cs]) (w.alloc (.cells c e)) ∧ VR φ' σ' (.pbox m.length 0) (.pointer (some ⟨w.heap.size, 0, none⟩)) := by
  have hfr := hI.fresh m.length (Nat.le_refl _)
  have hle : σ.le (σ.upd m.length (some ⟨w.heap.size, 0, 0, c.size⟩)) := Sg.upd_le hfr
  refine ⟨φ, σ.upd m.length (some ⟨w.heap.size, 0, 0, c.size⟩), hI.alloc (m1 := m) (.box cs) (some ⟨w.heap.size, 0, 0, c.size⟩) (fun i hi => by cases hi; rfl) (fun B hB => alloc_old hB) (by simp) ⟨rfl, rfl, rfl⟩ rfl (fun _ _ h _ => h) ?_, ?_⟩
  · exact ⟨_, c, e, (0, 0), rfl, rfl, alloc_new, rfl, h.mono (Fz.le_refl _) hle, fun p _ => by simp⟩
  · have : (σ.upd m.length (some ⟨w.heap.size, 0, 0, c.size⟩)) m.length = some ⟨w.heap.size, 0, 0, c.size⟩ := by simp [Sg.upd]
    exact .pbox this

theorem ok_alloc (hI : Inv φ σ m w) {o : Oper} {e : TypeId} {cs : List AV} (ho : o.op = .alloc e) (hz : zeroT P e = some cs) (he : ao (.alloc cs) t m = some (p, v, m')) : OpOk P o a φ σ m w v m' := by
  simp only [ao] at he
  cases he
  obtain ⟨it, zv, hi, hzv, hzr⟩ := zeroT_ok hz
  obtain ⟨φ', σ', h1, h2⟩ := box_ok (e := e) hI (hzr φ σ)
  refine ⟨_, _, φ', σ', .inl ?_, h1, h2⟩
  simp [execOp, ho, Instr.alloc, zeroValue, typeInfo, hi, hzv, newVar, newRow]
theorem ok_box (hI : Inv φ σ m w) (ht : TR φ σ t a.tmps) {o : Oper} {e : TypeId} {x : Operand} {y : Opd} (ho : o.op = .box e x) (hx : cOpd x = some y) (he : ao (.box y) t m = some (p, v, m')) : OpOk P o a φ σ m w v m' := by
  simp only [ao] at he
  split at he
  · rename_i u hu
    cases he
    obtain ⟨φ', σ', h1, h2⟩ := box_ok (e := e) hI (cells_ok (ev_ok ht hx hu))
    refine ⟨_, _, φ', σ', .inl ?_, h1, h2⟩
    simp [execOp, ho, Instr.box, newVar, newRow]
  · cases he

theorem ok_mkmap (hI : Inv φ σ m w) {o : Oper} {ty : TypeId} (ho : o.op = .makeMap ty none) (he : ao .mkmap t m = some (p, v, m')) : OpOk P o a φ σ m w v m' := by
  simp only [ao] at he
  cases he
  have hfr := hI.fresh m.length (Nat.le_refl _)
  refine ⟨.map (some w.heap.size), w.alloc (.map #[] 0), φ, σ.upd m.length (some ⟨w.heap.size, 0, 0, 0⟩), .inl (by simp [execOp, ho, Instr.makeMap]),
    hI.alloc (m1 := m) (.map []) (some ⟨w.heap.size, 0, 0, 0⟩) (fun i hi => by cases hi; rfl) (fun B hB => alloc_old hB) (by simp) ⟨rfl, rfl, rfl⟩ rfl (fun _ _ h _ => h) ?_, ?_⟩
  · exact ⟨_, #[], 0, rfl, alloc_new, .nil, by simp, by simp⟩
  · have : (σ.upd m.length (some ⟨w.heap.size, 0, 0, 0⟩)) m.length = some ⟨w.heap.size, 0, 0, 0⟩ := by simp [Sg.upd]
    exact .map this

theorem row_ok (hI : Inv φ σ m w) {m1 : Mem} {w' : World} {sz n : Nat} {xs : List (List AV)} {c : Array Value} {e : TypeId} {fr : Nat × Nat} {cap : Nat}
    (hold : ∀ B, B < w.heap.size → w'.heap[B]? = w.heap[B]?) (hsz : w.heap.size ≤ w'.heap.size) (henv : Env w w') (hnew : w'.heap[w.heap.size]? = some (.cells c e fr)) (hpl : Plain fr c.size)
    (hm1 : m1.length = m.length) (hg : ∀ (b : Nat) (l : Blk), m1[b]? = some l → l.owned = true → m[b]? = some l)
    (hn : n = xs.length) (hcap : n ≤ cap) (hc : c.size = cap * sz)
    (hon : Ones c 0 (xs.length * sz)) (hx : ∀ i x, xs[i]? = some x → VRs φ noS x ((c.toList.drop (i * sz)).take sz)) :
    ∃ φ' σ', Stp φ σ m w φ' σ' (m1 ++ [.row sz xs]) w' ∧ ∀ (i k cp : Nat) (tight : Bool), k ≤ cp → i + cap = cap → cp ≤ cap → (tight = true → cap = cp) → VR φ' σ' (.sl m.length 0 k cp tight) (.slice (some ⟨w.heap.size, 0, none⟩) k cap) := by
  have hfr := hI.fresh m.length (Nat.le_refl _)
  have hle : σ.le (σ.upd m.length (some ⟨w.heap.size, 0, sz, c.size⟩)) := Sg.upd_le hfr
  have hmul : xs.length * sz ≤ cap * sz := Nat.mul_le_mul_right _ (by omega)
  refine ⟨φ, σ.upd m.length (some ⟨w.heap.size, 0, sz, c.size⟩), hI.alloc (m1 := m1) (.row sz xs) (some ⟨w.heap.size, 0, sz, c.size⟩) (fun i hi => by cases hi; rfl) hold hsz henv hm1 hg ?_, ?_⟩
  · refine .inr ⟨_, c, e, fr, rfl, rfl, hnew, rfl, by simp only [Nat.zero_add]; omega, by simp only [Nat.zero_add]; exact hon, fun i x hx' => by simp only [Nat.zero_add]; exact hx i x hx', hpl⟩
  · intro i k cp tight h1 h2 h3 h4
    have : (σ.upd m.length (some ⟨w.heap.size, 0, sz, c.size⟩)) m.length = some ⟨w.heap.size, 0, sz, c.size⟩ := by simp [Sg.upd]
    have := VR.sl (φ := φ) (b := m.length) (i := 0) (len := k) (cap := cp) (cap' := cap) (tight := tight) this h1 h3 h4 (by simp only [Nat.zero_add]; omega)
    simpa using this
end Go.AE
