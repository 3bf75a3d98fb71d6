/- The abstract evaluator: AEj in one. -/
import Derived.Test.YthdkobfafncpcaaDoorAEi
/- The abstract evaluator, part j: append, []byte(s), string(b), make, literals of slices: the operations. -/
namespace Go.AE
open Go
set_option linter.unusedVariables false
set_option linter.unusedSimpArgs false

variable {P : Program} {φ : Fz} {σ : Sg} {t : Tr} {a : Act} {m m' : Mem} {w : World} {p : Prop} {v : AV}

theorem zeroCells_size {z : Array Value} {n : Nat} : (Builtin.zeroCells z n).size = n * z.size := by simp [Builtin.zeroCells]
theorem gc_le {w : World} {need old : Nat} {e : TypeId} : need ≤ grownCap w need old e := by
  simp only [grownCap, Question.cut]; omega

theorem grow_ok (hI : Inv φ σ m w) {m1 : Mem} {sz : Nat} {xs : List (List AV)} {cl : List Value} {zc : Array Value} {e : TypeId} {n cap cp : Nat} {c : Array Value}
    (hc : c = cl.toArray ++ Builtin.zeroCells zc (cap - n)) (hz : zc.size = sz) (hr : RowsAre φ sz xs cl) (hn : n = xs.length) (hcap : n ≤ cap) (hcp : cp ≤ cap) (hncp : n ≤ cp)
    (hm1 : m1.length = m.length) (hg : ∀ (b : Nat) (l : Blk), m1[b]? = some l → l.owned = true → m[b]? = some l) :
    ∃ φ' σ', Stp φ σ m w φ' σ' (m1 ++ [.row sz xs]) (w.drew.alloc (.cells c e)) ∧ VR φ' σ' (.sl m.length 0 n cp false) (.slice (some ⟨w.heap.size, 0, none⟩) n cap) := by
  have hcs : c.size = cap * sz := by
    rw [hc, Array.size_append, zeroCells_size, hz]
    simp only [List.size_toArray, hr.1, ← hn]
    rw [← Nat.add_mul]; congr 1; omega
  have hlen : n * sz ≤ cap * sz := Nat.mul_le_mul_right _ hcap
  obtain ⟨φ', σ', h1, h2⟩ := row_ok (w' := w.drew.alloc (.cells c e)) (c := c) (e := e) (fr := (0, 0)) (sz := sz) (n := n) (xs := xs) (cap := cap) (m1 := m1) hI
    (fun B hB => by
      have : w.drew.heap[B]? = w.heap[B]? := rfl
      rw [alloc_old (by simpa using hB)]; rfl)
    (by simp) ⟨rfl, rfl, rfl⟩ (by have := alloc_new (w := w.drew) (o := .cells c e); simpa using this) (fun p _ => by simp) hm1 hg hn hcap hcs (fun p u _ p2 pu => by
      have hl : cl.length = xs.length * sz := hr.1
      rw [hc, Array.getElem?_append_left (by simp; omega)] at pu
      exact hr.2.1 u (List.mem_of_getElem? (by simpa using pu))) (fun i x hx => by
      have hi : i < xs.length := by
        rcases Nat.lt_or_ge i xs.length with h | h
        · exact h
        · rw [List.getElem?_eq_none h] at hx; cases hx
      have hm : i * sz + sz ≤ xs.length * sz := by rw [← Nat.succ_mul]; exact Nat.mul_le_mul_right _ hi
      have := hr.2.2 i x hx
      rw [hc, Array.toList_append, List.drop_append_of_le_length (by simp [hr.1]; omega), List.take_append_of_le_length (by simp [hr.1]; omega)]
      simpa using this)
  exact ⟨φ', σ', h1, h2 0 n cp false hncp (by omega) hcp (by simp)⟩

theorem gone_get {b : Nat} : ∀ (c : Nat) (l : Blk), (ms m b .gone)[c]? = some l → l.owned = true → m[c]? = some l := by
  intro c l h hl
  rcases ms_get m b .gone c l h with ⟨_, e⟩ | ⟨_, e⟩
  · subst e; cases hl
  · exact e

theorem ok_app (hI : Inv φ σ m w) (ht : TR φ σ t a.tmps) {o : Oper} {c : Call} {y1 y2 : Opd} {st xt e : TypeId} {i : TypeInfo} {z : List AV} {d : TypeDesc} (ho : o.op = .call c) (hc : c.callee = .builtin .append)
    (hx : cOpds c.args.toList = some [y1, y2]) (h0 : c.argTypes[0]? = some st) (h1 : c.argTypes[1]? = some xt) (hu : P.underlying st = some (.slice e)) (hux : P.underlying xt = some d) (hd : isIntD d = false)
    (hi : P.info? e = some i) (hz : zeroT P e = some z) (hzl : z.length = i.size) (hsz : 0 < i.size) (hb : i.bytes ≤ 1024) (hb0 : 0 < i.bytes)
    (he : ao (.app i.size y1 y2) t m = some (p, v, m')) (hp : p) : OpOk P o a φ σ m w v m' := by
  simp only [ao] at he
  split at he
  rotate_left
  · cases he
  rename_i s x e1 e2
  have hvs := evs_ok ht hx (vs := [s, x]) (by simp [evs, e1, e2])
  generalize hg : c.args.toList.map a.eval = l at hvs
  cases hvs with
  | cons hs hvs => cases hvs with
    | cons hxv hnil =>
      cases hnil
      rename_i vs vx
      have harg := args_map hg
      obtain ⟨cs, hrun⟩ := run_builtin (P := P) (w := w) (a := a) ho hc
      rw [harg] at hrun
      obtain ⟨it, zv, hi', hzv, hzr⟩ := zeroT_ok hz
      rw [hi] at hi'; cases hi'
      have hzs : zv.cells.size = i.size := by rw [← hzl]; simpa using (hzr φ σ).length.symm
      unfold apA at he
      split at he
      · cases he
      rename_i q ys k hel
      have hq : q := by
        split at he
        · cases he; exact hp.1
        · split at he
          · cases he; exact hp.1
          · cases he
        · split at he
          · split at he
            · cases he; exact hp.1
            · cases he
          · cases he
        · cases he
      obtain ⟨hyl, hlen, cl, hfc, hrows⟩ := elems_ok (P := P) hI hxv hel hq
      have hnew := hfc
      have hyk : cl.length = k * i.size := by rw [hrows.1, hyl]
      have fin : ∀ {V : Value} {W : World} {φ' : Fz} {σ' : Sg}, (Builtin.append_ c.argTypes o.type #[vs, vx]).run P w = .ok V W → Stp φ σ m w φ' σ' m' W → VR φ' σ' v V → OpOk P o a φ σ m w v m' := by
        intro V W φ' σ' hr hst hv
        refine ⟨V, W, φ', σ', .inl ?_, hst, hv⟩
        rw [hrun]
        simp only [builtin, Sem.run_bind]
        rw [hr]; rfl
      split at he
      · -- nothing was there
        cases he
        obtain ⟨_, hsm⟩ := hp
        cases hs
        rename_i A
        obtain ⟨r1, r2⟩ := app_run (P := P) (w := w) (ty := o.type) (base := A) (sLen := 0) (sCap := 0) (oldc := #[]) (newc := cl.toArray) hu hi hzv hux hd hlen hnew
          (fun w' _ => by cases A <;> simp [Builtin.firstCells, loadCells, loadCellsFrom]) hb (by simpa [small] using hsm) h0 h1 hb0
        simp only [Nat.zero_add] at r1 r2
        by_cases hk : k ≤ 0
        · have hk0 : k = 0 := by omega
          subst hk0
          have hcl : cl = [] := List.eq_nil_of_length_eq_zero (by rw [hyk]; simp)
          have hys : ys = [] := List.eq_nil_of_length_eq_zero hyl
          have hr := r1 hk w (by subst hcl; cases A <;> simp [storeCells])
          subst hys
          refine fin hr (hI.alloc (m1 := m) (.row i.size []) none (fun _ h => by cases h) (fun _ _ => rfl) (Nat.le_refl _) (Env.refl _) rfl (fun _ _ h _ => h) (.inl ⟨rfl, by simp [Sg.upd]⟩)) .sl0
        · obtain ⟨φ', σ', g1, g2⟩ := grow_ok (m1 := m) (sz := i.size) (xs := ys) (cl := cl) (zc := zv.cells) (e := e) (n := k) (cap := grownCap w k 0 e) (cp := k) hI rfl hzs hrows hyl.symm gc_le gc_le (Nat.le_refl _) rfl (fun _ _ h _ => h)
          have hr := r2 hk
          rw [show (#[] ++ cl.toArray ++ Builtin.zeroCells zv.cells (grownCap w k 0 e - k) : Array Value) = cl.toArray ++ Builtin.zeroCells zv.cells (grownCap w k 0 e - k) by simp] at hr
          exact fin hr g1 g2
      · -- one that nobody writes, without room
        rename_i s0 xs tight
        split at he
        · rename_i htt hs0
          cases he
          have : s0 = i.size := by simpa using hs0
          subst this
          obtain ⟨_, hk0, hsm⟩ := hp
          obtain ⟨hyl', hlen', cl', hfc', hrows'⟩ := elems_ok (P := P) (sz := i.size) (p := True) (ys := xs) (k := xs.length) hI hs (by simp [elems]) trivial
          have hgrow : ∀ {A : Option Addr}, vs = .slice A xs.length xs.length → OpOk P o a φ σ m w (.sl m.length 0 (xs.length + k) (xs.length + k) false) (m ++ [.row i.size (xs ++ ys)]) := by
            intro A hA
            subst hA
            obtain ⟨r1, r2⟩ := app_run (P := P) (w := w) (ty := o.type) (base := A) (sLen := xs.length) (sCap := xs.length) (oldc := cl'.toArray) (newc := cl.toArray) hu hi hzv hux hd hlen hnew
              hfc' hb (by simpa [small] using hsm) h0 h1 hb0
            have hr := r2 (by omega)
            obtain ⟨φ', σ', g1, g2⟩ := grow_ok (m1 := m) (sz := i.size) (xs := xs ++ ys) (cl := cl' ++ cl) (zc := zv.cells) (e := e) (n := xs.length + k) (cap := grownCap w (xs.length + k) xs.length e) (cp := xs.length + k) hI rfl hzs (hrows'.append hrows) (by simp [hyl]) gc_le gc_le (Nat.le_refl _) rfl (fun _ _ h _ => h)
            rw [show (cl'.toArray ++ cl.toArray : Array Value) = (cl' ++ cl).toArray by simp] at hr
            exact fin hr g1 g2
          cases hs with
          | vsl hφ hbb hon hxx hcc htt => exact hgrow (by rw [htt rfl])
          | vsl0 => exact hgrow rfl
        · cases he
      · -- one's own
        rename_i b i0 n c0 tight
        split at he
        · rename_i s0 xs hm
          split at he
          · rename_i hs0
            cases he
            have : s0 = i.size := by simpa using hs0
            subst this
            obtain ⟨_, hin, hsm⟩ := hp
            obtain ⟨hyl', hlen', cl', hfc', hrows'⟩ := elems_ok (P := P) (sz := i.size) (p := i0 + n ≤ xs.length) (ys := sub xs i0 n) (k := n) hI hs (by simp [elems, hm]) hin
            have hrow := mg_get hm rfl
            have hlb : b < m.length := by
              rcases Nat.lt_or_ge b m.length with h' | h'
              · exact h'
              · rw [List.getElem?_eq_none h'] at hrow; cases hrow
            have hapl : (sub xs i0 n ++ ys).length = n + k := by rw [List.length_append, hyl', hyl]
            have hgrow : ∀ {A : Option Addr} {cap' : Nat}, vs = .slice A n cap' → ¬ n + k ≤ cap' → c0 ≤ cap' → OpOk P o a φ σ m w (.sl m.length 0 (n + k) (max (n + k) c0) false) (ms m b .gone ++ [.row i.size (sub xs i0 n ++ ys)]) := by
              intro A cap' hA hlt hc0
              subst hA
              obtain ⟨r1, r2⟩ := app_run (P := P) (w := w) (ty := o.type) (base := A) (sLen := n) (sCap := cap') (oldc := cl'.toArray) (newc := cl.toArray) hu hi hzv hux hd hlen hnew
                hfc' hb (by simpa [small] using hsm) h0 h1 hb0
              have hr := r2 hlt
              have hge : n + k ≤ grownCap w (n + k) cap' e := gc_le
              obtain ⟨φ', σ', g1, g2⟩ := grow_ok (m1 := ms m b .gone) (sz := i.size) (xs := sub xs i0 n ++ ys) (cl := cl' ++ cl) (zc := zv.cells) (e := e) (n := n + k) (cap := grownCap w (n + k) cap' e) (cp := max (n + k) c0) hI rfl hzs (hrows'.append hrows) hapl.symm gc_le (by omega) (by omega) (ms_len _ _ _) gone_get
              rw [show (cl'.toArray ++ cl.toArray : Array Value) = (cl' ++ cl).toArray by simp] at hr
              exact fin hr g1 g2
            cases hs with
            | sl hσ q1 q2 q3 q4 =>
              rename_i cap' img
              by_cases hlt : n + k ≤ cap'
              · -- in place
                obtain ⟨cc, ee, fr, w2, w3, w4, w5, w5o, w6, w7⟩ := row_at hI hm hσ
                obtain ⟨r1, r2⟩ := app_run (P := P) (w := w) (ty := o.type) (base := some ⟨img.B, img.o + i0 * img.sz, none⟩) (sLen := n) (sCap := cap') (oldc := cl'.toArray) (newc := cl.toArray) hu hi hzv hux hd hlen hnew
                  hfc' hb (by simpa [small] using hsm) h0 h1 hb0
                have hroom : img.o + i0 * i.size + n * i.size + k * i.size ≤ img.cap := by
                  have : (i0 + (n + k)) * i.size ≤ (i0 + cap') * i.size := Nat.mul_le_mul_right _ (by omega)
                  rw [w2] at q4
                  have e1 : (i0 + (n + k)) * i.size = i0 * i.size + (n * i.size + k * i.size) := by rw [Nat.add_mul, Nat.add_mul]
                  omega
                have hone : ∀ u ∈ cl, u.oneCell' = true := hrows.2.1
                obtain ⟨w', c', g1, g2, g3, g4, g5, g6⟩ := storeCells_ok (P := P) (o := img.o + i0 * img.sz + n * i.size) cl 0 cc w w3 hone (by rw [w2, hyk]; omega) (fun q q1 q2 => w7 q (by rw [hyk] at q2; rw [w2] at q2; omega))
                have hr := r1 hlt w' (by
                  show (storeCells (Addr.add ⟨img.B, img.o + i0 * img.sz, none⟩ (n * i.size)) cl).run P w = .ok () w'
                  rw [add_eq]; exact g1)
                have hfr := hI.fresh m.length (Nat.le_refl _)
                have hle := Sg.upd_le (i := some (⟨img.B, img.o + i0 * i.size, i.size, img.cap⟩ : Img)) hfr
                have hsl : img.o + i0 * img.sz + n * i.size + 0 + cl.length ≤ cc.toList.length := by rw [w2, hyk]; simp; omega
                have hc's : c'.size = cc.size := by
                  have := congrArg List.length g5
                  rw [splice_len hsl] at this
                  simpa using this
                refine fin hr (φ' := φ) (σ' := σ.upd m.length (some ⟨img.B, img.o + i0 * i.size, i.size, img.cap⟩)) (hI.change img.B m.length hle (by omega) (fun B hB _ => g3 B hB) (hI.apart b _ img hrow rfl hσ) (.inl ⟨b, _, img, hrow, rfl, hσ, rfl⟩) ?_ (fun b hb => by unfold Sg.upd; rw [if_neg (by omega)]) (by simp [ms_len]) g6 ?_ ?_) ?_
                · intro b' hb'
                  simp [ms_len] at hb'
                  unfold Sg.upd; rw [if_neg (by omega)]; exact hI.fresh b' (by omega)
                · intro b' l hb' hl hne
                  have hb2 : (ms m b .gone)[b']? = some l := by
                    rcases Nat.lt_or_ge b' (ms m b .gone).length with h' | h'
                    · rwa [List.getElem?_append_left h'] at hb'
                    · rw [List.getElem?_append_right h'] at hb'
                      rw [ms_len] at hb' h'
                      cases hx : b' - m.length with
                      | zero => omega
                      | succ x => rw [hx] at hb'; simp at hb'
                  have hb3 := gone_get b' l hb2 hl
                  have hbb : b' ≠ b := by
                    rintro rfl
                    rw [ms_same m b' .gone hlb] at hb2; cases hb2; cases hl
                  exact ⟨hb3, by unfold Sg.upd; rw [if_neg hne], fun j hj => hI.inj b' b l _ j img hb3 hrow hl rfl hj hσ hbb⟩
                · intro l hl _
                  rw [← ms_len m b .gone] at hl
                  simp at hl
                  subst hl
                  refine ⟨?_, fun j hj => by rw [Sg.upd, if_pos rfl] at hj; cases hj; rfl⟩
                  rw [Sg.upd, if_pos rfl]
                  refine .inr ⟨_, c', ee, fr, rfl, rfl, g4, by rw [hc's]; exact w4, ?_, ?_, ?_, w7⟩
                  · show img.o + i0 * i.size + (sub xs i0 n ++ ys).length * i.size ≤ img.cap
                    rw [hapl, Nat.add_mul]; omega
                  · intro p0 u0 p1 p2 pu
                    have p1 : img.o + i0 * i.size ≤ p0 := p1
                    have p2 : p0 < img.o + i0 * i.size + (sub xs i0 n ++ ys).length * i.size := p2
                    rw [hapl, Nat.add_mul] at p2
                    have hpu : c'.toList[p0]? = some u0 := by simpa using pu
                    rw [g5, splice_get hsl] at hpu
                    split at hpu
                    · exact hone u0 (List.mem_of_getElem? hpu)
                    · rename_i hnot
                      have hin' : (i0 + n) * i.size ≤ xs.length * i.size := Nat.mul_le_mul_right _ hin
                      rw [Nat.add_mul] at hin'
                      exact w5o p0 u0 (by omega) (by rw [w2, hyk] at hnot; omega) (by simpa using hpu)
                  · intro j x hx'
                    have hj : j < n + k := by
                      rcases Nat.lt_or_ge j (n + k) with h | h
                      · exact h
                      · rw [List.getElem?_eq_none (by rw [hapl]; exact h)] at hx'; cases hx'
                    have hjm : j * i.size + i.size ≤ (n + k) * i.size := by rw [← Nat.succ_mul]; exact Nat.mul_le_mul_right _ hj
                    rw [Nat.add_mul] at hjm
                    show VRs φ noS x ((c'.toList.drop (img.o + i0 * i.size + j * i.size)).take i.size)
                    rcases Nat.lt_or_ge j n with hjn | hjn
                    · have hx2 : xs[i0 + j]? = some x := by
                        rw [List.getElem?_append_left (by rw [hyl']; exact hjn)] at hx'
                        exact sub_get hx'
                      have hold := w6 (i0 + j) x hx2
                      have hjm2 : j * i.size + i.size ≤ n * i.size := by rw [← Nat.succ_mul]; exact Nat.mul_le_mul_right _ hjn
                      have : (c'.toList.drop (img.o + i0 * i.size + j * i.size)).take i.size = (cc.toList.drop (img.o + (i0 + j) * i.size)).take i.size := by
                        apply List.ext_getElem?
                        intro q
                        rw [List.getElem?_take, List.getElem?_take]
                        split
                        · rw [List.getElem?_drop, List.getElem?_drop, g5, splice_get hsl, if_neg (by rw [w2]; omega), Nat.add_mul]
                          congr 1; omega
                        · rfl
                      rw [this]; exact hold
                    · have hx2 : ys[j - n]? = some x := by
                        rw [List.getElem?_append_right (by rw [hyl']; exact hjn), hyl'] at hx'
                        exact hx'
                      have hnew' := hrows.2.2 (j - n) x hx2
                      have hjm2 : n * i.size ≤ j * i.size := Nat.mul_le_mul_right _ hjn
                      have : (c'.toList.drop (img.o + i0 * i.size + j * i.size)).take i.size = (cl.drop ((j - n) * i.size)).take i.size := by
                        apply List.ext_getElem?
                        intro q
                        rw [List.getElem?_take, List.getElem?_take]
                        split
                        · rw [List.getElem?_drop, List.getElem?_drop, g5, splice_get hsl, if_pos (by rw [w2, hyk]; omega), Nat.sub_mul, w2]
                          congr 1; omega
                        · rfl
                      rw [this]; exact hnew'
                · have hup : (σ.upd m.length (some ⟨img.B, img.o + i0 * i.size, i.size, img.cap⟩)) m.length = some ⟨img.B, img.o + i0 * i.size, i.size, img.cap⟩ := by simp [Sg.upd]
                  have := VR.sl (φ := φ) (b := m.length) (i := 0) (len := n + k) (cap := max (n + k) c0) (cap' := cap') (tight := false) hup (by omega) (by omega) (by simp) (by
                    simp only [Nat.zero_add]
                    rw [w2, Nat.add_mul, ← Nat.add_assoc] at q4; exact q4)
                  simp only [Nat.zero_mul, Nat.add_zero] at this
                  rw [w2]; exact this
              · exact hgrow rfl hlt q2
            | sl0 =>
              rename_i A
              by_cases hk : k = 0
              · subst hk
                have hcl : cl = [] := List.eq_nil_of_length_eq_zero (by rw [hyk]; simp)
                have hys : ys = [] := List.eq_nil_of_length_eq_zero hyl
                obtain ⟨r1, r2⟩ := app_run (P := P) (w := w) (ty := o.type) (base := A) (sLen := 0) (sCap := 0) (oldc := cl'.toArray) (newc := cl.toArray) hu hi hzv hux hd hlen hnew
                  hfc' hb (by simp) h0 h1 hb0
                have hr := r1 (Nat.le_refl _) w (by subst hcl; cases A <;> simp [storeCells])
                subst hys
                rw [show sub xs i0 0 ++ [] = [] by simp [sub]]
                refine fin hr (hI.alloc (m1 := ms m b .gone) (.row i.size []) none (fun _ h => by cases h) (fun _ _ => rfl) (Nat.le_refl _) (Env.refl _) (ms_len _ _ _) gone_get (.inl ⟨rfl, by simp [Sg.upd]⟩)) .sl0
              · exact hgrow rfl (by omega) (Nat.le_refl _)
          · cases he
        · cases he
      · cases he
end Go.AE
