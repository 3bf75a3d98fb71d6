/- The abstract evaluator: AEg in one. -/
import Derived.Test.YthdkobfafncpcaaDoorAEf
/- The abstract evaluator, part g: stores. -/
namespace Go.AE
open Go
set_option linter.unusedVariables false
set_option linter.unusedSimpArgs false

variable {P : Program} {φ : Fz} {σ : Sg} {t : Tr} {a : Act} {m m' : Mem} {w : World} {p : Prop} {v : AV}

mutual
theorem flat_ok {φ : Fz} {σ σ' : Sg} : ∀ {v : AV} {u : Value}, flat v = true → VR φ σ v u → VR φ σ' v u
  | .bool _, _, _, .bool => .bool
  | .bsym _, _, _, .bsym => .bsym
  | .int _ _, _, _, .int => .int
  | .str _, _, _, .str => .str
  | .nilptr, _, _, .nilptr => .nilptr
  | .pval _ _ _ _, _, _, .pval h hb h1 hx => .pval h hb h1 hx
  | .nilsl, _, _, .nilsl => .nilsl
  | .nil0, _, _, .nil0 => .nil0
  | .vsl _ _ _, _, _, .vsl h hb h1 hx hc ht => .vsl h hb h1 hx hc ht
  | .vsl _ _ _, _, _, .vsl0 => .vsl0
  | .nilmap, _, _, .nilmap => .nilmap
  | .nilfn, _, _, .nilfn => .nilfn
  | .nilif, _, _, .nilif => .nilif
  | .fn _ _ _, _, h, .fn h1 h2 => by
    simp only [flat, Bool.and_eq_true] at h
    exact .fn (flats_ok h.1 h1) (flats_ok h.2 h2)
  | .ifc _ _, _, h, .ifc h1 => .ifc (flat_ok (by simpa [flat] using h) h1)
theorem flats_ok {φ : Fz} {σ σ' : Sg} : ∀ {v : List AV} {u : List Value}, flats v = true → VRs φ σ v u → VRs φ σ' v u
  | [], _, _, .nil => .nil
  | _ :: _, _, h, .cons h1 h2 => by
    simp only [flats, Bool.and_eq_true] at h
    exact .cons (flat_ok h.1 h1) (flats_ok h.2 h2)
end

theorem cells_ok {v : AV} {u : Value} (h : VR φ σ v u) : VRs φ σ (cells v) u.cells.toList := by
  cases h
  case agg h => exact h
  all_goals exact .cons (by first | assumption | (constructor <;> assumption)) .nil
theorem one_ok {v : AV} {u : Value} (h : VR φ σ v u) (h1 : one v = true) : u.oneCell' = true := by
  cases h <;> first | rfl | (simp [one] at h1)
theorem ones_ok : ∀ {vs : List AV} {us : List Value}, VRs φ σ vs us → vs.all one = true → ∀ u ∈ us, u.oneCell' = true
  | [], _, .nil, _, u, hu => by cases hu
  | v :: vs, _, .cons h ht, h1, u, hu => by
    simp only [List.all_cons, Bool.and_eq_true] at h1
    rcases List.mem_cons.1 hu with rfl | hu
    · exact one_ok h h1.1
    · exact ones_ok ht h1.2 u hu

def splice (c : List Value) (k : Nat) (vs : List Value) : List Value := c.take k ++ vs ++ c.drop (k + vs.length)
theorem splice_len {c : List Value} {k : Nat} {vs : List Value} (h : k + vs.length ≤ c.length) : (splice c k vs).length = c.length := by
  simp [splice]; omega
theorem splice_get {c : List Value} {k : Nat} {vs : List Value} (h : k + vs.length ≤ c.length) (i : Nat) :
    (splice c k vs)[i]? = if k ≤ i ∧ i < k + vs.length then vs[i - k]? else c[i]? := by
  unfold splice
  have hk : (c.take k).length = k := by simp; omega
  by_cases h1 : i < k
  · rw [if_neg (by omega), List.getElem?_append_left (by simp; omega), List.getElem?_append_left (by omega), List.getElem?_take, if_pos h1]
  · by_cases h2 : i < k + vs.length
    · rw [if_pos (by omega), List.getElem?_append_left (by simp; omega), List.getElem?_append_right (by omega), hk]
    · rw [if_neg (by omega), List.getElem?_append_right (by simp; omega), List.getElem?_drop]
      congr 1
      simp
      omega

theorem setCell_heap {B o : Nat} {u : Value} {c : Array Value} {e : TypeId} {fr : Nat × Nat} (h : w.heap[B]? = some (.cells c e fr)) :
    (w.setCell ⟨B, o, none⟩ u).heap[B]? = some (.cells (c.setIfInBounds o u) e fr) := by
  simp [World.setCell, Array.getElem?_modify, h]
theorem setCell_other {B B' o : Nat} {u : Value} (h : B' ≠ B) : (w.setCell ⟨B, o, none⟩ u).heap[B']? = w.heap[B']? := by
  simp [World.setCell, Array.getElem?_modify, Ne.symm h]

theorem storeCells_ok {B o : Nat} {e : TypeId} {fr : Nat × Nat} : ∀ (vs : List Value) (i : Nat) (c : Array Value) (w : World), w.heap[B]? = some (.cells c e fr) →
    (∀ u ∈ vs, u.oneCell' = true) → o + i + vs.length ≤ c.size → (∀ q, o + i ≤ q → q < o + i + vs.length → (fr.1 ≤ q && q < fr.2) = false) →
    ∃ w' c', (storeCells ⟨B, o, none⟩ vs i).run P w = .ok () w' ∧ w'.heap.size = w.heap.size ∧ (∀ B', B' ≠ B → w'.heap[B']? = w.heap[B']?) ∧
      w'.heap[B]? = some (.cells c' e fr) ∧ c'.toList = splice c.toList (o + i) vs ∧ Env w w'
  | [], i, c, w, h, _, _, _ => ⟨w, c, rfl, rfl, fun _ _ => rfl, h, by simp [splice], Env.refl _⟩
  | v :: vs, i, c, w, h, h1, h2, h3 => by
    have hlt : o + i < c.size := by simp at h2; omega
    have hc : w.cell? ⟨B, o + i, none⟩ = some c[o + i] := by rw [cell_of h]; simp [hlt]
    have hf : w.frozen? ⟨B, o + i, none⟩ = false := by
      simp only [World.frozen?, h]; exact h3 (o + i) (Nat.le_refl _) (by simp)
    obtain ⟨w', c', g1, g2, g3, g4, g5, g6⟩ := storeCells_ok (B := B) (o := o) (e := e) (fr := fr) vs (i + 1) (c.setIfInBounds (o + i) v) (w.setCell ⟨B, o + i, none⟩ v) (setCell_heap h)
      (fun u hu => h1 u (List.mem_cons_of_mem _ hu)) (by simp at h2 ⊢; omega) (fun q q1 q2 => h3 q (by omega) (by simp; omega))
    refine ⟨w', c', ?_, by rw [g2]; simp, fun B' hB' => by rw [g3 B' hB', setCell_other hB'], g4, ?_, Env.trans ⟨rfl, rfl, rfl⟩ g6⟩
    · simp only [storeCells, Sem.run_bind, add_eq]
      rw [run_store _ _ _ _ _ (h1 v (by simp)), hc]
      simp only [hf]
      exact g1
    · rw [g5]
      have hlen : o + i + (v :: vs).length ≤ c.toList.length := by simpa using h2
      have hlen' : o + (i + 1) + vs.length ≤ (c.setIfInBounds (o + i) v).toList.length := by simp at hlen ⊢; omega
      apply List.ext_getElem?
      intro j
      rw [splice_get hlen', splice_get hlen]
      by_cases e1 : j = o + i
      · subst e1
        rw [if_neg (by omega), if_pos (by simp)]
        simp [hlt]
      · by_cases e2 : o + (i + 1) ≤ j ∧ j < o + (i + 1) + vs.length
        · rw [if_pos e2, if_pos (by simp; omega), show j - (o + i) = (j - (o + (i + 1))) + 1 by omega]; simp
        · rw [if_neg e2, if_neg (by simp; omega)]
          simp [List.getElem?_set_ne (Ne.symm e1)]

theorem stA_ok (hI : Inv φ σ m w) {n : Nat} {q u : AV} {vq vu : Value} (hq : VR φ σ q vq) (hu : VR φ σ u vu) (h : stA n m q u = some (p, v, m')) (hp : p) :
    ∃ A w', vq = .pointer (some A) ∧ vu.cells.size = n ∧ (storeCells A vu.cells.toList).run P w = .ok () w' ∧ Stp φ σ m w φ σ m' w' ∧ v = .tup [] := by
  unfold stA at h
  split at h
  · cases h
  · rename_i hn
    simp only [Bool.and_eq_true, beq_iff_eq] at hn
    obtain ⟨⟨hn0, hn⟩, hone⟩ := hn
    have hn0 : 0 < n := nz_pos hn0
    have hcs := cells_ok hu
    have hsz : vu.cells.size = n := by rw [hn, hcs.length]; simp
    have hcl : (cells u).length = vu.cells.toList.length := hcs.length
    have hone' := ones_ok hcs hone
    have finish : ∀ {b : Nat} {k k' : Blk} {img : Img} {c : Array Value} {e : TypeId} {fr : Nat × Nat} {o : Nat}, m[b]? = some k → k.owned = true → σ b = some img →
        w.heap[img.B]? = some (.cells c e fr) → o + vu.cells.toList.length ≤ c.size → c.size = img.cap → Plain fr img.cap →
        (∀ (c' : Array Value) (w' : World), c'.size = c.size → w'.heap[img.B]? = some (.cells c' e fr) → c'.toList = splice c.toList o vu.cells.toList → BM φ σ w' (some img) k') →
        ∃ w', (storeCells ⟨img.B, o, none⟩ vu.cells.toList).run P w = .ok () w' ∧ Stp φ σ m w φ σ (ms m b k') w' := by
      intro b k k' img c e fr o hb hk hi hh hle hcap hpl hnew
      obtain ⟨w', c', g1, g2, g3, g4, g5, g6⟩ := storeCells_ok (P := P) (o := o) vu.cells.toList 0 c w hh hone' hle (fun q q1 q2 => hpl q (by omega))
      refine ⟨w', g1, ?_⟩
      have hlb : b < m.length := by
        rcases Nat.lt_or_ge b m.length with h' | h'
        · exact h'
        · rw [List.getElem?_eq_none h'] at hb; cases hb
      refine hI.change img.B b (Sg.le_refl _) (by omega) (fun B hB _ => g3 B hB) (hI.apart b k img hb hk hi) (.inl ⟨b, k, img, hb, hk, hi, rfl⟩) ?_ (fun _ _ => rfl) (by rw [ms_len]; exact Nat.le_refl _) g6 ?_ ?_
      · intro b' hb'; rw [ms_len] at hb'; exact hI.fresh b' hb'
      · intro b' l hb' hl hne
        rcases ms_get m b k' b' l hb' with ⟨e, _⟩ | ⟨_, e⟩
        · exact absurd e hne
        · exact ⟨e, rfl, fun i hi' => hI.inj b' b l k i img e hb hl hk hi' hi hne⟩
      · intro l hl _
        rw [ms_same m b k' hlb] at hl
        cases hl
        refine ⟨?_, fun i hi' => by rw [hi] at hi'; cases hi'; rfl⟩
        rw [hi]
        refine hnew c' w' ?_ g4 g5
        have := congrArg List.length g5
        rw [splice_len (by simpa using hle)] at this
        simpa using this
    split at h
    · rename_i b j
      split at h
      · rename_i cs hb
        split at h
        · rename_i cs' hput
          cases h
          cases hq with
          | pbox hi =>
            rename_i img
            obtain ⟨c, e, fr, e2, e3, e4, e5, e6⟩ := box_at hI hb hi
            have hl := lput_len hput
            have hcsl : cs.length = c.toList.length := e5.length
            have hjle : j + (cells u).length ≤ cs.length := lput_le hput (by omega)
            obtain ⟨w', g1, g2⟩ := finish (k' := .box cs') (o := img.o + j) (mg_get hb rfl) rfl hi e3 (by rw [e2, ← hcl]; simp at hcsl; omega) e4 e6
              (fun c' w' hc' hw' hsp => by
                refine ⟨img, c', e, fr, rfl, e2, hw', by rw [hc', e4], ?_, e6⟩
                rw [hsp, e2, Nat.zero_add]
                have hsl : j + vu.cells.toList.length ≤ c.toList.length := by rw [← hcl]; omega
                refine VRs.of_get (by rw [splice_len hsl, hl.1, hcsl]) fun n a b ha hb => ?_
                rw [lput_get hput] at ha
                rw [splice_get hsl, ← hcl] at hb
                by_cases hin : j ≤ n ∧ n < j + (cells u).length
                · rw [if_pos hin] at ha hb
                  obtain ⟨b', hb', hr⟩ := hcs.get ha
                  rw [hb'] at hb; cases hb; exact hr
                · rw [if_neg hin] at ha hb
                  obtain ⟨b', hb', hr⟩ := e5.get ha
                  rw [hb'] at hb; cases hb; exact hr)
            exact ⟨_, w', rfl, hsz, g1, g2, rfl⟩
        · cases h
      · cases h
    · rename_i b j i
      split at h
      · rename_i cs hb
        split at h
        rotate_left
        · cases h
        rename_i u0 hu0
        cases h
        have hjle := hp
        cases hq with
        | parr hi =>
          rename_i img
          obtain ⟨c, e, fr, e2, e3, e4, e5, e6⟩ := box_at hI hb hi
          have hcsl : cs.length = c.toList.length := e5.length
          obtain ⟨w', g1, g2⟩ := finish (k' := .box (cs.set (j + i) u0)) (o := img.o + (j + i)) (mg_get hb rfl) rfl hi e3 (by rw [e2, ← hcl, hu0]; simp at hcsl ⊢; omega) e4 e6
            (fun c' w' hc' hw' hsp => by
              refine ⟨img, c', e, fr, rfl, e2, hw', by rw [hc', e4], ?_, e6⟩
              rw [hsp, e2, Nat.zero_add]
              have hsl : j + i + vu.cells.toList.length ≤ c.toList.length := by rw [← hcl, hu0, ← hcsl]; have : j + i + 1 ≤ cs.length := hjle; simpa using this
              refine VRs.of_get (by rw [splice_len hsl]; simp [hcsl]) fun n a b ha hb => ?_
              rw [splice_get hsl, ← hcl, hu0] at hb
              by_cases hin : n = j + i
              · subst hin
                rw [if_pos (by simp)] at hb
                rw [List.getElem?_set_self hjle] at ha
                cases ha
                rw [hu0] at hcs
                obtain ⟨b', hb', hr⟩ := hcs.get (j := 0) rfl
                simp only [Nat.sub_self] at hb
                rw [hb'] at hb; cases hb; exact hr
              · rw [if_neg (by simp; omega)] at hb
                rw [List.getElem?_set_ne (Ne.symm hin)] at ha
                obtain ⟨b', hb', hr⟩ := e5.get ha
                rw [hb'] at hb; cases hb; exact hr)
          exact ⟨_, w', rfl, hsz, g1, g2, rfl⟩
      · cases h
    · rename_i b i j
      split at h
      · rename_i sz xs hb
        split at h
        · rename_i hfl
          cases h
          obtain ⟨x, hx, hjle⟩ := hp
          cases hq with
          | pelt hi =>
            rename_i img
            obtain ⟨c, e, fr, e2, e3, e4, e5, e5o, e6, e7⟩ := row_at hI hb hi
            have hxv := e6 i x hx
            have hil : i < xs.length := by
              rcases Nat.lt_or_ge i xs.length with h' | h'
              · exact h'
              · rw [List.getElem?_eq_none h'] at hx; cases hx
            have hmul : i * sz + sz ≤ xs.length * sz := by rw [← Nat.succ_mul]; exact Nat.mul_le_mul_right _ hil
            have hwin : ∀ i', i' * sz + sz ≤ xs.length * sz → ((c.toList.drop (img.o + i' * sz)).take sz).length = sz := by
              intro i' h'; simp; omega
            have hxl : x.length = sz := by rw [hxv.length]; exact hwin i hmul
            have hfc : VRs φ noS (cells u) vu.cells.toList := flats_ok hfl hcs
            have hn' : (cells u).length = n := hn.symm
            obtain ⟨w', g1, g2⟩ := finish (k' := .row sz (rput xs i j (cells u))) (o := img.o + i * img.sz + j) (mg_get hb rfl) rfl hi e3 (by rw [e2, ← hcl]; omega) e4 e7
              (fun c' w' hc' hw' hsp => by
                refine .inr ⟨img, c', e, fr, rfl, e2, hw', by rw [hc', e4], by simp [rput]; exact e5, ?_, ?_, e7⟩
                · intro p0 u0 p1 p2 pu
                  have hsl : img.o + i * img.sz + j + vu.cells.toList.length ≤ c.toList.length := by rw [e2, ← hcl]; simp; omega
                  have hpu : c'.toList[p0]? = some u0 := by simpa using pu
                  rw [hsp, splice_get hsl] at hpu
                  split at hpu
                  · exact hone' u0 (List.mem_of_getElem? hpu)
                  · exact e5o p0 u0 p1 (by simpa [rput] using p2) (by simpa using hpu)
                intro i' x' hx'
                have hi'l : i' < xs.length := by
                  rcases Nat.lt_or_ge i' xs.length with h' | h'
                  · exact h'
                  · rw [List.getElem?_eq_none (by simp [rput]; exact h')] at hx'; cases hx'
                have hmul' : i' * sz + sz ≤ xs.length * sz := by rw [← Nat.succ_mul]; exact Nat.mul_le_mul_right _ hi'l
                have hsl : img.o + i * img.sz + j + vu.cells.toList.length ≤ c.toList.length := by rw [e2, ← hcl]; simp; omega
                have hcl' : c'.toList.length = c.toList.length := by rw [hsp]; exact splice_len hsl
                have hclen : c.toList.length = c.size := by simp
                simp only [rput, List.getElem?_modify] at hx'
                by_cases hii : i = i'
                · subst hii
                  have hx'' : x' = x.take j ++ cells u ++ x.drop (j + (cells u).length) := by rw [hx] at hx'; simpa using hx'.symm
                  subst hx''
                  refine VRs.of_get (by rw [List.length_take, List.length_drop, hcl']; simp; omega) fun k a b ha hb => ?_
                  have hk : k < sz := by
                    rw [List.getElem?_take] at hb
                    split at hb
                    · assumption
                    · cases hb
                  rw [List.getElem?_take, if_pos hk, List.getElem?_drop, hsp, splice_get hsl, ← hcl, e2] at hb
                  by_cases hin : j ≤ k ∧ k < j + (cells u).length
                  · rw [if_pos (by omega), show img.o + i * sz + k - (img.o + i * sz + j) = k - j by omega] at hb
                    rw [List.append_assoc, List.getElem?_append_right (by simp; omega), List.getElem?_append_left (by simp; omega)] at ha
                    rw [show k - (x.take j).length = k - j by simp; omega] at ha
                    obtain ⟨b', hb', hr⟩ := hfc.get ha
                    rw [hb'] at hb; cases hb; exact hr
                  · rw [if_neg (by omega)] at hb
                    have ha' : x[k]? = some a := by
                      by_cases hkj : k < j
                      · rw [List.append_assoc, List.getElem?_append_left (by simp; omega), List.getElem?_take, if_pos hkj] at ha; exact ha
                      · rw [List.getElem?_append_right (by simp; omega), List.getElem?_drop] at ha
                        rw [← ha]; congr 1; simp; omega
                    obtain ⟨b', hb', hr⟩ := hxv.get ha'
                    rw [(win_get hb').1] at hb; cases hb; exact hr
                · replace hx' : xs[i']? = some x' := by simpa [hii] using hx'
                  have hwin' := e6 i' x' hx'
                  have : (c'.toList.drop (img.o + i' * sz)).take sz = (c.toList.drop (img.o + i' * sz)).take sz := by
                    apply List.ext_getElem?
                    intro k
                    rw [List.getElem?_take, List.getElem?_take]
                    split
                    · rename_i hk
                      rw [List.getElem?_drop, List.getElem?_drop, hsp, splice_get hsl, ← hcl, e2]
                      rw [if_neg]
                      rintro ⟨q1, q2⟩
                      rcases Nat.lt_or_gt_of_ne hii with h' | h'
                      · have : i * sz + sz ≤ i' * sz := by rw [← Nat.succ_mul]; exact Nat.mul_le_mul_right _ h'
                        omega
                      · have : i' * sz + sz ≤ i * sz := by rw [← Nat.succ_mul]; exact Nat.mul_le_mul_right _ h'
                        omega
                    · rfl
                  rw [this]; exact hwin')
            exact ⟨_, w', rfl, hsz, g1, g2, rfl⟩
        · cases h
      · cases h
    · cases h

theorem ok_st (hI : Inv φ σ m w) (ht : TR φ σ t a.tmps) {o : Oper} {ty : TypeId} {x y : Operand} {x' y' : Opd} {n : Nat} (ho : o.op = .store ty x y) (hx : cOpd x = some x') (hy : cOpd y = some y')
    (hs : szT P ty = some n) (he : ao (.st n x' y') t m = some (p, v, m')) (hp : p) : OpOk P o a φ σ m w v m' := by
  simp only [ao] at he
  split at he
  · rename_i q u e1 e2
    obtain ⟨A, w', h1, h2, h3, h4, rfl⟩ := stA_ok (P := P) hI (ev_ok ht hx e1) (ev_ok ht hy e2) he hp
    refine ⟨undef, w', φ, σ, .inr ⟨?_, rfl⟩, h4, .tup .nil⟩
    simp [execOp, ho, h1, Instr.storeAt, Instr.sureAddr, storeVar, size_run hs, h2, h3]
  · cases he
end Go.AE
