/- The abstract evaluator: AEsa in one. -/
import Derived.Test.YthdkobfafncpcaaDoorAEs
/- The abstract evaluator, part sa: a law's arguments, of any plain type (whole numbers, truth values, texts, structs and slices of such). -/
namespace Go.AE
open Go Go.ChangeShapes Go.WideShapes
set_option linter.unusedVariables false
set_option linter.unusedSimpArgs false

inductive Sh where
  | int (k : IntKind) | bool | str | sl (es : List Sh)
mutual
def Has : Sh → AV → Prop
  | .int k, a => ∃ n, a = .int k n ∧ (Lit.int k n).wf = true
  | .bool, a => ∃ b, a = .bsym b
  | .str, a => ∃ s : List UInt8, a = .str s ∧ s.length ≤ 9223372036854775807
  | .sl es, a => ∃ xs, a = .vsl es.length xs false ∧ xs.length ≤ 9223372036854775807 ∧ ∀ x ∈ xs, HasL es x
def HasL : List Sh → List AV → Prop
  | [], as => as = []
  | s :: ss, as => ∃ a r, as = a :: r ∧ Has s a ∧ HasL ss r
end
def shFs (P : Program) (g : TypeId → Option (List Sh)) : List Field → Nat → Option (List Sh)
  | [], _ => some []
  | f :: fs, o => match g f.type with
    | some ss => match f.offset == o && P.cellsOf f.type == ss.length, shFs P g fs (o + ss.length) with
      | true, some r => some (ss ++ r)
      | _, _ => none
    | none => none
def shp (P : Program) : Nat → TypeId → Option (List Sh)
  | 0, _ => none
  | d + 1, t => match P.underlying t with
    | some (.int k) => some [.int k]
    | some .bool => some [.bool]
    | some .string => some [.str]
    | some (.slice e) => match shp P d e with
      | some (x :: xs) => if P.cellsOf e = (x :: xs).length then some [.sl (x :: xs)] else none
      | _ => none
    | some (.struct fs) => match shFs P (shp P d) fs.toList 0 with
      | some ss => if P.cellsOf t = ss.length then some ss else none
      | none => none
    | _ => none
theorem HasL.append : ∀ {ss rs : List Sh} {as bs : List AV}, HasL ss as → HasL rs bs → HasL (ss ++ rs) (as ++ bs)
  | [], rs, as, bs, h, h' => by
    simp only [HasL] at h; subst h; exact h'
  | s :: ss, rs, as, bs, h, h' => by
    simp only [HasL] at h
    obtain ⟨a, r, rfl, h1, h2⟩ := h
    simp only [List.cons_append, HasL]
    exact ⟨a, r ++ bs, rfl, h1, h2.append h'⟩
theorem Has.one {s : Sh} {as : List AV} (h : HasL [s] as) : ∃ a, as = [a] ∧ Has s a := by
  simp only [HasL] at h
  obtain ⟨a, r, rfl, h1, rfl⟩ := h
  exact ⟨a, rfl, h1⟩
theorem HasL.ones {φ : Fz} {σ : Sg} : ∀ {ss : List Sh} {as : List AV} {vs : List Value}, HasL ss as → VRs φ σ as vs → as.length = ss.length ∧ ∀ u ∈ vs, u.oneCell' = true
  | [], as, vs, h, hv => by
    simp only [HasL] at h; subst h; cases hv; simp
  | s :: ss, as, vs, h, hv => by
    simp only [HasL] at h
    obtain ⟨a, r, rfl, h1, h2⟩ := h
    cases hv with
    | cons hv ht =>
      obtain ⟨q1, q2⟩ := h2.ones ht
      refine ⟨by simp [q1], fun u hu => ?_⟩
      rcases List.mem_cons.1 hu with rfl | hu
      · cases s <;> simp only [Has] at h1
        · obtain ⟨n, rfl, _⟩ := h1; cases hv; rfl
        · obtain ⟨n, rfl⟩ := h1; cases hv; rfl
        · obtain ⟨n, rfl, _⟩ := h1; cases hv; rfl
        · obtain ⟨n, rfl, _⟩ := h1; cases hv <;> rfl
      · exact q2 u hu

theorem cell_look {w : World} {y : Addr} {u : Value} (this : w.cell? y = some u) : ∃ c e fr, w.heap[y.block]? = some (.cells c e fr) ∧ y.spot = none ∧ c[y.off]? = some u := by
  unfold World.cell? at this
  split at this
  · rename_i c e fr hh
    cases hs : y.spot with
    | none => rw [hs] at this; exact ⟨c, e, fr, hh, rfl, by simpa using this⟩
    | some q => rw [hs] at this; simp at this
  · cases this
theorem cells_look {w : World} {base : Nat} {a : Addr} {n : Nat} {cs : List Value} (h : w.cells? base a n = some cs) : cs.length = n ∧ ∀ i, i < n → w.cell? (a.add i) = cs[i]? := by
  unfold World.cells? at h
  split at h
  · exact ⟨by simpa using mapM_some_length h, fun i hi => by simpa using mapM_some_get h i i (by simp [hi])⟩
  · cases h
theorem VR.rowsOf {w : World} {x : Addr} {len cap sz : Nat} {xs : List (List AV)} (h0 : 0 < sz) (hlen : xs.length = len) (hl : len ≤ cap) {cs : Nat → List Value} (hcell : ∀ i, i < cap → (cs i).length = sz ∧ ∀ j, j < sz → w.cell? ((x.add (i * sz)).add j) = (cs i)[j]?)
    (hv : ∀ i y, xs[i]? = some y → VRs (fun B => w.heap[B]?) noS y (cs i)) (h1 : ∀ i, i < len → ∀ u ∈ cs i, u.oneCell' = true) : VR (fun B => w.heap[B]?) noS (.vsl sz xs false) (.slice (some x) len cap) := by
  by_cases hc0 : cap = 0
  · obtain rfl : len = 0 := by omega
    subst hc0
    obtain rfl : xs = [] := List.length_eq_zero_iff.1 hlen
    exact .vsl0
  · have key : ∀ i j, i < cap → j < sz → ∃ c e fr u, w.heap[x.block]? = some (.cells c e fr) ∧ x.spot = none ∧ c[x.off + (i * sz + j)]? = some u ∧ (cs i)[j]? = some u := by
      intro i j hi hj
      obtain ⟨q1, q2⟩ := hcell i hi
      have hq := q2 j hj
      have hu : (cs i)[j]? = some ((cs i)[j]) := List.getElem?_eq_getElem (by omega)
      rw [hu] at hq
      obtain ⟨c, e, fr, r1, r2, r3⟩ := cell_look hq
      refine ⟨c, e, fr, _, ?_, ?_, ?_, hu⟩
      · by_cases z1 : j = 0 <;> by_cases z2 : i * sz = 0 <;> simpa [Addr.add, z1, z2] using r1
      · by_cases z1 : j = 0 <;> by_cases z2 : i * sz = 0
        · simpa [Addr.add, z1, z2] using r2
        · have := hcell 0 (by omega)
          have h00 := this.2 0 h0
          have hu0 : (cs 0)[0]? = some ((cs 0)[0]) := List.getElem?_eq_getElem (by omega)
          rw [hu0] at h00
          obtain ⟨_, _, _, _, r2', _⟩ := cell_look h00
          simpa [Addr.add] using r2'
        · have := hcell 0 (by omega)
          have h00 := this.2 0 h0
          have hu0 : (cs 0)[0]? = some ((cs 0)[0]) := List.getElem?_eq_getElem (by omega)
          rw [hu0] at h00
          obtain ⟨_, _, _, _, r2', _⟩ := cell_look h00
          simpa [Addr.add] using r2'
        · have := hcell 0 (by omega)
          have h00 := this.2 0 h0
          have hu0 : (cs 0)[0]? = some ((cs 0)[0]) := List.getElem?_eq_getElem (by omega)
          rw [hu0] at h00
          obtain ⟨_, _, _, _, r2', _⟩ := cell_look h00
          simpa [Addr.add] using r2'
      · have e : x.off + (i * sz + j) = x.off + i * sz + j := by omega
        rw [e]
        by_cases z1 : j = 0 <;> by_cases z2 : i * sz = 0 <;> simpa [Addr.add, z1, z2] using r3
    obtain ⟨c, e, fr, _, hh, hs, _, _⟩ := key 0 0 (by omega) h0
    have cell : ∀ i j, i < cap → j < sz → c[x.off + (i * sz + j)]? = (cs i)[j]? := by
      intro i j hi hj
      obtain ⟨c', e', fr', u, r1, _, r3, r4⟩ := key i j hi hj
      rw [hh] at r1; cases r1
      rw [r3, r4]
    have hsz : x.off + cap * sz ≤ c.size := by
      obtain ⟨c', e', fr', u, r1, _, r3, _⟩ := key (cap - 1) (sz - 1) (by omega) (by omega)
      rw [hh] at r1; cases r1
      have hlt : x.off + ((cap - 1) * sz + (sz - 1)) < c.size := by
        rcases Nat.lt_or_ge (x.off + ((cap - 1) * sz + (sz - 1))) c.size with h | h
        · exact h
        · rw [Array.getElem?_eq_none h] at r3; cases r3
      have : cap * sz = (cap - 1) * sz + sz := by rw [← Nat.succ_mul]; congr 1; omega
      omega
    have hls : len * sz ≤ cap * sz := Nat.mul_le_mul_right _ hl
    obtain ⟨B, o, sp⟩ := x
    simp only at hs cell hsz hh
    subst hs
    have win : ∀ i, i < cap → (c.toList.drop (o + i * sz)).take sz = cs i := by
      intro i hi
      have hi2 : i * sz + sz ≤ cap * sz := by rw [← Nat.succ_mul]; exact Nat.mul_le_mul_right _ hi
      apply List.ext_getElem?
      intro j
      rw [List.getElem?_take, List.getElem?_drop]
      split
      · rename_i hj
        have := cell i j hi hj
        rw [← this]
        simp [Nat.add_assoc]
      · rename_i hj
        rw [List.getElem?_eq_none (by rw [(hcell i hi).1]; omega)]
    have := VR.vsl (φ := fun B => w.heap[B]?) (σ := noS) (sz := sz) (xs := xs) (tight := false) (B := B) (o := o) (cap' := cap) hh (by rw [hlen]; omega) ?_ ?_ (by rw [hlen]; exact hl) (fun e => by cases e)
    · rw [hlen] at this; exact this
    · intro p u p1 p2 hu
      rw [hlen] at p2
      have hi : (p - o) / sz < len := by
        rw [Nat.div_lt_iff_lt_mul h0]; omega
      have hj : (p - o) % sz < sz := Nat.mod_lt _ h0
      have := cell ((p - o) / sz) ((p - o) % sz) (by omega) hj
      rw [show o + ((p - o) / sz * sz + (p - o) % sz) = p by rw [Nat.div_add_mod']; omega, hu] at this
      exact h1 _ hi u (List.mem_of_getElem? this.symm)
    · intro i y hy
      have hi : i < len := by
        rcases Nat.lt_or_ge i xs.length with h | h
        · omega
        · rw [List.getElem?_eq_none h] at hy; cases hy
      rw [win i (by omega)]
      exact hv i y hy
theorem HasL.len : ∀ {ss : List Sh} {as : List AV}, HasL ss as → as.length = ss.length
  | [], as, h => by simp only [HasL] at h; subst h; rfl
  | s :: ss, as, h => by
    simp only [HasL] at h
    obtain ⟨a, r, rfl, _, h2⟩ := h
    simp [h2.len]
theorem VR.trod {H : Type} {enc : TypeId × Value → H} {P : Program} {w : World} {base : Nat} {held : Bool} : ∀ (d : Nat) {fuel : Nat} {t : TypeId} {ss : List Sh} {cs : List Value} {x : DataW H × List MemPlace}, shp P d t = some ss →
    DataW.trod enc P w base (fun _ => true) held fuel t cs = some x → ∃ as, VRs (fun B => w.heap[B]?) noS as cs ∧ HasL ss as
  | 0, _, _, _, _, _, hs, _ => by cases hs
  | d + 1, fuel, t, ss, cs, x, hs, h => by
    simp only [shp] at hs
    split at hs
    · rename_i k hu
      cases hs
      obtain ⟨n, rfl, _, hw⟩ := DataW.trod_int hu h
      exact ⟨[.int k n], .cons .int .nil, by simp only [HasL, Has]; exact ⟨_, _, rfl, ⟨n, rfl, hw⟩, rfl⟩⟩
    · rename_i hu
      cases hs
      obtain ⟨b, rfl, _⟩ := DataW.trod_bool hu h
      exact ⟨[.bsym b], .cons .bsym .nil, by simp only [HasL, Has]; exact ⟨_, _, rfl, ⟨b, rfl⟩, rfl⟩⟩
    · rename_i hu
      cases hs
      obtain ⟨s, rfl, _, hw⟩ := DataW.trod_string hu h
      have : s.data.toList.length = s.size := by rw [Array.length_toList]; rfl
      exact ⟨[.str s.data.toList], .cons (VR.ba s) .nil, by simp only [HasL, Has]; exact ⟨_, _, rfl, ⟨_, rfl, by rw [this]; exact hw⟩, rfl⟩⟩
    · rename_i e hu
      split at hs
      · rename_i s0 ss0 hes
        split at hs
        · rename_i hce
          cases hs
          rcases DataW.trod_slice hu h with ⟨rfl, _⟩ | ⟨a, len, cap, elems, rest, n, _, rfl, _, hb, hl, hm, hlen, hel, hsp, _⟩
          · exact ⟨[.vsl (s0 :: ss0).length [] false], .cons .vsl0 .nil, by simp only [HasL, Has]; exact ⟨_, _, rfl, ⟨[], rfl, by simp, fun x hx => by cases hx⟩, rfl⟩⟩
          · obtain ⟨hrl, hr⟩ := hsp rfl
            have each : ∀ i, i < cap → ∃ y, (w.cells? base (a.add (i * P.cellsOf e)) (P.cellsOf e)).bind (DataW.trod enc P w base (fun _ => true) held n e) = some y := by
              intro i hi
              by_cases hil : i < len
              · rw [hel i hil, List.getElem?_eq_getElem (by omega)]; exact ⟨_, rfl⟩
              · have := hr (i - len) (by omega)
                rw [show len + (i - len) = i by omega] at this
                rw [this, List.getElem?_eq_getElem (by omega)]; exact ⟨_, rfl⟩
            have each2 : ∀ i, i < cap → ∃ cs as, w.cells? base (a.add (i * P.cellsOf e)) (P.cellsOf e) = some cs ∧ VRs (fun B => w.heap[B]?) noS as cs ∧ HasL (s0 :: ss0) as := by
              intro i hi
              obtain ⟨y, hy⟩ := each i hi
              rw [Option.bind_eq_some_iff] at hy
              obtain ⟨cs, hcs, hy⟩ := hy
              obtain ⟨as, h1, h2⟩ := VR.trod d hes hy
              exact ⟨cs, as, hcs, h1, h2⟩
            have pick : ∃ (f : Nat → List Value) (g : Nat → List AV), ∀ i, i < cap → w.cells? base (a.add (i * P.cellsOf e)) (P.cellsOf e) = some (f i) ∧ VRs (fun B => w.heap[B]?) noS (g i) (f i) ∧ HasL (s0 :: ss0) (g i) := by
              have : ∀ i, ∃ p : List Value × List AV, i < cap → w.cells? base (a.add (i * P.cellsOf e)) (P.cellsOf e) = some p.1 ∧ VRs (fun B => w.heap[B]?) noS p.2 p.1 ∧ HasL (s0 :: ss0) p.2 := by
                intro i
                by_cases hi : i < cap
                · obtain ⟨cs, as, h⟩ := each2 i hi; exact ⟨(cs, as), fun _ => h⟩
                · exact ⟨([], []), fun h => absurd h hi⟩
              obtain ⟨p, hp⟩ := Classical.axiomOfChoice this
              exact ⟨fun i => (p i).1, fun i => (p i).2, hp⟩
            obtain ⟨f, g, hfg⟩ := pick
            have hxs : ((List.range len).map g).length = len := by simp
            refine ⟨[.vsl (s0 :: ss0).length ((List.range len).map g) false], .cons (VR.rowsOf (cs := f) (by simp) hxs hl (fun i hi => ?_) (fun i y hy => ?_) (fun i hi u hu => ?_)) .nil, ?_⟩
            · have := cells_look (hfg i hi).1
              rw [hce] at this; exact this
            · have hi : i < len := by
                rcases Nat.lt_or_ge i len with h | h
                · exact h
                · rw [List.getElem?_eq_none (by simp; exact h)] at hy; cases hy
              simp [hi] at hy
              subst hy
              exact (hfg i (by omega)).2.1
            · exact ((hfg i (by omega)).2.2.ones (hfg i (by omega)).2.1).2 u hu
            · simp only [HasL, Has]
              refine ⟨_, _, rfl, ⟨_, rfl, by rw [hxs]; have : cap ≤ 2 ^ 63 - 1 := hm; omega, fun x hx => ?_⟩, rfl⟩
              obtain ⟨i, hi, rfl⟩ := List.mem_map.1 hx
              have := (hfg i (by simp at hi; omega)).2.2
              simpa only [HasL] using this
        · cases hs
      · cases hs
    · rename_i fs hu
      split at hs
      · rename_i ss0 hfs
        split at hs
        · rename_i hcl
          cases hs
          obtain ⟨xs, n, _, _, hl, hxl, hf⟩ := DataW.trod_struct hu h
          have go : ∀ (l : List Field) (k o : Nat) (rs : List Sh), fs.toList.drop k = l → shFs P (shp P d) l o = some rs → ∃ as, VRs (fun B => w.heap[B]?) noS as ((cs.drop o).take rs.length) ∧ HasL rs as := by
            intro l
            induction l with
            | nil =>
              intro k o rs _ hr
              simp only [shFs, Option.some.injEq] at hr
              subst hr
              exact ⟨[], by simp; exact .nil, by simp only [HasL]⟩
            | cons f0 l ih =>
              intro k o rs hk hr
              simp only [shFs] at hr
              split at hr
              · rename_i s1 hs1
                split at hr
                · rename_i r hcond hr'
                  cases hr
                  simp only [Bool.and_eq_true, beq_iff_eq] at hcond
                  have hf0 : fs[k]? = some f0 := by
                    have := congrArg (fun l => l[0]?) hk
                    simpa using this
                  have hk' : fs.toList.drop (k + 1) = l := by
                    have := congrArg (List.drop 1) hk
                    simpa using this
                  have hkx : k < xs.length := by rw [hxl]; exact (Array.getElem?_eq_some_iff.1 hf0).1
                  have hread := hf k f0 hf0
                  rw [List.getElem?_eq_getElem hkx, hcond.1, hcond.2] at hread
                  obtain ⟨a1, v1, q1⟩ := VR.trod d hs1 hread
                  obtain ⟨a2, v2, q2⟩ := ih (k + 1) (o + s1.length) r hk' hr'
                  refine ⟨a1 ++ a2, ?_, q1.append q2⟩
                  have e : (cs.drop o).take (s1 ++ r).length = (cs.drop o).take s1.length ++ (cs.drop (o + s1.length)).take r.length := by
                    rw [List.length_append, List.take_add, List.drop_drop]
                  rw [e]
                  exact v1.append v2
                · cases hr
              · cases hr
          obtain ⟨as, hv, hh⟩ := go fs.toList 0 0 _ rfl hfs
          refine ⟨as, ?_, hh⟩
          rw [List.drop_zero, List.take_of_length_le (by omega)] at hv
          exact hv
        · cases hs
      · cases hs
    · cases hs
end Go.AE
