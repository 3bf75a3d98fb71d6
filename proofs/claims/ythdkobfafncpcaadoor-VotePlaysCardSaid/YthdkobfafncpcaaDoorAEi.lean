/- The abstract evaluator: AEi in one. -/
import Derived.Test.YthdkobfafncpcaaDoorAEh
/- The abstract evaluator, part i: what append, []byte(s), string(b), make and literals of slices do. -/
namespace Go.AE
open Go
set_option linter.unusedVariables false
set_option linter.unusedSimpArgs false

variable {P : Program} {φ : Fz} {σ : Sg} {t : Tr} {a : Act} {m m' : Mem} {w : World} {p : Prop} {v : AV}

def RowsAre (φ : Fz) (sz : Nat) (ys : List (List AV)) (cl : List Value) : Prop :=
  cl.length = ys.length * sz ∧ (∀ u ∈ cl, u.oneCell' = true) ∧ ∀ i y, ys[i]? = some y → VRs φ noS y ((cl.drop (i * sz)).take sz)

theorem RowsAre.append {sz : Nat} {xs ys : List (List AV)} {c d : List Value} (h : RowsAre φ sz xs c) (h' : RowsAre φ sz ys d) : RowsAre φ sz (xs ++ ys) (c ++ d) := by
  refine ⟨by rw [List.length_append, List.length_append, h.1, h'.1, Nat.add_mul], fun u hu => (List.mem_append.1 hu).elim (h.2.1 u) (h'.2.1 u), fun i y hy => ?_⟩
  rcases Nat.lt_or_ge i xs.length with hi | hi
  · rw [List.getElem?_append_left hi] at hy
    have := h.2.2 i y hy
    have hm : i * sz + sz ≤ xs.length * sz := by rw [← Nat.succ_mul]; exact Nat.mul_le_mul_right _ hi
    have hle : i * sz ≤ c.length := by rw [h.1]; omega
    rw [List.drop_append_of_le_length hle, List.take_append_of_le_length (by rw [List.length_drop, h.1]; omega)]
    exact this
  · rw [List.getElem?_append_right hi] at hy
    have := h'.2.2 _ y hy
    have hm : xs.length * sz ≤ i * sz := Nat.mul_le_mul_right _ hi
    rw [List.drop_append, List.drop_eq_nil_of_le (by rw [h.1]; exact hm), List.nil_append, h.1, ← Nat.sub_mul]
    exact this
theorem RowsAre.window {sz : Nat} {xs : List (List AV)} {c : List Value} {o : Nat} (hc : o + xs.length * sz ≤ c.length) (hon : Ones c.toArray o (o + xs.length * sz)) (hx : ∀ i x, xs[i]? = some x → VRs φ noS x ((c.drop (o + i * sz)).take sz)) :
    RowsAre φ sz xs ((c.drop o).take (xs.length * sz)) := by
  refine ⟨by simp; omega, fun u hu => ?_, fun i y hy => ?_⟩
  · obtain ⟨j, hj⟩ := List.getElem?_of_mem hu
    obtain ⟨h1, h2⟩ := win_get hj
    exact hon (o + j) u (by omega) (by omega) (by simpa using h1)
  have hi : i < xs.length := by
    rcases Nat.lt_or_ge i xs.length with h | h
    · exact h
    · rw [List.getElem?_eq_none h] at hy; cases hy
  have hm : i * sz + sz ≤ xs.length * sz := by rw [← Nat.succ_mul]; exact Nat.mul_le_mul_right _ hi
  have := hx i y hy
  rw [List.drop_take, List.take_take, List.drop_drop, Nat.min_eq_left (by omega)]
  exact this

theorem bytes_rows (s : List UInt8) : RowsAre φ 1 (bytes s) (s.map fun b => Value.int .u8 b.toNat) := by
  refine ⟨by simp [bytes], fun u hu => ?_, fun i y hy => ?_⟩
  · obtain ⟨b, _, rfl⟩ := List.mem_map.1 hu
    rfl
  simp only [bytes, List.getElem?_map, Option.map_eq_some_iff] at hy
  obtain ⟨b, hb, rfl⟩ := hy
  have : (((s.map fun b => Value.int .u8 b.toNat).drop (i * 1)).take 1) = [.int .u8 b.toNat] := by
    apply List.ext_getElem?
    intro j
    rw [List.getElem?_take]
    by_cases hj : j < 1
    · have : j = 0 := by omega
      subst this
      simp [hb]
    · rw [if_neg hj, List.getElem?_eq_none (by simp; omega)]
  rw [this]
  exact .cons .int .nil

theorem load_win {B o n : Nat} {c : Array Value} {e : TypeId} {fr : Nat × Nat} (h : w.heap[B]? = some (.cells c e fr)) (hn : o + n ≤ c.size) :
    (loadCells ⟨B, o, none⟩ n).run P w = .ok ((c.toList.drop o).take n).toArray w := by
  have hl : ((c.toList.drop o).take n).length = n := by simp; omega
  have := run_loadCells_list (P := P) w ⟨B, o, none⟩ ((c.toList.drop o).take n) (fun j u hu => by
    rw [add_eq, cell_of h]; simpa using (win_get hu).1)
  rw [hl] at this
  exact this

theorem elems_ok (hI : Inv φ σ m w) {sz : Nat} {x : AV} {vx : Value} {ys : List (List AV)} {k : Nat} (hx : VR φ σ x vx) (h : elems sz m x = some (p, ys, k)) (hp : p) :
    ys.length = k ∧ (Builtin.lenOf vx).run P w = .ok k w ∧ ∃ cl : List Value, (∀ w' : World, w'.heap = w.heap → (Builtin.firstCells sz k vx).run P w' = .ok cl.toArray w') ∧ RowsAre φ sz ys cl := by
  unfold elems at h
  split at h
  · cases h
    cases hx
    rename_i A
    refine ⟨rfl, by simp [Builtin.lenOf], [], ?_, by simp [RowsAre]⟩
    intro w' _; cases A <;> simp [Builtin.firstCells, loadCells, loadCellsFrom]
  · rename_i s xs tight
    split at h
    · rename_i hs
      cases h
      have : s = sz := by simpa using hs
      subst this
      cases hx with
      | vsl hφ hb hon hxx hc htt =>
        rename_i B o c e fr cap'
        refine ⟨rfl, by simp [Builtin.lenOf], _, ?_, RowsAre.window (c := c.toList) (by simpa using hb) (by simpa using hon) hxx⟩
        intro w' hw'
        simp only [Builtin.firstCells]
        exact load_win (by rw [hw']; exact hI.fz B _ hφ) hb
      | vsl0 =>
        rename_i A
        refine ⟨rfl, by simp [Builtin.lenOf], [], ?_, by simp [RowsAre]⟩
        intro w' _; cases A <;> simp [Builtin.firstCells, loadCells, loadCellsFrom]
    · cases h
  · rename_i b i n c0 tight
    split at h
    · rename_i s xs hm
      split at h
      · rename_i hs
        cases h
        have : s = sz := by simpa using hs
        subst this
        cases hx with
        | sl hσ h1 h2 h3 h4 =>
          rename_i cap' img
          obtain ⟨c, e, fr, e2, e3, e4, e5, e5o, e6, _⟩ := row_at hI hm hσ
          have hsub : (sub xs i k).length = k := sub_len hp
          have hm1 : i * s + k * s ≤ xs.length * s := by rw [← Nat.add_mul]; exact Nat.mul_le_mul_right _ hp
          refine ⟨hsub, by simp [Builtin.lenOf], _, ?_, RowsAre.window (c := c.toList) (o := img.o + i * s) (xs := sub xs i k) (by rw [hsub]; simp; omega) (fun p u p1 p2 pu => e5o p u (by omega) (by rw [hsub] at p2; omega) (by simpa using pu)) (fun j x hx' => by
            have := e6 (i + j) x (sub_get hx')
            rw [show img.o + i * s + j * s = img.o + (i + j) * s by rw [Nat.add_mul]; omega]; exact this)⟩
          intro w' hw'
          simp only [Builtin.firstCells, e2, hsub]
          exact load_win (by rw [hw']; exact e3) (by omega)
        | sl0 =>
          rename_i A
          refine ⟨by simp [sub], by simp [Builtin.lenOf], [], ?_, by simp [RowsAre, sub]⟩
          intro w' _; cases A <;> simp [Builtin.firstCells, loadCells, loadCellsFrom]
      · cases h
    · cases h
  · rename_i s
    split at h
    · rename_i hs
      cases h
      have : sz = 1 := by simpa using hs
      subst this
      cases hx
      refine ⟨by simp [bytes], by simp [Builtin.lenOf, size_mk], _, ?_, bytes_rows s⟩
      intro w' _
      simp only [Builtin.firstCells, Sem.run_pure]
      congr 1
      apply Array.ext'
      rw [Array.toList_map, Lib.extract_data]
      simp
    · cases h
  · cases h

/-! ### append -/
theorem growBy_le (n : Nat) : ∀ (r c : Nat), c ≤ 2 * n + 1000 → Builtin.growBy n r c ≤ 2 * n + 1000
  | 0, c, h => h
  | r + 1, c, h => by
    simp only [Builtin.growBy]
    split
    · exact h
    · exact growBy_le n r _ (by omega)
theorem nextcap_le {n c : Nat} (h : c < n) : Builtin.nextslicecap n c ≤ 2 * n + 1000 := by
  unfold Builtin.nextslicecap
  split
  · omega
  · split
    · omega
    · exact growBy_le n 4 c (by omega)

theorem app_run {st xt ty e : TypeId} {i : TypeInfo} {zv : Value} {d : TypeDesc} {base : Option Addr} {sLen sCap k : Nat} {x : Value} {oldc newc : Array Value}
    (hu : P.underlying st = some (.slice e)) (hi : P.info? e = some i) (hz : i.zero = some zv) (hux : P.underlying xt = some d) (hd : isIntD d = false)
    (hlen : (Builtin.lenOf x).run P w = .ok k w) (hnew : ∀ w' : World, w'.heap = w.heap → (Builtin.firstCells i.size k x).run P w' = .ok newc w')
    (hold : ∀ w' : World, w'.heap = w.heap → (Builtin.firstCells i.size sLen (.slice base sLen sCap)).run P w' = .ok oldc w') (hb : i.bytes ≤ 1024) (hs : sLen + k ≤ 2 ^ 30) {ats : Array TypeId} (h0 : ats[0]? = some st) (h1 : ats[1]? = some xt) (h0b : 0 < i.bytes) :
    (sLen + k ≤ sCap → ∀ w', (match base with | some A => (storeCells (A.add (sLen * i.size)) newc.toList).run P w = .ok () w' | none => w' = w) →
      (Builtin.append_ ats ty #[.slice base sLen sCap, x]).run P w = .ok (.slice base (sLen + k) sCap) w') ∧
    (¬ sLen + k ≤ sCap → (Builtin.append_ ats ty #[.slice base sLen sCap, x]).run P w =
      .ok (.slice (some ⟨w.heap.size, 0, none⟩) (sLen + k) (grownCap w (sLen + k) sCap e)) (w.drew.alloc (.cells (oldc ++ newc ++ Builtin.zeroCells zv.cells (grownCap w (sLen + k) sCap e - (sLen + k))) e))) := by
  have hn := hnew w rfl
  have hn' := hnew w.drew rfl
  have ho' := hold w.drew rfl
  have hsize : ∀ W : World, (sizeOf e).run P W = .ok i.size W := fun W => size_run (by simp [szT, hi])
  have hu1 : ∀ W : World, (underlying st).run P W = .ok (.slice e) W := fun W => und_run hu
  have hu2 : ∀ W : World, (underlying xt).run P W = .ok d W := fun W => und_run hux
  have e0 : (#[Value.slice base sLen sCap, x] : Array Value)[0]? = some (.slice base sLen sCap) := rfl
  have e1 : (#[Value.slice base sLen sCap, x] : Array Value)[1]? = some x := rfl
  constructor
  · intro hle w' hw'
    have hst : ∀ A : Addr, base = some A → (storeCells (A.add (sLen * i.size)) newc.toList).run P w = .ok () w' := by
      intro A hA; subst hA; exact hw'
    have hno : base = none → w' = w := by intro hA; subst hA; exact hw'
    clear hw'
    simp only [Builtin.append_, h0, h1, e0, e1, Sem.run_bind, hu1, Result.andThen_ok, hsize, hu2, Sem.run_pure]
    cases d <;> first | (simp [isIntD] at hd; done) | skip
    all_goals simp only [Bool.false_eq_true, if_false, Bool.not_false, if_true, Sem.run_bind, hlen, Result.andThen_ok, hle, hn]
    all_goals
      cases base with
      | none => rw [hno rfl]; rfl
      | some A => simp only [Sem.run_bind, hst A rfl, Result.andThen_ok]; rfl
  · intro hle
    have hlt : sCap < sLen + k := by omega
    have hcap := nextcap_le hlt
    have hmul : Builtin.nextslicecap (sLen + k) sCap * i.bytes ≤ (2 * (sLen + k) + 1000) * 1024 := Nat.mul_le_mul hcap hb
    have hbig : ¬ (Builtin.nextslicecap (sLen + k) sCap * i.bytes > 2 ^ 48) := by omega
    have hne : ¬ i.bytes = 0 := by omega
    have hty : ∀ W : World, (typeInfo e).run P W = .ok i W := fun W => by simp [typeInfo, hi]
    have hzv : ∀ W : World, (zeroValue e).run P W = .ok zv W := fun W => by simp [zeroValue, typeInfo, hi, hz]
    simp only [Builtin.append_, h0, h1, e0, e1, Sem.run_bind, hu1, Result.andThen_ok, hsize, hu2, Sem.run_pure]
    cases d <;> first | (simp [isIntD] at hd; done) | skip
    all_goals simp only [Bool.false_eq_true, if_false, Bool.not_false, if_true, Sem.run_bind, hlen, Result.andThen_ok, hle, hty, hne, false_or, and_false, hbig, Sem.run_pure, run_choose, Question.forced, run_askRoom]
    all_goals
      rw [show ({ w with drawn := w.drawn + 1 } : World) = w.drew from rfl]
      simp only [ho', hn', Result.andThen_ok, hzv, Sem.run_bind, newRow, run_newObj]
      rfl
end Go.AE
