/- TimerMany. -/
import Derived.Test.YtleggkkbdmnfkaaTimA
namespace Go.AEX
open Go Go.AE Go.Proofs
set_option maxRecDepth 100000
set_option linter.unusedVariables false
set_option linter.unusedSimpArgs false

/-- Those that began at the given ticks. -/
def mkL (f : Int) (A : List Int) : List TE := A.zipIdx.map fun p => ⟨(p.2 : Nat), p.1 + f, f, 0⟩
/-- The same, behind their first. -/
def mkD (d w : Int) (k : Nat) : List TE := (List.range k).map fun j : Nat => ⟨(j : Nat), d, w, 1⟩
theorem mkL_len (f : Int) (A : List Int) : (mkL f A).length = A.length := by simp [mkL]
theorem mkD_len (d w : Int) (k : Nat) : (mkD d w k).length = k := by simp [mkD]
theorem mkL_app (f : Int) (A : List Int) (a : Int) : mkL f A ++ [⟨(A.length : Nat), a + f, f, 0⟩] = mkL f (A ++ [a]) := by
  simp [mkL, List.zipIdx_append]
theorem mkL_get (f : Int) (A : List Int) {j : Nat} (h : j < (mkL f A).length) : (mkL f A)[j] = ⟨(j : Nat), A[j]'(by rw [mkL_len] at h; exact h) + f, f, 0⟩ := by
  simp [mkL]
theorem mkL_mem {f : Int} {A : List Int} {e : TE} (h : e ∈ mkL f A) : ∃ (j : Nat) (hj : j < A.length), e = ⟨(j : Nat), A[j] + f, f, 0⟩ := by
  obtain ⟨j, hj, rfl⟩ := List.getElem_of_mem h
  exact ⟨j, by rw [mkL_len] at hj; exact hj, mkL_get f A hj⟩
theorem mkD_mem {d w : Int} {k : Nat} {e : TE} (h : e ∈ mkD d w k) : ∃ j : Nat, j < k ∧ e = ⟨(j : Nat), d, w, 1⟩ := by
  simp only [mkD, List.mem_map, List.mem_range] at h
  obtain ⟨j, hj, rfl⟩ := h
  exact ⟨j, hj, rfl⟩
theorem fdT_new (f : Int) (A : List Int) : fdT (mkL f A) (A.length : Nat) < 0 := by
  by_cases h : fdT (mkL f A) (A.length : Nat) < 0
  · exact h
  · obtain ⟨i, hi, _, e⟩ := fdT_ge (show 0 ≤ fdT (mkL f A) (A.length : Nat) by omega)
    rw [mkL_get] at e
    rw [mkL_len] at hi
    simp only at e
    omega
theorem fdT_old (f : Int) (A : List Int) (a : Int) : 0 ≤ fdT (mkL f (A ++ [a])) (A.length : Nat) := by
  by_cases h : fdT (mkL f (A ++ [a])) (A.length : Nat) < 0
  · refine absurd ?_ (fdT_lt h ⟨(A.length : Nat), a + f, f, 0⟩ (by rw [← mkL_app]; simp))
    rfl
  · omega
theorem fdT_at (d w : Int) {k j : Nat} (h : j < k) : fdT (mkD d w k) (j : Nat) = j := by
  have h0 : ¬ fdT (mkD d w k) (j : Nat) < 0 := by
    intro h1
    refine absurd ?_ (fdT_lt h1 ⟨(j : Nat), d, w, 1⟩ (by simp [mkD]; exact ⟨j, h, rfl⟩))
    rfl
  obtain ⟨i, hi, e1, e⟩ := fdT_ge (show 0 ≤ fdT (mkD d w k) (j : Nat) by omega)
  have : (mkD d w k)[i].n = (i : Nat) := by simp [mkD]
  omega
theorem mkD_times (d w : Int) {k j : Nat} (h : j < k) : ((mkD d w k).getD j ⟨0, 0, 0, 0⟩).times = 1 := by
  simp [mkD, List.getD_eq_getElem?_getD, h]
theorem mkL_upd (f now : Int) (A : List Int) (hf : 1 ≤ f ∧ f ≤ 8) (hA : ∀ a ∈ A, a ≤ now) : (mkL f A).map (updE 1000 (now + f)) = mkD (now + 3 * f) (2 * f) A.length := by
  apply List.ext_getElem
  · simp [mkL, mkD]
  · intro j h1 h2
    have hj : j < A.length := by simpa [mkL] using h1
    have := hA _ (List.getElem_mem hj)
    simp only [List.getElem_map, mkL_get, mkD, List.getElem_range, updE]
    rw [if_pos (by omega)]
    have e : min (2 * f) 1000 = 2 * f := by omega
    rw [e]
    congr 1
    omega
theorem mkD_upd (d w m now : Int) (k : Nat) (h : now < d) : (mkD d w k).map (updE m now) = mkD d w k := by
  simp only [mkD, List.map_map]
  apply List.map_congr_left
  intro j _
  simp only [Function.comp, updE]
  rw [if_neg (by omega)]
theorem mkL_due (f now : Int) (A : List Int) (hA : ∀ a ∈ A, a ≤ now) : dueL (now + f) (mkL f A) = mkL f A := by
  unfold dueL
  rw [List.filter_eq_self]
  intro e he
  obtain ⟨j, hj, rfl⟩ := mkL_mem he
  have := hA _ (List.getElem_mem hj)
  simp only [decide_eq_true_iff]; omega
theorem mkD_due (d w now : Int) (k : Nat) (h : d ≤ now) : dueL now (mkD d w k) = mkD d w k := by
  unfold dueL
  rw [List.filter_eq_self]
  intro e he
  obtain ⟨j, hj, rfl⟩ := mkD_mem he
  simpa using h
theorem mkD_none (d w now : Int) (k : Nat) (h : now < d) : dueL now (mkD d w k) = [] := by
  unfold dueL
  rw [List.filter_eq_nil_iff]
  intro e he
  obtain ⟨j, hj, rfl⟩ := mkD_mem he
  simpa using h
theorem mkL_stab (f : Int) (A : List Int) (hA : A.Pairwise (· ≤ ·)) : stab (mkL f A) = mkL f A := by
  unfold stab
  apply List.mergeSort_of_pairwise
  rw [List.pairwise_iff_getElem] at hA ⊢
  intro i j hi hj hij
  rw [mkL_get, mkL_get]
  rw [mkL_len] at hi hj
  have := hA i j hi hj hij
  simp only [leT, decide_eq_true_iff]; omega
def upto (k : Nat) : List Int := (List.range k).map fun j : Nat => (j : Int)
theorem upto_len (k : Nat) : (upto k).length = k := by simp [upto]
theorem upto_get {k j : Nat} (h : j < (upto k).length) : (upto k)[j] = (j : Int) := by simp [upto]
theorem mkL_nums (f : Int) (A : List Int) : numsT (mkL f A) = upto A.length := by
  apply List.ext_getElem
  · simp [numsT, mkL, upto]
  · intro j h1 h2
    simp [numsT, mkL, upto]
theorem mkL_ok (f now : Int) (A : List Int) (hf : 1 ≤ f ∧ f ≤ 8) (hA : ∀ a ∈ A, 0 ≤ a ∧ a ≤ now) (hn : now ≤ 1000) : TmOk (mkL f A) := by
  intro e he
  obtain ⟨j, hj, rfl⟩ := mkL_mem he
  have := hA _ (List.getElem_mem hj)
  simp only; omega
theorem mkD_ok (d w : Int) (k : Nat) (hd : 0 ≤ d ∧ d ≤ 1000) (hw : 0 ≤ w ∧ w ≤ 1000) : TmOk (mkD d w k) := by
  intro e he
  obtain ⟨j, hj, rfl⟩ := mkD_mem he
  simp only; omega
def MnI (S : List Int) (now : Int) (A : List Int) : Prop :=
  A.length ≤ S.length ∧ A.length ≤ 20 ∧ A.Pairwise (· ≤ ·) ∧ (∀ a ∈ A, 0 ≤ a ∧ a ≤ now) ∧ 0 ≤ now ∧ now ≤ 3 * A.length
theorem MnI.next {S A : List Int} {now b : Int} (h : MnI S now A) (hl : A.length < S.length) (h20 : A.length < 20) (hb : 0 ≤ b ∧ b ≤ 3) : MnI S (now + b) (A ++ [now + b]) := by
  obtain ⟨h1, h2, h3, h4, h5, h6⟩ := h
  unfold MnI
  rw [List.length_append, List.length_singleton]
  refine ⟨by omega, by omega, ?_, ?_, by omega, by omega⟩
  · rw [List.pairwise_append]
    refine ⟨h3, by simp, fun a ha b' hb' => ?_⟩
    simp at hb'
    have := h4 a ha
    omega
  · intro a ha
    rcases List.mem_append.1 ha with h | h
    · have := h4 a h; omega
    · simp at h; omega
end Go.AEX
