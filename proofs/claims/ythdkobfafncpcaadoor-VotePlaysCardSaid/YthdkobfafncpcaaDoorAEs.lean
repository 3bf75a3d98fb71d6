/- The abstract evaluator: AEs in one. -/
import Derived.Test.YthdkobfafncpcaaDoorAEr
import Derived.SizedLaws
import Derived.ChangeSlices
import Derived.ChangeMaps
import Derived.SliceStrings
/- The abstract evaluator, part s: a law's arguments. -/
namespace Go.AE
open Go Go.ChangeShapes Go.WideShapes
set_option linter.unusedVariables false
set_option linter.unusedSimpArgs false

def iv (k : IntKind) (l : List Int) : List (List AV) := l.map fun z => [.int k z]
def IsInts (k : IntKind) (w : World) (a : Option Addr) (len cap : Nat) (zs : List Int) : Prop :=
  (a = none ∧ len = 0 ∧ cap = 0 ∧ zs = []) ∨
  ∃ x, a = some x ∧ len ≤ cap ∧ cap ≤ maxLen ∧ zs.length = cap ∧ (∀ i, i < zs.length → w.cell? (x.add i) = some (.int k (zs.getD i 0))) ∧ ∀ n ∈ zs, (Lit.int k n).wf = true

theorem VR.ints {k : IntKind} {w : World} {a : Option Addr} {len cap : Nat} {zs : List Int} (h : IsInts k w a len cap zs) :
    VR (fun B => w.heap[B]?) noS (.vsl 1 (iv k (zs.take len)) false) (.slice a len cap) := by
  rcases h with ⟨rfl, rfl, rfl, rfl⟩ | ⟨x, rfl, hl, hm, hz, hc, hw⟩
  · exact .vsl0
  · by_cases h0 : cap = 0
    · obtain rfl : len = 0 := by omega
      subst h0
      exact .vsl0
    · have look : ∀ (y : Addr) (u : Value), w.cell? y = some u → ∃ c e fr, w.heap[y.block]? = some (.cells c e fr) ∧ y.spot = none ∧ c[y.off]? = some u := by
        intro y u this
        unfold World.cell? at this
        split at this
        · rename_i c e fr hh
          cases hs : y.spot with
          | none => rw [hs] at this; exact ⟨c, e, fr, hh, rfl, by simpa using this⟩
          | some q => rw [hs] at this; simp at this
        · cases this
      have key : ∀ i, i < zs.length → ∃ c e fr, w.heap[x.block]? = some (.cells c e fr) ∧ c[x.off + i]? = some (.int k (zs.getD i 0)) := by
        intro i hi
        obtain ⟨c, e, fr, h1, h2, h3⟩ := look _ _ (hc i hi)
        by_cases hi0 : i = 0
        · subst hi0; exact ⟨c, e, fr, by simpa [Addr.add] using h1, by simpa [Addr.add] using h3⟩
        · exact ⟨c, e, fr, by simpa [Addr.add, hi0] using h1, by simpa [Addr.add, hi0] using h3⟩
      have hs : x.spot = none := by
        obtain ⟨c, e, fr, h1, h2, h3⟩ := look _ _ (hc 0 (by omega))
        simpa [Addr.add] using h2
      obtain ⟨c, e, fr, hh, _⟩ := key 0 (by omega)
      have cell : ∀ i, i < zs.length → c[x.off + i]? = some (.int k (zs.getD i 0)) := by
        intro i hi
        obtain ⟨c', e', fr', hh', h3⟩ := key i hi
        rw [hh] at hh'; cases hh'; exact h3
      have hlen : (iv k (zs.take len)).length = len := by simp [iv]; omega
      have hsz : x.off + cap ≤ c.size := by
        have := cell (cap - 1) (by omega)
        have : x.off + (cap - 1) < c.size := by
          rcases Nat.lt_or_ge (x.off + (cap - 1)) c.size with h | h
          · exact h
          · rw [Array.getElem?_eq_none h] at this; cases this
        omega
      obtain ⟨B, o, sp⟩ := x
      simp only at hs cell hsz hh
      subst hs
      have := VR.vsl (φ := fun B => w.heap[B]?) (σ := noS) (sz := 1) (xs := iv k (zs.take len)) (tight := false) (B := B) (o := o) (cap' := cap) hh (by rw [hlen]; omega) ?_ ?_ (by rw [hlen]; exact hl) (fun e => by cases e)
      · rw [hlen] at this; exact this
      · intro p u h1 h2 hu
        rw [hlen] at h2
        have := cell (p - o) (by omega)
        rw [show o + (p - o) = p by omega, hu] at this
        cases this; rfl
      · intro i y hy
        have hi : i < len := by
          rcases Nat.lt_or_ge i len with h | h
          · exact h
          · rw [List.getElem?_eq_none (by omega)] at hy; cases hy
        have hci := cell i (by omega)
        have hlt : o + i < c.size := by omega
        have hd : (c.toList.drop (o + i * 1)).take 1 = [.int k (zs.getD i 0)] := by
          rw [Nat.mul_one, List.drop_eq_getElem_cons (by simpa using hlt)]
          simp only [List.take_succ_cons, List.take_zero]
          rw [Array.getElem?_eq_getElem hlt] at hci
          simp only [Array.getElem_toList]
          rw [Option.some.inj hci]
        rw [hd]
        have : y = [.int k (zs.getD i 0)] := by
          have h3 : (zs.take len)[i]? = some (zs.getD i 0) := by
            rw [List.getElem?_take_of_lt hi, List.getElem?_eq_getElem (by omega)]; simp [List.getD_eq_getElem?_getD, List.getElem?_eq_getElem (show i < zs.length by omega)]
          simp only [iv, List.getElem?_map, h3, Option.map_some] at hy
          exact (Option.some.inj hy).symm
        subst this
        exact .cons .int .nil

theorem VR.ones {w : World} {x : Addr} {len cap : Nat} {as : List AV} {us : Nat → Value} (has : as.length = len) (hl : len ≤ cap) (hc : ∀ i, i < cap → w.cell? (x.add i) = some (us i)) (h1 : ∀ i, (us i).oneCell' = true)
    (hv : ∀ i a, as[i]? = some a → VR (fun B => w.heap[B]?) noS a (us i)) : VR (fun B => w.heap[B]?) noS (.vsl 1 (as.map fun a => [a]) false) (.slice (some x) len cap) := by
  by_cases h0 : cap = 0
  · obtain rfl : len = 0 := by omega
    subst h0
    obtain rfl : as = [] := List.length_eq_zero_iff.1 has
    exact .vsl0
  · have look : ∀ (y : Addr) (u : Value), w.cell? y = some u → ∃ c e fr, w.heap[y.block]? = some (.cells c e fr) ∧ y.spot = none ∧ c[y.off]? = some u := by
      intro y u this
      unfold World.cell? at this
      split at this
      · rename_i c e fr hh
        cases hs : y.spot with
        | none => rw [hs] at this; exact ⟨c, e, fr, hh, rfl, by simpa using this⟩
        | some q => rw [hs] at this; simp at this
      · cases this
    have key : ∀ i, i < cap → ∃ c e fr, w.heap[x.block]? = some (.cells c e fr) ∧ c[x.off + i]? = some (us i) := by
      intro i hi
      obtain ⟨c, e, fr, h1, h2, h3⟩ := look _ _ (hc i hi)
      by_cases hi0 : i = 0
      · subst hi0; exact ⟨c, e, fr, by simpa [Addr.add] using h1, by simpa [Addr.add] using h3⟩
      · exact ⟨c, e, fr, by simpa [Addr.add, hi0] using h1, by simpa [Addr.add, hi0] using h3⟩
    have hs : x.spot = none := by
      obtain ⟨c, e, fr, h1, h2, h3⟩ := look _ _ (hc 0 (by omega))
      simpa [Addr.add] using h2
    obtain ⟨c, e, fr, hh, _⟩ := key 0 (by omega)
    have cell : ∀ i, i < cap → c[x.off + i]? = some (us i) := by
      intro i hi
      obtain ⟨c', e', fr', hh', h3⟩ := key i hi
      rw [hh] at hh'; cases hh'; exact h3
    have hlen : (as.map fun a => [a]).length = len := by simp [has]
    have hsz : x.off + cap ≤ c.size := by
      have := cell (cap - 1) (by omega)
      have : x.off + (cap - 1) < c.size := by
        rcases Nat.lt_or_ge (x.off + (cap - 1)) c.size with h | h
        · exact h
        · rw [Array.getElem?_eq_none h] at this; cases this
      omega
    obtain ⟨B, o, sp⟩ := x
    simp only at hs cell hsz hh
    subst hs
    have := VR.vsl (φ := fun B => w.heap[B]?) (σ := noS) (sz := 1) (xs := as.map fun a => [a]) (tight := false) (B := B) (o := o) (cap' := cap) hh (by rw [hlen]; omega) ?_ ?_ (by rw [hlen]; exact hl) (fun e => by cases e)
    · rw [hlen] at this; exact this
    · intro p u q1 q2 hu
      rw [hlen] at q2
      have := cell (p - o) (by omega)
      rw [show o + (p - o) = p by omega, hu] at this
      rw [Option.some.inj this]; exact h1 _
    · intro i y hy
      have hi : i < len := by
        rcases Nat.lt_or_ge i len with h | h
        · exact h
        · rw [List.getElem?_eq_none (by omega)] at hy; cases hy
      have hci := cell i (by omega)
      have hlt : o + i < c.size := by omega
      have hd : (c.toList.drop (o + i * 1)).take 1 = [us i] := by
        rw [Nat.mul_one, List.drop_eq_getElem_cons (by simpa using hlt)]
        simp only [List.take_succ_cons, List.take_zero]
        rw [Array.getElem?_eq_getElem hlt] at hci
        simp only [Array.getElem_toList]
        rw [Option.some.inj hci]
      rw [hd]
      rw [List.getElem?_map] at hy
      cases ha : as[i]? with
      | none => rw [ha] at hy; cases hy
      | some a => rw [ha] at hy; cases hy; exact .cons (hv i a ha) .nil

theorem VR.ba {φ : Fz} {σ : Sg} (s : ByteArray) : VR φ σ (.str s.data.toList) (.string s) := by
  have := VR.str (φ := φ) (σ := σ) (s := s.data.toList); simpa using this
def sv (l : List (List UInt8)) : List (List AV) := l.map fun z => [.str z]
def IsStrs (w : World) (a : Option Addr) (len cap : Nat) (ss : List ByteArray) : Prop :=
  (a = none ∧ len = 0 ∧ cap = 0 ∧ ss = []) ∨
  ∃ x, a = some x ∧ len ≤ cap ∧ cap ≤ maxLen ∧ ss.length = cap ∧ (∀ i, i < ss.length → w.cell? (x.add i) = some (.string (ss.getD i ByteArray.empty))) ∧ ∀ s ∈ ss, s.size ≤ maxLen
def toLs (ss : List ByteArray) : List (List UInt8) := ss.map fun s => s.data.toList
theorem IsStrs.le {w : World} {a : Option Addr} {len cap : Nat} {ss : List ByteArray} (h : IsStrs w a len cap ss) : (toLs (ss.take len)).length ≤ 9223372036854775807 ∧ ∀ s ∈ toLs (ss.take len), s.length ≤ 9223372036854775807 := by
  rcases h with ⟨rfl, rfl, rfl, rfl⟩ | ⟨x, rfl, hl, hm, hz, hc, hw⟩
  · simp [toLs]
  · have hM : maxLen = 9223372036854775807 := by decide
    refine ⟨by simp [toLs]; omega, fun s hs => ?_⟩
    simp only [toLs, List.mem_map] at hs
    obtain ⟨b, hb, rfl⟩ := hs
    have := hw b (List.mem_of_mem_take hb)
    rw [Array.length_toList]
    show b.size ≤ _
    omega

theorem IsInts.len {k : IntKind} {w : World} {a : Option Addr} {len cap : Nat} {zs : List Int} (h : IsInts k w a len cap zs) : (zs.take len).length = len := by
  rcases h with ⟨rfl, rfl, rfl, rfl⟩ | ⟨x, rfl, hl, hm, hz, hc, hw⟩
  · rfl
  · simp; omega
theorem IsInts.wf {k : IntKind} {w : World} {a : Option Addr} {len cap : Nat} {zs : List Int} (h : IsInts k w a len cap zs) : ∀ n ∈ zs.take len, (Lit.int k n).wf = true := by
  rcases h with ⟨rfl, rfl, rfl, rfl⟩ | ⟨x, rfl, hl, hm, hz, hc, hw⟩
  · simp
  · exact fun n hn => hw n (List.mem_of_mem_take hn)
end Go.AE
