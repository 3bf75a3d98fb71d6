/- Seat rT: messages in parts come together again (CotillionParts): in plain words. -/
import Derived.Test.YtpbmlaolpfaicaaTCar
import Derived.Test.YtpbmlaolpfaicaaTFrag
import Derived.Test.YtpbmlaolpfaicaaTLive
import Derived.Test.YtpbmlaolpfaicaaAEzq
namespace Go.AEX
open Go Go.AE Go.Proofs
set_option maxRecDepth 100000
set_option linter.unusedVariables false
set_option linter.unusedSimpArgs false

theorem allJ_app : ∀ (A B : List Part) (s : List UInt8) (n : Nat), (allJ s n A).2 = 0 →
    allJ s n (A ++ B) = ((allJ s n A).1 ++ (allJ (allS s n A).1 (allS s n A).2 B).1, (allJ (allS s n A).1 (allS s n A).2 B).2) ∧ allS s n (A ++ B) = allS (allS s n A).1 (allS s n A).2 B
  | [], B, s, n, _ => by simp [allJ, allS]
  | p :: A, B, s, n, h => by
    simp only [allJ] at h
    by_cases e : (putV s p.1 p.2).2.2 ≠ 0
    · rw [if_pos e] at h; exact absurd h e
    · rw [if_neg e] at h
      obtain ⟨h1, h2⟩ := allJ_app A B (putS s n p.1 p.2).1 (putS s n p.1 p.2).2 h
      simp only [List.cons_append, allJ, allS, if_neg e, h1, h2, and_true]
      split <;> simp
theorem allJ_pre : ∀ (A B : List Part) (s : List UInt8) (n : Nat), (allJ s n (A ++ B)).2 = 0 → (allJ s n A).2 = 0
  | [], B, s, n, _ => by simp [allJ]
  | p :: A, B, s, n, h => by
    simp only [List.cons_append, allJ] at h ⊢
    by_cases e : (putV s p.1 p.2).2.2 ≠ 0
    · rw [if_pos e] at h; exact absurd h e
    · rw [if_neg e] at h ⊢
      exact allJ_pre A B _ _ h
theorem allS_len : ∀ (A : List Part) (s : List UInt8) (n : Nat), s.length ≤ 65536 → n + A.length ≤ 900000 → (allS s n A).1.length ≤ 65536 ∧ (allS s n A).2 ≤ n + A.length
  | [], s, n, h1, h2 => by simp [allS]; exact h1
  | p :: A, s, n, h1, h2 => by
    simp only [List.length_cons] at h2 ⊢
    obtain ⟨q1, q2⟩ := putS_len s n p.1 p.2 h1 (by omega)
    simp only [allS]
    by_cases e : (putV s p.1 p.2).2.2 ≠ 0
    · rw [if_pos e]; exact ⟨q1, by omega⟩
    · rw [if_neg e]
      obtain ⟨r1, r2⟩ := allS_len A (putS s n p.1 p.2).1 (putS s n p.1 p.2).2 q1 (by omega)
      exact ⟨r1, by omega⟩
def gotP (P : List Part) (m : Nat) : List (List UInt8) := (allJ [] 0 (P.take m)).1
def opnP (P : List Part) (m : Nat) : List UInt8 × Nat := allS [] 0 (P.take m)
theorem part_next {P : List Part} (h : (allJ [] 0 P).2 = 0) {m : Nat} (hm : m < P.length) :
    allJ (opnP P m).1 (opnP P m).2 [P[m]] = ((allJ (opnP P m).1 (opnP P m).2 [P[m]]).1, 0) ∧ gotP P (m + 1) = gotP P m ++ (allJ (opnP P m).1 (opnP P m).2 [P[m]]).1 ∧ opnP P (m + 1) = allS (opnP P m).1 (opnP P m).2 [P[m]] := by
  have e1 : P.take (m + 1) = P.take m ++ [P[m]] := List.take_succ_eq_append_getElem hm
  have h1 : (allJ [] 0 (P.take (m + 1))).2 = 0 := allJ_pre _ (P.drop (m + 1)) _ _ (by rw [List.take_append_drop]; exact h)
  have h0 : (allJ [] 0 (P.take m)).2 = 0 := allJ_pre _ (P.drop m) _ _ (by rw [List.take_append_drop]; exact h)
  obtain ⟨q1, q2⟩ := allJ_app (P.take m) [P[m]] [] 0 h0
  rw [e1, q1] at h1
  unfold gotP opnP
  rw [e1, q1, q2]
  exact ⟨Prod.ext rfl h1, rfl, rfl⟩
theorem gotP_all {P : List Part} {W : List (List UInt8)} (h : allJ [] 0 P = (W, 0)) : gotP P P.length = W := by
  unfold gotP; rw [List.take_length, h]
def tfP (P : List Part) (x : Int) : List UInt8 := partB (P.getD (x - 1000).toNat (true, []))
theorem tfP_at {P : List Part} {m : Nat} (h : m < P.length) : tfP P (1000 + (m : Int)) = partB P[m] := by
  unfold tfP
  rw [show (1000 + (m : Int) - 1000).toNat = m by omega, List.getD_eq_getElem?_getD, List.getElem?_eq_getElem h]; rfl
theorem gotP_len {P : List Part} : ∀ (m : Nat), (allJ [] 0 P).2 = 0 → m ≤ P.length → (gotP P m).length ≤ m
  | 0, _, _ => by simp [gotP, allJ]
  | m + 1, h, hm => by
    have ih := gotP_len (P := P) m h (by omega)
    obtain ⟨_, e, _⟩ := part_next h (show m < P.length by omega)
    rw [e, List.length_append]
    have : (allJ (opnP P m).1 (opnP P m).2 [P[m]]).1.length ≤ 1 := by
      simp only [allJ]; split
      · simp
      · split <;> simp
    omega
theorem few_parts (l : List (List UInt8)) (k : Nat) (hk : k ≤ 8) : (partsOf (few l k 500)).length ≤ 24 ∧ (∀ p ∈ partsOf (few l k 500), p.2.length ≤ 200) ∧ allJ [] 0 (partsOf (few l k 500)) = (few l k 500, 0) := by
  have hs : ∀ s ∈ few l k 500, s.length ≤ 500 := by
    intro s hs; simp only [few, List.mem_map] at hs; obtain ⟨r, _, rfl⟩ := hs; simp; omega
  have hfl : (few l k 500).length ≤ 8 := by simp [few]; omega
  refine ⟨?_, ?_, allJ_msgs _ fun s h => by have := hs s h; omega⟩
  · generalize few l k 500 = W at *
    have : ∀ (W : List (List UInt8)), (∀ s ∈ W, s.length ≤ 500) → (partsOf W).length ≤ 3 * W.length := by
      intro W
      induction W with
      | nil => intro _; simp [partsOf]
      | cons s W ih =>
        intro h
        have h1 := cutP_len 2 s (by have := h s (by simp); omega)
        have h2 := ih fun x hx => h x (by simp [hx])
        simp only [partsOf, List.map_cons, List.flatten_cons, List.length_append, List.length_cons] at h2 ⊢
        omega
    have := this W hs
    omega
  · intro p hp
    simp only [partsOf, List.mem_flatten, List.mem_map] at hp
    obtain ⟨q, ⟨s, hsm, rfl⟩, hp⟩ := hp
    exact cutP_small 2 s (by have := hs s hsm; omega) p hp
theorem parseB_spec (p : Part) (h : p.2.length ≤ 200) : Tri Try.prog 24 [.str (partB p)] [] (fun v m => v = .tup [.agg [.bool p.1, .str p.2], .int .i64 0] ∧ m = []) := by
  have := parse_spec (partB p) (by simp [partB]; omega)
  rw [parse_partB p h] at this
  refine Tri.like (this.mono ?_)
  rintro _ _ ⟨rfl, rfl⟩
  exact ⟨_, Like.tup2 (Like.agg2 (Like.bool _) (Like.refl _)) (Like.refl _), rfl, rfl⟩
theorem leftR_first {M : Int} {K : Ent} {p : Int × List UInt8} {L : Ent} (hw : WOk M K) (hx : p.1 ≤ M + 32) (hc : p.1 < M ∨ ∃ q ∈ K, q.1 = p.1) : (leftR M (bitsR M K 32) (p :: L)).length ≤ L.length := by
  unfold leftR
  rw [List.filter_cons, (hasR_iff M K hw p.1 hx).2 hc]
  exact List.length_filter_le _ _
end Go.AEX
