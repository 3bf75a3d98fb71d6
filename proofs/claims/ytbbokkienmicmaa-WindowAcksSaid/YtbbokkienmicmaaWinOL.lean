/- Window: what is sent, in plain words. -/
import Derived.Test.YtbbokkienmicmaaWinOut3
namespace Go.AEX
open Go Go.AE Go.Proofs
set_option maxRecDepth 100000
set_option linter.unusedVariables false
set_option linter.unusedSimpArgs false

theorem shr_u32n (b k : Nat) (hk : k ≤ 31) : ishr .u32 (b : Int) (k : Int) = ((b / 2 ^ k : Nat) : Int) := by
  show (b : Int).fdiv (2 ^ min (Int.toNat (k : Int)) 32) = _
  rw [Int.toNat_natCast, Nat.min_eq_left (by omega), Int.fdiv_eq_ediv_of_nonneg _ (by exact_mod_cast Nat.zero_le _)]
  norm_cast
theorem and1_u32 (n : Nat) (h : n < 4294967296) : ibits .and .u32 (n : Int) 1 = ((n % 2 : Nat) : Int) := by
  show iwrap .u32 ((BitVec.ofInt 32 (n : Int) &&& BitVec.ofInt 32 ((1 : Nat) : Int)).toNat : Int) = _
  rw [BitVec.ofInt_natCast, BitVec.ofInt_natCast, BitVec.toNat_and, BitVec.toNat_ofNat, BitVec.toNat_ofNat, Nat.mod_eq_of_lt (show n < 2 ^ 32 by omega), Nat.mod_eq_of_lt (show 1 < 2 ^ 32 by omega), Nat.and_one_is_mod, iwrap_u32]
  omega
theorem has_map (F nx n : Int) (b : Nat) (hb : b < 4294967296) (h1 : n - nx < 1000000) (h2 : nx - n < 1000000) : hasW (kap F nx) (b : Int) (kap F n) = hasR nx b n := by
  have hd : iwrap .u32 (kap F n - kap F nx) = (n - nx) % 4294967296 := by rw [kap_eq, kap_eq, iwrap_u32]; omega
  unfold hasW hasR
  simp only [u32, hd]
  by_cases c0 : n < nx
  · rw [if_pos c0]
    have : (n - nx) % 4294967296 ≥ 2147483648 := by omega
    simp [this]
  rw [if_neg c0]
  have c1 : ¬ (n - nx) % 4294967296 ≥ 2147483648 := by omega
  by_cases c2 : n - nx - 1 < 0 ∨ n - nx - 1 > 31
  · rw [if_pos c2]
    rcases c2 with c2 | c2
    · have d1 : ¬ (n - nx) % 4294967296 ≥ 1 := by omega
      simp only [c1, d1, decide_false, Bool.false_or, Bool.false_and]
    · have d2 : ¬ (n - nx) % 4294967296 ≤ 32 := by omega
      simp only [c1, d2, decide_false, Bool.false_or, Bool.false_and, Bool.and_false]
  · rw [if_neg c2]
    obtain ⟨k, hk⟩ : ∃ k : Nat, n - nx - 1 = (k : Int) := ⟨(n - nx - 1).toNat, by omega⟩
    have hkn : (n - nx - 1).toNat = k := by omega
    have hw : iwrap .u32 ((n - nx) % 4294967296 - 1) = (k : Int) := by rw [iwrap_u32]; omega
    have hle : b / 2 ^ k ≤ b := Nat.div_le_self _ _
    have hs := shr_u32n b k (by omega)
    have ha := and1_u32 (b / 2 ^ k) (by omega)
    rw [hkn]
    have d1 : (n - nx) % 4294967296 ≥ 1 := by omega
    have d2 : (n - nx) % 4294967296 ≤ 32 := by omega
    rw [hw, hs, ha]
    simp only [c1, d1, d2, decide_false, decide_true, Bool.false_or, Bool.true_and]
    generalize b / 2 ^ k = q at *
    rw [Bool.eq_iff_iff]; simp; omega
theorem told_map (F nx : Int) (b : Nat) (hb : b < 4294967296) : ∀ {L : Ent}, (∀ p ∈ L, p.1 - nx < 1000000 ∧ nx - p.1 < 1000000) → toldW (kap F nx) b (mapK F L) = (toldR nx b L).map (kap F) ∧ leftW (kap F nx) b (mapK F L) = mapK F (leftR nx b L)
  | [], _ => ⟨rfl, rfl⟩
  | p :: L, h => by
    obtain ⟨i1, i2⟩ := told_map F nx b hb (L := L) (fun q hq => h q (by simp [hq]))
    have hp := h p (by simp)
    have hh := has_map F nx p.1 b hb hp.1 hp.2
    unfold toldW leftW toldR leftR mapK at *
    simp only [List.map_cons, List.filter_cons, hh]
    cases hasR nx b p.1 with
    | true => simp only [if_true, Bool.not_true, Bool.false_eq_true, if_false, List.map_cons, i1, i2, and_self]
    | false => simp only [Bool.not_false, if_true, Bool.false_eq_true, if_false, List.map_cons, i1, i2, and_self]
/-- What stands between two calls. -/
structure OOk (i : Nat) (N : Int) (L : Ent) : Prop where
  lo : 1000 ≤ N
  hi : N ≤ 1000 + i
  sorted : L.Pairwise (fun a b => a.1 < b.1)
  near : ∀ p ∈ L, N - 32 ≤ p.1 ∧ p.1 < N
  low : ∀ p ∈ L, 1000 ≤ p.1
theorem OOk.len {i : Nat} {N : Int} {L : Ent} (h : OOk i N L) : L.length ≤ 32 := by
  have hnd : (L.map (·.1)).Nodup := by
    rw [List.nodup_iff_pairwise_ne, List.pairwise_map]
    exact h.sorted.imp fun hab => by omega
  have := pigeon 32 (L.map (·.1)) (N - 33) hnd (fun x hx => by
    obtain ⟨p, hp, rfl⟩ := List.mem_map.1 hx
    have := h.near p hp
    omega)
  rwa [List.length_map] at this
theorem OOk.more {i : Nat} {N : Int} {L : Ent} (h : OOk i N L) : OOk (i + 1) N L := ⟨h.lo, by have := h.hi; omega, h.sorted, h.near, h.low⟩
theorem OOk.push {i : Nat} {N : Int} {L : Ent} (h : OOk i N L) (s : List UInt8) (hr : ∀ p ∈ L, N - p.1 < 32) : OOk (i + 1) (N + 1) (L ++ [(N, s)]) where
  lo := by have := h.lo; omega
  hi := by have := h.hi; omega
  sorted := by
    rw [List.pairwise_append]
    refine ⟨h.sorted, by simp, fun a ha b hb => ?_⟩
    simp at hb; subst hb
    exact (h.near a ha).2
  near := fun p hp => by
    rcases List.mem_append.1 hp with hp | hp
    · have := h.near p hp; have := hr p hp; omega
    · simp at hp; subst hp; simp only; omega
  low := fun p hp => by
    rcases List.mem_append.1 hp with hp | hp
    · exact h.low p hp
    · simp at hp; subst hp; exact h.lo
theorem OOk.sub {i : Nat} {N : Int} {L : Ent} (h : OOk i N L) (nx : Int) (b : Nat) : OOk (i + 1) N (leftR nx b L) where
  lo := h.lo
  hi := by have := h.hi; omega
  sorted := h.sorted.filter _
  near := fun p hp => h.near p (List.mem_filter.1 hp).1
  low := fun p hp => h.low p (List.mem_filter.1 hp).1
/-- The first one is the oldest. -/
theorem OOk.first {i : Nat} {N : Int} {p : Int × List UInt8} {L : Ent} (h : OOk i N (p :: L)) : ∀ q ∈ p :: L, p.1 ≤ q.1 := fun q hq => by
  rcases List.mem_cons.1 hq with rfl | hq
  · exact Int.le_refl _
  · have := (List.pairwise_cons.1 h.sorted).1 q hq; omega
theorem room_map (F : Int) {i : Nat} {N : Int} {p : Int × List UInt8} {L : Ent} (h : OOk i N (p :: L)) : roomW (kap F N) (mapK F (p :: L)) = decide (N - p.1 < 32) := by
  have hn := h.near p (by simp)
  have : iwrap .u32 (kap F N - kap F p.1) = N - p.1 := by rw [kap_eq, kap_eq, iwrap_u32]; omega
  show decide (iwrap .u32 (kap F N - kap F p.1) < 32) = _
  simp only [this]
end Go.AEX
