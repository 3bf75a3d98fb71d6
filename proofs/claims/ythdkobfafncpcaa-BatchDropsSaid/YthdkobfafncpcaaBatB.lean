/- Orders: tidy ones. -/
import Derived.Test.YthdkobfafncpcaaBatA
namespace Go.AEX
open Go Go.AE Go.Proofs
set_option maxRecDepth 100000
set_option linter.unusedVariables false
set_option linter.unusedSimpArgs false

def tdO (o : Ord) : Ord :=
  if (ibits .and .i64 o.1 255).tmod 4 = 1 then (2, 1 + ibits .and .i64 o.2.1 63, 1 + ibits .and .i64 o.2.2.1 127, 0)
  else if (ibits .and .i64 o.1 255).tmod 4 = 2 then (3, 0, 1 + ibits .and .i64 o.2.2.1 127, ibits .and .i64 o.2.2.2 127)
  else if (ibits .and .i64 o.1 255).tmod 4 = 3 then (4, 1 + ibits .and .i64 o.2.1 63, 0, 0)
  else (1, 1 + ibits .and .i64 o.2.1 63, 1 + ibits .and .i64 o.2.2.1 127, ibits .and .i64 o.2.2.2 127)
theorem tdO_ok (o : Ord) : okO (tdO o) := by
  obtain ⟨u, hu, hu2⟩ := and_i64 o.2.1 (k := 63) (by decide)
  obtain ⟨a, ha, ha2⟩ := and_i64 o.2.2.1 (k := 127) (by decide)
  obtain ⟨b, hb, hb2⟩ := and_i64 o.2.2.2 (k := 127) (by decide)
  have hu : ibits .and .i64 o.2.1 63 = (u : Int) := hu
  have ha : ibits .and .i64 o.2.2.1 127 = (a : Int) := ha
  have hb : ibits .and .i64 o.2.2.2 127 = (b : Int) := hb
  have e : tdO o = (if (ibits .and .i64 o.1 255).tmod 4 = 1 then (2, 1 + (u : Int), 1 + (a : Int), 0) else if (ibits .and .i64 o.1 255).tmod 4 = 2 then (3, 0, 1 + (a : Int), (b : Int)) else if (ibits .and .i64 o.1 255).tmod 4 = 3 then (4, 1 + (u : Int), 0, 0) else (1, 1 + (u : Int), 1 + (a : Int), (b : Int))) := by
    unfold tdO; rw [hu, ha, hb]
  rw [e]
  by_cases c1 : (ibits .and .i64 o.1 255).tmod 4 = 1
  · rw [if_pos c1]; refine .inr (.inl ⟨rfl, ?_, ?_, ?_, ?_, rfl⟩) <;> simp only <;> omega
  rw [if_neg c1]
  by_cases c2 : (ibits .and .i64 o.1 255).tmod 4 = 2
  · rw [if_pos c2]; refine .inr (.inr (.inl ⟨rfl, rfl, ?_, ?_, ?_, ?_⟩)) <;> simp only <;> omega
  rw [if_neg c2]
  by_cases c3 : (ibits .and .i64 o.1 255).tmod 4 = 3
  · rw [if_pos c3]; refine .inr (.inr (.inr ⟨rfl, ?_, ?_, rfl, rfl⟩)) <;> simp only <;> omega
  rw [if_neg c3]; refine .inl ⟨rfl, ?_, ?_, ?_, ?_, ?_, ?_⟩ <;> simp only <;> omega
def td (L : List Ord) : List Ord := (L.take 8).map tdO
theorem td_ok (L : List Ord) : ∀ o ∈ td L, okO o := fun o h => by
  obtain ⟨x, _, rfl⟩ := List.mem_map.1 h; exact tdO_ok x
theorem td_len (L : List Ord) : (td L).length ≤ 8 := by simp [td]; omega
theorem tidy_spec (L : List Ord) : Tri Try.prog 11 [.vsl 4 (orows L) false] [] (fun v m => v = .vsl 4 (orows (td L)) false ∧ m = []) := by
  refine Tri.post ?_
  refine (Tri.enter (rl := r11) (code := c11) (by kernel_rfl) Try.func11 rfl c11_ok (by kernel_rfl) (by kernel_rfl) ?_)
  refine run_ok 4000 _ _ _ _ ?_
  simp (maxSteps := 10000000) only [go_sem, c11, r11]
  refine sem_virt 3 4 rfl ?_
  simp (maxSteps := 10000000) only [go_sem]
  refine sem_rounds (fun i : Nat => i ≤ L.length)
    (fun i => [(0, .vsl 4 (orows L) false), (3, .sl 0 0 (td (L.take i)).length (td (L.take i)).length false), (4, .int .i64 (i : Nat))])
    (fun i => [.row 4 (orows (td (L.take i)))]) (fun i => L.length - i) 0 [0] (Nat.zero_le _) ?_ ?_
  · simp [Emb, go_sem, td, orows]
  intro i hi
  by_cases c : i < L.length
  · have hin : (i : Int) < (L.length : Int) := by omega
    by_cases c2 : i < 8
    · have hin2 : (i : Int) < 8 := by omega
      have w1 := inc64 (show i < 1000000000000 by omega)
      have r0 := orows_r0 c; have r1 := orows_r1 c; have r2 := orows_r2 c; have r3 := orows_r3 c
      have h0 := orows_h0 c; have h1 := orows_h1 c; have h2 := orows_h2 c; have h3 := orows_h3 c
      have hnext : td (L.take (i + 1)) = td (L.take i) ++ [tdO L[i]] := by
        unfold td
        rw [List.take_take, List.take_take, show min 8 (i + 1) = i + 1 by omega, show min 8 i = i by omega, List.take_succ_eq_append_getElem c, List.map_append]; rfl
      have hlT := td_len (L.take i)
      have hsm : small ((td (L.take i)).length + 1) := by unfold small; omega
      generalize td (L.take i) = T at *
      generalize L[i] = o at *
      obtain ⟨k, u, a, b⟩ := o
      simp only at r0 r1 r2 r3
      obtain ⟨K, hk, hk2⟩ := and_i64 k (k := 255) (by decide)
      obtain ⟨U, hu, hu2⟩ := and_i64 u (k := 63) (by decide)
      obtain ⟨A, ha, ha2⟩ := and_i64 a (k := 127) (by decide)
      obtain ⟨B, hb, hb2⟩ := and_i64 b (k := 127) (by decide)
      have hk : ibits .and .i64 k 255 = (K : Int) := hk
      have hu : ibits .and .i64 u 63 = (U : Int) := hu
      have ha : ibits .and .i64 a 127 = (A : Int) := ha
      have hb : ibits .and .i64 b 127 = (B : Int) := hb
      have m1 : (K : Int).tmod 4 = ((K % 4 : Nat) : Int) := rfl
      have w2 : iwrap .i64 ((1 : Int) + (U : Int)) = 1 + (U : Int) := iwrap_i64_in (by omega)
      have w3 : iwrap .i64 ((1 : Int) + (A : Int)) = 1 + (A : Int) := iwrap_i64_in (by omega)
      have hm4 : K % 4 = 0 ∨ K % 4 = 1 ∨ K % 4 = 2 ∨ K % 4 = 3 := by omega
      rcases hm4 with e | e | e | e
      · have m1 : (K : Int).tmod 4 = 0 := by rw [m1, e]; rfl
        have htd : tdO (k, u, a, b) = (1, 1 + (U : Int), 1 + (A : Int), (B : Int)) := by unfold tdO; simp only [hk, hu, ha, hb, m1]; rfl
        have w4 : iwrap .i64 (1 : Int) = 1 := rfl
        skip
        refine run_ok 4000 _ _ _ _ ?_
        simp (maxSteps := 10000000) only [go_sem, hin, hin2, w1, w2, w3, w4, r0, r1, r2, r3, h0, h1, h2, h3, hk, hu, ha, hb, m1, orows_len, orows_all, Int.natCast_nonneg, Nat.le_refl]
        refine ⟨hsm, ?_⟩
        refine ⟨i + 1, by omega, c, [2], ?_⟩
        simp only [hnext, htd, List.length_append, List.length_singleton]
        rw [orows_one, orows_app]
        simp only [Emb, go_sem]
      · have m1 : (K : Int).tmod 4 = 1 := by rw [m1, e]; rfl
        have htd : tdO (k, u, a, b) = (2, 1 + (U : Int), 1 + (A : Int), 0) := by unfold tdO; simp only [hk, hu, ha, hb, m1]; rfl
        have w4 : iwrap .i64 (2 : Int) = 2 := rfl
        skip
        refine run_ok 4000 _ _ _ _ ?_
        simp (maxSteps := 10000000) only [go_sem, hin, hin2, w1, w2, w3, w4, r0, r1, r2, r3, h0, h1, h2, h3, hk, hu, ha, hb, m1, orows_len, orows_all, Int.natCast_nonneg, Nat.le_refl]
        refine ⟨hsm, ?_⟩
        refine ⟨i + 1, by omega, c, [2], ?_⟩
        simp only [hnext, htd, List.length_append, List.length_singleton]
        rw [orows_one, orows_app]
        simp only [Emb, go_sem]
      · have m1 : (K : Int).tmod 4 = 2 := by rw [m1, e]; rfl
        have htd : tdO (k, u, a, b) = (3, 0, 1 + (A : Int), (B : Int)) := by unfold tdO; simp only [hk, hu, ha, hb, m1]; rfl
        have w4 : iwrap .i64 (3 : Int) = 3 := rfl
        skip
        refine run_ok 4000 _ _ _ _ ?_
        simp (maxSteps := 10000000) only [go_sem, hin, hin2, w1, w2, w3, w4, r0, r1, r2, r3, h0, h1, h2, h3, hk, hu, ha, hb, m1, orows_len, orows_all, Int.natCast_nonneg, Nat.le_refl]
        refine ⟨hsm, ?_⟩
        refine ⟨i + 1, by omega, c, [2], ?_⟩
        simp only [hnext, htd, List.length_append, List.length_singleton]
        rw [orows_one, orows_app]
        simp only [Emb, go_sem]
      · have m1 : (K : Int).tmod 4 = 3 := by rw [m1, e]; rfl
        have htd : tdO (k, u, a, b) = (4, 1 + (U : Int), 0, 0) := by unfold tdO; simp only [hk, hu, ha, hb, m1]; rfl
        have w4 : iwrap .i64 (4 : Int) = 4 := rfl
        skip
        refine run_ok 4000 _ _ _ _ ?_
        simp (maxSteps := 10000000) only [go_sem, hin, hin2, w1, w2, w3, w4, r0, r1, r2, r3, h0, h1, h2, h3, hk, hu, ha, hb, m1, orows_len, orows_all, Int.natCast_nonneg, Nat.le_refl]
        refine ⟨hsm, ?_⟩
        refine ⟨i + 1, by omega, c, [2], ?_⟩
        simp only [hnext, htd, List.length_append, List.length_singleton]
        rw [orows_one, orows_app]
        simp only [Emb, go_sem]
    · have hin2 : ¬ (i : Int) < 8 := by omega
      have hT : td (L.take i) = td L := by unfold td; rw [List.take_take, show min 8 i = 8 by omega]
      rw [hT]
      skip
      refine run_ok 4000 _ _ _ _ ?_
      simp (maxSteps := 10000000) only [go_sem, hin, hin2, orows_len]
      refine run_ok 4000 _ _ _ _ ?_
      simp (maxSteps := 10000000) only [go_sem, hin, hin2, orows_len]
      refine ⟨_, _, .fz 0 rfl (by simp only [go_sem, orows_len, Nat.le_refl]) (.sub [] ?_ .done), rfl, rfl⟩
      simp only [EmbV, go_sem, orows_all]
  · have hin : ¬ (i : Int) < (L.length : Int) := by omega
    have hT : td (L.take i) = td L := by rw [List.take_of_length_le (by omega)]
    rw [hT]
    skip
    refine run_ok 4000 _ _ _ _ ?_
    simp (maxSteps := 10000000) only [go_sem, hin, orows_len]
    refine run_ok 4000 _ _ _ _ ?_
    simp (maxSteps := 10000000) only [go_sem, hin, orows_len]
    refine ⟨_, _, .fz 0 rfl (by simp only [go_sem, orows_len, Nat.le_refl]) (.sub [] ?_ .done), rfl, rfl⟩
    simp only [EmbV, go_sem, orows_all]
end Go.AEX
