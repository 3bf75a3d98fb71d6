/- Turned to this seat by turn.py: BatA.lean BatB.lean BatC.lean. -/
import Derived.Test.YtpbmlaolpfaicaaCom
import Derived.Test.YtpbmlaolpfaicaaCG
import Derived.KernelRfl
import Derived.Test.YtpbmlaolpfaicaaAEsa
import Derived.Test.YtpbmlaolpfaicaaAEzj
namespace Go.AEX
open Go Go.AE Go.Proofs
set_option maxRecDepth 100000
set_option linter.unusedVariables false
set_option linter.unusedSimpArgs false

abbrev Ord := Int × Int × Int × Int
def orow (o : Ord) : List AV := [.int .i64 o.1, .int .i64 o.2.1, .int .i64 o.2.2.1, .int .i64 o.2.2.2]
def orows (l : List Ord) : List (List AV) := l.map orow
theorem orows_len (l : List Ord) : (orows l).length = l.length := by simp [orows]
theorem orows_get {l : List Ord} {i : Nat} (h : i < l.length) : (orows l)[i]? = some (orow l[i]) := by simp [orows, h]
theorem orows_h0 {l : List Ord} {i : Nat} (h : i < l.length) : hasI .i64 (orows l) i 0 := ⟨_, _, orows_get h, rfl⟩
theorem orows_h1 {l : List Ord} {i : Nat} (h : i < l.length) : hasI .i64 (orows l) i 1 := ⟨_, _, orows_get h, rfl⟩
theorem orows_h2 {l : List Ord} {i : Nat} (h : i < l.length) : hasI .i64 (orows l) i 2 := ⟨_, _, orows_get h, rfl⟩
theorem orows_h3 {l : List Ord} {i : Nat} (h : i < l.length) : hasI .i64 (orows l) i 3 := ⟨_, _, orows_get h, rfl⟩
theorem orows_r0 {l : List Ord} {i : Nat} (h : i < l.length) : rint (orows l) i 0 = l[i].1 := by simp [rint, List.getD_eq_getElem?_getD, orows_get h, orow]
theorem orows_r1 {l : List Ord} {i : Nat} (h : i < l.length) : rint (orows l) i 1 = l[i].2.1 := by simp [rint, List.getD_eq_getElem?_getD, orows_get h, orow]
theorem orows_r2 {l : List Ord} {i : Nat} (h : i < l.length) : rint (orows l) i 2 = l[i].2.2.1 := by simp [rint, List.getD_eq_getElem?_getD, orows_get h, orow]
theorem orows_r3 {l : List Ord} {i : Nat} (h : i < l.length) : rint (orows l) i 3 = l[i].2.2.2 := by simp [rint, List.getD_eq_getElem?_getD, orows_get h, orow]
theorem orows_app (a b : List Ord) : orows a ++ orows b = orows (a ++ b) := by simp [orows]
theorem orows_one (a b c d : Int) : [[AV.int .i64 a, AV.int .i64 b, AV.int .i64 c, AV.int .i64 d]] = orows [(a, b, c, d)] := rfl
theorem orows_all (l : List Ord) : sub (orows l) 0 l.length = orows l := by
  simp only [sub, List.drop_zero]; exact List.take_of_length_le (by simp [orows])
attribute [go_sem] Int.reduceGE Int.reduceGT
def okO (o : Ord) : Prop :=
  (o.1 = 1 ∧ 1 ≤ o.2.1 ∧ o.2.1 ≤ 64 ∧ 0 ≤ o.2.2.1 ∧ o.2.2.1 ≤ 128 ∧ 0 ≤ o.2.2.2 ∧ o.2.2.2 ≤ 128) ∨
  (o.1 = 2 ∧ 1 ≤ o.2.1 ∧ o.2.1 ≤ 64 ∧ 1 ≤ o.2.2.1 ∧ o.2.2.1 ≤ 128 ∧ o.2.2.2 = 0) ∨
  (o.1 = 3 ∧ o.2.1 = 0 ∧ 0 ≤ o.2.2.1 ∧ o.2.2.1 ≤ 128 ∧ 0 ≤ o.2.2.2 ∧ o.2.2.2 ≤ 128) ∨
  (o.1 = 4 ∧ 1 ≤ o.2.1 ∧ o.2.1 ≤ 64 ∧ o.2.2.1 = 0 ∧ o.2.2.2 = 0)
theorem far_spec (n : Int) (h : 0 ≤ n ∧ n ≤ 128) : Tri Try.prog 127 [.int .i64 n] [] (fun v m => v = .bsym false ∧ m = []) := by
  refine Tri.post ?_
  have h1 : ¬ n < -1000 := by omega
  have h2 : ¬ n > 1000 := by omega
  skip
  refine (Tri.enter (rl := r127) (code := c127) (by kernel_rfl) Try.func127 rfl c127_ok (by kernel_rfl) (by kernel_rfl) ?_)
  refine run_ok 4000 _ _ _ _ ?_
  simp (maxSteps := 10000000) only [go_sem, c127, r127, h1, h2]
  refine ⟨_, _, .sub [] ?_ .done, rfl, rfl⟩
  simp only [EmbV, go_sem]
theorem ocheck_spec (o : Ord) (h : okO o) : Tri Try.prog 101 [.agg (orow o)] [] (fun v m => v = .int .i64 0 ∧ m = []) := by
  obtain ⟨k, u, a, b⟩ := o
  unfold okO orow at *
  simp only at *
  refine Tri.post ?_
  rcases h with ⟨rfl, h⟩ | ⟨rfl, h⟩ | ⟨rfl, rfl, h⟩ | ⟨rfl, h1, h2, rfl, rfl⟩
  · have u1 : ¬ u < 0 := by omega
    have u2 : ¬ u ≥ 1099511627776 := by omega
    have u3 : (u == 0) = false := by simp; omega
    have f1 := far_spec a (by omega)
    have f2 := far_spec b (by omega)
    skip
    refine (Tri.enter (rl := r101) (code := c101) (by kernel_rfl) Try.func101 rfl c101_ok (by kernel_rfl) (by kernel_rfl) ?_)
    refine run_ok 4000 _ _ _ _ ?_
    simp (maxSteps := 10000000) only [go_sem, c101, r101, u1, u2, u3]
    refine sem_call rfl rfl (((f1).embed [] rfl trivial rfl rfl rfl (by simp)).mono ?_)
    rintro _ _ ⟨_, _, ⟨rfl, rfl⟩, rfl, rfl⟩
    refine run_ok 4000 _ _ _ _ ?_
    simp (maxSteps := 10000000) only [go_sem, u1, u2, u3]
    refine sem_call rfl rfl (((f2).embed [] rfl trivial rfl rfl rfl (by simp)).mono ?_)
    rintro _ _ ⟨_, _, ⟨rfl, rfl⟩, rfl, rfl⟩
    refine run_ok 4000 _ _ _ _ ?_
    simp (maxSteps := 10000000) only [go_sem, u1, u2, u3]
    refine ⟨_, _, .sub [] ?_ .done, rfl, rfl⟩
    simp only [EmbV, go_sem]
  · obtain ⟨h1, h2, h3, h4, rfl⟩ := h
    have u1 : ¬ u < 0 := by omega
    have u2 : ¬ u ≥ 1099511627776 := by omega
    have u3 : (u == 0) = false := by simp; omega
    have a1 : ¬ a < 1 := by omega
    have a2 : ¬ a ≥ 1099511627776 := by omega
    skip
    refine (Tri.enter (rl := r101) (code := c101) (by kernel_rfl) Try.func101 rfl c101_ok (by kernel_rfl) (by kernel_rfl) ?_)
    refine run_ok 4000 _ _ _ _ ?_
    simp (maxSteps := 10000000) only [go_sem, c101, r101, u1, u2, u3, a1, a2]
    refine ⟨_, _, .sub [] ?_ .done, rfl, rfl⟩
    simp only [EmbV, go_sem]
  · have a1 : ¬ a < 0 := by omega
    have a2 : ¬ a > 255 := by omega
    have f2 := far_spec b (by omega)
    skip
    refine (Tri.enter (rl := r101) (code := c101) (by kernel_rfl) Try.func101 rfl c101_ok (by kernel_rfl) (by kernel_rfl) ?_)
    refine run_ok 4000 _ _ _ _ ?_
    simp (maxSteps := 10000000) only [go_sem, c101, r101, a1, a2]
    refine sem_call rfl rfl (((f2).embed [] rfl trivial rfl rfl rfl (by simp)).mono ?_)
    rintro _ _ ⟨_, _, ⟨rfl, rfl⟩, rfl, rfl⟩
    refine run_ok 4000 _ _ _ _ ?_
    simp (maxSteps := 10000000) only [go_sem, a1, a2]
    refine ⟨_, _, .sub [] ?_ .done, rfl, rfl⟩
    simp only [EmbV, go_sem]
  · have u1 : ¬ u < 0 := by omega
    have u2 : ¬ u ≥ 1099511627776 := by omega
    have u3 : (u == 0) = false := by simp; omega
    skip
    refine (Tri.enter (rl := r101) (code := c101) (by kernel_rfl) Try.func101 rfl c101_ok (by kernel_rfl) (by kernel_rfl) ?_)
    refine run_ok 4000 _ _ _ _ ?_
    simp (maxSteps := 10000000) only [go_sem, c101, r101, u1, u2, u3]
    refine ⟨_, _, .sub [] ?_ .done, rfl, rfl⟩
    simp only [EmbV, go_sem]
theorem bcheck_spec (L : List Ord) (hL : L.length ≤ 8) (h : ∀ o ∈ L, okO o) : Tri Try.prog 54 [.vsl 4 (orows L) false] [] (fun v m => v = .int .i64 0 ∧ m = []) := by
  refine Tri.post ?_
  have g8 : ¬ (L.length : Int) > 8 := by omega
  skip
  refine (Tri.enter (rl := r54) (code := c54) (by kernel_rfl) Try.func54 rfl c54_ok (by kernel_rfl) (by kernel_rfl) ?_)
  refine run_ok 4000 _ _ _ _ ?_
  simp (maxSteps := 10000000) only [go_sem, c54, r54, g8, orows_len]
  refine sem_rounds (fun i : Nat => i ≤ L.length)
    (fun i => [(9, .vsl 4 (orows L) false), (10, .int .i64 L.length), (11, .int .i64 (i : Nat))])
    (fun i => []) (fun i => L.length - i) 0 [] (Nat.zero_le _) ?_ ?_
  · simp [Emb, go_sem]
  intro i hi
  by_cases c : i < L.length
  · have hin : (i : Int) < (L.length : Int) := by omega
    have w1 := inc64 (show i < 1000000000000 by omega)
    have hc := ocheck_spec L[i] (h _ (List.getElem_mem c))
    have r0 := orows_r0 c; have r1 := orows_r1 c; have r2 := orows_r2 c; have r3 := orows_r3 c
    have h0 := orows_h0 c; have h1 := orows_h1 c; have h2 := orows_h2 c; have h3 := orows_h3 c
    unfold orow at hc
    generalize L[i] = o at *
    skip
    refine run_ok 4000 _ _ _ _ ?_
    simp (maxSteps := 10000000) only [go_sem, hin, w1, r0, r1, r2, r3, h0, h1, h2, h3, Int.natCast_nonneg, orows_len]
    refine sem_call rfl rfl (((hc).embed [] rfl trivial rfl rfl rfl (by simp)).mono ?_)
    rintro _ _ ⟨_, _, ⟨rfl, rfl⟩, rfl, rfl⟩
    refine run_ok 4000 _ _ _ _ ?_
    simp (maxSteps := 10000000) only [go_sem, hin, w1, r0, r1, r2, r3, h0, h1, h2, h3, Int.natCast_nonneg, orows_len]
    refine ⟨i + 1, by omega, c, [], ?_⟩
    simp only [Emb, go_sem]
  · have hin : ¬ (i : Int) < (L.length : Int) := by omega
    skip
    refine run_ok 4000 _ _ _ _ ?_
    simp (maxSteps := 10000000) only [go_sem, hin]
    refine run_ok 4000 _ _ _ _ ?_
    simp (maxSteps := 10000000) only [go_sem, hin]
    refine ⟨_, _, .sub [] ?_ .done, rfl, rfl⟩
    simp only [EmbV, go_sem]
def tdO (o : Ord) : Ord :=
  if (ibits .and .i64 o.1 255).tmod 4 = 1 then (2, 1 + ibits .and .i64 o.2.1 63, 1 + ibits .and .i64 o.2.2.1 127, 0)
  else if (ibits .and .i64 o.1 255).tmod 4 = 2 then (3, 0, 1 + ibits .and .i64 o.2.2.1 127, ibits .and .i64 o.2.2.2 127)
  else if (ibits .and .i64 o.1 255).tmod 4 = 3 then (4, 1 + ibits .and .i64 o.2.1 63, 0, 0)
  else (1, 1 + ibits .and .i64 o.2.1 63, 1 + ibits .and .i64 o.2.2.1 127, ibits .and .i64 o.2.2.2 127)
def td (L : List Ord) : List Ord := (L.take 8).map tdO
theorem td_len (L : List Ord) : (td L).length ≤ 8 := by simp [td]; omega
theorem tidy_spec (L : List Ord) : Tri Try.prog 9 [.vsl 4 (orows L) false] [] (fun v m => v = .vsl 4 (orows (td L)) false ∧ m = []) := by
  refine Tri.post ?_
  refine (Tri.enter (rl := r9) (code := c9) (by kernel_rfl) Try.func9 rfl c9_ok (by kernel_rfl) (by kernel_rfl) ?_)
  refine run_ok 4000 _ _ _ _ ?_
  simp (maxSteps := 10000000) only [go_sem, c9, r9]
  refine sem_virt 3 4 rfl ?_
  simp (maxSteps := 10000000) only [go_sem]
  refine sem_rounds (fun i : Nat => i ≤ L.length)
    (fun i => [(0, .vsl 4 (orows L) false), (3, .sl 0 0 (td (L.take i)).length (td (L.take i)).length false), (4, .int .i64 (i : Nat))])
    (fun i => [.row 4 (orows (td (L.take i)))]) (fun i => L.length - i) 0 [0] (Nat.zero_le _) ?_ ?_
  · simp [Emb, go_sem, td, orows]
  intro i hi
  by_cases c : i < L.length
  · have hin : (i : Int) < (L.length : Int) := by omega
    by_cases c2 : i < 8
    · have hin2 : (i : Int) < 8 := by omega
      have w1 := inc64 (show i < 1000000000000 by omega)
      have r0 := orows_r0 c; have r1 := orows_r1 c; have r2 := orows_r2 c; have r3 := orows_r3 c
      have h0 := orows_h0 c; have h1 := orows_h1 c; have h2 := orows_h2 c; have h3 := orows_h3 c
      have hnext : td (L.take (i + 1)) = td (L.take i) ++ [tdO L[i]] := by
        unfold td
        rw [List.take_take, List.take_take, show min 8 (i + 1) = i + 1 by omega, show min 8 i = i by omega, List.take_succ_eq_append_getElem c, List.map_append]; rfl
      have hlT := td_len (L.take i)
      have hsm : small ((td (L.take i)).length + 1) := by unfold small; omega
      generalize td (L.take i) = T at *
      generalize L[i] = o at *
      obtain ⟨k, u, a, b⟩ := o
      simp only at r0 r1 r2 r3
      obtain ⟨K, hk, hk2⟩ := and_i64 k (k := 255) (by decide)
      obtain ⟨U, hu, hu2⟩ := and_i64 u (k := 63) (by decide)
      obtain ⟨A, ha, ha2⟩ := and_i64 a (k := 127) (by decide)
      obtain ⟨B, hb, hb2⟩ := and_i64 b (k := 127) (by decide)
      have hk : ibits .and .i64 k 255 = (K : Int) := hk
      have hu : ibits .and .i64 u 63 = (U : Int) := hu
      have ha : ibits .and .i64 a 127 = (A : Int) := ha
      have hb : ibits .and .i64 b 127 = (B : Int) := hb
      have m1 : (K : Int).tmod 4 = ((K % 4 : Nat) : Int) := rfl
      have w2 : iwrap .i64 ((1 : Int) + (U : Int)) = 1 + (U : Int) := iwrap_i64_in (by omega)
      have w3 : iwrap .i64 ((1 : Int) + (A : Int)) = 1 + (A : Int) := iwrap_i64_in (by omega)
      have hm4 : K % 4 = 0 ∨ K % 4 = 1 ∨ K % 4 = 2 ∨ K % 4 = 3 := by omega
      rcases hm4 with e | e | e | e
      · have m1 : (K : Int).tmod 4 = 0 := by rw [m1, e]; rfl
        have htd : tdO (k, u, a, b) = (1, 1 + (U : Int), 1 + (A : Int), (B : Int)) := by unfold tdO; simp only [hk, hu, ha, hb, m1]; rfl
        have w4 : iwrap .i64 (1 : Int) = 1 := rfl
        skip
        refine run_ok 4000 _ _ _ _ ?_
        simp (maxSteps := 10000000) only [go_sem, hin, hin2, w1, w2, w3, w4, r0, r1, r2, r3, h0, h1, h2, h3, hk, hu, ha, hb, m1, orows_len, orows_all, Int.natCast_nonneg, Nat.le_refl]
        refine ⟨hsm, ?_⟩
        refine ⟨i + 1, by omega, c, [2], ?_⟩
        simp only [hnext, htd, List.length_append, List.length_singleton]
        rw [orows_one, orows_app]
        simp only [Emb, go_sem]
      · have m1 : (K : Int).tmod 4 = 1 := by rw [m1, e]; rfl
        have htd : tdO (k, u, a, b) = (2, 1 + (U : Int), 1 + (A : Int), 0) := by unfold tdO; simp only [hk, hu, ha, hb, m1]; rfl
        have w4 : iwrap .i64 (2 : Int) = 2 := rfl
        skip
        refine run_ok 4000 _ _ _ _ ?_
        simp (maxSteps := 10000000) only [go_sem, hin, hin2, w1, w2, w3, w4, r0, r1, r2, r3, h0, h1, h2, h3, hk, hu, ha, hb, m1, orows_len, orows_all, Int.natCast_nonneg, Nat.le_refl]
        refine ⟨hsm, ?_⟩
        refine ⟨i + 1, by omega, c, [2], ?_⟩
        simp only [hnext, htd, List.length_append, List.length_singleton]
        rw [orows_one, orows_app]
        simp only [Emb, go_sem]
      · have m1 : (K : Int).tmod 4 = 2 := by rw [m1, e]; rfl
        have htd : tdO (k, u, a, b) = (3, 0, 1 + (A : Int), (B : Int)) := by unfold tdO; simp only [hk, hu, ha, hb, m1]; rfl
        have w4 : iwrap .i64 (3 : Int) = 3 := rfl
        skip
        refine run_ok 4000 _ _ _ _ ?_
        simp (maxSteps := 10000000) only [go_sem, hin, hin2, w1, w2, w3, w4, r0, r1, r2, r3, h0, h1, h2, h3, hk, hu, ha, hb, m1, orows_len, orows_all, Int.natCast_nonneg, Nat.le_refl]
        refine ⟨hsm, ?_⟩
        refine ⟨i + 1, by omega, c, [2], ?_⟩
        simp only [hnext, htd, List.length_append, List.length_singleton]
        rw [orows_one, orows_app]
        simp only [Emb, go_sem]
      · have m1 : (K : Int).tmod 4 = 3 := by rw [m1, e]; rfl
        have htd : tdO (k, u, a, b) = (4, 1 + (U : Int), 0, 0) := by unfold tdO; simp only [hk, hu, ha, hb, m1]; rfl
        have w4 : iwrap .i64 (4 : Int) = 4 := rfl
        skip
        refine run_ok 4000 _ _ _ _ ?_
        simp (maxSteps := 10000000) only [go_sem, hin, hin2, w1, w2, w3, w4, r0, r1, r2, r3, h0, h1, h2, h3, hk, hu, ha, hb, m1, orows_len, orows_all, Int.natCast_nonneg, Nat.le_refl]
        refine ⟨hsm, ?_⟩
        refine ⟨i + 1, by omega, c, [2], ?_⟩
        simp only [hnext, htd, List.length_append, List.length_singleton]
        rw [orows_one, orows_app]
        simp only [Emb, go_sem]
    · have hin2 : ¬ (i : Int) < 8 := by omega
      have hT : td (L.take i) = td L := by unfold td; rw [List.take_take, show min 8 i = 8 by omega]
      rw [hT]
      skip
      refine run_ok 4000 _ _ _ _ ?_
      simp (maxSteps := 10000000) only [go_sem, hin, hin2, orows_len]
      refine run_ok 4000 _ _ _ _ ?_
      simp (maxSteps := 10000000) only [go_sem, hin, hin2, orows_len]
      refine ⟨_, _, .fz 0 rfl (by simp only [go_sem, orows_len, Nat.le_refl]) (.sub [] ?_ .done), rfl, rfl⟩
      simp only [EmbV, go_sem, orows_all]
  · have hin : ¬ (i : Int) < (L.length : Int) := by omega
    have hT : td (L.take i) = td L := by rw [List.take_of_length_le (by omega)]
    rw [hT]
    skip
    refine run_ok 4000 _ _ _ _ ?_
    simp (maxSteps := 10000000) only [go_sem, hin, orows_len]
    refine run_ok 4000 _ _ _ _ ?_
    simp (maxSteps := 10000000) only [go_sem, hin, orows_len]
    refine ⟨_, _, .fz 0 rfl (by simp only [go_sem, orows_len, Nat.le_refl]) (.sub [] ?_ .done), rfl, rfl⟩
    simp only [EmbV, go_sem, orows_all]
end Go.AEX
