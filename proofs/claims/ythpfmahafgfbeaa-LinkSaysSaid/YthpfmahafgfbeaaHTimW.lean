/- Turned to this seat by turn.py: TimU.lean TimW.lean TimV.lean. -/
import Derived.Test.YthpfmahafgfbeaaHTimG
namespace Go.AEX
open Go Go.AE Go.Proofs
set_option maxRecDepth 100000
set_option linter.unusedVariables false
set_option linter.unusedSimpArgs false

abbrev mTE (L : List TG) : List TE := L.map (·.1)
theorem mTE_len (L : List TG) : (mTE L).length = L.length := by simp [mTE]
theorem at_mid (A X B : List TG) {j : Nat} (h : j < X.length) : ∃ (h1 : A.length + j < (mTE (A ++ (X ++ B))).length), (mTE (A ++ (X ++ B)))[A.length + j] = X[j].1 := by
  refine ⟨by simp [mTE]; omega, ?_⟩
  simp only [mTE, List.getElem_map]
  rw [List.getElem_append_right (by omega)]
  simp only [Nat.add_sub_cancel_left]
  rw [List.getElem_append_left h]
def mvR (A V B : List TG) (u : TG) (t : Nat) : List TE := mTE (A ++ (V.take t ++ u :: (V.drop t ++ B)))
theorem mvR_len (A V B : List TG) (u : TG) (t : Nat) (h : t ≤ V.length) : (mvR A V B u t).length = A.length + V.length + 1 + B.length := by
  unfold mvR; simp [mTE]; omega
theorem mvR_step (A V B : List TG) (u : TG) {t : Nat} (h : t < V.length) : swp (mvR A V B u t) (A.length + t) (A.length + t + 1) = mvR A V B u (t + 1) := by
  have e : A ++ (V.take t ++ u :: (V.drop t ++ B)) = (A ++ V.take t) ++ u :: ([] ++ V[t] :: (V.drop (t + 1) ++ B)) := by
    rw [List.drop_eq_getElem_cons h]
    simp only [List.append_assoc, List.cons_append, List.nil_append]
  have l1 : (A ++ V.take t).length = A.length + t := by simp; omega
  have := swp_mid (A ++ V.take t) [] (V.drop (t + 1) ++ B) u V[t]
  rw [← e, l1] at this
  unfold mvR mTE
  rw [← swp_map]
  rw [show A.length + t + 1 = A.length + t + 1 + ([] : List TG).length from rfl, this, List.take_succ_eq_append_getElem h]
  simp only [List.append_assoc, List.cons_append, List.nil_append]
set_option maxHeartbeats 4000000 in
theorem sm_one (A : List TG) (u : TG) (V1 V2 B : List TG) (hV : (V1 ++ V2).Pairwise R) (h1 : ∀ v ∈ V1, v.1.due < u.1.due) (h2 : ∀ v ∈ V2, u.1.due ≤ v.1.due) (N : Nat) (hN : N = A.length + 1 + (V1 ++ V2).length + B.length) (hN2 : N ≤ 100000) :
    Tri Try.prog 94 [.sl 0 0 N N false, .int .i64 (A.length : Nat), .int .i64 (A.length + 1 : Nat), .int .i64 (A.length + 1 + (V1 ++ V2).length : Nat), .fn 67 [] []] [.row 4 (terows (mTE (A ++ (u :: ((V1 ++ V2) ++ B)))))]
      (fun v m => v = .tup [] ∧ m = [.row 4 (terows (mTE (A ++ ((V1 ++ u :: V2) ++ B))))]) := by
  refine Tri.post ?_
  have hz0 : mTE (A ++ (u :: ((V1 ++ V2) ++ B))) = mvR A (V1 ++ V2) B u 0 := rfl
  have hz9 : mTE (A ++ ((V1 ++ u :: V2) ++ B)) = mvR A (V1 ++ V2) B u V1.length := by unfold mvR; simp
  have hu0 : ∃ (g : A.length < (mvR A (V1 ++ V2) B u 0).length), (mvR A (V1 ++ V2) B u 0)[A.length] = u.1 := by
    obtain ⟨g, e⟩ := at_mid A [u] ((V1 ++ V2) ++ B) (j := 0) (by simp)
    exact ⟨g, e⟩
  have hvj : ∀ j (hj : j < (V1 ++ V2).length), ∃ (g : A.length + 1 + j < (mvR A (V1 ++ V2) B u 0).length), (mvR A (V1 ++ V2) B u 0)[A.length + 1 + j].due = kA (V1 ++ V2) j := by
    intro j hj
    obtain ⟨g, e⟩ := at_mid (A ++ [u]) (V1 ++ V2) B (j := j) hj
    simp only [List.append_assoc, List.singleton_append, List.length_append, List.length_singleton] at g e
    refine ⟨?_, ?_⟩
    · simpa [mvR] using g
    · rw [kA_get hj, ← e]
      simp [mvR]
  have hlo : ∀ j, j < V1.length → kA (V1 ++ V2) j < u.1.due := by
    intro j hj
    rw [kA_get (by simp; omega), List.getElem_append_left hj]
    exact h1 _ (List.getElem_mem hj)
  have hhi : ∀ j, V1.length ≤ j → j < (V1 ++ V2).length → u.1.due ≤ kA (V1 ++ V2) j := by
    intro j hj hj2
    rw [kA_get hj2, List.getElem_append_right hj]
    exact h2 _ (List.getElem_mem _)
  have hst := fun t (ht : t < (V1 ++ V2).length) => mvR_step A (V1 ++ V2) B u ht
  have hln := fun t (ht : t ≤ (V1 ++ V2).length) => mvR_len A (V1 ++ V2) B u t ht
  have hle : V1.length ≤ (V1 ++ V2).length := by simp
  rw [hz0, hz9]
  generalize hVV : V1 ++ V2 = V at *
  generalize hZ : mvR A V B u = Z at *
  generalize ha : A.length = a at *
  generalize hp1 : V1.length = p1 at *
  generalize hnv : V.length = nv at *
  have c1 : (iwrap .i64 (((a + 1 : Nat) : Int) - (a : Nat)) == 1) = true := by rw [iwrap_i64_in (by omega)]; simp; omega
  skip
  refine (Tri.enter (rl := r94) (code := c94) (by kernel_rfl) Try.func94 rfl c94_ok (by kernel_rfl) (by kernel_rfl) ?_)
  refine run_ok 4000 _ _ _ _ ?_
  simp (maxSteps := 10000000) only [go_sem, c94, r94, c1]
  refine sem_rounds (fun q : Nat × Nat => q.1 ≤ p1 ∧ p1 ≤ q.2 ∧ q.2 ≤ nv)
    (fun q => [(0, .sl 0 0 N N false), (1, .int .i64 a), (4, .fn 67 [] []), (10, .int .i64 (a + 1 + q.1 : Nat)), (11, .int .i64 (a + 1 + q.2 : Nat))])
    (fun q => [.row 4 (terows (Z 0))]) (fun q => q.2 - q.1) (0, nv) [0] ⟨Nat.zero_le _, hle, Nat.le_refl _⟩ ?_ ?_
  · simp [Emb, go_sem]
  rintro ⟨p, q⟩ ⟨g1, g2, g3⟩
  simp only at g1 g2 g3 ⊢
  by_cases hlt : p < q
  · have hin : ((a + 1 + p : Nat) : Int) < ((a + 1 + q : Nat) : Int) := by omega
    have hm : iwrap .i64 (((a + 1 + p : Nat) : Int) + ((a + 1 + q : Nat) : Int)) = ((a + 1 + p + (a + 1 + q) : Nat) : Int) := by rw [iwrap_i64_in (by omega)]; omega
    have hhf := half_u64 (n := a + 1 + p + (a + 1 + q)) (by omega)
    have hdv : (a + 1 + p + (a + 1 + q)) / 2 = a + 1 + (p + q) / 2 := by omega
    rw [hdv] at hhf
    have hlt2 : (p + q) / 2 < q := by omega
    have hlp : p ≤ (p + q) / 2 := by omega
    generalize (p + q) / 2 = h at *
    obtain ⟨gu, eu⟩ := hu0
    obtain ⟨gv, ev⟩ := hvj h (by omega)
    have hcm := due1_spec (Z 0)[a + 1 + h] (Z 0)[a]
    have hcl := cmpI_lt (Z 0)[a + 1 + h].due (Z 0)[a].due
    have q0 := te_r0 gu; have q1 := te_r1 gu; have q2 := te_r2 gu; have q3 := te_r3 gu
    have p0 := te_r0 gv; have p1' := te_r1 gv; have p2 := te_r2 gv; have p3 := te_r3 gv
    have d1 : ((a + 1 + h : Nat) : Int) < (N : Int) := by omega
    have d2 : (a : Int) < (N : Int) := by omega
    by_cases c : h < p1
    · have hc := hlo h c
      have c3' : cmpI (Z 0)[a + 1 + h].due (Z 0)[a].due < 0 := by rw [hcl, eu, ev]; exact hc
      generalize (Z 0)[a + 1 + h] = x at *
      generalize (Z 0)[a] = y at *
      skip
      refine run_ok 4000 _ _ _ _ ?_
      simp (maxSteps := 10000000) only [go_sem, hin, hm, hhf, d1, d2, te_h0 gu, te_h1 gu, te_h2 gu, te_h3 gu, te_h0 gv, te_h1 gv, te_h2 gv, te_h3 gv, q0, q1, q2, q3, p0, p1', p2, p3, c3', te_len, Int.natCast_nonneg, inc64 (show a + 1 + h < 1000000000000 by omega)]
      refine sem_drawG l94_0_ok (by kernel_rfl) ?_
      intro KK hKK
      simp (maxSteps := 10000000) only [go_sem, l94_0, hin, hm, hhf, d1, d2, te_h0 gu, te_h1 gu, te_h2 gu, te_h3 gu, te_h0 gv, te_h1 gv, te_h2 gv, te_h3 gv, q0, q1, q2, q3, p0, p1', p2, p3, c3', te_len, Int.natCast_nonneg, inc64 (show a + 1 + h < 1000000000000 by omega)]
      subst hKK
      simp (maxSteps := 10000000) only [go_sem, hin, hm, hhf, d1, d2, te_h0 gu, te_h1 gu, te_h2 gu, te_h3 gu, te_h0 gv, te_h1 gv, te_h2 gv, te_h3 gv, q0, q1, q2, q3, p0, p1', p2, p3, c3', te_len, Int.natCast_nonneg, inc64 (show a + 1 + h < 1000000000000 by omega)]
      refine TriZ.of (((hcm).embed [] rfl (by repeat' first | exact trivial | rfl | (simp only [go_sem]; done) | constructor) rfl (by first | rfl | simp only [go_sem]) rfl (by simp)).mono ?_)
      rintro _ _ ⟨_, _, ⟨rfl, rfl⟩, rfl, rfl⟩
      simp (maxSteps := 10000000) only [go_sem, hin, hm, hhf, d1, d2, te_h0 gu, te_h1 gu, te_h2 gu, te_h3 gu, te_h0 gv, te_h1 gv, te_h2 gv, te_h3 gv, q0, q1, q2, q3, p0, p1', p2, p3, c3', te_len, Int.natCast_nonneg, inc64 (show a + 1 + h < 1000000000000 by omega)]
      refine ⟨(h + 1, q), by simp only; omega, ⟨by simp only; omega, by simp only; omega, g3⟩, [0], ?_⟩
      simp only [Emb, go_sem, Nat.add_assoc]
    · have hc := hhi h (by omega) (by omega)
      have c3' : ¬ cmpI (Z 0)[a + 1 + h].due (Z 0)[a].due < 0 := by rw [hcl, eu, ev]; omega
      generalize (Z 0)[a + 1 + h] = x at *
      generalize (Z 0)[a] = y at *
      skip
      refine run_ok 4000 _ _ _ _ ?_
      simp (maxSteps := 10000000) only [go_sem, hin, hm, hhf, d1, d2, te_h0 gu, te_h1 gu, te_h2 gu, te_h3 gu, te_h0 gv, te_h1 gv, te_h2 gv, te_h3 gv, q0, q1, q2, q3, p0, p1', p2, p3, c3', te_len, Int.natCast_nonneg]
      refine sem_drawG l94_0_ok (by kernel_rfl) ?_
      intro KK hKK
      simp (maxSteps := 10000000) only [go_sem, l94_0, hin, hm, hhf, d1, d2, te_h0 gu, te_h1 gu, te_h2 gu, te_h3 gu, te_h0 gv, te_h1 gv, te_h2 gv, te_h3 gv, q0, q1, q2, q3, p0, p1', p2, p3, c3', te_len, Int.natCast_nonneg]
      subst hKK
      simp (maxSteps := 10000000) only [go_sem, hin, hm, hhf, d1, d2, te_h0 gu, te_h1 gu, te_h2 gu, te_h3 gu, te_h0 gv, te_h1 gv, te_h2 gv, te_h3 gv, q0, q1, q2, q3, p0, p1', p2, p3, c3', te_len, Int.natCast_nonneg]
      refine TriZ.of (((hcm).embed [] rfl (by repeat' first | exact trivial | rfl | (simp only [go_sem]; done) | constructor) rfl (by first | rfl | simp only [go_sem]) rfl (by simp)).mono ?_)
      rintro _ _ ⟨_, _, ⟨rfl, rfl⟩, rfl, rfl⟩
      simp (maxSteps := 10000000) only [go_sem, hin, hm, hhf, d1, d2, te_h0 gu, te_h1 gu, te_h2 gu, te_h3 gu, te_h0 gv, te_h1 gv, te_h2 gv, te_h3 gv, q0, q1, q2, q3, p0, p1', p2, p3, c3', te_len, Int.natCast_nonneg]
      refine ⟨(p, h), by simp only; omega, ⟨g1, by simp only; omega, by simp only; omega⟩, [0], ?_⟩
      simp only [Emb, go_sem]
  have hpe : p = p1 := by omega
  subst hpe
  have hqe : q = p := by omega
  subst hqe
  have hge : ¬ ((a + 1 + q : Nat) : Int) < ((a + 1 + q : Nat) : Int) := by omega
  skip
  refine run_ok 4000 _ _ _ _ ?_
  simp (maxSteps := 10000000) only [go_sem, hge]
  refine run_ok 4000 _ _ _ _ ?_
  simp (maxSteps := 10000000) only [go_sem, hge]
  refine sem_rounds (fun t : Nat => t ≤ q)
    (fun t => [(0, .sl 0 0 N N false), (10, .int .i64 (a + 1 + q : Nat)), (13, .int .i64 (a + t : Nat))])
    (fun t => [.row 4 (terows (Z t))]) (fun t => q - t) 0 [0] (Nat.zero_le _) ?_ ?_
  · simp [Emb, go_sem]
  intro t ht
  have hw : iwrap .i64 (((a + 1 + q : Nat) : Int) - 1) = ((a + q : Nat) : Int) := by rw [iwrap_i64_in (by omega)]; omega
  by_cases hlt : t < q
  · have hin : ((a + t : Nat) : Int) < ((a + q : Nat) : Int) := by omega
    have hl := hln t (by omega)
    have k1 : a + t < (Z t).length := by omega
    have k2 : a + t + 1 < (Z t).length := by omega
    have hs := hst t (by omega)
    have q0 := te_r0 k1; have q1 := te_r1 k1; have q2 := te_r2 k1; have q3 := te_r3 k1
    have p0 := te_r0 k2; have p1' := te_r1 k2; have p2 := te_r2 k2; have p3 := te_r3 k2
    have hsw := swp_eq k1 k2
    have hput1 := te_rput k1 (Z t)[a + t + 1]
    have k2' : a + t + 1 < ((Z t).set (a + t) (Z t)[a + t + 1]).length := by rw [List.length_set]; exact k2
    have hput2 := te_rput k2' (Z t)[a + t]
    have hin1 := te_inR k1
    have hin2 := te_inR k2'
    rw [← hsw, hs] at hput2
    have d1 : ((a + t : Nat) : Int) < (N : Int) := by omega
    have d2 : ((a + t + 1 : Nat) : Int) < (N : Int) := by omega
    generalize (Z t).set (a + t) (Z t)[a + t + 1] = L1 at *
    generalize (Z t)[a + t + 1] = x at *
    generalize (Z t)[a + t] = y at *
    skip
    refine run_ok 4000 _ _ _ _ ?_
    simp (maxSteps := 10000000) only [go_sem, hw, hin, d1, d2, te_h0 k1, te_h1 k1, te_h2 k1, te_h3 k1, te_h0 k2, te_h1 k2, te_h2 k2, te_h3 k2, q0, q1, q2, q3, p0, p1', p2, p3, hput1, hput2, hin1, hin2, te_len, hl, Int.natCast_nonneg, Nat.zero_add, inc64 (show a + t < 1000000000000 by omega)]
    refine sem_drawG l94_1_ok (by kernel_rfl) ?_
    intro KK hKK
    simp (maxSteps := 10000000) only [go_sem, l94_1, hw, hin, d1, d2, te_h0 k1, te_h1 k1, te_h2 k1, te_h3 k1, te_h0 k2, te_h1 k2, te_h2 k2, te_h3 k2, q0, q1, q2, q3, p0, p1', p2, p3, hput1, hput2, hin1, hin2, te_len, hl, Int.natCast_nonneg, Nat.zero_add, inc64 (show a + t < 1000000000000 by omega)]
    subst hKK
    simp (maxSteps := 10000000) only [go_sem, hw, hin, d1, d2, te_h0 k1, te_h1 k1, te_h2 k1, te_h3 k1, te_h0 k2, te_h1 k2, te_h2 k2, te_h3 k2, q0, q1, q2, q3, p0, p1', p2, p3, hput1, hput2, hin1, hin2, te_len, hl, Int.natCast_nonneg, Nat.zero_add, inc64 (show a + t < 1000000000000 by omega)]
    refine ⟨t + 1, by omega, hlt, [0], ?_⟩
    simp only [Emb, go_sem, Nat.add_assoc]
  · have hge : ¬ ((a + t : Nat) : Int) < ((a + q : Nat) : Int) := by omega
    have hk : t = q := by omega
    subst hk
    skip
    refine run_ok 4000 _ _ _ _ ?_
    simp (maxSteps := 10000000) only [go_sem, hw, hge]
    refine run_ok 4000 _ _ _ _ ?_
    simp (maxSteps := 10000000) only [go_sem, hw, hge]
    refine ⟨_, _, .sub [0] ?_ .done, rfl, rfl⟩
    simp only [EmbV, go_sem]
theorem mvL_step (A V B : List TG) (u : TG) {t : Nat} (h : t < V.length) : swp (mvR A V B u (t + 1)) (A.length + t + 1) (A.length + t) = mvR A V B u t := by
  rw [swp_comm]
  have e : A ++ (V.take (t + 1) ++ u :: (V.drop (t + 1) ++ B)) = (A ++ V.take t) ++ V[t] :: ([] ++ u :: (V.drop (t + 1) ++ B)) := by
    rw [List.take_succ_eq_append_getElem h]
    simp only [List.append_assoc, List.cons_append, List.nil_append]
  have l1 : (A ++ V.take t).length = A.length + t := by simp; omega
  have := swp_mid (A ++ V.take t) [] (V.drop (t + 1) ++ B) V[t] u
  rw [← e, l1] at this
  unfold mvR mTE
  rw [← swp_map]
  rw [show A.length + t + 1 = A.length + t + 1 + ([] : List TG).length from rfl, this, List.drop_eq_getElem_cons h]
  simp only [List.append_assoc, List.cons_append, List.nil_append]
set_option maxHeartbeats 4000000 in
theorem sm_last (A : List TG) (v : TG) (U1 U2 B : List TG) (hU : (U1 ++ U2).Pairwise R) (h2U : 2 ≤ (U1 ++ U2).length) (h1 : ∀ u ∈ U1, u.1.due ≤ v.1.due) (h2 : ∀ u ∈ U2, v.1.due < u.1.due) (N : Nat) (hN : N = A.length + (U1 ++ U2).length + 1 + B.length) (hN2 : N ≤ 100000) :
    Tri Try.prog 94 [.sl 0 0 N N false, .int .i64 (A.length : Nat), .int .i64 (A.length + (U1 ++ U2).length : Nat), .int .i64 (A.length + (U1 ++ U2).length + 1 : Nat), .fn 67 [] []] [.row 4 (terows (mTE (A ++ ((U1 ++ U2) ++ (v :: B)))))]
      (fun r m => r = .tup [] ∧ m = [.row 4 (terows (mTE (A ++ ((U1 ++ v :: U2) ++ B))))]) := by
  refine Tri.post ?_
  have hz0 : mTE (A ++ ((U1 ++ U2) ++ (v :: B))) = mvR (A ++ U1) U2 B v U2.length := by unfold mvR; simp
  have hz9 : mTE (A ++ ((U1 ++ v :: U2) ++ B)) = mvR (A ++ U1) U2 B v 0 := by unfold mvR; simp
  have hv0 : ∃ (g : A.length + (U1 ++ U2).length < (mvR (A ++ U1) U2 B v U2.length).length), (mvR (A ++ U1) U2 B v U2.length)[A.length + (U1 ++ U2).length] = v.1 := by
    obtain ⟨g, e⟩ := at_mid (A ++ (U1 ++ U2)) [v] B (j := 0) (by simp)
    have e9 : mTE ((A ++ (U1 ++ U2)) ++ ([v] ++ B)) = mvR (A ++ U1) U2 B v U2.length := by rw [← hz0]; simp
    simp only [e9] at g e
    have el : (A ++ (U1 ++ U2)).length + 0 = A.length + (U1 ++ U2).length := by simp
    simp only [el] at g e
    exact ⟨g, e⟩
  have huj : ∀ j (hj : j < (U1 ++ U2).length), ∃ (g : A.length + j < (mvR (A ++ U1) U2 B v U2.length).length), (mvR (A ++ U1) U2 B v U2.length)[A.length + j].due = kA (U1 ++ U2) j := by
    intro j hj
    obtain ⟨g, e⟩ := at_mid A (U1 ++ U2) (v :: B) (j := j) hj
    simp only [hz0] at g e
    exact ⟨g, by rw [kA_get hj, ← e]⟩
  have hlo : ∀ j, j < U1.length → kA (U1 ++ U2) j ≤ v.1.due := by
    intro j hj
    rw [kA_get (by simp; omega), List.getElem_append_left hj]
    exact h1 _ (List.getElem_mem hj)
  have hhi : ∀ j, U1.length ≤ j → j < (U1 ++ U2).length → v.1.due < kA (U1 ++ U2) j := by
    intro j hj hj2
    rw [kA_get hj2, List.getElem_append_right hj]
    exact h2 _ (List.getElem_mem _)
  have hst := fun t (ht : t < U2.length) => mvL_step (A ++ U1) U2 B v ht
  have hln := fun t (ht : t ≤ U2.length) => mvR_len (A ++ U1) U2 B v t ht
  have hnu : (U1 ++ U2).length = U1.length + U2.length := List.length_append
  have hal : (A ++ U1).length = A.length + U1.length := List.length_append
  rw [hz0, hz9]
  rw [hal] at hst hln
  rw [hnu] at h2U hN hv0 huj hhi ⊢
  generalize hUU : U1 ++ U2 = U at *
  generalize hZ : mvR (A ++ U1) U2 B v = Z at *
  generalize ha : A.length = a at *
  generalize hp1 : U1.length = p1 at *
  generalize hn2 : U2.length = n2 at *
  have c0 : (iwrap .i64 (((a + (p1 + n2) : Nat) : Int) - (a : Nat)) == 1) = false := by rw [iwrap_i64_in (by omega)]; simp; omega
  have c1 : (iwrap .i64 (((a + (p1 + n2) + 1 : Nat) : Int) - ((a + (p1 + n2) : Nat) : Int)) == 1) = true := by rw [iwrap_i64_in (by omega)]; simp; omega
  skip
  refine (Tri.enter (rl := r94) (code := c94) (by kernel_rfl) Try.func94 rfl c94_ok (by kernel_rfl) (by kernel_rfl) ?_)
  refine run_ok 4000 _ _ _ _ ?_
  simp (maxSteps := 10000000) only [go_sem, c94, r94, c0, c1]
  refine sem_rounds (fun q : Nat × Nat => q.1 ≤ p1 ∧ p1 ≤ q.2 ∧ q.2 ≤ p1 + n2)
    (fun q => [(0, .sl 0 0 N N false), (2, .int .i64 (a + (p1 + n2) : Nat)), (4, .fn 67 [] []), (14, .int .i64 (a + q.1 : Nat)), (15, .int .i64 (a + q.2 : Nat))])
    (fun q => [.row 4 (terows (Z n2))]) (fun q => q.2 - q.1) (0, p1 + n2) [0] ⟨Nat.zero_le _, by simp only; omega, Nat.le_refl _⟩ ?_ ?_
  · simp [Emb, go_sem]
  rintro ⟨p, q⟩ ⟨g1, g2, g3⟩
  simp only at g1 g2 g3 ⊢
  by_cases hlt : p < q
  · have hin : ((a + p : Nat) : Int) < ((a + q : Nat) : Int) := by omega
    have hm : iwrap .i64 (((a + p : Nat) : Int) + ((a + q : Nat) : Int)) = ((a + p + (a + q) : Nat) : Int) := by rw [iwrap_i64_in (by omega)]; omega
    have hhf := half_u64 (n := a + p + (a + q)) (by omega)
    have hdv : (a + p + (a + q)) / 2 = a + (p + q) / 2 := by omega
    rw [hdv] at hhf
    have hlt2 : (p + q) / 2 < q := by omega
    have hlp : p ≤ (p + q) / 2 := by omega
    generalize (p + q) / 2 = h at *
    obtain ⟨gv, ev⟩ := hv0
    obtain ⟨gu, eu⟩ := huj h (by omega)
    have hcm := due1_spec (Z n2)[a + (p1 + n2)] (Z n2)[a + h]
    have hcl := cmpI_lt (Z n2)[a + (p1 + n2)].due (Z n2)[a + h].due
    have q0 := te_r0 gu; have q1 := te_r1 gu; have q2 := te_r2 gu; have q3 := te_r3 gu
    have p0 := te_r0 gv; have p1' := te_r1 gv; have p2 := te_r2 gv; have p3 := te_r3 gv
    have d1 : ((a + h : Nat) : Int) < (N : Int) := by omega
    have d2 : ((a + (p1 + n2) : Nat) : Int) < (N : Int) := by omega
    by_cases c : h < p1
    · have hc := hlo h c
      have c3' : ¬ cmpI (Z n2)[a + (p1 + n2)].due (Z n2)[a + h].due < 0 := by rw [hcl, eu, ev]; omega
      generalize (Z n2)[a + (p1 + n2)] = x at *
      generalize (Z n2)[a + h] = y at *
      skip
      refine run_ok 4000 _ _ _ _ ?_
      simp (maxSteps := 10000000) only [go_sem, hin, hm, hhf, d1, d2, te_h0 gu, te_h1 gu, te_h2 gu, te_h3 gu, te_h0 gv, te_h1 gv, te_h2 gv, te_h3 gv, q0, q1, q2, q3, p0, p1', p2, p3, c3', te_len, Int.natCast_nonneg, inc64 (show a + h < 1000000000000 by omega)]
      refine sem_drawG l94_2_ok (by kernel_rfl) ?_
      intro KK hKK
      simp (maxSteps := 10000000) only [go_sem, l94_2, hin, hm, hhf, d1, d2, te_h0 gu, te_h1 gu, te_h2 gu, te_h3 gu, te_h0 gv, te_h1 gv, te_h2 gv, te_h3 gv, q0, q1, q2, q3, p0, p1', p2, p3, c3', te_len, Int.natCast_nonneg, inc64 (show a + h < 1000000000000 by omega)]
      subst hKK
      simp (maxSteps := 10000000) only [go_sem, hin, hm, hhf, d1, d2, te_h0 gu, te_h1 gu, te_h2 gu, te_h3 gu, te_h0 gv, te_h1 gv, te_h2 gv, te_h3 gv, q0, q1, q2, q3, p0, p1', p2, p3, c3', te_len, Int.natCast_nonneg, inc64 (show a + h < 1000000000000 by omega)]
      refine TriZ.of (((hcm).embed [] rfl (by repeat' first | exact trivial | rfl | (simp only [go_sem]; done) | constructor) rfl (by first | rfl | simp only [go_sem]) rfl (by simp)).mono ?_)
      rintro _ _ ⟨_, _, ⟨rfl, rfl⟩, rfl, rfl⟩
      simp (maxSteps := 10000000) only [go_sem, hin, hm, hhf, d1, d2, te_h0 gu, te_h1 gu, te_h2 gu, te_h3 gu, te_h0 gv, te_h1 gv, te_h2 gv, te_h3 gv, q0, q1, q2, q3, p0, p1', p2, p3, c3', te_len, Int.natCast_nonneg, inc64 (show a + h < 1000000000000 by omega)]
      refine ⟨(h + 1, q), by simp only; omega, ⟨by simp only; omega, by simp only; omega, g3⟩, [0], ?_⟩
      simp only [Emb, go_sem, Nat.add_assoc]
    · have hc := hhi h (by omega) (by omega)
      have c3' : cmpI (Z n2)[a + (p1 + n2)].due (Z n2)[a + h].due < 0 := by rw [hcl, eu, ev]; omega
      generalize (Z n2)[a + (p1 + n2)] = x at *
      generalize (Z n2)[a + h] = y at *
      skip
      refine run_ok 4000 _ _ _ _ ?_
      simp (maxSteps := 10000000) only [go_sem, hin, hm, hhf, d1, d2, te_h0 gu, te_h1 gu, te_h2 gu, te_h3 gu, te_h0 gv, te_h1 gv, te_h2 gv, te_h3 gv, q0, q1, q2, q3, p0, p1', p2, p3, c3', te_len, Int.natCast_nonneg]
      refine sem_drawG l94_2_ok (by kernel_rfl) ?_
      intro KK hKK
      simp (maxSteps := 10000000) only [go_sem, l94_2, hin, hm, hhf, d1, d2, te_h0 gu, te_h1 gu, te_h2 gu, te_h3 gu, te_h0 gv, te_h1 gv, te_h2 gv, te_h3 gv, q0, q1, q2, q3, p0, p1', p2, p3, c3', te_len, Int.natCast_nonneg]
      subst hKK
      simp (maxSteps := 10000000) only [go_sem, hin, hm, hhf, d1, d2, te_h0 gu, te_h1 gu, te_h2 gu, te_h3 gu, te_h0 gv, te_h1 gv, te_h2 gv, te_h3 gv, q0, q1, q2, q3, p0, p1', p2, p3, c3', te_len, Int.natCast_nonneg]
      refine TriZ.of (((hcm).embed [] rfl (by repeat' first | exact trivial | rfl | (simp only [go_sem]; done) | constructor) rfl (by first | rfl | simp only [go_sem]) rfl (by simp)).mono ?_)
      rintro _ _ ⟨_, _, ⟨rfl, rfl⟩, rfl, rfl⟩
      simp (maxSteps := 10000000) only [go_sem, hin, hm, hhf, d1, d2, te_h0 gu, te_h1 gu, te_h2 gu, te_h3 gu, te_h0 gv, te_h1 gv, te_h2 gv, te_h3 gv, q0, q1, q2, q3, p0, p1', p2, p3, c3', te_len, Int.natCast_nonneg]
      refine ⟨(p, h), by simp only; omega, ⟨g1, by simp only; omega, by simp only; omega⟩, [0], ?_⟩
      simp only [Emb, go_sem]
  have hpe : p = p1 := by omega
  have hqe : q = p1 := by omega
  subst hpe
  subst hqe
  have hge : ¬ ((a + q : Nat) : Int) < ((a + q : Nat) : Int) := by omega
  skip
  refine run_ok 4000 _ _ _ _ ?_
  simp (maxSteps := 10000000) only [go_sem, hge]
  refine run_ok 4000 _ _ _ _ ?_
  simp (maxSteps := 10000000) only [go_sem, hge]
  refine sem_rounds (fun t : Nat => t ≤ n2)
    (fun t => [(0, .sl 0 0 N N false), (14, .int .i64 (a + q : Nat)), (17, .int .i64 (a + (q + t) : Nat))])
    (fun t => [.row 4 (terows (Z t))]) (fun t => t) n2 [0] (Nat.le_refl _) ?_ ?_
  · simp [Emb, go_sem]
  intro t ht
  by_cases hz : t = 0
  · subst hz
    have hge : ¬ ((a + (q + 0) : Nat) : Int) > ((a + q : Nat) : Int) := by omega
    skip
    refine run_ok 4000 _ _ _ _ ?_
    simp (maxSteps := 10000000) only [go_sem, hge]
    refine run_ok 4000 _ _ _ _ ?_
    simp (maxSteps := 10000000) only [go_sem, hge]
    refine ⟨_, _, .sub [0] ?_ .done, rfl, rfl⟩
    simp only [EmbV, go_sem]
  obtain ⟨t, rfl⟩ : ∃ t', t = t' + 1 := ⟨t - 1, by omega⟩
  have hgt : ((a + (q + (t + 1)) : Nat) : Int) > ((a + q : Nat) : Int) := by omega
  have hw : iwrap .i64 (((a + (q + (t + 1)) : Nat) : Int) - 1) = ((a + (q + t) : Nat) : Int) := by rw [iwrap_i64_in (by omega)]; omega
  have hl := hln (t + 1) (by omega)
  have ex1 : a + (q + (t + 1)) = a + q + t + 1 := by omega
  have ex2 : a + (q + t) = a + q + t := by omega
  have k1 : a + (q + (t + 1)) < (Z (t + 1)).length := by omega
  have k2 : a + (q + t) < (Z (t + 1)).length := by omega
  have hs := hst t (by omega)
  rw [← ex1, ← ex2] at hs
  have q0 := te_r0 k1; have q1 := te_r1 k1; have q2 := te_r2 k1; have q3 := te_r3 k1
  have p0 := te_r0 k2; have p1' := te_r1 k2; have p2 := te_r2 k2; have p3 := te_r3 k2
  have hsw := swp_eq k1 k2
  have hput1 := te_rput k1 (Z (t + 1))[a + (q + t)]
  have k2' : a + (q + t) < ((Z (t + 1)).set (a + (q + (t + 1))) (Z (t + 1))[a + (q + t)]).length := by rw [List.length_set]; exact k2
  have hput2 := te_rput k2' (Z (t + 1))[a + (q + (t + 1))]
  have hin1 := te_inR k1
  have hin2 := te_inR k2'
  rw [← hsw, hs] at hput2
  have d1 : ((a + (q + (t + 1)) : Nat) : Int) < (N : Int) := by omega
  have d2 : ((a + (q + t) : Nat) : Int) < (N : Int) := by omega
  generalize (Z (t + 1)).set (a + (q + (t + 1))) (Z (t + 1))[a + (q + t)] = L1 at *
  generalize (Z (t + 1))[a + (q + t)] = x at *
  generalize (Z (t + 1))[a + (q + (t + 1))] = y at *
  skip
  refine run_ok 4000 _ _ _ _ ?_
  simp (maxSteps := 10000000) only [go_sem, hw, hgt, d1, d2, te_h0 k1, te_h1 k1, te_h2 k1, te_h3 k1, te_h0 k2, te_h1 k2, te_h2 k2, te_h3 k2, q0, q1, q2, q3, p0, p1', p2, p3, hput1, hput2, hin1, hin2, te_len, hl, Int.natCast_nonneg, Nat.zero_add]
  refine sem_drawG l94_3_ok (by kernel_rfl) ?_
  intro KK hKK
  simp (maxSteps := 10000000) only [go_sem, l94_3, hw, hgt, d1, d2, te_h0 k1, te_h1 k1, te_h2 k1, te_h3 k1, te_h0 k2, te_h1 k2, te_h2 k2, te_h3 k2, q0, q1, q2, q3, p0, p1', p2, p3, hput1, hput2, hin1, hin2, te_len, hl, Int.natCast_nonneg, Nat.zero_add]
  subst hKK
  simp (maxSteps := 10000000) only [go_sem, hw, hgt, d1, d2, te_h0 k1, te_h1 k1, te_h2 k1, te_h3 k1, te_h0 k2, te_h1 k2, te_h2 k2, te_h3 k2, q0, q1, q2, q3, p0, p1', p2, p3, hput1, hput2, hin1, hin2, te_len, hl, Int.natCast_nonneg, Nat.zero_add]
  refine ⟨t, by omega, by omega, [0], ?_⟩
  simp only [Emb, go_sem]
theorem rotG (A U V B : List TG) (hU : 0 < U.length) (hV : 0 < V.length) (a m b N : Nat) (ha : a = A.length) (hm : m = a + U.length) (hb : b = m + V.length) (hN : N = b + B.length) (hN2 : N ≤ 100000)
    (Z0 Z1 : List TE) (hz0 : Z0 = mTE (A ++ (U ++ (V ++ B)))) (hz1 : Z1 = mTE (A ++ (V ++ (U ++ B)))) :
    Tri Try.prog 97 [.sl 0 0 N N false, .int .i64 (a : Nat), .int .i64 (m : Nat), .int .i64 (b : Nat), .fn 67 [] []] [.row 4 (terows Z0)]
      (fun v q => v = .tup [] ∧ q = [.row 4 (terows Z1)]) := by
  have h := rotate_spec (mTE A) (mTE U) (mTE V) (mTE B) (by rw [mTE_len]; exact hU) (by rw [mTE_len]; exact hV) N (by simp only [mTE_len]; omega) hN2
  simp only [mTE_len] at h
  rw [← ha, ← hm, ← hb] at h
  have e0 : mTE A ++ (mTE U ++ (mTE V ++ mTE B)) = Z0 := by rw [hz0]; simp [mTE]
  have e1 : mTE A ++ (mTE V ++ (mTE U ++ mTE B)) = Z1 := by rw [hz1]; simp [mTE]
  rw [e0, e1] at h
  exact h
def SmOk (n : Nat) : Prop := ∀ (A U V B W : List TG), U.length + V.length ≤ n → U.Pairwise R → V.Pairwise R → (∀ u ∈ U, ∀ v ∈ V, u.2 < v.2) → W.Perm (U ++ V) → W.Pairwise R → 0 < U.length → 0 < V.length →
  ∀ (a m b N : Nat), a = A.length → m = a + U.length → b = m + V.length → N = b + B.length → N ≤ 100000 → ∀ Z0 Z1 : List TE, Z0 = mTE (A ++ (U ++ (V ++ B))) → Z1 = mTE (A ++ (W ++ B)) →
    Tri Try.prog 94 [.sl 0 0 N N false, .int .i64 (a : Nat), .int .i64 (m : Nat), .int .i64 (b : Nat), .fn 67 [] []] [.row 4 (terows Z0)]
      (fun v q => v = .tup [] ∧ q = [.row 4 (terows Z1)])
theorem sm_parts {U V W : List TG} (hU : U.Pairwise R) (hV : V.Pairwise R) (ht : ∀ u ∈ U, ∀ v ∈ V, u.2 < v.2) (hp : W.Perm (U ++ V)) (hr : W.Pairwise R) {s e : Nat} (hs : s ≤ U.length) (he : e ≤ V.length)
    (c1 : 0 < s → e < V.length → kA U (s - 1) ≤ kA V e) (c2 : 0 < e → s < U.length → kA V (e - 1) < kA U s) :
    ∃ W1 W2 : List TG, W = W1 ++ W2 ∧ W1.Perm (U.take s ++ V.take e) ∧ W2.Perm (U.drop s ++ V.drop e) ∧ W1.Pairwise R ∧ W2.Pairwise R := by
  apply srt_split _ hr
  · intro p hp1 q hq1
    have hUg := List.pairwise_iff_getElem.1 hU
    have hVg := List.pairwise_iff_getElem.1 hV
    rcases List.mem_append.1 hp1 with hp1 | hp1 <;> rcases List.mem_append.1 hq1 with hq1 | hq1
    · obtain ⟨i, hi, rfl⟩ := List.getElem_of_mem hp1
      obtain ⟨j, hj, rfl⟩ := List.getElem_of_mem hq1
      rw [List.length_take] at hi
      rw [List.length_drop] at hj
      rw [List.getElem_take, List.getElem_drop]
      exact hUg i (s + j) (by omega) (by omega) (by omega)
    · have ht1 := ht p (List.mem_of_mem_take hp1) q (List.mem_of_mem_drop hq1)
      obtain ⟨i, hi, rfl⟩ := List.getElem_of_mem hp1
      obtain ⟨j, hj, rfl⟩ := List.getElem_of_mem hq1
      rw [List.length_take] at hi
      rw [List.length_drop] at hj
      rw [List.getElem_take, List.getElem_drop] at *
      have h1 := kA_le hU (show i ≤ s - 1 by omega) (by omega)
      have h2 := kA_le hV (show e ≤ e + j by omega) (by omega)
      have h3 := c1 (by omega) (by omega)
      rw [kA_get (show i < U.length by omega)] at h1
      rw [kA_get (show e + j < V.length by omega)] at h2
      unfold R; omega
    · obtain ⟨i, hi, rfl⟩ := List.getElem_of_mem hp1
      obtain ⟨j, hj, rfl⟩ := List.getElem_of_mem hq1
      rw [List.length_take] at hi
      rw [List.length_drop] at hj
      rw [List.getElem_take, List.getElem_drop] at *
      have h1 := kA_le hV (show i ≤ e - 1 by omega) (by omega)
      have h2 := kA_le hU (show s ≤ s + j by omega) (by omega)
      have h3 := c2 (by omega) (by omega)
      rw [kA_get (show i < V.length by omega)] at h1
      rw [kA_get (show s + j < U.length by omega)] at h2
      unfold R; omega
    · obtain ⟨i, hi, rfl⟩ := List.getElem_of_mem hp1
      obtain ⟨j, hj, rfl⟩ := List.getElem_of_mem hq1
      rw [List.length_take] at hi
      rw [List.length_drop] at hj
      rw [List.getElem_take, List.getElem_drop]
      exact hVg i (e + j) (by omega) (by omega) (by omega)
  · refine hp.trans ?_
    have e1 : U ++ V = U.take s ++ (U.drop s ++ (V.take e ++ V.drop e)) := by rw [List.take_append_drop, ← List.append_assoc, List.take_append_drop]
    rw [e1, List.append_assoc]
    refine List.Perm.append_left _ ?_
    rw [← List.append_assoc, ← List.append_assoc]
    exact List.Perm.append_right _ List.perm_append_comm
set_option maxHeartbeats 40000000 in
theorem sm_gen (n : Nat) (ih : SmOk n) (A U V B W : List TG) (hn : U.length + V.length ≤ n + 1) (hU : U.Pairwise R) (hV : V.Pairwise R) (ht : ∀ u ∈ U, ∀ v ∈ V, u.2 < v.2) (hp : W.Perm (U ++ V)) (hr : W.Pairwise R) (hu2 : 2 ≤ U.length) (hv2 : 2 ≤ V.length)
    (N : Nat) (hN : N = A.length + U.length + V.length + B.length) (hN2 : N ≤ 100000) :
    Tri Try.prog 94 [.sl 0 0 N N false, .int .i64 (A.length : Nat), .int .i64 (A.length + U.length : Nat), .int .i64 (A.length + U.length + V.length : Nat), .fn 67 [] []] [.row 4 (terows (mTE (A ++ (U ++ (V ++ B)))))]
      (fun v q => v = .tup [] ∧ q = [.row 4 (terows (mTE (A ++ (W ++ B))))]) := by
  refine Tri.post ?_
  have huj : ∀ j (hj : j < U.length), ∃ (g : A.length + j < (mTE (A ++ (U ++ (V ++ B)))).length), (mTE (A ++ (U ++ (V ++ B))))[A.length + j].due = kA U j := by
    intro j hj
    obtain ⟨g, e⟩ := at_mid A U (V ++ B) (j := j) hj
    exact ⟨g, by rw [kA_get hj, ← e]⟩
  have hvj : ∀ j (hj : j < V.length), ∃ (g : A.length + U.length + j < (mTE (A ++ (U ++ (V ++ B)))).length), (mTE (A ++ (U ++ (V ++ B))))[A.length + U.length + j].due = kA V j := by
    intro j hj
    obtain ⟨g, e⟩ := at_mid (A ++ U) V B (j := j) hj
    simp only [List.append_assoc, List.length_append] at g e
    exact ⟨g, by rw [kA_get hj, ← e]⟩
  have hfin : ∀ (s : Nat), s ≤ U.length → s ≤ (U.length + V.length) / 2 → (U.length + V.length) / 2 - s ≤ V.length →
      (0 < s → (U.length + V.length) / 2 - s < V.length → kA U (s - 1) ≤ kA V ((U.length + V.length) / 2 - s)) → (0 < (U.length + V.length) / 2 - s → s < U.length → kA V ((U.length + V.length) / 2 - s - 1) < kA U s) →
      ∃ Z1 Z2 : List TE,
        (s < U.length → 0 < (U.length + V.length) / 2 - s → Tri Try.prog 97 [.sl 0 0 N N false, .int .i64 (A.length + s : Nat), .int .i64 (A.length + U.length : Nat), .int .i64 (A.length + U.length + ((U.length + V.length) / 2 - s) : Nat), .fn 67 [] []] [.row 4 (terows (mTE (A ++ (U ++ (V ++ B)))))] (fun v q => v = .tup [] ∧ q = [.row 4 (terows Z1)])) ∧
        (¬ (s < U.length ∧ 0 < (U.length + V.length) / 2 - s) → Z1 = mTE (A ++ (U ++ (V ++ B)))) ∧
        (0 < s → 0 < (U.length + V.length) / 2 - s → Tri Try.prog 94 [.sl 0 0 N N false, .int .i64 (A.length : Nat), .int .i64 (A.length + s : Nat), .int .i64 (A.length + (U.length + V.length) / 2 : Nat), .fn 67 [] []] [.row 4 (terows Z1)] (fun v q => v = .tup [] ∧ q = [.row 4 (terows Z2)])) ∧
        (¬ (0 < s ∧ 0 < (U.length + V.length) / 2 - s) → Z2 = Z1) ∧
        (s < U.length → (U.length + V.length) / 2 - s < V.length → Tri Try.prog 94 [.sl 0 0 N N false, .int .i64 (A.length + (U.length + V.length) / 2 : Nat), .int .i64 (A.length + U.length + ((U.length + V.length) / 2 - s) : Nat), .int .i64 (A.length + U.length + V.length : Nat), .fn 67 [] []] [.row 4 (terows Z2)] (fun v q => v = .tup [] ∧ q = [.row 4 (terows (mTE (A ++ (W ++ B))))])) ∧
        (¬ (s < U.length ∧ (U.length + V.length) / 2 - s < V.length) → mTE (A ++ (W ++ B)) = Z2) := by
    intro s hs hsd he c1 c2
    obtain ⟨W1, W2, eW, pW1, pW2, rW1, rW2⟩ := sm_parts hU hV ht hp hr hs he c1 c2
    have hed : (U.length + V.length) / 2 < U.length + V.length := by omega
    have hd1 : 0 < (U.length + V.length) / 2 := by omega
    generalize hd : (U.length + V.length) / 2 = d at *
    generalize hee : d - s = e at *
    have l1 : (U.take s).length = s := by simp; omega
    have l2 : (U.drop s).length = U.length - s := by simp
    have l3 : (V.take e).length = e := by simp; omega
    have l4 : (V.drop e).length = V.length - e := by simp
    have lW1 := pW1.length_eq
    have lW2 := pW2.length_eq
    rw [List.length_append, l1, l3] at lW1
    rw [List.length_append, l2, l4] at lW2
    have eU : U.take s ++ U.drop s = U := List.take_append_drop ..
    have eV : V.take e ++ V.drop e = V := List.take_append_drop ..
    have rU1 : (U.take s).Pairwise R := hU.sublist (List.take_sublist ..)
    have rU2 : (U.drop s).Pairwise R := hU.sublist (List.drop_sublist ..)
    have rV1 : (V.take e).Pairwise R := hV.sublist (List.take_sublist ..)
    have rV2 : (V.drop e).Pairwise R := hV.sublist (List.drop_sublist ..)
    have t1 : ∀ u ∈ U.take s, ∀ v ∈ V.take e, u.2 < v.2 := fun u hu v hv => ht u (List.mem_of_mem_take hu) v (List.mem_of_mem_take hv)
    have t2 : ∀ u ∈ U.drop s, ∀ v ∈ V.drop e, u.2 < v.2 := fun u hu v hv => ht u (List.mem_of_mem_drop hu) v (List.mem_of_mem_drop hv)
    have e0 : mTE (A ++ (U ++ (V ++ B))) = mTE ((A ++ U.take s) ++ (U.drop s ++ (V.take e ++ (V.drop e ++ B)))) := by
      conv => lhs; rw [← eU, ← eV]
      simp only [List.append_assoc]
    generalize U.take s = U1 at *
    generalize U.drop s = U2 at *
    generalize V.take e = V1 at *
    generalize V.drop e = V2 at *
    have n1 : ∀ {L : List TG}, L.length = 0 → L = [] := fun h => List.length_eq_zero_iff.1 h
    refine ⟨mTE ((A ++ U1) ++ (V1 ++ (U2 ++ (V2 ++ B)))), mTE ((A ++ W1) ++ (U2 ++ (V2 ++ B))), ?_, ?_, ?_, ?_, ?_, ?_⟩
    · intro q1 q2
      exact rotG (A ++ U1) U2 V1 (V2 ++ B) (by omega) (by omega) _ _ _ N (by rw [List.length_append]; omega) (by omega) (by omega) (by rw [List.length_append]; omega) hN2 _ _ e0 rfl
    · intro q
      rw [e0]
      by_cases q1 : s < U.length
      · have : V1 = [] := n1 (by omega)
        rw [this]; simp
      · have : U2 = [] := n1 (by omega)
        rw [this]; simp
    · intro q1 q2
      exact ih A U1 V1 (U2 ++ (V2 ++ B)) W1 (by omega) rU1 rV1 t1 pW1 rW1 (by omega) (by omega) _ _ _ N rfl (by omega) (by omega) (by simp only [List.length_append]; omega) hN2 _ _ (by simp only [List.append_assoc]) (by simp only [List.append_assoc])
    · intro q
      by_cases q1 : 0 < s
      · have h0 : V1 = [] := n1 (by omega)
        rw [h0] at pW1 ⊢
        rw [List.append_nil] at pW1
        rw [R_unique pW1 rW1 rU1]; simp
      · have h0 : U1 = [] := n1 (by omega)
        rw [h0] at pW1 ⊢
        rw [List.nil_append] at pW1
        rw [R_unique pW1 rW1 rV1]; simp
    · intro q1 q2
      exact ih (A ++ W1) U2 V2 B W2 (by omega) rU2 rV2 t2 pW2 rW2 (by omega) (by omega) _ _ _ N (by rw [List.length_append]; omega) (by omega) (by omega) (by omega) hN2 _ _ rfl (by rw [eW]; simp only [List.append_assoc])
    · intro q
      by_cases q1 : s < U.length
      · have h0 : V2 = [] := n1 (by omega)
        rw [h0] at pW2 ⊢
        rw [List.append_nil] at pW2
        rw [eW, R_unique pW2 rW2 rU2]; simp
      · have h0 : U2 = [] := n1 (by omega)
        rw [h0] at pW2 ⊢
        rw [List.nil_append] at pW2
        rw [eW, R_unique pW2 rW2 rV2]; simp
  clear ih
  generalize mTE (A ++ (U ++ (V ++ B))) = Z at *
  generalize mTE (A ++ (W ++ B)) = Z9 at *
  generalize ha : A.length = a at *
  generalize hu : U.length = u at *
  generalize hv : V.length = v at *
  have hdd : (u + v) / 2 < u + v := by omega
  generalize hd : (u + v) / 2 = d at *
  have c0 : (iwrap .i64 (((a + u : Nat) : Int) - (a : Nat)) == 1) = false := by rw [iwrap_i64_in (by omega)]; simp; omega
  have c1 : (iwrap .i64 (((a + u + v : Nat) : Int) - ((a + u : Nat) : Int)) == 1) = false := by rw [iwrap_i64_in (by omega)]; simp; omega
  have hm : iwrap .i64 (((a : Nat) : Int) + ((a + u + v : Nat) : Int)) = ((a + (a + u + v) : Nat) : Int) := by rw [iwrap_i64_in (by omega)]; omega
  have hhf := half_u64 (n := a + (a + u + v)) (by omega)
  rw [show (a + (a + u + v)) / 2 = a + d by omega] at hhf
  have hwn : iwrap .i64 (((a + d : Nat) : Int) + ((a + u : Nat) : Int)) = ((a + d + (a + u) : Nat) : Int) := by rw [iwrap_i64_in (by omega)]; omega
  have hwp : iwrap .i64 (((a + d + (a + u) : Nat) : Int) - 1) = ((a + d + (a + u) - 1 : Nat) : Int) := by rw [iwrap_i64_in (by omega)]; omega
  have hws : u > d → iwrap .i64 (((a + d + (a + u) : Nat) : Int) - ((a + u + v : Nat) : Int)) = ((a + (d - v) : Nat) : Int) := fun h => by rw [iwrap_i64_in (by omega)]; omega
  by_cases cm : u > d
  · have cmi : ((a + u : Nat) : Int) > ((a + d : Nat) : Int) := by omega
    have hws := hws cm
    skip
    refine (Tri.enter (rl := r94) (code := c94) (by kernel_rfl) Try.func94 rfl c94_ok (by kernel_rfl) (by kernel_rfl) ?_)
    refine run_ok 4000 _ _ _ _ ?_
    simp (maxSteps := 10000000) only [go_sem, c94, r94, c0, c1, hm, hhf, hwn, hwp, hws, cmi]
    refine sem_rounds (fun q : Nat × Nat => (d - v) ≤ q.1 ∧ q.1 ≤ q.2 ∧ q.2 ≤ d ∧ ((d - v) < q.1 → kA U (q.1 - 1) ≤ kA V (d - q.1)) ∧ (q.2 < d → kA V (d - 1 - q.2) < kA U q.2))
      (fun q => [(0, .sl 0 0 N N false), (1, .int .i64 (a : Nat)), (2, .int .i64 (a + u : Nat)), (3, .int .i64 (a + u + v : Nat)), (4, (AV.fn 67 [] [])), (18, .int .i64 (a + d : Nat)), (19, .int .i64 (a + d + (a + u) : Nat)), (20, .int .i64 (a + q.1 : Nat)), (21, .int .i64 (a + q.2 : Nat)), (22, .int .i64 (a + d + (a + u) - 1 : Nat))])
      (fun q => [.row 4 (terows Z)]) (fun q => q.2 - q.1) ((d - v), d) [0] ⟨Nat.le_refl _, by simp only; omega, Nat.le_refl _, by simp only; omega, by simp only; omega⟩ ?_ ?_
    · simp only [Emb, go_sem, Nat.add_zero]
    rintro ⟨s, r⟩ ⟨g1, g2, g3, g4, g5⟩
    simp only at g1 g2 g3 g4 g5 ⊢
    by_cases hlt : s < r
    · have hin : ((a + s : Nat) : Int) < ((a + r : Nat) : Int) := by omega
      have hm2 : iwrap .i64 (((a + s : Nat) : Int) + ((a + r : Nat) : Int)) = ((a + s + (a + r) : Nat) : Int) := by rw [iwrap_i64_in (by omega)]; omega
      have hhf2 := half_u64 (n := a + s + (a + r)) (by omega)
      rw [show (a + s + (a + r)) / 2 = a + (s + r) / 2 by omega] at hhf2
      have hlt2 : (s + r) / 2 < r := by omega
      have hlp : s ≤ (s + r) / 2 := by omega
      generalize (s + r) / 2 = h at *
      obtain ⟨gu, eu⟩ := huj h (by omega)
      obtain ⟨gv, ev⟩ := hvj (d - 1 - h) (by omega)
      have hwq : iwrap .i64 (((a + d + (a + u) - 1 : Nat) : Int) - ((a + h : Nat) : Int)) = ((a + u + (d - 1 - h) : Nat) : Int) := by rw [iwrap_i64_in (by omega)]; omega
      have hcm := due1_spec Z[a + u + (d - 1 - h)] Z[a + h]
      have hcl := cmpI_lt Z[a + u + (d - 1 - h)].due Z[a + h].due
      have q0 := te_r0 gu; have q1 := te_r1 gu; have q2 := te_r2 gu; have q3 := te_r3 gu
      have p0 := te_r0 gv; have p1 := te_r1 gv; have p2 := te_r2 gv; have p3 := te_r3 gv
      have d1 : ((a + h : Nat) : Int) < (N : Int) := by omega
      have d2 : ((a + u + (d - 1 - h) : Nat) : Int) < (N : Int) := by omega
      by_cases c : kA V (d - 1 - h) < kA U h
      · have c3' : cmpI Z[a + u + (d - 1 - h)].due Z[a + h].due < 0 := by rw [hcl, eu, ev]; exact c
        generalize Z[a + u + (d - 1 - h)] = x at *
        generalize Z[a + h] = y at *
        skip
        refine run_ok 4000 _ _ _ _ ?_
        simp (maxSteps := 10000000) only [go_sem, hin, hm2, hhf2, hwq, d1, d2, te_h0 gu, te_h1 gu, te_h2 gu, te_h3 gu, te_h0 gv, te_h1 gv, te_h2 gv, te_h3 gv, q0, q1, q2, q3, p0, p1, p2, p3, c3', te_len, Int.natCast_nonneg]
        refine sem_drawG l94_4_ok (by kernel_rfl) ?_
        intro KK hKK
        simp (maxSteps := 10000000) only [go_sem, l94_4, hin, hm2, hhf2, hwq, d1, d2, te_h0 gu, te_h1 gu, te_h2 gu, te_h3 gu, te_h0 gv, te_h1 gv, te_h2 gv, te_h3 gv, q0, q1, q2, q3, p0, p1, p2, p3, c3', te_len, Int.natCast_nonneg]
        subst hKK
        simp (maxSteps := 10000000) only [go_sem, hin, hm2, hhf2, hwq, d1, d2, te_h0 gu, te_h1 gu, te_h2 gu, te_h3 gu, te_h0 gv, te_h1 gv, te_h2 gv, te_h3 gv, q0, q1, q2, q3, p0, p1, p2, p3, c3', te_len, Int.natCast_nonneg]
        refine TriZ.of (((hcm).embed [] rfl (by repeat' first | exact trivial | rfl | (simp only [go_sem]; done) | constructor) rfl (by first | rfl | simp only [go_sem]) rfl (by simp)).mono ?_)
        rintro _ _ ⟨_, _, ⟨rfl, rfl⟩, rfl, rfl⟩
        simp (maxSteps := 10000000) only [go_sem, hin, hm2, hhf2, hwq, d1, d2, te_h0 gu, te_h1 gu, te_h2 gu, te_h3 gu, te_h0 gv, te_h1 gv, te_h2 gv, te_h3 gv, q0, q1, q2, q3, p0, p1, p2, p3, c3', te_len, Int.natCast_nonneg]
        refine ⟨(s, h), by simp only; omega, ⟨g1, by simp only; omega, by simp only; omega, g4, fun _ => c⟩, [0], ?_⟩
        simp only [Emb, go_sem]
      · have c3' : ¬ cmpI Z[a + u + (d - 1 - h)].due Z[a + h].due < 0 := by rw [hcl, eu, ev]; exact c
        generalize Z[a + u + (d - 1 - h)] = x at *
        generalize Z[a + h] = y at *
        skip
        refine run_ok 4000 _ _ _ _ ?_
        simp (maxSteps := 10000000) only [go_sem, hin, hm2, hhf2, hwq, d1, d2, te_h0 gu, te_h1 gu, te_h2 gu, te_h3 gu, te_h0 gv, te_h1 gv, te_h2 gv, te_h3 gv, q0, q1, q2, q3, p0, p1, p2, p3, c3', te_len, Int.natCast_nonneg, inc64 (show a + h < 1000000000000 by omega)]
        refine sem_drawG l94_4_ok (by kernel_rfl) ?_
        intro KK hKK
        simp (maxSteps := 10000000) only [go_sem, l94_4, hin, hm2, hhf2, hwq, d1, d2, te_h0 gu, te_h1 gu, te_h2 gu, te_h3 gu, te_h0 gv, te_h1 gv, te_h2 gv, te_h3 gv, q0, q1, q2, q3, p0, p1, p2, p3, c3', te_len, Int.natCast_nonneg, inc64 (show a + h < 1000000000000 by omega)]
        subst hKK
        simp (maxSteps := 10000000) only [go_sem, hin, hm2, hhf2, hwq, d1, d2, te_h0 gu, te_h1 gu, te_h2 gu, te_h3 gu, te_h0 gv, te_h1 gv, te_h2 gv, te_h3 gv, q0, q1, q2, q3, p0, p1, p2, p3, c3', te_len, Int.natCast_nonneg, inc64 (show a + h < 1000000000000 by omega)]
        refine TriZ.of (((hcm).embed [] rfl (by repeat' first | exact trivial | rfl | (simp only [go_sem]; done) | constructor) rfl (by first | rfl | simp only [go_sem]) rfl (by simp)).mono ?_)
        rintro _ _ ⟨_, _, ⟨rfl, rfl⟩, rfl, rfl⟩
        simp (maxSteps := 10000000) only [go_sem, hin, hm2, hhf2, hwq, d1, d2, te_h0 gu, te_h1 gu, te_h2 gu, te_h3 gu, te_h0 gv, te_h1 gv, te_h2 gv, te_h3 gv, q0, q1, q2, q3, p0, p1, p2, p3, c3', te_len, Int.natCast_nonneg, inc64 (show a + h < 1000000000000 by omega)]
        refine ⟨(h + 1, r), by simp only; omega, ⟨by simp only; omega, by simp only; omega, g3, fun _ => by simp only [Nat.add_sub_cancel]; rw [show d - (h + 1) = d - 1 - h by omega]; omega, g5⟩, [0], ?_⟩
        simp only [Emb, go_sem, Nat.add_assoc]
    have hre : s = r := by omega
    subst hre
    have hge : ¬ ((a + s : Nat) : Int) < ((a + s : Nat) : Int) := by omega
    obtain ⟨Z1, Z2, H1, E1, H2, E2, H3, E3⟩ := hfin s (by omega) (by omega) (by omega) (fun h0 h1 => g4 (by omega)) (fun h0 h1 => by rw [show d - s - 1 = d - 1 - s by omega]; exact g5 (by omega))
    clear hfin huj hvj
    have hwe : iwrap .i64 (((a + d + (a + u) : Nat) : Int) - ((a + s : Nat) : Int)) = ((a + u + (d - s) : Nat) : Int) := by rw [iwrap_i64_in (by omega)]; omega
    have hsd : s ≤ d := by omega
    by_cases k1 : s < u
    · by_cases k2 : 0 < d - s
      · by_cases k3 : 0 < s
        · by_cases k4 : d - s < v
          · have f1 : ((a + s : Nat) : Int) < ((a + u : Nat) : Int) := by omega
            have f2 : ((a + u : Nat) : Int) < ((a + u + (d - s) : Nat) : Int) := by omega
            have f3 : ((a : Nat) : Int) < ((a + s : Nat) : Int) := by omega
            have f4 : ((a + s : Nat) : Int) < ((a + d : Nat) : Int) := by omega
            have f5 : ((a + d : Nat) : Int) < ((a + u + (d - s) : Nat) : Int) := by omega
            have f6 : ((a + u + (d - s) : Nat) : Int) < ((a + u + v : Nat) : Int) := by omega
            have H1 := H1 k1 k2
            have H2 := H2 k3 k2
            have H3 := H3 k1 k4
            skip
            refine run_ok 4000 _ _ _ _ ?_
            simp (maxSteps := 10000000) only [go_sem, hge, hwe, f1, f2, f3, f4, f5, f6]
            refine run_ok 4000 _ _ _ _ ?_
            simp (maxSteps := 10000000) only [go_sem, hge, hwe, f1, f2, f3, f4, f5, f6]
            refine sem_call rfl rfl (((H1).embed [0] rfl (by repeat' first | exact trivial | rfl | (simp only [go_sem]; done) | constructor) rfl (by first | rfl | simp only [go_sem]) rfl (by simp)).mono ?_)
            rintro _ _ ⟨_, _, ⟨rfl, rfl⟩, rfl, rfl⟩
            refine run_ok 4000 _ _ _ _ ?_
            simp (maxSteps := 10000000) only [go_sem, hge, hwe, f1, f2, f3, f4, f5, f6]
            refine sem_call rfl rfl (((H2).embed [0] rfl (by repeat' first | exact trivial | rfl | (simp only [go_sem]; done) | constructor) rfl (by first | rfl | simp only [go_sem]) rfl (by simp)).mono ?_)
            rintro _ _ ⟨_, _, ⟨rfl, rfl⟩, rfl, rfl⟩
            refine run_ok 4000 _ _ _ _ ?_
            simp (maxSteps := 10000000) only [go_sem, hge, hwe, f1, f2, f3, f4, f5, f6]
            refine sem_call rfl rfl (((H3).embed [0] rfl (by repeat' first | exact trivial | rfl | (simp only [go_sem]; done) | constructor) rfl (by first | rfl | simp only [go_sem]) rfl (by simp)).mono ?_)
            rintro _ _ ⟨_, _, ⟨rfl, rfl⟩, rfl, rfl⟩
            refine run_ok 4000 _ _ _ _ ?_
            simp (maxSteps := 10000000) only [go_sem, hge, hwe, f1, f2, f3, f4, f5, f6]
            refine ⟨_, _, .sub [0] ?_ .done, rfl, rfl⟩
            simp only [EmbV, go_sem]
          · have f1 : ((a + s : Nat) : Int) < ((a + u : Nat) : Int) := by omega
            have f2 : ((a + u : Nat) : Int) < ((a + u + (d - s) : Nat) : Int) := by omega
            have f3 : ((a : Nat) : Int) < ((a + s : Nat) : Int) := by omega
            have f4 : ((a + s : Nat) : Int) < ((a + d : Nat) : Int) := by omega
            have f5 : ((a + d : Nat) : Int) < ((a + u + (d - s) : Nat) : Int) := by omega
            have f6 : ¬ ((a + u + (d - s) : Nat) : Int) < ((a + u + v : Nat) : Int) := by omega
            have H1 := H1 k1 k2
            have H2 := H2 k3 k2
            have E3 := E3 (by omega)
            subst E3
            skip
            refine run_ok 4000 _ _ _ _ ?_
            simp (maxSteps := 10000000) only [go_sem, hge, hwe, f1, f2, f3, f4, f5, f6]
            refine run_ok 4000 _ _ _ _ ?_
            simp (maxSteps := 10000000) only [go_sem, hge, hwe, f1, f2, f3, f4, f5, f6]
            refine sem_call rfl rfl (((H1).embed [0] rfl (by repeat' first | exact trivial | rfl | (simp only [go_sem]; done) | constructor) rfl (by first | rfl | simp only [go_sem]) rfl (by simp)).mono ?_)
            rintro _ _ ⟨_, _, ⟨rfl, rfl⟩, rfl, rfl⟩
            refine run_ok 4000 _ _ _ _ ?_
            simp (maxSteps := 10000000) only [go_sem, hge, hwe, f1, f2, f3, f4, f5, f6]
            refine sem_call rfl rfl (((H2).embed [0] rfl (by repeat' first | exact trivial | rfl | (simp only [go_sem]; done) | constructor) rfl (by first | rfl | simp only [go_sem]) rfl (by simp)).mono ?_)
            rintro _ _ ⟨_, _, ⟨rfl, rfl⟩, rfl, rfl⟩
            refine run_ok 4000 _ _ _ _ ?_
            simp (maxSteps := 10000000) only [go_sem, hge, hwe, f1, f2, f3, f4, f5, f6]
            refine ⟨_, _, .sub [0] ?_ .done, rfl, rfl⟩
            simp only [EmbV, go_sem]
        · by_cases k4 : d - s < v
          · have f1 : ((a + s : Nat) : Int) < ((a + u : Nat) : Int) := by omega
            have f2 : ((a + u : Nat) : Int) < ((a + u + (d - s) : Nat) : Int) := by omega
            have f3 : ¬ ((a : Nat) : Int) < ((a + s : Nat) : Int) := by omega
            have f4 : ((a + s : Nat) : Int) < ((a + d : Nat) : Int) := by omega
            have f5 : ((a + d : Nat) : Int) < ((a + u + (d - s) : Nat) : Int) := by omega
            have f6 : ((a + u + (d - s) : Nat) : Int) < ((a + u + v : Nat) : Int) := by omega
            have H1 := H1 k1 k2
            have E2 := E2 (by omega)
            have H3 := H3 k1 k4
            subst E2
            skip
            refine run_ok 4000 _ _ _ _ ?_
            simp (maxSteps := 10000000) only [go_sem, hge, hwe, f1, f2, f3, f4, f5, f6]
            refine run_ok 4000 _ _ _ _ ?_
            simp (maxSteps := 10000000) only [go_sem, hge, hwe, f1, f2, f3, f4, f5, f6]
            refine sem_call rfl rfl (((H1).embed [0] rfl (by repeat' first | exact trivial | rfl | (simp only [go_sem]; done) | constructor) rfl (by first | rfl | simp only [go_sem]) rfl (by simp)).mono ?_)
            rintro _ _ ⟨_, _, ⟨rfl, rfl⟩, rfl, rfl⟩
            refine run_ok 4000 _ _ _ _ ?_
            simp (maxSteps := 10000000) only [go_sem, hge, hwe, f1, f2, f3, f4, f5, f6]
            refine sem_call rfl rfl (((H3).embed [0] rfl (by repeat' first | exact trivial | rfl | (simp only [go_sem]; done) | constructor) rfl (by first | rfl | simp only [go_sem]) rfl (by simp)).mono ?_)
            rintro _ _ ⟨_, _, ⟨rfl, rfl⟩, rfl, rfl⟩
            refine run_ok 4000 _ _ _ _ ?_
            simp (maxSteps := 10000000) only [go_sem, hge, hwe, f1, f2, f3, f4, f5, f6]
            refine ⟨_, _, .sub [0] ?_ .done, rfl, rfl⟩
            simp only [EmbV, go_sem]
          · have f1 : ((a + s : Nat) : Int) < ((a + u : Nat) : Int) := by omega
            have f2 : ((a + u : Nat) : Int) < ((a + u + (d - s) : Nat) : Int) := by omega
            have f3 : ¬ ((a : Nat) : Int) < ((a + s : Nat) : Int) := by omega
            have f4 : ((a + s : Nat) : Int) < ((a + d : Nat) : Int) := by omega
            have f5 : ((a + d : Nat) : Int) < ((a + u + (d - s) : Nat) : Int) := by omega
            have f6 : ¬ ((a + u + (d - s) : Nat) : Int) < ((a + u + v : Nat) : Int) := by omega
            have H1 := H1 k1 k2
            have E2 := E2 (by omega)
            have E3 := E3 (by omega)
            subst E2
            subst E3
            skip
            refine run_ok 4000 _ _ _ _ ?_
            simp (maxSteps := 10000000) only [go_sem, hge, hwe, f1, f2, f3, f4, f5, f6]
            refine run_ok 4000 _ _ _ _ ?_
            simp (maxSteps := 10000000) only [go_sem, hge, hwe, f1, f2, f3, f4, f5, f6]
            refine sem_call rfl rfl (((H1).embed [0] rfl (by repeat' first | exact trivial | rfl | (simp only [go_sem]; done) | constructor) rfl (by first | rfl | simp only [go_sem]) rfl (by simp)).mono ?_)
            rintro _ _ ⟨_, _, ⟨rfl, rfl⟩, rfl, rfl⟩
            refine run_ok 4000 _ _ _ _ ?_
            simp (maxSteps := 10000000) only [go_sem, hge, hwe, f1, f2, f3, f4, f5, f6]
            refine ⟨_, _, .sub [0] ?_ .done, rfl, rfl⟩
            simp only [EmbV, go_sem]
      · by_cases k3 : 0 < s
        · by_cases k4 : d - s < v
          · have f1 : ((a + s : Nat) : Int) < ((a + u : Nat) : Int) := by omega
            have f2 : ¬ ((a + u : Nat) : Int) < ((a + u + (d - s) : Nat) : Int) := by omega
            have f3 : ((a : Nat) : Int) < ((a + s : Nat) : Int) := by omega
            have f4 : ¬ ((a + s : Nat) : Int) < ((a + d : Nat) : Int) := by omega
            have f5 : ((a + d : Nat) : Int) < ((a + u + (d - s) : Nat) : Int) := by omega
            have f6 : ((a + u + (d - s) : Nat) : Int) < ((a + u + v : Nat) : Int) := by omega
            have E1 := E1 (by omega)
            have E2 := E2 (by omega)
            have H3 := H3 k1 k4
            subst E1
            subst E2
            skip
            refine run_ok 4000 _ _ _ _ ?_
            simp (maxSteps := 10000000) only [go_sem, hge, hwe, f1, f2, f3, f4, f5, f6]
            refine run_ok 4000 _ _ _ _ ?_
            simp (maxSteps := 10000000) only [go_sem, hge, hwe, f1, f2, f3, f4, f5, f6]
            refine sem_call rfl rfl (((H3).embed [0] rfl (by repeat' first | exact trivial | rfl | (simp only [go_sem]; done) | constructor) rfl (by first | rfl | simp only [go_sem]) rfl (by simp)).mono ?_)
            rintro _ _ ⟨_, _, ⟨rfl, rfl⟩, rfl, rfl⟩
            refine run_ok 4000 _ _ _ _ ?_
            simp (maxSteps := 10000000) only [go_sem, hge, hwe, f1, f2, f3, f4, f5, f6]
            refine ⟨_, _, .sub [0] ?_ .done, rfl, rfl⟩
            simp only [EmbV, go_sem]
          · have f1 : ((a + s : Nat) : Int) < ((a + u : Nat) : Int) := by omega
            have f2 : ¬ ((a + u : Nat) : Int) < ((a + u + (d - s) : Nat) : Int) := by omega
            have f3 : ((a : Nat) : Int) < ((a + s : Nat) : Int) := by omega
            have f4 : ¬ ((a + s : Nat) : Int) < ((a + d : Nat) : Int) := by omega
            have f5 : ((a + d : Nat) : Int) < ((a + u + (d - s) : Nat) : Int) := by omega
            have f6 : ¬ ((a + u + (d - s) : Nat) : Int) < ((a + u + v : Nat) : Int) := by omega
            have E1 := E1 (by omega)
            have E2 := E2 (by omega)
            have E3 := E3 (by omega)
            subst E1
            subst E2
            subst E3
            skip
            refine run_ok 4000 _ _ _ _ ?_
            simp (maxSteps := 10000000) only [go_sem, hge, hwe, f1, f2, f3, f4, f5, f6]
            refine run_ok 4000 _ _ _ _ ?_
            simp (maxSteps := 10000000) only [go_sem, hge, hwe, f1, f2, f3, f4, f5, f6]
            refine ⟨_, _, .sub [0] ?_ .done, rfl, rfl⟩
            simp only [EmbV, go_sem]
        · by_cases k4 : d - s < v
          · have f1 : ((a + s : Nat) : Int) < ((a + u : Nat) : Int) := by omega
            have f2 : ¬ ((a + u : Nat) : Int) < ((a + u + (d - s) : Nat) : Int) := by omega
            have f3 : ¬ ((a : Nat) : Int) < ((a + s : Nat) : Int) := by omega
            have f4 : ¬ ((a + s : Nat) : Int) < ((a + d : Nat) : Int) := by omega
            have f5 : ((a + d : Nat) : Int) < ((a + u + (d - s) : Nat) : Int) := by omega
            have f6 : ((a + u + (d - s) : Nat) : Int) < ((a + u + v : Nat) : Int) := by omega
            have E1 := E1 (by omega)
            have E2 := E2 (by omega)
            have H3 := H3 k1 k4
            subst E1
            subst E2
            skip
            refine run_ok 4000 _ _ _ _ ?_
            simp (maxSteps := 10000000) only [go_sem, hge, hwe, f1, f2, f3, f4, f5, f6]
            refine run_ok 4000 _ _ _ _ ?_
            simp (maxSteps := 10000000) only [go_sem, hge, hwe, f1, f2, f3, f4, f5, f6]
            refine sem_call rfl rfl (((H3).embed [0] rfl (by repeat' first | exact trivial | rfl | (simp only [go_sem]; done) | constructor) rfl (by first | rfl | simp only [go_sem]) rfl (by simp)).mono ?_)
            rintro _ _ ⟨_, _, ⟨rfl, rfl⟩, rfl, rfl⟩
            refine run_ok 4000 _ _ _ _ ?_
            simp (maxSteps := 10000000) only [go_sem, hge, hwe, f1, f2, f3, f4, f5, f6]
            refine ⟨_, _, .sub [0] ?_ .done, rfl, rfl⟩
            simp only [EmbV, go_sem]
          · have f1 : ((a + s : Nat) : Int) < ((a + u : Nat) : Int) := by omega
            have f2 : ¬ ((a + u : Nat) : Int) < ((a + u + (d - s) : Nat) : Int) := by omega
            have f3 : ¬ ((a : Nat) : Int) < ((a + s : Nat) : Int) := by omega
            have f4 : ¬ ((a + s : Nat) : Int) < ((a + d : Nat) : Int) := by omega
            have f5 : ((a + d : Nat) : Int) < ((a + u + (d - s) : Nat) : Int) := by omega
            have f6 : ¬ ((a + u + (d - s) : Nat) : Int) < ((a + u + v : Nat) : Int) := by omega
            have E1 := E1 (by omega)
            have E2 := E2 (by omega)
            have E3 := E3 (by omega)
            subst E1
            subst E2
            subst E3
            skip
            refine run_ok 4000 _ _ _ _ ?_
            simp (maxSteps := 10000000) only [go_sem, hge, hwe, f1, f2, f3, f4, f5, f6]
            refine run_ok 4000 _ _ _ _ ?_
            simp (maxSteps := 10000000) only [go_sem, hge, hwe, f1, f2, f3, f4, f5, f6]
            refine ⟨_, _, .sub [0] ?_ .done, rfl, rfl⟩
            simp only [EmbV, go_sem]
    · by_cases k2 : 0 < d - s
      · by_cases k3 : 0 < s
        · by_cases k4 : d - s < v
          · have f1 : ¬ ((a + s : Nat) : Int) < ((a + u : Nat) : Int) := by omega
            have f2 : ((a + u : Nat) : Int) < ((a + u + (d - s) : Nat) : Int) := by omega
            have f3 : ((a : Nat) : Int) < ((a + s : Nat) : Int) := by omega
            have f4 : ((a + s : Nat) : Int) < ((a + d : Nat) : Int) := by omega
            have f5 : ¬ ((a + d : Nat) : Int) < ((a + u + (d - s) : Nat) : Int) := by omega
            have f6 : ((a + u + (d - s) : Nat) : Int) < ((a + u + v : Nat) : Int) := by omega
            have E1 := E1 (by omega)
            have H2 := H2 k3 k2
            have E3 := E3 (by omega)
            subst E1
            subst E3
            skip
            refine run_ok 4000 _ _ _ _ ?_
            simp (maxSteps := 10000000) only [go_sem, hge, hwe, f1, f2, f3, f4, f5, f6]
            refine run_ok 4000 _ _ _ _ ?_
            simp (maxSteps := 10000000) only [go_sem, hge, hwe, f1, f2, f3, f4, f5, f6]
            refine sem_call rfl rfl (((H2).embed [0] rfl (by repeat' first | exact trivial | rfl | (simp only [go_sem]; done) | constructor) rfl (by first | rfl | simp only [go_sem]) rfl (by simp)).mono ?_)
            rintro _ _ ⟨_, _, ⟨rfl, rfl⟩, rfl, rfl⟩
            refine run_ok 4000 _ _ _ _ ?_
            simp (maxSteps := 10000000) only [go_sem, hge, hwe, f1, f2, f3, f4, f5, f6]
            refine ⟨_, _, .sub [0] ?_ .done, rfl, rfl⟩
            simp only [EmbV, go_sem]
          · have f1 : ¬ ((a + s : Nat) : Int) < ((a + u : Nat) : Int) := by omega
            have f2 : ((a + u : Nat) : Int) < ((a + u + (d - s) : Nat) : Int) := by omega
            have f3 : ((a : Nat) : Int) < ((a + s : Nat) : Int) := by omega
            have f4 : ((a + s : Nat) : Int) < ((a + d : Nat) : Int) := by omega
            have f5 : ¬ ((a + d : Nat) : Int) < ((a + u + (d - s) : Nat) : Int) := by omega
            have f6 : ¬ ((a + u + (d - s) : Nat) : Int) < ((a + u + v : Nat) : Int) := by omega
            have E1 := E1 (by omega)
            have H2 := H2 k3 k2
            have E3 := E3 (by omega)
            subst E1
            subst E3
            skip
            refine run_ok 4000 _ _ _ _ ?_
            simp (maxSteps := 10000000) only [go_sem, hge, hwe, f1, f2, f3, f4, f5, f6]
            refine run_ok 4000 _ _ _ _ ?_
            simp (maxSteps := 10000000) only [go_sem, hge, hwe, f1, f2, f3, f4, f5, f6]
            refine sem_call rfl rfl (((H2).embed [0] rfl (by repeat' first | exact trivial | rfl | (simp only [go_sem]; done) | constructor) rfl (by first | rfl | simp only [go_sem]) rfl (by simp)).mono ?_)
            rintro _ _ ⟨_, _, ⟨rfl, rfl⟩, rfl, rfl⟩
            refine run_ok 4000 _ _ _ _ ?_
            simp (maxSteps := 10000000) only [go_sem, hge, hwe, f1, f2, f3, f4, f5, f6]
            refine ⟨_, _, .sub [0] ?_ .done, rfl, rfl⟩
            simp only [EmbV, go_sem]
        · by_cases k4 : d - s < v
          · have f1 : ¬ ((a + s : Nat) : Int) < ((a + u : Nat) : Int) := by omega
            have f2 : ((a + u : Nat) : Int) < ((a + u + (d - s) : Nat) : Int) := by omega
            have f3 : ¬ ((a : Nat) : Int) < ((a + s : Nat) : Int) := by omega
            have f4 : ((a + s : Nat) : Int) < ((a + d : Nat) : Int) := by omega
            have f5 : ¬ ((a + d : Nat) : Int) < ((a + u + (d - s) : Nat) : Int) := by omega
            have f6 : ((a + u + (d - s) : Nat) : Int) < ((a + u + v : Nat) : Int) := by omega
            have E1 := E1 (by omega)
            have E2 := E2 (by omega)
            have E3 := E3 (by omega)
            subst E1
            subst E2
            subst E3
            skip
            refine run_ok 4000 _ _ _ _ ?_
            simp (maxSteps := 10000000) only [go_sem, hge, hwe, f1, f2, f3, f4, f5, f6]
            refine run_ok 4000 _ _ _ _ ?_
            simp (maxSteps := 10000000) only [go_sem, hge, hwe, f1, f2, f3, f4, f5, f6]
            refine ⟨_, _, .sub [0] ?_ .done, rfl, rfl⟩
            simp only [EmbV, go_sem]
          · have f1 : ¬ ((a + s : Nat) : Int) < ((a + u : Nat) : Int) := by omega
            have f2 : ((a + u : Nat) : Int) < ((a + u + (d - s) : Nat) : Int) := by omega
            have f3 : ¬ ((a : Nat) : Int) < ((a + s : Nat) : Int) := by omega
            have f4 : ((a + s : Nat) : Int) < ((a + d : Nat) : Int) := by omega
            have f5 : ¬ ((a + d : Nat) : Int) < ((a + u + (d - s) : Nat) : Int) := by omega
            have f6 : ¬ ((a + u + (d - s) : Nat) : Int) < ((a + u + v : Nat) : Int) := by omega
            have E1 := E1 (by omega)
            have E2 := E2 (by omega)
            have E3 := E3 (by omega)
            subst E1
            subst E2
            subst E3
            skip
            refine run_ok 4000 _ _ _ _ ?_
            simp (maxSteps := 10000000) only [go_sem, hge, hwe, f1, f2, f3, f4, f5, f6]
            refine run_ok 4000 _ _ _ _ ?_
            simp (maxSteps := 10000000) only [go_sem, hge, hwe, f1, f2, f3, f4, f5, f6]
            refine ⟨_, _, .sub [0] ?_ .done, rfl, rfl⟩
            simp only [EmbV, go_sem]
      · by_cases k3 : 0 < s
        · by_cases k4 : d - s < v
          · have f1 : ¬ ((a + s : Nat) : Int) < ((a + u : Nat) : Int) := by omega
            have f2 : ¬ ((a + u : Nat) : Int) < ((a + u + (d - s) : Nat) : Int) := by omega
            have f3 : ((a : Nat) : Int) < ((a + s : Nat) : Int) := by omega
            have f4 : ¬ ((a + s : Nat) : Int) < ((a + d : Nat) : Int) := by omega
            have f5 : ¬ ((a + d : Nat) : Int) < ((a + u + (d - s) : Nat) : Int) := by omega
            have f6 : ((a + u + (d - s) : Nat) : Int) < ((a + u + v : Nat) : Int) := by omega
            have E1 := E1 (by omega)
            have E2 := E2 (by omega)
            have E3 := E3 (by omega)
            subst E1
            subst E2
            subst E3
            skip
            refine run_ok 4000 _ _ _ _ ?_
            simp (maxSteps := 10000000) only [go_sem, hge, hwe, f1, f2, f3, f4, f5, f6]
            refine run_ok 4000 _ _ _ _ ?_
            simp (maxSteps := 10000000) only [go_sem, hge, hwe, f1, f2, f3, f4, f5, f6]
            refine ⟨_, _, .sub [0] ?_ .done, rfl, rfl⟩
            simp only [EmbV, go_sem]
          · have f1 : ¬ ((a + s : Nat) : Int) < ((a + u : Nat) : Int) := by omega
            have f2 : ¬ ((a + u : Nat) : Int) < ((a + u + (d - s) : Nat) : Int) := by omega
            have f3 : ((a : Nat) : Int) < ((a + s : Nat) : Int) := by omega
            have f4 : ¬ ((a + s : Nat) : Int) < ((a + d : Nat) : Int) := by omega
            have f5 : ¬ ((a + d : Nat) : Int) < ((a + u + (d - s) : Nat) : Int) := by omega
            have f6 : ¬ ((a + u + (d - s) : Nat) : Int) < ((a + u + v : Nat) : Int) := by omega
            have E1 := E1 (by omega)
            have E2 := E2 (by omega)
            have E3 := E3 (by omega)
            subst E1
            subst E2
            subst E3
            skip
            refine run_ok 4000 _ _ _ _ ?_
            simp (maxSteps := 10000000) only [go_sem, hge, hwe, f1, f2, f3, f4, f5, f6]
            refine run_ok 4000 _ _ _ _ ?_
            simp (maxSteps := 10000000) only [go_sem, hge, hwe, f1, f2, f3, f4, f5, f6]
            refine ⟨_, _, .sub [0] ?_ .done, rfl, rfl⟩
            simp only [EmbV, go_sem]
        · by_cases k4 : d - s < v
          · have f1 : ¬ ((a + s : Nat) : Int) < ((a + u : Nat) : Int) := by omega
            have f2 : ¬ ((a + u : Nat) : Int) < ((a + u + (d - s) : Nat) : Int) := by omega
            have f3 : ¬ ((a : Nat) : Int) < ((a + s : Nat) : Int) := by omega
            have f4 : ¬ ((a + s : Nat) : Int) < ((a + d : Nat) : Int) := by omega
            have f5 : ¬ ((a + d : Nat) : Int) < ((a + u + (d - s) : Nat) : Int) := by omega
            have f6 : ((a + u + (d - s) : Nat) : Int) < ((a + u + v : Nat) : Int) := by omega
            have E1 := E1 (by omega)
            have E2 := E2 (by omega)
            have E3 := E3 (by omega)
            subst E1
            subst E2
            subst E3
            skip
            refine run_ok 4000 _ _ _ _ ?_
            simp (maxSteps := 10000000) only [go_sem, hge, hwe, f1, f2, f3, f4, f5, f6]
            refine run_ok 4000 _ _ _ _ ?_
            simp (maxSteps := 10000000) only [go_sem, hge, hwe, f1, f2, f3, f4, f5, f6]
            refine ⟨_, _, .sub [0] ?_ .done, rfl, rfl⟩
            simp only [EmbV, go_sem]
          · have f1 : ¬ ((a + s : Nat) : Int) < ((a + u : Nat) : Int) := by omega
            have f2 : ¬ ((a + u : Nat) : Int) < ((a + u + (d - s) : Nat) : Int) := by omega
            have f3 : ¬ ((a : Nat) : Int) < ((a + s : Nat) : Int) := by omega
            have f4 : ¬ ((a + s : Nat) : Int) < ((a + d : Nat) : Int) := by omega
            have f5 : ¬ ((a + d : Nat) : Int) < ((a + u + (d - s) : Nat) : Int) := by omega
            have f6 : ¬ ((a + u + (d - s) : Nat) : Int) < ((a + u + v : Nat) : Int) := by omega
            have E1 := E1 (by omega)
            have E2 := E2 (by omega)
            have E3 := E3 (by omega)
            subst E1
            subst E2
            subst E3
            skip
            refine run_ok 4000 _ _ _ _ ?_
            simp (maxSteps := 10000000) only [go_sem, hge, hwe, f1, f2, f3, f4, f5, f6]
            refine run_ok 4000 _ _ _ _ ?_
            simp (maxSteps := 10000000) only [go_sem, hge, hwe, f1, f2, f3, f4, f5, f6]
            refine ⟨_, _, .sub [0] ?_ .done, rfl, rfl⟩
            simp only [EmbV, go_sem]
  · have cmi : ¬ ((a + u : Nat) : Int) > ((a + d : Nat) : Int) := by omega
    clear hws
    skip
    refine (Tri.enter (rl := r94) (code := c94) (by kernel_rfl) Try.func94 rfl c94_ok (by kernel_rfl) (by kernel_rfl) ?_)
    refine run_ok 4000 _ _ _ _ ?_
    simp (maxSteps := 10000000) only [go_sem, c94, r94, c0, c1, hm, hhf, hwn, hwp, cmi]
    refine sem_rounds (fun q : Nat × Nat => 0 ≤ q.1 ∧ q.1 ≤ q.2 ∧ q.2 ≤ u ∧ (0 < q.1 → kA U (q.1 - 1) ≤ kA V (d - q.1)) ∧ (q.2 < u → kA V (d - 1 - q.2) < kA U q.2))
      (fun q => [(0, .sl 0 0 N N false), (1, .int .i64 (a : Nat)), (2, .int .i64 (a + u : Nat)), (3, .int .i64 (a + u + v : Nat)), (4, (AV.fn 67 [] [])), (18, .int .i64 (a + d : Nat)), (19, .int .i64 (a + d + (a + u) : Nat)), (20, .int .i64 (a + q.1 : Nat)), (21, .int .i64 (a + q.2 : Nat)), (22, .int .i64 (a + d + (a + u) - 1 : Nat))])
      (fun q => [.row 4 (terows Z)]) (fun q => q.2 - q.1) (0, u) [0] ⟨Nat.le_refl _, by simp only; omega, Nat.le_refl _, by simp only; omega, by simp only; omega⟩ ?_ ?_
    · simp only [Emb, go_sem, Nat.add_zero]
    rintro ⟨s, r⟩ ⟨g1, g2, g3, g4, g5⟩
    simp only at g1 g2 g3 g4 g5 ⊢
    by_cases hlt : s < r
    · have hin : ((a + s : Nat) : Int) < ((a + r : Nat) : Int) := by omega
      have hm2 : iwrap .i64 (((a + s : Nat) : Int) + ((a + r : Nat) : Int)) = ((a + s + (a + r) : Nat) : Int) := by rw [iwrap_i64_in (by omega)]; omega
      have hhf2 := half_u64 (n := a + s + (a + r)) (by omega)
      rw [show (a + s + (a + r)) / 2 = a + (s + r) / 2 by omega] at hhf2
      have hlt2 : (s + r) / 2 < r := by omega
      have hlp : s ≤ (s + r) / 2 := by omega
      generalize (s + r) / 2 = h at *
      obtain ⟨gu, eu⟩ := huj h (by omega)
      obtain ⟨gv, ev⟩ := hvj (d - 1 - h) (by omega)
      have hwq : iwrap .i64 (((a + d + (a + u) - 1 : Nat) : Int) - ((a + h : Nat) : Int)) = ((a + u + (d - 1 - h) : Nat) : Int) := by rw [iwrap_i64_in (by omega)]; omega
      have hcm := due1_spec Z[a + u + (d - 1 - h)] Z[a + h]
      have hcl := cmpI_lt Z[a + u + (d - 1 - h)].due Z[a + h].due
      have q0 := te_r0 gu; have q1 := te_r1 gu; have q2 := te_r2 gu; have q3 := te_r3 gu
      have p0 := te_r0 gv; have p1 := te_r1 gv; have p2 := te_r2 gv; have p3 := te_r3 gv
      have d1 : ((a + h : Nat) : Int) < (N : Int) := by omega
      have d2 : ((a + u + (d - 1 - h) : Nat) : Int) < (N : Int) := by omega
      by_cases c : kA V (d - 1 - h) < kA U h
      · have c3' : cmpI Z[a + u + (d - 1 - h)].due Z[a + h].due < 0 := by rw [hcl, eu, ev]; exact c
        generalize Z[a + u + (d - 1 - h)] = x at *
        generalize Z[a + h] = y at *
        skip
        refine run_ok 4000 _ _ _ _ ?_
        simp (maxSteps := 10000000) only [go_sem, hin, hm2, hhf2, hwq, d1, d2, te_h0 gu, te_h1 gu, te_h2 gu, te_h3 gu, te_h0 gv, te_h1 gv, te_h2 gv, te_h3 gv, q0, q1, q2, q3, p0, p1, p2, p3, c3', te_len, Int.natCast_nonneg]
        refine sem_drawG l94_4_ok (by kernel_rfl) ?_
        intro KK hKK
        simp (maxSteps := 10000000) only [go_sem, l94_4, hin, hm2, hhf2, hwq, d1, d2, te_h0 gu, te_h1 gu, te_h2 gu, te_h3 gu, te_h0 gv, te_h1 gv, te_h2 gv, te_h3 gv, q0, q1, q2, q3, p0, p1, p2, p3, c3', te_len, Int.natCast_nonneg]
        subst hKK
        simp (maxSteps := 10000000) only [go_sem, hin, hm2, hhf2, hwq, d1, d2, te_h0 gu, te_h1 gu, te_h2 gu, te_h3 gu, te_h0 gv, te_h1 gv, te_h2 gv, te_h3 gv, q0, q1, q2, q3, p0, p1, p2, p3, c3', te_len, Int.natCast_nonneg]
        refine TriZ.of (((hcm).embed [] rfl (by repeat' first | exact trivial | rfl | (simp only [go_sem]; done) | constructor) rfl (by first | rfl | simp only [go_sem]) rfl (by simp)).mono ?_)
        rintro _ _ ⟨_, _, ⟨rfl, rfl⟩, rfl, rfl⟩
        simp (maxSteps := 10000000) only [go_sem, hin, hm2, hhf2, hwq, d1, d2, te_h0 gu, te_h1 gu, te_h2 gu, te_h3 gu, te_h0 gv, te_h1 gv, te_h2 gv, te_h3 gv, q0, q1, q2, q3, p0, p1, p2, p3, c3', te_len, Int.natCast_nonneg]
        refine ⟨(s, h), by simp only; omega, ⟨g1, by simp only; omega, by simp only; omega, g4, fun _ => c⟩, [0], ?_⟩
        simp only [Emb, go_sem]
      · have c3' : ¬ cmpI Z[a + u + (d - 1 - h)].due Z[a + h].due < 0 := by rw [hcl, eu, ev]; exact c
        generalize Z[a + u + (d - 1 - h)] = x at *
        generalize Z[a + h] = y at *
        skip
        refine run_ok 4000 _ _ _ _ ?_
        simp (maxSteps := 10000000) only [go_sem, hin, hm2, hhf2, hwq, d1, d2, te_h0 gu, te_h1 gu, te_h2 gu, te_h3 gu, te_h0 gv, te_h1 gv, te_h2 gv, te_h3 gv, q0, q1, q2, q3, p0, p1, p2, p3, c3', te_len, Int.natCast_nonneg, inc64 (show a + h < 1000000000000 by omega)]
        refine sem_drawG l94_4_ok (by kernel_rfl) ?_
        intro KK hKK
        simp (maxSteps := 10000000) only [go_sem, l94_4, hin, hm2, hhf2, hwq, d1, d2, te_h0 gu, te_h1 gu, te_h2 gu, te_h3 gu, te_h0 gv, te_h1 gv, te_h2 gv, te_h3 gv, q0, q1, q2, q3, p0, p1, p2, p3, c3', te_len, Int.natCast_nonneg, inc64 (show a + h < 1000000000000 by omega)]
        subst hKK
        simp (maxSteps := 10000000) only [go_sem, hin, hm2, hhf2, hwq, d1, d2, te_h0 gu, te_h1 gu, te_h2 gu, te_h3 gu, te_h0 gv, te_h1 gv, te_h2 gv, te_h3 gv, q0, q1, q2, q3, p0, p1, p2, p3, c3', te_len, Int.natCast_nonneg, inc64 (show a + h < 1000000000000 by omega)]
        refine TriZ.of (((hcm).embed [] rfl (by repeat' first | exact trivial | rfl | (simp only [go_sem]; done) | constructor) rfl (by first | rfl | simp only [go_sem]) rfl (by simp)).mono ?_)
        rintro _ _ ⟨_, _, ⟨rfl, rfl⟩, rfl, rfl⟩
        simp (maxSteps := 10000000) only [go_sem, hin, hm2, hhf2, hwq, d1, d2, te_h0 gu, te_h1 gu, te_h2 gu, te_h3 gu, te_h0 gv, te_h1 gv, te_h2 gv, te_h3 gv, q0, q1, q2, q3, p0, p1, p2, p3, c3', te_len, Int.natCast_nonneg, inc64 (show a + h < 1000000000000 by omega)]
        refine ⟨(h + 1, r), by simp only; omega, ⟨by simp only; omega, by simp only; omega, g3, fun _ => by simp only [Nat.add_sub_cancel]; rw [show d - (h + 1) = d - 1 - h by omega]; omega, g5⟩, [0], ?_⟩
        simp only [Emb, go_sem, Nat.add_assoc]
    have hre : s = r := by omega
    subst hre
    have hge : ¬ ((a + s : Nat) : Int) < ((a + s : Nat) : Int) := by omega
    obtain ⟨Z1, Z2, H1, E1, H2, E2, H3, E3⟩ := hfin s (by omega) (by omega) (by omega) (fun h0 h1 => g4 (by omega)) (fun h0 h1 => by rw [show d - s - 1 = d - 1 - s by omega]; exact g5 (by omega))
    clear hfin huj hvj
    have hwe : iwrap .i64 (((a + d + (a + u) : Nat) : Int) - ((a + s : Nat) : Int)) = ((a + u + (d - s) : Nat) : Int) := by rw [iwrap_i64_in (by omega)]; omega
    have hsd : s ≤ d := by omega
    by_cases k1 : s < u
    · by_cases k2 : 0 < d - s
      · by_cases k3 : 0 < s
        · by_cases k4 : d - s < v
          · have f1 : ((a + s : Nat) : Int) < ((a + u : Nat) : Int) := by omega
            have f2 : ((a + u : Nat) : Int) < ((a + u + (d - s) : Nat) : Int) := by omega
            have f3 : ((a : Nat) : Int) < ((a + s : Nat) : Int) := by omega
            have f4 : ((a + s : Nat) : Int) < ((a + d : Nat) : Int) := by omega
            have f5 : ((a + d : Nat) : Int) < ((a + u + (d - s) : Nat) : Int) := by omega
            have f6 : ((a + u + (d - s) : Nat) : Int) < ((a + u + v : Nat) : Int) := by omega
            have H1 := H1 k1 k2
            have H2 := H2 k3 k2
            have H3 := H3 k1 k4
            skip
            refine run_ok 4000 _ _ _ _ ?_
            simp (maxSteps := 10000000) only [go_sem, hge, hwe, f1, f2, f3, f4, f5, f6]
            refine run_ok 4000 _ _ _ _ ?_
            simp (maxSteps := 10000000) only [go_sem, hge, hwe, f1, f2, f3, f4, f5, f6]
            refine sem_call rfl rfl (((H1).embed [0] rfl (by repeat' first | exact trivial | rfl | (simp only [go_sem]; done) | constructor) rfl (by first | rfl | simp only [go_sem]) rfl (by simp)).mono ?_)
            rintro _ _ ⟨_, _, ⟨rfl, rfl⟩, rfl, rfl⟩
            refine run_ok 4000 _ _ _ _ ?_
            simp (maxSteps := 10000000) only [go_sem, hge, hwe, f1, f2, f3, f4, f5, f6]
            refine sem_call rfl rfl (((H2).embed [0] rfl (by repeat' first | exact trivial | rfl | (simp only [go_sem]; done) | constructor) rfl (by first | rfl | simp only [go_sem]) rfl (by simp)).mono ?_)
            rintro _ _ ⟨_, _, ⟨rfl, rfl⟩, rfl, rfl⟩
            refine run_ok 4000 _ _ _ _ ?_
            simp (maxSteps := 10000000) only [go_sem, hge, hwe, f1, f2, f3, f4, f5, f6]
            refine sem_call rfl rfl (((H3).embed [0] rfl (by repeat' first | exact trivial | rfl | (simp only [go_sem]; done) | constructor) rfl (by first | rfl | simp only [go_sem]) rfl (by simp)).mono ?_)
            rintro _ _ ⟨_, _, ⟨rfl, rfl⟩, rfl, rfl⟩
            refine run_ok 4000 _ _ _ _ ?_
            simp (maxSteps := 10000000) only [go_sem, hge, hwe, f1, f2, f3, f4, f5, f6]
            refine ⟨_, _, .sub [0] ?_ .done, rfl, rfl⟩
            simp only [EmbV, go_sem]
          · have f1 : ((a + s : Nat) : Int) < ((a + u : Nat) : Int) := by omega
            have f2 : ((a + u : Nat) : Int) < ((a + u + (d - s) : Nat) : Int) := by omega
            have f3 : ((a : Nat) : Int) < ((a + s : Nat) : Int) := by omega
            have f4 : ((a + s : Nat) : Int) < ((a + d : Nat) : Int) := by omega
            have f5 : ((a + d : Nat) : Int) < ((a + u + (d - s) : Nat) : Int) := by omega
            have f6 : ¬ ((a + u + (d - s) : Nat) : Int) < ((a + u + v : Nat) : Int) := by omega
            have H1 := H1 k1 k2
            have H2 := H2 k3 k2
            have E3 := E3 (by omega)
            subst E3
            skip
            refine run_ok 4000 _ _ _ _ ?_
            simp (maxSteps := 10000000) only [go_sem, hge, hwe, f1, f2, f3, f4, f5, f6]
            refine run_ok 4000 _ _ _ _ ?_
            simp (maxSteps := 10000000) only [go_sem, hge, hwe, f1, f2, f3, f4, f5, f6]
            refine sem_call rfl rfl (((H1).embed [0] rfl (by repeat' first | exact trivial | rfl | (simp only [go_sem]; done) | constructor) rfl (by first | rfl | simp only [go_sem]) rfl (by simp)).mono ?_)
            rintro _ _ ⟨_, _, ⟨rfl, rfl⟩, rfl, rfl⟩
            refine run_ok 4000 _ _ _ _ ?_
            simp (maxSteps := 10000000) only [go_sem, hge, hwe, f1, f2, f3, f4, f5, f6]
            refine sem_call rfl rfl (((H2).embed [0] rfl (by repeat' first | exact trivial | rfl | (simp only [go_sem]; done) | constructor) rfl (by first | rfl | simp only [go_sem]) rfl (by simp)).mono ?_)
            rintro _ _ ⟨_, _, ⟨rfl, rfl⟩, rfl, rfl⟩
            refine run_ok 4000 _ _ _ _ ?_
            simp (maxSteps := 10000000) only [go_sem, hge, hwe, f1, f2, f3, f4, f5, f6]
            refine ⟨_, _, .sub [0] ?_ .done, rfl, rfl⟩
            simp only [EmbV, go_sem]
        · by_cases k4 : d - s < v
          · have f1 : ((a + s : Nat) : Int) < ((a + u : Nat) : Int) := by omega
            have f2 : ((a + u : Nat) : Int) < ((a + u + (d - s) : Nat) : Int) := by omega
            have f3 : ¬ ((a : Nat) : Int) < ((a + s : Nat) : Int) := by omega
            have f4 : ((a + s : Nat) : Int) < ((a + d : Nat) : Int) := by omega
            have f5 : ((a + d : Nat) : Int) < ((a + u + (d - s) : Nat) : Int) := by omega
            have f6 : ((a + u + (d - s) : Nat) : Int) < ((a + u + v : Nat) : Int) := by omega
            have H1 := H1 k1 k2
            have E2 := E2 (by omega)
            have H3 := H3 k1 k4
            subst E2
            skip
            refine run_ok 4000 _ _ _ _ ?_
            simp (maxSteps := 10000000) only [go_sem, hge, hwe, f1, f2, f3, f4, f5, f6]
            refine run_ok 4000 _ _ _ _ ?_
            simp (maxSteps := 10000000) only [go_sem, hge, hwe, f1, f2, f3, f4, f5, f6]
            refine sem_call rfl rfl (((H1).embed [0] rfl (by repeat' first | exact trivial | rfl | (simp only [go_sem]; done) | constructor) rfl (by first | rfl | simp only [go_sem]) rfl (by simp)).mono ?_)
            rintro _ _ ⟨_, _, ⟨rfl, rfl⟩, rfl, rfl⟩
            refine run_ok 4000 _ _ _ _ ?_
            simp (maxSteps := 10000000) only [go_sem, hge, hwe, f1, f2, f3, f4, f5, f6]
            refine sem_call rfl rfl (((H3).embed [0] rfl (by repeat' first | exact trivial | rfl | (simp only [go_sem]; done) | constructor) rfl (by first | rfl | simp only [go_sem]) rfl (by simp)).mono ?_)
            rintro _ _ ⟨_, _, ⟨rfl, rfl⟩, rfl, rfl⟩
            refine run_ok 4000 _ _ _ _ ?_
            simp (maxSteps := 10000000) only [go_sem, hge, hwe, f1, f2, f3, f4, f5, f6]
            refine ⟨_, _, .sub [0] ?_ .done, rfl, rfl⟩
            simp only [EmbV, go_sem]
          · have f1 : ((a + s : Nat) : Int) < ((a + u : Nat) : Int) := by omega
            have f2 : ((a + u : Nat) : Int) < ((a + u + (d - s) : Nat) : Int) := by omega
            have f3 : ¬ ((a : Nat) : Int) < ((a + s : Nat) : Int) := by omega
            have f4 : ((a + s : Nat) : Int) < ((a + d : Nat) : Int) := by omega
            have f5 : ((a + d : Nat) : Int) < ((a + u + (d - s) : Nat) : Int) := by omega
            have f6 : ¬ ((a + u + (d - s) : Nat) : Int) < ((a + u + v : Nat) : Int) := by omega
            have H1 := H1 k1 k2
            have E2 := E2 (by omega)
            have E3 := E3 (by omega)
            subst E2
            subst E3
            skip
            refine run_ok 4000 _ _ _ _ ?_
            simp (maxSteps := 10000000) only [go_sem, hge, hwe, f1, f2, f3, f4, f5, f6]
            refine run_ok 4000 _ _ _ _ ?_
            simp (maxSteps := 10000000) only [go_sem, hge, hwe, f1, f2, f3, f4, f5, f6]
            refine sem_call rfl rfl (((H1).embed [0] rfl (by repeat' first | exact trivial | rfl | (simp only [go_sem]; done) | constructor) rfl (by first | rfl | simp only [go_sem]) rfl (by simp)).mono ?_)
            rintro _ _ ⟨_, _, ⟨rfl, rfl⟩, rfl, rfl⟩
            refine run_ok 4000 _ _ _ _ ?_
            simp (maxSteps := 10000000) only [go_sem, hge, hwe, f1, f2, f3, f4, f5, f6]
            refine ⟨_, _, .sub [0] ?_ .done, rfl, rfl⟩
            simp only [EmbV, go_sem]
      · by_cases k3 : 0 < s
        · by_cases k4 : d - s < v
          · have f1 : ((a + s : Nat) : Int) < ((a + u : Nat) : Int) := by omega
            have f2 : ¬ ((a + u : Nat) : Int) < ((a + u + (d - s) : Nat) : Int) := by omega
            have f3 : ((a : Nat) : Int) < ((a + s : Nat) : Int) := by omega
            have f4 : ¬ ((a + s : Nat) : Int) < ((a + d : Nat) : Int) := by omega
            have f5 : ((a + d : Nat) : Int) < ((a + u + (d - s) : Nat) : Int) := by omega
            have f6 : ((a + u + (d - s) : Nat) : Int) < ((a + u + v : Nat) : Int) := by omega
            have E1 := E1 (by omega)
            have E2 := E2 (by omega)
            have H3 := H3 k1 k4
            subst E1
            subst E2
            skip
            refine run_ok 4000 _ _ _ _ ?_
            simp (maxSteps := 10000000) only [go_sem, hge, hwe, f1, f2, f3, f4, f5, f6]
            refine run_ok 4000 _ _ _ _ ?_
            simp (maxSteps := 10000000) only [go_sem, hge, hwe, f1, f2, f3, f4, f5, f6]
            refine sem_call rfl rfl (((H3).embed [0] rfl (by repeat' first | exact trivial | rfl | (simp only [go_sem]; done) | constructor) rfl (by first | rfl | simp only [go_sem]) rfl (by simp)).mono ?_)
            rintro _ _ ⟨_, _, ⟨rfl, rfl⟩, rfl, rfl⟩
            refine run_ok 4000 _ _ _ _ ?_
            simp (maxSteps := 10000000) only [go_sem, hge, hwe, f1, f2, f3, f4, f5, f6]
            refine ⟨_, _, .sub [0] ?_ .done, rfl, rfl⟩
            simp only [EmbV, go_sem]
          · have f1 : ((a + s : Nat) : Int) < ((a + u : Nat) : Int) := by omega
            have f2 : ¬ ((a + u : Nat) : Int) < ((a + u + (d - s) : Nat) : Int) := by omega
            have f3 : ((a : Nat) : Int) < ((a + s : Nat) : Int) := by omega
            have f4 : ¬ ((a + s : Nat) : Int) < ((a + d : Nat) : Int) := by omega
            have f5 : ((a + d : Nat) : Int) < ((a + u + (d - s) : Nat) : Int) := by omega
            have f6 : ¬ ((a + u + (d - s) : Nat) : Int) < ((a + u + v : Nat) : Int) := by omega
            have E1 := E1 (by omega)
            have E2 := E2 (by omega)
            have E3 := E3 (by omega)
            subst E1
            subst E2
            subst E3
            skip
            refine run_ok 4000 _ _ _ _ ?_
            simp (maxSteps := 10000000) only [go_sem, hge, hwe, f1, f2, f3, f4, f5, f6]
            refine run_ok 4000 _ _ _ _ ?_
            simp (maxSteps := 10000000) only [go_sem, hge, hwe, f1, f2, f3, f4, f5, f6]
            refine ⟨_, _, .sub [0] ?_ .done, rfl, rfl⟩
            simp only [EmbV, go_sem]
        · by_cases k4 : d - s < v
          · have f1 : ((a + s : Nat) : Int) < ((a + u : Nat) : Int) := by omega
            have f2 : ¬ ((a + u : Nat) : Int) < ((a + u + (d - s) : Nat) : Int) := by omega
            have f3 : ¬ ((a : Nat) : Int) < ((a + s : Nat) : Int) := by omega
            have f4 : ¬ ((a + s : Nat) : Int) < ((a + d : Nat) : Int) := by omega
            have f5 : ((a + d : Nat) : Int) < ((a + u + (d - s) : Nat) : Int) := by omega
            have f6 : ((a + u + (d - s) : Nat) : Int) < ((a + u + v : Nat) : Int) := by omega
            have E1 := E1 (by omega)
            have E2 := E2 (by omega)
            have H3 := H3 k1 k4
            subst E1
            subst E2
            skip
            refine run_ok 4000 _ _ _ _ ?_
            simp (maxSteps := 10000000) only [go_sem, hge, hwe, f1, f2, f3, f4, f5, f6]
            refine run_ok 4000 _ _ _ _ ?_
            simp (maxSteps := 10000000) only [go_sem, hge, hwe, f1, f2, f3, f4, f5, f6]
            refine sem_call rfl rfl (((H3).embed [0] rfl (by repeat' first | exact trivial | rfl | (simp only [go_sem]; done) | constructor) rfl (by first | rfl | simp only [go_sem]) rfl (by simp)).mono ?_)
            rintro _ _ ⟨_, _, ⟨rfl, rfl⟩, rfl, rfl⟩
            refine run_ok 4000 _ _ _ _ ?_
            simp (maxSteps := 10000000) only [go_sem, hge, hwe, f1, f2, f3, f4, f5, f6]
            refine ⟨_, _, .sub [0] ?_ .done, rfl, rfl⟩
            simp only [EmbV, go_sem]
          · have f1 : ((a + s : Nat) : Int) < ((a + u : Nat) : Int) := by omega
            have f2 : ¬ ((a + u : Nat) : Int) < ((a + u + (d - s) : Nat) : Int) := by omega
            have f3 : ¬ ((a : Nat) : Int) < ((a + s : Nat) : Int) := by omega
            have f4 : ¬ ((a + s : Nat) : Int) < ((a + d : Nat) : Int) := by omega
            have f5 : ((a + d : Nat) : Int) < ((a + u + (d - s) : Nat) : Int) := by omega
            have f6 : ¬ ((a + u + (d - s) : Nat) : Int) < ((a + u + v : Nat) : Int) := by omega
            have E1 := E1 (by omega)
            have E2 := E2 (by omega)
            have E3 := E3 (by omega)
            subst E1
            subst E2
            subst E3
            skip
            refine run_ok 4000 _ _ _ _ ?_
            simp (maxSteps := 10000000) only [go_sem, hge, hwe, f1, f2, f3, f4, f5, f6]
            refine run_ok 4000 _ _ _ _ ?_
            simp (maxSteps := 10000000) only [go_sem, hge, hwe, f1, f2, f3, f4, f5, f6]
            refine ⟨_, _, .sub [0] ?_ .done, rfl, rfl⟩
            simp only [EmbV, go_sem]
    · by_cases k2 : 0 < d - s
      · by_cases k3 : 0 < s
        · by_cases k4 : d - s < v
          · have f1 : ¬ ((a + s : Nat) : Int) < ((a + u : Nat) : Int) := by omega
            have f2 : ((a + u : Nat) : Int) < ((a + u + (d - s) : Nat) : Int) := by omega
            have f3 : ((a : Nat) : Int) < ((a + s : Nat) : Int) := by omega
            have f4 : ((a + s : Nat) : Int) < ((a + d : Nat) : Int) := by omega
            have f5 : ¬ ((a + d : Nat) : Int) < ((a + u + (d - s) : Nat) : Int) := by omega
            have f6 : ((a + u + (d - s) : Nat) : Int) < ((a + u + v : Nat) : Int) := by omega
            have E1 := E1 (by omega)
            have H2 := H2 k3 k2
            have E3 := E3 (by omega)
            subst E1
            subst E3
            skip
            refine run_ok 4000 _ _ _ _ ?_
            simp (maxSteps := 10000000) only [go_sem, hge, hwe, f1, f2, f3, f4, f5, f6]
            refine run_ok 4000 _ _ _ _ ?_
            simp (maxSteps := 10000000) only [go_sem, hge, hwe, f1, f2, f3, f4, f5, f6]
            refine sem_call rfl rfl (((H2).embed [0] rfl (by repeat' first | exact trivial | rfl | (simp only [go_sem]; done) | constructor) rfl (by first | rfl | simp only [go_sem]) rfl (by simp)).mono ?_)
            rintro _ _ ⟨_, _, ⟨rfl, rfl⟩, rfl, rfl⟩
            refine run_ok 4000 _ _ _ _ ?_
            simp (maxSteps := 10000000) only [go_sem, hge, hwe, f1, f2, f3, f4, f5, f6]
            refine ⟨_, _, .sub [0] ?_ .done, rfl, rfl⟩
            simp only [EmbV, go_sem]
          · have f1 : ¬ ((a + s : Nat) : Int) < ((a + u : Nat) : Int) := by omega
            have f2 : ((a + u : Nat) : Int) < ((a + u + (d - s) : Nat) : Int) := by omega
            have f3 : ((a : Nat) : Int) < ((a + s : Nat) : Int) := by omega
            have f4 : ((a + s : Nat) : Int) < ((a + d : Nat) : Int) := by omega
            have f5 : ¬ ((a + d : Nat) : Int) < ((a + u + (d - s) : Nat) : Int) := by omega
            have f6 : ¬ ((a + u + (d - s) : Nat) : Int) < ((a + u + v : Nat) : Int) := by omega
            have E1 := E1 (by omega)
            have H2 := H2 k3 k2
            have E3 := E3 (by omega)
            subst E1
            subst E3
            skip
            refine run_ok 4000 _ _ _ _ ?_
            simp (maxSteps := 10000000) only [go_sem, hge, hwe, f1, f2, f3, f4, f5, f6]
            refine run_ok 4000 _ _ _ _ ?_
            simp (maxSteps := 10000000) only [go_sem, hge, hwe, f1, f2, f3, f4, f5, f6]
            refine sem_call rfl rfl (((H2).embed [0] rfl (by repeat' first | exact trivial | rfl | (simp only [go_sem]; done) | constructor) rfl (by first | rfl | simp only [go_sem]) rfl (by simp)).mono ?_)
            rintro _ _ ⟨_, _, ⟨rfl, rfl⟩, rfl, rfl⟩
            refine run_ok 4000 _ _ _ _ ?_
            simp (maxSteps := 10000000) only [go_sem, hge, hwe, f1, f2, f3, f4, f5, f6]
            refine ⟨_, _, .sub [0] ?_ .done, rfl, rfl⟩
            simp only [EmbV, go_sem]
        · by_cases k4 : d - s < v
          · have f1 : ¬ ((a + s : Nat) : Int) < ((a + u : Nat) : Int) := by omega
            have f2 : ((a + u : Nat) : Int) < ((a + u + (d - s) : Nat) : Int) := by omega
            have f3 : ¬ ((a : Nat) : Int) < ((a + s : Nat) : Int) := by omega
            have f4 : ((a + s : Nat) : Int) < ((a + d : Nat) : Int) := by omega
            have f5 : ¬ ((a + d : Nat) : Int) < ((a + u + (d - s) : Nat) : Int) := by omega
            have f6 : ((a + u + (d - s) : Nat) : Int) < ((a + u + v : Nat) : Int) := by omega
            have E1 := E1 (by omega)
            have E2 := E2 (by omega)
            have E3 := E3 (by omega)
            subst E1
            subst E2
            subst E3
            skip
            refine run_ok 4000 _ _ _ _ ?_
            simp (maxSteps := 10000000) only [go_sem, hge, hwe, f1, f2, f3, f4, f5, f6]
            refine run_ok 4000 _ _ _ _ ?_
            simp (maxSteps := 10000000) only [go_sem, hge, hwe, f1, f2, f3, f4, f5, f6]
            refine ⟨_, _, .sub [0] ?_ .done, rfl, rfl⟩
            simp only [EmbV, go_sem]
          · have f1 : ¬ ((a + s : Nat) : Int) < ((a + u : Nat) : Int) := by omega
            have f2 : ((a + u : Nat) : Int) < ((a + u + (d - s) : Nat) : Int) := by omega
            have f3 : ¬ ((a : Nat) : Int) < ((a + s : Nat) : Int) := by omega
            have f4 : ((a + s : Nat) : Int) < ((a + d : Nat) : Int) := by omega
            have f5 : ¬ ((a + d : Nat) : Int) < ((a + u + (d - s) : Nat) : Int) := by omega
            have f6 : ¬ ((a + u + (d - s) : Nat) : Int) < ((a + u + v : Nat) : Int) := by omega
            have E1 := E1 (by omega)
            have E2 := E2 (by omega)
            have E3 := E3 (by omega)
            subst E1
            subst E2
            subst E3
            skip
            refine run_ok 4000 _ _ _ _ ?_
            simp (maxSteps := 10000000) only [go_sem, hge, hwe, f1, f2, f3, f4, f5, f6]
            refine run_ok 4000 _ _ _ _ ?_
            simp (maxSteps := 10000000) only [go_sem, hge, hwe, f1, f2, f3, f4, f5, f6]
            refine ⟨_, _, .sub [0] ?_ .done, rfl, rfl⟩
            simp only [EmbV, go_sem]
      · by_cases k3 : 0 < s
        · by_cases k4 : d - s < v
          · have f1 : ¬ ((a + s : Nat) : Int) < ((a + u : Nat) : Int) := by omega
            have f2 : ¬ ((a + u : Nat) : Int) < ((a + u + (d - s) : Nat) : Int) := by omega
            have f3 : ((a : Nat) : Int) < ((a + s : Nat) : Int) := by omega
            have f4 : ¬ ((a + s : Nat) : Int) < ((a + d : Nat) : Int) := by omega
            have f5 : ¬ ((a + d : Nat) : Int) < ((a + u + (d - s) : Nat) : Int) := by omega
            have f6 : ((a + u + (d - s) : Nat) : Int) < ((a + u + v : Nat) : Int) := by omega
            have E1 := E1 (by omega)
            have E2 := E2 (by omega)
            have E3 := E3 (by omega)
            subst E1
            subst E2
            subst E3
            skip
            refine run_ok 4000 _ _ _ _ ?_
            simp (maxSteps := 10000000) only [go_sem, hge, hwe, f1, f2, f3, f4, f5, f6]
            refine run_ok 4000 _ _ _ _ ?_
            simp (maxSteps := 10000000) only [go_sem, hge, hwe, f1, f2, f3, f4, f5, f6]
            refine ⟨_, _, .sub [0] ?_ .done, rfl, rfl⟩
            simp only [EmbV, go_sem]
          · have f1 : ¬ ((a + s : Nat) : Int) < ((a + u : Nat) : Int) := by omega
            have f2 : ¬ ((a + u : Nat) : Int) < ((a + u + (d - s) : Nat) : Int) := by omega
            have f3 : ((a : Nat) : Int) < ((a + s : Nat) : Int) := by omega
            have f4 : ¬ ((a + s : Nat) : Int) < ((a + d : Nat) : Int) := by omega
            have f5 : ¬ ((a + d : Nat) : Int) < ((a + u + (d - s) : Nat) : Int) := by omega
            have f6 : ¬ ((a + u + (d - s) : Nat) : Int) < ((a + u + v : Nat) : Int) := by omega
            have E1 := E1 (by omega)
            have E2 := E2 (by omega)
            have E3 := E3 (by omega)
            subst E1
            subst E2
            subst E3
            skip
            refine run_ok 4000 _ _ _ _ ?_
            simp (maxSteps := 10000000) only [go_sem, hge, hwe, f1, f2, f3, f4, f5, f6]
            refine run_ok 4000 _ _ _ _ ?_
            simp (maxSteps := 10000000) only [go_sem, hge, hwe, f1, f2, f3, f4, f5, f6]
            refine ⟨_, _, .sub [0] ?_ .done, rfl, rfl⟩
            simp only [EmbV, go_sem]
        · by_cases k4 : d - s < v
          · have f1 : ¬ ((a + s : Nat) : Int) < ((a + u : Nat) : Int) := by omega
            have f2 : ¬ ((a + u : Nat) : Int) < ((a + u + (d - s) : Nat) : Int) := by omega
            have f3 : ¬ ((a : Nat) : Int) < ((a + s : Nat) : Int) := by omega
            have f4 : ¬ ((a + s : Nat) : Int) < ((a + d : Nat) : Int) := by omega
            have f5 : ¬ ((a + d : Nat) : Int) < ((a + u + (d - s) : Nat) : Int) := by omega
            have f6 : ((a + u + (d - s) : Nat) : Int) < ((a + u + v : Nat) : Int) := by omega
            have E1 := E1 (by omega)
            have E2 := E2 (by omega)
            have E3 := E3 (by omega)
            subst E1
            subst E2
            subst E3
            skip
            refine run_ok 4000 _ _ _ _ ?_
            simp (maxSteps := 10000000) only [go_sem, hge, hwe, f1, f2, f3, f4, f5, f6]
            refine run_ok 4000 _ _ _ _ ?_
            simp (maxSteps := 10000000) only [go_sem, hge, hwe, f1, f2, f3, f4, f5, f6]
            refine ⟨_, _, .sub [0] ?_ .done, rfl, rfl⟩
            simp only [EmbV, go_sem]
          · have f1 : ¬ ((a + s : Nat) : Int) < ((a + u : Nat) : Int) := by omega
            have f2 : ¬ ((a + u : Nat) : Int) < ((a + u + (d - s) : Nat) : Int) := by omega
            have f3 : ¬ ((a : Nat) : Int) < ((a + s : Nat) : Int) := by omega
            have f4 : ¬ ((a + s : Nat) : Int) < ((a + d : Nat) : Int) := by omega
            have f5 : ¬ ((a + d : Nat) : Int) < ((a + u + (d - s) : Nat) : Int) := by omega
            have f6 : ¬ ((a + u + (d - s) : Nat) : Int) < ((a + u + v : Nat) : Int) := by omega
            have E1 := E1 (by omega)
            have E2 := E2 (by omega)
            have E3 := E3 (by omega)
            subst E1
            subst E2
            subst E3
            skip
            refine run_ok 4000 _ _ _ _ ?_
            simp (maxSteps := 10000000) only [go_sem, hge, hwe, f1, f2, f3, f4, f5, f6]
            refine run_ok 4000 _ _ _ _ ?_
            simp (maxSteps := 10000000) only [go_sem, hge, hwe, f1, f2, f3, f4, f5, f6]
            refine ⟨_, _, .sub [0] ?_ .done, rfl, rfl⟩
            simp only [EmbV, go_sem]
theorem cutG (p : TG → Prop) (hm : ∀ x y, R x y → p y → p x) : ∀ (L : List TG), L.Pairwise R → ∃ L1 L2 : List TG, L = L1 ++ L2 ∧ (∀ v ∈ L1, p v) ∧ (∀ v ∈ L2, ¬ p v)
  | [], _ => ⟨[], [], rfl, by simp, by simp⟩
  | x :: L, h => by
    rw [List.pairwise_cons] at h
    by_cases c : p x
    · obtain ⟨L1, L2, e, h1, h2⟩ := cutG p hm L h.2
      refine ⟨x :: L1, L2, by rw [e]; rfl, ?_, h2⟩
      intro v hv
      rcases List.mem_cons.1 hv with rfl | hv
      · exact c
      · exact h1 v hv
    · refine ⟨[], x :: L, rfl, by simp, ?_⟩
      intro v hv
      rcases List.mem_cons.1 hv with rfl | hv
      · exact c
      · exact fun hp => c (hm x v (h.1 v hv) hp)
theorem sm_all : ∀ n, SmOk n
  | 0 => by
    intro A U V B W hn hU hV ht hp hr hu hv
    omega
  | n + 1 => by
    intro A U V B W hn hU hV ht hp hr hu hv a m b N ha hm hb hN hN2 Z0 Z1 hz0 hz1
    by_cases c1 : U.length = 1
    · obtain ⟨u, rfl⟩ := List.length_eq_one_iff.1 c1
      obtain ⟨V1, V2, rfl, h1, h2⟩ := cutG (fun v => v.1.due < u.1.due) (fun x y hR h => by unfold R at hR; omega) V hV
      have hVp := List.pairwise_append.1 hV
      have eW : W = V1 ++ u :: V2 := by
        refine R_unique (hp.trans (List.perm_middle (l₁ := V1) (l₂ := V2) (a := u)).symm) hr ?_
        rw [List.pairwise_append, List.pairwise_cons]
        refine ⟨hVp.1, ⟨fun w hw => ?_, hVp.2.1⟩, fun v hv1 w hw => ?_⟩
        · have g1 := h2 w hw
          have g2 := ht u (by simp) w (by simp [hw])
          unfold R; omega
        · rcases List.mem_cons.1 hw with rfl | hw
          · exact .inl (h1 v hv1)
          · exact hVp.2.2 v hv1 w hw
      have h := sm_one A u V1 V2 B hV h1 (fun v hv1 => by have := h2 v hv1; omega) N (by rw [hN, hb, hm, ha]; rfl) hN2
      have e1 : m = A.length + 1 := by rw [hm, ha]; rfl
      have e2 : b = A.length + 1 + (V1 ++ V2).length := by rw [hb, e1]
      rw [ha, e1, e2, hz0, hz1, eW]
      exact h
    by_cases c2 : V.length = 1
    · obtain ⟨v, rfl⟩ := List.length_eq_one_iff.1 c2
      obtain ⟨U1, U2, rfl, h1, h2⟩ := cutG (fun u => u.1.due ≤ v.1.due) (fun x y hR h => by unfold R at hR; omega) U hU
      have hUp := List.pairwise_append.1 hU
      have eW : W = U1 ++ v :: U2 := by
        refine R_unique (hp.trans ?_) hr ?_
        · rw [List.append_assoc]
          exact List.Perm.append_left _ (List.perm_append_comm (l₁ := U2) (l₂ := [v]))
        rw [List.pairwise_append, List.pairwise_cons]
        refine ⟨hUp.1, ⟨fun w hw => ?_, hUp.2.1⟩, fun u hu1 w hw => ?_⟩
        · have g1 := h2 w hw
          unfold R; omega
        · rcases List.mem_cons.1 hw with rfl | hw
          · have g1 := h1 u hu1
            have g2 := ht u (by simp [hu1]) w (by simp)
            unfold R; omega
          · exact hUp.2.2 u hu1 w hw
      have h := sm_last A v U1 U2 B hU (by omega) h1 (fun u hu1 => by have := h2 u hu1; omega) N (by rw [hN, hb, hm, ha]; rfl) hN2
      have e1 : m = A.length + (U1 ++ U2).length := by rw [hm, ha]
      have e2 : b = A.length + (U1 ++ U2).length + 1 := by rw [hb, e1]; rfl
      rw [ha, e1, e2, hz0, hz1, eW]
      exact h
    · have h := sm_gen n (sm_all n) A U V B W hn hU hV ht hp hr (by omega) (by omega) N (by omega) hN2
      rw [ha, hm, hb, hm, ha, hz0, hz1] at *
      exact h
inductive BS (s : Nat) : List TG → List TG → Prop
  | last {P W : List TG} : P.length ≤ s → W.Perm P → W.Pairwise R → BS s P W
  | cons {P W T' W' : List TG} : P.length = s → W.Perm P → W.Pairwise R → BS s T' W' → BS s (P ++ T') (W ++ W')
theorem BS.len {s : Nat} {T W : List TG} (h : BS s T W) : W.length = T.length := by
  induction h with
  | last h1 h2 h3 => exact h2.length_eq
  | cons h1 h2 h3 _ ih => rw [List.length_append, List.length_append, h2.length_eq, ih]
theorem BS.split {s : Nat} {T W : List TG} (h : BS s T W) (hl : s ≤ T.length) : ∃ P X T' W' : List TG, T = P ++ T' ∧ W = X ++ W' ∧ P.length = s ∧ X.Perm P ∧ X.Pairwise R ∧ BS s T' W' := by
  cases h with
  | last h1 h2 h3 => exact ⟨T, W, [], [], by simp, by simp, by omega, h2, h3, .last (by simp) (List.Perm.refl _) List.Pairwise.nil⟩
  | cons h1 h2 h3 h4 => exact ⟨_, _, _, _, rfl, rfl, h1, h2, h3, h4⟩
theorem BS.whole {s : Nat} {T W : List TG} (h : BS s T W) (hl : T.length ≤ s) : W.Perm T ∧ W.Pairwise R := by
  cases h with
  | last h1 h2 h3 => exact ⟨h2, h3⟩
  | @cons P X T' W' h1 h2 h3 h4 =>
    rw [List.length_append] at hl
    have e1 : T' = [] := List.length_eq_zero_iff.1 (by omega)
    subst e1
    have e2 : W' = [] := List.length_eq_zero_iff.1 (by rw [h4.len]; rfl)
    subst e2
    simpa using ⟨h2, h3⟩
abbrev TgI (T : List TG) : Prop := T.Pairwise fun x y => x.2 < y.2
theorem TgI.DR {T : List TG} (h : TgI T) : T.Pairwise DR := h.imp fun {x y} h => by unfold AEX.DR R; omega
theorem insG (A P B Y : List TG) (hP : TgI P) (hp : Y.Perm P) (hr : Y.Pairwise R) (a b N : Nat) (ha : a = A.length) (hb : b = a + P.length) (hN : N = b + B.length) (hN2 : N ≤ 100000) :
    Tri Try.prog 93 [.sl 0 0 N N false, .int .i64 (a : Nat), .int .i64 (b : Nat), .fn 67 [] []] [.row 4 (terows (mTE (A ++ (P ++ B))))]
      (fun v q => v = .tup [] ∧ q = [.row 4 (terows (mTE (A ++ (Y ++ B))))]) := by
  have h := insertion_spec (mTE (A ++ (P ++ B))) N a b (by rw [mTE_len]; simp only [List.length_append]; omega) (by omega) (by omega) (by omega)
  have e : insI TE.due a (b - (a + 1)) (mTE (A ++ (P ++ B))) (a + 1) = mTE (A ++ (Y ++ B)) := by
    cases P with
    | nil =>
      have : Y = [] := by simpa using hp.length_eq
      subst this
      rw [show b - (a + 1) = 0 by simp at hb; omega, insI_none]
    | cons x T =>
      have hP := List.pairwise_cons.1 hP
      obtain ⟨W, w1, w2, w3⟩ := insI_at A T [x] B (by simp) (by simp [List.pairwise_iff_forall_sublist]) (fun s hs t ht => by simp at hs; subst hs; exact hP.1 t ht) hP.2
      have eY : Y = W := R_unique (hp.trans (by simpa using w2.symm)) hr w3
      rw [eY]
      have e2 : A ++ (x :: T ++ B) = A ++ [x] ++ (T ++ B) := by simp
      rw [e2]
      unfold mTE
      rw [show b - (a + 1) = T.length by rw [hb, List.length_cons]; omega, ha, ← insI_map]
      have w1 : insI (fun x : TG => TE.due x.1) A.length T.length (A ++ [x] ++ (T ++ B)) (A.length + 1) = A ++ W ++ B := w1
      rw [w1, List.append_assoc]
  rw [e] at h
  exact h
theorem TgI.left {X Y : List TG} (h : TgI (X ++ Y)) : TgI X := (List.pairwise_append.1 h).1
theorem TgI.right {X Y : List TG} (h : TgI (X ++ Y)) : TgI Y := (List.pairwise_append.1 h).2.1
theorem TgI.cross {X Y : List TG} (h : TgI (X ++ Y)) : ∀ x ∈ X, ∀ y ∈ Y, x.2 < y.2 := (List.pairwise_append.1 h).2.2
structure S1 (T0 : List TG) (D T1 : List TG) : Prop where
  len : D.length + T1.length = T0.length
  tg : TgI T1
  go : ∀ W2, BS 20 T1 W2 → BS 20 T0 (D ++ W2)
structure S2 (s : Nat) (T0 : List TG) (D T1 W1 : List TG) : Prop where
  len : D.length + T1.length = T0.length
  tg : TgI T1
  bs : BS s T1 W1
  go : ∀ W2, BS (2 * s) T1 W2 → BS (2 * s) T0 (D ++ W2)
set_option maxHeartbeats 40000000 in
theorem stable_spec (L : List TE) (hL : L.length ≤ 100000) : Tri Try.prog 88 [.sl 0 0 L.length L.length false, .int .i64 L.length, .fn 67 [] []] [.row 4 (terows L)]
    (fun v m => v = .tup [] ∧ m = [.row 4 (terows (stab L))]) := by
  refine Tri.post ?_
  have hT0 : mTE L.zipIdx = L := by simp [mTE]
  have hTg : TgI L.zipIdx := zip_tags L
  have hTl : L.zipIdx.length = L.length := by simp
  have hend : ∀ W : List TG, W.Perm L.zipIdx → W.Pairwise R → mTE W = stab L := fun W h1 h2 => stab_of h1 h2
  have e1 : terows L = terows (mTE L.zipIdx) := by rw [hT0]
  rw [e1]
  generalize stab L = ST at *
  generalize L.zipIdx = T0 at *
  generalize hN : L.length = N at *
  clear hT0 e1
  refine (Tri.enter (rl := r88) (code := c88) (by kernel_rfl) Try.func88 rfl c88_ok (by kernel_rfl) (by kernel_rfl) ?_)
  refine run_ok 4000 _ _ _ _ ?_
  simp (maxSteps := 10000000) only [go_sem, c88, r88]
  refine sem_rounds (fun q : List TG × List TG => S1 T0 q.1 q.2)
    (fun q => [(0, .sl 0 0 N N false), (1, .int .i64 N), (2, .fn 67 [] []), (6, .int .i64 20), (7, .int .i64 (q.1.length : Nat)), (8, .int .i64 (q.1.length + 20 : Nat))])
    (fun q => [.row 4 (terows (mTE (q.1 ++ q.2)))]) (fun q => q.2.length) ([], T0) [0] ⟨by simp, hTg, fun W h => h⟩ ?_ ?_
  · simp [Emb, go_sem]
  rintro ⟨D, T1⟩ ⟨hl, htg, hgo⟩
  simp only at hl htg hgo ⊢
  by_cases hlt : D.length + 20 ≤ N
  · have hin : ((D.length + 20 : Nat) : Int) ≤ (N : Int) := by omega
    have eT : T1.take 20 ++ T1.drop 20 = T1 := List.take_append_drop ..
    have l1 : (T1.take 20).length = 20 := by simp; omega
    have l2 : (T1.drop 20).length = T1.length - 20 := by simp
    rw [← eT] at htg hgo ⊢
    generalize T1.take 20 = P at *
    generalize T1.drop 20 = T3 at *
    obtain ⟨Y, py, ry⟩ := srt_ex P htg.left.DR
    have hi := insG D P T3 Y htg.left py ry D.length (D.length + 20) N rfl (by omega) (by omega) (by omega)
    have lY := py.length_eq
    have w1 : iwrap .i64 (((D.length + 20 : Nat) : Int) + 20) = ((D.length + 20 + 20 : Nat) : Int) := by rw [iwrap_i64_in (by omega)]; omega
    have lD : (D ++ Y).length = D.length + 20 := by rw [List.length_append]; omega
    skip
    refine run_ok 4000 _ _ _ _ ?_
    simp (maxSteps := 10000000) only [go_sem, hin, w1]
    refine sem_call rfl rfl (((hi).embed [0] rfl (by repeat' first | exact trivial | rfl | (simp only [go_sem]; done) | constructor) rfl (by first | rfl | simp only [go_sem]) rfl (by simp)).mono ?_)
    rintro _ _ ⟨_, _, ⟨rfl, rfl⟩, rfl, rfl⟩
    refine run_ok 4000 _ _ _ _ ?_
    simp (maxSteps := 10000000) only [go_sem, hin, w1]
    refine ⟨(D ++ Y, T3), by simp only [List.length_append]; omega, ⟨by simp only; omega, htg.right, fun W2 h => ?_⟩, [0], ?_⟩
    · simp only [List.append_assoc]
      exact hgo _ (.cons l1 py ry h)
    · simp only [Emb, go_sem, lD, List.append_assoc]
  have hge : ¬ ((D.length + 20 : Nat) : Int) ≤ (N : Int) := by omega
  obtain ⟨Y, py, ry⟩ := srt_ex T1 htg.DR
  have hi := insG D T1 [] Y htg py ry D.length N N rfl (by omega) (by simp) (by omega)
  simp only [List.append_nil] at hi
  have hbs := hgo Y (.last (by omega) py ry)
  generalize D ++ Y = W0 at *
  clear hgo
  skip
  refine run_ok 4000 _ _ _ _ ?_
  simp (maxSteps := 10000000) only [go_sem, hge]
  refine run_ok 4000 _ _ _ _ ?_
  simp (maxSteps := 10000000) only [go_sem, hge]
  refine sem_call rfl rfl (((hi).embed [0] rfl (by repeat' first | exact trivial | rfl | (simp only [go_sem]; done) | constructor) rfl (by first | rfl | simp only [go_sem]) rfl (by simp)).mono ?_)
  rintro _ _ ⟨_, _, ⟨rfl, rfl⟩, rfl, rfl⟩
  refine run_ok 4000 _ _ _ _ ?_
  simp (maxSteps := 10000000) only [go_sem, hge]
  clear hi
  refine sem_rounds (fun q : Nat × List TG => BS q.1 T0 q.2 ∧ 20 ≤ q.1 ∧ q.1 ≤ 2 * N + 20)
    (fun q => [(0, .sl 0 0 N N false), (1, .int .i64 N), (2, .fn 67 [] []), (6, .int .i64 (q.1 : Nat))])
    (fun q => [.row 4 (terows (mTE q.2))]) (fun q => N - q.1) (20, W0) [0] ⟨hbs, Nat.le_refl _, by simp only; omega⟩ ?_ ?_
  · simp [Emb, go_sem]
  clear hbs
  rintro ⟨s, W⟩ ⟨hbs, h20, hs2⟩
  simp only at hbs h20 hs2 ⊢
  by_cases hsn : s < N
  · have hin : (s : Int) < (N : Int) := by omega
    have w2 : iwrap .i64 (2 * (s : Int)) = ((2 * s : Nat) : Int) := by rw [iwrap_i64_in (by omega)]; omega
    have w3 : iwrap .i64 ((s : Int) * 2) = ((2 * s : Nat) : Int) := by rw [iwrap_i64_in (by omega)]; omega
    skip
    refine run_ok 4000 _ _ _ _ ?_
    simp (maxSteps := 10000000) only [go_sem, hin, w2]
    refine sem_rounds (fun q : List TG × List TG × List TG => S2 s T0 q.1 q.2.1 q.2.2)
      (fun q => [(0, .sl 0 0 N N false), (1, .int .i64 N), (2, .fn 67 [] []), (6, .int .i64 (s : Nat)), (7, .int .i64 (q.1.length : Nat)), (8, .int .i64 (q.1.length + 2 * s : Nat))])
      (fun q => [.row 4 (terows (mTE (q.1 ++ q.2.2)))]) (fun q => q.2.1.length) ([], T0, W) [0] ⟨by simp, hTg, hbs, fun W2 h => h⟩ ?_ ?_
    · simp [Emb, go_sem]
    clear hbs
    rintro ⟨D, T1, W1⟩ ⟨hl, htg, hb1, hgo⟩
    simp only at hl htg hb1 hgo ⊢
    have w4 : iwrap .i64 ((D.length : Int) + (s : Int)) = ((D.length + s : Nat) : Int) := by rw [iwrap_i64_in (by omega)]; omega
    by_cases hlt : D.length + 2 * s ≤ N
    · have hin2 : ((D.length + 2 * s : Nat) : Int) ≤ (N : Int) := by omega
      obtain ⟨P1, X1, T2, W2, rfl, rfl, lP1, pX1, rX1, hb2⟩ := hb1.split (by omega)
      rw [List.length_append] at hl
      obtain ⟨P2, X2, T3, W3, rfl, rfl, lP2, pX2, rX2, hb3⟩ := hb2.split (by omega)
      rw [List.length_append] at hl
      have htgP : TgI (P1 ++ P2) := by rw [← List.append_assoc] at htg; exact htg.left
      obtain ⟨Y, py, ry⟩ := srt_ex (P1 ++ P2) htgP.DR
      have lX1 := pX1.length_eq
      have lX2 := pX2.length_eq
      have lY := py.length_eq
      have lW3 := hb3.len
      rw [List.length_append] at lY
      have hm := sm_all (X1.length + X2.length) D X1 X2 W3 Y (Nat.le_refl _) rX1 rX2 (fun u hu v hv => htgP.cross u (pX1.subset hu) v (pX2.subset hv)) (py.trans (pX1.append pX2).symm) ry (by omega) (by omega)
        D.length (D.length + s) (D.length + 2 * s) N rfl (by omega) (by omega) (by omega) (by omega) _ _ rfl rfl
      have w5 : iwrap .i64 (((D.length + 2 * s : Nat) : Int) + ((2 * s : Nat) : Int)) = ((D.length + 2 * s + 2 * s : Nat) : Int) := by rw [iwrap_i64_in (by omega)]; omega
      have lD : (D ++ Y).length = D.length + 2 * s := by rw [List.length_append]; omega
      skip
      refine run_ok 4000 _ _ _ _ ?_
      simp (maxSteps := 10000000) only [go_sem, hin2, w2, w4, w5]
      refine sem_call rfl rfl (((hm).embed [0] rfl (by repeat' first | exact trivial | rfl | (simp only [go_sem]; done) | constructor) rfl (by first | rfl | simp only [go_sem]) rfl (by simp)).mono ?_)
      rintro _ _ ⟨_, _, ⟨rfl, rfl⟩, rfl, rfl⟩
      refine run_ok 4000 _ _ _ _ ?_
      simp (maxSteps := 10000000) only [go_sem, hin2, w2, w4, w5]
      refine ⟨(D ++ Y, T3, W3), by simp only [List.length_append]; omega, ⟨by simp only; omega, htg.right.right, hb3, fun W2 h => ?_⟩, [0], ?_⟩
      · simp only [List.append_assoc]
        have h : BS (2 * s) T3 W2 := h
        have h4 : BS (2 * s) ((P1 ++ P2) ++ T3) (Y ++ W2) := .cons (by rw [List.length_append]; omega) py ry h
        rw [List.append_assoc] at h4
        exact hgo _ h4
      · simp only [Emb, go_sem, lD, List.append_assoc]
    have hge2 : ¬ ((D.length + 2 * s : Nat) : Int) ≤ (N : Int) := by omega
    by_cases hmn : D.length + s < N
    · have hmi : ((D.length + s : Nat) : Int) < (N : Int) := by omega
      obtain ⟨P1, X1, T2, W2, rfl, rfl, lP1, pX1, rX1, hb2⟩ := hb1.split (by omega)
      rw [List.length_append] at hl
      obtain ⟨pW2, rW2⟩ := hb2.whole (by omega)
      obtain ⟨Y, py, ry⟩ := srt_ex (P1 ++ T2) htg.DR
      have lX1 := pX1.length_eq
      have lW2 := pW2.length_eq
      have lY := py.length_eq
      rw [List.length_append] at lY
      have hm := sm_all (X1.length + W2.length) D X1 W2 [] Y (Nat.le_refl _) rX1 rW2 (fun u hu v hv => htg.cross u (pX1.subset hu) v (pW2.subset hv)) (py.trans (pX1.append pW2).symm) ry (by omega) (by omega)
        D.length (D.length + s) N N rfl (by omega) (by omega) (by simp) (by omega) _ _ rfl rfl
      simp only [List.append_nil] at hm
      have hbs2 := hgo Y (.last (by rw [List.length_append]; omega) py ry)
      skip
      refine run_ok 4000 _ _ _ _ ?_
      simp (maxSteps := 10000000) only [go_sem, hge2, w3, w4, hmi]
      refine run_ok 4000 _ _ _ _ ?_
      simp (maxSteps := 10000000) only [go_sem, hge2, w3, w4, hmi]
      refine sem_call rfl rfl (((hm).embed [0] rfl (by repeat' first | exact trivial | rfl | (simp only [go_sem]; done) | constructor) rfl (by first | rfl | simp only [go_sem]) rfl (by simp)).mono ?_)
      rintro _ _ ⟨_, _, ⟨rfl, rfl⟩, rfl, rfl⟩
      refine run_ok 4000 _ _ _ _ ?_
      simp (maxSteps := 10000000) only [go_sem, hge2, w3, w4, hmi]
      refine ⟨(2 * s, D ++ Y), by simp only; omega, ⟨hbs2, by simp only; omega, by simp only; omega⟩, [0], ?_⟩
      simp only [Emb, go_sem]
    · have hmi : ¬ ((D.length + s : Nat) : Int) < (N : Int) := by omega
      obtain ⟨pW, rW⟩ := hb1.whole (by omega)
      have hbs2 := hgo W1 (.last (by omega) pW rW)
      skip
      refine run_ok 4000 _ _ _ _ ?_
      simp (maxSteps := 10000000) only [go_sem, hge2, w3, w4, hmi]
      refine run_ok 4000 _ _ _ _ ?_
      simp (maxSteps := 10000000) only [go_sem, hge2, w3, w4, hmi]
      refine ⟨(2 * s, D ++ W1), by simp only; omega, ⟨hbs2, by simp only; omega, by simp only; omega⟩, [0], ?_⟩
      simp only [Emb, go_sem]
  · have hge2 : ¬ (s : Int) < (N : Int) := by omega
    obtain ⟨pW, rW⟩ := hbs.whole (by omega)
    rw [hend W pW rW]
    skip
    refine run_ok 4000 _ _ _ _ ?_
    simp (maxSteps := 10000000) only [go_sem, hge2]
    refine run_ok 4000 _ _ _ _ ?_
    simp (maxSteps := 10000000) only [go_sem, hge2]
    refine ⟨_, _, .sub [0] ?_ .done, rfl, rfl⟩
    simp only [EmbV, go_sem]
theorem due_any (f m now : Int) (l : List TE) (hl : l.length ≤ 10000) (hok : TmOk l) (hm : 0 ≤ m ∧ m ≤ 10000000) (hnow : 0 ≤ now ∧ now ≤ 10000000) :
    Tri Try.prog 40 [.pbox 0 0, .int .i64 now] (tmM f m l) (fun v q => v = .vsl 1 (uv (numsT (stab (dueL now l)))) false ∧ q = tmM f m (l.map (updE m now))) :=
  due_spec f m now l hl hok hm hnow (sortStable_of _ (stable_spec _ (Nat.le_trans (List.length_filter_le _ _) (by omega))))
end Go.AEX
