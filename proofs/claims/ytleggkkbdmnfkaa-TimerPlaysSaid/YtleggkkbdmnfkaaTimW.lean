/- Sorting by merging: the whole. -/
import Derived.Test.YtleggkkbdmnfkaaTimU
namespace Go.AEX
open Go Go.AE Go.Proofs
set_option maxRecDepth 100000
set_option linter.unusedVariables false
set_option linter.unusedSimpArgs false

theorem rotG (A U V B : List TG) (hU : 0 < U.length) (hV : 0 < V.length) (a m b N : Nat) (ha : a = A.length) (hm : m = a + U.length) (hb : b = m + V.length) (hN : N = b + B.length) (hN2 : N ≤ 100000)
    (Z0 Z1 : List TE) (hz0 : Z0 = mTE (A ++ (U ++ (V ++ B)))) (hz1 : Z1 = mTE (A ++ (V ++ (U ++ B)))) :
    Tri Try.prog 38 [.sl 0 0 N N false, .int .i64 (a : Nat), .int .i64 (m : Nat), .int .i64 (b : Nat), .fn 23 [] []] [.row 4 (terows Z0)]
      (fun v q => v = .tup [] ∧ q = [.row 4 (terows Z1)]) := by
  have h := rotate_spec (mTE A) (mTE U) (mTE V) (mTE B) (by rw [mTE_len]; exact hU) (by rw [mTE_len]; exact hV) N (by simp only [mTE_len]; omega) hN2
  simp only [mTE_len] at h
  rw [← ha, ← hm, ← hb] at h
  have e0 : mTE A ++ (mTE U ++ (mTE V ++ mTE B)) = Z0 := by rw [hz0]; simp [mTE]
  have e1 : mTE A ++ (mTE V ++ (mTE U ++ mTE B)) = Z1 := by rw [hz1]; simp [mTE]
  rw [e0, e1] at h
  exact h
def SmOk (n : Nat) : Prop := ∀ (A U V B W : List TG), U.length + V.length ≤ n → U.Pairwise R → V.Pairwise R → (∀ u ∈ U, ∀ v ∈ V, u.2 < v.2) → W.Perm (U ++ V) → W.Pairwise R → 0 < U.length → 0 < V.length →
  ∀ (a m b N : Nat), a = A.length → m = a + U.length → b = m + V.length → N = b + B.length → N ≤ 100000 → ∀ Z0 Z1 : List TE, Z0 = mTE (A ++ (U ++ (V ++ B))) → Z1 = mTE (A ++ (W ++ B)) →
    Tri Try.prog 37 [.sl 0 0 N N false, .int .i64 (a : Nat), .int .i64 (m : Nat), .int .i64 (b : Nat), .fn 23 [] []] [.row 4 (terows Z0)]
      (fun v q => v = .tup [] ∧ q = [.row 4 (terows Z1)])
theorem sm_parts {U V W : List TG} (hU : U.Pairwise R) (hV : V.Pairwise R) (ht : ∀ u ∈ U, ∀ v ∈ V, u.2 < v.2) (hp : W.Perm (U ++ V)) (hr : W.Pairwise R) {s e : Nat} (hs : s ≤ U.length) (he : e ≤ V.length)
    (c1 : 0 < s → e < V.length → kA U (s - 1) ≤ kA V e) (c2 : 0 < e → s < U.length → kA V (e - 1) < kA U s) :
    ∃ W1 W2 : List TG, W = W1 ++ W2 ∧ W1.Perm (U.take s ++ V.take e) ∧ W2.Perm (U.drop s ++ V.drop e) ∧ W1.Pairwise R ∧ W2.Pairwise R := by
  apply srt_split _ hr
  · intro p hp1 q hq1
    have hUg := List.pairwise_iff_getElem.1 hU
    have hVg := List.pairwise_iff_getElem.1 hV
    rcases List.mem_append.1 hp1 with hp1 | hp1 <;> rcases List.mem_append.1 hq1 with hq1 | hq1
    · obtain ⟨i, hi, rfl⟩ := List.getElem_of_mem hp1
      obtain ⟨j, hj, rfl⟩ := List.getElem_of_mem hq1
      rw [List.length_take] at hi
      rw [List.length_drop] at hj
      rw [List.getElem_take, List.getElem_drop]
      exact hUg i (s + j) (by omega) (by omega) (by omega)
    · have ht1 := ht p (List.mem_of_mem_take hp1) q (List.mem_of_mem_drop hq1)
      obtain ⟨i, hi, rfl⟩ := List.getElem_of_mem hp1
      obtain ⟨j, hj, rfl⟩ := List.getElem_of_mem hq1
      rw [List.length_take] at hi
      rw [List.length_drop] at hj
      rw [List.getElem_take, List.getElem_drop] at *
      have h1 := kA_le hU (show i ≤ s - 1 by omega) (by omega)
      have h2 := kA_le hV (show e ≤ e + j by omega) (by omega)
      have h3 := c1 (by omega) (by omega)
      rw [kA_get (show i < U.length by omega)] at h1
      rw [kA_get (show e + j < V.length by omega)] at h2
      unfold R; omega
    · obtain ⟨i, hi, rfl⟩ := List.getElem_of_mem hp1
      obtain ⟨j, hj, rfl⟩ := List.getElem_of_mem hq1
      rw [List.length_take] at hi
      rw [List.length_drop] at hj
      rw [List.getElem_take, List.getElem_drop] at *
      have h1 := kA_le hV (show i ≤ e - 1 by omega) (by omega)
      have h2 := kA_le hU (show s ≤ s + j by omega) (by omega)
      have h3 := c2 (by omega) (by omega)
      rw [kA_get (show i < V.length by omega)] at h1
      rw [kA_get (show s + j < U.length by omega)] at h2
      unfold R; omega
    · obtain ⟨i, hi, rfl⟩ := List.getElem_of_mem hp1
      obtain ⟨j, hj, rfl⟩ := List.getElem_of_mem hq1
      rw [List.length_take] at hi
      rw [List.length_drop] at hj
      rw [List.getElem_take, List.getElem_drop]
      exact hVg i (e + j) (by omega) (by omega) (by omega)
  · refine hp.trans ?_
    have e1 : U ++ V = U.take s ++ (U.drop s ++ (V.take e ++ V.drop e)) := by rw [List.take_append_drop, ← List.append_assoc, List.take_append_drop]
    rw [e1, List.append_assoc]
    refine List.Perm.append_left _ ?_
    rw [← List.append_assoc, ← List.append_assoc]
    exact List.Perm.append_right _ List.perm_append_comm
set_option maxHeartbeats 40000000 in
theorem sm_gen (n : Nat) (ih : SmOk n) (A U V B W : List TG) (hn : U.length + V.length ≤ n + 1) (hU : U.Pairwise R) (hV : V.Pairwise R) (ht : ∀ u ∈ U, ∀ v ∈ V, u.2 < v.2) (hp : W.Perm (U ++ V)) (hr : W.Pairwise R) (hu2 : 2 ≤ U.length) (hv2 : 2 ≤ V.length)
    (N : Nat) (hN : N = A.length + U.length + V.length + B.length) (hN2 : N ≤ 100000) :
    Tri Try.prog 37 [.sl 0 0 N N false, .int .i64 (A.length : Nat), .int .i64 (A.length + U.length : Nat), .int .i64 (A.length + U.length + V.length : Nat), .fn 23 [] []] [.row 4 (terows (mTE (A ++ (U ++ (V ++ B)))))]
      (fun v q => v = .tup [] ∧ q = [.row 4 (terows (mTE (A ++ (W ++ B))))]) := by
  refine Tri.post ?_
  have huj : ∀ j (hj : j < U.length), ∃ (g : A.length + j < (mTE (A ++ (U ++ (V ++ B)))).length), (mTE (A ++ (U ++ (V ++ B))))[A.length + j].due = kA U j := by
    intro j hj
    obtain ⟨g, e⟩ := at_mid A U (V ++ B) (j := j) hj
    exact ⟨g, by rw [kA_get hj, ← e]⟩
  have hvj : ∀ j (hj : j < V.length), ∃ (g : A.length + U.length + j < (mTE (A ++ (U ++ (V ++ B)))).length), (mTE (A ++ (U ++ (V ++ B))))[A.length + U.length + j].due = kA V j := by
    intro j hj
    obtain ⟨g, e⟩ := at_mid (A ++ U) V B (j := j) hj
    simp only [List.append_assoc, List.length_append] at g e
    exact ⟨g, by rw [kA_get hj, ← e]⟩
  -- what the search finds, and what is done with it
  have hfin : ∀ (s : Nat), s ≤ U.length → s ≤ (U.length + V.length) / 2 → (U.length + V.length) / 2 - s ≤ V.length →
      (0 < s → (U.length + V.length) / 2 - s < V.length → kA U (s - 1) ≤ kA V ((U.length + V.length) / 2 - s)) → (0 < (U.length + V.length) / 2 - s → s < U.length → kA V ((U.length + V.length) / 2 - s - 1) < kA U s) →
      ∃ Z1 Z2 : List TE,
        (s < U.length → 0 < (U.length + V.length) / 2 - s → Tri Try.prog 38 [.sl 0 0 N N false, .int .i64 (A.length + s : Nat), .int .i64 (A.length + U.length : Nat), .int .i64 (A.length + U.length + ((U.length + V.length) / 2 - s) : Nat), .fn 23 [] []] [.row 4 (terows (mTE (A ++ (U ++ (V ++ B)))))] (fun v q => v = .tup [] ∧ q = [.row 4 (terows Z1)])) ∧
        (¬ (s < U.length ∧ 0 < (U.length + V.length) / 2 - s) → Z1 = mTE (A ++ (U ++ (V ++ B)))) ∧
        (0 < s → 0 < (U.length + V.length) / 2 - s → Tri Try.prog 37 [.sl 0 0 N N false, .int .i64 (A.length : Nat), .int .i64 (A.length + s : Nat), .int .i64 (A.length + (U.length + V.length) / 2 : Nat), .fn 23 [] []] [.row 4 (terows Z1)] (fun v q => v = .tup [] ∧ q = [.row 4 (terows Z2)])) ∧
        (¬ (0 < s ∧ 0 < (U.length + V.length) / 2 - s) → Z2 = Z1) ∧
        (s < U.length → (U.length + V.length) / 2 - s < V.length → Tri Try.prog 37 [.sl 0 0 N N false, .int .i64 (A.length + (U.length + V.length) / 2 : Nat), .int .i64 (A.length + U.length + ((U.length + V.length) / 2 - s) : Nat), .int .i64 (A.length + U.length + V.length : Nat), .fn 23 [] []] [.row 4 (terows Z2)] (fun v q => v = .tup [] ∧ q = [.row 4 (terows (mTE (A ++ (W ++ B))))])) ∧
        (¬ (s < U.length ∧ (U.length + V.length) / 2 - s < V.length) → mTE (A ++ (W ++ B)) = Z2) := by
    intro s hs hsd he c1 c2
    obtain ⟨W1, W2, eW, pW1, pW2, rW1, rW2⟩ := sm_parts hU hV ht hp hr hs he c1 c2
    have hed : (U.length + V.length) / 2 < U.length + V.length := by omega
    have hd1 : 0 < (U.length + V.length) / 2 := by omega
    generalize hd : (U.length + V.length) / 2 = d at *
    generalize hee : d - s = e at *
    have l1 : (U.take s).length = s := by simp; omega
    have l2 : (U.drop s).length = U.length - s := by simp
    have l3 : (V.take e).length = e := by simp; omega
    have l4 : (V.drop e).length = V.length - e := by simp
    have lW1 := pW1.length_eq
    have lW2 := pW2.length_eq
    rw [List.length_append, l1, l3] at lW1
    rw [List.length_append, l2, l4] at lW2
    have eU : U.take s ++ U.drop s = U := List.take_append_drop ..
    have eV : V.take e ++ V.drop e = V := List.take_append_drop ..
    have rU1 : (U.take s).Pairwise R := hU.sublist (List.take_sublist ..)
    have rU2 : (U.drop s).Pairwise R := hU.sublist (List.drop_sublist ..)
    have rV1 : (V.take e).Pairwise R := hV.sublist (List.take_sublist ..)
    have rV2 : (V.drop e).Pairwise R := hV.sublist (List.drop_sublist ..)
    have t1 : ∀ u ∈ U.take s, ∀ v ∈ V.take e, u.2 < v.2 := fun u hu v hv => ht u (List.mem_of_mem_take hu) v (List.mem_of_mem_take hv)
    have t2 : ∀ u ∈ U.drop s, ∀ v ∈ V.drop e, u.2 < v.2 := fun u hu v hv => ht u (List.mem_of_mem_drop hu) v (List.mem_of_mem_drop hv)
    have e0 : mTE (A ++ (U ++ (V ++ B))) = mTE ((A ++ U.take s) ++ (U.drop s ++ (V.take e ++ (V.drop e ++ B)))) := by
      conv => lhs; rw [← eU, ← eV]
      simp only [List.append_assoc]
    generalize U.take s = U1 at *
    generalize U.drop s = U2 at *
    generalize V.take e = V1 at *
    generalize V.drop e = V2 at *
    have n1 : ∀ {L : List TG}, L.length = 0 → L = [] := fun h => List.length_eq_zero_iff.1 h
    refine ⟨mTE ((A ++ U1) ++ (V1 ++ (U2 ++ (V2 ++ B)))), mTE ((A ++ W1) ++ (U2 ++ (V2 ++ B))), ?_, ?_, ?_, ?_, ?_, ?_⟩
    · intro q1 q2
      exact rotG (A ++ U1) U2 V1 (V2 ++ B) (by omega) (by omega) _ _ _ N (by rw [List.length_append]; omega) (by omega) (by omega) (by rw [List.length_append]; omega) hN2 _ _ e0 rfl
    · intro q
      rw [e0]
      by_cases q1 : s < U.length
      · have : V1 = [] := n1 (by omega)
        rw [this]; simp
      · have : U2 = [] := n1 (by omega)
        rw [this]; simp
    · intro q1 q2
      exact ih A U1 V1 (U2 ++ (V2 ++ B)) W1 (by omega) rU1 rV1 t1 pW1 rW1 (by omega) (by omega) _ _ _ N rfl (by omega) (by omega) (by simp only [List.length_append]; omega) hN2 _ _ (by simp only [List.append_assoc]) (by simp only [List.append_assoc])
    · intro q
      by_cases q1 : 0 < s
      · have h0 : V1 = [] := n1 (by omega)
        rw [h0] at pW1 ⊢
        rw [List.append_nil] at pW1
        rw [R_unique pW1 rW1 rU1]; simp
      · have h0 : U1 = [] := n1 (by omega)
        rw [h0] at pW1 ⊢
        rw [List.nil_append] at pW1
        rw [R_unique pW1 rW1 rV1]; simp
    · intro q1 q2
      exact ih (A ++ W1) U2 V2 B W2 (by omega) rU2 rV2 t2 pW2 rW2 (by omega) (by omega) _ _ _ N (by rw [List.length_append]; omega) (by omega) (by omega) (by omega) hN2 _ _ rfl (by rw [eW]; simp only [List.append_assoc])
    · intro q
      by_cases q1 : s < U.length
      · have h0 : V2 = [] := n1 (by omega)
        rw [h0] at pW2 ⊢
        rw [List.append_nil] at pW2
        rw [eW, R_unique pW2 rW2 rU2]; simp
      · have h0 : U2 = [] := n1 (by omega)
        rw [h0] at pW2 ⊢
        rw [List.nil_append] at pW2
        rw [eW, R_unique pW2 rW2 rV2]; simp
  clear ih
  generalize mTE (A ++ (U ++ (V ++ B))) = Z at *
  generalize mTE (A ++ (W ++ B)) = Z9 at *
  generalize ha : A.length = a at *
  generalize hu : U.length = u at *
  generalize hv : V.length = v at *
  have hdd : (u + v) / 2 < u + v := by omega
  generalize hd : (u + v) / 2 = d at *
  have c0 : (iwrap .i64 (((a + u : Nat) : Int) - (a : Nat)) == 1) = false := by rw [iwrap_i64_in (by omega)]; simp; omega
  have c1 : (iwrap .i64 (((a + u + v : Nat) : Int) - ((a + u : Nat) : Int)) == 1) = false := by rw [iwrap_i64_in (by omega)]; simp; omega
  have hm : iwrap .i64 (((a : Nat) : Int) + ((a + u + v : Nat) : Int)) = ((a + (a + u + v) : Nat) : Int) := by rw [iwrap_i64_in (by omega)]; omega
  have hhf := half_u64 (n := a + (a + u + v)) (by omega)
  rw [show (a + (a + u + v)) / 2 = a + d by omega] at hhf
  have hwn : iwrap .i64 (((a + d : Nat) : Int) + ((a + u : Nat) : Int)) = ((a + d + (a + u) : Nat) : Int) := by rw [iwrap_i64_in (by omega)]; omega
  have hwp : iwrap .i64 (((a + d + (a + u) : Nat) : Int) - 1) = ((a + d + (a + u) - 1 : Nat) : Int) := by rw [iwrap_i64_in (by omega)]; omega
  have hws : u > d → iwrap .i64 (((a + d + (a + u) : Nat) : Int) - ((a + u + v : Nat) : Int)) = ((a + (d - v) : Nat) : Int) := fun h => by rw [iwrap_i64_in (by omega)]; omega
  by_cases cm : u > d
  · have cmi : ((a + u : Nat) : Int) > ((a + d : Nat) : Int) := by omega
    have hws := hws cm
    skip
    refine (Tri.enter (rl := r37) (code := c37) (by kernel_rfl) Try.func37 rfl c37_ok (by kernel_rfl) (by kernel_rfl) ?_)
    refine run_ok 4000 _ _ _ _ ?_
    simp (maxSteps := 10000000) only [go_sem, c37, r37, c0, c1, hm, hhf, hwn, hwp, hws, cmi]
    refine sem_rounds (fun q : Nat × Nat => (d - v) ≤ q.1 ∧ q.1 ≤ q.2 ∧ q.2 ≤ d ∧ ((d - v) < q.1 → kA U (q.1 - 1) ≤ kA V (d - q.1)) ∧ (q.2 < d → kA V (d - 1 - q.2) < kA U q.2))
      (fun q => [(0, .sl 0 0 N N false), (1, .int .i64 (a : Nat)), (2, .int .i64 (a + u : Nat)), (3, .int .i64 (a + u + v : Nat)), (4, (AV.fn 23 [] [])), (18, .int .i64 (a + d : Nat)), (19, .int .i64 (a + d + (a + u) : Nat)), (20, .int .i64 (a + q.1 : Nat)), (21, .int .i64 (a + q.2 : Nat)), (22, .int .i64 (a + d + (a + u) - 1 : Nat))])
      (fun q => [.row 4 (terows Z)]) (fun q => q.2 - q.1) ((d - v), d) [0] ⟨Nat.le_refl _, by simp only; omega, Nat.le_refl _, by simp only; omega, by simp only; omega⟩ ?_ ?_
    · simp only [Emb, go_sem, Nat.add_zero]
    rintro ⟨s, r⟩ ⟨g1, g2, g3, g4, g5⟩
    simp only at g1 g2 g3 g4 g5 ⊢
    by_cases hlt : s < r
    · have hin : ((a + s : Nat) : Int) < ((a + r : Nat) : Int) := by omega
      have hm2 : iwrap .i64 (((a + s : Nat) : Int) + ((a + r : Nat) : Int)) = ((a + s + (a + r) : Nat) : Int) := by rw [iwrap_i64_in (by omega)]; omega
      have hhf2 := half_u64 (n := a + s + (a + r)) (by omega)
      rw [show (a + s + (a + r)) / 2 = a + (s + r) / 2 by omega] at hhf2
      have hlt2 : (s + r) / 2 < r := by omega
      have hlp : s ≤ (s + r) / 2 := by omega
      generalize (s + r) / 2 = h at *
      obtain ⟨gu, eu⟩ := huj h (by omega)
      obtain ⟨gv, ev⟩ := hvj (d - 1 - h) (by omega)
      have hwq : iwrap .i64 (((a + d + (a + u) - 1 : Nat) : Int) - ((a + h : Nat) : Int)) = ((a + u + (d - 1 - h) : Nat) : Int) := by rw [iwrap_i64_in (by omega)]; omega
      have hcm := due1_spec Z[a + u + (d - 1 - h)] Z[a + h]
      have hcl := cmpI_lt Z[a + u + (d - 1 - h)].due Z[a + h].due
      have q0 := te_r0 gu; have q1 := te_r1 gu; have q2 := te_r2 gu; have q3 := te_r3 gu
      have p0 := te_r0 gv; have p1 := te_r1 gv; have p2 := te_r2 gv; have p3 := te_r3 gv
      have d1 : ((a + h : Nat) : Int) < (N : Int) := by omega
      have d2 : ((a + u + (d - 1 - h) : Nat) : Int) < (N : Int) := by omega
      by_cases c : kA V (d - 1 - h) < kA U h
      · have c3' : cmpI Z[a + u + (d - 1 - h)].due Z[a + h].due < 0 := by rw [hcl, eu, ev]; exact c
        generalize Z[a + u + (d - 1 - h)] = x at *
        generalize Z[a + h] = y at *
        skip
        refine run_ok 4000 _ _ _ _ ?_
        simp (maxSteps := 10000000) only [go_sem, hin, hm2, hhf2, hwq, d1, d2, te_h0 gu, te_h1 gu, te_h2 gu, te_h3 gu, te_h0 gv, te_h1 gv, te_h2 gv, te_h3 gv, q0, q1, q2, q3, p0, p1, p2, p3, c3', te_len, Int.natCast_nonneg]
        refine sem_drawG l37_4_ok (by kernel_rfl) ?_
        intro KK hKK
        simp (maxSteps := 10000000) only [go_sem, l37_4, hin, hm2, hhf2, hwq, d1, d2, te_h0 gu, te_h1 gu, te_h2 gu, te_h3 gu, te_h0 gv, te_h1 gv, te_h2 gv, te_h3 gv, q0, q1, q2, q3, p0, p1, p2, p3, c3', te_len, Int.natCast_nonneg]
        subst hKK
        simp (maxSteps := 10000000) only [go_sem, hin, hm2, hhf2, hwq, d1, d2, te_h0 gu, te_h1 gu, te_h2 gu, te_h3 gu, te_h0 gv, te_h1 gv, te_h2 gv, te_h3 gv, q0, q1, q2, q3, p0, p1, p2, p3, c3', te_len, Int.natCast_nonneg]
        refine TriZ.of (((hcm).embed [] rfl (by repeat' first | exact trivial | rfl | (simp only [go_sem]; done) | constructor) rfl (by first | rfl | simp only [go_sem]) rfl (by simp)).mono ?_)
        rintro _ _ ⟨_, _, ⟨rfl, rfl⟩, rfl, rfl⟩
        simp (maxSteps := 10000000) only [go_sem, hin, hm2, hhf2, hwq, d1, d2, te_h0 gu, te_h1 gu, te_h2 gu, te_h3 gu, te_h0 gv, te_h1 gv, te_h2 gv, te_h3 gv, q0, q1, q2, q3, p0, p1, p2, p3, c3', te_len, Int.natCast_nonneg]
        refine ⟨(s, h), by simp only; omega, ⟨g1, by simp only; omega, by simp only; omega, g4, fun _ => c⟩, [0], ?_⟩
        simp only [Emb, go_sem]
      · have c3' : ¬ cmpI Z[a + u + (d - 1 - h)].due Z[a + h].due < 0 := by rw [hcl, eu, ev]; exact c
        generalize Z[a + u + (d - 1 - h)] = x at *
        generalize Z[a + h] = y at *
        skip
        refine run_ok 4000 _ _ _ _ ?_
        simp (maxSteps := 10000000) only [go_sem, hin, hm2, hhf2, hwq, d1, d2, te_h0 gu, te_h1 gu, te_h2 gu, te_h3 gu, te_h0 gv, te_h1 gv, te_h2 gv, te_h3 gv, q0, q1, q2, q3, p0, p1, p2, p3, c3', te_len, Int.natCast_nonneg, inc64 (show a + h < 1000000000000 by omega)]
        refine sem_drawG l37_4_ok (by kernel_rfl) ?_
        intro KK hKK
        simp (maxSteps := 10000000) only [go_sem, l37_4, hin, hm2, hhf2, hwq, d1, d2, te_h0 gu, te_h1 gu, te_h2 gu, te_h3 gu, te_h0 gv, te_h1 gv, te_h2 gv, te_h3 gv, q0, q1, q2, q3, p0, p1, p2, p3, c3', te_len, Int.natCast_nonneg, inc64 (show a + h < 1000000000000 by omega)]
        subst hKK
        simp (maxSteps := 10000000) only [go_sem, hin, hm2, hhf2, hwq, d1, d2, te_h0 gu, te_h1 gu, te_h2 gu, te_h3 gu, te_h0 gv, te_h1 gv, te_h2 gv, te_h3 gv, q0, q1, q2, q3, p0, p1, p2, p3, c3', te_len, Int.natCast_nonneg, inc64 (show a + h < 1000000000000 by omega)]
        refine TriZ.of (((hcm).embed [] rfl (by repeat' first | exact trivial | rfl | (simp only [go_sem]; done) | constructor) rfl (by first | rfl | simp only [go_sem]) rfl (by simp)).mono ?_)
        rintro _ _ ⟨_, _, ⟨rfl, rfl⟩, rfl, rfl⟩
        simp (maxSteps := 10000000) only [go_sem, hin, hm2, hhf2, hwq, d1, d2, te_h0 gu, te_h1 gu, te_h2 gu, te_h3 gu, te_h0 gv, te_h1 gv, te_h2 gv, te_h3 gv, q0, q1, q2, q3, p0, p1, p2, p3, c3', te_len, Int.natCast_nonneg, inc64 (show a + h < 1000000000000 by omega)]
        refine ⟨(h + 1, r), by simp only; omega, ⟨by simp only; omega, by simp only; omega, g3, fun _ => by simp only [Nat.add_sub_cancel]; rw [show d - (h + 1) = d - 1 - h by omega]; omega, g5⟩, [0], ?_⟩
        simp only [Emb, go_sem, Nat.add_assoc]
    have hre : s = r := by omega
    subst hre
    have hge : ¬ ((a + s : Nat) : Int) < ((a + s : Nat) : Int) := by omega
    obtain ⟨Z1, Z2, H1, E1, H2, E2, H3, E3⟩ := hfin s (by omega) (by omega) (by omega) (fun h0 h1 => g4 (by omega)) (fun h0 h1 => by rw [show d - s - 1 = d - 1 - s by omega]; exact g5 (by omega))
    clear hfin huj hvj
    have hwe : iwrap .i64 (((a + d + (a + u) : Nat) : Int) - ((a + s : Nat) : Int)) = ((a + u + (d - s) : Nat) : Int) := by rw [iwrap_i64_in (by omega)]; omega
    have hsd : s ≤ d := by omega
    by_cases k1 : s < u
    · by_cases k2 : 0 < d - s
      · by_cases k3 : 0 < s
        · by_cases k4 : d - s < v
          · have f1 : ((a + s : Nat) : Int) < ((a + u : Nat) : Int) := by omega
            have f2 : ((a + u : Nat) : Int) < ((a + u + (d - s) : Nat) : Int) := by omega
            have f3 : ((a : Nat) : Int) < ((a + s : Nat) : Int) := by omega
            have f4 : ((a + s : Nat) : Int) < ((a + d : Nat) : Int) := by omega
            have f5 : ((a + d : Nat) : Int) < ((a + u + (d - s) : Nat) : Int) := by omega
            have f6 : ((a + u + (d - s) : Nat) : Int) < ((a + u + v : Nat) : Int) := by omega
            have H1 := H1 k1 k2
            have H2 := H2 k3 k2
            have H3 := H3 k1 k4
            skip
            refine run_ok 4000 _ _ _ _ ?_
            simp (maxSteps := 10000000) only [go_sem, hge, hwe, f1, f2, f3, f4, f5, f6]
            refine run_ok 4000 _ _ _ _ ?_
            simp (maxSteps := 10000000) only [go_sem, hge, hwe, f1, f2, f3, f4, f5, f6]
            refine sem_call rfl rfl (((H1).embed [0] rfl (by repeat' first | exact trivial | rfl | (simp only [go_sem]; done) | constructor) rfl (by first | rfl | simp only [go_sem]) rfl (by simp)).mono ?_)
            rintro _ _ ⟨_, _, ⟨rfl, rfl⟩, rfl, rfl⟩
            refine run_ok 4000 _ _ _ _ ?_
            simp (maxSteps := 10000000) only [go_sem, hge, hwe, f1, f2, f3, f4, f5, f6]
            refine sem_call rfl rfl (((H2).embed [0] rfl (by repeat' first | exact trivial | rfl | (simp only [go_sem]; done) | constructor) rfl (by first | rfl | simp only [go_sem]) rfl (by simp)).mono ?_)
            rintro _ _ ⟨_, _, ⟨rfl, rfl⟩, rfl, rfl⟩
            refine run_ok 4000 _ _ _ _ ?_
            simp (maxSteps := 10000000) only [go_sem, hge, hwe, f1, f2, f3, f4, f5, f6]
            refine sem_call rfl rfl (((H3).embed [0] rfl (by repeat' first | exact trivial | rfl | (simp only [go_sem]; done) | constructor) rfl (by first | rfl | simp only [go_sem]) rfl (by simp)).mono ?_)
            rintro _ _ ⟨_, _, ⟨rfl, rfl⟩, rfl, rfl⟩
            refine run_ok 4000 _ _ _ _ ?_
            simp (maxSteps := 10000000) only [go_sem, hge, hwe, f1, f2, f3, f4, f5, f6]
            refine ⟨_, _, .sub [0] ?_ .done, rfl, rfl⟩
            simp only [EmbV, go_sem]
          · have f1 : ((a + s : Nat) : Int) < ((a + u : Nat) : Int) := by omega
            have f2 : ((a + u : Nat) : Int) < ((a + u + (d - s) : Nat) : Int) := by omega
            have f3 : ((a : Nat) : Int) < ((a + s : Nat) : Int) := by omega
            have f4 : ((a + s : Nat) : Int) < ((a + d : Nat) : Int) := by omega
            have f5 : ((a + d : Nat) : Int) < ((a + u + (d - s) : Nat) : Int) := by omega
            have f6 : ¬ ((a + u + (d - s) : Nat) : Int) < ((a + u + v : Nat) : Int) := by omega
            have H1 := H1 k1 k2
            have H2 := H2 k3 k2
            have E3 := E3 (by omega)
            subst E3
            skip
            refine run_ok 4000 _ _ _ _ ?_
            simp (maxSteps := 10000000) only [go_sem, hge, hwe, f1, f2, f3, f4, f5, f6]
            refine run_ok 4000 _ _ _ _ ?_
            simp (maxSteps := 10000000) only [go_sem, hge, hwe, f1, f2, f3, f4, f5, f6]
            refine sem_call rfl rfl (((H1).embed [0] rfl (by repeat' first | exact trivial | rfl | (simp only [go_sem]; done) | constructor) rfl (by first | rfl | simp only [go_sem]) rfl (by simp)).mono ?_)
            rintro _ _ ⟨_, _, ⟨rfl, rfl⟩, rfl, rfl⟩
            refine run_ok 4000 _ _ _ _ ?_
            simp (maxSteps := 10000000) only [go_sem, hge, hwe, f1, f2, f3, f4, f5, f6]
            refine sem_call rfl rfl (((H2).embed [0] rfl (by repeat' first | exact trivial | rfl | (simp only [go_sem]; done) | constructor) rfl (by first | rfl | simp only [go_sem]) rfl (by simp)).mono ?_)
            rintro _ _ ⟨_, _, ⟨rfl, rfl⟩, rfl, rfl⟩
            refine run_ok 4000 _ _ _ _ ?_
            simp (maxSteps := 10000000) only [go_sem, hge, hwe, f1, f2, f3, f4, f5, f6]
            refine ⟨_, _, .sub [0] ?_ .done, rfl, rfl⟩
            simp only [EmbV, go_sem]
        · by_cases k4 : d - s < v
          · have f1 : ((a + s : Nat) : Int) < ((a + u : Nat) : Int) := by omega
            have f2 : ((a + u : Nat) : Int) < ((a + u + (d - s) : Nat) : Int) := by omega
            have f3 : ¬ ((a : Nat) : Int) < ((a + s : Nat) : Int) := by omega
            have f4 : ((a + s : Nat) : Int) < ((a + d : Nat) : Int) := by omega
            have f5 : ((a + d : Nat) : Int) < ((a + u + (d - s) : Nat) : Int) := by omega
            have f6 : ((a + u + (d - s) : Nat) : Int) < ((a + u + v : Nat) : Int) := by omega
            have H1 := H1 k1 k2
            have E2 := E2 (by omega)
            have H3 := H3 k1 k4
            subst E2
            skip
            refine run_ok 4000 _ _ _ _ ?_
            simp (maxSteps := 10000000) only [go_sem, hge, hwe, f1, f2, f3, f4, f5, f6]
            refine run_ok 4000 _ _ _ _ ?_
            simp (maxSteps := 10000000) only [go_sem, hge, hwe, f1, f2, f3, f4, f5, f6]
            refine sem_call rfl rfl (((H1).embed [0] rfl (by repeat' first | exact trivial | rfl | (simp only [go_sem]; done) | constructor) rfl (by first | rfl | simp only [go_sem]) rfl (by simp)).mono ?_)
            rintro _ _ ⟨_, _, ⟨rfl, rfl⟩, rfl, rfl⟩
            refine run_ok 4000 _ _ _ _ ?_
            simp (maxSteps := 10000000) only [go_sem, hge, hwe, f1, f2, f3, f4, f5, f6]
            refine sem_call rfl rfl (((H3).embed [0] rfl (by repeat' first | exact trivial | rfl | (simp only [go_sem]; done) | constructor) rfl (by first | rfl | simp only [go_sem]) rfl (by simp)).mono ?_)
            rintro _ _ ⟨_, _, ⟨rfl, rfl⟩, rfl, rfl⟩
            refine run_ok 4000 _ _ _ _ ?_
            simp (maxSteps := 10000000) only [go_sem, hge, hwe, f1, f2, f3, f4, f5, f6]
            refine ⟨_, _, .sub [0] ?_ .done, rfl, rfl⟩
            simp only [EmbV, go_sem]
          · have f1 : ((a + s : Nat) : Int) < ((a + u : Nat) : Int) := by omega
            have f2 : ((a + u : Nat) : Int) < ((a + u + (d - s) : Nat) : Int) := by omega
            have f3 : ¬ ((a : Nat) : Int) < ((a + s : Nat) : Int) := by omega
            have f4 : ((a + s : Nat) : Int) < ((a + d : Nat) : Int) := by omega
            have f5 : ((a + d : Nat) : Int) < ((a + u + (d - s) : Nat) : Int) := by omega
            have f6 : ¬ ((a + u + (d - s) : Nat) : Int) < ((a + u + v : Nat) : Int) := by omega
            have H1 := H1 k1 k2
            have E2 := E2 (by omega)
            have E3 := E3 (by omega)
            subst E2
            subst E3
            skip
            refine run_ok 4000 _ _ _ _ ?_
            simp (maxSteps := 10000000) only [go_sem, hge, hwe, f1, f2, f3, f4, f5, f6]
            refine run_ok 4000 _ _ _ _ ?_
            simp (maxSteps := 10000000) only [go_sem, hge, hwe, f1, f2, f3, f4, f5, f6]
            refine sem_call rfl rfl (((H1).embed [0] rfl (by repeat' first | exact trivial | rfl | (simp only [go_sem]; done) | constructor) rfl (by first | rfl | simp only [go_sem]) rfl (by simp)).mono ?_)
            rintro _ _ ⟨_, _, ⟨rfl, rfl⟩, rfl, rfl⟩
            refine run_ok 4000 _ _ _ _ ?_
            simp (maxSteps := 10000000) only [go_sem, hge, hwe, f1, f2, f3, f4, f5, f6]
            refine ⟨_, _, .sub [0] ?_ .done, rfl, rfl⟩
            simp only [EmbV, go_sem]
      · by_cases k3 : 0 < s
        · by_cases k4 : d - s < v
          · have f1 : ((a + s : Nat) : Int) < ((a + u : Nat) : Int) := by omega
            have f2 : ¬ ((a + u : Nat) : Int) < ((a + u + (d - s) : Nat) : Int) := by omega
            have f3 : ((a : Nat) : Int) < ((a + s : Nat) : Int) := by omega
            have f4 : ¬ ((a + s : Nat) : Int) < ((a + d : Nat) : Int) := by omega
            have f5 : ((a + d : Nat) : Int) < ((a + u + (d - s) : Nat) : Int) := by omega
            have f6 : ((a + u + (d - s) : Nat) : Int) < ((a + u + v : Nat) : Int) := by omega
            have E1 := E1 (by omega)
            have E2 := E2 (by omega)
            have H3 := H3 k1 k4
            subst E1
            subst E2
            skip
            refine run_ok 4000 _ _ _ _ ?_
            simp (maxSteps := 10000000) only [go_sem, hge, hwe, f1, f2, f3, f4, f5, f6]
            refine run_ok 4000 _ _ _ _ ?_
            simp (maxSteps := 10000000) only [go_sem, hge, hwe, f1, f2, f3, f4, f5, f6]
            refine sem_call rfl rfl (((H3).embed [0] rfl (by repeat' first | exact trivial | rfl | (simp only [go_sem]; done) | constructor) rfl (by first | rfl | simp only [go_sem]) rfl (by simp)).mono ?_)
            rintro _ _ ⟨_, _, ⟨rfl, rfl⟩, rfl, rfl⟩
            refine run_ok 4000 _ _ _ _ ?_
            simp (maxSteps := 10000000) only [go_sem, hge, hwe, f1, f2, f3, f4, f5, f6]
            refine ⟨_, _, .sub [0] ?_ .done, rfl, rfl⟩
            simp only [EmbV, go_sem]
          · have f1 : ((a + s : Nat) : Int) < ((a + u : Nat) : Int) := by omega
            have f2 : ¬ ((a + u : Nat) : Int) < ((a + u + (d - s) : Nat) : Int) := by omega
            have f3 : ((a : Nat) : Int) < ((a + s : Nat) : Int) := by omega
            have f4 : ¬ ((a + s : Nat) : Int) < ((a + d : Nat) : Int) := by omega
            have f5 : ((a + d : Nat) : Int) < ((a + u + (d - s) : Nat) : Int) := by omega
            have f6 : ¬ ((a + u + (d - s) : Nat) : Int) < ((a + u + v : Nat) : Int) := by omega
            have E1 := E1 (by omega)
            have E2 := E2 (by omega)
            have E3 := E3 (by omega)
            subst E1
            subst E2
            subst E3
            skip
            refine run_ok 4000 _ _ _ _ ?_
            simp (maxSteps := 10000000) only [go_sem, hge, hwe, f1, f2, f3, f4, f5, f6]
            refine run_ok 4000 _ _ _ _ ?_
            simp (maxSteps := 10000000) only [go_sem, hge, hwe, f1, f2, f3, f4, f5, f6]
            refine ⟨_, _, .sub [0] ?_ .done, rfl, rfl⟩
            simp only [EmbV, go_sem]
        · by_cases k4 : d - s < v
          · have f1 : ((a + s : Nat) : Int) < ((a + u : Nat) : Int) := by omega
            have f2 : ¬ ((a + u : Nat) : Int) < ((a + u + (d - s) : Nat) : Int) := by omega
            have f3 : ¬ ((a : Nat) : Int) < ((a + s : Nat) : Int) := by omega
            have f4 : ¬ ((a + s : Nat) : Int) < ((a + d : Nat) : Int) := by omega
            have f5 : ((a + d : Nat) : Int) < ((a + u + (d - s) : Nat) : Int) := by omega
            have f6 : ((a + u + (d - s) : Nat) : Int) < ((a + u + v : Nat) : Int) := by omega
            have E1 := E1 (by omega)
            have E2 := E2 (by omega)
            have H3 := H3 k1 k4
            subst E1
            subst E2
            skip
            refine run_ok 4000 _ _ _ _ ?_
            simp (maxSteps := 10000000) only [go_sem, hge, hwe, f1, f2, f3, f4, f5, f6]
            refine run_ok 4000 _ _ _ _ ?_
            simp (maxSteps := 10000000) only [go_sem, hge, hwe, f1, f2, f3, f4, f5, f6]
            refine sem_call rfl rfl (((H3).embed [0] rfl (by repeat' first | exact trivial | rfl | (simp only [go_sem]; done) | constructor) rfl (by first | rfl | simp only [go_sem]) rfl (by simp)).mono ?_)
            rintro _ _ ⟨_, _, ⟨rfl, rfl⟩, rfl, rfl⟩
            refine run_ok 4000 _ _ _ _ ?_
            simp (maxSteps := 10000000) only [go_sem, hge, hwe, f1, f2, f3, f4, f5, f6]
            refine ⟨_, _, .sub [0] ?_ .done, rfl, rfl⟩
            simp only [EmbV, go_sem]
          · have f1 : ((a + s : Nat) : Int) < ((a + u : Nat) : Int) := by omega
            have f2 : ¬ ((a + u : Nat) : Int) < ((a + u + (d - s) : Nat) : Int) := by omega
            have f3 : ¬ ((a : Nat) : Int) < ((a + s : Nat) : Int) := by omega
            have f4 : ¬ ((a + s : Nat) : Int) < ((a + d : Nat) : Int) := by omega
            have f5 : ((a + d : Nat) : Int) < ((a + u + (d - s) : Nat) : Int) := by omega
            have f6 : ¬ ((a + u + (d - s) : Nat) : Int) < ((a + u + v : Nat) : Int) := by omega
            have E1 := E1 (by omega)
            have E2 := E2 (by omega)
            have E3 := E3 (by omega)
            subst E1
            subst E2
            subst E3
            skip
            refine run_ok 4000 _ _ _ _ ?_
            simp (maxSteps := 10000000) only [go_sem, hge, hwe, f1, f2, f3, f4, f5, f6]
            refine run_ok 4000 _ _ _ _ ?_
            simp (maxSteps := 10000000) only [go_sem, hge, hwe, f1, f2, f3, f4, f5, f6]
            refine ⟨_, _, .sub [0] ?_ .done, rfl, rfl⟩
            simp only [EmbV, go_sem]
    · by_cases k2 : 0 < d - s
      · by_cases k3 : 0 < s
        · by_cases k4 : d - s < v
          · have f1 : ¬ ((a + s : Nat) : Int) < ((a + u : Nat) : Int) := by omega
            have f2 : ((a + u : Nat) : Int) < ((a + u + (d - s) : Nat) : Int) := by omega
            have f3 : ((a : Nat) : Int) < ((a + s : Nat) : Int) := by omega
            have f4 : ((a + s : Nat) : Int) < ((a + d : Nat) : Int) := by omega
            have f5 : ¬ ((a + d : Nat) : Int) < ((a + u + (d - s) : Nat) : Int) := by omega
            have f6 : ((a + u + (d - s) : Nat) : Int) < ((a + u + v : Nat) : Int) := by omega
            have E1 := E1 (by omega)
            have H2 := H2 k3 k2
            have E3 := E3 (by omega)
            subst E1
            subst E3
            skip
            refine run_ok 4000 _ _ _ _ ?_
            simp (maxSteps := 10000000) only [go_sem, hge, hwe, f1, f2, f3, f4, f5, f6]
            refine run_ok 4000 _ _ _ _ ?_
            simp (maxSteps := 10000000) only [go_sem, hge, hwe, f1, f2, f3, f4, f5, f6]
            refine sem_call rfl rfl (((H2).embed [0] rfl (by repeat' first | exact trivial | rfl | (simp only [go_sem]; done) | constructor) rfl (by first | rfl | simp only [go_sem]) rfl (by simp)).mono ?_)
            rintro _ _ ⟨_, _, ⟨rfl, rfl⟩, rfl, rfl⟩
            refine run_ok 4000 _ _ _ _ ?_
            simp (maxSteps := 10000000) only [go_sem, hge, hwe, f1, f2, f3, f4, f5, f6]
            refine ⟨_, _, .sub [0] ?_ .done, rfl, rfl⟩
            simp only [EmbV, go_sem]
          · have f1 : ¬ ((a + s : Nat) : Int) < ((a + u : Nat) : Int) := by omega
            have f2 : ((a + u : Nat) : Int) < ((a + u + (d - s) : Nat) : Int) := by omega
            have f3 : ((a : Nat) : Int) < ((a + s : Nat) : Int) := by omega
            have f4 : ((a + s : Nat) : Int) < ((a + d : Nat) : Int) := by omega
            have f5 : ¬ ((a + d : Nat) : Int) < ((a + u + (d - s) : Nat) : Int) := by omega
            have f6 : ¬ ((a + u + (d - s) : Nat) : Int) < ((a + u + v : Nat) : Int) := by omega
            have E1 := E1 (by omega)
            have H2 := H2 k3 k2
            have E3 := E3 (by omega)
            subst E1
            subst E3
            skip
            refine run_ok 4000 _ _ _ _ ?_
            simp (maxSteps := 10000000) only [go_sem, hge, hwe, f1, f2, f3, f4, f5, f6]
            refine run_ok 4000 _ _ _ _ ?_
            simp (maxSteps := 10000000) only [go_sem, hge, hwe, f1, f2, f3, f4, f5, f6]
            refine sem_call rfl rfl (((H2).embed [0] rfl (by repeat' first | exact trivial | rfl | (simp only [go_sem]; done) | constructor) rfl (by first | rfl | simp only [go_sem]) rfl (by simp)).mono ?_)
            rintro _ _ ⟨_, _, ⟨rfl, rfl⟩, rfl, rfl⟩
            refine run_ok 4000 _ _ _ _ ?_
            simp (maxSteps := 10000000) only [go_sem, hge, hwe, f1, f2, f3, f4, f5, f6]
            refine ⟨_, _, .sub [0] ?_ .done, rfl, rfl⟩
            simp only [EmbV, go_sem]
        · by_cases k4 : d - s < v
          · have f1 : ¬ ((a + s : Nat) : Int) < ((a + u : Nat) : Int) := by omega
            have f2 : ((a + u : Nat) : Int) < ((a + u + (d - s) : Nat) : Int) := by omega
            have f3 : ¬ ((a : Nat) : Int) < ((a + s : Nat) : Int) := by omega
            have f4 : ((a + s : Nat) : Int) < ((a + d : Nat) : Int) := by omega
            have f5 : ¬ ((a + d : Nat) : Int) < ((a + u + (d - s) : Nat) : Int) := by omega
            have f6 : ((a + u + (d - s) : Nat) : Int) < ((a + u + v : Nat) : Int) := by omega
            have E1 := E1 (by omega)
            have E2 := E2 (by omega)
            have E3 := E3 (by omega)
            subst E1
            subst E2
            subst E3
            skip
            refine run_ok 4000 _ _ _ _ ?_
            simp (maxSteps := 10000000) only [go_sem, hge, hwe, f1, f2, f3, f4, f5, f6]
            refine run_ok 4000 _ _ _ _ ?_
            simp (maxSteps := 10000000) only [go_sem, hge, hwe, f1, f2, f3, f4, f5, f6]
            refine ⟨_, _, .sub [0] ?_ .done, rfl, rfl⟩
            simp only [EmbV, go_sem]
          · have f1 : ¬ ((a + s : Nat) : Int) < ((a + u : Nat) : Int) := by omega
            have f2 : ((a + u : Nat) : Int) < ((a + u + (d - s) : Nat) : Int) := by omega
            have f3 : ¬ ((a : Nat) : Int) < ((a + s : Nat) : Int) := by omega
            have f4 : ((a + s : Nat) : Int) < ((a + d : Nat) : Int) := by omega
            have f5 : ¬ ((a + d : Nat) : Int) < ((a + u + (d - s) : Nat) : Int) := by omega
            have f6 : ¬ ((a + u + (d - s) : Nat) : Int) < ((a + u + v : Nat) : Int) := by omega
            have E1 := E1 (by omega)
            have E2 := E2 (by omega)
            have E3 := E3 (by omega)
            subst E1
            subst E2
            subst E3
            skip
            refine run_ok 4000 _ _ _ _ ?_
            simp (maxSteps := 10000000) only [go_sem, hge, hwe, f1, f2, f3, f4, f5, f6]
            refine run_ok 4000 _ _ _ _ ?_
            simp (maxSteps := 10000000) only [go_sem, hge, hwe, f1, f2, f3, f4, f5, f6]
            refine ⟨_, _, .sub [0] ?_ .done, rfl, rfl⟩
            simp only [EmbV, go_sem]
      · by_cases k3 : 0 < s
        · by_cases k4 : d - s < v
          · have f1 : ¬ ((a + s : Nat) : Int) < ((a + u : Nat) : Int) := by omega
            have f2 : ¬ ((a + u : Nat) : Int) < ((a + u + (d - s) : Nat) : Int) := by omega
            have f3 : ((a : Nat) : Int) < ((a + s : Nat) : Int) := by omega
            have f4 : ¬ ((a + s : Nat) : Int) < ((a + d : Nat) : Int) := by omega
            have f5 : ¬ ((a + d : Nat) : Int) < ((a + u + (d - s) : Nat) : Int) := by omega
            have f6 : ((a + u + (d - s) : Nat) : Int) < ((a + u + v : Nat) : Int) := by omega
            have E1 := E1 (by omega)
            have E2 := E2 (by omega)
            have E3 := E3 (by omega)
            subst E1
            subst E2
            subst E3
            skip
            refine run_ok 4000 _ _ _ _ ?_
            simp (maxSteps := 10000000) only [go_sem, hge, hwe, f1, f2, f3, f4, f5, f6]
            refine run_ok 4000 _ _ _ _ ?_
            simp (maxSteps := 10000000) only [go_sem, hge, hwe, f1, f2, f3, f4, f5, f6]
            refine ⟨_, _, .sub [0] ?_ .done, rfl, rfl⟩
            simp only [EmbV, go_sem]
          · have f1 : ¬ ((a + s : Nat) : Int) < ((a + u : Nat) : Int) := by omega
            have f2 : ¬ ((a + u : Nat) : Int) < ((a + u + (d - s) : Nat) : Int) := by omega
            have f3 : ((a : Nat) : Int) < ((a + s : Nat) : Int) := by omega
            have f4 : ¬ ((a + s : Nat) : Int) < ((a + d : Nat) : Int) := by omega
            have f5 : ¬ ((a + d : Nat) : Int) < ((a + u + (d - s) : Nat) : Int) := by omega
            have f6 : ¬ ((a + u + (d - s) : Nat) : Int) < ((a + u + v : Nat) : Int) := by omega
            have E1 := E1 (by omega)
            have E2 := E2 (by omega)
            have E3 := E3 (by omega)
            subst E1
            subst E2
            subst E3
            skip
            refine run_ok 4000 _ _ _ _ ?_
            simp (maxSteps := 10000000) only [go_sem, hge, hwe, f1, f2, f3, f4, f5, f6]
            refine run_ok 4000 _ _ _ _ ?_
            simp (maxSteps := 10000000) only [go_sem, hge, hwe, f1, f2, f3, f4, f5, f6]
            refine ⟨_, _, .sub [0] ?_ .done, rfl, rfl⟩
            simp only [EmbV, go_sem]
        · by_cases k4 : d - s < v
          · have f1 : ¬ ((a + s : Nat) : Int) < ((a + u : Nat) : Int) := by omega
            have f2 : ¬ ((a + u : Nat) : Int) < ((a + u + (d - s) : Nat) : Int) := by omega
            have f3 : ¬ ((a : Nat) : Int) < ((a + s : Nat) : Int) := by omega
            have f4 : ¬ ((a + s : Nat) : Int) < ((a + d : Nat) : Int) := by omega
            have f5 : ¬ ((a + d : Nat) : Int) < ((a + u + (d - s) : Nat) : Int) := by omega
            have f6 : ((a + u + (d - s) : Nat) : Int) < ((a + u + v : Nat) : Int) := by omega
            have E1 := E1 (by omega)
            have E2 := E2 (by omega)
            have E3 := E3 (by omega)
            subst E1
            subst E2
            subst E3
            skip
            refine run_ok 4000 _ _ _ _ ?_
            simp (maxSteps := 10000000) only [go_sem, hge, hwe, f1, f2, f3, f4, f5, f6]
            refine run_ok 4000 _ _ _ _ ?_
            simp (maxSteps := 10000000) only [go_sem, hge, hwe, f1, f2, f3, f4, f5, f6]
            refine ⟨_, _, .sub [0] ?_ .done, rfl, rfl⟩
            simp only [EmbV, go_sem]
          · have f1 : ¬ ((a + s : Nat) : Int) < ((a + u : Nat) : Int) := by omega
            have f2 : ¬ ((a + u : Nat) : Int) < ((a + u + (d - s) : Nat) : Int) := by omega
            have f3 : ¬ ((a : Nat) : Int) < ((a + s : Nat) : Int) := by omega
            have f4 : ¬ ((a + s : Nat) : Int) < ((a + d : Nat) : Int) := by omega
            have f5 : ¬ ((a + d : Nat) : Int) < ((a + u + (d - s) : Nat) : Int) := by omega
            have f6 : ¬ ((a + u + (d - s) : Nat) : Int) < ((a + u + v : Nat) : Int) := by omega
            have E1 := E1 (by omega)
            have E2 := E2 (by omega)
            have E3 := E3 (by omega)
            subst E1
            subst E2
            subst E3
            skip
            refine run_ok 4000 _ _ _ _ ?_
            simp (maxSteps := 10000000) only [go_sem, hge, hwe, f1, f2, f3, f4, f5, f6]
            refine run_ok 4000 _ _ _ _ ?_
            simp (maxSteps := 10000000) only [go_sem, hge, hwe, f1, f2, f3, f4, f5, f6]
            refine ⟨_, _, .sub [0] ?_ .done, rfl, rfl⟩
            simp only [EmbV, go_sem]
  · have cmi : ¬ ((a + u : Nat) : Int) > ((a + d : Nat) : Int) := by omega
    clear hws
    skip
    refine (Tri.enter (rl := r37) (code := c37) (by kernel_rfl) Try.func37 rfl c37_ok (by kernel_rfl) (by kernel_rfl) ?_)
    refine run_ok 4000 _ _ _ _ ?_
    simp (maxSteps := 10000000) only [go_sem, c37, r37, c0, c1, hm, hhf, hwn, hwp, cmi]
    refine sem_rounds (fun q : Nat × Nat => 0 ≤ q.1 ∧ q.1 ≤ q.2 ∧ q.2 ≤ u ∧ (0 < q.1 → kA U (q.1 - 1) ≤ kA V (d - q.1)) ∧ (q.2 < u → kA V (d - 1 - q.2) < kA U q.2))
      (fun q => [(0, .sl 0 0 N N false), (1, .int .i64 (a : Nat)), (2, .int .i64 (a + u : Nat)), (3, .int .i64 (a + u + v : Nat)), (4, (AV.fn 23 [] [])), (18, .int .i64 (a + d : Nat)), (19, .int .i64 (a + d + (a + u) : Nat)), (20, .int .i64 (a + q.1 : Nat)), (21, .int .i64 (a + q.2 : Nat)), (22, .int .i64 (a + d + (a + u) - 1 : Nat))])
      (fun q => [.row 4 (terows Z)]) (fun q => q.2 - q.1) (0, u) [0] ⟨Nat.le_refl _, by simp only; omega, Nat.le_refl _, by simp only; omega, by simp only; omega⟩ ?_ ?_
    · simp only [Emb, go_sem, Nat.add_zero]
    rintro ⟨s, r⟩ ⟨g1, g2, g3, g4, g5⟩
    simp only at g1 g2 g3 g4 g5 ⊢
    by_cases hlt : s < r
    · have hin : ((a + s : Nat) : Int) < ((a + r : Nat) : Int) := by omega
      have hm2 : iwrap .i64 (((a + s : Nat) : Int) + ((a + r : Nat) : Int)) = ((a + s + (a + r) : Nat) : Int) := by rw [iwrap_i64_in (by omega)]; omega
      have hhf2 := half_u64 (n := a + s + (a + r)) (by omega)
      rw [show (a + s + (a + r)) / 2 = a + (s + r) / 2 by omega] at hhf2
      have hlt2 : (s + r) / 2 < r := by omega
      have hlp : s ≤ (s + r) / 2 := by omega
      generalize (s + r) / 2 = h at *
      obtain ⟨gu, eu⟩ := huj h (by omega)
      obtain ⟨gv, ev⟩ := hvj (d - 1 - h) (by omega)
      have hwq : iwrap .i64 (((a + d + (a + u) - 1 : Nat) : Int) - ((a + h : Nat) : Int)) = ((a + u + (d - 1 - h) : Nat) : Int) := by rw [iwrap_i64_in (by omega)]; omega
      have hcm := due1_spec Z[a + u + (d - 1 - h)] Z[a + h]
      have hcl := cmpI_lt Z[a + u + (d - 1 - h)].due Z[a + h].due
      have q0 := te_r0 gu; have q1 := te_r1 gu; have q2 := te_r2 gu; have q3 := te_r3 gu
      have p0 := te_r0 gv; have p1 := te_r1 gv; have p2 := te_r2 gv; have p3 := te_r3 gv
      have d1 : ((a + h : Nat) : Int) < (N : Int) := by omega
      have d2 : ((a + u + (d - 1 - h) : Nat) : Int) < (N : Int) := by omega
      by_cases c : kA V (d - 1 - h) < kA U h
      · have c3' : cmpI Z[a + u + (d - 1 - h)].due Z[a + h].due < 0 := by rw [hcl, eu, ev]; exact c
        generalize Z[a + u + (d - 1 - h)] = x at *
        generalize Z[a + h] = y at *
        skip
        refine run_ok 4000 _ _ _ _ ?_
        simp (maxSteps := 10000000) only [go_sem, hin, hm2, hhf2, hwq, d1, d2, te_h0 gu, te_h1 gu, te_h2 gu, te_h3 gu, te_h0 gv, te_h1 gv, te_h2 gv, te_h3 gv, q0, q1, q2, q3, p0, p1, p2, p3, c3', te_len, Int.natCast_nonneg]
        refine sem_drawG l37_4_ok (by kernel_rfl) ?_
        intro KK hKK
        simp (maxSteps := 10000000) only [go_sem, l37_4, hin, hm2, hhf2, hwq, d1, d2, te_h0 gu, te_h1 gu, te_h2 gu, te_h3 gu, te_h0 gv, te_h1 gv, te_h2 gv, te_h3 gv, q0, q1, q2, q3, p0, p1, p2, p3, c3', te_len, Int.natCast_nonneg]
        subst hKK
        simp (maxSteps := 10000000) only [go_sem, hin, hm2, hhf2, hwq, d1, d2, te_h0 gu, te_h1 gu, te_h2 gu, te_h3 gu, te_h0 gv, te_h1 gv, te_h2 gv, te_h3 gv, q0, q1, q2, q3, p0, p1, p2, p3, c3', te_len, Int.natCast_nonneg]
        refine TriZ.of (((hcm).embed [] rfl (by repeat' first | exact trivial | rfl | (simp only [go_sem]; done) | constructor) rfl (by first | rfl | simp only [go_sem]) rfl (by simp)).mono ?_)
        rintro _ _ ⟨_, _, ⟨rfl, rfl⟩, rfl, rfl⟩
        simp (maxSteps := 10000000) only [go_sem, hin, hm2, hhf2, hwq, d1, d2, te_h0 gu, te_h1 gu, te_h2 gu, te_h3 gu, te_h0 gv, te_h1 gv, te_h2 gv, te_h3 gv, q0, q1, q2, q3, p0, p1, p2, p3, c3', te_len, Int.natCast_nonneg]
        refine ⟨(s, h), by simp only; omega, ⟨g1, by simp only; omega, by simp only; omega, g4, fun _ => c⟩, [0], ?_⟩
        simp only [Emb, go_sem]
      · have c3' : ¬ cmpI Z[a + u + (d - 1 - h)].due Z[a + h].due < 0 := by rw [hcl, eu, ev]; exact c
        generalize Z[a + u + (d - 1 - h)] = x at *
        generalize Z[a + h] = y at *
        skip
        refine run_ok 4000 _ _ _ _ ?_
        simp (maxSteps := 10000000) only [go_sem, hin, hm2, hhf2, hwq, d1, d2, te_h0 gu, te_h1 gu, te_h2 gu, te_h3 gu, te_h0 gv, te_h1 gv, te_h2 gv, te_h3 gv, q0, q1, q2, q3, p0, p1, p2, p3, c3', te_len, Int.natCast_nonneg, inc64 (show a + h < 1000000000000 by omega)]
        refine sem_drawG l37_4_ok (by kernel_rfl) ?_
        intro KK hKK
        simp (maxSteps := 10000000) only [go_sem, l37_4, hin, hm2, hhf2, hwq, d1, d2, te_h0 gu, te_h1 gu, te_h2 gu, te_h3 gu, te_h0 gv, te_h1 gv, te_h2 gv, te_h3 gv, q0, q1, q2, q3, p0, p1, p2, p3, c3', te_len, Int.natCast_nonneg, inc64 (show a + h < 1000000000000 by omega)]
        subst hKK
        simp (maxSteps := 10000000) only [go_sem, hin, hm2, hhf2, hwq, d1, d2, te_h0 gu, te_h1 gu, te_h2 gu, te_h3 gu, te_h0 gv, te_h1 gv, te_h2 gv, te_h3 gv, q0, q1, q2, q3, p0, p1, p2, p3, c3', te_len, Int.natCast_nonneg, inc64 (show a + h < 1000000000000 by omega)]
        refine TriZ.of (((hcm).embed [] rfl (by repeat' first | exact trivial | rfl | (simp only [go_sem]; done) | constructor) rfl (by first | rfl | simp only [go_sem]) rfl (by simp)).mono ?_)
        rintro _ _ ⟨_, _, ⟨rfl, rfl⟩, rfl, rfl⟩
        simp (maxSteps := 10000000) only [go_sem, hin, hm2, hhf2, hwq, d1, d2, te_h0 gu, te_h1 gu, te_h2 gu, te_h3 gu, te_h0 gv, te_h1 gv, te_h2 gv, te_h3 gv, q0, q1, q2, q3, p0, p1, p2, p3, c3', te_len, Int.natCast_nonneg, inc64 (show a + h < 1000000000000 by omega)]
        refine ⟨(h + 1, r), by simp only; omega, ⟨by simp only; omega, by simp only; omega, g3, fun _ => by simp only [Nat.add_sub_cancel]; rw [show d - (h + 1) = d - 1 - h by omega]; omega, g5⟩, [0], ?_⟩
        simp only [Emb, go_sem, Nat.add_assoc]
    have hre : s = r := by omega
    subst hre
    have hge : ¬ ((a + s : Nat) : Int) < ((a + s : Nat) : Int) := by omega
    obtain ⟨Z1, Z2, H1, E1, H2, E2, H3, E3⟩ := hfin s (by omega) (by omega) (by omega) (fun h0 h1 => g4 (by omega)) (fun h0 h1 => by rw [show d - s - 1 = d - 1 - s by omega]; exact g5 (by omega))
    clear hfin huj hvj
    have hwe : iwrap .i64 (((a + d + (a + u) : Nat) : Int) - ((a + s : Nat) : Int)) = ((a + u + (d - s) : Nat) : Int) := by rw [iwrap_i64_in (by omega)]; omega
    have hsd : s ≤ d := by omega
    by_cases k1 : s < u
    · by_cases k2 : 0 < d - s
      · by_cases k3 : 0 < s
        · by_cases k4 : d - s < v
          · have f1 : ((a + s : Nat) : Int) < ((a + u : Nat) : Int) := by omega
            have f2 : ((a + u : Nat) : Int) < ((a + u + (d - s) : Nat) : Int) := by omega
            have f3 : ((a : Nat) : Int) < ((a + s : Nat) : Int) := by omega
            have f4 : ((a + s : Nat) : Int) < ((a + d : Nat) : Int) := by omega
            have f5 : ((a + d : Nat) : Int) < ((a + u + (d - s) : Nat) : Int) := by omega
            have f6 : ((a + u + (d - s) : Nat) : Int) < ((a + u + v : Nat) : Int) := by omega
            have H1 := H1 k1 k2
            have H2 := H2 k3 k2
            have H3 := H3 k1 k4
            skip
            refine run_ok 4000 _ _ _ _ ?_
            simp (maxSteps := 10000000) only [go_sem, hge, hwe, f1, f2, f3, f4, f5, f6]
            refine run_ok 4000 _ _ _ _ ?_
            simp (maxSteps := 10000000) only [go_sem, hge, hwe, f1, f2, f3, f4, f5, f6]
            refine sem_call rfl rfl (((H1).embed [0] rfl (by repeat' first | exact trivial | rfl | (simp only [go_sem]; done) | constructor) rfl (by first | rfl | simp only [go_sem]) rfl (by simp)).mono ?_)
            rintro _ _ ⟨_, _, ⟨rfl, rfl⟩, rfl, rfl⟩
            refine run_ok 4000 _ _ _ _ ?_
            simp (maxSteps := 10000000) only [go_sem, hge, hwe, f1, f2, f3, f4, f5, f6]
            refine sem_call rfl rfl (((H2).embed [0] rfl (by repeat' first | exact trivial | rfl | (simp only [go_sem]; done) | constructor) rfl (by first | rfl | simp only [go_sem]) rfl (by simp)).mono ?_)
            rintro _ _ ⟨_, _, ⟨rfl, rfl⟩, rfl, rfl⟩
            refine run_ok 4000 _ _ _ _ ?_
            simp (maxSteps := 10000000) only [go_sem, hge, hwe, f1, f2, f3, f4, f5, f6]
            refine sem_call rfl rfl (((H3).embed [0] rfl (by repeat' first | exact trivial | rfl | (simp only [go_sem]; done) | constructor) rfl (by first | rfl | simp only [go_sem]) rfl (by simp)).mono ?_)
            rintro _ _ ⟨_, _, ⟨rfl, rfl⟩, rfl, rfl⟩
            refine run_ok 4000 _ _ _ _ ?_
            simp (maxSteps := 10000000) only [go_sem, hge, hwe, f1, f2, f3, f4, f5, f6]
            refine ⟨_, _, .sub [0] ?_ .done, rfl, rfl⟩
            simp only [EmbV, go_sem]
          · have f1 : ((a + s : Nat) : Int) < ((a + u : Nat) : Int) := by omega
            have f2 : ((a + u : Nat) : Int) < ((a + u + (d - s) : Nat) : Int) := by omega
            have f3 : ((a : Nat) : Int) < ((a + s : Nat) : Int) := by omega
            have f4 : ((a + s : Nat) : Int) < ((a + d : Nat) : Int) := by omega
            have f5 : ((a + d : Nat) : Int) < ((a + u + (d - s) : Nat) : Int) := by omega
            have f6 : ¬ ((a + u + (d - s) : Nat) : Int) < ((a + u + v : Nat) : Int) := by omega
            have H1 := H1 k1 k2
            have H2 := H2 k3 k2
            have E3 := E3 (by omega)
            subst E3
            skip
            refine run_ok 4000 _ _ _ _ ?_
            simp (maxSteps := 10000000) only [go_sem, hge, hwe, f1, f2, f3, f4, f5, f6]
            refine run_ok 4000 _ _ _ _ ?_
            simp (maxSteps := 10000000) only [go_sem, hge, hwe, f1, f2, f3, f4, f5, f6]
            refine sem_call rfl rfl (((H1).embed [0] rfl (by repeat' first | exact trivial | rfl | (simp only [go_sem]; done) | constructor) rfl (by first | rfl | simp only [go_sem]) rfl (by simp)).mono ?_)
            rintro _ _ ⟨_, _, ⟨rfl, rfl⟩, rfl, rfl⟩
            refine run_ok 4000 _ _ _ _ ?_
            simp (maxSteps := 10000000) only [go_sem, hge, hwe, f1, f2, f3, f4, f5, f6]
            refine sem_call rfl rfl (((H2).embed [0] rfl (by repeat' first | exact trivial | rfl | (simp only [go_sem]; done) | constructor) rfl (by first | rfl | simp only [go_sem]) rfl (by simp)).mono ?_)
            rintro _ _ ⟨_, _, ⟨rfl, rfl⟩, rfl, rfl⟩
            refine run_ok 4000 _ _ _ _ ?_
            simp (maxSteps := 10000000) only [go_sem, hge, hwe, f1, f2, f3, f4, f5, f6]
            refine ⟨_, _, .sub [0] ?_ .done, rfl, rfl⟩
            simp only [EmbV, go_sem]
        · by_cases k4 : d - s < v
          · have f1 : ((a + s : Nat) : Int) < ((a + u : Nat) : Int) := by omega
            have f2 : ((a + u : Nat) : Int) < ((a + u + (d - s) : Nat) : Int) := by omega
            have f3 : ¬ ((a : Nat) : Int) < ((a + s : Nat) : Int) := by omega
            have f4 : ((a + s : Nat) : Int) < ((a + d : Nat) : Int) := by omega
            have f5 : ((a + d : Nat) : Int) < ((a + u + (d - s) : Nat) : Int) := by omega
            have f6 : ((a + u + (d - s) : Nat) : Int) < ((a + u + v : Nat) : Int) := by omega
            have H1 := H1 k1 k2
            have E2 := E2 (by omega)
            have H3 := H3 k1 k4
            subst E2
            skip
            refine run_ok 4000 _ _ _ _ ?_
            simp (maxSteps := 10000000) only [go_sem, hge, hwe, f1, f2, f3, f4, f5, f6]
            refine run_ok 4000 _ _ _ _ ?_
            simp (maxSteps := 10000000) only [go_sem, hge, hwe, f1, f2, f3, f4, f5, f6]
            refine sem_call rfl rfl (((H1).embed [0] rfl (by repeat' first | exact trivial | rfl | (simp only [go_sem]; done) | constructor) rfl (by first | rfl | simp only [go_sem]) rfl (by simp)).mono ?_)
            rintro _ _ ⟨_, _, ⟨rfl, rfl⟩, rfl, rfl⟩
            refine run_ok 4000 _ _ _ _ ?_
            simp (maxSteps := 10000000) only [go_sem, hge, hwe, f1, f2, f3, f4, f5, f6]
            refine sem_call rfl rfl (((H3).embed [0] rfl (by repeat' first | exact trivial | rfl | (simp only [go_sem]; done) | constructor) rfl (by first | rfl | simp only [go_sem]) rfl (by simp)).mono ?_)
            rintro _ _ ⟨_, _, ⟨rfl, rfl⟩, rfl, rfl⟩
            refine run_ok 4000 _ _ _ _ ?_
            simp (maxSteps := 10000000) only [go_sem, hge, hwe, f1, f2, f3, f4, f5, f6]
            refine ⟨_, _, .sub [0] ?_ .done, rfl, rfl⟩
            simp only [EmbV, go_sem]
          · have f1 : ((a + s : Nat) : Int) < ((a + u : Nat) : Int) := by omega
            have f2 : ((a + u : Nat) : Int) < ((a + u + (d - s) : Nat) : Int) := by omega
            have f3 : ¬ ((a : Nat) : Int) < ((a + s : Nat) : Int) := by omega
            have f4 : ((a + s : Nat) : Int) < ((a + d : Nat) : Int) := by omega
            have f5 : ((a + d : Nat) : Int) < ((a + u + (d - s) : Nat) : Int) := by omega
            have f6 : ¬ ((a + u + (d - s) : Nat) : Int) < ((a + u + v : Nat) : Int) := by omega
            have H1 := H1 k1 k2
            have E2 := E2 (by omega)
            have E3 := E3 (by omega)
            subst E2
            subst E3
            skip
            refine run_ok 4000 _ _ _ _ ?_
            simp (maxSteps := 10000000) only [go_sem, hge, hwe, f1, f2, f3, f4, f5, f6]
            refine run_ok 4000 _ _ _ _ ?_
            simp (maxSteps := 10000000) only [go_sem, hge, hwe, f1, f2, f3, f4, f5, f6]
            refine sem_call rfl rfl (((H1).embed [0] rfl (by repeat' first | exact trivial | rfl | (simp only [go_sem]; done) | constructor) rfl (by first | rfl | simp only [go_sem]) rfl (by simp)).mono ?_)
            rintro _ _ ⟨_, _, ⟨rfl, rfl⟩, rfl, rfl⟩
            refine run_ok 4000 _ _ _ _ ?_
            simp (maxSteps := 10000000) only [go_sem, hge, hwe, f1, f2, f3, f4, f5, f6]
            refine ⟨_, _, .sub [0] ?_ .done, rfl, rfl⟩
            simp only [EmbV, go_sem]
      · by_cases k3 : 0 < s
        · by_cases k4 : d - s < v
          · have f1 : ((a + s : Nat) : Int) < ((a + u : Nat) : Int) := by omega
            have f2 : ¬ ((a + u : Nat) : Int) < ((a + u + (d - s) : Nat) : Int) := by omega
            have f3 : ((a : Nat) : Int) < ((a + s : Nat) : Int) := by omega
            have f4 : ¬ ((a + s : Nat) : Int) < ((a + d : Nat) : Int) := by omega
            have f5 : ((a + d : Nat) : Int) < ((a + u + (d - s) : Nat) : Int) := by omega
            have f6 : ((a + u + (d - s) : Nat) : Int) < ((a + u + v : Nat) : Int) := by omega
            have E1 := E1 (by omega)
            have E2 := E2 (by omega)
            have H3 := H3 k1 k4
            subst E1
            subst E2
            skip
            refine run_ok 4000 _ _ _ _ ?_
            simp (maxSteps := 10000000) only [go_sem, hge, hwe, f1, f2, f3, f4, f5, f6]
            refine run_ok 4000 _ _ _ _ ?_
            simp (maxSteps := 10000000) only [go_sem, hge, hwe, f1, f2, f3, f4, f5, f6]
            refine sem_call rfl rfl (((H3).embed [0] rfl (by repeat' first | exact trivial | rfl | (simp only [go_sem]; done) | constructor) rfl (by first | rfl | simp only [go_sem]) rfl (by simp)).mono ?_)
            rintro _ _ ⟨_, _, ⟨rfl, rfl⟩, rfl, rfl⟩
            refine run_ok 4000 _ _ _ _ ?_
            simp (maxSteps := 10000000) only [go_sem, hge, hwe, f1, f2, f3, f4, f5, f6]
            refine ⟨_, _, .sub [0] ?_ .done, rfl, rfl⟩
            simp only [EmbV, go_sem]
          · have f1 : ((a + s : Nat) : Int) < ((a + u : Nat) : Int) := by omega
            have f2 : ¬ ((a + u : Nat) : Int) < ((a + u + (d - s) : Nat) : Int) := by omega
            have f3 : ((a : Nat) : Int) < ((a + s : Nat) : Int) := by omega
            have f4 : ¬ ((a + s : Nat) : Int) < ((a + d : Nat) : Int) := by omega
            have f5 : ((a + d : Nat) : Int) < ((a + u + (d - s) : Nat) : Int) := by omega
            have f6 : ¬ ((a + u + (d - s) : Nat) : Int) < ((a + u + v : Nat) : Int) := by omega
            have E1 := E1 (by omega)
            have E2 := E2 (by omega)
            have E3 := E3 (by omega)
            subst E1
            subst E2
            subst E3
            skip
            refine run_ok 4000 _ _ _ _ ?_
            simp (maxSteps := 10000000) only [go_sem, hge, hwe, f1, f2, f3, f4, f5, f6]
            refine run_ok 4000 _ _ _ _ ?_
            simp (maxSteps := 10000000) only [go_sem, hge, hwe, f1, f2, f3, f4, f5, f6]
            refine ⟨_, _, .sub [0] ?_ .done, rfl, rfl⟩
            simp only [EmbV, go_sem]
        · by_cases k4 : d - s < v
          · have f1 : ((a + s : Nat) : Int) < ((a + u : Nat) : Int) := by omega
            have f2 : ¬ ((a + u : Nat) : Int) < ((a + u + (d - s) : Nat) : Int) := by omega
            have f3 : ¬ ((a : Nat) : Int) < ((a + s : Nat) : Int) := by omega
            have f4 : ¬ ((a + s : Nat) : Int) < ((a + d : Nat) : Int) := by omega
            have f5 : ((a + d : Nat) : Int) < ((a + u + (d - s) : Nat) : Int) := by omega
            have f6 : ((a + u + (d - s) : Nat) : Int) < ((a + u + v : Nat) : Int) := by omega
            have E1 := E1 (by omega)
            have E2 := E2 (by omega)
            have H3 := H3 k1 k4
            subst E1
            subst E2
            skip
            refine run_ok 4000 _ _ _ _ ?_
            simp (maxSteps := 10000000) only [go_sem, hge, hwe, f1, f2, f3, f4, f5, f6]
            refine run_ok 4000 _ _ _ _ ?_
            simp (maxSteps := 10000000) only [go_sem, hge, hwe, f1, f2, f3, f4, f5, f6]
            refine sem_call rfl rfl (((H3).embed [0] rfl (by repeat' first | exact trivial | rfl | (simp only [go_sem]; done) | constructor) rfl (by first | rfl | simp only [go_sem]) rfl (by simp)).mono ?_)
            rintro _ _ ⟨_, _, ⟨rfl, rfl⟩, rfl, rfl⟩
            refine run_ok 4000 _ _ _ _ ?_
            simp (maxSteps := 10000000) only [go_sem, hge, hwe, f1, f2, f3, f4, f5, f6]
            refine ⟨_, _, .sub [0] ?_ .done, rfl, rfl⟩
            simp only [EmbV, go_sem]
          · have f1 : ((a + s : Nat) : Int) < ((a + u : Nat) : Int) := by omega
            have f2 : ¬ ((a + u : Nat) : Int) < ((a + u + (d - s) : Nat) : Int) := by omega
            have f3 : ¬ ((a : Nat) : Int) < ((a + s : Nat) : Int) := by omega
            have f4 : ¬ ((a + s : Nat) : Int) < ((a + d : Nat) : Int) := by omega
            have f5 : ((a + d : Nat) : Int) < ((a + u + (d - s) : Nat) : Int) := by omega
            have f6 : ¬ ((a + u + (d - s) : Nat) : Int) < ((a + u + v : Nat) : Int) := by omega
            have E1 := E1 (by omega)
            have E2 := E2 (by omega)
            have E3 := E3 (by omega)
            subst E1
            subst E2
            subst E3
            skip
            refine run_ok 4000 _ _ _ _ ?_
            simp (maxSteps := 10000000) only [go_sem, hge, hwe, f1, f2, f3, f4, f5, f6]
            refine run_ok 4000 _ _ _ _ ?_
            simp (maxSteps := 10000000) only [go_sem, hge, hwe, f1, f2, f3, f4, f5, f6]
            refine ⟨_, _, .sub [0] ?_ .done, rfl, rfl⟩
            simp only [EmbV, go_sem]
    · by_cases k2 : 0 < d - s
      · by_cases k3 : 0 < s
        · by_cases k4 : d - s < v
          · have f1 : ¬ ((a + s : Nat) : Int) < ((a + u : Nat) : Int) := by omega
            have f2 : ((a + u : Nat) : Int) < ((a + u + (d - s) : Nat) : Int) := by omega
            have f3 : ((a : Nat) : Int) < ((a + s : Nat) : Int) := by omega
            have f4 : ((a + s : Nat) : Int) < ((a + d : Nat) : Int) := by omega
            have f5 : ¬ ((a + d : Nat) : Int) < ((a + u + (d - s) : Nat) : Int) := by omega
            have f6 : ((a + u + (d - s) : Nat) : Int) < ((a + u + v : Nat) : Int) := by omega
            have E1 := E1 (by omega)
            have H2 := H2 k3 k2
            have E3 := E3 (by omega)
            subst E1
            subst E3
            skip
            refine run_ok 4000 _ _ _ _ ?_
            simp (maxSteps := 10000000) only [go_sem, hge, hwe, f1, f2, f3, f4, f5, f6]
            refine run_ok 4000 _ _ _ _ ?_
            simp (maxSteps := 10000000) only [go_sem, hge, hwe, f1, f2, f3, f4, f5, f6]
            refine sem_call rfl rfl (((H2).embed [0] rfl (by repeat' first | exact trivial | rfl | (simp only [go_sem]; done) | constructor) rfl (by first | rfl | simp only [go_sem]) rfl (by simp)).mono ?_)
            rintro _ _ ⟨_, _, ⟨rfl, rfl⟩, rfl, rfl⟩
            refine run_ok 4000 _ _ _ _ ?_
            simp (maxSteps := 10000000) only [go_sem, hge, hwe, f1, f2, f3, f4, f5, f6]
            refine ⟨_, _, .sub [0] ?_ .done, rfl, rfl⟩
            simp only [EmbV, go_sem]
          · have f1 : ¬ ((a + s : Nat) : Int) < ((a + u : Nat) : Int) := by omega
            have f2 : ((a + u : Nat) : Int) < ((a + u + (d - s) : Nat) : Int) := by omega
            have f3 : ((a : Nat) : Int) < ((a + s : Nat) : Int) := by omega
            have f4 : ((a + s : Nat) : Int) < ((a + d : Nat) : Int) := by omega
            have f5 : ¬ ((a + d : Nat) : Int) < ((a + u + (d - s) : Nat) : Int) := by omega
            have f6 : ¬ ((a + u + (d - s) : Nat) : Int) < ((a + u + v : Nat) : Int) := by omega
            have E1 := E1 (by omega)
            have H2 := H2 k3 k2
            have E3 := E3 (by omega)
            subst E1
            subst E3
            skip
            refine run_ok 4000 _ _ _ _ ?_
            simp (maxSteps := 10000000) only [go_sem, hge, hwe, f1, f2, f3, f4, f5, f6]
            refine run_ok 4000 _ _ _ _ ?_
            simp (maxSteps := 10000000) only [go_sem, hge, hwe, f1, f2, f3, f4, f5, f6]
            refine sem_call rfl rfl (((H2).embed [0] rfl (by repeat' first | exact trivial | rfl | (simp only [go_sem]; done) | constructor) rfl (by first | rfl | simp only [go_sem]) rfl (by simp)).mono ?_)
            rintro _ _ ⟨_, _, ⟨rfl, rfl⟩, rfl, rfl⟩
            refine run_ok 4000 _ _ _ _ ?_
            simp (maxSteps := 10000000) only [go_sem, hge, hwe, f1, f2, f3, f4, f5, f6]
            refine ⟨_, _, .sub [0] ?_ .done, rfl, rfl⟩
            simp only [EmbV, go_sem]
        · by_cases k4 : d - s < v
          · have f1 : ¬ ((a + s : Nat) : Int) < ((a + u : Nat) : Int) := by omega
            have f2 : ((a + u : Nat) : Int) < ((a + u + (d - s) : Nat) : Int) := by omega
            have f3 : ¬ ((a : Nat) : Int) < ((a + s : Nat) : Int) := by omega
            have f4 : ((a + s : Nat) : Int) < ((a + d : Nat) : Int) := by omega
            have f5 : ¬ ((a + d : Nat) : Int) < ((a + u + (d - s) : Nat) : Int) := by omega
            have f6 : ((a + u + (d - s) : Nat) : Int) < ((a + u + v : Nat) : Int) := by omega
            have E1 := E1 (by omega)
            have E2 := E2 (by omega)
            have E3 := E3 (by omega)
            subst E1
            subst E2
            subst E3
            skip
            refine run_ok 4000 _ _ _ _ ?_
            simp (maxSteps := 10000000) only [go_sem, hge, hwe, f1, f2, f3, f4, f5, f6]
            refine run_ok 4000 _ _ _ _ ?_
            simp (maxSteps := 10000000) only [go_sem, hge, hwe, f1, f2, f3, f4, f5, f6]
            refine ⟨_, _, .sub [0] ?_ .done, rfl, rfl⟩
            simp only [EmbV, go_sem]
          · have f1 : ¬ ((a + s : Nat) : Int) < ((a + u : Nat) : Int) := by omega
            have f2 : ((a + u : Nat) : Int) < ((a + u + (d - s) : Nat) : Int) := by omega
            have f3 : ¬ ((a : Nat) : Int) < ((a + s : Nat) : Int) := by omega
            have f4 : ((a + s : Nat) : Int) < ((a + d : Nat) : Int) := by omega
            have f5 : ¬ ((a + d : Nat) : Int) < ((a + u + (d - s) : Nat) : Int) := by omega
            have f6 : ¬ ((a + u + (d - s) : Nat) : Int) < ((a + u + v : Nat) : Int) := by omega
            have E1 := E1 (by omega)
            have E2 := E2 (by omega)
            have E3 := E3 (by omega)
            subst E1
            subst E2
            subst E3
            skip
            refine run_ok 4000 _ _ _ _ ?_
            simp (maxSteps := 10000000) only [go_sem, hge, hwe, f1, f2, f3, f4, f5, f6]
            refine run_ok 4000 _ _ _ _ ?_
            simp (maxSteps := 10000000) only [go_sem, hge, hwe, f1, f2, f3, f4, f5, f6]
            refine ⟨_, _, .sub [0] ?_ .done, rfl, rfl⟩
            simp only [EmbV, go_sem]
      · by_cases k3 : 0 < s
        · by_cases k4 : d - s < v
          · have f1 : ¬ ((a + s : Nat) : Int) < ((a + u : Nat) : Int) := by omega
            have f2 : ¬ ((a + u : Nat) : Int) < ((a + u + (d - s) : Nat) : Int) := by omega
            have f3 : ((a : Nat) : Int) < ((a + s : Nat) : Int) := by omega
            have f4 : ¬ ((a + s : Nat) : Int) < ((a + d : Nat) : Int) := by omega
            have f5 : ¬ ((a + d : Nat) : Int) < ((a + u + (d - s) : Nat) : Int) := by omega
            have f6 : ((a + u + (d - s) : Nat) : Int) < ((a + u + v : Nat) : Int) := by omega
            have E1 := E1 (by omega)
            have E2 := E2 (by omega)
            have E3 := E3 (by omega)
            subst E1
            subst E2
            subst E3
            skip
            refine run_ok 4000 _ _ _ _ ?_
            simp (maxSteps := 10000000) only [go_sem, hge, hwe, f1, f2, f3, f4, f5, f6]
            refine run_ok 4000 _ _ _ _ ?_
            simp (maxSteps := 10000000) only [go_sem, hge, hwe, f1, f2, f3, f4, f5, f6]
            refine ⟨_, _, .sub [0] ?_ .done, rfl, rfl⟩
            simp only [EmbV, go_sem]
          · have f1 : ¬ ((a + s : Nat) : Int) < ((a + u : Nat) : Int) := by omega
            have f2 : ¬ ((a + u : Nat) : Int) < ((a + u + (d - s) : Nat) : Int) := by omega
            have f3 : ((a : Nat) : Int) < ((a + s : Nat) : Int) := by omega
            have f4 : ¬ ((a + s : Nat) : Int) < ((a + d : Nat) : Int) := by omega
            have f5 : ¬ ((a + d : Nat) : Int) < ((a + u + (d - s) : Nat) : Int) := by omega
            have f6 : ¬ ((a + u + (d - s) : Nat) : Int) < ((a + u + v : Nat) : Int) := by omega
            have E1 := E1 (by omega)
            have E2 := E2 (by omega)
            have E3 := E3 (by omega)
            subst E1
            subst E2
            subst E3
            skip
            refine run_ok 4000 _ _ _ _ ?_
            simp (maxSteps := 10000000) only [go_sem, hge, hwe, f1, f2, f3, f4, f5, f6]
            refine run_ok 4000 _ _ _ _ ?_
            simp (maxSteps := 10000000) only [go_sem, hge, hwe, f1, f2, f3, f4, f5, f6]
            refine ⟨_, _, .sub [0] ?_ .done, rfl, rfl⟩
            simp only [EmbV, go_sem]
        · by_cases k4 : d - s < v
          · have f1 : ¬ ((a + s : Nat) : Int) < ((a + u : Nat) : Int) := by omega
            have f2 : ¬ ((a + u : Nat) : Int) < ((a + u + (d - s) : Nat) : Int) := by omega
            have f3 : ¬ ((a : Nat) : Int) < ((a + s : Nat) : Int) := by omega
            have f4 : ¬ ((a + s : Nat) : Int) < ((a + d : Nat) : Int) := by omega
            have f5 : ¬ ((a + d : Nat) : Int) < ((a + u + (d - s) : Nat) : Int) := by omega
            have f6 : ((a + u + (d - s) : Nat) : Int) < ((a + u + v : Nat) : Int) := by omega
            have E1 := E1 (by omega)
            have E2 := E2 (by omega)
            have E3 := E3 (by omega)
            subst E1
            subst E2
            subst E3
            skip
            refine run_ok 4000 _ _ _ _ ?_
            simp (maxSteps := 10000000) only [go_sem, hge, hwe, f1, f2, f3, f4, f5, f6]
            refine run_ok 4000 _ _ _ _ ?_
            simp (maxSteps := 10000000) only [go_sem, hge, hwe, f1, f2, f3, f4, f5, f6]
            refine ⟨_, _, .sub [0] ?_ .done, rfl, rfl⟩
            simp only [EmbV, go_sem]
          · have f1 : ¬ ((a + s : Nat) : Int) < ((a + u : Nat) : Int) := by omega
            have f2 : ¬ ((a + u : Nat) : Int) < ((a + u + (d - s) : Nat) : Int) := by omega
            have f3 : ¬ ((a : Nat) : Int) < ((a + s : Nat) : Int) := by omega
            have f4 : ¬ ((a + s : Nat) : Int) < ((a + d : Nat) : Int) := by omega
            have f5 : ¬ ((a + d : Nat) : Int) < ((a + u + (d - s) : Nat) : Int) := by omega
            have f6 : ¬ ((a + u + (d - s) : Nat) : Int) < ((a + u + v : Nat) : Int) := by omega
            have E1 := E1 (by omega)
            have E2 := E2 (by omega)
            have E3 := E3 (by omega)
            subst E1
            subst E2
            subst E3
            skip
            refine run_ok 4000 _ _ _ _ ?_
            simp (maxSteps := 10000000) only [go_sem, hge, hwe, f1, f2, f3, f4, f5, f6]
            refine run_ok 4000 _ _ _ _ ?_
            simp (maxSteps := 10000000) only [go_sem, hge, hwe, f1, f2, f3, f4, f5, f6]
            refine ⟨_, _, .sub [0] ?_ .done, rfl, rfl⟩
            simp only [EmbV, go_sem]
end Go.AEX
