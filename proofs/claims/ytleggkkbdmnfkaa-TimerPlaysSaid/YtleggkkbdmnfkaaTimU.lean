/- TimK, TimL, TimU in one. -/
import Derived.Test.YtleggkkbdmnfkaaTimD
/- Sorting by merging: what is swapped, what is turned. -/
namespace Go.AEX
open Go Go.AE Go.Proofs
set_option maxRecDepth 100000
set_option linter.unusedVariables false
set_option linter.unusedSimpArgs false

theorem swp_mid {α : Type} (P Q S : List α) (x y : α) : swp (P ++ x :: (Q ++ y :: S)) P.length (P.length + 1 + Q.length) = P ++ y :: (Q ++ x :: S) := by
  have h1 : P.length < (P ++ x :: (Q ++ y :: S)).length := by simp
  have h2 : P.length + 1 + Q.length < (P ++ x :: (Q ++ y :: S)).length := by simp; omega
  rw [swp_eq h1 h2]
  have g1 : (P ++ x :: (Q ++ y :: S))[P.length] = x := by simp
  have g2 : (P ++ x :: (Q ++ y :: S))[P.length + 1 + Q.length] = y := by
    rw [List.getElem_append_right (by omega)]
    simp only [show P.length + 1 + Q.length - P.length = Q.length + 1 by omega, List.getElem_cons_succ]
    simp
  rw [g1, g2, List.set_append_right _ _ (Nat.le_refl _)]
  simp only [Nat.sub_self, List.set_cons_zero]
  rw [List.set_append_right _ _ (by omega)]
  simp only [show P.length + 1 + Q.length - P.length = Q.length + 1 by omega, List.set_cons_succ]
  rw [List.set_append_right _ _ (Nat.le_refl _)]
  simp
theorem mid_get1 {α : Type} (P Q S : List α) (x y : α) (h : P.length < (P ++ x :: (Q ++ y :: S)).length) : (P ++ x :: (Q ++ y :: S))[P.length] = x := by simp
theorem mid_get2 {α : Type} (P Q S : List α) (x y : α) (h : P.length + 1 + Q.length < (P ++ x :: (Q ++ y :: S)).length) : (P ++ x :: (Q ++ y :: S))[P.length + 1 + Q.length] = y := by
    rw [List.getElem_append_right (by omega)]
    simp only [show P.length + 1 + Q.length - P.length = Q.length + 1 by omega, List.getElem_cons_succ]
    simp
/-- Two rows change places: what the walk's stores make. -/
theorem rput_swp {L : List TE} {p q : Nat} (hp : p < L.length) (hq : q < L.length) :
    rput (rput (terows L) p 0 [.int .u32 L[q].n, .int .i64 L[q].due, .int .i64 L[q].wait, .int .i64 L[q].times]) q 0 [.int .u32 L[p].n, .int .i64 L[p].due, .int .i64 L[p].wait, .int .i64 L[p].times] = terows (swp L p q) := by
  rw [te_rput hp, te_rput (by rw [List.length_set]; exact hq), swp_eq hp hq]
def swT (A X M Y B : List TE) (k : Nat) : List TE := A ++ (Y.take k ++ (X.drop k ++ (M ++ (X.take k ++ (Y.drop k ++ B)))))
theorem swT_len (A X M Y B : List TE) (k : Nat) (hx : k ≤ X.length) (hy : k ≤ Y.length) : (swT A X M Y B k).length = A.length + X.length + M.length + Y.length + B.length := by
  unfold swT; simp; omega
theorem swT_step (A X M Y B : List TE) {k : Nat} (hx : k < X.length) (hy : k < Y.length) (he : X.length = Y.length) :
    ∃ (h1 : A.length + k < (swT A X M Y B k).length) (h2 : A.length + X.length + M.length + k < (swT A X M Y B k).length),
      swp (swT A X M Y B k) (A.length + k) (A.length + X.length + M.length + k) = swT A X M Y B (k + 1) := by
  have e : swT A X M Y B k = (A ++ Y.take k) ++ X[k] :: ((X.drop (k + 1) ++ (M ++ X.take k)) ++ Y[k] :: (Y.drop (k + 1) ++ B)) := by
    unfold swT
    rw [List.drop_eq_getElem_cons hx, List.drop_eq_getElem_cons hy]
    simp only [List.append_assoc, List.cons_append]
  have l1 : (A ++ Y.take k).length = A.length + k := by simp; omega
  have l2 : (A ++ Y.take k).length + 1 + (X.drop (k + 1) ++ (M ++ X.take k)).length = A.length + X.length + M.length + k := by simp; omega
  have hlen := swT_len A X M Y B k (by omega) (by omega)
  refine ⟨by omega, by omega, ?_⟩
  · have := swp_mid (A ++ Y.take k) (X.drop (k + 1) ++ (M ++ X.take k)) (Y.drop (k + 1) ++ B) X[k] Y[k]
    rw [← e, l2, l1] at this
    rw [this]
    unfold swT
    rw [List.take_succ_eq_append_getElem hx, List.take_succ_eq_append_getElem hy]
    simp only [List.append_assoc, List.cons_append, List.nil_append]
set_option maxHeartbeats 4000000 in
theorem swapRange_spec (A X M Y B : List TE) (he : X.length = Y.length) (N : Nat) (hN : N = A.length + X.length + M.length + Y.length + B.length) (hN2 : N ≤ 100000) :
    Tri Try.prog 39 [.sl 0 0 N N false, .int .i64 (A.length : Nat), .int .i64 (A.length + X.length + M.length : Nat), .int .i64 (X.length : Nat), .fn 23 [] []] [.row 4 (terows (A ++ (X ++ (M ++ (Y ++ B)))))]
      (fun v m => v = .tup [] ∧ m = [.row 4 (terows (A ++ (Y ++ (M ++ (X ++ B)))))]) := by
  refine Tri.post ?_
  have h0 : A ++ (X ++ (M ++ (Y ++ B))) = swT A X M Y B 0 := by simp [swT]
  have h9 : A ++ (Y ++ (M ++ (X ++ B))) = swT A X M Y B X.length := by unfold swT; rw [show Y.take X.length = Y by rw [he]; simp, show Y.drop X.length = [] by rw [he]; simp]; simp
  rw [h0, h9]
  have hst := fun k (h1 : k < X.length) => swT_step A X M Y B h1 (by omega : k < Y.length) he
  have hln := fun k (h1 : k ≤ X.length) => swT_len A X M Y B k h1 (by omega)
  generalize hZ : swT A X M Y B = Z at *
  generalize ha : A.length = a at *
  generalize hb : a + X.length + M.length = b at *
  generalize hn : X.length = n at *
  refine (Tri.enter (rl := r39) (code := c39) (by kernel_rfl) Try.func39 rfl c39_ok (by kernel_rfl) (by kernel_rfl) ?_)
  refine run_ok 4000 _ _ _ _ ?_
  simp (maxSteps := 10000000) only [go_sem, c39, r39]
  refine sem_rounds (fun k : Nat => k ≤ n)
    (fun k => [(0, .sl 0 0 N N false), (1, .int .i64 a), (2, .int .i64 b), (3, .int .i64 n), (10, .int .i64 k)])
    (fun k => [.row 4 (terows (Z k))]) (fun k => n - k) 0 [0] (Nat.zero_le _) ?_ ?_
  · simp [Emb, go_sem]
  intro k hk
  by_cases hlt : k < n
  · obtain ⟨h1, h2, g3⟩ := hst k (by omega)
    have hl := hln k (by omega)
    have hin : (k : Int) < (n : Int) := by omega
    have w1 : iwrap .i64 ((a : Int) + (k : Int)) = ((a + k : Nat) : Int) := by rw [iwrap_i64_in (by omega)]; omega
    have w2 : iwrap .i64 ((b : Int) + (k : Int)) = ((b + k : Nat) : Int) := by rw [iwrap_i64_in (by omega)]; omega
    have c1 : ((a + k : Nat) : Int) < (N : Int) := by omega
    have c2 : ((b + k : Nat) : Int) < (N : Int) := by omega
    have p0 := te_r0 h1; have p1 := te_r1 h1; have p2 := te_r2 h1; have p3 := te_r3 h1
    have q0 := te_r0 h2; have q1 := te_r1 h2; have q2 := te_r2 h2; have q3 := te_r3 h2
    have hsw := swp_eq h1 h2
    have hput1 := te_rput h1 (Z k)[b + k]
    have h2' : b + k < ((Z k).set (a + k) (Z k)[b + k]).length := by rw [List.length_set]; exact h2
    have hput2 := te_rput h2' (Z k)[a + k]
    have hin1 := te_inR h1
    have hin2 := te_inR h2'
    rw [← hsw, g3] at hput2
    generalize (Z k).set (a + k) (Z k)[b + k] = L1 at *
    generalize (Z k)[a + k] = x at *
    generalize (Z k)[b + k] = y at *
    skip
    refine run_ok 4000 _ _ _ _ ?_
    simp (maxSteps := 10000000) only [go_sem, hin, w1, w2, c1, c2, te_h0 h1, te_h1 h1, te_h2 h1, te_h3 h1, te_h0 h2, te_h1 h2, te_h2 h2, te_h3 h2, p0, p1, p2, p3, q0, q1, q2, q3, hput1, hput2, hin1, hin2, te_len, hl, Int.natCast_nonneg, Nat.zero_add, inc64 (show k < 1000000000000 by omega)]
    refine sem_drawG l39_0_ok (by kernel_rfl) ?_
    intro KK hKK
    simp (maxSteps := 10000000) only [go_sem, l39_0, hin, w1, w2, c1, c2, te_h0 h1, te_h1 h1, te_h2 h1, te_h3 h1, te_h0 h2, te_h1 h2, te_h2 h2, te_h3 h2, p0, p1, p2, p3, q0, q1, q2, q3, hput1, hput2, hin1, hin2, te_len, hl, Int.natCast_nonneg, Nat.zero_add, inc64 (show k < 1000000000000 by omega)]
    subst hKK
    simp (maxSteps := 10000000) only [go_sem, hin, w1, w2, c1, c2, te_h0 h1, te_h1 h1, te_h2 h1, te_h3 h1, te_h0 h2, te_h1 h2, te_h2 h2, te_h3 h2, p0, p1, p2, p3, q0, q1, q2, q3, hput1, hput2, hin1, hin2, te_len, hl, Int.natCast_nonneg, Nat.zero_add, inc64 (show k < 1000000000000 by omega)]
    refine ⟨k + 1, by omega, hlt, [0], ?_⟩
    simp only [Emb, go_sem]
  · have hge : ¬ (k : Int) < (n : Int) := by omega
    have hk : k = n := by omega
    subst hk
    skip
    refine run_ok 4000 _ _ _ _ ?_
    simp (maxSteps := 10000000) only [go_sem, hge]
    refine run_ok 4000 _ _ _ _ ?_
    simp (maxSteps := 10000000) only [go_sem, hge]
    refine ⟨_, _, .sub [0] ?_ .done, rfl, rfl⟩
    simp only [EmbV, go_sem]
/-- What is turned. -/
def RtI (A U V B : List TE) (m : Nat) (P U' V' B' : List TE) : Prop :=
  P.length + U'.length = m ∧ 0 < U'.length ∧ 0 < V'.length ∧ P.length + U'.length + V'.length + B'.length = A.length + U.length + V.length + B.length ∧ P ++ (V' ++ (U' ++ B')) = A ++ (V ++ (U ++ B))
set_option maxHeartbeats 4000000 in
theorem rotate_spec (A U V B : List TE) (hU : 0 < U.length) (hV : 0 < V.length) (N : Nat) (hN : N = A.length + U.length + V.length + B.length) (hN2 : N ≤ 100000) :
    Tri Try.prog 38 [.sl 0 0 N N false, .int .i64 (A.length : Nat), .int .i64 (A.length + U.length : Nat), .int .i64 (A.length + U.length + V.length : Nat), .fn 23 [] []] [.row 4 (terows (A ++ (U ++ (V ++ B))))]
      (fun v m => v = .tup [] ∧ m = [.row 4 (terows (A ++ (V ++ (U ++ B))))]) := by
  refine Tri.post ?_
  have w1 : iwrap .i64 (((A.length + U.length : Nat) : Int) - (A.length : Nat)) = (U.length : Nat) := by rw [iwrap_i64_in (by omega)]; omega
  have w2 : iwrap .i64 (((A.length + U.length + V.length : Nat) : Int) - (A.length + U.length : Nat)) = (V.length : Nat) := by rw [iwrap_i64_in (by omega)]; omega
  have hbg : RtI A U V B (A.length + U.length) A U V B := ⟨rfl, hU, hV, rfl, rfl⟩
  generalize hm : A.length + U.length = m at *
  skip
  refine (Tri.enter (rl := r38) (code := c38) (by kernel_rfl) Try.func38 rfl c38_ok (by kernel_rfl) (by kernel_rfl) ?_)
  refine run_ok 4000 _ _ _ _ ?_
  simp (maxSteps := 10000000) only [go_sem, c38, r38, w1, w2]
  refine sem_rounds (fun q : (List TE × List TE) × List TE × List TE => RtI A U V B m q.1.1 q.1.2 q.2.1 q.2.2)
    (fun q => [(0, .sl 0 0 N N false), (2, .int .i64 m), (4, .fn 23 [] []), (10, .int .i64 q.1.2.length), (11, .int .i64 q.2.1.length)])
    (fun q => [.row 4 (terows (q.1.1 ++ (q.1.2 ++ (q.2.1 ++ q.2.2))))]) (fun q => q.1.2.length + q.2.1.length) ((A, U), V, B) [0] hbg ?_ ?_
  · simp [Emb, go_sem]
  rintro ⟨⟨P, U'⟩, V', B'⟩ ⟨h1, h2, h3, h4, h5⟩
  simp only at h1 h2 h3 h4 h5 ⊢
  by_cases c : U'.length = V'.length
  · have hs := swapRange_spec P U' [] V' B' c N (by simp; omega) hN2
    have c0 : ((U'.length : Int) != (V'.length : Int)) = false := by simp; omega
    have w3 : iwrap .i64 ((m : Int) - (U'.length : Nat)) = (P.length : Nat) := by rw [iwrap_i64_in (by omega)]; omega
    have e1 : P.length + U'.length + ([] : List TE).length = m := by simp; omega
    rw [e1] at hs
    simp only [List.nil_append] at hs
    rw [h5] at hs
    skip
    refine run_ok 4000 _ _ _ _ ?_
    simp (maxSteps := 10000000) only [go_sem, c0, w3]
    refine run_ok 4000 _ _ _ _ ?_
    simp (maxSteps := 10000000) only [go_sem, c0, w3]
    refine sem_call rfl rfl (((hs).embed [0] rfl (by repeat' first | exact trivial | rfl | (simp only [go_sem]; done) | constructor) rfl (by first | rfl | simp only [go_sem]) rfl (by simp)).mono ?_)
    rintro _ _ ⟨_, _, ⟨rfl, rfl⟩, rfl, rfl⟩
    refine run_ok 4000 _ _ _ _ ?_
    simp (maxSteps := 10000000) only [go_sem, c0, w3]
    refine ⟨_, _, .sub [0] ?_ .done, rfl, rfl⟩
    simp only [EmbV, go_sem]
  · have c0 : ((U'.length : Int) != (V'.length : Int)) = true := by simp; omega
    by_cases d : U'.length > V'.length
    · have d0 : (U'.length : Int) > (V'.length : Int) := by omega
      have l1 : (U'.take V'.length).length = V'.length := by simp; omega
      have l2 : (U'.drop V'.length).length = U'.length - V'.length := by simp
      have hs := swapRange_spec P (U'.take V'.length) (U'.drop V'.length) V' B' l1 N (by omega) hN2
      have eU : U'.take V'.length ++ (U'.drop V'.length ++ (V' ++ B')) = U' ++ (V' ++ B') := by rw [← List.append_assoc, List.take_append_drop]
      rw [eU] at hs
      have e1 : P.length + (U'.take V'.length).length + (U'.drop V'.length).length = m := by omega
      rw [e1, l1] at hs
      have w3 : iwrap .i64 ((m : Int) - (U'.length : Nat)) = (P.length : Nat) := by rw [iwrap_i64_in (by omega)]; omega
      have w4 : iwrap .i64 ((U'.length : Int) - (V'.length : Nat)) = ((U'.drop V'.length).length : Nat) := by rw [iwrap_i64_in (by omega)]; omega
      have hnx : RtI A U V B m (P ++ V') (U'.drop V'.length) (U'.take V'.length) B' := by
        refine ⟨by simp; omega, by omega, by omega, by simp; omega, ?_⟩
        rw [← h5, ← List.append_assoc (U'.take _), List.take_append_drop, List.append_assoc]
      generalize U'.take V'.length = U1 at *
      generalize U'.drop V'.length = U2 at *
      skip
      refine run_ok 4000 _ _ _ _ ?_
      simp (maxSteps := 10000000) only [go_sem, c0, d0, w3, w4]
      refine sem_call rfl rfl (((hs).embed [0] rfl (by repeat' first | exact trivial | rfl | (simp only [go_sem]; done) | constructor) rfl (by first | rfl | simp only [go_sem]) rfl (by simp)).mono ?_)
      rintro _ _ ⟨_, _, ⟨rfl, rfl⟩, rfl, rfl⟩
      refine run_ok 4000 _ _ _ _ ?_
      simp (maxSteps := 10000000) only [go_sem, c0, d0, w3, w4]
      refine ⟨((P ++ V', U2), U1, B'), by simp only; omega, hnx, [0], ?_⟩
      simp only [Emb, go_sem, l1, List.append_assoc]
    · have d0 : ¬ (U'.length : Int) > (V'.length : Int) := by omega
      have l1 : (V'.take (V'.length - U'.length)).length = V'.length - U'.length := by simp
      have l2 : (V'.drop (V'.length - U'.length)).length = U'.length := by simp; omega
      have hs := swapRange_spec P U' (V'.take (V'.length - U'.length)) (V'.drop (V'.length - U'.length)) B' l2.symm N (by omega) hN2
      have eV : V'.take (V'.length - U'.length) ++ (V'.drop (V'.length - U'.length) ++ B') = V' ++ B' := by rw [← List.append_assoc, List.take_append_drop]
      rw [eV] at hs
      have w3 : iwrap .i64 ((m : Int) - (U'.length : Nat)) = (P.length : Nat) := by rw [iwrap_i64_in (by omega)]; omega
      have w4 : iwrap .i64 ((m : Int) + (V'.length : Nat)) = ((m + V'.length : Nat) : Int) := by rw [iwrap_i64_in (by omega)]; omega
      have w5 : iwrap .i64 (((m + V'.length : Nat) : Int) - (U'.length : Nat)) = ((P.length + U'.length + (V'.take (V'.length - U'.length)).length : Nat) : Int) := by rw [iwrap_i64_in (by omega)]; omega
      have w6 : iwrap .i64 ((V'.length : Int) - (U'.length : Nat)) = ((V'.take (V'.length - U'.length)).length : Nat) := by rw [iwrap_i64_in (by omega)]; omega
      have hnx : RtI A U V B m P (V'.drop (V'.length - U'.length)) (V'.take (V'.length - U'.length)) (U' ++ B') := by
        refine ⟨by omega, by omega, by omega, by simp; omega, ?_⟩
        rw [← h5, ← List.append_assoc (V'.take _), List.take_append_drop]
      generalize V'.take (V'.length - U'.length) = V1 at *
      generalize V'.drop (V'.length - U'.length) = V2 at *
      skip
      refine run_ok 4000 _ _ _ _ ?_
      simp (maxSteps := 10000000) only [go_sem, c0, d0, w3, w4, w5, w6]
      refine sem_call rfl rfl (((hs).embed [0] rfl (by repeat' first | exact trivial | rfl | (simp only [go_sem]; done) | constructor) rfl (by first | rfl | simp only [go_sem]) rfl (by simp)).mono ?_)
      rintro _ _ ⟨_, _, ⟨rfl, rfl⟩, rfl, rfl⟩
      refine run_ok 4000 _ _ _ _ ?_
      simp (maxSteps := 10000000) only [go_sem, c0, d0, w3, w4, w5, w6]
      refine ⟨((P, V2), V1, U' ++ B'), by simp only; omega, hnx, [0], ?_⟩
      simp only [Emb, go_sem, l2]
end Go.AEX

/- Sorting by merging: plain words. -/
namespace Go.AEX
open Go Go.AE Go.Proofs
set_option maxRecDepth 100000
set_option linter.unusedVariables false
set_option linter.unusedSimpArgs false

theorem R_unique {W1 W2 : List TG} (hp : W1.Perm W2) (h1 : W1.Pairwise R) (h2 : W2.Pairwise R) : W1 = W2 :=
  List.Perm.eq_of_pairwise (le := R) (fun a b _ _ h3 h4 => by unfold R at *; omega) h1 h2 hp
def DR (x y : TG) : Prop := R x y ∨ R y x
theorem DR.symm {x y : TG} (h : DR x y) : DR y x := h.elim .inr .inl
def leG (a b : TG) : Bool := decide (a.1.due < b.1.due ∨ (a.1.due = b.1.due ∧ a.2 ≤ b.2))
theorem srt_ex (T : List TG) (hD : T.Pairwise DR) : ∃ W : List TG, W.Perm T ∧ W.Pairwise R := by
  refine ⟨T.mergeSort leG, List.mergeSort_perm _ _, ?_⟩
  have h1 : (T.mergeSort leG).Pairwise fun a b => leG a b = true := List.pairwise_mergeSort (fun a b c h1 h2 => by unfold leG at *; simp only [decide_eq_true_iff] at *; omega) (fun a b => by unfold leG; rw [Bool.or_eq_true]; simp only [decide_eq_true_iff]; omega) _
  have h2 : (T.mergeSort leG).Pairwise DR := (List.Perm.pairwise_iff DR.symm (List.mergeSort_perm T leG)).2 hD
  refine (h1.and h2).imp ?_
  rintro a b ⟨h3, h4⟩
  unfold leG at h3
  simp only [decide_eq_true_iff] at h3
  unfold DR R at h4
  unfold R
  omega
theorem srt_DR {W T : List TG} (hp : W.Perm T) (hr : W.Pairwise R) : T.Pairwise DR :=
  (List.Perm.pairwise_iff DR.symm hp).1 (hr.imp fun h => .inl h)
theorem srt_split {W P Q : List TG} (hp : W.Perm (P ++ Q)) (hr : W.Pairwise R) (h : ∀ p ∈ P, ∀ q ∈ Q, R p q) : ∃ W1 W2 : List TG, W = W1 ++ W2 ∧ W1.Perm P ∧ W2.Perm Q ∧ W1.Pairwise R ∧ W2.Pairwise R := by
  have hD := srt_DR hp hr
  rw [List.pairwise_append] at hD
  obtain ⟨W1, p1, r1⟩ := srt_ex P hD.1
  obtain ⟨W2, p2, r2⟩ := srt_ex Q hD.2.1
  refine ⟨W1, W2, ?_, p1, p2, r1, r2⟩
  refine R_unique (hp.trans (p1.append p2).symm) hr ?_
  rw [List.pairwise_append]
  exact ⟨r1, r2, fun a ha b hb => h a (p1.subset ha) b (p2.subset hb)⟩
/-- A key at a place. -/
def kA (L : List TG) (i : Nat) : Int := ((L[i]?).map fun x => x.1.due).getD 0
theorem kA_get {L : List TG} {i : Nat} (h : i < L.length) : kA L i = L[i].1.due := by simp [kA, h]
theorem kA_le {L : List TG} (hr : L.Pairwise R) {i j : Nat} (hij : i ≤ j) (hj : j < L.length) : kA L i ≤ kA L j := by
  rw [kA_get (by omega), kA_get hj]
  by_cases e : i = j
  · subst e; omega
  · have := List.pairwise_iff_getElem.1 hr i j (by omega) hj (by omega)
    unfold R at this; omega
theorem swp_comm {α : Type} (L : List α) (p q : Nat) : swp L p q = swp L q p := by
  by_cases e : p = q
  · subst e; rfl
  · unfold swp
    cases h1 : L[p]? <;> cases h2 : L[q]? <;> simp only [h1, h2]
    rw [List.set_comm _ _ (by omega)]
/-- What a middle finds. -/
theorem half_u64 {n : Nat} (h : n < 2 ^ 62) : iwrap .i64 (ishr .u64 (iwrap .u64 (n : Int)) 1) = ((n / 2 : Nat) : Int) := by
  rw [iwrap_u64_in (by unfold U64; omega)]
  have e : ishr .u64 (n : Int) 1 = (n : Int) / 2 := by
    unfold ishr
    rw [show (2 : Int) ^ min (1 : Int).toNat IntKind.u64.bits = 2 from rfl, Int.fdiv_eq_ediv_of_nonneg _ (by omega)]
  rw [e, iwrap_i64_in (by omega)]
  omega
end Go.AEX

/- Sorting by merging: one among many. -/
namespace Go.AEX
open Go Go.AE Go.Proofs
set_option maxRecDepth 100000
set_option linter.unusedVariables false
set_option linter.unusedSimpArgs false

abbrev mTE (L : List TG) : List TE := L.map (·.1)
theorem mTE_len (L : List TG) : (mTE L).length = L.length := by simp [mTE]
/-- Where an element lies. -/
theorem at_mid (A X B : List TG) {j : Nat} (h : j < X.length) : ∃ (h1 : A.length + j < (mTE (A ++ (X ++ B))).length), (mTE (A ++ (X ++ B)))[A.length + j] = X[j].1 := by
  refine ⟨by simp [mTE]; omega, ?_⟩
  simp only [mTE, List.getElem_map]
  rw [List.getElem_append_right (by omega)]
  simp only [Nat.add_sub_cancel_left]
  rw [List.getElem_append_left h]
/-- One is taken rightward. -/
def mvR (A V B : List TG) (u : TG) (t : Nat) : List TE := mTE (A ++ (V.take t ++ u :: (V.drop t ++ B)))
theorem mvR_len (A V B : List TG) (u : TG) (t : Nat) (h : t ≤ V.length) : (mvR A V B u t).length = A.length + V.length + 1 + B.length := by
  unfold mvR; simp [mTE]; omega
theorem mvR_step (A V B : List TG) (u : TG) {t : Nat} (h : t < V.length) : swp (mvR A V B u t) (A.length + t) (A.length + t + 1) = mvR A V B u (t + 1) := by
  have e : A ++ (V.take t ++ u :: (V.drop t ++ B)) = (A ++ V.take t) ++ u :: ([] ++ V[t] :: (V.drop (t + 1) ++ B)) := by
    rw [List.drop_eq_getElem_cons h]
    simp only [List.append_assoc, List.cons_append, List.nil_append]
  have l1 : (A ++ V.take t).length = A.length + t := by simp; omega
  have := swp_mid (A ++ V.take t) [] (V.drop (t + 1) ++ B) u V[t]
  rw [← e, l1] at this
  unfold mvR mTE
  rw [← swp_map]
  rw [show A.length + t + 1 = A.length + t + 1 + ([] : List TG).length from rfl, this, List.take_succ_eq_append_getElem h]
  simp only [List.append_assoc, List.cons_append, List.nil_append]
set_option maxHeartbeats 4000000 in
theorem sm_one (A : List TG) (u : TG) (V1 V2 B : List TG) (hV : (V1 ++ V2).Pairwise R) (h1 : ∀ v ∈ V1, v.1.due < u.1.due) (h2 : ∀ v ∈ V2, u.1.due ≤ v.1.due) (N : Nat) (hN : N = A.length + 1 + (V1 ++ V2).length + B.length) (hN2 : N ≤ 100000) :
    Tri Try.prog 37 [.sl 0 0 N N false, .int .i64 (A.length : Nat), .int .i64 (A.length + 1 : Nat), .int .i64 (A.length + 1 + (V1 ++ V2).length : Nat), .fn 23 [] []] [.row 4 (terows (mTE (A ++ (u :: ((V1 ++ V2) ++ B)))))]
      (fun v m => v = .tup [] ∧ m = [.row 4 (terows (mTE (A ++ ((V1 ++ u :: V2) ++ B))))]) := by
  refine Tri.post ?_
  have hz0 : mTE (A ++ (u :: ((V1 ++ V2) ++ B))) = mvR A (V1 ++ V2) B u 0 := rfl
  have hz9 : mTE (A ++ ((V1 ++ u :: V2) ++ B)) = mvR A (V1 ++ V2) B u V1.length := by unfold mvR; simp
  have hu0 : ∃ (g : A.length < (mvR A (V1 ++ V2) B u 0).length), (mvR A (V1 ++ V2) B u 0)[A.length] = u.1 := by
    obtain ⟨g, e⟩ := at_mid A [u] ((V1 ++ V2) ++ B) (j := 0) (by simp)
    exact ⟨g, e⟩
  have hvj : ∀ j (hj : j < (V1 ++ V2).length), ∃ (g : A.length + 1 + j < (mvR A (V1 ++ V2) B u 0).length), (mvR A (V1 ++ V2) B u 0)[A.length + 1 + j].due = kA (V1 ++ V2) j := by
    intro j hj
    obtain ⟨g, e⟩ := at_mid (A ++ [u]) (V1 ++ V2) B (j := j) hj
    simp only [List.append_assoc, List.singleton_append, List.length_append, List.length_singleton] at g e
    refine ⟨?_, ?_⟩
    · simpa [mvR] using g
    · rw [kA_get hj, ← e]
      simp [mvR]
  have hlo : ∀ j, j < V1.length → kA (V1 ++ V2) j < u.1.due := by
    intro j hj
    rw [kA_get (by simp; omega), List.getElem_append_left hj]
    exact h1 _ (List.getElem_mem hj)
  have hhi : ∀ j, V1.length ≤ j → j < (V1 ++ V2).length → u.1.due ≤ kA (V1 ++ V2) j := by
    intro j hj hj2
    rw [kA_get hj2, List.getElem_append_right hj]
    exact h2 _ (List.getElem_mem _)
  have hst := fun t (ht : t < (V1 ++ V2).length) => mvR_step A (V1 ++ V2) B u ht
  have hln := fun t (ht : t ≤ (V1 ++ V2).length) => mvR_len A (V1 ++ V2) B u t ht
  have hle : V1.length ≤ (V1 ++ V2).length := by simp
  rw [hz0, hz9]
  generalize hVV : V1 ++ V2 = V at *
  generalize hZ : mvR A V B u = Z at *
  generalize ha : A.length = a at *
  generalize hp1 : V1.length = p1 at *
  generalize hnv : V.length = nv at *
  have c1 : (iwrap .i64 (((a + 1 : Nat) : Int) - (a : Nat)) == 1) = true := by rw [iwrap_i64_in (by omega)]; simp; omega
  skip
  refine (Tri.enter (rl := r37) (code := c37) (by kernel_rfl) Try.func37 rfl c37_ok (by kernel_rfl) (by kernel_rfl) ?_)
  refine run_ok 4000 _ _ _ _ ?_
  simp (maxSteps := 10000000) only [go_sem, c37, r37, c1]
  refine sem_rounds (fun q : Nat × Nat => q.1 ≤ p1 ∧ p1 ≤ q.2 ∧ q.2 ≤ nv)
    (fun q => [(0, .sl 0 0 N N false), (1, .int .i64 a), (4, .fn 23 [] []), (10, .int .i64 (a + 1 + q.1 : Nat)), (11, .int .i64 (a + 1 + q.2 : Nat))])
    (fun q => [.row 4 (terows (Z 0))]) (fun q => q.2 - q.1) (0, nv) [0] ⟨Nat.zero_le _, hle, Nat.le_refl _⟩ ?_ ?_
  · simp [Emb, go_sem]
  rintro ⟨p, q⟩ ⟨g1, g2, g3⟩
  simp only at g1 g2 g3 ⊢
  by_cases hlt : p < q
  · have hin : ((a + 1 + p : Nat) : Int) < ((a + 1 + q : Nat) : Int) := by omega
    have hm : iwrap .i64 (((a + 1 + p : Nat) : Int) + ((a + 1 + q : Nat) : Int)) = ((a + 1 + p + (a + 1 + q) : Nat) : Int) := by rw [iwrap_i64_in (by omega)]; omega
    have hhf := half_u64 (n := a + 1 + p + (a + 1 + q)) (by omega)
    have hdv : (a + 1 + p + (a + 1 + q)) / 2 = a + 1 + (p + q) / 2 := by omega
    rw [hdv] at hhf
    have hlt2 : (p + q) / 2 < q := by omega
    have hlp : p ≤ (p + q) / 2 := by omega
    generalize (p + q) / 2 = h at *
    obtain ⟨gu, eu⟩ := hu0
    obtain ⟨gv, ev⟩ := hvj h (by omega)
    have hcm := due1_spec (Z 0)[a + 1 + h] (Z 0)[a]
    have hcl := cmpI_lt (Z 0)[a + 1 + h].due (Z 0)[a].due
    have q0 := te_r0 gu; have q1 := te_r1 gu; have q2 := te_r2 gu; have q3 := te_r3 gu
    have p0 := te_r0 gv; have p1' := te_r1 gv; have p2 := te_r2 gv; have p3 := te_r3 gv
    have d1 : ((a + 1 + h : Nat) : Int) < (N : Int) := by omega
    have d2 : (a : Int) < (N : Int) := by omega
    by_cases c : h < p1
    · have hc := hlo h c
      have c3' : cmpI (Z 0)[a + 1 + h].due (Z 0)[a].due < 0 := by rw [hcl, eu, ev]; exact hc
      generalize (Z 0)[a + 1 + h] = x at *
      generalize (Z 0)[a] = y at *
      skip
      refine run_ok 4000 _ _ _ _ ?_
      simp (maxSteps := 10000000) only [go_sem, hin, hm, hhf, d1, d2, te_h0 gu, te_h1 gu, te_h2 gu, te_h3 gu, te_h0 gv, te_h1 gv, te_h2 gv, te_h3 gv, q0, q1, q2, q3, p0, p1', p2, p3, c3', te_len, Int.natCast_nonneg, inc64 (show a + 1 + h < 1000000000000 by omega)]
      refine sem_drawG l37_0_ok (by kernel_rfl) ?_
      intro KK hKK
      simp (maxSteps := 10000000) only [go_sem, l37_0, hin, hm, hhf, d1, d2, te_h0 gu, te_h1 gu, te_h2 gu, te_h3 gu, te_h0 gv, te_h1 gv, te_h2 gv, te_h3 gv, q0, q1, q2, q3, p0, p1', p2, p3, c3', te_len, Int.natCast_nonneg, inc64 (show a + 1 + h < 1000000000000 by omega)]
      subst hKK
      simp (maxSteps := 10000000) only [go_sem, hin, hm, hhf, d1, d2, te_h0 gu, te_h1 gu, te_h2 gu, te_h3 gu, te_h0 gv, te_h1 gv, te_h2 gv, te_h3 gv, q0, q1, q2, q3, p0, p1', p2, p3, c3', te_len, Int.natCast_nonneg, inc64 (show a + 1 + h < 1000000000000 by omega)]
      refine TriZ.of (((hcm).embed [] rfl (by repeat' first | exact trivial | rfl | (simp only [go_sem]; done) | constructor) rfl (by first | rfl | simp only [go_sem]) rfl (by simp)).mono ?_)
      rintro _ _ ⟨_, _, ⟨rfl, rfl⟩, rfl, rfl⟩
      simp (maxSteps := 10000000) only [go_sem, hin, hm, hhf, d1, d2, te_h0 gu, te_h1 gu, te_h2 gu, te_h3 gu, te_h0 gv, te_h1 gv, te_h2 gv, te_h3 gv, q0, q1, q2, q3, p0, p1', p2, p3, c3', te_len, Int.natCast_nonneg, inc64 (show a + 1 + h < 1000000000000 by omega)]
      refine ⟨(h + 1, q), by simp only; omega, ⟨by simp only; omega, by simp only; omega, g3⟩, [0], ?_⟩
      simp only [Emb, go_sem, Nat.add_assoc]
    · have hc := hhi h (by omega) (by omega)
      have c3' : ¬ cmpI (Z 0)[a + 1 + h].due (Z 0)[a].due < 0 := by rw [hcl, eu, ev]; omega
      generalize (Z 0)[a + 1 + h] = x at *
      generalize (Z 0)[a] = y at *
      skip
      refine run_ok 4000 _ _ _ _ ?_
      simp (maxSteps := 10000000) only [go_sem, hin, hm, hhf, d1, d2, te_h0 gu, te_h1 gu, te_h2 gu, te_h3 gu, te_h0 gv, te_h1 gv, te_h2 gv, te_h3 gv, q0, q1, q2, q3, p0, p1', p2, p3, c3', te_len, Int.natCast_nonneg]
      refine sem_drawG l37_0_ok (by kernel_rfl) ?_
      intro KK hKK
      simp (maxSteps := 10000000) only [go_sem, l37_0, hin, hm, hhf, d1, d2, te_h0 gu, te_h1 gu, te_h2 gu, te_h3 gu, te_h0 gv, te_h1 gv, te_h2 gv, te_h3 gv, q0, q1, q2, q3, p0, p1', p2, p3, c3', te_len, Int.natCast_nonneg]
      subst hKK
      simp (maxSteps := 10000000) only [go_sem, hin, hm, hhf, d1, d2, te_h0 gu, te_h1 gu, te_h2 gu, te_h3 gu, te_h0 gv, te_h1 gv, te_h2 gv, te_h3 gv, q0, q1, q2, q3, p0, p1', p2, p3, c3', te_len, Int.natCast_nonneg]
      refine TriZ.of (((hcm).embed [] rfl (by repeat' first | exact trivial | rfl | (simp only [go_sem]; done) | constructor) rfl (by first | rfl | simp only [go_sem]) rfl (by simp)).mono ?_)
      rintro _ _ ⟨_, _, ⟨rfl, rfl⟩, rfl, rfl⟩
      simp (maxSteps := 10000000) only [go_sem, hin, hm, hhf, d1, d2, te_h0 gu, te_h1 gu, te_h2 gu, te_h3 gu, te_h0 gv, te_h1 gv, te_h2 gv, te_h3 gv, q0, q1, q2, q3, p0, p1', p2, p3, c3', te_len, Int.natCast_nonneg]
      refine ⟨(p, h), by simp only; omega, ⟨g1, by simp only; omega, by simp only; omega⟩, [0], ?_⟩
      simp only [Emb, go_sem]
  have hpe : p = p1 := by omega
  subst hpe
  have hqe : q = p := by omega
  subst hqe
  have hge : ¬ ((a + 1 + q : Nat) : Int) < ((a + 1 + q : Nat) : Int) := by omega
  skip
  refine run_ok 4000 _ _ _ _ ?_
  simp (maxSteps := 10000000) only [go_sem, hge]
  refine run_ok 4000 _ _ _ _ ?_
  simp (maxSteps := 10000000) only [go_sem, hge]
  refine sem_rounds (fun t : Nat => t ≤ q)
    (fun t => [(0, .sl 0 0 N N false), (10, .int .i64 (a + 1 + q : Nat)), (13, .int .i64 (a + t : Nat))])
    (fun t => [.row 4 (terows (Z t))]) (fun t => q - t) 0 [0] (Nat.zero_le _) ?_ ?_
  · simp [Emb, go_sem]
  intro t ht
  have hw : iwrap .i64 (((a + 1 + q : Nat) : Int) - 1) = ((a + q : Nat) : Int) := by rw [iwrap_i64_in (by omega)]; omega
  by_cases hlt : t < q
  · have hin : ((a + t : Nat) : Int) < ((a + q : Nat) : Int) := by omega
    have hl := hln t (by omega)
    have k1 : a + t < (Z t).length := by omega
    have k2 : a + t + 1 < (Z t).length := by omega
    have hs := hst t (by omega)
    have q0 := te_r0 k1; have q1 := te_r1 k1; have q2 := te_r2 k1; have q3 := te_r3 k1
    have p0 := te_r0 k2; have p1' := te_r1 k2; have p2 := te_r2 k2; have p3 := te_r3 k2
    have hsw := swp_eq k1 k2
    have hput1 := te_rput k1 (Z t)[a + t + 1]
    have k2' : a + t + 1 < ((Z t).set (a + t) (Z t)[a + t + 1]).length := by rw [List.length_set]; exact k2
    have hput2 := te_rput k2' (Z t)[a + t]
    have hin1 := te_inR k1
    have hin2 := te_inR k2'
    rw [← hsw, hs] at hput2
    have d1 : ((a + t : Nat) : Int) < (N : Int) := by omega
    have d2 : ((a + t + 1 : Nat) : Int) < (N : Int) := by omega
    generalize (Z t).set (a + t) (Z t)[a + t + 1] = L1 at *
    generalize (Z t)[a + t + 1] = x at *
    generalize (Z t)[a + t] = y at *
    skip
    refine run_ok 4000 _ _ _ _ ?_
    simp (maxSteps := 10000000) only [go_sem, hw, hin, d1, d2, te_h0 k1, te_h1 k1, te_h2 k1, te_h3 k1, te_h0 k2, te_h1 k2, te_h2 k2, te_h3 k2, q0, q1, q2, q3, p0, p1', p2, p3, hput1, hput2, hin1, hin2, te_len, hl, Int.natCast_nonneg, Nat.zero_add, inc64 (show a + t < 1000000000000 by omega)]
    refine sem_drawG l37_1_ok (by kernel_rfl) ?_
    intro KK hKK
    simp (maxSteps := 10000000) only [go_sem, l37_1, hw, hin, d1, d2, te_h0 k1, te_h1 k1, te_h2 k1, te_h3 k1, te_h0 k2, te_h1 k2, te_h2 k2, te_h3 k2, q0, q1, q2, q3, p0, p1', p2, p3, hput1, hput2, hin1, hin2, te_len, hl, Int.natCast_nonneg, Nat.zero_add, inc64 (show a + t < 1000000000000 by omega)]
    subst hKK
    simp (maxSteps := 10000000) only [go_sem, hw, hin, d1, d2, te_h0 k1, te_h1 k1, te_h2 k1, te_h3 k1, te_h0 k2, te_h1 k2, te_h2 k2, te_h3 k2, q0, q1, q2, q3, p0, p1', p2, p3, hput1, hput2, hin1, hin2, te_len, hl, Int.natCast_nonneg, Nat.zero_add, inc64 (show a + t < 1000000000000 by omega)]
    refine ⟨t + 1, by omega, hlt, [0], ?_⟩
    simp only [Emb, go_sem, Nat.add_assoc]
  · have hge : ¬ ((a + t : Nat) : Int) < ((a + q : Nat) : Int) := by omega
    have hk : t = q := by omega
    subst hk
    skip
    refine run_ok 4000 _ _ _ _ ?_
    simp (maxSteps := 10000000) only [go_sem, hw, hge]
    refine run_ok 4000 _ _ _ _ ?_
    simp (maxSteps := 10000000) only [go_sem, hw, hge]
    refine ⟨_, _, .sub [0] ?_ .done, rfl, rfl⟩
    simp only [EmbV, go_sem]
theorem mvL_step (A V B : List TG) (u : TG) {t : Nat} (h : t < V.length) : swp (mvR A V B u (t + 1)) (A.length + t + 1) (A.length + t) = mvR A V B u t := by
  rw [swp_comm]
  have e : A ++ (V.take (t + 1) ++ u :: (V.drop (t + 1) ++ B)) = (A ++ V.take t) ++ V[t] :: ([] ++ u :: (V.drop (t + 1) ++ B)) := by
    rw [List.take_succ_eq_append_getElem h]
    simp only [List.append_assoc, List.cons_append, List.nil_append]
  have l1 : (A ++ V.take t).length = A.length + t := by simp; omega
  have := swp_mid (A ++ V.take t) [] (V.drop (t + 1) ++ B) V[t] u
  rw [← e, l1] at this
  unfold mvR mTE
  rw [← swp_map]
  rw [show A.length + t + 1 = A.length + t + 1 + ([] : List TG).length from rfl, this, List.drop_eq_getElem_cons h]
  simp only [List.append_assoc, List.cons_append, List.nil_append]
set_option maxHeartbeats 4000000 in
theorem sm_last (A : List TG) (v : TG) (U1 U2 B : List TG) (hU : (U1 ++ U2).Pairwise R) (h2U : 2 ≤ (U1 ++ U2).length) (h1 : ∀ u ∈ U1, u.1.due ≤ v.1.due) (h2 : ∀ u ∈ U2, v.1.due < u.1.due) (N : Nat) (hN : N = A.length + (U1 ++ U2).length + 1 + B.length) (hN2 : N ≤ 100000) :
    Tri Try.prog 37 [.sl 0 0 N N false, .int .i64 (A.length : Nat), .int .i64 (A.length + (U1 ++ U2).length : Nat), .int .i64 (A.length + (U1 ++ U2).length + 1 : Nat), .fn 23 [] []] [.row 4 (terows (mTE (A ++ ((U1 ++ U2) ++ (v :: B)))))]
      (fun r m => r = .tup [] ∧ m = [.row 4 (terows (mTE (A ++ ((U1 ++ v :: U2) ++ B))))]) := by
  refine Tri.post ?_
  have hz0 : mTE (A ++ ((U1 ++ U2) ++ (v :: B))) = mvR (A ++ U1) U2 B v U2.length := by unfold mvR; simp
  have hz9 : mTE (A ++ ((U1 ++ v :: U2) ++ B)) = mvR (A ++ U1) U2 B v 0 := by unfold mvR; simp
  have hv0 : ∃ (g : A.length + (U1 ++ U2).length < (mvR (A ++ U1) U2 B v U2.length).length), (mvR (A ++ U1) U2 B v U2.length)[A.length + (U1 ++ U2).length] = v.1 := by
    obtain ⟨g, e⟩ := at_mid (A ++ (U1 ++ U2)) [v] B (j := 0) (by simp)
    have e9 : mTE ((A ++ (U1 ++ U2)) ++ ([v] ++ B)) = mvR (A ++ U1) U2 B v U2.length := by rw [← hz0]; simp
    simp only [e9] at g e
    have el : (A ++ (U1 ++ U2)).length + 0 = A.length + (U1 ++ U2).length := by simp
    simp only [el] at g e
    exact ⟨g, e⟩
  have huj : ∀ j (hj : j < (U1 ++ U2).length), ∃ (g : A.length + j < (mvR (A ++ U1) U2 B v U2.length).length), (mvR (A ++ U1) U2 B v U2.length)[A.length + j].due = kA (U1 ++ U2) j := by
    intro j hj
    obtain ⟨g, e⟩ := at_mid A (U1 ++ U2) (v :: B) (j := j) hj
    simp only [hz0] at g e
    exact ⟨g, by rw [kA_get hj, ← e]⟩
  have hlo : ∀ j, j < U1.length → kA (U1 ++ U2) j ≤ v.1.due := by
    intro j hj
    rw [kA_get (by simp; omega), List.getElem_append_left hj]
    exact h1 _ (List.getElem_mem hj)
  have hhi : ∀ j, U1.length ≤ j → j < (U1 ++ U2).length → v.1.due < kA (U1 ++ U2) j := by
    intro j hj hj2
    rw [kA_get hj2, List.getElem_append_right hj]
    exact h2 _ (List.getElem_mem _)
  have hst := fun t (ht : t < U2.length) => mvL_step (A ++ U1) U2 B v ht
  have hln := fun t (ht : t ≤ U2.length) => mvR_len (A ++ U1) U2 B v t ht
  have hnu : (U1 ++ U2).length = U1.length + U2.length := List.length_append
  have hal : (A ++ U1).length = A.length + U1.length := List.length_append
  rw [hz0, hz9]
  rw [hal] at hst hln
  rw [hnu] at h2U hN hv0 huj hhi ⊢
  generalize hUU : U1 ++ U2 = U at *
  generalize hZ : mvR (A ++ U1) U2 B v = Z at *
  generalize ha : A.length = a at *
  generalize hp1 : U1.length = p1 at *
  generalize hn2 : U2.length = n2 at *
  have c0 : (iwrap .i64 (((a + (p1 + n2) : Nat) : Int) - (a : Nat)) == 1) = false := by rw [iwrap_i64_in (by omega)]; simp; omega
  have c1 : (iwrap .i64 (((a + (p1 + n2) + 1 : Nat) : Int) - ((a + (p1 + n2) : Nat) : Int)) == 1) = true := by rw [iwrap_i64_in (by omega)]; simp; omega
  skip
  refine (Tri.enter (rl := r37) (code := c37) (by kernel_rfl) Try.func37 rfl c37_ok (by kernel_rfl) (by kernel_rfl) ?_)
  refine run_ok 4000 _ _ _ _ ?_
  simp (maxSteps := 10000000) only [go_sem, c37, r37, c0, c1]
  refine sem_rounds (fun q : Nat × Nat => q.1 ≤ p1 ∧ p1 ≤ q.2 ∧ q.2 ≤ p1 + n2)
    (fun q => [(0, .sl 0 0 N N false), (2, .int .i64 (a + (p1 + n2) : Nat)), (4, .fn 23 [] []), (14, .int .i64 (a + q.1 : Nat)), (15, .int .i64 (a + q.2 : Nat))])
    (fun q => [.row 4 (terows (Z n2))]) (fun q => q.2 - q.1) (0, p1 + n2) [0] ⟨Nat.zero_le _, by simp only; omega, Nat.le_refl _⟩ ?_ ?_
  · simp [Emb, go_sem]
  rintro ⟨p, q⟩ ⟨g1, g2, g3⟩
  simp only at g1 g2 g3 ⊢
  by_cases hlt : p < q
  · have hin : ((a + p : Nat) : Int) < ((a + q : Nat) : Int) := by omega
    have hm : iwrap .i64 (((a + p : Nat) : Int) + ((a + q : Nat) : Int)) = ((a + p + (a + q) : Nat) : Int) := by rw [iwrap_i64_in (by omega)]; omega
    have hhf := half_u64 (n := a + p + (a + q)) (by omega)
    have hdv : (a + p + (a + q)) / 2 = a + (p + q) / 2 := by omega
    rw [hdv] at hhf
    have hlt2 : (p + q) / 2 < q := by omega
    have hlp : p ≤ (p + q) / 2 := by omega
    generalize (p + q) / 2 = h at *
    obtain ⟨gv, ev⟩ := hv0
    obtain ⟨gu, eu⟩ := huj h (by omega)
    have hcm := due1_spec (Z n2)[a + (p1 + n2)] (Z n2)[a + h]
    have hcl := cmpI_lt (Z n2)[a + (p1 + n2)].due (Z n2)[a + h].due
    have q0 := te_r0 gu; have q1 := te_r1 gu; have q2 := te_r2 gu; have q3 := te_r3 gu
    have p0 := te_r0 gv; have p1' := te_r1 gv; have p2 := te_r2 gv; have p3 := te_r3 gv
    have d1 : ((a + h : Nat) : Int) < (N : Int) := by omega
    have d2 : ((a + (p1 + n2) : Nat) : Int) < (N : Int) := by omega
    by_cases c : h < p1
    · have hc := hlo h c
      have c3' : ¬ cmpI (Z n2)[a + (p1 + n2)].due (Z n2)[a + h].due < 0 := by rw [hcl, eu, ev]; omega
      generalize (Z n2)[a + (p1 + n2)] = x at *
      generalize (Z n2)[a + h] = y at *
      skip
      refine run_ok 4000 _ _ _ _ ?_
      simp (maxSteps := 10000000) only [go_sem, hin, hm, hhf, d1, d2, te_h0 gu, te_h1 gu, te_h2 gu, te_h3 gu, te_h0 gv, te_h1 gv, te_h2 gv, te_h3 gv, q0, q1, q2, q3, p0, p1', p2, p3, c3', te_len, Int.natCast_nonneg, inc64 (show a + h < 1000000000000 by omega)]
      refine sem_drawG l37_2_ok (by kernel_rfl) ?_
      intro KK hKK
      simp (maxSteps := 10000000) only [go_sem, l37_2, hin, hm, hhf, d1, d2, te_h0 gu, te_h1 gu, te_h2 gu, te_h3 gu, te_h0 gv, te_h1 gv, te_h2 gv, te_h3 gv, q0, q1, q2, q3, p0, p1', p2, p3, c3', te_len, Int.natCast_nonneg, inc64 (show a + h < 1000000000000 by omega)]
      subst hKK
      simp (maxSteps := 10000000) only [go_sem, hin, hm, hhf, d1, d2, te_h0 gu, te_h1 gu, te_h2 gu, te_h3 gu, te_h0 gv, te_h1 gv, te_h2 gv, te_h3 gv, q0, q1, q2, q3, p0, p1', p2, p3, c3', te_len, Int.natCast_nonneg, inc64 (show a + h < 1000000000000 by omega)]
      refine TriZ.of (((hcm).embed [] rfl (by repeat' first | exact trivial | rfl | (simp only [go_sem]; done) | constructor) rfl (by first | rfl | simp only [go_sem]) rfl (by simp)).mono ?_)
      rintro _ _ ⟨_, _, ⟨rfl, rfl⟩, rfl, rfl⟩
      simp (maxSteps := 10000000) only [go_sem, hin, hm, hhf, d1, d2, te_h0 gu, te_h1 gu, te_h2 gu, te_h3 gu, te_h0 gv, te_h1 gv, te_h2 gv, te_h3 gv, q0, q1, q2, q3, p0, p1', p2, p3, c3', te_len, Int.natCast_nonneg, inc64 (show a + h < 1000000000000 by omega)]
      refine ⟨(h + 1, q), by simp only; omega, ⟨by simp only; omega, by simp only; omega, g3⟩, [0], ?_⟩
      simp only [Emb, go_sem, Nat.add_assoc]
    · have hc := hhi h (by omega) (by omega)
      have c3' : cmpI (Z n2)[a + (p1 + n2)].due (Z n2)[a + h].due < 0 := by rw [hcl, eu, ev]; omega
      generalize (Z n2)[a + (p1 + n2)] = x at *
      generalize (Z n2)[a + h] = y at *
      skip
      refine run_ok 4000 _ _ _ _ ?_
      simp (maxSteps := 10000000) only [go_sem, hin, hm, hhf, d1, d2, te_h0 gu, te_h1 gu, te_h2 gu, te_h3 gu, te_h0 gv, te_h1 gv, te_h2 gv, te_h3 gv, q0, q1, q2, q3, p0, p1', p2, p3, c3', te_len, Int.natCast_nonneg]
      refine sem_drawG l37_2_ok (by kernel_rfl) ?_
      intro KK hKK
      simp (maxSteps := 10000000) only [go_sem, l37_2, hin, hm, hhf, d1, d2, te_h0 gu, te_h1 gu, te_h2 gu, te_h3 gu, te_h0 gv, te_h1 gv, te_h2 gv, te_h3 gv, q0, q1, q2, q3, p0, p1', p2, p3, c3', te_len, Int.natCast_nonneg]
      subst hKK
      simp (maxSteps := 10000000) only [go_sem, hin, hm, hhf, d1, d2, te_h0 gu, te_h1 gu, te_h2 gu, te_h3 gu, te_h0 gv, te_h1 gv, te_h2 gv, te_h3 gv, q0, q1, q2, q3, p0, p1', p2, p3, c3', te_len, Int.natCast_nonneg]
      refine TriZ.of (((hcm).embed [] rfl (by repeat' first | exact trivial | rfl | (simp only [go_sem]; done) | constructor) rfl (by first | rfl | simp only [go_sem]) rfl (by simp)).mono ?_)
      rintro _ _ ⟨_, _, ⟨rfl, rfl⟩, rfl, rfl⟩
      simp (maxSteps := 10000000) only [go_sem, hin, hm, hhf, d1, d2, te_h0 gu, te_h1 gu, te_h2 gu, te_h3 gu, te_h0 gv, te_h1 gv, te_h2 gv, te_h3 gv, q0, q1, q2, q3, p0, p1', p2, p3, c3', te_len, Int.natCast_nonneg]
      refine ⟨(p, h), by simp only; omega, ⟨g1, by simp only; omega, by simp only; omega⟩, [0], ?_⟩
      simp only [Emb, go_sem]
  have hpe : p = p1 := by omega
  have hqe : q = p1 := by omega
  subst hpe
  subst hqe
  have hge : ¬ ((a + q : Nat) : Int) < ((a + q : Nat) : Int) := by omega
  skip
  refine run_ok 4000 _ _ _ _ ?_
  simp (maxSteps := 10000000) only [go_sem, hge]
  refine run_ok 4000 _ _ _ _ ?_
  simp (maxSteps := 10000000) only [go_sem, hge]
  refine sem_rounds (fun t : Nat => t ≤ n2)
    (fun t => [(0, .sl 0 0 N N false), (14, .int .i64 (a + q : Nat)), (17, .int .i64 (a + (q + t) : Nat))])
    (fun t => [.row 4 (terows (Z t))]) (fun t => t) n2 [0] (Nat.le_refl _) ?_ ?_
  · simp [Emb, go_sem]
  intro t ht
  by_cases hz : t = 0
  · subst hz
    have hge : ¬ ((a + (q + 0) : Nat) : Int) > ((a + q : Nat) : Int) := by omega
    skip
    refine run_ok 4000 _ _ _ _ ?_
    simp (maxSteps := 10000000) only [go_sem, hge]
    refine run_ok 4000 _ _ _ _ ?_
    simp (maxSteps := 10000000) only [go_sem, hge]
    refine ⟨_, _, .sub [0] ?_ .done, rfl, rfl⟩
    simp only [EmbV, go_sem]
  obtain ⟨t, rfl⟩ : ∃ t', t = t' + 1 := ⟨t - 1, by omega⟩
  have hgt : ((a + (q + (t + 1)) : Nat) : Int) > ((a + q : Nat) : Int) := by omega
  have hw : iwrap .i64 (((a + (q + (t + 1)) : Nat) : Int) - 1) = ((a + (q + t) : Nat) : Int) := by rw [iwrap_i64_in (by omega)]; omega
  have hl := hln (t + 1) (by omega)
  have ex1 : a + (q + (t + 1)) = a + q + t + 1 := by omega
  have ex2 : a + (q + t) = a + q + t := by omega
  have k1 : a + (q + (t + 1)) < (Z (t + 1)).length := by omega
  have k2 : a + (q + t) < (Z (t + 1)).length := by omega
  have hs := hst t (by omega)
  rw [← ex1, ← ex2] at hs
  have q0 := te_r0 k1; have q1 := te_r1 k1; have q2 := te_r2 k1; have q3 := te_r3 k1
  have p0 := te_r0 k2; have p1' := te_r1 k2; have p2 := te_r2 k2; have p3 := te_r3 k2
  have hsw := swp_eq k1 k2
  have hput1 := te_rput k1 (Z (t + 1))[a + (q + t)]
  have k2' : a + (q + t) < ((Z (t + 1)).set (a + (q + (t + 1))) (Z (t + 1))[a + (q + t)]).length := by rw [List.length_set]; exact k2
  have hput2 := te_rput k2' (Z (t + 1))[a + (q + (t + 1))]
  have hin1 := te_inR k1
  have hin2 := te_inR k2'
  rw [← hsw, hs] at hput2
  have d1 : ((a + (q + (t + 1)) : Nat) : Int) < (N : Int) := by omega
  have d2 : ((a + (q + t) : Nat) : Int) < (N : Int) := by omega
  generalize (Z (t + 1)).set (a + (q + (t + 1))) (Z (t + 1))[a + (q + t)] = L1 at *
  generalize (Z (t + 1))[a + (q + t)] = x at *
  generalize (Z (t + 1))[a + (q + (t + 1))] = y at *
  skip
  refine run_ok 4000 _ _ _ _ ?_
  simp (maxSteps := 10000000) only [go_sem, hw, hgt, d1, d2, te_h0 k1, te_h1 k1, te_h2 k1, te_h3 k1, te_h0 k2, te_h1 k2, te_h2 k2, te_h3 k2, q0, q1, q2, q3, p0, p1', p2, p3, hput1, hput2, hin1, hin2, te_len, hl, Int.natCast_nonneg, Nat.zero_add]
  refine sem_drawG l37_3_ok (by kernel_rfl) ?_
  intro KK hKK
  simp (maxSteps := 10000000) only [go_sem, l37_3, hw, hgt, d1, d2, te_h0 k1, te_h1 k1, te_h2 k1, te_h3 k1, te_h0 k2, te_h1 k2, te_h2 k2, te_h3 k2, q0, q1, q2, q3, p0, p1', p2, p3, hput1, hput2, hin1, hin2, te_len, hl, Int.natCast_nonneg, Nat.zero_add]
  subst hKK
  simp (maxSteps := 10000000) only [go_sem, hw, hgt, d1, d2, te_h0 k1, te_h1 k1, te_h2 k1, te_h3 k1, te_h0 k2, te_h1 k2, te_h2 k2, te_h3 k2, q0, q1, q2, q3, p0, p1', p2, p3, hput1, hput2, hin1, hin2, te_len, hl, Int.natCast_nonneg, Nat.zero_add]
  refine ⟨t, by omega, by omega, [0], ?_⟩
  simp only [Emb, go_sem]
end Go.AEX
