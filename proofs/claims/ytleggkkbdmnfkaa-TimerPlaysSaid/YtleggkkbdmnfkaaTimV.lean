/- Sorting by merging: any list; those that are due. -/
import Derived.Test.YtleggkkbdmnfkaaTimW
namespace Go.AEX
open Go Go.AE Go.Proofs
set_option maxRecDepth 100000
set_option linter.unusedVariables false
set_option linter.unusedSimpArgs false

theorem cutG (p : TG → Prop) (hm : ∀ x y, R x y → p y → p x) : ∀ (L : List TG), L.Pairwise R → ∃ L1 L2 : List TG, L = L1 ++ L2 ∧ (∀ v ∈ L1, p v) ∧ (∀ v ∈ L2, ¬ p v)
  | [], _ => ⟨[], [], rfl, by simp, by simp⟩
  | x :: L, h => by
    rw [List.pairwise_cons] at h
    by_cases c : p x
    · obtain ⟨L1, L2, e, h1, h2⟩ := cutG p hm L h.2
      refine ⟨x :: L1, L2, by rw [e]; rfl, ?_, h2⟩
      intro v hv
      rcases List.mem_cons.1 hv with rfl | hv
      · exact c
      · exact h1 v hv
    · refine ⟨[], x :: L, rfl, by simp, ?_⟩
      intro v hv
      rcases List.mem_cons.1 hv with rfl | hv
      · exact c
      · exact fun hp => c (hm x v (h.1 v hv) hp)
theorem sm_all : ∀ n, SmOk n
  | 0 => by
    intro A U V B W hn hU hV ht hp hr hu hv
    omega
  | n + 1 => by
    intro A U V B W hn hU hV ht hp hr hu hv a m b N ha hm hb hN hN2 Z0 Z1 hz0 hz1
    by_cases c1 : U.length = 1
    · obtain ⟨u, rfl⟩ := List.length_eq_one_iff.1 c1
      obtain ⟨V1, V2, rfl, h1, h2⟩ := cutG (fun v => v.1.due < u.1.due) (fun x y hR h => by unfold R at hR; omega) V hV
      have hVp := List.pairwise_append.1 hV
      have eW : W = V1 ++ u :: V2 := by
        refine R_unique (hp.trans (List.perm_middle (l₁ := V1) (l₂ := V2) (a := u)).symm) hr ?_
        rw [List.pairwise_append, List.pairwise_cons]
        refine ⟨hVp.1, ⟨fun w hw => ?_, hVp.2.1⟩, fun v hv1 w hw => ?_⟩
        · have g1 := h2 w hw
          have g2 := ht u (by simp) w (by simp [hw])
          unfold R; omega
        · rcases List.mem_cons.1 hw with rfl | hw
          · exact .inl (h1 v hv1)
          · exact hVp.2.2 v hv1 w hw
      have h := sm_one A u V1 V2 B hV h1 (fun v hv1 => by have := h2 v hv1; omega) N (by rw [hN, hb, hm, ha]; rfl) hN2
      have e1 : m = A.length + 1 := by rw [hm, ha]; rfl
      have e2 : b = A.length + 1 + (V1 ++ V2).length := by rw [hb, e1]
      rw [ha, e1, e2, hz0, hz1, eW]
      exact h
    by_cases c2 : V.length = 1
    · obtain ⟨v, rfl⟩ := List.length_eq_one_iff.1 c2
      obtain ⟨U1, U2, rfl, h1, h2⟩ := cutG (fun u => u.1.due ≤ v.1.due) (fun x y hR h => by unfold R at hR; omega) U hU
      have hUp := List.pairwise_append.1 hU
      have eW : W = U1 ++ v :: U2 := by
        refine R_unique (hp.trans ?_) hr ?_
        · rw [List.append_assoc]
          exact List.Perm.append_left _ (List.perm_append_comm (l₁ := U2) (l₂ := [v]))
        rw [List.pairwise_append, List.pairwise_cons]
        refine ⟨hUp.1, ⟨fun w hw => ?_, hUp.2.1⟩, fun u hu1 w hw => ?_⟩
        · have g1 := h2 w hw
          unfold R; omega
        · rcases List.mem_cons.1 hw with rfl | hw
          · have g1 := h1 u hu1
            have g2 := ht u (by simp [hu1]) w (by simp)
            unfold R; omega
          · exact hUp.2.2 u hu1 w hw
      have h := sm_last A v U1 U2 B hU (by omega) h1 (fun u hu1 => by have := h2 u hu1; omega) N (by rw [hN, hb, hm, ha]; rfl) hN2
      have e1 : m = A.length + (U1 ++ U2).length := by rw [hm, ha]
      have e2 : b = A.length + (U1 ++ U2).length + 1 := by rw [hb, e1]; rfl
      rw [ha, e1, e2, hz0, hz1, eW]
      exact h
    · have h := sm_gen n (sm_all n) A U V B W hn hU hV ht hp hr (by omega) (by omega) N (by omega) hN2
      rw [ha, hm, hb, hm, ha, hz0, hz1] at *
      exact h
/-- Blocks that are sorted, each. -/
inductive BS (s : Nat) : List TG → List TG → Prop
  | last {P W : List TG} : P.length ≤ s → W.Perm P → W.Pairwise R → BS s P W
  | cons {P W T' W' : List TG} : P.length = s → W.Perm P → W.Pairwise R → BS s T' W' → BS s (P ++ T') (W ++ W')
theorem BS.len {s : Nat} {T W : List TG} (h : BS s T W) : W.length = T.length := by
  induction h with
  | last h1 h2 h3 => exact h2.length_eq
  | cons h1 h2 h3 _ ih => rw [List.length_append, List.length_append, h2.length_eq, ih]
theorem BS.split {s : Nat} {T W : List TG} (h : BS s T W) (hl : s ≤ T.length) : ∃ P X T' W' : List TG, T = P ++ T' ∧ W = X ++ W' ∧ P.length = s ∧ X.Perm P ∧ X.Pairwise R ∧ BS s T' W' := by
  cases h with
  | last h1 h2 h3 => exact ⟨T, W, [], [], by simp, by simp, by omega, h2, h3, .last (by simp) (List.Perm.refl _) List.Pairwise.nil⟩
  | cons h1 h2 h3 h4 => exact ⟨_, _, _, _, rfl, rfl, h1, h2, h3, h4⟩
theorem BS.whole {s : Nat} {T W : List TG} (h : BS s T W) (hl : T.length ≤ s) : W.Perm T ∧ W.Pairwise R := by
  cases h with
  | last h1 h2 h3 => exact ⟨h2, h3⟩
  | @cons P X T' W' h1 h2 h3 h4 =>
    rw [List.length_append] at hl
    have e1 : T' = [] := List.length_eq_zero_iff.1 (by omega)
    subst e1
    have e2 : W' = [] := List.length_eq_zero_iff.1 (by rw [h4.len]; rfl)
    subst e2
    simpa using ⟨h2, h3⟩
abbrev TgI (T : List TG) : Prop := T.Pairwise fun x y => x.2 < y.2
theorem TgI.DR {T : List TG} (h : TgI T) : T.Pairwise DR := h.imp fun {x y} h => by unfold AEX.DR R; omega
theorem insG (A P B Y : List TG) (hP : TgI P) (hp : Y.Perm P) (hr : Y.Pairwise R) (a b N : Nat) (ha : a = A.length) (hb : b = a + P.length) (hN : N = b + B.length) (hN2 : N ≤ 100000) :
    Tri Try.prog 36 [.sl 0 0 N N false, .int .i64 (a : Nat), .int .i64 (b : Nat), .fn 23 [] []] [.row 4 (terows (mTE (A ++ (P ++ B))))]
      (fun v q => v = .tup [] ∧ q = [.row 4 (terows (mTE (A ++ (Y ++ B))))]) := by
  have h := insertion_spec (mTE (A ++ (P ++ B))) N a b (by rw [mTE_len]; simp only [List.length_append]; omega) (by omega) (by omega) (by omega)
  have e : insI TE.due a (b - (a + 1)) (mTE (A ++ (P ++ B))) (a + 1) = mTE (A ++ (Y ++ B)) := by
    cases P with
    | nil =>
      have : Y = [] := by simpa using hp.length_eq
      subst this
      rw [show b - (a + 1) = 0 by simp at hb; omega, insI_none]
    | cons x T =>
      have hP := List.pairwise_cons.1 hP
      obtain ⟨W, w1, w2, w3⟩ := insI_at A T [x] B (by simp) (by simp [List.pairwise_iff_forall_sublist]) (fun s hs t ht => by simp at hs; subst hs; exact hP.1 t ht) hP.2
      have eY : Y = W := R_unique (hp.trans (by simpa using w2.symm)) hr w3
      rw [eY]
      have e2 : A ++ (x :: T ++ B) = A ++ [x] ++ (T ++ B) := by simp
      rw [e2]
      unfold mTE
      rw [show b - (a + 1) = T.length by rw [hb, List.length_cons]; omega, ha, ← insI_map]
      have w1 : insI (fun x : TG => TE.due x.1) A.length T.length (A ++ [x] ++ (T ++ B)) (A.length + 1) = A ++ W ++ B := w1
      rw [w1, List.append_assoc]
  rw [e] at h
  exact h
theorem TgI.left {X Y : List TG} (h : TgI (X ++ Y)) : TgI X := (List.pairwise_append.1 h).1
theorem TgI.right {X Y : List TG} (h : TgI (X ++ Y)) : TgI Y := (List.pairwise_append.1 h).2.1
theorem TgI.cross {X Y : List TG} (h : TgI (X ++ Y)) : ∀ x ∈ X, ∀ y ∈ Y, x.2 < y.2 := (List.pairwise_append.1 h).2.2
structure S1 (T0 : List TG) (D T1 : List TG) : Prop where
  len : D.length + T1.length = T0.length
  tg : TgI T1
  go : ∀ W2, BS 20 T1 W2 → BS 20 T0 (D ++ W2)
structure S2 (s : Nat) (T0 : List TG) (D T1 W1 : List TG) : Prop where
  len : D.length + T1.length = T0.length
  tg : TgI T1
  bs : BS s T1 W1
  go : ∀ W2, BS (2 * s) T1 W2 → BS (2 * s) T0 (D ++ W2)
set_option maxHeartbeats 40000000 in
theorem stable_spec (L : List TE) (hL : L.length ≤ 100000) : Tri Try.prog 33 [.sl 0 0 L.length L.length false, .int .i64 L.length, .fn 23 [] []] [.row 4 (terows L)]
    (fun v m => v = .tup [] ∧ m = [.row 4 (terows (stab L))]) := by
  refine Tri.post ?_
  have hT0 : mTE L.zipIdx = L := by simp [mTE]
  have hTg : TgI L.zipIdx := zip_tags L
  have hTl : L.zipIdx.length = L.length := by simp
  have hend : ∀ W : List TG, W.Perm L.zipIdx → W.Pairwise R → mTE W = stab L := fun W h1 h2 => stab_of h1 h2
  have e1 : terows L = terows (mTE L.zipIdx) := by rw [hT0]
  rw [e1]
  generalize stab L = ST at *
  generalize L.zipIdx = T0 at *
  generalize hN : L.length = N at *
  clear hT0 e1
  refine (Tri.enter (rl := r33) (code := c33) (by kernel_rfl) Try.func33 rfl c33_ok (by kernel_rfl) (by kernel_rfl) ?_)
  refine run_ok 4000 _ _ _ _ ?_
  simp (maxSteps := 10000000) only [go_sem, c33, r33]
  refine sem_rounds (fun q : List TG × List TG => S1 T0 q.1 q.2)
    (fun q => [(0, .sl 0 0 N N false), (1, .int .i64 N), (2, .fn 23 [] []), (6, .int .i64 20), (7, .int .i64 (q.1.length : Nat)), (8, .int .i64 (q.1.length + 20 : Nat))])
    (fun q => [.row 4 (terows (mTE (q.1 ++ q.2)))]) (fun q => q.2.length) ([], T0) [0] ⟨by simp, hTg, fun W h => h⟩ ?_ ?_
  · simp [Emb, go_sem]
  rintro ⟨D, T1⟩ ⟨hl, htg, hgo⟩
  simp only at hl htg hgo ⊢
  by_cases hlt : D.length + 20 ≤ N
  · have hin : ((D.length + 20 : Nat) : Int) ≤ (N : Int) := by omega
    have eT : T1.take 20 ++ T1.drop 20 = T1 := List.take_append_drop ..
    have l1 : (T1.take 20).length = 20 := by simp; omega
    have l2 : (T1.drop 20).length = T1.length - 20 := by simp
    rw [← eT] at htg hgo ⊢
    generalize T1.take 20 = P at *
    generalize T1.drop 20 = T3 at *
    obtain ⟨Y, py, ry⟩ := srt_ex P htg.left.DR
    have hi := insG D P T3 Y htg.left py ry D.length (D.length + 20) N rfl (by omega) (by omega) (by omega)
    have lY := py.length_eq
    have w1 : iwrap .i64 (((D.length + 20 : Nat) : Int) + 20) = ((D.length + 20 + 20 : Nat) : Int) := by rw [iwrap_i64_in (by omega)]; omega
    have lD : (D ++ Y).length = D.length + 20 := by rw [List.length_append]; omega
    skip
    refine run_ok 4000 _ _ _ _ ?_
    simp (maxSteps := 10000000) only [go_sem, hin, w1]
    refine sem_call rfl rfl (((hi).embed [0] rfl (by repeat' first | exact trivial | rfl | (simp only [go_sem]; done) | constructor) rfl (by first | rfl | simp only [go_sem]) rfl (by simp)).mono ?_)
    rintro _ _ ⟨_, _, ⟨rfl, rfl⟩, rfl, rfl⟩
    refine run_ok 4000 _ _ _ _ ?_
    simp (maxSteps := 10000000) only [go_sem, hin, w1]
    refine ⟨(D ++ Y, T3), by simp only [List.length_append]; omega, ⟨by simp only; omega, htg.right, fun W2 h => ?_⟩, [0], ?_⟩
    · simp only [List.append_assoc]
      exact hgo _ (.cons l1 py ry h)
    · simp only [Emb, go_sem, lD, List.append_assoc]
  have hge : ¬ ((D.length + 20 : Nat) : Int) ≤ (N : Int) := by omega
  obtain ⟨Y, py, ry⟩ := srt_ex T1 htg.DR
  have hi := insG D T1 [] Y htg py ry D.length N N rfl (by omega) (by simp) (by omega)
  simp only [List.append_nil] at hi
  have hbs := hgo Y (.last (by omega) py ry)
  generalize D ++ Y = W0 at *
  clear hgo
  skip
  refine run_ok 4000 _ _ _ _ ?_
  simp (maxSteps := 10000000) only [go_sem, hge]
  refine run_ok 4000 _ _ _ _ ?_
  simp (maxSteps := 10000000) only [go_sem, hge]
  refine sem_call rfl rfl (((hi).embed [0] rfl (by repeat' first | exact trivial | rfl | (simp only [go_sem]; done) | constructor) rfl (by first | rfl | simp only [go_sem]) rfl (by simp)).mono ?_)
  rintro _ _ ⟨_, _, ⟨rfl, rfl⟩, rfl, rfl⟩
  refine run_ok 4000 _ _ _ _ ?_
  simp (maxSteps := 10000000) only [go_sem, hge]
  clear hi
  refine sem_rounds (fun q : Nat × List TG => BS q.1 T0 q.2 ∧ 20 ≤ q.1 ∧ q.1 ≤ 2 * N + 20)
    (fun q => [(0, .sl 0 0 N N false), (1, .int .i64 N), (2, .fn 23 [] []), (6, .int .i64 (q.1 : Nat))])
    (fun q => [.row 4 (terows (mTE q.2))]) (fun q => N - q.1) (20, W0) [0] ⟨hbs, Nat.le_refl _, by simp only; omega⟩ ?_ ?_
  · simp [Emb, go_sem]
  clear hbs
  rintro ⟨s, W⟩ ⟨hbs, h20, hs2⟩
  simp only at hbs h20 hs2 ⊢
  by_cases hsn : s < N
  · have hin : (s : Int) < (N : Int) := by omega
    have w2 : iwrap .i64 (2 * (s : Int)) = ((2 * s : Nat) : Int) := by rw [iwrap_i64_in (by omega)]; omega
    have w3 : iwrap .i64 ((s : Int) * 2) = ((2 * s : Nat) : Int) := by rw [iwrap_i64_in (by omega)]; omega
    skip
    refine run_ok 4000 _ _ _ _ ?_
    simp (maxSteps := 10000000) only [go_sem, hin, w2]
    refine sem_rounds (fun q : List TG × List TG × List TG => S2 s T0 q.1 q.2.1 q.2.2)
      (fun q => [(0, .sl 0 0 N N false), (1, .int .i64 N), (2, .fn 23 [] []), (6, .int .i64 (s : Nat)), (7, .int .i64 (q.1.length : Nat)), (8, .int .i64 (q.1.length + 2 * s : Nat))])
      (fun q => [.row 4 (terows (mTE (q.1 ++ q.2.2)))]) (fun q => q.2.1.length) ([], T0, W) [0] ⟨by simp, hTg, hbs, fun W2 h => h⟩ ?_ ?_
    · simp [Emb, go_sem]
    clear hbs
    rintro ⟨D, T1, W1⟩ ⟨hl, htg, hb1, hgo⟩
    simp only at hl htg hb1 hgo ⊢
    have w4 : iwrap .i64 ((D.length : Int) + (s : Int)) = ((D.length + s : Nat) : Int) := by rw [iwrap_i64_in (by omega)]; omega
    by_cases hlt : D.length + 2 * s ≤ N
    · have hin2 : ((D.length + 2 * s : Nat) : Int) ≤ (N : Int) := by omega
      obtain ⟨P1, X1, T2, W2, rfl, rfl, lP1, pX1, rX1, hb2⟩ := hb1.split (by omega)
      rw [List.length_append] at hl
      obtain ⟨P2, X2, T3, W3, rfl, rfl, lP2, pX2, rX2, hb3⟩ := hb2.split (by omega)
      rw [List.length_append] at hl
      have htgP : TgI (P1 ++ P2) := by rw [← List.append_assoc] at htg; exact htg.left
      obtain ⟨Y, py, ry⟩ := srt_ex (P1 ++ P2) htgP.DR
      have lX1 := pX1.length_eq
      have lX2 := pX2.length_eq
      have lY := py.length_eq
      have lW3 := hb3.len
      rw [List.length_append] at lY
      have hm := sm_all (X1.length + X2.length) D X1 X2 W3 Y (Nat.le_refl _) rX1 rX2 (fun u hu v hv => htgP.cross u (pX1.subset hu) v (pX2.subset hv)) (py.trans (pX1.append pX2).symm) ry (by omega) (by omega)
        D.length (D.length + s) (D.length + 2 * s) N rfl (by omega) (by omega) (by omega) (by omega) _ _ rfl rfl
      have w5 : iwrap .i64 (((D.length + 2 * s : Nat) : Int) + ((2 * s : Nat) : Int)) = ((D.length + 2 * s + 2 * s : Nat) : Int) := by rw [iwrap_i64_in (by omega)]; omega
      have lD : (D ++ Y).length = D.length + 2 * s := by rw [List.length_append]; omega
      skip
      refine run_ok 4000 _ _ _ _ ?_
      simp (maxSteps := 10000000) only [go_sem, hin2, w2, w4, w5]
      refine sem_call rfl rfl (((hm).embed [0] rfl (by repeat' first | exact trivial | rfl | (simp only [go_sem]; done) | constructor) rfl (by first | rfl | simp only [go_sem]) rfl (by simp)).mono ?_)
      rintro _ _ ⟨_, _, ⟨rfl, rfl⟩, rfl, rfl⟩
      refine run_ok 4000 _ _ _ _ ?_
      simp (maxSteps := 10000000) only [go_sem, hin2, w2, w4, w5]
      refine ⟨(D ++ Y, T3, W3), by simp only [List.length_append]; omega, ⟨by simp only; omega, htg.right.right, hb3, fun W2 h => ?_⟩, [0], ?_⟩
      · simp only [List.append_assoc]
        have h : BS (2 * s) T3 W2 := h
        have h4 : BS (2 * s) ((P1 ++ P2) ++ T3) (Y ++ W2) := .cons (by rw [List.length_append]; omega) py ry h
        rw [List.append_assoc] at h4
        exact hgo _ h4
      · simp only [Emb, go_sem, lD, List.append_assoc]
    have hge2 : ¬ ((D.length + 2 * s : Nat) : Int) ≤ (N : Int) := by omega
    by_cases hmn : D.length + s < N
    · have hmi : ((D.length + s : Nat) : Int) < (N : Int) := by omega
      obtain ⟨P1, X1, T2, W2, rfl, rfl, lP1, pX1, rX1, hb2⟩ := hb1.split (by omega)
      rw [List.length_append] at hl
      obtain ⟨pW2, rW2⟩ := hb2.whole (by omega)
      obtain ⟨Y, py, ry⟩ := srt_ex (P1 ++ T2) htg.DR
      have lX1 := pX1.length_eq
      have lW2 := pW2.length_eq
      have lY := py.length_eq
      rw [List.length_append] at lY
      have hm := sm_all (X1.length + W2.length) D X1 W2 [] Y (Nat.le_refl _) rX1 rW2 (fun u hu v hv => htg.cross u (pX1.subset hu) v (pW2.subset hv)) (py.trans (pX1.append pW2).symm) ry (by omega) (by omega)
        D.length (D.length + s) N N rfl (by omega) (by omega) (by simp) (by omega) _ _ rfl rfl
      simp only [List.append_nil] at hm
      have hbs2 := hgo Y (.last (by rw [List.length_append]; omega) py ry)
      skip
      refine run_ok 4000 _ _ _ _ ?_
      simp (maxSteps := 10000000) only [go_sem, hge2, w3, w4, hmi]
      refine run_ok 4000 _ _ _ _ ?_
      simp (maxSteps := 10000000) only [go_sem, hge2, w3, w4, hmi]
      refine sem_call rfl rfl (((hm).embed [0] rfl (by repeat' first | exact trivial | rfl | (simp only [go_sem]; done) | constructor) rfl (by first | rfl | simp only [go_sem]) rfl (by simp)).mono ?_)
      rintro _ _ ⟨_, _, ⟨rfl, rfl⟩, rfl, rfl⟩
      refine run_ok 4000 _ _ _ _ ?_
      simp (maxSteps := 10000000) only [go_sem, hge2, w3, w4, hmi]
      refine ⟨(2 * s, D ++ Y), by simp only; omega, ⟨hbs2, by simp only; omega, by simp only; omega⟩, [0], ?_⟩
      simp only [Emb, go_sem]
    · have hmi : ¬ ((D.length + s : Nat) : Int) < (N : Int) := by omega
      obtain ⟨pW, rW⟩ := hb1.whole (by omega)
      have hbs2 := hgo W1 (.last (by omega) pW rW)
      skip
      refine run_ok 4000 _ _ _ _ ?_
      simp (maxSteps := 10000000) only [go_sem, hge2, w3, w4, hmi]
      refine run_ok 4000 _ _ _ _ ?_
      simp (maxSteps := 10000000) only [go_sem, hge2, w3, w4, hmi]
      refine ⟨(2 * s, D ++ W1), by simp only; omega, ⟨hbs2, by simp only; omega, by simp only; omega⟩, [0], ?_⟩
      simp only [Emb, go_sem]
  · have hge2 : ¬ (s : Int) < (N : Int) := by omega
    obtain ⟨pW, rW⟩ := hbs.whole (by omega)
    rw [hend W pW rW]
    skip
    refine run_ok 4000 _ _ _ _ ?_
    simp (maxSteps := 10000000) only [go_sem, hge2]
    refine run_ok 4000 _ _ _ _ ?_
    simp (maxSteps := 10000000) only [go_sem, hge2]
    refine ⟨_, _, .sub [0] ?_ .done, rfl, rfl⟩
    simp only [EmbV, go_sem]
theorem due_any (f m now : Int) (l : List TE) (hl : l.length ≤ 10000) (hok : TmOk l) (hm : 0 ≤ m ∧ m ≤ 10000000) (hnow : 0 ≤ now ∧ now ≤ 10000000) :
    Tri Try.prog 11 [.pbox 0 0, .int .i64 now] (tmM f m l) (fun v q => v = .vsl 1 (uv (numsT (stab (dueL now l)))) false ∧ q = tmM f m (l.map (updE m now))) :=
  due_spec f m now l hl hok hm hnow (sortStable_of _ (stable_spec _ (Nat.le_trans (List.length_filter_le _ _) (by omega))))
end Go.AEX
