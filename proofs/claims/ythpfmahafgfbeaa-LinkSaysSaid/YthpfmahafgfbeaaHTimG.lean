/- Turned to this seat by turn.py: TimG.lean TimK.lean TimL.lean. -/
import Derived.Test.YthpfmahafgfbeaaHTim
import Derived.Test.YthpfmahafgfbeaaAEzh
import Derived.Test.YthpfmahafgfbeaaAEzj
namespace Go.AEX
open Go Go.AE Go.Proofs
set_option maxRecDepth 100000
set_option linter.unusedVariables false
set_option linter.unusedSimpArgs false

abbrev Cnt := List (Int × Int)
def cget : Cnt → Int → Option Int
  | [], _ => none
  | p :: D, k => if k = p.1 then some p.2 else cget D k
def cput : Cnt → Int → Int → Cnt
  | [], k, v => [(k, v)]
  | p :: D, k, v => if k = p.1 then (p.1, v) :: D else p :: cput D k v
def gme (D : Cnt) : List (AV × AV) := D.map fun p => (AV.int .u32 p.1, AV.int .i64 p.2)
theorem gme_ok : ∀ (D : Cnt) (k : Int), keysOk (gme D) (.int .u32 k)
  | [], _ => trivial
  | p :: D, k => ⟨rfl, gme_ok D k⟩
theorem gme_find {k : Int} : ∀ {D : Cnt}, mfind (gme D) (.int .u32 k) = (cget D k).map (AV.int .i64)
  | [] => rfl
  | p :: D => by
    have ih := gme_find (k := k) (D := D)
    show (bif keq (.int .u32 k) (.int .u32 p.1) then some (AV.int .i64 p.2) else mfind (gme D) (.int .u32 k)) = _
    rw [ih]
    have hq : keq (.int .u32 k) (.int .u32 p.1) = decide (k = p.1) := by simp only [keq]; rw [Bool.eq_iff_iff]; simp [show kd IntKind.u32 IntKind.u32 = true from rfl]
    rw [hq]
    by_cases e : k = p.1
    · rw [cget, if_pos e, decide_eq_true e]; rfl
    · rw [cget, if_neg e, decide_eq_false e]; rfl
theorem gme_int {k : Int} {D : Cnt} : mint (gme D) (.int .u32 k) = (cget D k).getD 0 := by
  unfold mint; rw [gme_find]; cases cget D k <;> rfl
theorem gme_val {k : Int} {D : Cnt} : valI .i64 (gme D) (.int .u32 k) := by
  intro v hv
  rw [gme_find] at hv
  cases hc : cget D k with
  | none => rw [hc] at hv; cases hv
  | some n => rw [hc] at hv; cases hv; exact ⟨n, rfl⟩
theorem gme_put {k : Int} (v : Int) : ∀ {D : Cnt}, mset (gme D) (.int .u32 k) (.int .i64 v) = gme (cput D k v)
  | [] => rfl
  | p :: D => by
    have ih := gme_put (k := k) v (D := D)
    show (bif keq (.int .u32 k) (.int .u32 p.1) then (AV.int .u32 p.1, AV.int .i64 v) :: gme D else (AV.int .u32 p.1, AV.int .i64 p.2) :: mset (gme D) (.int .u32 k) (.int .i64 v)) = _
    rw [ih]
    have hq : keq (.int .u32 k) (.int .u32 p.1) = decide (k = p.1) := by simp only [keq]; rw [Bool.eq_iff_iff]; simp [show kd IntKind.u32 IntKind.u32 = true from rfl]
    rw [hq]
    by_cases e : k = p.1
    · rw [cput, if_pos e, decide_eq_true e]; rfl
    · rw [cput, if_neg e, decide_eq_false e]; rfl
theorem gme_len (D : Cnt) : (gme D).length = D.length := by simp [gme]
theorem gme_ids (k : Nat) : ∀ (D : Cnt), idsP k (gme D) = true
  | [] => rfl
  | p :: D => by
    have := gme_ids k D
    simp only [gme, List.map_cons] at this ⊢
    simp only [idsP, ids, this]; rfl
theorem gme_ren (π : List Nat) (N : Nat) : ∀ (D : Cnt), renP π N (gme D) = gme D
  | [] => rfl
  | p :: D => by
    have := gme_ren π N D
    simp only [gme, List.map_cons] at this ⊢
    simp only [renP, ren, this]
attribute [go_sem] gme_ids gme_ren gme_ok gme_len
theorem cget_mem {k v : Int} : ∀ {D : Cnt}, cget D k = some v → (k, v) ∈ D
  | [], h => by simp [cget] at h
  | p :: D, h => by
    unfold cget at h
    by_cases e : k = p.1
    · rw [if_pos e] at h; cases h; subst e; simp
    · rw [if_neg e] at h; have := cget_mem h; simp [this]
theorem cput_mem {k v : Int} : ∀ {D : Cnt} {p : Int × Int}, p ∈ cput D k v → p = (k, v) ∨ p ∈ D
  | [], p, h => by simp [cput] at h; exact .inl h
  | q :: D, p, h => by
    unfold cput at h
    by_cases e : k = q.1
    · rw [if_pos e] at h
      rcases List.mem_cons.1 h with rfl | h
      · exact .inl (by rw [e])
      · exact .inr (by simp [h])
    · rw [if_neg e] at h
      rcases List.mem_cons.1 h with rfl | h
      · exact .inr (by simp)
      · rcases cput_mem h with h | h
        · exact .inl h
        · exact .inr (by simp [h])
theorem cput_keys {k v : Int} : ∀ {D : Cnt}, (cput D k v).map (·.1) = if (∃ p ∈ D, p.1 = k) then D.map (·.1) else D.map (·.1) ++ [k]
  | [] => by simp [cput]
  | q :: D => by
    unfold cput
    by_cases e : k = q.1
    · rw [if_pos e, if_pos ⟨q, by simp, e.symm⟩]; rfl
    · rw [if_neg e, List.map_cons, cput_keys (D := D)]
      by_cases h : ∃ p ∈ D, p.1 = k
      · rw [if_pos h, if_pos (by obtain ⟨p, hp, he⟩ := h; exact ⟨p, by simp [hp], he⟩)]; rfl
      · rw [if_neg h, if_neg (by
          rintro ⟨p, hp, he⟩
          rcases List.mem_cons.1 hp with rfl | hp
          · exact e he.symm
          · exact h ⟨p, hp, he⟩)]
        rfl
theorem cput_has {k v : Int} {D : Cnt} {x : Int} : (∃ p ∈ cput D k v, p.1 = x) ↔ x = k ∨ ∃ p ∈ D, p.1 = x := by
  have h := cput_keys (k := k) (v := v) (D := D)
  have e1 : (∃ p ∈ cput D k v, p.1 = x) ↔ x ∈ (cput D k v).map (·.1) := by simp [List.mem_map]
  have e2 : (∃ p ∈ D, p.1 = x) ↔ x ∈ D.map (·.1) := by simp [List.mem_map]
  rw [e1, e2, h]
  split
  · rename_i hk
    constructor
    · exact .inr
    · rintro (rfl | h)
      · obtain ⟨p, hp, he⟩ := hk
        exact List.mem_map.2 ⟨p, hp, he⟩
      · exact h
  · rw [List.mem_append]; simp [or_comm]
theorem cput_nd {k v : Int} {D : Cnt} (h : (D.map (·.1)).Nodup) : ((cput D k v).map (·.1)).Nodup := by
  rw [cput_keys]
  split
  · exact h
  · rename_i hk
    rw [List.nodup_append]
    refine ⟨h, by simp, fun a ha b hb => ?_⟩
    simp at hb; subst hb
    obtain ⟨p, hp, rfl⟩ := List.mem_map.1 ha
    exact fun e => hk ⟨p, hp, e⟩
structure CtI (n : Int) (p : List Int) (D : Cnt) : Prop where
  nd : (D.map (·.1)).Nodup
  has : ∀ x, (∃ q ∈ D, q.1 = x) ↔ x ∈ p ∧ x < n
  ge : ∀ q ∈ D, 1 ≤ q.2
  le : ∀ q ∈ D, q.2 ≤ p.length
theorem CtI.begin (n : Int) : CtI n [] [] := ⟨by simp, by simp, by simp, by simp⟩
theorem CtI.skip {n : Int} {p : List Int} {D : Cnt} (h : CtI n p D) {x : Int} (hx : ¬ x < n) : CtI n (p ++ [x]) D := by
  refine ⟨h.nd, fun y => ?_, h.ge, fun q hq => ?_⟩
  · rw [h.has y, List.mem_append, List.mem_singleton]
    constructor
    · exact fun ⟨a, b⟩ => ⟨.inl a, b⟩
    · rintro ⟨a | rfl, b⟩
      · exact ⟨a, b⟩
      · exact absurd b hx
  · have := h.le q hq; rw [List.length_append]; simp; omega
theorem cget_rg {n : Int} {p : List Int} {D : Cnt} (h : CtI n p D) (x : Int) : 0 ≤ (cget D x).getD 0 ∧ (cget D x).getD 0 ≤ p.length := by
  cases hc : cget D x with
  | none => simp
  | some v => have a := h.ge _ (cget_mem hc); have b := h.le _ (cget_mem hc); simp only [Option.getD_some]; simp only at a b; omega
theorem CtI.put {n : Int} {p : List Int} {D : Cnt} (h : CtI n p D) {x : Int} (hx : x < n) : CtI n (p ++ [x]) (cput D x ((cget D x).getD 0 + 1)) := by
  have hr := cget_rg h x
  refine ⟨cput_nd h.nd, fun y => ?_, fun q hq => ?_, fun q hq => ?_⟩
  · rw [cput_has, h.has y, List.mem_append, List.mem_singleton]
    constructor
    · rintro (rfl | ⟨a, b⟩)
      · exact ⟨.inr rfl, hx⟩
      · exact ⟨.inl a, b⟩
    · rintro ⟨a | rfl, b⟩
      · exact .inr ⟨a, b⟩
      · exact .inl rfl
  · rcases cput_mem hq with rfl | hq
    · simp only; omega
    · exact h.ge q hq
  · rw [List.length_append, List.length_singleton]
    rcases cput_mem hq with rfl | hq
    · simp only; omega
    · have := h.le q hq; omega
theorem CtI.len {k : Nat} {p : List Int} {D : Cnt} (h : CtI k p D) (hp : ∀ x ∈ p, 0 ≤ x) : D.length = ((List.range k).filter fun j : Nat => decide ((j : Int) ∈ p)).length := by
  have hq : (D.map (·.1)).Perm (((List.range k).filter fun j : Nat => decide ((j : Int) ∈ p)).map fun j : Nat => (j : Int)) := by
    rw [List.perm_ext_iff_of_nodup h.nd]
    · intro x
      have := h.has x
      have e1 : x ∈ D.map (·.1) ↔ ∃ q ∈ D, q.1 = x := by simp [List.mem_map]
      rw [e1, this]
      simp only [List.mem_map, List.mem_filter, List.mem_range, decide_eq_true_iff]
      constructor
      · rintro ⟨a, b⟩
        have := hp x a
        exact ⟨x.toNat, ⟨by omega, by rw [Int.toNat_of_nonneg this]; exact a⟩, by omega⟩
      · rintro ⟨j, ⟨a, b⟩, rfl⟩
        exact ⟨b, by omega⟩
    · rw [List.nodup_iff_pairwise_ne, List.pairwise_map]
      refine List.Pairwise.imp (fun h h2 => ?_) (List.nodup_iff_pairwise_ne.1 (List.Pairwise.filter _ List.nodup_range))
      exact h (by omega)
  have := hq.length_eq
  simpa using this
theorem CtI.get {n : Int} {p : List Int} {D : Cnt} (h : CtI n p D) {x : Int} (hx : x ∉ p) : cget D x = none := by
  cases hc : cget D x with
  | none => rfl
  | some v => exact absurd ((h.has x).1 ⟨_, cget_mem hc, rfl⟩).1 hx
theorem swp_mid {α : Type} (P Q S : List α) (x y : α) : swp (P ++ x :: (Q ++ y :: S)) P.length (P.length + 1 + Q.length) = P ++ y :: (Q ++ x :: S) := by
  have h1 : P.length < (P ++ x :: (Q ++ y :: S)).length := by simp
  have h2 : P.length + 1 + Q.length < (P ++ x :: (Q ++ y :: S)).length := by simp; omega
  rw [swp_eq h1 h2]
  have g1 : (P ++ x :: (Q ++ y :: S))[P.length] = x := by simp
  have g2 : (P ++ x :: (Q ++ y :: S))[P.length + 1 + Q.length] = y := by
    rw [List.getElem_append_right (by omega)]
    simp only [show P.length + 1 + Q.length - P.length = Q.length + 1 by omega, List.getElem_cons_succ]
    simp
  rw [g1, g2, List.set_append_right _ _ (Nat.le_refl _)]
  simp only [Nat.sub_self, List.set_cons_zero]
  rw [List.set_append_right _ _ (by omega)]
  simp only [show P.length + 1 + Q.length - P.length = Q.length + 1 by omega, List.set_cons_succ]
  rw [List.set_append_right _ _ (Nat.le_refl _)]
  simp
def swT (A X M Y B : List TE) (k : Nat) : List TE := A ++ (Y.take k ++ (X.drop k ++ (M ++ (X.take k ++ (Y.drop k ++ B)))))
theorem swT_len (A X M Y B : List TE) (k : Nat) (hx : k ≤ X.length) (hy : k ≤ Y.length) : (swT A X M Y B k).length = A.length + X.length + M.length + Y.length + B.length := by
  unfold swT; simp; omega
theorem swT_step (A X M Y B : List TE) {k : Nat} (hx : k < X.length) (hy : k < Y.length) (he : X.length = Y.length) :
    ∃ (h1 : A.length + k < (swT A X M Y B k).length) (h2 : A.length + X.length + M.length + k < (swT A X M Y B k).length),
      swp (swT A X M Y B k) (A.length + k) (A.length + X.length + M.length + k) = swT A X M Y B (k + 1) := by
  have e : swT A X M Y B k = (A ++ Y.take k) ++ X[k] :: ((X.drop (k + 1) ++ (M ++ X.take k)) ++ Y[k] :: (Y.drop (k + 1) ++ B)) := by
    unfold swT
    rw [List.drop_eq_getElem_cons hx, List.drop_eq_getElem_cons hy]
    simp only [List.append_assoc, List.cons_append]
  have l1 : (A ++ Y.take k).length = A.length + k := by simp; omega
  have l2 : (A ++ Y.take k).length + 1 + (X.drop (k + 1) ++ (M ++ X.take k)).length = A.length + X.length + M.length + k := by simp; omega
  have hlen := swT_len A X M Y B k (by omega) (by omega)
  refine ⟨by omega, by omega, ?_⟩
  · have := swp_mid (A ++ Y.take k) (X.drop (k + 1) ++ (M ++ X.take k)) (Y.drop (k + 1) ++ B) X[k] Y[k]
    rw [← e, l2, l1] at this
    rw [this]
    unfold swT
    rw [List.take_succ_eq_append_getElem hx, List.take_succ_eq_append_getElem hy]
    simp only [List.append_assoc, List.cons_append, List.nil_append]
set_option maxHeartbeats 4000000 in
theorem swapRange_spec (A X M Y B : List TE) (he : X.length = Y.length) (N : Nat) (hN : N = A.length + X.length + M.length + Y.length + B.length) (hN2 : N ≤ 100000) :
    Tri Try.prog 98 [.sl 0 0 N N false, .int .i64 (A.length : Nat), .int .i64 (A.length + X.length + M.length : Nat), .int .i64 (X.length : Nat), .fn 67 [] []] [.row 4 (terows (A ++ (X ++ (M ++ (Y ++ B)))))]
      (fun v m => v = .tup [] ∧ m = [.row 4 (terows (A ++ (Y ++ (M ++ (X ++ B)))))]) := by
  refine Tri.post ?_
  have h0 : A ++ (X ++ (M ++ (Y ++ B))) = swT A X M Y B 0 := by simp [swT]
  have h9 : A ++ (Y ++ (M ++ (X ++ B))) = swT A X M Y B X.length := by unfold swT; rw [show Y.take X.length = Y by rw [he]; simp, show Y.drop X.length = [] by rw [he]; simp]; simp
  rw [h0, h9]
  have hst := fun k (h1 : k < X.length) => swT_step A X M Y B h1 (by omega : k < Y.length) he
  have hln := fun k (h1 : k ≤ X.length) => swT_len A X M Y B k h1 (by omega)
  generalize hZ : swT A X M Y B = Z at *
  generalize ha : A.length = a at *
  generalize hb : a + X.length + M.length = b at *
  generalize hn : X.length = n at *
  refine (Tri.enter (rl := r98) (code := c98) (by kernel_rfl) Try.func98 rfl c98_ok (by kernel_rfl) (by kernel_rfl) ?_)
  refine run_ok 4000 _ _ _ _ ?_
  simp (maxSteps := 10000000) only [go_sem, c98, r98]
  refine sem_rounds (fun k : Nat => k ≤ n)
    (fun k => [(0, .sl 0 0 N N false), (1, .int .i64 a), (2, .int .i64 b), (3, .int .i64 n), (10, .int .i64 k)])
    (fun k => [.row 4 (terows (Z k))]) (fun k => n - k) 0 [0] (Nat.zero_le _) ?_ ?_
  · simp [Emb, go_sem]
  intro k hk
  by_cases hlt : k < n
  · obtain ⟨h1, h2, g3⟩ := hst k (by omega)
    have hl := hln k (by omega)
    have hin : (k : Int) < (n : Int) := by omega
    have w1 : iwrap .i64 ((a : Int) + (k : Int)) = ((a + k : Nat) : Int) := by rw [iwrap_i64_in (by omega)]; omega
    have w2 : iwrap .i64 ((b : Int) + (k : Int)) = ((b + k : Nat) : Int) := by rw [iwrap_i64_in (by omega)]; omega
    have c1 : ((a + k : Nat) : Int) < (N : Int) := by omega
    have c2 : ((b + k : Nat) : Int) < (N : Int) := by omega
    have p0 := te_r0 h1; have p1 := te_r1 h1; have p2 := te_r2 h1; have p3 := te_r3 h1
    have q0 := te_r0 h2; have q1 := te_r1 h2; have q2 := te_r2 h2; have q3 := te_r3 h2
    have hsw := swp_eq h1 h2
    have hput1 := te_rput h1 (Z k)[b + k]
    have h2' : b + k < ((Z k).set (a + k) (Z k)[b + k]).length := by rw [List.length_set]; exact h2
    have hput2 := te_rput h2' (Z k)[a + k]
    have hin1 := te_inR h1
    have hin2 := te_inR h2'
    rw [← hsw, g3] at hput2
    generalize (Z k).set (a + k) (Z k)[b + k] = L1 at *
    generalize (Z k)[a + k] = x at *
    generalize (Z k)[b + k] = y at *
    skip
    refine run_ok 4000 _ _ _ _ ?_
    simp (maxSteps := 10000000) only [go_sem, hin, w1, w2, c1, c2, te_h0 h1, te_h1 h1, te_h2 h1, te_h3 h1, te_h0 h2, te_h1 h2, te_h2 h2, te_h3 h2, p0, p1, p2, p3, q0, q1, q2, q3, hput1, hput2, hin1, hin2, te_len, hl, Int.natCast_nonneg, Nat.zero_add, inc64 (show k < 1000000000000 by omega)]
    refine sem_drawG l98_0_ok (by kernel_rfl) ?_
    intro KK hKK
    simp (maxSteps := 10000000) only [go_sem, l98_0, hin, w1, w2, c1, c2, te_h0 h1, te_h1 h1, te_h2 h1, te_h3 h1, te_h0 h2, te_h1 h2, te_h2 h2, te_h3 h2, p0, p1, p2, p3, q0, q1, q2, q3, hput1, hput2, hin1, hin2, te_len, hl, Int.natCast_nonneg, Nat.zero_add, inc64 (show k < 1000000000000 by omega)]
    subst hKK
    simp (maxSteps := 10000000) only [go_sem, hin, w1, w2, c1, c2, te_h0 h1, te_h1 h1, te_h2 h1, te_h3 h1, te_h0 h2, te_h1 h2, te_h2 h2, te_h3 h2, p0, p1, p2, p3, q0, q1, q2, q3, hput1, hput2, hin1, hin2, te_len, hl, Int.natCast_nonneg, Nat.zero_add, inc64 (show k < 1000000000000 by omega)]
    refine ⟨k + 1, by omega, hlt, [0], ?_⟩
    simp only [Emb, go_sem]
  · have hge : ¬ (k : Int) < (n : Int) := by omega
    have hk : k = n := by omega
    subst hk
    skip
    refine run_ok 4000 _ _ _ _ ?_
    simp (maxSteps := 10000000) only [go_sem, hge]
    refine run_ok 4000 _ _ _ _ ?_
    simp (maxSteps := 10000000) only [go_sem, hge]
    refine ⟨_, _, .sub [0] ?_ .done, rfl, rfl⟩
    simp only [EmbV, go_sem]
def RtI (A U V B : List TE) (m : Nat) (P U' V' B' : List TE) : Prop :=
  P.length + U'.length = m ∧ 0 < U'.length ∧ 0 < V'.length ∧ P.length + U'.length + V'.length + B'.length = A.length + U.length + V.length + B.length ∧ P ++ (V' ++ (U' ++ B')) = A ++ (V ++ (U ++ B))
set_option maxHeartbeats 4000000 in
theorem rotate_spec (A U V B : List TE) (hU : 0 < U.length) (hV : 0 < V.length) (N : Nat) (hN : N = A.length + U.length + V.length + B.length) (hN2 : N ≤ 100000) :
    Tri Try.prog 97 [.sl 0 0 N N false, .int .i64 (A.length : Nat), .int .i64 (A.length + U.length : Nat), .int .i64 (A.length + U.length + V.length : Nat), .fn 67 [] []] [.row 4 (terows (A ++ (U ++ (V ++ B))))]
      (fun v m => v = .tup [] ∧ m = [.row 4 (terows (A ++ (V ++ (U ++ B))))]) := by
  refine Tri.post ?_
  have w1 : iwrap .i64 (((A.length + U.length : Nat) : Int) - (A.length : Nat)) = (U.length : Nat) := by rw [iwrap_i64_in (by omega)]; omega
  have w2 : iwrap .i64 (((A.length + U.length + V.length : Nat) : Int) - (A.length + U.length : Nat)) = (V.length : Nat) := by rw [iwrap_i64_in (by omega)]; omega
  have hbg : RtI A U V B (A.length + U.length) A U V B := ⟨rfl, hU, hV, rfl, rfl⟩
  generalize hm : A.length + U.length = m at *
  skip
  refine (Tri.enter (rl := r97) (code := c97) (by kernel_rfl) Try.func97 rfl c97_ok (by kernel_rfl) (by kernel_rfl) ?_)
  refine run_ok 4000 _ _ _ _ ?_
  simp (maxSteps := 10000000) only [go_sem, c97, r97, w1, w2]
  refine sem_rounds (fun q : (List TE × List TE) × List TE × List TE => RtI A U V B m q.1.1 q.1.2 q.2.1 q.2.2)
    (fun q => [(0, .sl 0 0 N N false), (2, .int .i64 m), (4, .fn 67 [] []), (10, .int .i64 q.1.2.length), (11, .int .i64 q.2.1.length)])
    (fun q => [.row 4 (terows (q.1.1 ++ (q.1.2 ++ (q.2.1 ++ q.2.2))))]) (fun q => q.1.2.length + q.2.1.length) ((A, U), V, B) [0] hbg ?_ ?_
  · simp [Emb, go_sem]
  rintro ⟨⟨P, U'⟩, V', B'⟩ ⟨h1, h2, h3, h4, h5⟩
  simp only at h1 h2 h3 h4 h5 ⊢
  by_cases c : U'.length = V'.length
  · have hs := swapRange_spec P U' [] V' B' c N (by simp; omega) hN2
    have c0 : ((U'.length : Int) != (V'.length : Int)) = false := by simp; omega
    have w3 : iwrap .i64 ((m : Int) - (U'.length : Nat)) = (P.length : Nat) := by rw [iwrap_i64_in (by omega)]; omega
    have e1 : P.length + U'.length + ([] : List TE).length = m := by simp; omega
    rw [e1] at hs
    simp only [List.nil_append] at hs
    rw [h5] at hs
    skip
    refine run_ok 4000 _ _ _ _ ?_
    simp (maxSteps := 10000000) only [go_sem, c0, w3]
    refine run_ok 4000 _ _ _ _ ?_
    simp (maxSteps := 10000000) only [go_sem, c0, w3]
    refine sem_call rfl rfl (((hs).embed [0] rfl (by repeat' first | exact trivial | rfl | (simp only [go_sem]; done) | constructor) rfl (by first | rfl | simp only [go_sem]) rfl (by simp)).mono ?_)
    rintro _ _ ⟨_, _, ⟨rfl, rfl⟩, rfl, rfl⟩
    refine run_ok 4000 _ _ _ _ ?_
    simp (maxSteps := 10000000) only [go_sem, c0, w3]
    refine ⟨_, _, .sub [0] ?_ .done, rfl, rfl⟩
    simp only [EmbV, go_sem]
  · have c0 : ((U'.length : Int) != (V'.length : Int)) = true := by simp; omega
    by_cases d : U'.length > V'.length
    · have d0 : (U'.length : Int) > (V'.length : Int) := by omega
      have l1 : (U'.take V'.length).length = V'.length := by simp; omega
      have l2 : (U'.drop V'.length).length = U'.length - V'.length := by simp
      have hs := swapRange_spec P (U'.take V'.length) (U'.drop V'.length) V' B' l1 N (by omega) hN2
      have eU : U'.take V'.length ++ (U'.drop V'.length ++ (V' ++ B')) = U' ++ (V' ++ B') := by rw [← List.append_assoc, List.take_append_drop]
      rw [eU] at hs
      have e1 : P.length + (U'.take V'.length).length + (U'.drop V'.length).length = m := by omega
      rw [e1, l1] at hs
      have w3 : iwrap .i64 ((m : Int) - (U'.length : Nat)) = (P.length : Nat) := by rw [iwrap_i64_in (by omega)]; omega
      have w4 : iwrap .i64 ((U'.length : Int) - (V'.length : Nat)) = ((U'.drop V'.length).length : Nat) := by rw [iwrap_i64_in (by omega)]; omega
      have hnx : RtI A U V B m (P ++ V') (U'.drop V'.length) (U'.take V'.length) B' := by
        refine ⟨by simp; omega, by omega, by omega, by simp; omega, ?_⟩
        rw [← h5, ← List.append_assoc (U'.take _), List.take_append_drop, List.append_assoc]
      generalize U'.take V'.length = U1 at *
      generalize U'.drop V'.length = U2 at *
      skip
      refine run_ok 4000 _ _ _ _ ?_
      simp (maxSteps := 10000000) only [go_sem, c0, d0, w3, w4]
      refine sem_call rfl rfl (((hs).embed [0] rfl (by repeat' first | exact trivial | rfl | (simp only [go_sem]; done) | constructor) rfl (by first | rfl | simp only [go_sem]) rfl (by simp)).mono ?_)
      rintro _ _ ⟨_, _, ⟨rfl, rfl⟩, rfl, rfl⟩
      refine run_ok 4000 _ _ _ _ ?_
      simp (maxSteps := 10000000) only [go_sem, c0, d0, w3, w4]
      refine ⟨((P ++ V', U2), U1, B'), by simp only; omega, hnx, [0], ?_⟩
      simp only [Emb, go_sem, l1, List.append_assoc]
    · have d0 : ¬ (U'.length : Int) > (V'.length : Int) := by omega
      have l1 : (V'.take (V'.length - U'.length)).length = V'.length - U'.length := by simp
      have l2 : (V'.drop (V'.length - U'.length)).length = U'.length := by simp; omega
      have hs := swapRange_spec P U' (V'.take (V'.length - U'.length)) (V'.drop (V'.length - U'.length)) B' l2.symm N (by omega) hN2
      have eV : V'.take (V'.length - U'.length) ++ (V'.drop (V'.length - U'.length) ++ B') = V' ++ B' := by rw [← List.append_assoc, List.take_append_drop]
      rw [eV] at hs
      have w3 : iwrap .i64 ((m : Int) - (U'.length : Nat)) = (P.length : Nat) := by rw [iwrap_i64_in (by omega)]; omega
      have w4 : iwrap .i64 ((m : Int) + (V'.length : Nat)) = ((m + V'.length : Nat) : Int) := by rw [iwrap_i64_in (by omega)]; omega
      have w5 : iwrap .i64 (((m + V'.length : Nat) : Int) - (U'.length : Nat)) = ((P.length + U'.length + (V'.take (V'.length - U'.length)).length : Nat) : Int) := by rw [iwrap_i64_in (by omega)]; omega
      have w6 : iwrap .i64 ((V'.length : Int) - (U'.length : Nat)) = ((V'.take (V'.length - U'.length)).length : Nat) := by rw [iwrap_i64_in (by omega)]; omega
      have hnx : RtI A U V B m P (V'.drop (V'.length - U'.length)) (V'.take (V'.length - U'.length)) (U' ++ B') := by
        refine ⟨by omega, by omega, by omega, by simp; omega, ?_⟩
        rw [← h5, ← List.append_assoc (V'.take _), List.take_append_drop]
      generalize V'.take (V'.length - U'.length) = V1 at *
      generalize V'.drop (V'.length - U'.length) = V2 at *
      skip
      refine run_ok 4000 _ _ _ _ ?_
      simp (maxSteps := 10000000) only [go_sem, c0, d0, w3, w4, w5, w6]
      refine sem_call rfl rfl (((hs).embed [0] rfl (by repeat' first | exact trivial | rfl | (simp only [go_sem]; done) | constructor) rfl (by first | rfl | simp only [go_sem]) rfl (by simp)).mono ?_)
      rintro _ _ ⟨_, _, ⟨rfl, rfl⟩, rfl, rfl⟩
      refine run_ok 4000 _ _ _ _ ?_
      simp (maxSteps := 10000000) only [go_sem, c0, d0, w3, w4, w5, w6]
      refine ⟨((P, V2), V1, U' ++ B'), by simp only; omega, hnx, [0], ?_⟩
      simp only [Emb, go_sem, l2]
theorem R_unique {W1 W2 : List TG} (hp : W1.Perm W2) (h1 : W1.Pairwise R) (h2 : W2.Pairwise R) : W1 = W2 :=
  List.Perm.eq_of_pairwise (le := R) (fun a b _ _ h3 h4 => by unfold R at *; omega) h1 h2 hp
def DR (x y : TG) : Prop := R x y ∨ R y x
theorem DR.symm {x y : TG} (h : DR x y) : DR y x := h.elim .inr .inl
def leG (a b : TG) : Bool := decide (a.1.due < b.1.due ∨ (a.1.due = b.1.due ∧ a.2 ≤ b.2))
theorem srt_ex (T : List TG) (hD : T.Pairwise DR) : ∃ W : List TG, W.Perm T ∧ W.Pairwise R := by
  refine ⟨T.mergeSort leG, List.mergeSort_perm _ _, ?_⟩
  have h1 : (T.mergeSort leG).Pairwise fun a b => leG a b = true := List.pairwise_mergeSort (fun a b c h1 h2 => by unfold leG at *; simp only [decide_eq_true_iff] at *; omega) (fun a b => by unfold leG; rw [Bool.or_eq_true]; simp only [decide_eq_true_iff]; omega) _
  have h2 : (T.mergeSort leG).Pairwise DR := (List.Perm.pairwise_iff DR.symm (List.mergeSort_perm T leG)).2 hD
  refine (h1.and h2).imp ?_
  rintro a b ⟨h3, h4⟩
  unfold leG at h3
  simp only [decide_eq_true_iff] at h3
  unfold DR R at h4
  unfold R
  omega
theorem srt_DR {W T : List TG} (hp : W.Perm T) (hr : W.Pairwise R) : T.Pairwise DR :=
  (List.Perm.pairwise_iff DR.symm hp).1 (hr.imp fun h => .inl h)
theorem srt_split {W P Q : List TG} (hp : W.Perm (P ++ Q)) (hr : W.Pairwise R) (h : ∀ p ∈ P, ∀ q ∈ Q, R p q) : ∃ W1 W2 : List TG, W = W1 ++ W2 ∧ W1.Perm P ∧ W2.Perm Q ∧ W1.Pairwise R ∧ W2.Pairwise R := by
  have hD := srt_DR hp hr
  rw [List.pairwise_append] at hD
  obtain ⟨W1, p1, r1⟩ := srt_ex P hD.1
  obtain ⟨W2, p2, r2⟩ := srt_ex Q hD.2.1
  refine ⟨W1, W2, ?_, p1, p2, r1, r2⟩
  refine R_unique (hp.trans (p1.append p2).symm) hr ?_
  rw [List.pairwise_append]
  exact ⟨r1, r2, fun a ha b hb => h a (p1.subset ha) b (p2.subset hb)⟩
def kA (L : List TG) (i : Nat) : Int := ((L[i]?).map fun x => x.1.due).getD 0
theorem kA_get {L : List TG} {i : Nat} (h : i < L.length) : kA L i = L[i].1.due := by simp [kA, h]
theorem kA_le {L : List TG} (hr : L.Pairwise R) {i j : Nat} (hij : i ≤ j) (hj : j < L.length) : kA L i ≤ kA L j := by
  rw [kA_get (by omega), kA_get hj]
  by_cases e : i = j
  · subst e; omega
  · have := List.pairwise_iff_getElem.1 hr i j (by omega) hj (by omega)
    unfold R at this; omega
theorem swp_comm {α : Type} (L : List α) (p q : Nat) : swp L p q = swp L q p := by
  by_cases e : p = q
  · subst e; rfl
  · unfold swp
    cases h1 : L[p]? <;> cases h2 : L[q]? <;> simp only [h1, h2]
    rw [List.set_comm _ _ (by omega)]
theorem half_u64 {n : Nat} (h : n < 2 ^ 62) : iwrap .i64 (ishr .u64 (iwrap .u64 (n : Int)) 1) = ((n / 2 : Nat) : Int) := by
  rw [iwrap_u64_in (by unfold U64; omega)]
  have e : ishr .u64 (n : Int) 1 = (n : Int) / 2 := by
    unfold ishr
    rw [show (2 : Int) ^ min (1 : Int).toNat IntKind.u64.bits = 2 from rfl, Int.fdiv_eq_ediv_of_nonneg _ (by omega)]
  rw [e, iwrap_i64_in (by omega)]
  omega
end Go.AEX
