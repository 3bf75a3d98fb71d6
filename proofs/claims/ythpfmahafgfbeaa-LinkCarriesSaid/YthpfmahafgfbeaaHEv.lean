/- HInv, HInw, HInx, HIny, HInz, HEv in one. -/
import Derived.Test.YthpfmahafgfbeaaHPairE
/- Two ends: what holds of one way. -/
namespace Go.AEX
open Go Go.AE Go.Proofs
set_option maxRecDepth 100000
set_option linter.unusedVariables false
set_option linter.unusedSimpArgs false

theorem allJ_app : ∀ (l k : List Part) (s : List UInt8) (n : Nat), (allJ s n l).2 = 0 →
    allJ s n (l ++ k) = ((allJ s n l).1 ++ (allJ (allS s n l).1 (allS s n l).2 k).1, (allJ (allS s n l).1 (allS s n l).2 k).2) ∧ allS s n (l ++ k) = allS (allS s n l).1 (allS s n l).2 k
  | [], k, s, n, h => by simp [allJ, allS]
  | p :: l, k, s, n, h => by
    rw [List.cons_append]
    simp only [allJ, allS] at h ⊢
    by_cases c : (putV s p.1 p.2).2.2 ≠ 0
    · rw [if_pos c] at h; exact absurd h c
    · rw [if_neg c] at h
      simp only [if_neg c]
      obtain ⟨ih1, ih2⟩ := allJ_app l k (putS s n p.1 p.2).1 (putS s n p.1 p.2).2 h
      rw [ih1, ih2]
      refine ⟨?_, rfl⟩
      split <;> simp
theorem allJ_pre : ∀ (l k : List Part) (s : List UInt8) (n : Nat), (allJ s n (l ++ k)).2 = 0 → (allJ s n l).2 = 0
  | [], k, s, n, h => rfl
  | p :: l, k, s, n, h => by
    rw [List.cons_append] at h
    simp only [allJ] at h ⊢
    by_cases c : (putV s p.1 p.2).2.2 ≠ 0
    · rw [if_pos c] at h ⊢; exact h
    · rw [if_neg c] at h
      rw [if_neg c]
      exact allJ_pre l k _ _ h
theorem takes_ok : ∀ (L : List Part) (B : LS), (∀ p ∈ L, p.2.length ≤ 200) → (allJ B.js B.jn L).2 = 0 →
    takesF B (L.map partB) = ({ B with js := (allS B.js B.jn L).1, jn := (allS B.js B.jn L).2 }, (allJ B.js B.jn L).1)
  | [], B, _, _ => rfl
  | p :: L, B, hp, h => by
    have h1 : (allJ B.js B.jn [p]).2 = 0 := allJ_pre [p] L _ _ h
    obtain ⟨a1, a2⟩ := allJ_app [p] L B.js B.jn h1
    have e : takeF B (partB p) = ({ B with js := (allS B.js B.jn [p]).1, jn := (allS B.js B.jn [p]).2 }, (allJ B.js B.jn [p]).1) := by
      unfold takeF
      rw [parse_partB p (hp p (by simp)), if_neg (by simp), if_neg (by simpa using h1)]
    rw [List.singleton_append] at a1 a2
    rw [a1] at h
    have ih := takes_ok L { B with js := (allS B.js B.jn [p]).1, jn := (allS B.js B.jn [p]).2 } (fun q hq => hp q (by simp [hq])) h
    rw [List.map_cons, takesF, e]
    simp only
    rw [ih, a1, a2]
abbrev prt (Q : List Part) (k : Nat) : Part := Q.getD k (false, [])
def It (Q : List Part) (N : Nat) (x : Int × List UInt8) : Prop := ∃ k : Nat, k < N ∧ x = ((k : Int), partB (prt Q k))
theorem It.mono {Q : List Part} {N N' : Nat} {x : Int × List UInt8} (h : It Q N x) (hn : N ≤ N') : It Q N' x := by
  obtain ⟨k, h1, h2⟩ := h; exact ⟨k, by omega, h2⟩
theorem It.more {Q R : List Part} {N : Nat} {x : Int × List UInt8} (h : It Q N x) (hq : N ≤ Q.length) : It (Q ++ R) N x := by
  obtain ⟨k, h1, h2⟩ := h
  refine ⟨k, h1, ?_⟩
  rw [h2]; unfold prt
  rw [List.getD_eq_getElem?_getD, List.getD_eq_getElem?_getD, List.getElem?_append_left (by omega)]
theorem It.rg {Q : List Part} {N : Nat} {x : Int × List UInt8} (h : It Q N x) : 0 ≤ x.1 ∧ x.1 < N := by
  obtain ⟨k, h1, rfl⟩ := h; simp only; omega
theorem drain_it {Q : List Part} {N : Nat} (hN : N ≤ 1000000) (hQ : N ≤ Q.length) : ∀ (f : Nat) (nx : Nat) (K : Ent) (o : List (List UInt8)), K.length < f → nx ≤ N → (∀ p ∈ K, It Q N p ∧ (nx : Int) ≤ p.1) → (K.map (·.1)).Nodup →
    ∃ (m : Nat) (K' : Ent), drain f (nx : Int) K o = ((m : Int), K', o ++ ((Q.drop nx).take (m - nx)).map partB) ∧ nx ≤ m ∧ m ≤ N ∧ (∀ p ∈ K', p ∈ K ∧ (m : Int) < p.1) ∧ (K'.map (·.1)).Nodup ∧ (∀ p ∈ K, p.1 < m ∨ p ∈ K')
  | 0, nx, K, o, hf, _, _, _ => by omega
  | f + 1, nx, K, o, hf, hnx, hK, hnd => by
    rw [drain]
    cases hl : lkE K nx with
    | none =>
      refine ⟨nx, K, by simp, Nat.le_refl _, hnx, fun p hp => ⟨hp, ?_⟩, hnd, fun p hp => .inr hp⟩
      have h1 := lk_none hl p hp
      have h2 := (hK p hp).2
      omega
    | some s =>
      have hm := lk_val hl
      obtain ⟨⟨k, hk1, hk2⟩, _⟩ := hK _ hm
      have hkn : k = nx := by have := congrArg Prod.fst hk2; simp only at this; omega
      subst hkn
      have hs : s = partB (prt Q k) := congrArg Prod.snd hk2
      have hd := delE_len K k (by rw [hl]; rfl)
      obtain ⟨g1, g2⟩ := del_nd (k := (k : Int)) hnd
      have hu : u32 ((k : Int) + 1) = ((k + 1 : Nat) : Int) := by unfold u32; rw [iwrap_u32]; omega
      obtain ⟨m, K', e, h1, h2, h3, h4, h5⟩ := drain_it hN hQ f (k + 1) (delE K k) (o ++ [s]) (by omega) (by omega) (fun p hp => by
        have q1 := hK p (del_sub hp)
        have q2 := g2 p hp
        rw [hl] at q2
        have q3 : p.1 ≠ (k : Int) := by rcases q2 with q2 | q2; exact q2; cases q2
        exact ⟨q1.1, by omega⟩) g1
      simp only
      rw [hu, e]
      refine ⟨m, K', ?_, by omega, h2, fun p hp => ⟨del_sub (h3 p hp).1, (h3 p hp).2⟩, h4, fun p hp => ?_⟩
      · have hkl : k < Q.length := by omega
        have e1 : Q.drop k = Q[k] :: Q.drop (k + 1) := List.drop_eq_getElem_cons hkl
        have e2 : m - k = (m - (k + 1)) + 1 := by omega
        have e3 : prt Q k = Q[k] := by unfold prt; rw [List.getD_eq_getElem?_getD, List.getElem?_eq_getElem hkl]; rfl
        rw [e1, e2, List.take_succ_cons, List.map_cons, hs, e3]
        simp
      · by_cases c : p.1 = (k : Int)
        · left; omega
        · exact h5 p (del_mem hp c)
theorem put_it {Q : List Part} {N M k : Nat} {K : Ent} (hN : N ≤ 1000000) (hQ : N ≤ Q.length) (hM : M ≤ N) (hk : k < N) (hw : N ≤ M + 32) (hK : ∀ p ∈ K, It Q N p ∧ (M : Int) < p.1) (hnd : (K.map (·.1)).Nodup) :
    ∃ (m : Nat) (K' : Ent), (putW M K k (partB (prt Q k))).1 = ((m : Int), K') ∧ (putW M K k (partB (prt Q k))).2.1 = ((Q.drop M).take (m - M)).map partB ∧ M ≤ m ∧ m ≤ N ∧ (∀ p ∈ K', It Q N p ∧ (m : Int) < p.1) ∧ (K'.map (·.1)).Nodup ∧
      (∀ p ∈ K, p.1 < m ∨ p ∈ K') ∧ (k < m ∨ ∃ p ∈ K', p.1 = (k : Int)) := by
  unfold putW
  simp only
  have hd : u32 ((k : Int) - (M : Int)) = if k < M then (k : Int) - M + 4294967296 else (k : Int) - M := by
    unfold u32; rw [iwrap_u32]; split <;> omega
  rw [hd]
  by_cases c : k < M
  · rw [if_pos c, if_pos (by omega)]
    exact ⟨M, K, rfl, by simp, Nat.le_refl _, hM, hK, hnd, fun p hp => .inr hp, .inl c⟩
  · rw [if_neg c, if_neg (by omega), if_neg (by omega)]
    by_cases c2 : (lkE K k).isSome = true
    · rw [if_pos c2]
      exact ⟨M, K, rfl, by simp, Nat.le_refl _, hM, hK, hnd, fun p hp => .inr hp, .inr (lk_some c2)⟩
    · rw [if_neg c2]
      have hnone : lkE K k = none := by simpa using c2
      have hKn : ∀ p ∈ K ++ [((k : Int), partB (prt Q k))], It Q N p ∧ (M : Int) ≤ p.1 := by
        intro p hp
        rcases List.mem_append.1 hp with hp | hp
        · exact ⟨(hK p hp).1, by have := (hK p hp).2; omega⟩
        · simp at hp; subst hp; exact ⟨⟨k, hk, rfl⟩, by simp only; omega⟩
      have hndn : ((K ++ [((k : Int), partB (prt Q k))]).map (·.1)).Nodup := by
        rw [List.map_append, List.nodup_append]
        refine ⟨hnd, by simp, fun a ha b hb => ?_⟩
        simp at hb; subst hb
        obtain ⟨p, hp, rfl⟩ := List.mem_map.1 ha
        exact lk_none hnone p hp
      obtain ⟨m, K', e, h1, h2, h3, h4, h5⟩ := drain_it hN hQ (K.length + 1 + 1) M (K ++ [((k : Int), partB (prt Q k))]) [] (by simp) hM hKn hndn
      have ef : drain (K.length + 1) (M : Int) (K ++ [((k : Int), partB (prt Q k))]) [] = drain (K.length + 1 + 1) (M : Int) (K ++ [((k : Int), partB (prt Q k))]) [] := drain_fuel (K.length + 1) (by simp) (Nat.le_refl _)
      rw [ef, e]
      refine ⟨m, K', rfl, by simp, h1, h2, fun p hp => ⟨(hKn p (h3 p hp).1).1, (h3 p hp).2⟩, h4, fun p hp => h5 p (by simp [hp]), ?_⟩
      rcases h5 ((k : Int), partB (prt Q k)) (by simp) with h | h
      · left; simp only at h; omega
      · exact .inr ⟨_, h, rfl⟩
end Go.AEX

/- Two ends: what holds of one way, step by step. -/
namespace Go.AEX
open Go Go.AE Go.Proofs
set_option maxRecDepth 100000
set_option linter.unusedVariables false
set_option linter.unusedSimpArgs false

structure Dir (S : List (List UInt8)) (A B : LS) (C : List (List UInt8)) (N M : Nat) : Prop where
  on : A.on = N
  ix : B.inx = M
  sz : ∀ s ∈ S, s.length ≤ 500
  cnt : S.length ≤ 10000
  ws : A.ws = (partsOf S).drop N
  le : N ≤ (partsOf S).length
  ol : ∀ x ∈ A.ol, It (partsOf S) N x
  sorted : A.ol.Pairwise fun x y => x.1 < y.1
  win : ∀ x ∈ A.ol, (N : Int) ≤ x.1 + 32
  im : ∀ p ∈ B.im, It (partsOf S) N p ∧ (M : Int) < p.1
  nd : (B.im.map (·.1)).Nodup
  un : ∀ k : Nat, M ≤ k → k < N → (∃ p ∈ B.im, p.1 = (k : Int)) ∨ ∃ x ∈ A.ol, x.1 = (k : Int)
  mle : M ≤ N
  cm : C = (allJ [] 0 ((partsOf S).take M)).1
  js : allS [] 0 ((partsOf S).take M) = (B.js, B.jn)
  car : B.car = C.length
theorem Dir.parts {S A B C N M} (h : Dir S A B C N M) : (partsOf S).length ≤ 40000 := by
  have := partsOf_len S (fun s hs => by have := h.sz s hs; omega)
  have := h.cnt
  omega
theorem Dir.small {S A B C N M} (h : Dir S A B C N M) : ∀ p ∈ partsOf S, p.2.length ≤ 200 := by
  intro p hp
  unfold partsOf at hp
  rw [List.mem_flatten] at hp
  obtain ⟨l, hl, hp⟩ := hp
  obtain ⟨s, hs, rfl⟩ := List.mem_map.1 hl
  exact cutP_small 2 s (by have := h.sz s hs; omega) p hp
theorem Dir.msgs {S A B C N M} (h : Dir S A B C N M) : allJ [] 0 (partsOf S) = (S, 0) := allJ_msgs S fun s hs => by have := h.sz s hs; omega
theorem Dir.pre {S A B C N M} (h : Dir S A B C N M) (m : Nat) : (allJ [] 0 ((partsOf S).take m)).2 = 0 := by
  apply allJ_pre _ ((partsOf S).drop m)
  rw [List.take_append_drop, h.msgs]
theorem Dir.rest {S A B C N M} (h : Dir S A B C N M) (m : Nat) : ∃ R, S = (allJ [] 0 ((partsOf S).take m)).1 ++ R := by
  have h1 := h.msgs
  have h2 := (allJ_app ((partsOf S).take m) ((partsOf S).drop m) [] 0 (h.pre m)).1
  rw [List.take_append_drop, h1] at h2
  exact ⟨_, congrArg Prod.fst h2⟩
theorem Dir.near {S A B C N M} (h : Dir S A B C N M) : N ≤ M + 32 := by
  rcases Nat.lt_or_ge M N with c | c
  · rcases h.un M (Nat.le_refl _) c with ⟨p, hp, e⟩ | ⟨x, hx, e⟩
    · have := (h.im p hp).2; omega
    · have := h.win x hx; omega
  · omega
theorem Dir.item {S A B C N M} (h : Dir S A B C N M) {x : Itm} (hx : It (partsOf S) N x) (tell : Bool) :
    ∃ (m : Nat) (B' : LS) (out : List (List UInt8)), itemF B x = (B', out) ∧ B' = { B with tell := true, inx := B'.inx, im := B'.im, js := B'.js, jn := B'.jn } ∧
      Dir S A { B' with car := B.car + out.length } (C ++ out) N m ∧ M ≤ m ∧ (∃ R, S = C ++ out ++ R) ∧ (∀ k : Nat, (k < M ∨ ∃ p ∈ B.im, p.1 = (k : Int)) → k < m ∨ ∃ p ∈ B'.im, p.1 = (k : Int)) ∧
      (x.1 < m ∨ ∃ p ∈ B'.im, p.1 = x.1) := by
  obtain ⟨k, hk, rfl⟩ := hx
  have hcp := h.parts
  have hle := h.le
  obtain ⟨m, K', e1, e2, h1, h2, h3, h4, h5, h6⟩ := put_it (Q := partsOf S) (N := N) (M := M) (k := k) (K := B.im) (by omega) hle h.mle hk h.near h.im h.nd
  have hpre := h.pre m
  have hsp : (partsOf S).take m = (partsOf S).take M ++ ((partsOf S).drop M).take (m - M) := by
    have := List.take_add (l := partsOf S) (i := M) (j := m - M)
    rw [show M + (m - M) = m by omega] at this
    exact this
  obtain ⟨a1, a2⟩ := allJ_app ((partsOf S).take M) (((partsOf S).drop M).take (m - M)) [] 0 (h.pre M)
  rw [h.js] at a1 a2
  simp only at a1 a2
  rw [← hsp] at a1 a2
  rw [a1] at hpre
  simp only at hpre
  have ht := takes_ok (((partsOf S).drop M).take (m - M)) (putL B ((k : Int), partB (prt (partsOf S) k))) (fun p hp => h.small p (List.mem_of_mem_drop (List.mem_of_mem_take hp))) hpre
  have hix := h.ix
  rw [← hix] at e1 e2
  refine ⟨m, { B with tell := true, inx := (m : Int), im := K', js := (allS B.js B.jn (((partsOf S).drop M).take (m - M))).1, jn := (allS B.js B.jn (((partsOf S).drop M).take (m - M))).2 }, (allJ B.js B.jn (((partsOf S).drop M).take (m - M))).1, ?_, rfl, ?_, h1, ?_, ?_, ?_⟩
  · unfold itemF
    rw [show (putW B.inx B.im ((k : Int), partB (prt (partsOf S) k)).1 ((k : Int), partB (prt (partsOf S) k)).2).2.1 = _ from e2, ht]
    simp only [putL, e1]
  · have hcm : C ++ (allJ B.js B.jn (((partsOf S).drop M).take (m - M))).1 = (allJ [] 0 ((partsOf S).take m)).1 := by rw [a1, h.cm]
    exact ⟨h.on, rfl, h.sz, h.cnt, h.ws, h.le, h.ol, h.sorted, h.win, h3, h4, fun j hj hj2 => by
      rcases h.un j (by omega) hj2 with ⟨p, hp, e⟩ | q
      · rcases h5 p hp with q | q
        · omega
        · exact .inl ⟨p, q, e⟩
      · exact .inr q, h2, hcm, a2, by simp only [List.length_append]; rw [h.car]; omega⟩
  · have hcm : C ++ (allJ B.js B.jn (((partsOf S).drop M).take (m - M))).1 = (allJ [] 0 ((partsOf S).take m)).1 := by rw [a1, h.cm]
    rw [hcm]
    exact h.rest m
  · rintro j (hj | ⟨p, hp, e⟩)
    · left; omega
    · rcases h5 p hp with q | q
      · left; omega
      · exact .inr ⟨p, q, e⟩
  · rcases h6 with q | q
    · left; simp only; omega
    · exact .inr q
theorem Dir.acked {S A B C N M} (h : Dir S A B C N M) (nx bits : Int) (T : List TE) (hv : ∀ k : Nat, k < N → hasW nx bits k = true → k < M ∨ ∃ p ∈ B.im, p.1 = (k : Int)) : Dir S { A with ol := leftW nx bits A.ol, tl := T } B C N M := by
  have hsub : ∀ x ∈ leftW nx bits A.ol, x ∈ A.ol := fun x hx => (List.mem_filter.1 hx).1
  refine ⟨h.on, h.ix, h.sz, h.cnt, h.ws, h.le, fun x hx => h.ol x (hsub x hx), h.sorted.sublist List.filter_sublist, fun x hx => h.win x (hsub x hx), h.im, h.nd, fun k hk hk2 => ?_, h.mle, h.cm, h.js, h.car⟩
  rcases h.un k hk hk2 with q | ⟨x, hx, e⟩
  · exact .inl q
  · cases hh : hasW nx bits k with
    | true =>
      rcases hv k hk2 hh with q | q
      · omega
      · exact .inl q
    | false =>
      refine .inr ⟨x, ?_, e⟩
      unfold leftW
      rw [List.mem_filter]
      exact ⟨hx, by rw [e, hh]; rfl⟩
theorem Dir.send {S A B C N M} (h : Dir S A B C N M) {t : List UInt8} (ht : t.length ≤ 500) (hc : S.length < 10000) : Dir (S ++ [t]) { A with ws := A.ws ++ cutP t } B C N M := by
  have hle := h.le
  have hm := h.mle
  have hp := partsOf_snoc S t
  have e1 : (partsOf (S ++ [t])).take M = (partsOf S).take M := by rw [hp, List.take_append_of_le_length (by omega)]
  refine ⟨h.on, h.ix, ?_, by simp; omega, ?_, by rw [hp, List.length_append]; omega, fun x hx => by rw [hp]; exact (h.ol x hx).more hle, h.sorted, h.win, fun p hq => ⟨by rw [hp]; exact (h.im p hq).1.more hle, (h.im p hq).2⟩, h.nd, h.un, h.mle, by rw [e1]; exact h.cm, by rw [e1]; exact h.js, h.car⟩
  · intro s hs
    rcases List.mem_append.1 hs with hs | hs
    · exact h.sz s hs
    · simp at hs; subst hs; exact ht
  · show A.ws ++ cutP t = _
    rw [h.ws, hp, List.drop_append_of_le_length (by omega)]
theorem Dir.same {S A B C N M} (h : Dir S A B C N M) {A' B' : LS} (a1 : A'.on = A.on) (a2 : A'.ws = A.ws) (a3 : A'.ol = A.ol) (b1 : B'.inx = B.inx) (b2 : B'.im = B.im) (b3 : B'.js = B.js) (b4 : B'.jn = B.jn) (b5 : B'.car = B.car) : Dir S A' B' C N M := by
  refine ⟨by rw [a1]; exact h.on, by rw [b1]; exact h.ix, h.sz, h.cnt, by rw [a2]; exact h.ws, h.le, by rw [a3]; exact h.ol, by rw [a3]; exact h.sorted, by rw [a3]; exact h.win, by rw [b2]; exact h.im, by rw [b2]; exact h.nd, by rw [a3, b2]; exact h.un, h.mle, h.cm, by rw [b3, b4]; exact h.js, by rw [b5]; exact h.car⟩
end Go.AEX

/- Two ends: what goes, what comes. -/
namespace Go.AEX
open Go Go.AE Go.Proofs
set_option maxRecDepth 100000
set_option linter.unusedVariables false
set_option linter.unusedSimpArgs false

theorem fdT_new {l : List TE} {n : Int} (h : ∀ e ∈ l, e.n ≠ n) : fdT l n < 0 := by
  unfold fdT idxH
  have : l.any (fun e => e.n == n) = false := by
    rw [List.any_eq_false]
    intro e he
    simpa using h e he
  rw [this]; simp
structure Fil (cf now : Int) (Q : List Part) (N : Nat) (ol : List Itm) (tl : List TE) (r : List Part × FS × List Itm) (N' : Nat) : Prop where
  ge : N ≤ N'
  le : N' ≤ Q.length
  ws : r.1 = Q.drop N'
  on : r.2.1.on = N'
  ol : r.2.1.ol = ol ++ r.2.2
  it : ∀ x ∈ r.2.2, ∃ k : Nat, N ≤ k ∧ k < N' ∧ x = ((k : Int), partB (prt Q k))
  all : ∀ k : Nat, N ≤ k → k < N' → ∃ x ∈ r.2.2, x.1 = (k : Int)
  sorted : r.2.1.ol.Pairwise fun x y => x.1 < y.1
  win : ∀ x ∈ r.2.1.ol, (N' : Int) ≤ x.1 + 32
  tl : r.2.1.tl = tl ++ r.2.2.map fun x => ⟨x.1, now + cf, cf, 0⟩
  full : r.1 = [] ∨ roomW r.2.1.on r.2.1.ol = false
theorem fill_it (cf now : Int) (Q : List Part) (hQ : Q.length ≤ 1000000) : ∀ (ws : List Part) (st : FS) (N : Nat), st.on = N → ws = Q.drop N → N ≤ Q.length → (∀ x ∈ st.ol, It Q N x) → (st.ol.Pairwise fun x y => x.1 < y.1) → (∀ x ∈ st.ol, (N : Int) ≤ x.1 + 32) →
    st.tl.map (·.n) = st.ol.map (·.1) → ∃ N', Fil cf now Q N st.ol st.tl (fillF cf now ws st) N'
  | [], st, N, hon, hws, hN, hol, hso, hwi, hnu => ⟨N, Nat.le_refl _, hN, hws, hon, by simp [fillF], by simp [fillF], fun k h1 h2 => by omega, hso, hwi, by simp [fillF], .inl rfl⟩
  | p :: ws, st, N, hon, hws, hN, hol, hso, hwi, hnu => by
    rw [fillF]
    have hlt : N < Q.length := by
      rcases Nat.lt_or_ge N Q.length with h | h
      · exact h
      · rw [List.drop_eq_nil_of_le h] at hws; cases hws
    have hd : Q.drop N = Q[N] :: Q.drop (N + 1) := List.drop_eq_getElem_cons hlt
    rw [hd] at hws
    obtain ⟨rfl, rfl⟩ := List.cons.inj hws
    have ep : prt Q N = Q[N] := by unfold prt; rw [List.getD_eq_getElem?_getD, List.getElem?_eq_getElem hlt]; rfl
    cases hr : roomW st.on st.ol with
    | false =>
      simp only [Bool.false_eq_true, if_false]
      exact ⟨N, Nat.le_refl _, hN, hd.symm, hon, by simp, by simp, fun k h1 h2 => by omega, hso, hwi, by simp, .inr hr⟩
    | true =>
      simp only [if_true]
      have hroom : ∀ x ∈ st.ol, (N : Int) < x.1 + 32 := by
        cases hc : st.ol with
        | nil => simp
        | cons x0 l =>
          rw [hc] at hr hso hol
          unfold roomW at hr
          simp only [decide_eq_true_eq] at hr
          have hx0 := (hol x0 (by simp)).rg
          have h0 : (N : Int) - x0.1 < 32 := by rw [hon] at hr; unfold u32 at hr; rw [iwrap_u32] at hr; omega
          intro x hx
          rcases List.mem_cons.1 hx with rfl | hx
          · omega
          · have := (List.pairwise_cons.1 hso).1 x hx; omega
      have hnew : fdT st.tl st.on < 0 := fdT_new fun e he h => by
        have : e.n ∈ st.ol.map (·.1) := by rw [← hnu]; exact List.mem_map.2 ⟨e, he, rfl⟩
        obtain ⟨x, hx, e2⟩ := List.mem_map.1 this
        have := (hol x hx).rg
        rw [h, hon] at e2; omega
      have hu : u32 (st.on + 1) = ((N + 1 : Nat) : Int) := by rw [hon]; unfold u32; rw [iwrap_u32]; omega
      have hst : startF cf now st.tl st.on = st.tl ++ [⟨st.on, now + cf, cf, 0⟩] := by unfold startF; rw [if_pos hnew]
      rw [hu, hst, hon]
      obtain ⟨N', f1, f2, f3, f4, f5, f6, f7, f8, f9, f10, f11⟩ := fill_it cf now Q hQ (Q.drop (N + 1)) ⟨((N + 1 : Nat) : Int), st.ol ++ [((N : Int), partB Q[N])], st.tl ++ [⟨(N : Int), now + cf, cf, 0⟩]⟩ (N + 1) rfl rfl (by omega)
        (fun x hx => by
          rcases List.mem_append.1 hx with hx | hx
          · exact (hol x hx).mono (by omega)
          · simp at hx; subst hx; exact ⟨N, by omega, by rw [ep]⟩)
        (by
          rw [List.pairwise_append]
          refine ⟨hso, by simp, fun x hx y hy => ?_⟩
          simp at hy; subst hy
          exact (hol x hx).rg.2)
        (fun x hx => by
          rcases List.mem_append.1 hx with hx | hx
          · have := hroom x hx; omega
          · simp at hx; subst hx; simp only; omega)
        (by simp [hnu])
      refine ⟨N', by omega, f2, f3, f4, by rw [f5]; simp, fun x hx => ?_, fun k h1 h2 => ?_, f8, f9, by rw [f10]; simp, f11⟩
      · rcases List.mem_cons.1 hx with rfl | hx
        · exact ⟨N, Nat.le_refl _, by omega, by rw [ep]⟩
        · obtain ⟨k, g1, g2, g3⟩ := f6 x hx; exact ⟨k, by omega, g2, g3⟩
      · by_cases c : k = N
        · subst c; exact ⟨_, List.mem_cons_self, rfl⟩
        · obtain ⟨x, hx, e⟩ := f7 k (by omega) h2; exact ⟨x, List.mem_cons_of_mem _ hx, e⟩
structure Tmr (A : LS) (now : Int) : Prop where
  cf : 1 ≤ A.cf ∧ A.cf ≤ A.cm ∧ A.cm ≤ 1000
  nums : A.tl.map (·.n) = A.ol.map (·.1)
  ti : ∀ e ∈ A.tl, (0 ≤ e.due ∧ e.due ≤ now + A.cm) ∧ (A.cf ≤ e.wait ∧ e.wait ≤ A.cm) ∧ (0 ≤ e.times ∧ e.times ≤ now)
theorem Tmr.acked {A : LS} {now : Int} (h : Tmr A now) (nx bits : Int) : Tmr { A with ol := leftW nx bits A.ol, tl := outL (toldW nx bits A.ol) A.tl } now := by
  refine ⟨h.cf, ?_, fun e he => h.ti e (List.mem_filter.1 he).1⟩
  show (outL (toldW nx bits A.ol) A.tl).map (·.n) = (leftW nx bits A.ol).map (·.1)
  unfold outL leftW
  have e1 : (A.tl.filter fun e => !decide (e.n ∈ toldW nx bits A.ol)).map (·.n) = (A.tl.map (·.n)).filter fun k => !decide (k ∈ toldW nx bits A.ol) := by rw [List.filter_map]; rfl
  have e2 : (A.ol.filter fun x => !hasW nx bits x.1).map (·.1) = (A.ol.map (·.1)).filter fun k => !hasW nx bits k := by rw [List.filter_map]; rfl
  rw [e1, e2, h.nums]
  apply List.filter_congr
  intro k hk
  obtain ⟨x, hx, rfl⟩ := List.mem_map.1 hk
  congr 1
  unfold toldW
  cases hh : hasW nx bits x.1 with
  | true => rw [decide_eq_true]; exact List.mem_map.2 ⟨x, List.mem_filter.2 ⟨hx, hh⟩, rfl⟩
  | false =>
    rw [decide_eq_false]
    intro hm
    obtain ⟨y, hy, e⟩ := List.mem_map.1 hm
    have := (List.mem_filter.1 hy).2
    rw [e, hh] at this; cases this
theorem Tmr.poll {A : LS} {now : Int} (h : Tmr A now) (hn : 0 ≤ now) {N N' : Nat} {Q : List Part} {r : List Part × FS × List Itm} (hf : Fil A.cf (now + 1) Q N A.ol (A.tl.map (updE A.cm (now + 1))) r N') (A' : LS) (a1 : A'.cf = A.cf) (a2 : A'.cm = A.cm) (a3 : A'.ol = r.2.1.ol) (a4 : A'.tl = r.2.1.tl) : Tmr A' (now + 1) := by
  have hc := h.cf
  refine ⟨by rw [a1, a2]; exact hc, ?_, ?_⟩
  · rw [a3, a4, hf.tl, hf.ol, List.map_append, List.map_append, List.map_map, List.map_map, ← h.nums]
    have e1 : ((fun e : TE => e.n) ∘ updE A.cm (now + 1)) = fun e : TE => e.n := by funext e; simp only [Function.comp, updE]; split <;> rfl
    rw [e1]; rfl
  · rw [a1, a2, a4, hf.tl]
    intro e he
    rcases List.mem_append.1 he with he | he
    · obtain ⟨e0, h0, rfl⟩ := List.mem_map.1 he
      obtain ⟨t1, t2, t3⟩ := h.ti e0 h0
      unfold updE
      split
      · simp only; omega
      · omega
    · obtain ⟨x, hx, rfl⟩ := List.mem_map.1 he
      simp only; omega
def Dg (Q : List Part) (N : Nat) (A : LS) (d : List UInt8) : Prop :=
  ∃ (nx bits : Nat) (l : List Itm), d = dgB nx bits l ∧ (nx : Int) ≤ A.inx ∧ nx < 1000000 ∧ bits < 4294967296 ∧ l.length ≤ 1 ∧ (∀ x ∈ l, It Q N x ∧ x.2.length ≤ 201) ∧
    (∀ k : Nat, k < 1000000 → hasW nx bits k = true → (k : Int) < A.inx ∨ ∃ p ∈ A.im, p.1 = (k : Int))
theorem kap1000 {n : Int} (h : 0 ≤ n ∧ n < 4294967296) : kap 1000 n = n := by rw [kap_eq]; omega
theorem has_got {M : Nat} {K : Ent} (hK : ∀ p ∈ K, (M : Int) < p.1 ∧ p.1 ≤ M + 32) (hnd : (K.map (·.1)).Nodup) (hM : M < 900000) (k : Nat) (hk : k < 1000000) :
    hasW M (bitsW M K 32 : Nat) k = true → ((k : Int) < M ∨ ∃ p ∈ K, p.1 = (k : Int)) := by
  have hw : WOk (M : Int) K := ⟨fun p hp => (hK p hp).1, fun p hp => (hK p hp).2, hnd⟩
  have e1 := bits_map (F := 1000) hw 32 (Nat.le_refl _)
  have eK : mapK 1000 K = K := by
    unfold mapK
    conv => rhs; rw [← List.map_id K]
    apply List.map_congr_left
    intro p hp
    have := hK p hp
    rw [kap1000 (by omega)]; rfl
  rw [kap1000 (by omega), eK] at e1
  rw [e1]
  have e2 := has_map 1000 M k (bitsR M K 32) (bitsR_lt _ _ 32) (by omega) (by omega)
  rw [kap1000 (by omega), kap1000 (by omega)] at e2
  rw [e2]
  by_cases c : (k : Int) ≤ M + 32
  · exact (hasR_iff M K hw k c).1
  · intro h
    unfold hasR at h
    rw [if_neg (by omega), if_pos (by omega)] at h
    cases h
end Go.AEX

/- Two ends: what holds of both, event by event. -/
namespace Go.AEX
open Go Go.AE Go.Proofs
set_option maxRecDepth 100000
set_option linter.unusedVariables false
set_option linter.unusedSimpArgs false

theorem allS_len : ∀ (l : List Part) (s : List UInt8) (n : Nat), s.length ≤ 65536 → n + l.length ≤ 900000 → (allS s n l).1.length ≤ 65536 ∧ (allS s n l).2 ≤ n + l.length
  | [], s, n, h, _ => by simp [allS]; exact h
  | p :: l, s, n, h, hn => by
    simp only [List.length_cons] at hn
    obtain ⟨q1, q2⟩ := putS_len s n p.1 p.2 h (by omega)
    simp only [allS]
    split
    · exact ⟨q1, by simp only [List.length_cons]; omega⟩
    · obtain ⟨r1, r2⟩ := allS_len l (putS s n p.1 p.2).1 (putS s n p.1 p.2).2 q1 (by omega)
      exact ⟨r1, by simp only [List.length_cons]; omega⟩
theorem prt_small {Q : List Part} (h : ∀ p ∈ Q, p.2.length ≤ 200) (k : Nat) : (prt Q k).2.length ≤ 200 := by
  unfold prt
  rw [List.getD_eq_getElem?_getD]
  cases hk : Q[k]? with
  | none => simp
  | some p => exact h p (List.mem_of_getElem? hk)
theorem partB_len (p : Part) : (partB p).length = p.2.length + 1 := by simp [partB]
theorem Dir.it_len {S A B C N M} (h : Dir S A B C N M) {x : Int × List UInt8} (hx : It (partsOf S) N x) : U32 x.1 ∧ x.2.length ≤ 201 := by
  have hp := h.parts
  have hl := h.le
  obtain ⟨k, hk, rfl⟩ := hx
  have := prt_small h.small k
  refine ⟨by unfold U32; simp only; omega, ?_⟩
  simp only [partB_len]; omega
theorem Dir.ol_len {S A B C N M} (h : Dir S A B C N M) : A.ol.length ≤ 32 := by
  have hnd : (A.ol.map (·.1)).Nodup := by
    rw [List.nodup_iff_pairwise_ne, List.pairwise_map]
    exact h.sorted.imp fun hxy e => by omega
  have := pigeon 32 (A.ol.map (·.1)) ((N : Int) - 33) hnd fun x hx => by
    obtain ⟨y, hy, rfl⟩ := List.mem_map.1 hx
    have h1 := h.win y hy
    have h2 := (h.ol y hy).rg
    omega
  simpa using this
theorem Dir.im_len {S A B C N M} (h : Dir S A B C N M) : B.im.length ≤ 32 := by
  have hn := h.near
  have := pigeon 32 (B.im.map (·.1)) M h.nd fun x hx => by
    obtain ⟨y, hy, rfl⟩ := List.mem_map.1 hx
    have h1 := h.im y hy
    have h2 := h1.1.rg
    omega
  simpa using this
structure Inv (E : Nat) (p : PS) (Na Mb Nb Ma : Nat) : Prop where
  ab : Dir p.s0 p.a p.b p.c1 Na Mb
  ba : Dir p.s1 p.b p.a p.c0 Nb Ma
  w1 : ∀ d ∈ p.w1, Dg (partsOf p.s0) Na p.a d
  w0 : ∀ d ∈ p.w0, Dg (partsOf p.s1) Nb p.b d
  l0 : p.w0.length ≤ 60
  l1 : p.w1.length ≤ 60
  ta : Tmr p.a p.now
  tb : Tmr p.b p.now
  wa : p.a.ws.length ≤ 700
  wb : p.b.ws.length ≤ 700
  now : 0 ≤ p.now ∧ p.now ≤ E
  bada : 0 ≤ p.a.bad ∧ p.a.bad ≤ E
  badb : 0 ≤ p.b.bad ∧ p.b.bad ≤ E
  sa : p.s0.length ≤ E
  sb : p.s1.length ≤ E
theorem Inv.swap {E : Nat} {p : PS} {Na Mb Nb Ma : Nat} (h : Inv E p Na Mb Nb Ma) : Inv E (sw p) Nb Ma Na Mb :=
  ⟨h.ba, h.ab, h.w0, h.w1, h.l1, h.l0, h.tb, h.ta, h.wb, h.wa, h.now, h.badb, h.bada, h.sb, h.sa⟩
theorem Inv.mono {E E' : Nat} {p : PS} {Na Mb Nb Ma : Nat} (h : Inv E p Na Mb Nb Ma) (he : E ≤ E') : Inv E' p Na Mb Nb Ma :=
  ⟨h.ab, h.ba, h.w1, h.w0, h.l0, h.l1, h.ta, h.tb, h.wa, h.wb, by have := h.now; omega, by have := h.bada; omega, by have := h.badb; omega, by have := h.sa; omega, by have := h.sb; omega⟩
theorem Inv.ok {E : Nat} {p : PS} {Na Mb Nb Ma : Nat} (h : Inv E p Na Mb Nb Ma) (he : E ≤ 5000) : LOk p.a ∧ RB 0 p.a 0 := by
  have hcf := h.ta.cf
  have hp := h.ab.parts
  have hp2 := h.ba.parts
  have hle := h.ab.le
  have hle2 := h.ba.le
  have hm2 := h.ba.mle
  have hol := h.ab.ol_len
  have him := h.ba.im_len
  have hnums := congrArg List.length h.ta.nums
  simp only [List.length_map] at hnums
  have hjs := allS_len ((partsOf p.s1).take Ma) [] 0 (by simp) (by rw [List.length_take]; omega)
  rw [h.ba.js] at hjs
  simp only [List.length_take] at hjs
  have hon := h.ab.on
  have hix := h.ba.ix
  have hwa := h.wa
  have hnow := h.now
  have hbad := h.bada
  have hcar := h.ba.car
  have hclen : p.c0.length ≤ 10000 := by
    obtain ⟨R, hR⟩ := h.ba.rest Ma
    rw [← h.ba.cm] at hR
    have h1 := congrArg List.length hR
    rw [List.length_append] at h1
    have := h.ba.cnt; omega
  have hmt : ∀ q ∈ p.a.im, q.2.length ≤ 10000 := fun q hq => by have := (h.ba.it_len (h.ba.im q hq).1).2; omega
  refine ⟨⟨by omega, by omega, by rw [hon]; unfold U32; omega, by rw [hix]; unfold U32; omega, by omega, by omega, by omega, by omega, fun x hx => ?_, fun q hq => ?_, fun e he => ?_, by omega, hmt⟩,
    ⟨by omega, by omega, by omega, by omega, hmt, Nat.le_refl _, by omega⟩⟩
  · have := h.ab.it_len (h.ab.ol x hx); exact ⟨this.1, by omega⟩
  · rw [h.ab.ws] at hq
    have := h.ab.small q (List.mem_of_mem_drop hq); omega
  · have := h.ta.ti e he
    omega
theorem Dg.len {Q : List Part} {N : Nat} {A : LS} {d : List UInt8} (h : Dg Q N A d) (hN : N ≤ 1000000) : 0 < d.length ∧ d.length ≤ 20000 := by
  obtain ⟨nx, bits, l, rfl, h1, h2, h3, h4, h5, h6⟩ := h
  refine ⟨?_, dgB_len nx bits l (by omega) (by omega) h4 fun x hx => ⟨?_, by have := (h5 x hx).2; omega⟩⟩
  · unfold dgB; rw [sealB_len]; omega
  · have := (h5 x hx).1.rg; unfold U32; omega
theorem Dg.says {Q : List Part} {N : Nat} {A : LS} {nx bits : Nat} {l : List Itm} (hN : N ≤ 1000000) (h2 : nx < 1000000) (h3 : bits < 4294967296) (h4 : l.length ≤ 1) (h5 : ∀ x ∈ l, It Q N x ∧ x.2.length ≤ 201) :
    linkP (dgB nx bits l) = (((nx : Int), (bits : Int)), l, 0) := by
  have := linkP_dg (nx : Int) bits l (by unfold U32; omega) h3 h4 fun x hx => ⟨by have := (h5 x hx).1.rg; unfold U32; omega, (h5 x hx).2⟩
  rwa [Int.toNat_natCast] at this
theorem Dg.mono {Q : List Part} {N N' : Nat} {A A' : LS} {d : List UInt8} (h : Dg Q N A d) (hn : N ≤ N') (hix : A.inx ≤ A'.inx) (hg : ∀ k : Nat, ((k : Int) < A.inx ∨ ∃ p ∈ A.im, p.1 = (k : Int)) → ((k : Int) < A'.inx ∨ ∃ p ∈ A'.im, p.1 = (k : Int))) : Dg Q N' A' d := by
  obtain ⟨nx, bits, l, rfl, h1, h2, h3, h4, h5, h6⟩ := h
  exact ⟨nx, bits, l, rfl, by omega, h2, h3, h4, fun x hx => ⟨(h5 x hx).1.mono hn, (h5 x hx).2⟩, fun k hk hh => hg k (h6 k hk hh)⟩
theorem Dg.more {Q R : List Part} {N : Nat} {A : LS} {d : List UInt8} (h : Dg Q N A d) (hq : N ≤ Q.length) : Dg (Q ++ R) N A d := by
  obtain ⟨nx, bits, l, rfl, h1, h2, h3, h4, h5, h6⟩ := h
  exact ⟨nx, bits, l, rfl, h1, h2, h3, h4, fun x hx => ⟨(h5 x hx).1.more hq, (h5 x hx).2⟩, h6⟩
theorem Inv.recv {E : Nat} {p : PS} {Na Mb Nb Ma : Nat} (h : Inv E p Na Mb Nb Ma) {d : List UInt8} (hd : Dg (partsOf p.s1) Nb p.b d) :
    ∃ Ma', Inv E (recv0 p d) Na Mb Nb Ma' ∧ (recvF p.a d).2.2 = 0 ∧ ∃ R, p.s1 = p.c0 ++ (recvF p.a d).2.1 ++ R := by
  have hp := h.ab.parts
  have hp2 := h.ba.parts
  have hle := h.ab.le
  have hle2 := h.ba.le
  obtain ⟨nx, bits, l, rfl, h1, h2, h3, h4, h5, h6⟩ := hd
  have hsay := Dg.says (A := p.b) (show Nb ≤ 1000000 by omega) h2 h3 h4 h5
  have hack : ackL p.a ((nx : Int), (bits : Int)) = { p.a with ol := leftW nx bits p.a.ol, tl := outL (toldW nx bits p.a.ol) p.a.tl } := by
    have hon := h.ab.on
    have hix := h.ab.ix
    have hml := h.ab.mle
    unfold ackL ackO ackN
    rw [if_neg (by unfold u32; rw [iwrap_u32]; omega), if_neg (by unfold u32; rw [iwrap_u32]; omega)]
  have hab := h.ab.acked nx bits (outL (toldW nx bits p.a.ol) p.a.tl) fun k hk hh => by
    have := h6 k (by omega) hh
    rw [h.ab.ix] at this
    rcases this with q | q
    · left; omega
    · exact .inr q
  have hta := h.ta.acked nx bits
  generalize hA1 : ({ p.a with ol := leftW nx bits p.a.ol, tl := outL (toldW nx bits p.a.ol) p.a.tl } : LS) = A1 at *
  have hA : p.a.inx = A1.inx ∧ p.a.im = A1.im ∧ p.a.js = A1.js ∧ p.a.jn = A1.jn ∧ p.a.car = A1.car ∧ p.a.ws = A1.ws ∧ p.a.bad = A1.bad := by rw [← hA1]; exact ⟨rfl, rfl, rfl, rfl, rfl, rfl, rfl⟩
  obtain ⟨i1, i2, i3, i4, i5, i6, i7⟩ := hA
  have hba := h.ba.same (A' := p.b) (B' := A1) rfl rfl rfl i1.symm i2.symm i3.symm i4.symm i5.symm
  have hr : recvF p.a (dgB nx bits l) = ({ (itemsF A1 l).1 with car := (itemsF A1 l).1.car + (itemsF A1 l).2.length }, (itemsF A1 l).2, 0) := by
    unfold recvF; rw [hsay]; simp only [hack]; rfl
  have hwa := h.wa
  have hbd := h.bada
  have key : ∃ (m : Nat) (B' : LS) (out : List (List UInt8)), itemsF A1 l = (B', out) ∧ B'.on = A1.on ∧ B'.ws = A1.ws ∧ B'.ol = A1.ol ∧ B'.tl = A1.tl ∧ B'.cf = A1.cf ∧ B'.cm = A1.cm ∧ B'.bad = A1.bad ∧ B'.car = A1.car ∧
      Dir p.s1 p.b { B' with car := A1.car + out.length } (p.c0 ++ out) Nb m ∧ Ma ≤ m ∧ (∃ R, p.s1 = p.c0 ++ out ++ R) ∧ (∀ k : Nat, (k < Ma ∨ ∃ q ∈ A1.im, q.1 = (k : Int)) → k < m ∨ ∃ q ∈ B'.im, q.1 = (k : Int)) := by
    clear hr hsay hack hab hta
    cases l with
    | nil =>
      refine ⟨Ma, A1, [], rfl, rfl, rfl, rfl, rfl, rfl, rfl, rfl, rfl, ?_, Nat.le_refl _, ?_, fun k hk => hk⟩
      · rw [List.append_nil]
        exact hba.same rfl rfl rfl rfl rfl rfl rfl (by simp)
      · obtain ⟨R, hR⟩ := h.ba.rest Ma
        rw [← h.ba.cm] at hR
        exact ⟨R, by rw [List.append_nil]; exact hR⟩
    | cons x l' =>
      have hl' : l' = [] := List.length_eq_zero_iff.1 (by simp only [List.length_cons] at h4; omega)
      subst hl'
      obtain ⟨m, B', out, e1, e2, e3, e4, e5, e6, e7⟩ := hba.item (h5 x (by simp)).1 true
      refine ⟨m, B', out, by simp only [itemsF, e1, List.append_nil], by rw [e2], by rw [e2], by rw [e2], by rw [e2], by rw [e2], by rw [e2], by rw [e2], by rw [e2], e3, e4, e5, e6⟩
  obtain ⟨m, B', out, e1, b1, b2, b3, b4, b5, b6, b7, b8, g1, g2, g3, g4⟩ := key
  rw [e1] at hr
  simp only at hr
  refine ⟨m, ?_, by rw [hr], by rw [hr]; exact g3⟩
  unfold recv0
  rw [hr]
  simp only
  refine ⟨hab.same b1 b2 b3 rfl rfl rfl rfl rfl, ?_, ?_, h.w0, h.l0, h.l1, ⟨?_, ?_, ?_⟩, h.tb, ?_, h.wb, h.now, ?_, h.badb, h.sa, h.sb⟩
  · exact g1.same rfl rfl rfl rfl rfl rfl rfl (by simp only; rw [b8])
  · intro e he
    refine (h.w1 e he).mono (Nat.le_refl _) ?_ ?_
    · have := g1.ix; have := h.ba.ix; simp only at *; omega
    · intro k hk
      have q1 := h.ba.ix
      have q2 := g1.ix
      simp only at q2 ⊢
      rw [q1, i2] at hk
      rw [q2]
      rcases g4 k (by rcases hk with hk | hk; exact .inl (by omega); exact .inr hk) with q | q
      · left; omega
      · exact .inr q
  · simp only; rw [b5, b6]; exact hta.cf
  · simp only; rw [b3, b4]; exact hta.nums
  · simp only; rw [b4, b5, b6]; exact hta.ti
  · simp only; rw [b2, ← i6]; exact hwa
  · simp only; rw [b7, ← i7]; exact hbd
end Go.AEX

/- Two ends: what holds of both, further events. -/
namespace Go.AEX
open Go Go.AE Go.Proofs
set_option maxRecDepth 100000
set_option linter.unusedVariables false
set_option linter.unusedSimpArgs false

theorem Inv.here {E : Nat} {p : PS} {Na Mb Nb Ma : Nat} (h : Inv E p Na Mb Nb Ma) : ∃ R, p.s1 = p.c0 ++ [] ++ R := by
  obtain ⟨R, hR⟩ := h.ba.rest Ma
  rw [← h.ba.cm] at hR
  exact ⟨R, by rw [List.append_nil]; exact hR⟩
theorem Inv.nothing {E : Nat} {p : PS} {Na Mb Nb Ma : Nat} (h : Inv E p Na Mb Nb Ma) {d : List UInt8} (hd : (linkP d).2.2 ≠ 0) :
    Inv (E + 1) (recv0 p d) Na Mb Nb Ma ∧ ∃ R, p.s1 = p.c0 ++ (recvF p.a d).2.1 ++ R := by
  have hr : recvF p.a d = ({ p.a with bad := p.a.bad + 1 }, [], (linkP d).2.2) := by unfold recvF; rw [if_pos hd]
  unfold recv0
  rw [hr]
  simp only
  have hm := h.mono (Nat.le_succ E)
  have hb := h.bada
  refine ⟨⟨h.ab.same rfl rfl rfl rfl rfl rfl rfl rfl, ?_, fun e he => (h.w1 e he).mono (Nat.le_refl _) (Int.le_refl _) fun k hk => hk, hm.w0, hm.l0, hm.l1, ⟨h.ta.cf, h.ta.nums, h.ta.ti⟩, hm.tb, hm.wa, hm.wb, hm.now, ?_, hm.badb, hm.sa, hm.sb⟩, h.here⟩
  · rw [List.append_nil]
    exact h.ba.same rfl rfl rfl rfl rfl rfl rfl rfl
  · simp only; omega
theorem Inv.send {E : Nat} {p : PS} {Na Mb Nb Ma : Nat} (h : Inv E p Na Mb Nb Ma) {t : List UInt8} (ht : t.length ≤ 500) (he : E ≤ 5000) : Inv (E + 1) (send0 p t) Na Mb Nb Ma := by
  have hm := h.mono (Nat.le_succ E)
  unfold send0
  split
  · rename_i c
    have hs := h.sa
    refine ⟨h.ab.send ht (by omega), h.ba.same rfl rfl rfl rfl rfl rfl rfl rfl, ?_, hm.w0, hm.l0, hm.l1, ⟨h.ta.cf, h.ta.nums, h.ta.ti⟩, hm.tb, ?_, hm.wb, hm.now, hm.bada, hm.badb, ?_, hm.sb⟩
    · intro d hd
      simp only
      rw [partsOf_snoc]
      exact ((h.w1 d hd).mono (A' := { p.a with ws := p.a.ws ++ cutP t }) (Nat.le_refl _) (Int.le_refl _) fun k hk => hk).more h.ab.le
    · simp only [List.length_append]; exact c
    · simp; omega
  · exact hm
theorem Inv.way {E : Nat} {p : PS} {Na Mb Nb Ma : Nat} (h : Inv E p Na Mb Nb Ma) {w : List (List UInt8)} (hw : ∀ d ∈ w, d ∈ p.w0) (hl : w.length ≤ 60) : Inv E { p with w0 := w } Na Mb Nb Ma :=
  ⟨h.ab, h.ba, h.w1, fun d hd => h.w0 d (hw d hd), hl, h.l1, h.ta, h.tb, h.wa, h.wb, h.now, h.bada, h.badb, h.sa, h.sb⟩
theorem addW_mem {d : List UInt8} : ∀ {o w : List (List UInt8)}, d ∈ addW w o → d ∈ w ∨ d ∈ o
  | [], w, h => .inl h
  | x :: o, w, h => by
    rw [addW] at h
    rcases addW_mem h with h | h
    · split at h
      · rcases List.mem_append.1 h with h | h
        · exact .inl h
        · simp at h; subst h; exact .inr (by simp)
      · exact .inl h
    · exact .inr (by simp [h])
theorem poll_dir {S A B C N M S' C' N' M'} {now : Int} (hab : Dir S A B C N M) (hba : Dir S' B A C' N' M') (ht : Tmr A now) (hn : 0 ≤ now) :
    ∃ N2, N ≤ N2 ∧ Dir S (pollF A (now + 1)).1 B C N2 M ∧ Dir S' B (pollF A (now + 1)).1 C' N' M' ∧ Tmr (pollF A (now + 1)).1 (now + 1) ∧ (pollF A (now + 1)).1.ws.length ≤ A.ws.length ∧ (pollF A (now + 1)).1.bad = A.bad ∧
      (pollF A (now + 1)).1.inx = A.inx ∧ (pollF A (now + 1)).1.im = A.im ∧ ∀ d ∈ (pollF A (now + 1)).2, Dg (partsOf S) N2 (pollF A (now + 1)).1 d := by
  have hp := hab.parts
  have hp2 := hba.parts
  have hle2 := hba.le
  have hm2 := hba.mle
  have hnr2 := hba.near
  obtain ⟨N2, F⟩ := fill_it A.cf (now + 1) (partsOf S) (by omega) A.ws ⟨A.on, A.ol, A.tl.map (updE A.cm (now + 1))⟩ N hab.on hab.ws hab.le hab.ol hab.sorted hab.win (by
    simp only [List.map_map, ← ht.nums]
    apply List.map_congr_left
    intro e _
    simp only [Function.comp, updE]; split <;> rfl)
  have hT : fillF A.cf (now + 1) A.ws ⟨A.on, A.ol, A.tl.map (updE A.cm (now + 1))⟩ = pollT A (now + 1) := rfl
  rw [hT] at F
  simp only at F
  have h1 : Dir S (pollF A (now + 1)).1 B C N2 M := by
    refine ⟨F.on, hab.ix, hab.sz, hab.cnt, F.ws, F.le, fun x hx => ?_, F.sorted, F.win, fun q hq => ⟨(hab.im q hq).1.mono F.ge, (hab.im q hq).2⟩, hab.nd, fun k hk hk2 => ?_, by have := hab.mle; have := F.ge; omega, hab.cm, hab.js, hab.car⟩
    · have hx : x ∈ (pollT A (now + 1)).2.1.ol := hx
      rw [F.ol] at hx
      rcases List.mem_append.1 hx with hx | hx
      · exact (hab.ol x hx).mono F.ge
      · obtain ⟨k, _, q2, q3⟩ := F.it x hx; exact ⟨k, q2, q3⟩
    · show _ ∨ ∃ x ∈ (pollT A (now + 1)).2.1.ol, _
      rw [F.ol]
      rcases Nat.lt_or_ge k N with c | c
      · rcases hab.un k hk c with q | ⟨x, hx, e⟩
        · exact .inl q
        · exact .inr ⟨x, by simp [hx], e⟩
      · obtain ⟨x, hx, e⟩ := F.all k c hk2
        exact .inr ⟨x, by simp [hx], e⟩
  refine ⟨N2, F.ge, h1, hba.same rfl rfl rfl rfl rfl rfl rfl rfl, ht.poll hn F _ rfl rfl rfl rfl, ?_, rfl, rfl, rfl, ?_⟩
  · show (pollT A (now + 1)).1.length ≤ _
    rw [F.ws, hab.ws, List.length_drop, List.length_drop]
    have := F.ge; omega
  · have hix := hba.ix
    have hone : ∀ l : List Itm, l.length ≤ 1 → (∀ x ∈ l, It (partsOf S) N2 x) → Dg (partsOf S) N2 (pollF A (now + 1)).1 (dgL A l) := by
      intro l hl hi
      have hb := bitsW_lt A.inx A.im 32
      refine ⟨M', bitsW A.inx A.im 32, l, ?_, ?_, by omega, by omega, hl, fun x hx => ⟨hi x hx, (h1.it_len (hi x hx)).2⟩, fun k hk hh => ?_⟩
      · unfold dgL; rw [hix]; rfl
      · show (M' : Int) ≤ A.inx; omega
      · show (k : Int) < A.inx ∨ ∃ q ∈ A.im, q.1 = (k : Int)
        rw [hix] at hh ⊢
        exact has_got (fun q hq => by
          have := hba.im q hq
          have := this.1.rg
          omega) hba.nd (by omega) k hk hh
    intro d hd
    have hd : d ∈ (if A.tell = true ∧ (pollO A (now + 1)).length = 0 then [dgL A []] else pollO A (now + 1)) := hd
    split at hd
    · simp at hd; subst hd; exact hone [] (by simp) (by simp)
    · unfold pollO at hd
      rcases List.mem_append.1 hd with hd | hd
      · obtain ⟨x, hx, rfl⟩ := List.mem_map.1 hd
        refine hone [x] (by simp) fun z hz => ?_
        simp at hz; subst hz
        exact (hab.ol _ (List.mem_filter.1 hx).1).mono F.ge
      · obtain ⟨x, hx, rfl⟩ := List.mem_map.1 hd
        refine hone [x] (by simp) fun z hz => ?_
        simp at hz; subst hz
        obtain ⟨k, _, q2, q3⟩ := F.it _ hx; exact ⟨k, q2, q3⟩
theorem Inv.tick {E : Nat} {p : PS} {Na Mb Nb Ma : Nat} (h : Inv E p Na Mb Nb Ma) : ∃ Na' Nb', Inv (E + 1) (pollP p) Na' Mb Nb' Ma := by
  have hn := h.now
  obtain ⟨Na', g0, g1, g2, g3, g4, g5, g6, g7, g8⟩ := poll_dir h.ab h.ba h.ta hn.1
  obtain ⟨Nb', k0, k1, k2, k3, k4, k5, k6, k7, k8⟩ := poll_dir g2 g1 h.tb hn.1
  have hm := h.mono (Nat.le_succ E)
  refine ⟨Na', Nb', ?_⟩
  have e : pollP p = { p with now := p.now + 1, a := (pollF p.a (p.now + 1)).1, w1 := addW p.w1 (pollF p.a (p.now + 1)).2, b := (pollF p.b (p.now + 1)).1, w0 := addW p.w0 (pollF p.b (p.now + 1)).2 } := rfl
  rw [e]
  have l0 := addW_len (pollF p.b (p.now + 1)).2 p.w0
  have l1 := addW_len (pollF p.a (p.now + 1)).2 p.w1
  have h0 := h.l0
  have h1 := h.l1
  have hwa := h.wa
  have hwb := h.wb
  refine ⟨k2, k1, fun d hd => ?_, fun d hd => ?_, by simp only; omega, by simp only; omega, g3, k3, by simp only; omega, by simp only; omega, by simp only; omega, by simp only; rw [g5]; exact hm.bada, by simp only; rw [k5]; exact hm.badb, hm.sa, hm.sb⟩
  · rcases addW_mem hd with hd | hd
    · exact (h.w1 d hd).mono g0 (by rw [g6]; exact Int.le_refl _) fun k hk => by rw [g6, g7]; exact hk
    · exact g8 d hd
  · rcases addW_mem hd with hd | hd
    · exact (h.w0 d hd).mono k0 (by rw [k6]; exact Int.le_refl _) fun k hk => by rw [k6, k7]; exact hk
    · exact k8 d hd
theorem ixW_lt (n : Int) {k : Nat} (h : 0 < k) : ixW n k < k := Nat.mod_lt _ h
theorem atW_mem {w : List (List UInt8)} (n : Int) (h : 0 < w.length) : atW w n ∈ w := by
  unfold atW
  rw [List.getD_eq_getElem?_getD, List.getElem?_eq_getElem (ixW_lt n h)]
  exact List.getElem_mem _
theorem delW_mem {w : List (List UInt8)} {n : Int} {d : List UInt8} (h : d ∈ delW w n) : d ∈ w := by
  unfold delW at h
  rcases List.mem_append.1 h with h | h
  · exact List.mem_of_mem_take h
  · exact List.mem_of_mem_drop h
theorem delW_len (w : List (List UInt8)) (n : Int) : (delW w n).length ≤ w.length := by
  unfold delW; rw [List.length_append, List.length_take, List.length_drop]; omega
theorem bend_bad {Q : List Part} {N : Nat} {A : LS} {d : List UInt8} (h : Dg Q N A d) (n : Int) (y : UInt8) : bendD d n y = d ∨ (linkP (bendD d n y)).2.2 ≠ 0 := by
  obtain ⟨nx, bits, l, rfl, _⟩ := h
  unfold dgB
  generalize ([] ++ numsB [nx, bits] ++ numsB ([(l.length : Int)].map posN) ++ itsB l) = S
  have hl : 0 < (sealB S).length := by rw [sealB_len]; omega
  have hj := ixW_lt n hl
  unfold bendD
  rw [List.getD_eq_getElem?_getD, List.getElem?_eq_getElem hj]
  simp only [Option.getD_some]
  by_cases c : y = 0
  · left
    rw [c, UInt8.xor_zero, List.set_getElem_self]
  · right
    obtain ⟨_, q⟩ := bent S _ hj ((sealB S)[ixW n (sealB S).length] ^^^ y) (xor_ne c)
    unfold linkP
    rcases q with q | ⟨_, q⟩ <;> rw [q] <;> simp
end Go.AEX

/- Two ends: any event. -/
namespace Go.AEX
open Go Go.AE Go.Proofs
set_option maxRecDepth 100000
set_option linter.unusedVariables false
set_option linter.unusedSimpArgs false

structure Act where
  kind : Int
  who : Int
  n : Int
  at' : Int
  y : UInt8
  s : List UInt8
abbrev actV (x : Act) : AV := .agg [.int .i64 x.kind, .int .i64 x.who, .int .i64 x.n, .int .i64 x.at', .int .u8 x.y.toNat, .str x.s]
theorem send1_eq (p : PS) (t : List UInt8) : send1 p t = sw (send0 (sw p) t) := by unfold send1 send0 sw; split <;> rfl
def does0 (p : PS) (x : Act) : PS :=
  if x.kind = 1 then send0 p (x.s.take 500) else if x.kind = 2 then pollP p else
  if x.kind = 7 then (if (refP (x.s.take 60)).2 = 0 then p else recv0 p (x.s.take 60)) else
  if x.kind < 3 ∨ 6 < x.kind ∨ p.w0.length = 0 then p else
  if x.kind = 3 then recv0 { p with w0 := delW p.w0 x.n } (atW p.w0 x.n) else
  if x.kind = 4 then { p with w0 := delW p.w0 x.n } else
  if x.kind = 5 then recv0 p (atW p.w0 x.n) else
  recv0 { p with w0 := delW p.w0 x.n } (bendD (atW p.w0 x.n) x.at' x.y)
set_option maxHeartbeats 4000000 in
theorem does0_spec {E : Nat} {p : PS} {Na Mb Nb Ma : Nat} (h : Inv E p Na Mb Nb Ma) (he : E ≤ 4000) (x : Act) (hw : ibits .and .i64 x.who 1 = 0) :
    Tri Try.prog 9 [.pbox 0 0, actV x] (pN p) (fun v m => v = .bool true ∧ m = pN2 (does0 p x)) ∧ ∃ Na' Mb' Nb' Ma', Inv (E + 1) (does0 p x) Na' Mb' Nb' Ma' := by
  have hz := h
  obtain ⟨ok, rb⟩ := hz.ok (by omega)
  have hsz := hz.sb
  have hsz2 := hz.sa
  have hl0 := hz.l0
  have hwz := hz.wa
  have hnow := h.now
  have hm := h.mono (Nat.le_succ E)
  have hNb : (Nb : Nat) ≤ 1000000 := by have := hz.ba.le; have := hz.ba.parts; omega
  obtain ⟨kind, who, n, at', y, s⟩ := x
  simp only at hw ⊢
  unfold does0
  simp only
  by_cases k1 : kind = 1
  · subst k1
    rw [if_pos rfl]
    have q := hz.send (t := s.take 500) (by rw [List.length_take]; omega) (by omega)
    exact ⟨pdo1_0 p who n at' y s hw hwz (by omega), Na, Mb, Nb, Ma, q⟩
  rw [if_neg k1]
  by_cases k2 : kind = 2
  · subst k2
    rw [if_pos rfl]
    obtain ⟨Na', Nb', q⟩ := h.tick
    exact ⟨pdo2_0 p who n at' y s hw (h.ok (by omega)).1 (h.swap.ok (by omega)).1 (by omega), _, _, _, _, q⟩
  rw [if_neg k2]
  by_cases k7 : kind = 7
  · subst k7
    rw [if_pos rfl]
    by_cases c : (refP (s.take 60)).2 = 0
    · rw [if_pos c]
      exact ⟨pdo7n_0 p who n at' y s hw c, _, _, _, _, hm⟩
    · rw [if_neg c]
      have c2 : (linkP (s.take 60)).2.2 ≠ 0 := by rw [← refP_link]; exact c
      obtain ⟨q, R, hR⟩ := hz.nothing c2
      exact ⟨pdo7_0 p who n at' y s hw c ok (by rw [List.length_take]; omega) rb R hR (by omega), _, _, _, _, q⟩
  rw [if_neg k7]
  by_cases c0 : kind < 3 ∨ 6 < kind ∨ p.w0.length = 0
  · rw [if_pos c0]
    refine ⟨?_, _, _, _, _, hm⟩
    by_cases c1 : kind < 3
    · exact pdoL_0 p kind who n at' y s hw ⟨k1, k2, c1⟩
    · by_cases c2 : 6 < kind
      · exact pdoH_0 p kind who n at' y s hw ⟨k7, c2⟩
      · exact pdoE_0 p kind who n at' y s hw (by omega) (by omega)
  rw [if_neg c0]
  have h0 : 0 < p.w0.length := by omega
  have hmem := atW_mem n h0
  have hdg := hz.w0 _ hmem
  have hdl := Dg.len hdg hNb
  have hway := hz.way (w := delW p.w0 n) (fun d hd => delW_mem hd) (by have := delW_len p.w0 n; omega)
  by_cases k3 : kind = 3
  · subst k3
    rw [if_pos rfl]
    obtain ⟨Ma', q, _, R, hR⟩ := hway.recv hdg
    replace q := q.mono (Nat.le_succ E)
    exact ⟨pdo3_0 p who n at' y s hw h0 (by omega) ok (by omega) rb R hR (by omega), _, _, _, _, q⟩
  rw [if_neg k3]
  by_cases k4 : kind = 4
  · subst k4
    rw [if_pos rfl]
    replace hway := hway.mono (Nat.le_succ E)
    exact ⟨pdo4_0 p who n at' y s hw h0 (by omega), _, _, _, _, hway⟩
  rw [if_neg k4]
  by_cases k5 : kind = 5
  · subst k5
    rw [if_pos rfl]
    obtain ⟨Ma', q, _, R, hR⟩ := hz.recv hdg
    replace q := q.mono (Nat.le_succ E)
    exact ⟨pdo5_0 p who n at' y s hw h0 (by omega) ok (by omega) rb R hR (by omega), _, _, _, _, q⟩
  rw [if_neg k5]
  have k6 : kind = 6 := by omega
  subst k6
  have hbl : (bendD (atW p.w0 n) at' y).length ≤ 1000000 := by unfold bendD; rw [List.length_set]; omega
  rcases bend_bad hdg at' y with e | e
  · rw [← e] at hdg
    obtain ⟨Ma', q, _, R, hR⟩ := hway.recv hdg
    replace q := q.mono (Nat.le_succ E)
    exact ⟨pdo6_0 p who n at' y s hw h0 (by omega) hdl.1 ok hbl rb R hR (by omega), _, _, _, _, q⟩
  · obtain ⟨q, R, hR⟩ := hway.nothing e
    exact ⟨pdo6_0 p who n at' y s hw h0 (by omega) hdl.1 ok hbl rb R hR (by omega), _, _, _, _, q⟩
def does1 (p : PS) (x : Act) : PS :=
  if x.kind = 1 then send1 p (x.s.take 500) else if x.kind = 2 then pollP p else
  if x.kind = 7 then (if (refP (x.s.take 60)).2 = 0 then p else recv1 p (x.s.take 60)) else
  if x.kind < 3 ∨ 6 < x.kind ∨ p.w1.length = 0 then p else
  if x.kind = 3 then recv1 { p with w1 := delW p.w1 x.n } (atW p.w1 x.n) else
  if x.kind = 4 then { p with w1 := delW p.w1 x.n } else
  if x.kind = 5 then recv1 p (atW p.w1 x.n) else
  recv1 { p with w1 := delW p.w1 x.n } (bendD (atW p.w1 x.n) x.at' x.y)
set_option maxHeartbeats 4000000 in
theorem does1_spec {E : Nat} {p : PS} {Na Mb Nb Ma : Nat} (h : Inv E p Na Mb Nb Ma) (he : E ≤ 4000) (x : Act) (hw : ibits .and .i64 x.who 1 = 1) :
    Tri Try.prog 9 [.pbox 0 0, actV x] (pN p) (fun v m => v = .bool true ∧ m = pN2 (does1 p x)) ∧ ∃ Na' Mb' Nb' Ma', Inv (E + 1) (does1 p x) Na' Mb' Nb' Ma' := by
  have hz := h.swap
  obtain ⟨ok, rb⟩ := hz.ok (by omega)
  have hsz := hz.sb
  have hsz2 := hz.sa
  have hl0 := hz.l0
  have hwz := hz.wa
  have hnow := h.now
  have hm := h.mono (Nat.le_succ E)
  have hNb : (Na : Nat) ≤ 1000000 := by have := hz.ba.le; have := hz.ba.parts; omega
  simp only [sw] at hz ok rb hsz hsz2 hl0 hwz
  obtain ⟨kind, who, n, at', y, s⟩ := x
  simp only at hw ⊢
  unfold does1
  simp only
  by_cases k1 : kind = 1
  · subst k1
    rw [if_pos rfl]
    have q := hz.send (t := s.take 500) (by rw [List.length_take]; omega) (by omega)
    exact ⟨pdo1_1 p who n at' y s hw hwz (by omega), Na, Mb, Nb, Ma, by rw [send1_eq]; exact q.swap⟩
  rw [if_neg k1]
  by_cases k2 : kind = 2
  · subst k2
    rw [if_pos rfl]
    obtain ⟨Na', Nb', q⟩ := h.tick
    exact ⟨pdo2_1 p who n at' y s hw (h.ok (by omega)).1 (h.swap.ok (by omega)).1 (by omega), _, _, _, _, q⟩
  rw [if_neg k2]
  by_cases k7 : kind = 7
  · subst k7
    rw [if_pos rfl]
    by_cases c : (refP (s.take 60)).2 = 0
    · rw [if_pos c]
      exact ⟨pdo7n_1 p who n at' y s hw c, _, _, _, _, hm⟩
    · rw [if_neg c]
      have c2 : (linkP (s.take 60)).2.2 ≠ 0 := by rw [← refP_link]; exact c
      obtain ⟨q, R, hR⟩ := hz.nothing c2
      exact ⟨pdo7_1 p who n at' y s hw c ok (by rw [List.length_take]; omega) rb R hR (by omega), _, _, _, _, q.swap⟩
  rw [if_neg k7]
  by_cases c0 : kind < 3 ∨ 6 < kind ∨ p.w1.length = 0
  · rw [if_pos c0]
    refine ⟨?_, _, _, _, _, hm⟩
    by_cases c1 : kind < 3
    · exact pdoL_1 p kind who n at' y s hw ⟨k1, k2, c1⟩
    · by_cases c2 : 6 < kind
      · exact pdoH_1 p kind who n at' y s hw ⟨k7, c2⟩
      · exact pdoE_1 p kind who n at' y s hw (by omega) (by omega)
  rw [if_neg c0]
  have h0 : 0 < p.w1.length := by omega
  have hmem := atW_mem n h0
  have hdg := hz.w0 _ hmem
  have hdl := Dg.len hdg hNb
  have hway := hz.way (w := delW p.w1 n) (fun d hd => delW_mem hd) (by have := delW_len p.w1 n; omega)
  by_cases k3 : kind = 3
  · subst k3
    rw [if_pos rfl]
    obtain ⟨Ma', q, _, R, hR⟩ := hway.recv hdg
    replace q := q.mono (Nat.le_succ E)
    exact ⟨pdo3_1 p who n at' y s hw h0 (by omega) ok (by omega) rb R hR (by omega), _, _, _, _, q.swap⟩
  rw [if_neg k3]
  by_cases k4 : kind = 4
  · subst k4
    rw [if_pos rfl]
    replace hway := hway.mono (Nat.le_succ E)
    exact ⟨pdo4_1 p who n at' y s hw h0 (by omega), _, _, _, _, hway.swap⟩
  rw [if_neg k4]
  by_cases k5 : kind = 5
  · subst k5
    rw [if_pos rfl]
    obtain ⟨Ma', q, _, R, hR⟩ := hz.recv hdg
    replace q := q.mono (Nat.le_succ E)
    exact ⟨pdo5_1 p who n at' y s hw h0 (by omega) ok (by omega) rb R hR (by omega), _, _, _, _, q.swap⟩
  rw [if_neg k5]
  have k6 : kind = 6 := by omega
  subst k6
  have hbl : (bendD (atW p.w1 n) at' y).length ≤ 1000000 := by unfold bendD; rw [List.length_set]; omega
  rcases bend_bad hdg at' y with e | e
  · rw [← e] at hdg
    obtain ⟨Ma', q, _, R, hR⟩ := hway.recv hdg
    replace q := q.mono (Nat.le_succ E)
    exact ⟨pdo6_1 p who n at' y s hw h0 (by omega) hdl.1 ok hbl rb R hR (by omega), _, _, _, _, q.swap⟩
  · obtain ⟨q, R, hR⟩ := hway.nothing e
    exact ⟨pdo6_1 p who n at' y s hw h0 (by omega) hdl.1 ok hbl rb R hR (by omega), _, _, _, _, q.swap⟩
def doesF (p : PS) (x : Act) : PS := if ibits .and .i64 x.who 1 = 0 then does0 p x else does1 p x
theorem does_spec {E : Nat} {p : PS} {Na Mb Nb Ma : Nat} (h : Inv E p Na Mb Nb Ma) (he : E ≤ 4000) (x : Act) :
    Tri Try.prog 9 [.pbox 0 0, actV x] (pN p) (fun v m => v = .bool true ∧ m = pN2 (doesF p x)) ∧ ∃ Na' Mb' Nb' Ma', Inv (E + 1) (doesF p x) Na' Mb' Nb' Ma' := by
  obtain ⟨j, hj, hj2⟩ := and_i64 x.who (k := 1) (by decide)
  have hj : ibits .and .i64 x.who 1 = (j : Int) := hj
  unfold doesF
  by_cases c : j = 0
  · subst c
    have hj : ibits .and .i64 x.who 1 = 0 := hj
    rw [if_pos hj]
    exact does0_spec h he x hj
  · have : j = 1 := by omega
    subst this
    have hj : ibits .and .i64 x.who 1 = 1 := hj
    rw [if_neg (by rw [hj]; decide)]
    exact does1_spec h he x hj
end Go.AEX
