/- HInv, HInw, HInx, HIny, HInz, HEv, HCar, HRel, HSaysI, HSaysW, HSays in one. -/
import Derived.Test.YthpfmahafgfbeaaHPairE
import Derived.Test.YthpfmahafgfbeaaAEzn
/- Two ends: what holds of one way. -/
namespace Go.AEX
open Go Go.AE Go.Proofs
set_option maxRecDepth 100000
set_option linter.unusedVariables false
set_option linter.unusedSimpArgs false

theorem allJ_app : ∀ (l k : List Part) (s : List UInt8) (n : Nat), (allJ s n l).2 = 0 →
    allJ s n (l ++ k) = ((allJ s n l).1 ++ (allJ (allS s n l).1 (allS s n l).2 k).1, (allJ (allS s n l).1 (allS s n l).2 k).2) ∧ allS s n (l ++ k) = allS (allS s n l).1 (allS s n l).2 k
  | [], k, s, n, h => by simp [allJ, allS]
  | p :: l, k, s, n, h => by
    rw [List.cons_append]
    simp only [allJ, allS] at h ⊢
    by_cases c : (putV s p.1 p.2).2.2 ≠ 0
    · rw [if_pos c] at h; exact absurd h c
    · rw [if_neg c] at h
      simp only [if_neg c]
      obtain ⟨ih1, ih2⟩ := allJ_app l k (putS s n p.1 p.2).1 (putS s n p.1 p.2).2 h
      rw [ih1, ih2]
      refine ⟨?_, rfl⟩
      split <;> simp
theorem allJ_pre : ∀ (l k : List Part) (s : List UInt8) (n : Nat), (allJ s n (l ++ k)).2 = 0 → (allJ s n l).2 = 0
  | [], k, s, n, h => rfl
  | p :: l, k, s, n, h => by
    rw [List.cons_append] at h
    simp only [allJ] at h ⊢
    by_cases c : (putV s p.1 p.2).2.2 ≠ 0
    · rw [if_pos c] at h ⊢; exact h
    · rw [if_neg c] at h
      rw [if_neg c]
      exact allJ_pre l k _ _ h
theorem takes_ok : ∀ (L : List Part) (B : LS), (∀ p ∈ L, p.2.length ≤ 200) → (allJ B.js B.jn L).2 = 0 →
    takesF B (L.map partB) = ({ B with js := (allS B.js B.jn L).1, jn := (allS B.js B.jn L).2 }, (allJ B.js B.jn L).1)
  | [], B, _, _ => rfl
  | p :: L, B, hp, h => by
    have h1 : (allJ B.js B.jn [p]).2 = 0 := allJ_pre [p] L _ _ h
    obtain ⟨a1, a2⟩ := allJ_app [p] L B.js B.jn h1
    have e : takeF B (partB p) = ({ B with js := (allS B.js B.jn [p]).1, jn := (allS B.js B.jn [p]).2 }, (allJ B.js B.jn [p]).1) := by
      unfold takeF
      rw [parse_partB p (hp p (by simp)), if_neg (by simp), if_neg (by simpa using h1)]
    rw [List.singleton_append] at a1 a2
    rw [a1] at h
    have ih := takes_ok L { B with js := (allS B.js B.jn [p]).1, jn := (allS B.js B.jn [p]).2 } (fun q hq => hp q (by simp [hq])) h
    rw [List.map_cons, takesF, e]
    simp only
    rw [ih, a1, a2]
abbrev prt (Q : List Part) (k : Nat) : Part := Q.getD k (false, [])
def It (Q : List Part) (N : Nat) (x : Int × List UInt8) : Prop := ∃ k : Nat, k < N ∧ x = ((k : Int), partB (prt Q k))
theorem It.mono {Q : List Part} {N N' : Nat} {x : Int × List UInt8} (h : It Q N x) (hn : N ≤ N') : It Q N' x := by
  obtain ⟨k, h1, h2⟩ := h; exact ⟨k, by omega, h2⟩
theorem It.more {Q R : List Part} {N : Nat} {x : Int × List UInt8} (h : It Q N x) (hq : N ≤ Q.length) : It (Q ++ R) N x := by
  obtain ⟨k, h1, h2⟩ := h
  refine ⟨k, h1, ?_⟩
  rw [h2]; unfold prt
  rw [List.getD_eq_getElem?_getD, List.getD_eq_getElem?_getD, List.getElem?_append_left (by omega)]
theorem It.rg {Q : List Part} {N : Nat} {x : Int × List UInt8} (h : It Q N x) : 0 ≤ x.1 ∧ x.1 < N := by
  obtain ⟨k, h1, rfl⟩ := h; simp only; omega
theorem drain_it {Q : List Part} {N : Nat} (hN : N ≤ 1000000) (hQ : N ≤ Q.length) : ∀ (f : Nat) (nx : Nat) (K : Ent) (o : List (List UInt8)), K.length < f → nx ≤ N → (∀ p ∈ K, It Q N p ∧ (nx : Int) ≤ p.1) → (K.map (·.1)).Nodup →
    ∃ (m : Nat) (K' : Ent), drain f (nx : Int) K o = ((m : Int), K', o ++ ((Q.drop nx).take (m - nx)).map partB) ∧ nx ≤ m ∧ m ≤ N ∧ (∀ p ∈ K', p ∈ K ∧ (m : Int) < p.1) ∧ (K'.map (·.1)).Nodup ∧ (∀ p ∈ K, p.1 < m ∨ p ∈ K')
  | 0, nx, K, o, hf, _, _, _ => by omega
  | f + 1, nx, K, o, hf, hnx, hK, hnd => by
    rw [drain]
    cases hl : lkE K nx with
    | none =>
      refine ⟨nx, K, by simp, Nat.le_refl _, hnx, fun p hp => ⟨hp, ?_⟩, hnd, fun p hp => .inr hp⟩
      have h1 := lk_none hl p hp
      have h2 := (hK p hp).2
      omega
    | some s =>
      have hm := lk_val hl
      obtain ⟨⟨k, hk1, hk2⟩, _⟩ := hK _ hm
      have hkn : k = nx := by have := congrArg Prod.fst hk2; simp only at this; omega
      subst hkn
      have hs : s = partB (prt Q k) := congrArg Prod.snd hk2
      have hd := delE_len K k (by rw [hl]; rfl)
      obtain ⟨g1, g2⟩ := del_nd (k := (k : Int)) hnd
      have hu : u32 ((k : Int) + 1) = ((k + 1 : Nat) : Int) := by unfold u32; rw [iwrap_u32]; omega
      obtain ⟨m, K', e, h1, h2, h3, h4, h5⟩ := drain_it hN hQ f (k + 1) (delE K k) (o ++ [s]) (by omega) (by omega) (fun p hp => by
        have q1 := hK p (del_sub hp)
        have q2 := g2 p hp
        rw [hl] at q2
        have q3 : p.1 ≠ (k : Int) := by rcases q2 with q2 | q2; exact q2; cases q2
        exact ⟨q1.1, by omega⟩) g1
      simp only
      rw [hu, e]
      refine ⟨m, K', ?_, by omega, h2, fun p hp => ⟨del_sub (h3 p hp).1, (h3 p hp).2⟩, h4, fun p hp => ?_⟩
      · have hkl : k < Q.length := by omega
        have e1 : Q.drop k = Q[k] :: Q.drop (k + 1) := List.drop_eq_getElem_cons hkl
        have e2 : m - k = (m - (k + 1)) + 1 := by omega
        have e3 : prt Q k = Q[k] := by unfold prt; rw [List.getD_eq_getElem?_getD, List.getElem?_eq_getElem hkl]; rfl
        rw [e1, e2, List.take_succ_cons, List.map_cons, hs, e3]
        simp
      · by_cases c : p.1 = (k : Int)
        · left; omega
        · exact h5 p (del_mem hp c)
theorem put_it {Q : List Part} {N M k : Nat} {K : Ent} (hN : N ≤ 1000000) (hQ : N ≤ Q.length) (hM : M ≤ N) (hk : k < N) (hw : N ≤ M + 32) (hK : ∀ p ∈ K, It Q N p ∧ (M : Int) < p.1) (hnd : (K.map (·.1)).Nodup) :
    ∃ (m : Nat) (K' : Ent), (putW M K k (partB (prt Q k))).1 = ((m : Int), K') ∧ (putW M K k (partB (prt Q k))).2.1 = ((Q.drop M).take (m - M)).map partB ∧ M ≤ m ∧ m ≤ N ∧ (∀ p ∈ K', It Q N p ∧ (m : Int) < p.1) ∧ (K'.map (·.1)).Nodup ∧
      (∀ p ∈ K, p.1 < m ∨ p ∈ K') ∧ (k < m ∨ ∃ p ∈ K', p.1 = (k : Int)) := by
  unfold putW
  simp only
  have hd : u32 ((k : Int) - (M : Int)) = if k < M then (k : Int) - M + 4294967296 else (k : Int) - M := by
    unfold u32; rw [iwrap_u32]; split <;> omega
  rw [hd]
  by_cases c : k < M
  · rw [if_pos c, if_pos (by omega)]
    exact ⟨M, K, rfl, by simp, Nat.le_refl _, hM, hK, hnd, fun p hp => .inr hp, .inl c⟩
  · rw [if_neg c, if_neg (by omega), if_neg (by omega)]
    by_cases c2 : (lkE K k).isSome = true
    · rw [if_pos c2]
      exact ⟨M, K, rfl, by simp, Nat.le_refl _, hM, hK, hnd, fun p hp => .inr hp, .inr (lk_some c2)⟩
    · rw [if_neg c2]
      have hnone : lkE K k = none := by simpa using c2
      have hKn : ∀ p ∈ K ++ [((k : Int), partB (prt Q k))], It Q N p ∧ (M : Int) ≤ p.1 := by
        intro p hp
        rcases List.mem_append.1 hp with hp | hp
        · exact ⟨(hK p hp).1, by have := (hK p hp).2; omega⟩
        · simp at hp; subst hp; exact ⟨⟨k, hk, rfl⟩, by simp only; omega⟩
      have hndn : ((K ++ [((k : Int), partB (prt Q k))]).map (·.1)).Nodup := by
        rw [List.map_append, List.nodup_append]
        refine ⟨hnd, by simp, fun a ha b hb => ?_⟩
        simp at hb; subst hb
        obtain ⟨p, hp, rfl⟩ := List.mem_map.1 ha
        exact lk_none hnone p hp
      obtain ⟨m, K', e, h1, h2, h3, h4, h5⟩ := drain_it hN hQ (K.length + 1 + 1) M (K ++ [((k : Int), partB (prt Q k))]) [] (by simp) hM hKn hndn
      have ef : drain (K.length + 1) (M : Int) (K ++ [((k : Int), partB (prt Q k))]) [] = drain (K.length + 1 + 1) (M : Int) (K ++ [((k : Int), partB (prt Q k))]) [] := drain_fuel (K.length + 1) (by simp) (Nat.le_refl _)
      rw [ef, e]
      refine ⟨m, K', rfl, by simp, h1, h2, fun p hp => ⟨(hKn p (h3 p hp).1).1, (h3 p hp).2⟩, h4, fun p hp => h5 p (by simp [hp]), ?_⟩
      rcases h5 ((k : Int), partB (prt Q k)) (by simp) with h | h
      · left; simp only at h; omega
      · exact .inr ⟨_, h, rfl⟩
end Go.AEX

/- Two ends: what holds of one way, step by step. -/
namespace Go.AEX
open Go Go.AE Go.Proofs
set_option maxRecDepth 100000
set_option linter.unusedVariables false
set_option linter.unusedSimpArgs false

structure Dir (S : List (List UInt8)) (A B : LS) (C : List (List UInt8)) (N M : Nat) : Prop where
  on : A.on = N
  ix : B.inx = M
  sz : ∀ s ∈ S, s.length ≤ 500
  cnt : S.length ≤ 10000
  ws : A.ws = (partsOf S).drop N
  le : N ≤ (partsOf S).length
  ol : ∀ x ∈ A.ol, It (partsOf S) N x
  sorted : A.ol.Pairwise fun x y => x.1 < y.1
  win : ∀ x ∈ A.ol, (N : Int) ≤ x.1 + 32
  im : ∀ p ∈ B.im, It (partsOf S) N p ∧ (M : Int) < p.1
  nd : (B.im.map (·.1)).Nodup
  un : ∀ k : Nat, M ≤ k → k < N → (∃ p ∈ B.im, p.1 = (k : Int)) ∨ ∃ x ∈ A.ol, x.1 = (k : Int)
  mle : M ≤ N
  cm : C = (allJ [] 0 ((partsOf S).take M)).1
  js : allS [] 0 ((partsOf S).take M) = (B.js, B.jn)
  car : B.car = C.length
theorem Dir.parts {S A B C N M} (h : Dir S A B C N M) : (partsOf S).length ≤ 40000 := by
  have := partsOf_len S (fun s hs => by have := h.sz s hs; omega)
  have := h.cnt
  omega
theorem Dir.small {S A B C N M} (h : Dir S A B C N M) : ∀ p ∈ partsOf S, p.2.length ≤ 200 := by
  intro p hp
  unfold partsOf at hp
  rw [List.mem_flatten] at hp
  obtain ⟨l, hl, hp⟩ := hp
  obtain ⟨s, hs, rfl⟩ := List.mem_map.1 hl
  exact cutP_small 2 s (by have := h.sz s hs; omega) p hp
theorem Dir.msgs {S A B C N M} (h : Dir S A B C N M) : allJ [] 0 (partsOf S) = (S, 0) := allJ_msgs S fun s hs => by have := h.sz s hs; omega
theorem Dir.pre {S A B C N M} (h : Dir S A B C N M) (m : Nat) : (allJ [] 0 ((partsOf S).take m)).2 = 0 := by
  apply allJ_pre _ ((partsOf S).drop m)
  rw [List.take_append_drop, h.msgs]
theorem Dir.rest {S A B C N M} (h : Dir S A B C N M) (m : Nat) : ∃ R, S = (allJ [] 0 ((partsOf S).take m)).1 ++ R := by
  have h1 := h.msgs
  have h2 := (allJ_app ((partsOf S).take m) ((partsOf S).drop m) [] 0 (h.pre m)).1
  rw [List.take_append_drop, h1] at h2
  exact ⟨_, congrArg Prod.fst h2⟩
theorem Dir.near {S A B C N M} (h : Dir S A B C N M) : N ≤ M + 32 := by
  rcases Nat.lt_or_ge M N with c | c
  · rcases h.un M (Nat.le_refl _) c with ⟨p, hp, e⟩ | ⟨x, hx, e⟩
    · have := (h.im p hp).2; omega
    · have := h.win x hx; omega
  · omega
theorem Dir.item {S A B C N M} (h : Dir S A B C N M) {x : Itm} (hx : It (partsOf S) N x) (tell : Bool) :
    ∃ (m : Nat) (B' : LS) (out : List (List UInt8)), itemF B x = (B', out) ∧ B' = { B with tell := true, inx := B'.inx, im := B'.im, js := B'.js, jn := B'.jn } ∧
      Dir S A { B' with car := B.car + out.length } (C ++ out) N m ∧ M ≤ m ∧ (∃ R, S = C ++ out ++ R) ∧ (∀ k : Nat, (k < M ∨ ∃ p ∈ B.im, p.1 = (k : Int)) → k < m ∨ ∃ p ∈ B'.im, p.1 = (k : Int)) ∧
      (x.1 < m ∨ ∃ p ∈ B'.im, p.1 = x.1) := by
  obtain ⟨k, hk, rfl⟩ := hx
  have hcp := h.parts
  have hle := h.le
  obtain ⟨m, K', e1, e2, h1, h2, h3, h4, h5, h6⟩ := put_it (Q := partsOf S) (N := N) (M := M) (k := k) (K := B.im) (by omega) hle h.mle hk h.near h.im h.nd
  have hpre := h.pre m
  have hsp : (partsOf S).take m = (partsOf S).take M ++ ((partsOf S).drop M).take (m - M) := by
    have := List.take_add (l := partsOf S) (i := M) (j := m - M)
    rw [show M + (m - M) = m by omega] at this
    exact this
  obtain ⟨a1, a2⟩ := allJ_app ((partsOf S).take M) (((partsOf S).drop M).take (m - M)) [] 0 (h.pre M)
  rw [h.js] at a1 a2
  simp only at a1 a2
  rw [← hsp] at a1 a2
  rw [a1] at hpre
  simp only at hpre
  have ht := takes_ok (((partsOf S).drop M).take (m - M)) (putL B ((k : Int), partB (prt (partsOf S) k))) (fun p hp => h.small p (List.mem_of_mem_drop (List.mem_of_mem_take hp))) hpre
  have hix := h.ix
  rw [← hix] at e1 e2
  refine ⟨m, { B with tell := true, inx := (m : Int), im := K', js := (allS B.js B.jn (((partsOf S).drop M).take (m - M))).1, jn := (allS B.js B.jn (((partsOf S).drop M).take (m - M))).2 }, (allJ B.js B.jn (((partsOf S).drop M).take (m - M))).1, ?_, rfl, ?_, h1, ?_, ?_, ?_⟩
  · unfold itemF
    rw [show (putW B.inx B.im ((k : Int), partB (prt (partsOf S) k)).1 ((k : Int), partB (prt (partsOf S) k)).2).2.1 = _ from e2, ht]
    simp only [putL, e1]
  · have hcm : C ++ (allJ B.js B.jn (((partsOf S).drop M).take (m - M))).1 = (allJ [] 0 ((partsOf S).take m)).1 := by rw [a1, h.cm]
    exact ⟨h.on, rfl, h.sz, h.cnt, h.ws, h.le, h.ol, h.sorted, h.win, h3, h4, fun j hj hj2 => by
      rcases h.un j (by omega) hj2 with ⟨p, hp, e⟩ | q
      · rcases h5 p hp with q | q
        · omega
        · exact .inl ⟨p, q, e⟩
      · exact .inr q, h2, hcm, a2, by simp only [List.length_append]; rw [h.car]; omega⟩
  · have hcm : C ++ (allJ B.js B.jn (((partsOf S).drop M).take (m - M))).1 = (allJ [] 0 ((partsOf S).take m)).1 := by rw [a1, h.cm]
    rw [hcm]
    exact h.rest m
  · rintro j (hj | ⟨p, hp, e⟩)
    · left; omega
    · rcases h5 p hp with q | q
      · left; omega
      · exact .inr ⟨p, q, e⟩
  · rcases h6 with q | q
    · left; simp only; omega
    · exact .inr q
theorem Dir.acked {S A B C N M} (h : Dir S A B C N M) (nx bits : Int) (T : List TE) (hv : ∀ k : Nat, k < N → hasW nx bits k = true → k < M ∨ ∃ p ∈ B.im, p.1 = (k : Int)) : Dir S { A with ol := leftW nx bits A.ol, tl := T } B C N M := by
  have hsub : ∀ x ∈ leftW nx bits A.ol, x ∈ A.ol := fun x hx => (List.mem_filter.1 hx).1
  refine ⟨h.on, h.ix, h.sz, h.cnt, h.ws, h.le, fun x hx => h.ol x (hsub x hx), h.sorted.sublist List.filter_sublist, fun x hx => h.win x (hsub x hx), h.im, h.nd, fun k hk hk2 => ?_, h.mle, h.cm, h.js, h.car⟩
  rcases h.un k hk hk2 with q | ⟨x, hx, e⟩
  · exact .inl q
  · cases hh : hasW nx bits k with
    | true =>
      rcases hv k hk2 hh with q | q
      · omega
      · exact .inl q
    | false =>
      refine .inr ⟨x, ?_, e⟩
      unfold leftW
      rw [List.mem_filter]
      exact ⟨hx, by rw [e, hh]; rfl⟩
theorem Dir.send {S A B C N M} (h : Dir S A B C N M) {t : List UInt8} (ht : t.length ≤ 500) (hc : S.length < 10000) : Dir (S ++ [t]) { A with ws := A.ws ++ cutP t } B C N M := by
  have hle := h.le
  have hm := h.mle
  have hp := partsOf_snoc S t
  have e1 : (partsOf (S ++ [t])).take M = (partsOf S).take M := by rw [hp, List.take_append_of_le_length (by omega)]
  refine ⟨h.on, h.ix, ?_, by simp; omega, ?_, by rw [hp, List.length_append]; omega, fun x hx => by rw [hp]; exact (h.ol x hx).more hle, h.sorted, h.win, fun p hq => ⟨by rw [hp]; exact (h.im p hq).1.more hle, (h.im p hq).2⟩, h.nd, h.un, h.mle, by rw [e1]; exact h.cm, by rw [e1]; exact h.js, h.car⟩
  · intro s hs
    rcases List.mem_append.1 hs with hs | hs
    · exact h.sz s hs
    · simp at hs; subst hs; exact ht
  · show A.ws ++ cutP t = _
    rw [h.ws, hp, List.drop_append_of_le_length (by omega)]
theorem Dir.same {S A B C N M} (h : Dir S A B C N M) {A' B' : LS} (a1 : A'.on = A.on) (a2 : A'.ws = A.ws) (a3 : A'.ol = A.ol) (b1 : B'.inx = B.inx) (b2 : B'.im = B.im) (b3 : B'.js = B.js) (b4 : B'.jn = B.jn) (b5 : B'.car = B.car) : Dir S A' B' C N M := by
  refine ⟨by rw [a1]; exact h.on, by rw [b1]; exact h.ix, h.sz, h.cnt, by rw [a2]; exact h.ws, h.le, by rw [a3]; exact h.ol, by rw [a3]; exact h.sorted, by rw [a3]; exact h.win, by rw [b2]; exact h.im, by rw [b2]; exact h.nd, by rw [a3, b2]; exact h.un, h.mle, h.cm, by rw [b3, b4]; exact h.js, by rw [b5]; exact h.car⟩
end Go.AEX

/- Two ends: what goes, what comes. -/
namespace Go.AEX
open Go Go.AE Go.Proofs
set_option maxRecDepth 100000
set_option linter.unusedVariables false
set_option linter.unusedSimpArgs false

theorem fdT_new {l : List TE} {n : Int} (h : ∀ e ∈ l, e.n ≠ n) : fdT l n < 0 := by
  unfold fdT idxH
  have : l.any (fun e => e.n == n) = false := by
    rw [List.any_eq_false]
    intro e he
    simpa using h e he
  rw [this]; simp
structure Fil (cf now : Int) (Q : List Part) (N : Nat) (ol : List Itm) (tl : List TE) (r : List Part × FS × List Itm) (N' : Nat) : Prop where
  ge : N ≤ N'
  le : N' ≤ Q.length
  ws : r.1 = Q.drop N'
  on : r.2.1.on = N'
  ol : r.2.1.ol = ol ++ r.2.2
  it : ∀ x ∈ r.2.2, ∃ k : Nat, N ≤ k ∧ k < N' ∧ x = ((k : Int), partB (prt Q k))
  all : ∀ k : Nat, N ≤ k → k < N' → ∃ x ∈ r.2.2, x.1 = (k : Int)
  sorted : r.2.1.ol.Pairwise fun x y => x.1 < y.1
  win : ∀ x ∈ r.2.1.ol, (N' : Int) ≤ x.1 + 32
  tl : r.2.1.tl = tl ++ r.2.2.map fun x => ⟨x.1, now + cf, cf, 0⟩
  full : r.1 = [] ∨ roomW r.2.1.on r.2.1.ol = false
theorem fill_it (cf now : Int) (Q : List Part) (hQ : Q.length ≤ 1000000) : ∀ (ws : List Part) (st : FS) (N : Nat), st.on = N → ws = Q.drop N → N ≤ Q.length → (∀ x ∈ st.ol, It Q N x) → (st.ol.Pairwise fun x y => x.1 < y.1) → (∀ x ∈ st.ol, (N : Int) ≤ x.1 + 32) →
    st.tl.map (·.n) = st.ol.map (·.1) → ∃ N', Fil cf now Q N st.ol st.tl (fillF cf now ws st) N'
  | [], st, N, hon, hws, hN, hol, hso, hwi, hnu => ⟨N, Nat.le_refl _, hN, hws, hon, by simp [fillF], by simp [fillF], fun k h1 h2 => by omega, hso, hwi, by simp [fillF], .inl rfl⟩
  | p :: ws, st, N, hon, hws, hN, hol, hso, hwi, hnu => by
    rw [fillF]
    have hlt : N < Q.length := by
      rcases Nat.lt_or_ge N Q.length with h | h
      · exact h
      · rw [List.drop_eq_nil_of_le h] at hws; cases hws
    have hd : Q.drop N = Q[N] :: Q.drop (N + 1) := List.drop_eq_getElem_cons hlt
    rw [hd] at hws
    obtain ⟨rfl, rfl⟩ := List.cons.inj hws
    have ep : prt Q N = Q[N] := by unfold prt; rw [List.getD_eq_getElem?_getD, List.getElem?_eq_getElem hlt]; rfl
    cases hr : roomW st.on st.ol with
    | false =>
      simp only [Bool.false_eq_true, if_false]
      exact ⟨N, Nat.le_refl _, hN, hd.symm, hon, by simp, by simp, fun k h1 h2 => by omega, hso, hwi, by simp, .inr hr⟩
    | true =>
      simp only [if_true]
      have hroom : ∀ x ∈ st.ol, (N : Int) < x.1 + 32 := by
        cases hc : st.ol with
        | nil => simp
        | cons x0 l =>
          rw [hc] at hr hso hol
          unfold roomW at hr
          simp only [decide_eq_true_eq] at hr
          have hx0 := (hol x0 (by simp)).rg
          have h0 : (N : Int) - x0.1 < 32 := by rw [hon] at hr; unfold u32 at hr; rw [iwrap_u32] at hr; omega
          intro x hx
          rcases List.mem_cons.1 hx with rfl | hx
          · omega
          · have := (List.pairwise_cons.1 hso).1 x hx; omega
      have hnew : fdT st.tl st.on < 0 := fdT_new fun e he h => by
        have : e.n ∈ st.ol.map (·.1) := by rw [← hnu]; exact List.mem_map.2 ⟨e, he, rfl⟩
        obtain ⟨x, hx, e2⟩ := List.mem_map.1 this
        have := (hol x hx).rg
        rw [h, hon] at e2; omega
      have hu : u32 (st.on + 1) = ((N + 1 : Nat) : Int) := by rw [hon]; unfold u32; rw [iwrap_u32]; omega
      have hst : startF cf now st.tl st.on = st.tl ++ [⟨st.on, now + cf, cf, 0⟩] := by unfold startF; rw [if_pos hnew]
      rw [hu, hst, hon]
      obtain ⟨N', f1, f2, f3, f4, f5, f6, f7, f8, f9, f10, f11⟩ := fill_it cf now Q hQ (Q.drop (N + 1)) ⟨((N + 1 : Nat) : Int), st.ol ++ [((N : Int), partB Q[N])], st.tl ++ [⟨(N : Int), now + cf, cf, 0⟩]⟩ (N + 1) rfl rfl (by omega)
        (fun x hx => by
          rcases List.mem_append.1 hx with hx | hx
          · exact (hol x hx).mono (by omega)
          · simp at hx; subst hx; exact ⟨N, by omega, by rw [ep]⟩)
        (by
          rw [List.pairwise_append]
          refine ⟨hso, by simp, fun x hx y hy => ?_⟩
          simp at hy; subst hy
          exact (hol x hx).rg.2)
        (fun x hx => by
          rcases List.mem_append.1 hx with hx | hx
          · have := hroom x hx; omega
          · simp at hx; subst hx; simp only; omega)
        (by simp [hnu])
      refine ⟨N', by omega, f2, f3, f4, by rw [f5]; simp, fun x hx => ?_, fun k h1 h2 => ?_, f8, f9, by rw [f10]; simp, f11⟩
      · rcases List.mem_cons.1 hx with rfl | hx
        · exact ⟨N, Nat.le_refl _, by omega, by rw [ep]⟩
        · obtain ⟨k, g1, g2, g3⟩ := f6 x hx; exact ⟨k, by omega, g2, g3⟩
      · by_cases c : k = N
        · subst c; exact ⟨_, List.mem_cons_self, rfl⟩
        · obtain ⟨x, hx, e⟩ := f7 k (by omega) h2; exact ⟨x, List.mem_cons_of_mem _ hx, e⟩
structure Tmr (A : LS) (now : Int) : Prop where
  cf : 1 ≤ A.cf ∧ A.cf ≤ A.cm ∧ A.cm ≤ 1000
  nums : A.tl.map (·.n) = A.ol.map (·.1)
  ti : ∀ e ∈ A.tl, (0 ≤ e.due ∧ e.due ≤ now + A.cm) ∧ (A.cf ≤ e.wait ∧ e.wait ≤ A.cm) ∧ (0 ≤ e.times ∧ e.times ≤ now)
theorem Tmr.acked {A : LS} {now : Int} (h : Tmr A now) (nx bits : Int) : Tmr { A with ol := leftW nx bits A.ol, tl := outL (toldW nx bits A.ol) A.tl } now := by
  refine ⟨h.cf, ?_, fun e he => h.ti e (List.mem_filter.1 he).1⟩
  show (outL (toldW nx bits A.ol) A.tl).map (·.n) = (leftW nx bits A.ol).map (·.1)
  unfold outL leftW
  have e1 : (A.tl.filter fun e => !decide (e.n ∈ toldW nx bits A.ol)).map (·.n) = (A.tl.map (·.n)).filter fun k => !decide (k ∈ toldW nx bits A.ol) := by rw [List.filter_map]; rfl
  have e2 : (A.ol.filter fun x => !hasW nx bits x.1).map (·.1) = (A.ol.map (·.1)).filter fun k => !hasW nx bits k := by rw [List.filter_map]; rfl
  rw [e1, e2, h.nums]
  apply List.filter_congr
  intro k hk
  obtain ⟨x, hx, rfl⟩ := List.mem_map.1 hk
  congr 1
  unfold toldW
  cases hh : hasW nx bits x.1 with
  | true => rw [decide_eq_true]; exact List.mem_map.2 ⟨x, List.mem_filter.2 ⟨hx, hh⟩, rfl⟩
  | false =>
    rw [decide_eq_false]
    intro hm
    obtain ⟨y, hy, e⟩ := List.mem_map.1 hm
    have := (List.mem_filter.1 hy).2
    rw [e, hh] at this; cases this
theorem Tmr.poll {A : LS} {now : Int} (h : Tmr A now) (hn : 0 ≤ now) {N N' : Nat} {Q : List Part} {r : List Part × FS × List Itm} (hf : Fil A.cf (now + 1) Q N A.ol (A.tl.map (updE A.cm (now + 1))) r N') (A' : LS) (a1 : A'.cf = A.cf) (a2 : A'.cm = A.cm) (a3 : A'.ol = r.2.1.ol) (a4 : A'.tl = r.2.1.tl) : Tmr A' (now + 1) := by
  have hc := h.cf
  refine ⟨by rw [a1, a2]; exact hc, ?_, ?_⟩
  · rw [a3, a4, hf.tl, hf.ol, List.map_append, List.map_append, List.map_map, List.map_map, ← h.nums]
    have e1 : ((fun e : TE => e.n) ∘ updE A.cm (now + 1)) = fun e : TE => e.n := by funext e; simp only [Function.comp, updE]; split <;> rfl
    rw [e1]; rfl
  · rw [a1, a2, a4, hf.tl]
    intro e he
    rcases List.mem_append.1 he with he | he
    · obtain ⟨e0, h0, rfl⟩ := List.mem_map.1 he
      obtain ⟨t1, t2, t3⟩ := h.ti e0 h0
      unfold updE
      split
      · simp only; omega
      · omega
    · obtain ⟨x, hx, rfl⟩ := List.mem_map.1 he
      simp only; omega
def Dg (Q : List Part) (N : Nat) (A : LS) (d : List UInt8) : Prop :=
  ∃ (nx bits : Nat) (l : List Itm), d = dgB nx bits l ∧ (nx : Int) ≤ A.inx ∧ nx < 1000000 ∧ bits < 4294967296 ∧ l.length ≤ 1 ∧ (∀ x ∈ l, It Q N x ∧ x.2.length ≤ 201) ∧
    (∀ k : Nat, k < 1000000 → hasW nx bits k = true → (k : Int) < A.inx ∨ ∃ p ∈ A.im, p.1 = (k : Int))
theorem kap1000 {n : Int} (h : 0 ≤ n ∧ n < 4294967296) : kap 1000 n = n := by rw [kap_eq]; omega
theorem has_got {M : Nat} {K : Ent} (hK : ∀ p ∈ K, (M : Int) < p.1 ∧ p.1 ≤ M + 32) (hnd : (K.map (·.1)).Nodup) (hM : M < 900000) (k : Nat) (hk : k < 1000000) :
    hasW M (bitsW M K 32 : Nat) k = true → ((k : Int) < M ∨ ∃ p ∈ K, p.1 = (k : Int)) := by
  have hw : WOk (M : Int) K := ⟨fun p hp => (hK p hp).1, fun p hp => (hK p hp).2, hnd⟩
  have e1 := bits_map (F := 1000) hw 32 (Nat.le_refl _)
  have eK : mapK 1000 K = K := by
    unfold mapK
    conv => rhs; rw [← List.map_id K]
    apply List.map_congr_left
    intro p hp
    have := hK p hp
    rw [kap1000 (by omega)]; rfl
  rw [kap1000 (by omega), eK] at e1
  rw [e1]
  have e2 := has_map 1000 M k (bitsR M K 32) (bitsR_lt _ _ 32) (by omega) (by omega)
  rw [kap1000 (by omega), kap1000 (by omega)] at e2
  rw [e2]
  by_cases c : (k : Int) ≤ M + 32
  · exact (hasR_iff M K hw k c).1
  · intro h
    unfold hasR at h
    rw [if_neg (by omega), if_pos (by omega)] at h
    cases h
end Go.AEX

/- Two ends: what holds of both, event by event. -/
namespace Go.AEX
open Go Go.AE Go.Proofs
set_option maxRecDepth 100000
set_option linter.unusedVariables false
set_option linter.unusedSimpArgs false

theorem allS_len : ∀ (l : List Part) (s : List UInt8) (n : Nat), s.length ≤ 65536 → n + l.length ≤ 900000 → (allS s n l).1.length ≤ 65536 ∧ (allS s n l).2 ≤ n + l.length
  | [], s, n, h, _ => by simp [allS]; exact h
  | p :: l, s, n, h, hn => by
    simp only [List.length_cons] at hn
    obtain ⟨q1, q2⟩ := putS_len s n p.1 p.2 h (by omega)
    simp only [allS]
    split
    · exact ⟨q1, by simp only [List.length_cons]; omega⟩
    · obtain ⟨r1, r2⟩ := allS_len l (putS s n p.1 p.2).1 (putS s n p.1 p.2).2 q1 (by omega)
      exact ⟨r1, by simp only [List.length_cons]; omega⟩
theorem prt_small {Q : List Part} (h : ∀ p ∈ Q, p.2.length ≤ 200) (k : Nat) : (prt Q k).2.length ≤ 200 := by
  unfold prt
  rw [List.getD_eq_getElem?_getD]
  cases hk : Q[k]? with
  | none => simp
  | some p => exact h p (List.mem_of_getElem? hk)
theorem partB_len (p : Part) : (partB p).length = p.2.length + 1 := by simp [partB]
theorem Dir.it_len {S A B C N M} (h : Dir S A B C N M) {x : Int × List UInt8} (hx : It (partsOf S) N x) : U32 x.1 ∧ x.2.length ≤ 201 := by
  have hp := h.parts
  have hl := h.le
  obtain ⟨k, hk, rfl⟩ := hx
  have := prt_small h.small k
  refine ⟨by unfold U32; simp only; omega, ?_⟩
  simp only [partB_len]; omega
theorem Dir.ol_len {S A B C N M} (h : Dir S A B C N M) : A.ol.length ≤ 32 := by
  have hnd : (A.ol.map (·.1)).Nodup := by
    rw [List.nodup_iff_pairwise_ne, List.pairwise_map]
    exact h.sorted.imp fun hxy e => by omega
  have := pigeon 32 (A.ol.map (·.1)) ((N : Int) - 33) hnd fun x hx => by
    obtain ⟨y, hy, rfl⟩ := List.mem_map.1 hx
    have h1 := h.win y hy
    have h2 := (h.ol y hy).rg
    omega
  simpa using this
theorem Dir.im_len {S A B C N M} (h : Dir S A B C N M) : B.im.length ≤ 32 := by
  have hn := h.near
  have := pigeon 32 (B.im.map (·.1)) M h.nd fun x hx => by
    obtain ⟨y, hy, rfl⟩ := List.mem_map.1 hx
    have h1 := h.im y hy
    have h2 := h1.1.rg
    omega
  simpa using this
structure Inv (E : Nat) (p : PS) (Na Mb Nb Ma : Nat) : Prop where
  ab : Dir p.s0 p.a p.b p.c1 Na Mb
  ba : Dir p.s1 p.b p.a p.c0 Nb Ma
  w1 : ∀ d ∈ p.w1, Dg (partsOf p.s0) Na p.a d
  w0 : ∀ d ∈ p.w0, Dg (partsOf p.s1) Nb p.b d
  l0 : p.w0.length ≤ 60
  l1 : p.w1.length ≤ 60
  ta : Tmr p.a p.now
  tb : Tmr p.b p.now
  wa : p.a.ws.length ≤ 700
  wb : p.b.ws.length ≤ 700
  now : 0 ≤ p.now ∧ p.now ≤ E
  bada : 0 ≤ p.a.bad ∧ p.a.bad ≤ E
  badb : 0 ≤ p.b.bad ∧ p.b.bad ≤ E
  sa : p.s0.length ≤ E
  sb : p.s1.length ≤ E
theorem Inv.swap {E : Nat} {p : PS} {Na Mb Nb Ma : Nat} (h : Inv E p Na Mb Nb Ma) : Inv E (sw p) Nb Ma Na Mb :=
  ⟨h.ba, h.ab, h.w0, h.w1, h.l1, h.l0, h.tb, h.ta, h.wb, h.wa, h.now, h.badb, h.bada, h.sb, h.sa⟩
theorem Inv.mono {E E' : Nat} {p : PS} {Na Mb Nb Ma : Nat} (h : Inv E p Na Mb Nb Ma) (he : E ≤ E') : Inv E' p Na Mb Nb Ma :=
  ⟨h.ab, h.ba, h.w1, h.w0, h.l0, h.l1, h.ta, h.tb, h.wa, h.wb, by have := h.now; omega, by have := h.bada; omega, by have := h.badb; omega, by have := h.sa; omega, by have := h.sb; omega⟩
theorem Inv.ok {E : Nat} {p : PS} {Na Mb Nb Ma : Nat} (h : Inv E p Na Mb Nb Ma) (he : E ≤ 5000) : LOk p.a ∧ RB 0 p.a 0 := by
  have hcf := h.ta.cf
  have hp := h.ab.parts
  have hp2 := h.ba.parts
  have hle := h.ab.le
  have hle2 := h.ba.le
  have hm2 := h.ba.mle
  have hol := h.ab.ol_len
  have him := h.ba.im_len
  have hnums := congrArg List.length h.ta.nums
  simp only [List.length_map] at hnums
  have hjs := allS_len ((partsOf p.s1).take Ma) [] 0 (by simp) (by rw [List.length_take]; omega)
  rw [h.ba.js] at hjs
  simp only [List.length_take] at hjs
  have hon := h.ab.on
  have hix := h.ba.ix
  have hwa := h.wa
  have hnow := h.now
  have hbad := h.bada
  have hcar := h.ba.car
  have hclen : p.c0.length ≤ 10000 := by
    obtain ⟨R, hR⟩ := h.ba.rest Ma
    rw [← h.ba.cm] at hR
    have h1 := congrArg List.length hR
    rw [List.length_append] at h1
    have := h.ba.cnt; omega
  have hmt : ∀ q ∈ p.a.im, q.2.length ≤ 10000 := fun q hq => by have := (h.ba.it_len (h.ba.im q hq).1).2; omega
  refine ⟨⟨by omega, by omega, by rw [hon]; unfold U32; omega, by rw [hix]; unfold U32; omega, by omega, by omega, by omega, by omega, fun x hx => ?_, fun q hq => ?_, fun e he => ?_, by omega, hmt⟩,
    ⟨by omega, by omega, by omega, by omega, hmt, Nat.le_refl _, by omega⟩⟩
  · have := h.ab.it_len (h.ab.ol x hx); exact ⟨this.1, by omega⟩
  · rw [h.ab.ws] at hq
    have := h.ab.small q (List.mem_of_mem_drop hq); omega
  · have := h.ta.ti e he
    omega
theorem Dg.len {Q : List Part} {N : Nat} {A : LS} {d : List UInt8} (h : Dg Q N A d) (hN : N ≤ 1000000) : 0 < d.length ∧ d.length ≤ 20000 := by
  obtain ⟨nx, bits, l, rfl, h1, h2, h3, h4, h5, h6⟩ := h
  refine ⟨?_, dgB_len nx bits l (by omega) (by omega) h4 fun x hx => ⟨?_, by have := (h5 x hx).2; omega⟩⟩
  · unfold dgB; rw [sealB_len]; omega
  · have := (h5 x hx).1.rg; unfold U32; omega
theorem Dg.says {Q : List Part} {N : Nat} {A : LS} {nx bits : Nat} {l : List Itm} (hN : N ≤ 1000000) (h2 : nx < 1000000) (h3 : bits < 4294967296) (h4 : l.length ≤ 1) (h5 : ∀ x ∈ l, It Q N x ∧ x.2.length ≤ 201) :
    linkP (dgB nx bits l) = (((nx : Int), (bits : Int)), l, 0) := by
  have := linkP_dg (nx : Int) bits l (by unfold U32; omega) h3 h4 fun x hx => ⟨by have := (h5 x hx).1.rg; unfold U32; omega, (h5 x hx).2⟩
  rwa [Int.toNat_natCast] at this
theorem Dg.mono {Q : List Part} {N N' : Nat} {A A' : LS} {d : List UInt8} (h : Dg Q N A d) (hn : N ≤ N') (hix : A.inx ≤ A'.inx) (hg : ∀ k : Nat, ((k : Int) < A.inx ∨ ∃ p ∈ A.im, p.1 = (k : Int)) → ((k : Int) < A'.inx ∨ ∃ p ∈ A'.im, p.1 = (k : Int))) : Dg Q N' A' d := by
  obtain ⟨nx, bits, l, rfl, h1, h2, h3, h4, h5, h6⟩ := h
  exact ⟨nx, bits, l, rfl, by omega, h2, h3, h4, fun x hx => ⟨(h5 x hx).1.mono hn, (h5 x hx).2⟩, fun k hk hh => hg k (h6 k hk hh)⟩
theorem Dg.more {Q R : List Part} {N : Nat} {A : LS} {d : List UInt8} (h : Dg Q N A d) (hq : N ≤ Q.length) : Dg (Q ++ R) N A d := by
  obtain ⟨nx, bits, l, rfl, h1, h2, h3, h4, h5, h6⟩ := h
  exact ⟨nx, bits, l, rfl, h1, h2, h3, h4, fun x hx => ⟨(h5 x hx).1.more hq, (h5 x hx).2⟩, h6⟩
theorem Inv.recv {E : Nat} {p : PS} {Na Mb Nb Ma : Nat} (h : Inv E p Na Mb Nb Ma) {d : List UInt8} (hd : Dg (partsOf p.s1) Nb p.b d) :
    ∃ Ma', Inv E (recv0 p d) Na Mb Nb Ma' ∧ (recvF p.a d).2.2 = 0 ∧ ∃ R, p.s1 = p.c0 ++ (recvF p.a d).2.1 ++ R := by
  have hp := h.ab.parts
  have hp2 := h.ba.parts
  have hle := h.ab.le
  have hle2 := h.ba.le
  obtain ⟨nx, bits, l, rfl, h1, h2, h3, h4, h5, h6⟩ := hd
  have hsay := Dg.says (A := p.b) (show Nb ≤ 1000000 by omega) h2 h3 h4 h5
  have hack : ackL p.a ((nx : Int), (bits : Int)) = { p.a with ol := leftW nx bits p.a.ol, tl := outL (toldW nx bits p.a.ol) p.a.tl } := by
    have hon := h.ab.on
    have hix := h.ab.ix
    have hml := h.ab.mle
    unfold ackL ackO ackN
    rw [if_neg (by unfold u32; rw [iwrap_u32]; omega), if_neg (by unfold u32; rw [iwrap_u32]; omega)]
  have hab := h.ab.acked nx bits (outL (toldW nx bits p.a.ol) p.a.tl) fun k hk hh => by
    have := h6 k (by omega) hh
    rw [h.ab.ix] at this
    rcases this with q | q
    · left; omega
    · exact .inr q
  have hta := h.ta.acked nx bits
  generalize hA1 : ({ p.a with ol := leftW nx bits p.a.ol, tl := outL (toldW nx bits p.a.ol) p.a.tl } : LS) = A1 at *
  have hA : p.a.inx = A1.inx ∧ p.a.im = A1.im ∧ p.a.js = A1.js ∧ p.a.jn = A1.jn ∧ p.a.car = A1.car ∧ p.a.ws = A1.ws ∧ p.a.bad = A1.bad := by rw [← hA1]; exact ⟨rfl, rfl, rfl, rfl, rfl, rfl, rfl⟩
  obtain ⟨i1, i2, i3, i4, i5, i6, i7⟩ := hA
  have hba := h.ba.same (A' := p.b) (B' := A1) rfl rfl rfl i1.symm i2.symm i3.symm i4.symm i5.symm
  have hr : recvF p.a (dgB nx bits l) = ({ (itemsF A1 l).1 with car := (itemsF A1 l).1.car + (itemsF A1 l).2.length }, (itemsF A1 l).2, 0) := by
    unfold recvF; rw [hsay]; simp only [hack]; rfl
  have hwa := h.wa
  have hbd := h.bada
  have key : ∃ (m : Nat) (B' : LS) (out : List (List UInt8)), itemsF A1 l = (B', out) ∧ B'.on = A1.on ∧ B'.ws = A1.ws ∧ B'.ol = A1.ol ∧ B'.tl = A1.tl ∧ B'.cf = A1.cf ∧ B'.cm = A1.cm ∧ B'.bad = A1.bad ∧ B'.car = A1.car ∧
      Dir p.s1 p.b { B' with car := A1.car + out.length } (p.c0 ++ out) Nb m ∧ Ma ≤ m ∧ (∃ R, p.s1 = p.c0 ++ out ++ R) ∧ (∀ k : Nat, (k < Ma ∨ ∃ q ∈ A1.im, q.1 = (k : Int)) → k < m ∨ ∃ q ∈ B'.im, q.1 = (k : Int)) := by
    clear hr hsay hack hab hta
    cases l with
    | nil =>
      refine ⟨Ma, A1, [], rfl, rfl, rfl, rfl, rfl, rfl, rfl, rfl, rfl, ?_, Nat.le_refl _, ?_, fun k hk => hk⟩
      · rw [List.append_nil]
        exact hba.same rfl rfl rfl rfl rfl rfl rfl (by simp)
      · obtain ⟨R, hR⟩ := h.ba.rest Ma
        rw [← h.ba.cm] at hR
        exact ⟨R, by rw [List.append_nil]; exact hR⟩
    | cons x l' =>
      have hl' : l' = [] := List.length_eq_zero_iff.1 (by simp only [List.length_cons] at h4; omega)
      subst hl'
      obtain ⟨m, B', out, e1, e2, e3, e4, e5, e6, e7⟩ := hba.item (h5 x (by simp)).1 true
      refine ⟨m, B', out, by simp only [itemsF, e1, List.append_nil], by rw [e2], by rw [e2], by rw [e2], by rw [e2], by rw [e2], by rw [e2], by rw [e2], by rw [e2], e3, e4, e5, e6⟩
  obtain ⟨m, B', out, e1, b1, b2, b3, b4, b5, b6, b7, b8, g1, g2, g3, g4⟩ := key
  rw [e1] at hr
  simp only at hr
  refine ⟨m, ?_, by rw [hr], by rw [hr]; exact g3⟩
  unfold recv0
  rw [hr]
  simp only
  refine ⟨hab.same b1 b2 b3 rfl rfl rfl rfl rfl, ?_, ?_, h.w0, h.l0, h.l1, ⟨?_, ?_, ?_⟩, h.tb, ?_, h.wb, h.now, ?_, h.badb, h.sa, h.sb⟩
  · exact g1.same rfl rfl rfl rfl rfl rfl rfl (by simp only; rw [b8])
  · intro e he
    refine (h.w1 e he).mono (Nat.le_refl _) ?_ ?_
    · have := g1.ix; have := h.ba.ix; simp only at *; omega
    · intro k hk
      have q1 := h.ba.ix
      have q2 := g1.ix
      simp only at q2 ⊢
      rw [q1, i2] at hk
      rw [q2]
      rcases g4 k (by rcases hk with hk | hk; exact .inl (by omega); exact .inr hk) with q | q
      · left; omega
      · exact .inr q
  · simp only; rw [b5, b6]; exact hta.cf
  · simp only; rw [b3, b4]; exact hta.nums
  · simp only; rw [b4, b5, b6]; exact hta.ti
  · simp only; rw [b2, ← i6]; exact hwa
  · simp only; rw [b7, ← i7]; exact hbd
end Go.AEX

/- Two ends: what holds of both, further events. -/
namespace Go.AEX
open Go Go.AE Go.Proofs
set_option maxRecDepth 100000
set_option linter.unusedVariables false
set_option linter.unusedSimpArgs false

theorem Inv.here {E : Nat} {p : PS} {Na Mb Nb Ma : Nat} (h : Inv E p Na Mb Nb Ma) : ∃ R, p.s1 = p.c0 ++ [] ++ R := by
  obtain ⟨R, hR⟩ := h.ba.rest Ma
  rw [← h.ba.cm] at hR
  exact ⟨R, by rw [List.append_nil]; exact hR⟩
theorem Inv.nothing {E : Nat} {p : PS} {Na Mb Nb Ma : Nat} (h : Inv E p Na Mb Nb Ma) {d : List UInt8} (hd : (linkP d).2.2 ≠ 0) :
    Inv (E + 1) (recv0 p d) Na Mb Nb Ma ∧ ∃ R, p.s1 = p.c0 ++ (recvF p.a d).2.1 ++ R := by
  have hr : recvF p.a d = ({ p.a with bad := p.a.bad + 1 }, [], (linkP d).2.2) := by unfold recvF; rw [if_pos hd]
  unfold recv0
  rw [hr]
  simp only
  have hm := h.mono (Nat.le_succ E)
  have hb := h.bada
  refine ⟨⟨h.ab.same rfl rfl rfl rfl rfl rfl rfl rfl, ?_, fun e he => (h.w1 e he).mono (Nat.le_refl _) (Int.le_refl _) fun k hk => hk, hm.w0, hm.l0, hm.l1, ⟨h.ta.cf, h.ta.nums, h.ta.ti⟩, hm.tb, hm.wa, hm.wb, hm.now, ?_, hm.badb, hm.sa, hm.sb⟩, h.here⟩
  · rw [List.append_nil]
    exact h.ba.same rfl rfl rfl rfl rfl rfl rfl rfl
  · simp only; omega
theorem Inv.send {E : Nat} {p : PS} {Na Mb Nb Ma : Nat} (h : Inv E p Na Mb Nb Ma) {t : List UInt8} (ht : t.length ≤ 500) (he : E ≤ 5000) : Inv (E + 1) (send0 p t) Na Mb Nb Ma := by
  have hm := h.mono (Nat.le_succ E)
  unfold send0
  split
  · rename_i c
    have hs := h.sa
    refine ⟨h.ab.send ht (by omega), h.ba.same rfl rfl rfl rfl rfl rfl rfl rfl, ?_, hm.w0, hm.l0, hm.l1, ⟨h.ta.cf, h.ta.nums, h.ta.ti⟩, hm.tb, ?_, hm.wb, hm.now, hm.bada, hm.badb, ?_, hm.sb⟩
    · intro d hd
      simp only
      rw [partsOf_snoc]
      exact ((h.w1 d hd).mono (A' := { p.a with ws := p.a.ws ++ cutP t }) (Nat.le_refl _) (Int.le_refl _) fun k hk => hk).more h.ab.le
    · simp only [List.length_append]; exact c
    · simp; omega
  · exact hm
theorem Inv.way {E : Nat} {p : PS} {Na Mb Nb Ma : Nat} (h : Inv E p Na Mb Nb Ma) {w : List (List UInt8)} (hw : ∀ d ∈ w, d ∈ p.w0) (hl : w.length ≤ 60) : Inv E { p with w0 := w } Na Mb Nb Ma :=
  ⟨h.ab, h.ba, h.w1, fun d hd => h.w0 d (hw d hd), hl, h.l1, h.ta, h.tb, h.wa, h.wb, h.now, h.bada, h.badb, h.sa, h.sb⟩
theorem addW_mem {d : List UInt8} : ∀ {o w : List (List UInt8)}, d ∈ addW w o → d ∈ w ∨ d ∈ o
  | [], w, h => .inl h
  | x :: o, w, h => by
    rw [addW] at h
    rcases addW_mem h with h | h
    · split at h
      · rcases List.mem_append.1 h with h | h
        · exact .inl h
        · simp at h; subst h; exact .inr (by simp)
      · exact .inl h
    · exact .inr (by simp [h])
theorem poll_dir {S A B C N M S' C' N' M'} {now : Int} (hab : Dir S A B C N M) (hba : Dir S' B A C' N' M') (ht : Tmr A now) (hn : 0 ≤ now) :
    ∃ N2, N ≤ N2 ∧ Dir S (pollF A (now + 1)).1 B C N2 M ∧ Dir S' B (pollF A (now + 1)).1 C' N' M' ∧ Tmr (pollF A (now + 1)).1 (now + 1) ∧ (pollF A (now + 1)).1.ws.length ≤ A.ws.length ∧ (pollF A (now + 1)).1.bad = A.bad ∧
      (pollF A (now + 1)).1.inx = A.inx ∧ (pollF A (now + 1)).1.im = A.im ∧ ∀ d ∈ (pollF A (now + 1)).2, Dg (partsOf S) N2 (pollF A (now + 1)).1 d := by
  have hp := hab.parts
  have hp2 := hba.parts
  have hle2 := hba.le
  have hm2 := hba.mle
  have hnr2 := hba.near
  obtain ⟨N2, F⟩ := fill_it A.cf (now + 1) (partsOf S) (by omega) A.ws ⟨A.on, A.ol, A.tl.map (updE A.cm (now + 1))⟩ N hab.on hab.ws hab.le hab.ol hab.sorted hab.win (by
    simp only [List.map_map, ← ht.nums]
    apply List.map_congr_left
    intro e _
    simp only [Function.comp, updE]; split <;> rfl)
  have hT : fillF A.cf (now + 1) A.ws ⟨A.on, A.ol, A.tl.map (updE A.cm (now + 1))⟩ = pollT A (now + 1) := rfl
  rw [hT] at F
  simp only at F
  have h1 : Dir S (pollF A (now + 1)).1 B C N2 M := by
    refine ⟨F.on, hab.ix, hab.sz, hab.cnt, F.ws, F.le, fun x hx => ?_, F.sorted, F.win, fun q hq => ⟨(hab.im q hq).1.mono F.ge, (hab.im q hq).2⟩, hab.nd, fun k hk hk2 => ?_, by have := hab.mle; have := F.ge; omega, hab.cm, hab.js, hab.car⟩
    · have hx : x ∈ (pollT A (now + 1)).2.1.ol := hx
      rw [F.ol] at hx
      rcases List.mem_append.1 hx with hx | hx
      · exact (hab.ol x hx).mono F.ge
      · obtain ⟨k, _, q2, q3⟩ := F.it x hx; exact ⟨k, q2, q3⟩
    · show _ ∨ ∃ x ∈ (pollT A (now + 1)).2.1.ol, _
      rw [F.ol]
      rcases Nat.lt_or_ge k N with c | c
      · rcases hab.un k hk c with q | ⟨x, hx, e⟩
        · exact .inl q
        · exact .inr ⟨x, by simp [hx], e⟩
      · obtain ⟨x, hx, e⟩ := F.all k c hk2
        exact .inr ⟨x, by simp [hx], e⟩
  refine ⟨N2, F.ge, h1, hba.same rfl rfl rfl rfl rfl rfl rfl rfl, ht.poll hn F _ rfl rfl rfl rfl, ?_, rfl, rfl, rfl, ?_⟩
  · show (pollT A (now + 1)).1.length ≤ _
    rw [F.ws, hab.ws, List.length_drop, List.length_drop]
    have := F.ge; omega
  · have hix := hba.ix
    have hone : ∀ l : List Itm, l.length ≤ 1 → (∀ x ∈ l, It (partsOf S) N2 x) → Dg (partsOf S) N2 (pollF A (now + 1)).1 (dgL A l) := by
      intro l hl hi
      have hb := bitsW_lt A.inx A.im 32
      refine ⟨M', bitsW A.inx A.im 32, l, ?_, ?_, by omega, by omega, hl, fun x hx => ⟨hi x hx, (h1.it_len (hi x hx)).2⟩, fun k hk hh => ?_⟩
      · unfold dgL; rw [hix]; rfl
      · show (M' : Int) ≤ A.inx; omega
      · show (k : Int) < A.inx ∨ ∃ q ∈ A.im, q.1 = (k : Int)
        rw [hix] at hh ⊢
        exact has_got (fun q hq => by
          have := hba.im q hq
          have := this.1.rg
          omega) hba.nd (by omega) k hk hh
    intro d hd
    have hd : d ∈ (if A.tell = true ∧ (pollO A (now + 1)).length = 0 then [dgL A []] else pollO A (now + 1)) := hd
    split at hd
    · simp at hd; subst hd; exact hone [] (by simp) (by simp)
    · unfold pollO at hd
      rcases List.mem_append.1 hd with hd | hd
      · obtain ⟨x, hx, rfl⟩ := List.mem_map.1 hd
        refine hone [x] (by simp) fun z hz => ?_
        simp at hz; subst hz
        exact (hab.ol _ (List.mem_filter.1 hx).1).mono F.ge
      · obtain ⟨x, hx, rfl⟩ := List.mem_map.1 hd
        refine hone [x] (by simp) fun z hz => ?_
        simp at hz; subst hz
        obtain ⟨k, _, q2, q3⟩ := F.it _ hx; exact ⟨k, q2, q3⟩
theorem Inv.tick {E : Nat} {p : PS} {Na Mb Nb Ma : Nat} (h : Inv E p Na Mb Nb Ma) : ∃ Na' Nb', Inv (E + 1) (pollP p) Na' Mb Nb' Ma := by
  have hn := h.now
  obtain ⟨Na', g0, g1, g2, g3, g4, g5, g6, g7, g8⟩ := poll_dir h.ab h.ba h.ta hn.1
  obtain ⟨Nb', k0, k1, k2, k3, k4, k5, k6, k7, k8⟩ := poll_dir g2 g1 h.tb hn.1
  have hm := h.mono (Nat.le_succ E)
  refine ⟨Na', Nb', ?_⟩
  have e : pollP p = { p with now := p.now + 1, a := (pollF p.a (p.now + 1)).1, w1 := addW p.w1 (pollF p.a (p.now + 1)).2, b := (pollF p.b (p.now + 1)).1, w0 := addW p.w0 (pollF p.b (p.now + 1)).2 } := rfl
  rw [e]
  have l0 := addW_len (pollF p.b (p.now + 1)).2 p.w0
  have l1 := addW_len (pollF p.a (p.now + 1)).2 p.w1
  have h0 := h.l0
  have h1 := h.l1
  have hwa := h.wa
  have hwb := h.wb
  refine ⟨k2, k1, fun d hd => ?_, fun d hd => ?_, by simp only; omega, by simp only; omega, g3, k3, by simp only; omega, by simp only; omega, by simp only; omega, by simp only; rw [g5]; exact hm.bada, by simp only; rw [k5]; exact hm.badb, hm.sa, hm.sb⟩
  · rcases addW_mem hd with hd | hd
    · exact (h.w1 d hd).mono g0 (by rw [g6]; exact Int.le_refl _) fun k hk => by rw [g6, g7]; exact hk
    · exact g8 d hd
  · rcases addW_mem hd with hd | hd
    · exact (h.w0 d hd).mono k0 (by rw [k6]; exact Int.le_refl _) fun k hk => by rw [k6, k7]; exact hk
    · exact k8 d hd
theorem ixW_lt (n : Int) {k : Nat} (h : 0 < k) : ixW n k < k := Nat.mod_lt _ h
theorem atW_mem {w : List (List UInt8)} (n : Int) (h : 0 < w.length) : atW w n ∈ w := by
  unfold atW
  rw [List.getD_eq_getElem?_getD, List.getElem?_eq_getElem (ixW_lt n h)]
  exact List.getElem_mem _
theorem delW_mem {w : List (List UInt8)} {n : Int} {d : List UInt8} (h : d ∈ delW w n) : d ∈ w := by
  unfold delW at h
  rcases List.mem_append.1 h with h | h
  · exact List.mem_of_mem_take h
  · exact List.mem_of_mem_drop h
theorem delW_len (w : List (List UInt8)) (n : Int) : (delW w n).length ≤ w.length := by
  unfold delW; rw [List.length_append, List.length_take, List.length_drop]; omega
theorem bend_bad {Q : List Part} {N : Nat} {A : LS} {d : List UInt8} (h : Dg Q N A d) (n : Int) (y : UInt8) : bendD d n y = d ∨ (linkP (bendD d n y)).2.2 ≠ 0 := by
  obtain ⟨nx, bits, l, rfl, _⟩ := h
  unfold dgB
  generalize ([] ++ numsB [nx, bits] ++ numsB ([(l.length : Int)].map posN) ++ itsB l) = S
  have hl : 0 < (sealB S).length := by rw [sealB_len]; omega
  have hj := ixW_lt n hl
  unfold bendD
  rw [List.getD_eq_getElem?_getD, List.getElem?_eq_getElem hj]
  simp only [Option.getD_some]
  by_cases c : y = 0
  · left
    rw [c, UInt8.xor_zero, List.set_getElem_self]
  · right
    obtain ⟨_, q⟩ := bent S _ hj ((sealB S)[ixW n (sealB S).length] ^^^ y) (xor_ne c)
    unfold linkP
    rcases q with q | ⟨_, q⟩ <;> rw [q] <;> simp
end Go.AEX

/- Two ends: any event. -/
namespace Go.AEX
open Go Go.AE Go.Proofs
set_option maxRecDepth 100000
set_option linter.unusedVariables false
set_option linter.unusedSimpArgs false

structure Act where
  kind : Int
  who : Int
  n : Int
  at' : Int
  y : UInt8
  s : List UInt8
abbrev actV (x : Act) : AV := .agg [.int .i64 x.kind, .int .i64 x.who, .int .i64 x.n, .int .i64 x.at', .int .u8 x.y.toNat, .str x.s]
theorem send1_eq (p : PS) (t : List UInt8) : send1 p t = sw (send0 (sw p) t) := by unfold send1 send0 sw; split <;> rfl
def does0 (p : PS) (x : Act) : PS :=
  if x.kind = 1 then send0 p (x.s.take 500) else if x.kind = 2 then pollP p else
  if x.kind = 7 then (if (refP (x.s.take 60)).2 = 0 then p else recv0 p (x.s.take 60)) else
  if x.kind < 3 ∨ 6 < x.kind ∨ p.w0.length = 0 then p else
  if x.kind = 3 then recv0 { p with w0 := delW p.w0 x.n } (atW p.w0 x.n) else
  if x.kind = 4 then { p with w0 := delW p.w0 x.n } else
  if x.kind = 5 then recv0 p (atW p.w0 x.n) else
  recv0 { p with w0 := delW p.w0 x.n } (bendD (atW p.w0 x.n) x.at' x.y)
set_option maxHeartbeats 4000000 in
theorem does0_spec {E : Nat} {p : PS} {Na Mb Nb Ma : Nat} (h : Inv E p Na Mb Nb Ma) (he : E ≤ 4000) (x : Act) (hw : ibits .and .i64 x.who 1 = 0) :
    Tri Try.prog 9 [.pbox 0 0, actV x] (pN p) (fun v m => v = .bool true ∧ m = pN2 (does0 p x)) ∧ ∃ Na' Mb' Nb' Ma', Inv (E + 1) (does0 p x) Na' Mb' Nb' Ma' := by
  have hz := h
  obtain ⟨ok, rb⟩ := hz.ok (by omega)
  have hsz := hz.sb
  have hsz2 := hz.sa
  have hl0 := hz.l0
  have hwz := hz.wa
  have hnow := h.now
  have hm := h.mono (Nat.le_succ E)
  have hNb : (Nb : Nat) ≤ 1000000 := by have := hz.ba.le; have := hz.ba.parts; omega
  obtain ⟨kind, who, n, at', y, s⟩ := x
  simp only at hw ⊢
  unfold does0
  simp only
  by_cases k1 : kind = 1
  · subst k1
    rw [if_pos rfl]
    have q := hz.send (t := s.take 500) (by rw [List.length_take]; omega) (by omega)
    exact ⟨pdo1_0 p who n at' y s hw hwz (by omega), Na, Mb, Nb, Ma, q⟩
  rw [if_neg k1]
  by_cases k2 : kind = 2
  · subst k2
    rw [if_pos rfl]
    obtain ⟨Na', Nb', q⟩ := h.tick
    exact ⟨pdo2_0 p who n at' y s hw (h.ok (by omega)).1 (h.swap.ok (by omega)).1 (by omega), _, _, _, _, q⟩
  rw [if_neg k2]
  by_cases k7 : kind = 7
  · subst k7
    rw [if_pos rfl]
    by_cases c : (refP (s.take 60)).2 = 0
    · rw [if_pos c]
      exact ⟨pdo7n_0 p who n at' y s hw c, _, _, _, _, hm⟩
    · rw [if_neg c]
      have c2 : (linkP (s.take 60)).2.2 ≠ 0 := by rw [← refP_link]; exact c
      obtain ⟨q, R, hR⟩ := hz.nothing c2
      exact ⟨pdo7_0 p who n at' y s hw c ok (by rw [List.length_take]; omega) rb R hR (by omega), _, _, _, _, q⟩
  rw [if_neg k7]
  by_cases c0 : kind < 3 ∨ 6 < kind ∨ p.w0.length = 0
  · rw [if_pos c0]
    refine ⟨?_, _, _, _, _, hm⟩
    by_cases c1 : kind < 3
    · exact pdoL_0 p kind who n at' y s hw ⟨k1, k2, c1⟩
    · by_cases c2 : 6 < kind
      · exact pdoH_0 p kind who n at' y s hw ⟨k7, c2⟩
      · exact pdoE_0 p kind who n at' y s hw (by omega) (by omega)
  rw [if_neg c0]
  have h0 : 0 < p.w0.length := by omega
  have hmem := atW_mem n h0
  have hdg := hz.w0 _ hmem
  have hdl := Dg.len hdg hNb
  have hway := hz.way (w := delW p.w0 n) (fun d hd => delW_mem hd) (by have := delW_len p.w0 n; omega)
  by_cases k3 : kind = 3
  · subst k3
    rw [if_pos rfl]
    obtain ⟨Ma', q, _, R, hR⟩ := hway.recv hdg
    replace q := q.mono (Nat.le_succ E)
    exact ⟨pdo3_0 p who n at' y s hw h0 (by omega) ok (by omega) rb R hR (by omega), _, _, _, _, q⟩
  rw [if_neg k3]
  by_cases k4 : kind = 4
  · subst k4
    rw [if_pos rfl]
    replace hway := hway.mono (Nat.le_succ E)
    exact ⟨pdo4_0 p who n at' y s hw h0 (by omega), _, _, _, _, hway⟩
  rw [if_neg k4]
  by_cases k5 : kind = 5
  · subst k5
    rw [if_pos rfl]
    obtain ⟨Ma', q, _, R, hR⟩ := hz.recv hdg
    replace q := q.mono (Nat.le_succ E)
    exact ⟨pdo5_0 p who n at' y s hw h0 (by omega) ok (by omega) rb R hR (by omega), _, _, _, _, q⟩
  rw [if_neg k5]
  have k6 : kind = 6 := by omega
  subst k6
  have hbl : (bendD (atW p.w0 n) at' y).length ≤ 1000000 := by unfold bendD; rw [List.length_set]; omega
  rcases bend_bad hdg at' y with e | e
  · rw [← e] at hdg
    obtain ⟨Ma', q, _, R, hR⟩ := hway.recv hdg
    replace q := q.mono (Nat.le_succ E)
    exact ⟨pdo6_0 p who n at' y s hw h0 (by omega) hdl.1 ok hbl rb R hR (by omega), _, _, _, _, q⟩
  · obtain ⟨q, R, hR⟩ := hway.nothing e
    exact ⟨pdo6_0 p who n at' y s hw h0 (by omega) hdl.1 ok hbl rb R hR (by omega), _, _, _, _, q⟩
def does1 (p : PS) (x : Act) : PS :=
  if x.kind = 1 then send1 p (x.s.take 500) else if x.kind = 2 then pollP p else
  if x.kind = 7 then (if (refP (x.s.take 60)).2 = 0 then p else recv1 p (x.s.take 60)) else
  if x.kind < 3 ∨ 6 < x.kind ∨ p.w1.length = 0 then p else
  if x.kind = 3 then recv1 { p with w1 := delW p.w1 x.n } (atW p.w1 x.n) else
  if x.kind = 4 then { p with w1 := delW p.w1 x.n } else
  if x.kind = 5 then recv1 p (atW p.w1 x.n) else
  recv1 { p with w1 := delW p.w1 x.n } (bendD (atW p.w1 x.n) x.at' x.y)
set_option maxHeartbeats 4000000 in
theorem does1_spec {E : Nat} {p : PS} {Na Mb Nb Ma : Nat} (h : Inv E p Na Mb Nb Ma) (he : E ≤ 4000) (x : Act) (hw : ibits .and .i64 x.who 1 = 1) :
    Tri Try.prog 9 [.pbox 0 0, actV x] (pN p) (fun v m => v = .bool true ∧ m = pN2 (does1 p x)) ∧ ∃ Na' Mb' Nb' Ma', Inv (E + 1) (does1 p x) Na' Mb' Nb' Ma' := by
  have hz := h.swap
  obtain ⟨ok, rb⟩ := hz.ok (by omega)
  have hsz := hz.sb
  have hsz2 := hz.sa
  have hl0 := hz.l0
  have hwz := hz.wa
  have hnow := h.now
  have hm := h.mono (Nat.le_succ E)
  have hNb : (Na : Nat) ≤ 1000000 := by have := hz.ba.le; have := hz.ba.parts; omega
  simp only [sw] at hz ok rb hsz hsz2 hl0 hwz
  obtain ⟨kind, who, n, at', y, s⟩ := x
  simp only at hw ⊢
  unfold does1
  simp only
  by_cases k1 : kind = 1
  · subst k1
    rw [if_pos rfl]
    have q := hz.send (t := s.take 500) (by rw [List.length_take]; omega) (by omega)
    exact ⟨pdo1_1 p who n at' y s hw hwz (by omega), Na, Mb, Nb, Ma, by rw [send1_eq]; exact q.swap⟩
  rw [if_neg k1]
  by_cases k2 : kind = 2
  · subst k2
    rw [if_pos rfl]
    obtain ⟨Na', Nb', q⟩ := h.tick
    exact ⟨pdo2_1 p who n at' y s hw (h.ok (by omega)).1 (h.swap.ok (by omega)).1 (by omega), _, _, _, _, q⟩
  rw [if_neg k2]
  by_cases k7 : kind = 7
  · subst k7
    rw [if_pos rfl]
    by_cases c : (refP (s.take 60)).2 = 0
    · rw [if_pos c]
      exact ⟨pdo7n_1 p who n at' y s hw c, _, _, _, _, hm⟩
    · rw [if_neg c]
      have c2 : (linkP (s.take 60)).2.2 ≠ 0 := by rw [← refP_link]; exact c
      obtain ⟨q, R, hR⟩ := hz.nothing c2
      exact ⟨pdo7_1 p who n at' y s hw c ok (by rw [List.length_take]; omega) rb R hR (by omega), _, _, _, _, q.swap⟩
  rw [if_neg k7]
  by_cases c0 : kind < 3 ∨ 6 < kind ∨ p.w1.length = 0
  · rw [if_pos c0]
    refine ⟨?_, _, _, _, _, hm⟩
    by_cases c1 : kind < 3
    · exact pdoL_1 p kind who n at' y s hw ⟨k1, k2, c1⟩
    · by_cases c2 : 6 < kind
      · exact pdoH_1 p kind who n at' y s hw ⟨k7, c2⟩
      · exact pdoE_1 p kind who n at' y s hw (by omega) (by omega)
  rw [if_neg c0]
  have h0 : 0 < p.w1.length := by omega
  have hmem := atW_mem n h0
  have hdg := hz.w0 _ hmem
  have hdl := Dg.len hdg hNb
  have hway := hz.way (w := delW p.w1 n) (fun d hd => delW_mem hd) (by have := delW_len p.w1 n; omega)
  by_cases k3 : kind = 3
  · subst k3
    rw [if_pos rfl]
    obtain ⟨Ma', q, _, R, hR⟩ := hway.recv hdg
    replace q := q.mono (Nat.le_succ E)
    exact ⟨pdo3_1 p who n at' y s hw h0 (by omega) ok (by omega) rb R hR (by omega), _, _, _, _, q.swap⟩
  rw [if_neg k3]
  by_cases k4 : kind = 4
  · subst k4
    rw [if_pos rfl]
    replace hway := hway.mono (Nat.le_succ E)
    exact ⟨pdo4_1 p who n at' y s hw h0 (by omega), _, _, _, _, hway.swap⟩
  rw [if_neg k4]
  by_cases k5 : kind = 5
  · subst k5
    rw [if_pos rfl]
    obtain ⟨Ma', q, _, R, hR⟩ := hz.recv hdg
    replace q := q.mono (Nat.le_succ E)
    exact ⟨pdo5_1 p who n at' y s hw h0 (by omega) ok (by omega) rb R hR (by omega), _, _, _, _, q.swap⟩
  rw [if_neg k5]
  have k6 : kind = 6 := by omega
  subst k6
  have hbl : (bendD (atW p.w1 n) at' y).length ≤ 1000000 := by unfold bendD; rw [List.length_set]; omega
  rcases bend_bad hdg at' y with e | e
  · rw [← e] at hdg
    obtain ⟨Ma', q, _, R, hR⟩ := hway.recv hdg
    replace q := q.mono (Nat.le_succ E)
    exact ⟨pdo6_1 p who n at' y s hw h0 (by omega) hdl.1 ok hbl rb R hR (by omega), _, _, _, _, q.swap⟩
  · obtain ⟨q, R, hR⟩ := hway.nothing e
    exact ⟨pdo6_1 p who n at' y s hw h0 (by omega) hdl.1 ok hbl rb R hR (by omega), _, _, _, _, q.swap⟩
def doesF (p : PS) (x : Act) : PS := if ibits .and .i64 x.who 1 = 0 then does0 p x else does1 p x
theorem does_spec {E : Nat} {p : PS} {Na Mb Nb Ma : Nat} (h : Inv E p Na Mb Nb Ma) (he : E ≤ 4000) (x : Act) :
    Tri Try.prog 9 [.pbox 0 0, actV x] (pN p) (fun v m => v = .bool true ∧ m = pN2 (doesF p x)) ∧ ∃ Na' Mb' Nb' Ma', Inv (E + 1) (doesF p x) Na' Mb' Nb' Ma' := by
  obtain ⟨j, hj, hj2⟩ := and_i64 x.who (k := 1) (by decide)
  have hj : ibits .and .i64 x.who 1 = (j : Int) := hj
  unfold doesF
  by_cases c : j = 0
  · subst c
    have hj : ibits .and .i64 x.who 1 = 0 := hj
    rw [if_pos hj]
    exact does0_spec h he x hj
  · have : j = 1 := by omega
    subst this
    have hj : ibits .and .i64 x.who 1 = 1 := hj
    rw [if_neg (by rw [hj]; decide)]
    exact does1_spec h he x hj
end Go.AEX

/- Link: ORDER: the messages that come out are those that were sent, in their order, each once. -/
namespace Go.AEX
open Go Go.AE Go.Proofs
set_option maxRecDepth 100000
set_option linter.unusedVariables false
set_option linter.unusedSimpArgs false

def arow (a : Act) : List AV := [.int .i64 a.kind, .int .i64 a.who, .int .i64 a.n, .int .i64 a.at', .int .u8 a.y.toNat, .str a.s]
theorem act_row {x : List AV} (h : HasL [.int .i64, .int .i64, .int .i64, .int .i64, .int .u8, .str] x) : ∃ a : Act, x = arow a := by
  simp only [HasL, Has] at h
  obtain ⟨_, _, rfl, ⟨k, rfl, _⟩, _, _, rfl, ⟨b, rfl, _⟩, _, _, rfl, ⟨c, rfl, _⟩, _, _, rfl, ⟨d, rfl, _⟩, _, _, rfl, ⟨f, rfl, hf⟩, _, _, rfl, ⟨s, rfl, _⟩, rfl⟩ := h
  obtain ⟨f, rfl⟩ := wf_u8 hf
  exact ⟨⟨k, b, c, d, f, s⟩, rfl⟩
theorem dir0 : Dir [] LS0 LS0 [] 0 0 := by
  refine ⟨rfl, rfl, by simp, by simp, rfl, by simp, by simp [LS0], by simp [LS0], by simp [LS0], by simp [LS0], by simp [LS0], fun k h1 h2 => by omega, Nat.le_refl _, rfl, rfl, rfl⟩
theorem tmr0 : Tmr LS0 0 := ⟨by decide, rfl, by simp [LS0]⟩
theorem inv0 : Inv 0 PS0 0 0 0 0 :=
  ⟨dir0, dir0, by simp [PS0], by simp [PS0], by simp [PS0], by simp [PS0], tmr0, tmr0, by decide, by decide, by decide, by decide, by decide, by decide, by decide⟩
theorem hawk_spec : Tri Try.prog 8 [] [] (fun v m => v = .bool true ∧ m = []) := by
  refine Tri.post (lawake_spec.mono ?_)
  rintro v m rfl
  exact ⟨_, [], .sub [] (by simp [EmbV, go_sem]) .done, rfl, rfl⟩
end Go.AEX

/- Two pairs of ends that differ in what was counted as nothing alone; what the document says of what goes. -/
namespace Go.AEX
open Go Go.AE Go.Proofs
set_option maxRecDepth 100000
set_option linter.unusedVariables false
set_option linter.unusedSimpArgs false

def wb (s : LS) (n : Int) : LS := { s with bad := n }
theorem takeF_wb (s : LS) (n : Int) (t : List UInt8) : ∃ n', takeF (wb s n) t = (wb (takeF s t).1 n', (takeF s t).2) := by
  unfold takeF wb
  simp only
  split
  · exact ⟨n + 1, rfl⟩
  split
  · exact ⟨n + 1, rfl⟩
  · exact ⟨n, rfl⟩
theorem takesF_wb : ∀ (l : List (List UInt8)) (s : LS) (n : Int), ∃ n', takesF (wb s n) l = (wb (takesF s l).1 n', (takesF s l).2)
  | [], s, n => ⟨n, rfl⟩
  | t :: l, s, n => by
    obtain ⟨n1, e1⟩ := takeF_wb s n t
    obtain ⟨n2, e2⟩ := takesF_wb l (takeF s t).1 n1
    refine ⟨n2, ?_⟩
    rw [takesF, takesF, e1]
    simp only
    rw [e2]
theorem itemF_wb (s : LS) (n : Int) (x : Itm) : ∃ n', itemF (wb s n) x = (wb (itemF s x).1 n', (itemF s x).2) := takesF_wb _ (putL s x) n
theorem itemsF_wb : ∀ (l : List Itm) (s : LS) (n : Int), ∃ n', itemsF (wb s n) l = (wb (itemsF s l).1 n', (itemsF s l).2)
  | [], s, n => ⟨n, rfl⟩
  | x :: l, s, n => by
    obtain ⟨n1, e1⟩ := itemF_wb s n x
    obtain ⟨n2, e2⟩ := itemsF_wb l (itemF s x).1 n1
    refine ⟨n2, ?_⟩
    rw [itemsF, itemsF, e1]
    simp only
    rw [e2]
theorem recvF_wb (s : LS) (n : Int) (d : List UInt8) : ∃ n', recvF (wb s n) d = (wb (recvF s d).1 n', (recvF s d).2) := by
  unfold recvF
  split
  · exact ⟨n + 1, rfl⟩
  · obtain ⟨n', e⟩ := itemsF_wb (linkP d).2.1 (ackL s (linkP d).1) n
    have e' : itemsF (ackL (wb s n) (linkP d).1) (linkP d).2.1 = _ := e
    refine ⟨n', ?_⟩
    rw [e']; rfl
def Rel (p q : PS) : Prop := ∃ n m, q = { p with a := wb p.a n, b := wb p.b m }
theorem Rel.refl (p : PS) : Rel p p := ⟨p.a.bad, p.b.bad, rfl⟩
theorem Rel.swap {p q : PS} (h : Rel p q) : Rel (sw p) (sw q) := by obtain ⟨n, m, rfl⟩ := h; exact ⟨m, n, rfl⟩
theorem Rel.bad {p q : PS} (h : Rel p q) (k : Int) : Rel p { q with a := wb q.a k } := by obtain ⟨n, m, rfl⟩ := h; exact ⟨k, m, rfl⟩
theorem Rel.recv {p q : PS} (h : Rel p q) (d : List UInt8) : Rel (recv0 p d) (recv0 q d) := by
  obtain ⟨n, m, rfl⟩ := h
  obtain ⟨n', e⟩ := recvF_wb p.a n d
  refine ⟨n', m, ?_⟩
  unfold recv0
  simp only
  rw [e]
theorem Rel.send {p q : PS} (h : Rel p q) (t : List UInt8) : Rel (send0 p t) (send0 q t) := by
  obtain ⟨n, m, rfl⟩ := h
  by_cases c : p.a.ws.length + (cutP t).length ≤ 700
  · have e1 : send0 p t = { p with a := { p.a with ws := p.a.ws ++ cutP t }, s0 := p.s0 ++ [t] } := if_pos c
    have e2 : send0 { p with a := wb p.a n, b := wb p.b m } t = { p with a := wb { p.a with ws := p.a.ws ++ cutP t } n, b := wb p.b m, s0 := p.s0 ++ [t] } := if_pos c
    rw [e1, e2]; exact ⟨n, m, rfl⟩
  · have e1 : send0 p t = p := if_neg c
    have e2 : send0 { p with a := wb p.a n, b := wb p.b m } t = { p with a := wb p.a n, b := wb p.b m } := if_neg c
    rw [e1, e2]; exact ⟨n, m, rfl⟩
theorem Rel.tick {p q : PS} (h : Rel p q) : Rel (pollP p) (pollP q) := by
  obtain ⟨n, m, rfl⟩ := h
  exact ⟨n, m, rfl⟩
theorem Rel.way {p q : PS} (h : Rel p q) (w : List (List UInt8)) : Rel { p with w0 := w } { q with w0 := w } := by
  obtain ⟨n, m, rfl⟩ := h
  exact ⟨n, m, rfl⟩
theorem Rel.w0 {p q : PS} (h : Rel p q) : q.w0 = p.w0 := by obtain ⟨n, m, rfl⟩ := h; rfl
theorem Rel.does0 {p q : PS} (h : Rel p q) (x : Act) : Rel (does0 p x) (does0 q x) := by
  have hw := h.w0
  unfold AEX.does0
  rw [hw]
  split
  · exact h.send _
  split
  · exact h.tick
  split
  · split
    · exact h
    · exact h.recv _
  split
  · exact h
  split
  · exact (h.way _).recv _
  split
  · exact h.way _
  split
  · exact h.recv _
  · exact (h.way _).recv _
theorem does1_sw (p : PS) (x : Act) (hk : x.kind ≠ 2) : does1 p x = sw (does0 (sw p) x) := by
  unfold does1 does0
  rw [send1_eq]
  simp only [if_neg hk, show (sw p).w0 = p.w1 from rfl]
  split
  · rfl
  split
  · split <;> rfl
  by_cases c : x.kind < 3 ∨ 6 < x.kind ∨ p.w1.length = 0
  · rw [if_pos c, if_pos c]; rfl
  · rw [if_neg c, if_neg c]
    split
    · rfl
    split
    · rfl
    split
    · rfl
    · rfl
theorem Rel.does {p q : PS} (h : Rel p q) (x : Act) : Rel (doesF p x) (doesF q x) := by
  unfold doesF
  split
  · exact h.does0 x
  · by_cases hk : x.kind = 2
    · have e : ∀ p : PS, does1 p x = pollP p := fun p => by unfold does1; rw [if_neg (by omega), if_pos hk]
      rw [e, e]; exact h.tick
    · rw [does1_sw p x hk, does1_sw q x hk]
      exact (h.swap.does0 x).swap
theorem refP_dg (nx bits : Nat) (l : List Itm) (hnx : nx < 4294967296) (hb : bits < 4294967296) (hl : l.length ≤ 1) (ht : ∀ x ∈ l, U32 x.1 ∧ x.2.length ≤ 201) :
    refP (dgB nx bits l) = (((nx : Int), (bits : Int), (match l with | [] => -1 | x :: _ => x.1), (match l with | [] => [] | x :: _ => x.2)), 0) := by
  have e1 : unsealF (dgB nx bits l) = (numB nx ++ (numB bits ++ (numB l.length ++ itsB l)), 0) := by
    unfold dgB; rw [unseal_seal]; simp [numsB, posN]
  have h1 := countF_put nx (numB bits ++ (numB l.length ++ itsB l)) 4294967295 (by unfold posN; omega) (by omega)
  have h2 := countF_put bits (numB l.length ++ itsB l) 4294967295 (by unfold posN; omega) (by omega)
  have h3 := countF_put l.length (itsB l) 1 (by unfold posN; omega) (by omega)
  unfold refP
  rw [e1, if_neg (by simp)]
  simp only [h1, h2, h3]
  match l, hl, ht with
  | [], _, _ => simp [itsB, endF]
  | [x], _, ht =>
    have hx := ht x (by simp)
    have hu := hx.1
    unfold U32 at hu
    have h4 := countF_put x.1.toNat (strB x.2 ++ []) 4294967295 (by unfold posN; omega) (by omega)
    have h5 := strF_put2 x.2 [] hx.2
    have e4 : ((x.1.toNat : Nat) : Int) = x.1 := Int.toNat_of_nonneg hu.1
    have ei : itsB [x] = numB x.1.toNat ++ (strB x.2 ++ []) := by simp [itsB, itB, numsB, strsB]
    rw [ei]
    simp only [h4, h5, e4]
    rw [if_pos (by simp)]
    simp [endF]
set_option maxHeartbeats 4000000 in
theorem rtext_spec (nx bits : Nat) (l : List Itm) (hnx : nx < 4294967296) (hb : bits < 4294967296) (hl : l.length ≤ 1) (ht : ∀ x ∈ l, U32 x.1 ∧ x.2.length ≤ 201) :
    Tri Try.prog 19 [.agg [.int .i64 nx, .int .i64 bits, .int .i64 (match l with | [] => -1 | x :: _ => x.1), .str (match l with | [] => [] | x :: _ => x.2)]] [] (fun v m => v = .str (dgB nx bits l) ∧ m = []) := by
  refine Tri.post ?_
  have c1 := rcount_spec (nx : Int) (by unfold I64; omega)
  have c2 := rcount_spec (bits : Int) (by unfold I64; omega)
  have p1 : posN (nx : Int) = nx := by unfold posN; omega
  have p2 : posN (bits : Int) = bits := by unfold posN; omega
  rw [p1] at c1
  rw [p2] at c2
  have n1 := numB_len10 (n := nx) (by omega)
  have n2 := numB_len10 (n := bits) (by omega)
  match l, hl, ht with
  | [], _, _ =>
    have hsl := rseal_spec (numB nx ++ numB bits ++ [0]) (by simp; omega)
    have ed : dgB nx bits [] = sealB (numB nx ++ numB bits ++ [0]) := by
      unfold dgB
      simp [numsB, posN, itsB, numB_last]
    rw [ed]
    simp only
    have hm : (-1 : Int) < 0 := by decide
    skip
    refine (Tri.enter (rl := r19) (code := c19) (by kernel_rfl) Try.func19 rfl c19_ok (by kernel_rfl) (by kernel_rfl) ?_)
    refine run_ok 4000 _ _ _ _ ?_
    simp (maxSteps := 10000000) only [go_sem, c19, r19, hm]
    refine sem_drawG l19_0_ok (by kernel_rfl) ?_
    intro KK hKK
    simp (maxSteps := 10000000) only [go_sem, l19_0, hm]
    subst hKK
    simp (maxSteps := 10000000) only [go_sem, hm]
    refine TriZ.of (((c1).embed [] rfl (by repeat' first | exact trivial | rfl | (simp only [go_sem]; done) | constructor) rfl (by first | rfl | simp only [go_sem]) rfl (by simp)).mono ?_)
    rintro _ _ ⟨_, _, ⟨rfl, rfl⟩, rfl, rfl⟩
    simp (maxSteps := 10000000) only [go_sem, hm]
    refine TriZ.of (((c2).embed [] rfl (by repeat' first | exact trivial | rfl | (simp only [go_sem]; done) | constructor) rfl (by first | rfl | simp only [go_sem]) rfl (by simp)).mono ?_)
    rintro _ _ ⟨_, _, ⟨rfl, rfl⟩, rfl, rfl⟩
    simp (maxSteps := 10000000) only [go_sem, hm]
    refine ⟨by omega, by rw [List.length_append]; omega, ?_⟩
    refine sem_call rfl rfl (((hsl).embed [] rfl trivial rfl rfl rfl (by simp)).mono ?_)
    rintro _ _ ⟨_, _, ⟨rfl, rfl⟩, rfl, rfl⟩
    refine run_ok 4000 _ _ _ _ ?_
    simp (maxSteps := 10000000) only [go_sem, hm]
    refine ⟨_, _, .sub [] ?_ .done, rfl, rfl⟩
    simp only [EmbV, go_sem]
  | [x], _, ht =>
    have hx := ht x (by simp)
    have hu := hx.1
    unfold U32 at hu
    have c3 := rcount_spec x.1 (by unfold I64; omega)
    have p3 : posN x.1 = x.1.toNat := by unfold posN; omega
    rw [p3] at c3
    have n3 := numB_len10 (n := x.1.toNat) (by omega)
    have c4 := rstr_spec x.2 (by omega)
    have n4 := numB_len10 (n := x.2.length) (by omega)
    have n5 : (strB x.2).length ≤ 300 := by unfold strB; rw [List.length_append]; omega
    have hsl := rseal_spec (numB nx ++ numB bits ++ [1] ++ numB x.1.toNat ++ strB x.2) (by simp only [List.length_append, List.length_cons, List.length_nil]; omega)
    have ed : dgB nx bits [x] = sealB (numB nx ++ numB bits ++ [1] ++ numB x.1.toNat ++ strB x.2) := by
      unfold dgB
      simp [numsB, itsB, itB, strsB, show posN 1 = 1 from rfl, show numB 1 = [1] from numB_last (by omega)]
    rw [ed]
    simp only
    have hm : ¬ x.1 < 0 := by omega
    have l0 : (numB nx).length + (numB bits).length ≤ 2 ^ 62 := by omega
    have l1 : (numB nx ++ numB bits).length + 1 ≤ 2 ^ 62 := by simp only [List.length_append]; omega
    have l2 : (numB nx ++ numB bits ++ [1]).length + (numB x.1.toNat).length ≤ 2 ^ 62 := by simp only [List.length_append, List.length_cons, List.length_nil]; omega
    have l3 : (numB nx ++ numB bits ++ [1] ++ numB x.1.toNat).length + (strB x.2).length ≤ 2 ^ 62 := by simp only [List.length_append, List.length_cons, List.length_nil]; omega
    skip
    refine (Tri.enter (rl := r19) (code := c19) (by kernel_rfl) Try.func19 rfl c19_ok (by kernel_rfl) (by kernel_rfl) ?_)
    refine run_ok 4000 _ _ _ _ ?_
    simp (maxSteps := 10000000) only [go_sem, c19, r19, hm, l0, l1, l2, l3]
    refine sem_drawG l19_0_ok (by kernel_rfl) ?_
    intro KK hKK
    simp (maxSteps := 10000000) only [go_sem, l19_0, hm, l0, l1, l2, l3]
    subst hKK
    simp (maxSteps := 10000000) only [go_sem, hm, l0, l1, l2, l3]
    refine TriZ.of (((c1).embed [] rfl (by repeat' first | exact trivial | rfl | (simp only [go_sem]; done) | constructor) rfl (by first | rfl | simp only [go_sem]) rfl (by simp)).mono ?_)
    rintro _ _ ⟨_, _, ⟨rfl, rfl⟩, rfl, rfl⟩
    simp (maxSteps := 10000000) only [go_sem, hm, l0, l1, l2, l3]
    refine TriZ.of (((c2).embed [] rfl (by repeat' first | exact trivial | rfl | (simp only [go_sem]; done) | constructor) rfl (by first | rfl | simp only [go_sem]) rfl (by simp)).mono ?_)
    rintro _ _ ⟨_, _, ⟨rfl, rfl⟩, rfl, rfl⟩
    simp (maxSteps := 10000000) only [go_sem, hm, l0, l1, l2, l3]
    refine sem_drawG l19_1_ok (by kernel_rfl) ?_
    intro KK hKK
    simp (maxSteps := 10000000) only [go_sem, l19_1, hm, l0, l1, l2, l3]
    refine TriZ.of (((c3).embed [] rfl (by repeat' first | exact trivial | rfl | (simp only [go_sem]; done) | constructor) rfl (by first | rfl | simp only [go_sem]) rfl (by simp)).mono ?_)
    rintro _ _ ⟨_, _, ⟨rfl, rfl⟩, rfl, rfl⟩
    simp (maxSteps := 10000000) only [go_sem, hm, l0, l1, l2, l3]
    refine TriZ.of (((c4).embed [] rfl (by repeat' first | exact trivial | rfl | (simp only [go_sem]; done) | constructor) rfl (by first | rfl | simp only [go_sem]) rfl (by simp)).mono ?_)
    rintro _ _ ⟨_, _, ⟨rfl, rfl⟩, rfl, rfl⟩
    simp (maxSteps := 10000000) only [go_sem, hm, l0, l1, l2, l3]
    refine TriZ.of (((hsl).embed [] rfl (by repeat' first | exact trivial | rfl | (simp only [go_sem]; done) | constructor) rfl (by first | rfl | simp only [go_sem]) rfl (by simp)).mono ?_)
    rintro _ _ ⟨_, _, ⟨rfl, rfl⟩, rfl, rfl⟩
    simp (maxSteps := 10000000) only [go_sem, hm, l0, l1, l2, l3]
    subst hKK
    simp (maxSteps := 10000000) only [go_sem, hm, l0, l1, l2, l3]
    refine ⟨_, _, .sub [] ?_ .done, rfl, rfl⟩
    simp only [EmbV, go_sem]
end Go.AEX

/- Link: what goes says what the document says: the rounds within. -/
namespace Go.AEX
open Go Go.AE Go.Proofs
set_option maxRecDepth 100000
set_option linter.unusedVariables false
set_option linter.unusedSimpArgs false

abbrev p2M (p : PS) (n m : Int) : Mem := [.box [.pbox 1 0, .pbox 8 0, .sl 15 0 p.w0.length p.w0.length false, .sl 16 0 p.w1.length p.w1.length false, .sl 17 0 p.s0.length p.s0.length false, .sl 18 0 p.s1.length p.s1.length false, .sl 19 0 p.c0.length p.c0.length false, .sl 20 0 p.c1.length p.c1.length false, .int .i64 p.now],
  .box [.pbox 2 0, .pbox 3 0, .pbox 4 0, .str p.a.js, .int .i64 p.a.jn, .vsl 2 (prows p.a.ws) false, .bsym p.a.tell, .int .i64 p.a.bad, .int .i64 p.a.car],
  .box [.int .u32 p.a.on, .sl 5 0 p.a.ol.length p.a.ol.length false], .box [.int .u32 p.a.inx, .map 6], .box [.int .i64 p.a.cf, .int .i64 p.a.cm, .sl 7 0 p.a.tl.length p.a.tl.length false],
  .row 2 (irows p.a.ol), .map (me p.a.im), .row 4 (terows p.a.tl),
  .box [.pbox 9 0, .pbox 10 0, .pbox 11 0, .str p.b.js, .int .i64 p.b.jn, .vsl 2 (prows p.b.ws) false, .bsym p.b.tell, .int .i64 p.b.bad, .int .i64 p.b.car],
  .box [.int .u32 p.b.on, .sl 12 0 p.b.ol.length p.b.ol.length false], .box [.int .u32 p.b.inx, .map 13], .box [.int .i64 p.b.cf, .int .i64 p.b.cm, .sl 14 0 p.b.tl.length p.b.tl.length false],
  .row 2 (irows p.b.ol), .map (me p.b.im), .row 4 (terows p.b.tl),
  .row 1 (sv p.w0), .row 1 (sv p.w1), .row 1 (sv p.s0), .row 1 (sv p.s1), .row 1 (sv p.c0), .row 1 (sv p.c1),
.box [.pbox 22 0, .pbox 29 0, .sl 36 0 p.w0.length p.w0.length false, .sl 37 0 p.w1.length p.w1.length false, .sl 38 0 p.s0.length p.s0.length false, .sl 39 0 p.s1.length p.s1.length false, .sl 40 0 p.c0.length p.c0.length false, .sl 41 0 p.c1.length p.c1.length false, .int .i64 p.now],
  .box [.pbox 23 0, .pbox 24 0, .pbox 25 0, .str p.a.js, .int .i64 p.a.jn, .vsl 2 (prows p.a.ws) false, .bsym p.a.tell, .int .i64 n, .int .i64 p.a.car],
  .box [.int .u32 p.a.on, .sl 26 0 p.a.ol.length p.a.ol.length false], .box [.int .u32 p.a.inx, .map 27], .box [.int .i64 p.a.cf, .int .i64 p.a.cm, .sl 28 0 p.a.tl.length p.a.tl.length false],
  .row 2 (irows p.a.ol), .map (me p.a.im), .row 4 (terows p.a.tl),
  .box [.pbox 30 0, .pbox 31 0, .pbox 32 0, .str p.b.js, .int .i64 p.b.jn, .vsl 2 (prows p.b.ws) false, .bsym p.b.tell, .int .i64 m, .int .i64 p.b.car],
  .box [.int .u32 p.b.on, .sl 33 0 p.b.ol.length p.b.ol.length false], .box [.int .u32 p.b.inx, .map 34], .box [.int .i64 p.b.cf, .int .i64 p.b.cm, .sl 35 0 p.b.tl.length p.b.tl.length false],
  .row 2 (irows p.b.ol), .map (me p.b.im), .row 4 (terows p.b.tl),
  .row 1 (sv p.w0), .row 1 (sv p.w1), .row 1 (sv p.s0), .row 1 (sv p.s1), .row 1 (sv p.c0), .row 1 (sv p.c1)]
theorem dgB_small {nx bits : Nat} {l : List Itm} (h1 : nx < 4294967296) (h2 : bits < 4294967296) (hl : l.length ≤ 1) (ht : ∀ x ∈ l, U32 x.1 ∧ x.2.length ≤ 201) : (dgB nx bits l).length ≤ 1000 := by
  have a1 := numsB_len [nx, bits] (by intro n hn; simp at hn; omega)
  have a2 := numsB_one_len (posN (l.length : Int)) (by unfold posN; omega)
  simp only [List.length_cons, List.length_nil] at a1
  have a3 : (itsB l).length ≤ 300 := by
    cases l with
    | nil => simp [itsB]
    | cons x l' =>
      have hl' : l' = [] := List.length_eq_zero_iff.1 (by simp only [List.length_cons] at hl; omega)
      subst hl'
      have h3 := ht x (by simp)
      have h4 := numB_len10 (n := x.2.length) (by omega)
      have h5 := numsB_one_len x.1.toNat (by have := h3.1; unfold U32 at this; omega)
      simp [itsB, itB, strsB, strB]; omega
  unfold dgB
  rw [sealB_len]
  simp only [List.length_append, List.map_cons, List.map_nil, List.nil_append]
  omega
theorem bne_self (x : Int) : (x != x) = false := by simp
def inB (k : Nat) (l : List C) : List C := match l[k]? with
  | some (.blk _ b) => b
  | some (.loop b) => b
  | _ => []
def sayL : List C := inB 0 (inB 36 c6)
def sayW : List C := inB 0 (inB 21 (inB 9 sayL))
def sayY : List C := inB 2 sayW
def sayX : List C := inB 0 (inB 12 sayY)
def Said (d : List UInt8) : Prop := ∃ (nx bits : Nat) (l : List Itm), d = dgB nx bits l ∧ nx < 4294967296 ∧ bits < 4294967296 ∧ l.length ≤ 1 ∧ ∀ x ∈ l, U32 x.1 ∧ x.2.length ≤ 201
theorem Dg.said {Q : List Part} {N : Nat} {A : LS} {d : List UInt8} (h : Dg Q N A d) (hN : N ≤ 1000000) : Said d := by
  obtain ⟨nx, bits, l, ed, _, d2, d3, d4, d5, _⟩ := h
  exact ⟨nx, bits, l, ed, by omega, d3, d4, fun x hx => ⟨by have := (d5 x hx).1.rg; unfold U32; omega, (d5 x hx).2⟩⟩
set_option maxHeartbeats 40000000 in
theorem says_in0 (xs : List (List AV)) (B : List UInt8) (e : Int) (i : Nat) (W : List (List UInt8)) (hl : W.length ≤ 60) (hW : ∀ d ∈ W, Said d) {a0 a1 a3 a4 a5 a6 a7 a8 y0 y1 y3 y4 y5 y6 y7 y8 : AV} {b1 b2 b3 b4 b5 b6 b7 b8 b9 b10 b11 b12 b13 b14 b16 b17 b18 b19 b20 b22 b23 b24 b25 b26 b27 b28 b29 b30 b31 b32 b33 b34 b35 b37 b38 b39 b40 b41 : Blk} {M : Mem}
    (hM : M = [.box [a0, a1, .sl 15 0 W.length W.length false, a3, a4, a5, a6, a7, a8], b1, b2, b3, b4, b5, b6, b7, b8, b9, b10, b11, b12, b13, b14, .row 1 (sv W), b16, b17, b18, b19, b20, .box [y0, y1, .sl 36 0 W.length W.length false, y3, y4, y5, y6, y7, y8], b22, b23, b24, b25, b26, b27, b28, b29, b30, b31, b32, b33, b34, b35, .row 1 (sv W), b37, b38, b39, b40, b41]) (hm : idsM 42 M = true) {k : List C} {Q : Exit → Tr → Mem → Prop} (hc : SemW Try.prog Try.f6.ntmps 0 k (mkP [(0, .vsl 6 xs false), (1, .str B), (5, .pbox 0 0), (7, .pbox 21 0), (10, .int .i64 e), (11, .int .i64 (i : Nat)), (117, .int .i64 0)]) M Q) :
    SemW Try.prog Try.f6.ntmps 0 (.loop sayX :: .endb 4 :: k) (mkP [(0, .vsl 6 xs false), (1, .str B), (5, .pbox 0 0), (7, .pbox 21 0), (10, .int .i64 e), (11, .int .i64 (i : Nat)), (117, .int .i64 0), (18, .int .i64 0), (174, .sl 15 0 W.length W.length false), (175, .int .i64 W.length), (176, .int .i64 0)]) M Q := by
  have hML : M.length = 42 := by rw [hM]; rfl
  refine sem_rounds0 (fun k : Nat => k ≤ W.length)
    (fun k => [(0, .vsl 6 xs false), (1, .str B), (5, .pbox 0 0), (7, .pbox 21 0), (10, .int .i64 e), (11, .int .i64 (i : Nat)), (117, .int .i64 0), (18, .int .i64 0), (174, .sl 15 0 W.length W.length false), (175, .int .i64 W.length), (176, .int .i64 (k : Nat))])
    (fun k => W.length - k) 0 (by rw [hML]; exact hm) (Nat.zero_le _) (fun _ _ => by rw [hML]; rfl) (Nat.zero_le _) ?_ ?_
  · simp [go_sem]
  intro k hk
  by_cases hkl : k < W.length
  · have hk1 : (k : Int) < (W.length : Int) := by omega
    obtain ⟨nx, bits, l, ed, d2, d3, d4, hu⟩ := hW _ (List.getElem_mem hkl)
    have hq := refP_dg nx bits l d2 d3 d4 hu
    have ht := rtext_spec nx bits l d2 d3 d4 hu
    have hr := rparse_spec (dgB nx bits l) (dgB_small d2 d3 d4 hu)
    rw [hq] at hr
    simp only at hr
    generalize (match l with | [] => (-1 : Int) | x :: _ => x.1) = NN at *
    generalize (match l with | [] => ([] : List UInt8) | x :: _ => x.2) = TT at *
    have r0 := sv_rstr hkl
    have h0 := sv_hasS hkl
    rw [ed] at r0
    generalize dgB nx bits l = D at *
    rw [hM]
    unfold sayX sayY sayW sayL
    simp only [inB, c6, List.getElem?_cons_succ, List.getElem?_cons_zero, go_sem]
    skip
    refine run_ok 4000 _ _ _ _ ?_
    simp (maxSteps := 10000000) only [go_sem, hk1, r0, h0, bne_self, seqb_self, Bool.not_true, Int.natCast_nonneg, inc64 (show k < 1000000000000 by omega)]
    refine sem_call rfl rfl (((hr).embed [] rfl trivial rfl rfl rfl (by simp)).mono ?_)
    rintro _ _ ⟨_, _, ⟨rfl, rfl⟩, rfl, rfl⟩
    refine run_ok 4000 _ _ _ _ ?_
    simp (maxSteps := 10000000) only [go_sem, hk1, r0, h0, bne_self, seqb_self, Bool.not_true, Int.natCast_nonneg, inc64 (show k < 1000000000000 by omega)]
    refine sem_call rfl rfl (((ht).embed [] rfl trivial rfl rfl rfl (by simp)).mono ?_)
    rintro _ _ ⟨_, _, ⟨rfl, rfl⟩, rfl, rfl⟩
    refine run_ok 4000 _ _ _ _ ?_
    simp (maxSteps := 10000000) only [go_sem, hk1, r0, h0, bne_self, seqb_self, Bool.not_true, Int.natCast_nonneg, inc64 (show k < 1000000000000 by omega)]
    refine ⟨k + 1, by omega, hkl, ?_, [_], rfl⟩
    simp only [go_sem]
  · have hge : ¬ (k : Int) < (W.length : Int) := by omega
    unfold sayX sayY sayW sayL
    simp only [inB, c6, List.getElem?_cons_succ, List.getElem?_cons_zero, go_sem]
    skip
    refine run_ok 4000 _ _ _ _ ?_
    simp (maxSteps := 10000000) only [go_sem, hge]
    refine sem_sub0 [(0, .vsl 6 xs false), (1, .str B), (5, .pbox 0 0), (7, .pbox 21 0), (10, .int .i64 e), (11, .int .i64 (i : Nat)), (117, .int .i64 0)] (by rw [hML]; exact hm) (Nat.zero_le _) (by rw [hML]; rfl) ?_ hc
    simp only [go_sem]
set_option maxHeartbeats 40000000 in
theorem says_in1 (xs : List (List AV)) (B : List UInt8) (e : Int) (i : Nat) (W : List (List UInt8)) (hl : W.length ≤ 60) (hW : ∀ d ∈ W, Said d) {a0 a1 a2 a4 a5 a6 a7 a8 y0 y1 y2 y4 y5 y6 y7 y8 : AV} {b1 b2 b3 b4 b5 b6 b7 b8 b9 b10 b11 b12 b13 b14 b15 b17 b18 b19 b20 b22 b23 b24 b25 b26 b27 b28 b29 b30 b31 b32 b33 b34 b35 b36 b38 b39 b40 b41 : Blk} {M : Mem}
    (hM : M = [.box [a0, a1, a2, .sl 16 0 W.length W.length false, a4, a5, a6, a7, a8], b1, b2, b3, b4, b5, b6, b7, b8, b9, b10, b11, b12, b13, b14, b15, .row 1 (sv W), b17, b18, b19, b20, .box [y0, y1, y2, .sl 37 0 W.length W.length false, y4, y5, y6, y7, y8], b22, b23, b24, b25, b26, b27, b28, b29, b30, b31, b32, b33, b34, b35, b36, .row 1 (sv W), b38, b39, b40, b41]) (hm : idsM 42 M = true) {k : List C} {Q : Exit → Tr → Mem → Prop} (hc : SemW Try.prog Try.f6.ntmps 0 k (mkP [(0, .vsl 6 xs false), (1, .str B), (5, .pbox 0 0), (7, .pbox 21 0), (10, .int .i64 e), (11, .int .i64 (i : Nat)), (117, .int .i64 1)]) M Q) :
    SemW Try.prog Try.f6.ntmps 0 (.loop sayX :: .endb 4 :: k) (mkP [(0, .vsl 6 xs false), (1, .str B), (5, .pbox 0 0), (7, .pbox 21 0), (10, .int .i64 e), (11, .int .i64 (i : Nat)), (117, .int .i64 1), (18, .int .i64 1), (174, .sl 16 0 W.length W.length false), (175, .int .i64 W.length), (176, .int .i64 0)]) M Q := by
  have hML : M.length = 42 := by rw [hM]; rfl
  refine sem_rounds0 (fun k : Nat => k ≤ W.length)
    (fun k => [(0, .vsl 6 xs false), (1, .str B), (5, .pbox 0 0), (7, .pbox 21 0), (10, .int .i64 e), (11, .int .i64 (i : Nat)), (117, .int .i64 1), (18, .int .i64 1), (174, .sl 16 0 W.length W.length false), (175, .int .i64 W.length), (176, .int .i64 (k : Nat))])
    (fun k => W.length - k) 0 (by rw [hML]; exact hm) (Nat.zero_le _) (fun _ _ => by rw [hML]; rfl) (Nat.zero_le _) ?_ ?_
  · simp [go_sem]
  intro k hk
  by_cases hkl : k < W.length
  · have hk1 : (k : Int) < (W.length : Int) := by omega
    obtain ⟨nx, bits, l, ed, d2, d3, d4, hu⟩ := hW _ (List.getElem_mem hkl)
    have hq := refP_dg nx bits l d2 d3 d4 hu
    have ht := rtext_spec nx bits l d2 d3 d4 hu
    have hr := rparse_spec (dgB nx bits l) (dgB_small d2 d3 d4 hu)
    rw [hq] at hr
    simp only at hr
    generalize (match l with | [] => (-1 : Int) | x :: _ => x.1) = NN at *
    generalize (match l with | [] => ([] : List UInt8) | x :: _ => x.2) = TT at *
    have r0 := sv_rstr hkl
    have h0 := sv_hasS hkl
    rw [ed] at r0
    generalize dgB nx bits l = D at *
    rw [hM]
    unfold sayX sayY sayW sayL
    simp only [inB, c6, List.getElem?_cons_succ, List.getElem?_cons_zero, go_sem]
    skip
    refine run_ok 4000 _ _ _ _ ?_
    simp (maxSteps := 10000000) only [go_sem, hk1, r0, h0, bne_self, seqb_self, Bool.not_true, Int.natCast_nonneg, inc64 (show k < 1000000000000 by omega)]
    refine sem_call rfl rfl (((hr).embed [] rfl trivial rfl rfl rfl (by simp)).mono ?_)
    rintro _ _ ⟨_, _, ⟨rfl, rfl⟩, rfl, rfl⟩
    refine run_ok 4000 _ _ _ _ ?_
    simp (maxSteps := 10000000) only [go_sem, hk1, r0, h0, bne_self, seqb_self, Bool.not_true, Int.natCast_nonneg, inc64 (show k < 1000000000000 by omega)]
    refine sem_call rfl rfl (((ht).embed [] rfl trivial rfl rfl rfl (by simp)).mono ?_)
    rintro _ _ ⟨_, _, ⟨rfl, rfl⟩, rfl, rfl⟩
    refine run_ok 4000 _ _ _ _ ?_
    simp (maxSteps := 10000000) only [go_sem, hk1, r0, h0, bne_self, seqb_self, Bool.not_true, Int.natCast_nonneg, inc64 (show k < 1000000000000 by omega)]
    refine ⟨k + 1, by omega, hkl, ?_, [_], rfl⟩
    simp only [go_sem]
  · have hge : ¬ (k : Int) < (W.length : Int) := by omega
    unfold sayX sayY sayW sayL
    simp only [inB, c6, List.getElem?_cons_succ, List.getElem?_cons_zero, go_sem]
    skip
    refine run_ok 4000 _ _ _ _ ?_
    simp (maxSteps := 10000000) only [go_sem, hge]
    refine sem_sub0 [(0, .vsl 6 xs false), (1, .str B), (5, .pbox 0 0), (7, .pbox 21 0), (10, .int .i64 e), (11, .int .i64 (i : Nat)), (117, .int .i64 1)] (by rw [hML]; exact hm) (Nat.zero_le _) (by rw [hML]; rfl) ?_ hc
    simp only [go_sem]
end Go.AEX

/- Link: what goes says what the document says: both ends of a round. -/
namespace Go.AEX
open Go Go.AE Go.Proofs
set_option maxRecDepth 100000
set_option linter.unusedVariables false
set_option linter.unusedSimpArgs false

abbrev sayS (xs : List (List AV)) (B : List UInt8) (e : Int) (i : Nat) : List (Nat × AV) := [(0, .vsl 6 xs false), (1, .str B), (5, .pbox 0 0), (7, .pbox 21 0), (10, .int .i64 e), (11, .int .i64 (i : Nat))]
set_option maxHeartbeats 40000000 in
theorem says_w0 (xs : List (List AV)) (B : List UInt8) (e : Int) (i : Nat) (W : List (List UInt8)) (nC : Nat) (hl : W.length ≤ 60) (hW : ∀ d ∈ W, Said d) {a1 a3 a4 a5 a7 a8 y1 y3 y4 y5 y7 y8 : AV} {b1 b2 b3 b4 b5 b6 b7 b8 b9 b10 b11 b12 b13 b14 b16 b17 b18 b19 b20 b22 b23 b24 b25 b26 b27 b28 b29 b30 b31 b32 b33 b34 b35 b37 b38 b39 b40 b41 : Blk} {M : Mem}
    (hM : M = [.box [.pbox 1 0, a1, .sl 15 0 W.length W.length false, a3, a4, a5, .sl 19 0 nC nC false, a7, a8], b1, b2, b3, b4, b5, b6, b7, b8, b9, b10, b11, b12, b13, b14, .row 1 (sv W), b16, b17, b18, b19, b20, .box [.pbox 22 0, y1, .sl 36 0 W.length W.length false, y3, y4, y5, .sl 40 0 nC nC false, y7, y8], b22, b23, b24, b25, b26, b27, b28, b29, b30, b31, b32, b33, b34, b35, .row 1 (sv W), b37, b38, b39, b40, b41]) (hm : idsM 42 M = true) (IA : Bool)
    (ia : Tri Try.prog 10 [.pbox 1 0] M (fun v m => v = .bsym IA ∧ m = M)) (ic : Tri Try.prog 10 [.pbox 22 0] M (fun v m => v = .bsym IA ∧ m = M))
    {k : List C} {Q : Exit → Tr → Mem → Prop} {N : Tr → Mem → Prop} (hN : ∀ t1, embT0 t1 [(0, .vsl 6 xs false), (1, .str B), (5, .pbox 0 0), (7, .pbox 21 0), (10, .int .i64 e), (11, .int .i64 (i : Nat)), (117, .int .i64 1)] → N t1 M) :
    SemW Try.prog Try.f6.ntmps 0 sayW (mkP [(0, .vsl 6 xs false), (1, .str B), (5, .pbox 0 0), (7, .pbox 21 0), (10, .int .i64 e), (11, .int .i64 (i : Nat)), (117, .int .i64 0)]) M (Nxt Try.prog Try.f6.ntmps 0 k Q N) := by
  have hin : (0 : Int) < 2 := by omega
  subst hM
  unfold sayW sayL
  simp only [inB, c6, List.getElem?_cons_succ, List.getElem?_cons_zero, go_sem]
  skip
  refine run_ok 4000 _ _ _ _ ?_
  simp (maxSteps := 10000000) only [go_sem, hin, bne_self, beq_self_eq_true, Bool.not_true]
  refine sem_drawG l6_0_ok (by kernel_rfl) ?_
  intro KK hKK
  simp (maxSteps := 10000000) only [go_sem, l6_0, hin, bne_self, beq_self_eq_true, Bool.not_true]
  refine TriZ.of (ia.mono ?_)
  rintro _ _ ⟨rfl, rfl⟩
  simp (maxSteps := 10000000) only [go_sem, hin, bne_self, beq_self_eq_true, Bool.not_true]
  refine TriZ.of (ic.mono ?_)
  rintro _ _ ⟨rfl, rfl⟩
  simp (maxSteps := 10000000) only [go_sem, hin, bne_self, beq_self_eq_true, Bool.not_true]
  subst hKK
  simp (maxSteps := 10000000) only [go_sem, hin, bne_self, beq_self_eq_true, Bool.not_true]
  refine sem_sub0 [(0, .vsl 6 xs false), (1, .str B), (5, .pbox 0 0), (7, .pbox 21 0), (10, .int .i64 e), (11, .int .i64 (i : Nat)), (117, .int .i64 0), (18, .int .i64 0), (174, .sl 15 0 W.length W.length false), (175, .int .i64 W.length), (176, .int .i64 0)] hm (Nat.zero_le _) rfl (by simp only [go_sem]) ?_
  refine says_in0 xs B e i W hl hW rfl hm ?_
  skip
  refine run_ok 4000 _ _ _ _ ?_
  simp (maxSteps := 10000000) only [go_sem, w64_1, show iwrap .i64 (2 : Int) = 2 from rfl]
  exact hN _ (by simp only [go_sem])
set_option maxHeartbeats 40000000 in
theorem says_w1 (xs : List (List AV)) (B : List UInt8) (e : Int) (i : Nat) (W : List (List UInt8)) (nC : Nat) (hl : W.length ≤ 60) (hW : ∀ d ∈ W, Said d) {a0 a2 a4 a5 a6 a8 y0 y2 y4 y5 y6 y8 : AV} {b1 b2 b3 b4 b5 b6 b7 b8 b9 b10 b11 b12 b13 b14 b15 b17 b18 b19 b20 b22 b23 b24 b25 b26 b27 b28 b29 b30 b31 b32 b33 b34 b35 b36 b38 b39 b40 b41 : Blk} {M : Mem}
    (hM : M = [.box [a0, .pbox 8 0, a2, .sl 16 0 W.length W.length false, a4, a5, a6, .sl 20 0 nC nC false, a8], b1, b2, b3, b4, b5, b6, b7, b8, b9, b10, b11, b12, b13, b14, b15, .row 1 (sv W), b17, b18, b19, b20, .box [y0, .pbox 29 0, y2, .sl 37 0 W.length W.length false, y4, y5, y6, .sl 41 0 nC nC false, y8], b22, b23, b24, b25, b26, b27, b28, b29, b30, b31, b32, b33, b34, b35, b36, .row 1 (sv W), b38, b39, b40, b41]) (hm : idsM 42 M = true) (IA : Bool)
    (ia : Tri Try.prog 10 [.pbox 8 0] M (fun v m => v = .bsym IA ∧ m = M)) (ic : Tri Try.prog 10 [.pbox 29 0] M (fun v m => v = .bsym IA ∧ m = M))
    {k : List C} {Q : Exit → Tr → Mem → Prop} {N : Tr → Mem → Prop} (hN : ∀ t1, embT0 t1 [(0, .vsl 6 xs false), (1, .str B), (5, .pbox 0 0), (7, .pbox 21 0), (10, .int .i64 e), (11, .int .i64 (i : Nat)), (117, .int .i64 2)] → N t1 M) :
    SemW Try.prog Try.f6.ntmps 0 sayW (mkP [(0, .vsl 6 xs false), (1, .str B), (5, .pbox 0 0), (7, .pbox 21 0), (10, .int .i64 e), (11, .int .i64 (i : Nat)), (117, .int .i64 1)]) M (Nxt Try.prog Try.f6.ntmps 0 k Q N) := by
  have hin : (1 : Int) < 2 := by omega
  subst hM
  unfold sayW sayL
  simp only [inB, c6, List.getElem?_cons_succ, List.getElem?_cons_zero, go_sem]
  skip
  refine run_ok 4000 _ _ _ _ ?_
  simp (maxSteps := 10000000) only [go_sem, hin, bne_self, beq_self_eq_true, Bool.not_true]
  refine sem_drawG l6_0_ok (by kernel_rfl) ?_
  intro KK hKK
  simp (maxSteps := 10000000) only [go_sem, l6_0, hin, bne_self, beq_self_eq_true, Bool.not_true]
  refine TriZ.of (ia.mono ?_)
  rintro _ _ ⟨rfl, rfl⟩
  simp (maxSteps := 10000000) only [go_sem, hin, bne_self, beq_self_eq_true, Bool.not_true]
  refine TriZ.of (ic.mono ?_)
  rintro _ _ ⟨rfl, rfl⟩
  simp (maxSteps := 10000000) only [go_sem, hin, bne_self, beq_self_eq_true, Bool.not_true]
  subst hKK
  simp (maxSteps := 10000000) only [go_sem, hin, bne_self, beq_self_eq_true, Bool.not_true]
  refine sem_sub0 [(0, .vsl 6 xs false), (1, .str B), (5, .pbox 0 0), (7, .pbox 21 0), (10, .int .i64 e), (11, .int .i64 (i : Nat)), (117, .int .i64 1), (18, .int .i64 1), (174, .sl 16 0 W.length W.length false), (175, .int .i64 W.length), (176, .int .i64 0)] hm (Nat.zero_le _) rfl (by simp only [go_sem]) ?_
  refine says_in1 xs B e i W hl hW rfl hm ?_
  skip
  refine run_ok 4000 _ _ _ _ ?_
  simp (maxSteps := 10000000) only [go_sem, w64_1, show iwrap .i64 (2 : Int) = 2 from rfl]
  exact hN _ (by simp only [go_sem])
set_option maxHeartbeats 40000000 in
theorem says_who (xs : List (List AV)) (B : List UInt8) (e : Int) (i : Nat) (p' : PS) (n' m' : Int) (hl0 : p'.w0.length ≤ 60) (hl1 : p'.w1.length ≤ 60)
    (hs0 : ∀ d ∈ p'.w0, Said d) (hs1 : ∀ d ∈ p'.w1, Said d) (hm : idsM 42 (p2M p' n' m') = true) {k : List C} {Q : Exit → Tr → Mem → Prop} (hc : SemW Try.prog Try.f6.ntmps 0 k (mkP (sayS xs B e i)) (p2M p' n' m') Q) :
    SemW Try.prog Try.f6.ntmps 0 (.loop sayW :: .endb 2 :: k) (mkP ((117, .int .i64 0) :: sayS xs B e i)) (p2M p' n' m') Q := by
  refine sem_rounds0 (fun k : Nat => k ≤ 2) (fun k => [(0, .vsl 6 xs false), (1, .str B), (5, .pbox 0 0), (7, .pbox 21 0), (10, .int .i64 e), (11, .int .i64 (i : Nat)), (117, .int .i64 (k : Nat))]) (fun k => 2 - k) 0 hm (Nat.zero_le _) (fun _ _ => rfl) (by omega) ?_ ?_
  · simp [go_sem]
  intro kk hkk
  by_cases hk0 : kk = 0
  · subst hk0
    exact says_w0 xs B e i p'.w0 p'.c0.length hl0 hs0 (M := p2M p' n' m') rfl hm (decide (p'.a.ws.length = 0 ∧ p'.a.ol.length = 0)) (by
    have h := lidle_spec p'.a
    simp only [lkM, lkB, wb] at h
    refine (h.embed [1, 2, 3, 4, 5, 6, 7] rfl (by repeat' first | exact trivial | rfl | (simp only [go_sem]; done) | constructor) rfl (by first | rfl | simp only [go_sem]) rfl (by simp)).mono ?_
    rintro _ _ ⟨_, _, ⟨rfl, rfl⟩, rfl, rfl⟩
    simp (maxSteps := 10000000) only [go_sem]) (by
    have h : Tri Try.prog 10 [.pbox 0 0] (lkM (wb p'.a n')) (fun v m => v = .bsym (decide (p'.a.ws.length = 0 ∧ p'.a.ol.length = 0)) ∧ m = lkM (wb p'.a n')) := lidle_spec (wb p'.a n')
    simp only [lkM, lkB, wb] at h
    refine (h.embed [22, 23, 24, 25, 26, 27, 28] rfl (by repeat' first | exact trivial | rfl | (simp only [go_sem]; done) | constructor) rfl (by first | rfl | simp only [go_sem]) rfl (by simp)).mono ?_
    rintro _ _ ⟨_, _, ⟨rfl, rfl⟩, rfl, rfl⟩
    simp (maxSteps := 10000000) only [go_sem])
      fun t1 h1 => ⟨1, by omega, by omega, h1, [], (List.append_nil _).symm⟩
  by_cases hk1 : kk = 1
  · subst hk1
    exact says_w1 xs B e i p'.w1 p'.c1.length hl1 hs1 (M := p2M p' n' m') rfl hm (decide (p'.b.ws.length = 0 ∧ p'.b.ol.length = 0)) (by
    have h := lidle_spec p'.b
    simp only [lkM, lkB, wb] at h
    refine (h.embed [8, 9, 10, 11, 12, 13, 14] rfl (by repeat' first | exact trivial | rfl | (simp only [go_sem]; done) | constructor) rfl (by first | rfl | simp only [go_sem]) rfl (by simp)).mono ?_
    rintro _ _ ⟨_, _, ⟨rfl, rfl⟩, rfl, rfl⟩
    simp (maxSteps := 10000000) only [go_sem]) (by
    have h : Tri Try.prog 10 [.pbox 0 0] (lkM (wb p'.b m')) (fun v m => v = .bsym (decide (p'.b.ws.length = 0 ∧ p'.b.ol.length = 0)) ∧ m = lkM (wb p'.b m')) := lidle_spec (wb p'.b m')
    simp only [lkM, lkB, wb] at h
    refine (h.embed [29, 30, 31, 32, 33, 34, 35] rfl (by repeat' first | exact trivial | rfl | (simp only [go_sem]; done) | constructor) rfl (by first | rfl | simp only [go_sem]) rfl (by simp)).mono ?_
    rintro _ _ ⟨_, _, ⟨rfl, rfl⟩, rfl, rfl⟩
    simp (maxSteps := 10000000) only [go_sem])
      fun t1 h1 => ⟨2, by omega, by omega, h1, [], (List.append_nil _).symm⟩
  have hk2 : kk = 2 := by omega
  subst hk2
  have hgg : ¬ (2 : Int) < 2 := by omega
  unfold sayW sayL
  simp only [inB, c6, List.getElem?_cons_succ, List.getElem?_cons_zero, go_sem]
  skip
  refine run_ok 4000 _ _ _ _ ?_
  simp (maxSteps := 10000000) only [go_sem, hgg]
  refine sem_sub0 (m := p2M p' n' m') (sayS xs B e i) hm (Nat.zero_le _) rfl ?_ hc
  simp only [go_sem]
end Go.AEX

/- Link: what goes says what the document says: the law. -/
namespace Go.AEX
open Go Go.AE Go.Proofs
set_option maxRecDepth 100000
set_option linter.unusedVariables false
set_option linter.unusedSimpArgs false

theorem lrecv_bad (s : LS) (d : List UInt8) (hd : d.length ≤ 1000000) (hb : 0 ≤ s.bad ∧ s.bad ≤ 900000) (h : (linkP d).2.2 ≠ 0) :
    Tri Try.prog 18 [.pbox 0 0, .str d] (lkM s) (fun v m => v = .tup [.nil0, .int .i64 (linkP d).2.2] ∧ m = lkM (wb s (s.bad + 1))) := by
  refine Tri.post ?_
  have hp := lparse_spec d hd
  generalize linkP d = D at *
  have c0 : (D.2.2 != 0) = true := by simpa using h
  have wbb : iwrap .i64 (s.bad + 1) = s.bad + 1 := iwrap_i64_in (by omega)
  skip
  refine (Tri.enter (rl := r18) (code := c18) (by kernel_rfl) Try.func18 rfl c18_ok (by kernel_rfl) (by kernel_rfl) ?_)
  refine run_ok 4000 _ _ _ _ ?_
  simp (maxSteps := 10000000) only [go_sem, c18, r18, lkM, lkB, c0, wbb]
  refine sem_call rfl rfl (((hp).embed [] rfl trivial rfl rfl rfl (by simp)).mono ?_)
  rintro _ _ ⟨_, _, ⟨rfl, rfl⟩, rfl, rfl⟩
  simp (maxSteps := 10000000) only [go_sem, lkM, lkB, c0, wbb]
  skip
  refine run_ok 20 _ _ _ _ ?_
  simp (maxSteps := 10000000) only [go_sem, lkM, lkB, c0, wbb]
  skip
  refine sem_nil0 rfl ?_
  refine run_ok 4000 _ _ _ _ ?_
  simp (maxSteps := 10000000) only [go_sem, lkM, lkB, c0, wbb]
  refine ⟨_, _, .sub [0, 1, 2, 3, 4, 5, 6] ?_ .done, rfl, rfl⟩
  simp only [EmbV, go_sem, lkM, lkB, wb]
theorem Inv.count {E : Nat} {p : PS} {Na Mb Nb Ma : Nat} (h : Inv E p Na Mb Nb Ma) : Inv (E + 1) { p with a := AEX.wb p.a (p.a.bad + 1) } Na Mb Nb Ma := by
  have hm := h.mono (Nat.le_succ E)
  have hb := h.bada
  refine ⟨h.ab.same rfl rfl rfl rfl rfl rfl rfl rfl, h.ba.same rfl rfl rfl rfl rfl rfl rfl rfl, fun e he => (h.w1 e he).mono (Nat.le_refl _) (Int.le_refl _) fun k hk => hk, hm.w0, hm.l0, hm.l1, ⟨h.ta.cf, h.ta.nums, h.ta.ti⟩, hm.tb, hm.wa, hm.wb, hm.now, ?_, hm.badb, hm.sa, hm.sb⟩
  simp only [AEX.wb]; omega
set_option maxHeartbeats 40000000 in
theorem linkSays_spec (l : AV) (hl : Has (.sl [.int .i64, .int .i64, .int .i64, .int .i64, .int .u8, .str]) l) (bad : List UInt8) (hbad : bad.length ≤ 140737488351232) :
    Tri Try.prog 6 [l, .str bad] [] (fun v m => v = .bool true) := by
  simp only [Has] at hl
  obtain ⟨xs, rfl, hxl, hx⟩ := hl
  simp only [List.length_cons, List.length_nil]
  refine Tri.post ?_
  have hb := lbegin0_spec
  have hawk := hawk_spec
  have hcut := cut_spec bad 80 (by omega)
  have hBl : (bad.take (80 : Int).toNat).length ≤ 80 := by rw [List.length_take]; omega
  generalize bad.take (80 : Int).toNat = B at *
  have hrp := rparse_spec B (by omega)
  have hre := refP_link B
  skip
  refine (Tri.enter (rl := r6) (code := c6) (by kernel_rfl) Try.func6 rfl c6_ok (by kernel_rfl) (by kernel_rfl) ?_)
  refine run_ok 4000 _ _ _ _ ?_
  simp (maxSteps := 10000000) only [go_sem, c6, r6, lkA, lkC, pBox0, List.cons_append, List.nil_append]
  refine sem_call rfl rfl (((hb).embed [] rfl trivial rfl rfl rfl (by simp)).mono ?_)
  rintro _ _ ⟨_, _, ⟨rfl, rfl⟩, rfl, rfl⟩
  simp (maxSteps := 10000000) only [go_sem, lkA, lkC, pBox0, List.cons_append, List.nil_append]
  refine sem_nilbox 0 2 1 rfl rfl ?_
  refine sem_nilbox 0 3 1 rfl rfl ?_
  refine sem_nilbox 0 4 1 rfl rfl ?_
  refine sem_nilbox 0 5 1 rfl rfl ?_
  refine sem_nilbox 0 6 1 rfl rfl ?_
  refine sem_nilbox 0 7 1 rfl rfl ?_
  simp (maxSteps := 10000000) only [go_sem, lkA, lkC, pBox0, List.cons_append, List.nil_append]
  refine run_ok 4000 _ _ _ _ ?_
  simp (maxSteps := 10000000) only [go_sem, lkA, lkC, pBox0, List.cons_append, List.nil_append]
  refine sem_call rfl rfl (((hb).embed [] rfl trivial rfl rfl rfl (by simp)).mono ?_)
  rintro _ _ ⟨_, _, ⟨rfl, rfl⟩, rfl, rfl⟩
  simp (maxSteps := 10000000) only [go_sem, lkA, lkC, pBox0, List.cons_append, List.nil_append]
  refine sem_nilbox 21 2 1 rfl rfl ?_
  refine sem_nilbox 21 3 1 rfl rfl ?_
  refine sem_nilbox 21 4 1 rfl rfl ?_
  refine sem_nilbox 21 5 1 rfl rfl ?_
  refine sem_nilbox 21 6 1 rfl rfl ?_
  refine sem_nilbox 21 7 1 rfl rfl ?_
  simp (maxSteps := 10000000) only [go_sem, lkA, lkC, pBox0, List.cons_append, List.nil_append]
  refine run_ok 4000 _ _ _ _ ?_
  simp (maxSteps := 10000000) only [go_sem, lkA, lkC, pBox0, List.cons_append, List.nil_append]
  refine sem_call rfl rfl (((hawk).embed [] rfl trivial rfl rfl rfl (by simp)).mono ?_)
  rintro _ _ ⟨_, _, ⟨rfl, rfl⟩, rfl, rfl⟩
  refine run_ok 4000 _ _ _ _ ?_
  simp (maxSteps := 10000000) only [go_sem, lkA, lkC, pBox0, List.cons_append, List.nil_append]
  refine sem_call rfl rfl (((hcut).embed [] rfl trivial rfl rfl rfl (by simp)).mono ?_)
  rintro _ _ ⟨_, _, ⟨rfl, rfl⟩, rfl, rfl⟩
  refine run_ok 4000 _ _ _ _ ?_
  simp (maxSteps := 10000000) only [go_sem, lkA, lkC, pBox0, List.cons_append, List.nil_append]
  refine sem_call rfl rfl (((hrp).embed [] rfl trivial rfl rfl rfl (by simp)).mono ?_)
  rintro _ _ ⟨_, _, ⟨rfl, rfl⟩, rfl, rfl⟩
  refine run_ok 4000 _ _ _ _ ?_
  simp (maxSteps := 10000000) only [go_sem, lkA, lkC, pBox0, List.cons_append, List.nil_append]
  rw [hre]
  generalize hE : (linkP B).2.2 = e at *
  refine sem_rounds (fun q : Nat × PS × Int × Int => q.1 ≤ 80 ∧ (∃ Na Mb Nb Ma, Inv (2 * q.1) q.2.1 Na Mb Nb Ma) ∧ ∃ Na Mb Nb Ma, Inv (2 * q.1) { q.2.1 with a := wb q.2.1.a q.2.2.1, b := wb q.2.1.b q.2.2.2 } Na Mb Nb Ma)
    (fun q => [(0, .vsl 6 xs false), (1, .str B), (5, .pbox 0 0), (7, .pbox 21 0), (10, .int .i64 e), (11, .int .i64 (q.1 : Nat))])
    (fun q => p2M q.2.1 q.2.2.1 q.2.2.2) (fun q => 80 - q.1) (0, PS0, 0, 0) [0, 1, 2, 3, 4, 5, 6, 7, 8, 9, 10, 11, 12, 13, 14, 15, 16, 17, 18, 19, 20, 21, 22, 23, 24, 25, 26, 27, 28, 29, 30, 31, 32, 33, 34, 35, 36, 37, 38, 39, 40, 41] ⟨by simp, ⟨0, 0, 0, 0, inv0⟩, 0, 0, 0, 0, inv0⟩ ?_ ?_
  · simp [Emb, go_sem, PS0, LS0, sv, irows, terows, me, prows]
  rintro ⟨i, p, n, m⟩ ⟨hi, ⟨Na, Mb, Nb, Ma, hI⟩, Nc, Md, Nd, Mc, hJ⟩
  simp only at hi hI hJ ⊢
  by_cases c : i < xs.length ∧ i < 80
  · have hlt : i < xs.length := by omega
    have hin1 : (i : Int) < (xs.length : Int) := by omega
    have hin2 : (i : Int) < 80 := by omega
    obtain ⟨a, hrow⟩ := act_row (hx _ (List.getElem_mem hlt))
    have hg0 : xs[i]? = some (arow a) := by rw [List.getElem?_eq_getElem hlt, hrow]
    have e0 : rint xs i 0 = a.kind := by simp [rint, List.getD_eq_getElem?_getD, hg0, arow]
    have e1 : rint xs i 1 = a.who := by simp [rint, List.getD_eq_getElem?_getD, hg0, arow]
    have e2 : rint xs i 2 = a.n := by simp [rint, List.getD_eq_getElem?_getD, hg0, arow]
    have e3 : rint xs i 3 = a.at' := by simp [rint, List.getD_eq_getElem?_getD, hg0, arow]
    have e4 : rint xs i 4 = a.y.toNat := by simp [rint, List.getD_eq_getElem?_getD, hg0, arow]
    have e5 : rstr xs i 5 = a.s := by simp [rstr, List.getD_eq_getElem?_getD, hg0, arow]
    have i0 : hasI .i64 xs i 0 := ⟨_, a.kind, hg0, rfl⟩
    have i1 : hasI .i64 xs i 1 := ⟨_, a.who, hg0, rfl⟩
    have i2 : hasI .i64 xs i 2 := ⟨_, a.n, hg0, rfl⟩
    have i3 : hasI .i64 xs i 3 := ⟨_, a.at', hg0, rfl⟩
    have i4 : hasI .u8 xs i 4 := ⟨_, (a.y.toNat : Int), hg0, rfl⟩
    have i5 : hasS xs i 5 := ⟨_, a.s, hg0, rfl⟩
    have hrel : Rel p { p with a := wb p.a n, b := wb p.b m } := ⟨n, m, rfl⟩
    obtain ⟨hd1, Na', Mb', Nb', Ma', hP'⟩ := does_spec hI (by omega) a
    replace hP' := hP'.mono (show 2 * i + 1 ≤ 2 * (i + 1) by omega)
    have hD0 := hP'.w0
    have hD1 := hP'.w1
    have hNb : Nb' ≤ 1000000 := by have := hP'.ba.le; have := hP'.ba.parts; omega
    have hNa : Na' ≤ 1000000 := by have := hP'.ab.le; have := hP'.ab.parts; omega
    by_cases hez : e = 0
    · have he0 : (e != 0) = false := by simp [hez]
      obtain ⟨hd2, _, _, _, _, hQ'⟩ := does_spec hJ (by omega) a
      replace hQ' := hQ'.mono (show 2 * i + 1 ≤ 2 * (i + 1) by omega)
      obtain ⟨n', m', er⟩ := hrel.does a
      rw [er] at hd2 hQ'
      generalize doesF p a = p' at *
      simp only [actV, pN, pN2, wb] at hd1 hd2
      skip
      refine run_ok 4000 _ _ _ _ ?_
      simp (maxSteps := 10000000) only [go_sem, he0, hin1, hin2, e0, e1, e2, e3, e4, e5, i0, i1, i2, i3, i4, i5, Int.natCast_nonneg]
      refine sem_call rfl rfl (((hd1).embed [0, 1, 2, 3, 4, 5, 6, 7, 8, 9, 10, 11, 12, 13, 14, 15, 16, 17, 18, 19, 20] rfl (by repeat' first | exact trivial | rfl | (simp only [go_sem]; done) | constructor) rfl (by first | rfl | simp only [go_sem]) rfl (by simp)).mono ?_)
      rintro _ _ ⟨v2, m2, ⟨h1, h2⟩, h3, h4⟩
      subst h3
      subst h4
      subst h1
      subst h2
      refine run_ok 4000 _ _ _ _ ?_
      simp (maxSteps := 10000000) only [go_sem, he0, hin1, hin2, e0, e1, e2, e3, e4, e5, i0, i1, i2, i3, i4, i5, Int.natCast_nonneg]
      refine sem_call rfl rfl (((hd2).embed [21, 22, 23, 24, 25, 26, 27, 28, 29, 30, 31, 32, 33, 34, 35, 36, 37, 38, 39, 40, 41] rfl (by repeat' first | exact trivial | rfl | (simp only [go_sem]; done) | constructor) rfl (by first | rfl | simp only [go_sem]) rfl (by simp)).mono ?_)
      rintro _ _ ⟨v2, m2, ⟨h1, h2⟩, h3, h4⟩
      subst h3
      subst h4
      subst h1
      subst h2
      refine run_ok 4000 _ _ _ _ ?_
      simp (maxSteps := 10000000) only [go_sem, he0, hin1, hin2, e0, e1, e2, e3, e4, e5, i0, i1, i2, i3, i4, i5, Int.natCast_nonneg]
      refine sem_sub [0, 1, 2, 3, 4, 42, 6, 43, 8, 9, 10, 11, 44, 13, 45, 46, 47, 48, 49, 50, 51, 21, 22, 23, 24, 25, 52, 27, 53, 29, 30, 31, 32, 54, 34, 55, 56, 57, 58, 59, 60, 61] (sl := (117, .int .i64 0) :: sayS xs B e i) (m2 := p2M p' n' m') (by simp [Emb, go_sem]) ?_
      refine says_who xs B e i p' n' m' hP'.l0 hP'.l1 (fun d hd => (hD0 d hd).said hNb) (fun d hd => (hD1 d hd).said hNa) (by simp [go_sem]) ?_
      skip
      refine run_ok 4000 _ _ _ _ ?_
      simp (maxSteps := 10000000) only [go_sem, inc64 (show i < 1000000000000 by omega)]
      refine ⟨(i + 1, p', n', m'), by simp only; omega, ⟨by simp only; omega, ⟨_, _, _, _, hP'⟩, _, _, _, _, hQ'⟩, [0, 1, 2, 3, 4, 5, 6, 7, 8, 9, 10, 11, 12, 13, 14, 15, 16, 17, 18, 19, 20, 21, 22, 23, 24, 25, 26, 27, 28, 29, 30, 31, 32, 33, 34, 35, 36, 37, 38, 39, 40, 41], ?_⟩
      simp [Emb, go_sem]
    · have he0 : (e != 0) = true := by simpa using hez
      have hbd := hJ.bada
      simp only [wb] at hbd
      have c1 := lcounts_spec (wb p.a n)
      have rb := lrecv_bad (wb p.a n) B (by omega) (by simp only [wb]; omega) (by rw [hE]; exact hez)
      rw [hE] at rb
      have c2 := lcounts_spec (wb p.a (n + 1))
      have hJ2 : Inv (2 * i + 1) { p with a := wb p.a (n + 1), b := wb p.b m } Nc Md Nd Mc := hJ.count
      have hrel2 : Rel p { p with a := wb p.a (n + 1), b := wb p.b m } := ⟨n + 1, m, rfl⟩
      obtain ⟨hd2, _, _, _, _, hQ'⟩ := does_spec hJ2 (by omega) a
      replace hQ' := hQ'.mono (show 2 * i + 1 + 1 ≤ 2 * (i + 1) by omega)
      obtain ⟨n', m', er⟩ := hrel2.does a
      rw [er] at hd2 hQ'
      generalize doesF p a = p' at *
      have wn1 : iwrap .i64 (n + 1) = n + 1 := iwrap_i64_in (by omega)
      simp only [actV, pN, pN2, wb] at hd1 hd2
      simp only [lkM, lkB, wb] at c1 rb c2
      skip
      refine run_ok 4000 _ _ _ _ ?_
      simp (maxSteps := 10000000) only [go_sem, he0, wn1, bne_self, hin1, hin2, e0, e1, e2, e3, e4, e5, i0, i1, i2, i3, i4, i5, Int.natCast_nonneg]
      refine sem_call rfl rfl (((c1).embed [22, 23, 24, 25, 26, 27, 28] rfl (by repeat' first | exact trivial | rfl | (simp only [go_sem]; done) | constructor) rfl (by first | rfl | simp only [go_sem]) rfl (by simp)).mono ?_)
      rintro _ _ ⟨v2, m2, ⟨h1, h2⟩, h3, h4⟩
      subst h3
      subst h4
      subst h1
      subst h2
      refine run_ok 4000 _ _ _ _ ?_
      simp (maxSteps := 10000000) only [go_sem, he0, wn1, bne_self, hin1, hin2, e0, e1, e2, e3, e4, e5, i0, i1, i2, i3, i4, i5, Int.natCast_nonneg]
      refine sem_call rfl rfl (((rb).embed [22, 23, 24, 25, 26, 27, 28] rfl (by repeat' first | exact trivial | rfl | (simp only [go_sem]; done) | constructor) rfl (by first | rfl | simp only [go_sem]) rfl (by simp)).mono ?_)
      rintro _ _ ⟨v2, m2, ⟨h1, h2⟩, h3, h4⟩
      subst h3
      subst h4
      subst h1
      subst h2
      refine run_ok 4000 _ _ _ _ ?_
      simp (maxSteps := 10000000) only [go_sem, he0, wn1, bne_self, hin1, hin2, e0, e1, e2, e3, e4, e5, i0, i1, i2, i3, i4, i5, Int.natCast_nonneg]
      refine sem_call rfl rfl (((c2).embed [22, 23, 24, 25, 26, 27, 28] rfl (by repeat' first | exact trivial | rfl | (simp only [go_sem]; done) | constructor) rfl (by first | rfl | simp only [go_sem]) rfl (by simp)).mono ?_)
      rintro _ _ ⟨v2, m2, ⟨h1, h2⟩, h3, h4⟩
      subst h3
      subst h4
      subst h1
      subst h2
      refine run_ok 4000 _ _ _ _ ?_
      simp (maxSteps := 10000000) only [go_sem, he0, wn1, bne_self, hin1, hin2, e0, e1, e2, e3, e4, e5, i0, i1, i2, i3, i4, i5, Int.natCast_nonneg]
      refine sem_eqn0 rfl rfl ?_
      refine run_ok 4000 _ _ _ _ ?_
      simp (maxSteps := 10000000) only [go_sem, he0, wn1, bne_self, hin1, hin2, e0, e1, e2, e3, e4, e5, i0, i1, i2, i3, i4, i5, Int.natCast_nonneg]
      refine sem_call rfl rfl (((hd1).embed [0, 1, 2, 3, 4, 5, 6, 7, 8, 9, 10, 11, 12, 13, 14, 15, 16, 17, 18, 19, 20] rfl (by repeat' first | exact trivial | rfl | (simp only [go_sem]; done) | constructor) rfl (by first | rfl | simp only [go_sem]) rfl (by simp)).mono ?_)
      rintro _ _ ⟨v2, m2, ⟨h1, h2⟩, h3, h4⟩
      subst h3
      subst h4
      subst h1
      subst h2
      refine run_ok 4000 _ _ _ _ ?_
      simp (maxSteps := 10000000) only [go_sem, he0, wn1, bne_self, hin1, hin2, e0, e1, e2, e3, e4, e5, i0, i1, i2, i3, i4, i5, Int.natCast_nonneg]
      refine sem_call rfl rfl (((hd2).embed [21, 22, 23, 24, 25, 26, 27, 28, 29, 30, 31, 32, 33, 34, 35, 36, 37, 38, 39, 40, 41] rfl (by repeat' first | exact trivial | rfl | (simp only [go_sem]; done) | constructor) rfl (by first | rfl | simp only [go_sem]) rfl (by simp)).mono ?_)
      rintro _ _ ⟨v2, m2, ⟨h1, h2⟩, h3, h4⟩
      subst h3
      subst h4
      subst h1
      subst h2
      refine run_ok 4000 _ _ _ _ ?_
      simp (maxSteps := 10000000) only [go_sem, he0, wn1, bne_self, hin1, hin2, e0, e1, e2, e3, e4, e5, i0, i1, i2, i3, i4, i5, Int.natCast_nonneg]
      refine sem_sub [0, 1, 2, 3, 4, 42, 6, 43, 8, 9, 10, 11, 44, 13, 45, 46, 47, 48, 49, 50, 51, 21, 22, 23, 24, 25, 52, 27, 53, 29, 30, 31, 32, 54, 34, 55, 56, 57, 58, 59, 60, 61] (sl := (117, .int .i64 0) :: sayS xs B e i) (m2 := p2M p' n' m') (by simp [Emb, go_sem]) ?_
      refine says_who xs B e i p' n' m' hP'.l0 hP'.l1 (fun d hd => (hD0 d hd).said hNb) (fun d hd => (hD1 d hd).said hNa) (by simp [go_sem]) ?_
      skip
      refine run_ok 4000 _ _ _ _ ?_
      simp (maxSteps := 10000000) only [go_sem, inc64 (show i < 1000000000000 by omega)]
      refine ⟨(i + 1, p', n', m'), by simp only; omega, ⟨by simp only; omega, ⟨_, _, _, _, hP'⟩, _, _, _, _, hQ'⟩, [0, 1, 2, 3, 4, 5, 6, 7, 8, 9, 10, 11, 12, 13, 14, 15, 16, 17, 18, 19, 20, 21, 22, 23, 24, 25, 26, 27, 28, 29, 30, 31, 32, 33, 34, 35, 36, 37, 38, 39, 40, 41], ?_⟩
      simp [Emb, go_sem]
  · by_cases c1 : i < xs.length
    · have hin1 : (i : Int) < (xs.length : Int) := by omega
      have hin2 : ¬ (i : Int) < 80 := by omega
      skip
      refine run_ok 4000 _ _ _ _ ?_
      simp (maxSteps := 10000000) only [go_sem, hin1, hin2]
      refine run_ok 4000 _ _ _ _ ?_
      simp (maxSteps := 10000000) only [go_sem, hin1, hin2]
      refine ⟨_, [], .sub [] ?_ .done, rfl⟩
      simp only [EmbV, go_sem]
    · have hin1 : ¬ (i : Int) < (xs.length : Int) := by omega
      skip
      refine run_ok 4000 _ _ _ _ ?_
      simp (maxSteps := 10000000) only [go_sem, hin1]
      refine run_ok 4000 _ _ _ _ ?_
      simp (maxSteps := 10000000) only [go_sem, hin1]
      refine ⟨_, [], .sub [] ?_ .done, rfl⟩
      simp only [EmbV, go_sem]
end Go.AEX
