/- HInv, HInw, HInx, HIny, HInz, HEv, HCar, HLive, HLiveW in one. -/
import Derived.Test.YthpfmahafgfbeaaHPairE
import Derived.Test.YthpfmahafgfbeaaAEzk
/- Two ends: what holds of one way. -/
namespace Go.AEX
open Go Go.AE Go.Proofs
set_option maxRecDepth 100000
set_option linter.unusedVariables false
set_option linter.unusedSimpArgs false

theorem allJ_app : ∀ (l k : List Part) (s : List UInt8) (n : Nat), (allJ s n l).2 = 0 →
    allJ s n (l ++ k) = ((allJ s n l).1 ++ (allJ (allS s n l).1 (allS s n l).2 k).1, (allJ (allS s n l).1 (allS s n l).2 k).2) ∧ allS s n (l ++ k) = allS (allS s n l).1 (allS s n l).2 k
  | [], k, s, n, h => by simp [allJ, allS]
  | p :: l, k, s, n, h => by
    rw [List.cons_append]
    simp only [allJ, allS] at h ⊢
    by_cases c : (putV s p.1 p.2).2.2 ≠ 0
    · rw [if_pos c] at h; exact absurd h c
    · rw [if_neg c] at h
      simp only [if_neg c]
      obtain ⟨ih1, ih2⟩ := allJ_app l k (putS s n p.1 p.2).1 (putS s n p.1 p.2).2 h
      rw [ih1, ih2]
      refine ⟨?_, rfl⟩
      split <;> simp
theorem allJ_pre : ∀ (l k : List Part) (s : List UInt8) (n : Nat), (allJ s n (l ++ k)).2 = 0 → (allJ s n l).2 = 0
  | [], k, s, n, h => rfl
  | p :: l, k, s, n, h => by
    rw [List.cons_append] at h
    simp only [allJ] at h ⊢
    by_cases c : (putV s p.1 p.2).2.2 ≠ 0
    · rw [if_pos c] at h ⊢; exact h
    · rw [if_neg c] at h
      rw [if_neg c]
      exact allJ_pre l k _ _ h
theorem takes_ok : ∀ (L : List Part) (B : LS), (∀ p ∈ L, p.2.length ≤ 200) → (allJ B.js B.jn L).2 = 0 →
    takesF B (L.map partB) = ({ B with js := (allS B.js B.jn L).1, jn := (allS B.js B.jn L).2 }, (allJ B.js B.jn L).1)
  | [], B, _, _ => rfl
  | p :: L, B, hp, h => by
    have h1 : (allJ B.js B.jn [p]).2 = 0 := allJ_pre [p] L _ _ h
    obtain ⟨a1, a2⟩ := allJ_app [p] L B.js B.jn h1
    have e : takeF B (partB p) = ({ B with js := (allS B.js B.jn [p]).1, jn := (allS B.js B.jn [p]).2 }, (allJ B.js B.jn [p]).1) := by
      unfold takeF
      rw [parse_partB p (hp p (by simp)), if_neg (by simp), if_neg (by simpa using h1)]
    rw [List.singleton_append] at a1 a2
    rw [a1] at h
    have ih := takes_ok L { B with js := (allS B.js B.jn [p]).1, jn := (allS B.js B.jn [p]).2 } (fun q hq => hp q (by simp [hq])) h
    rw [List.map_cons, takesF, e]
    simp only
    rw [ih, a1, a2]
abbrev prt (Q : List Part) (k : Nat) : Part := Q.getD k (false, [])
def It (Q : List Part) (N : Nat) (x : Int × List UInt8) : Prop := ∃ k : Nat, k < N ∧ x = ((k : Int), partB (prt Q k))
theorem It.mono {Q : List Part} {N N' : Nat} {x : Int × List UInt8} (h : It Q N x) (hn : N ≤ N') : It Q N' x := by
  obtain ⟨k, h1, h2⟩ := h; exact ⟨k, by omega, h2⟩
theorem It.more {Q R : List Part} {N : Nat} {x : Int × List UInt8} (h : It Q N x) (hq : N ≤ Q.length) : It (Q ++ R) N x := by
  obtain ⟨k, h1, h2⟩ := h
  refine ⟨k, h1, ?_⟩
  rw [h2]; unfold prt
  rw [List.getD_eq_getElem?_getD, List.getD_eq_getElem?_getD, List.getElem?_append_left (by omega)]
theorem It.rg {Q : List Part} {N : Nat} {x : Int × List UInt8} (h : It Q N x) : 0 ≤ x.1 ∧ x.1 < N := by
  obtain ⟨k, h1, rfl⟩ := h; simp only; omega
theorem drain_it {Q : List Part} {N : Nat} (hN : N ≤ 1000000) (hQ : N ≤ Q.length) : ∀ (f : Nat) (nx : Nat) (K : Ent) (o : List (List UInt8)), K.length < f → nx ≤ N → (∀ p ∈ K, It Q N p ∧ (nx : Int) ≤ p.1) → (K.map (·.1)).Nodup →
    ∃ (m : Nat) (K' : Ent), drain f (nx : Int) K o = ((m : Int), K', o ++ ((Q.drop nx).take (m - nx)).map partB) ∧ nx ≤ m ∧ m ≤ N ∧ (∀ p ∈ K', p ∈ K ∧ (m : Int) < p.1) ∧ (K'.map (·.1)).Nodup ∧ (∀ p ∈ K, p.1 < m ∨ p ∈ K')
  | 0, nx, K, o, hf, _, _, _ => by omega
  | f + 1, nx, K, o, hf, hnx, hK, hnd => by
    rw [drain]
    cases hl : lkE K nx with
    | none =>
      refine ⟨nx, K, by simp, Nat.le_refl _, hnx, fun p hp => ⟨hp, ?_⟩, hnd, fun p hp => .inr hp⟩
      have h1 := lk_none hl p hp
      have h2 := (hK p hp).2
      omega
    | some s =>
      have hm := lk_val hl
      obtain ⟨⟨k, hk1, hk2⟩, _⟩ := hK _ hm
      have hkn : k = nx := by have := congrArg Prod.fst hk2; simp only at this; omega
      subst hkn
      have hs : s = partB (prt Q k) := congrArg Prod.snd hk2
      have hd := delE_len K k (by rw [hl]; rfl)
      obtain ⟨g1, g2⟩ := del_nd (k := (k : Int)) hnd
      have hu : u32 ((k : Int) + 1) = ((k + 1 : Nat) : Int) := by unfold u32; rw [iwrap_u32]; omega
      obtain ⟨m, K', e, h1, h2, h3, h4, h5⟩ := drain_it hN hQ f (k + 1) (delE K k) (o ++ [s]) (by omega) (by omega) (fun p hp => by
        have q1 := hK p (del_sub hp)
        have q2 := g2 p hp
        rw [hl] at q2
        have q3 : p.1 ≠ (k : Int) := by rcases q2 with q2 | q2; exact q2; cases q2
        exact ⟨q1.1, by omega⟩) g1
      simp only
      rw [hu, e]
      refine ⟨m, K', ?_, by omega, h2, fun p hp => ⟨del_sub (h3 p hp).1, (h3 p hp).2⟩, h4, fun p hp => ?_⟩
      · have hkl : k < Q.length := by omega
        have e1 : Q.drop k = Q[k] :: Q.drop (k + 1) := List.drop_eq_getElem_cons hkl
        have e2 : m - k = (m - (k + 1)) + 1 := by omega
        have e3 : prt Q k = Q[k] := by unfold prt; rw [List.getD_eq_getElem?_getD, List.getElem?_eq_getElem hkl]; rfl
        rw [e1, e2, List.take_succ_cons, List.map_cons, hs, e3]
        simp
      · by_cases c : p.1 = (k : Int)
        · left; omega
        · exact h5 p (del_mem hp c)
theorem put_it {Q : List Part} {N M k : Nat} {K : Ent} (hN : N ≤ 1000000) (hQ : N ≤ Q.length) (hM : M ≤ N) (hk : k < N) (hw : N ≤ M + 32) (hK : ∀ p ∈ K, It Q N p ∧ (M : Int) < p.1) (hnd : (K.map (·.1)).Nodup) :
    ∃ (m : Nat) (K' : Ent), (putW M K k (partB (prt Q k))).1 = ((m : Int), K') ∧ (putW M K k (partB (prt Q k))).2.1 = ((Q.drop M).take (m - M)).map partB ∧ M ≤ m ∧ m ≤ N ∧ (∀ p ∈ K', It Q N p ∧ (m : Int) < p.1) ∧ (K'.map (·.1)).Nodup ∧
      (∀ p ∈ K, p.1 < m ∨ p ∈ K') ∧ (k < m ∨ ∃ p ∈ K', p.1 = (k : Int)) := by
  unfold putW
  simp only
  have hd : u32 ((k : Int) - (M : Int)) = if k < M then (k : Int) - M + 4294967296 else (k : Int) - M := by
    unfold u32; rw [iwrap_u32]; split <;> omega
  rw [hd]
  by_cases c : k < M
  · rw [if_pos c, if_pos (by omega)]
    exact ⟨M, K, rfl, by simp, Nat.le_refl _, hM, hK, hnd, fun p hp => .inr hp, .inl c⟩
  · rw [if_neg c, if_neg (by omega), if_neg (by omega)]
    by_cases c2 : (lkE K k).isSome = true
    · rw [if_pos c2]
      exact ⟨M, K, rfl, by simp, Nat.le_refl _, hM, hK, hnd, fun p hp => .inr hp, .inr (lk_some c2)⟩
    · rw [if_neg c2]
      have hnone : lkE K k = none := by simpa using c2
      have hKn : ∀ p ∈ K ++ [((k : Int), partB (prt Q k))], It Q N p ∧ (M : Int) ≤ p.1 := by
        intro p hp
        rcases List.mem_append.1 hp with hp | hp
        · exact ⟨(hK p hp).1, by have := (hK p hp).2; omega⟩
        · simp at hp; subst hp; exact ⟨⟨k, hk, rfl⟩, by simp only; omega⟩
      have hndn : ((K ++ [((k : Int), partB (prt Q k))]).map (·.1)).Nodup := by
        rw [List.map_append, List.nodup_append]
        refine ⟨hnd, by simp, fun a ha b hb => ?_⟩
        simp at hb; subst hb
        obtain ⟨p, hp, rfl⟩ := List.mem_map.1 ha
        exact lk_none hnone p hp
      obtain ⟨m, K', e, h1, h2, h3, h4, h5⟩ := drain_it hN hQ (K.length + 1 + 1) M (K ++ [((k : Int), partB (prt Q k))]) [] (by simp) hM hKn hndn
      have ef : drain (K.length + 1) (M : Int) (K ++ [((k : Int), partB (prt Q k))]) [] = drain (K.length + 1 + 1) (M : Int) (K ++ [((k : Int), partB (prt Q k))]) [] := drain_fuel (K.length + 1) (by simp) (Nat.le_refl _)
      rw [ef, e]
      refine ⟨m, K', rfl, by simp, h1, h2, fun p hp => ⟨(hKn p (h3 p hp).1).1, (h3 p hp).2⟩, h4, fun p hp => h5 p (by simp [hp]), ?_⟩
      rcases h5 ((k : Int), partB (prt Q k)) (by simp) with h | h
      · left; simp only at h; omega
      · exact .inr ⟨_, h, rfl⟩
end Go.AEX

/- Two ends: what holds of one way, step by step. -/
namespace Go.AEX
open Go Go.AE Go.Proofs
set_option maxRecDepth 100000
set_option linter.unusedVariables false
set_option linter.unusedSimpArgs false

structure Dir (S : List (List UInt8)) (A B : LS) (C : List (List UInt8)) (N M : Nat) : Prop where
  on : A.on = N
  ix : B.inx = M
  sz : ∀ s ∈ S, s.length ≤ 500
  cnt : S.length ≤ 10000
  ws : A.ws = (partsOf S).drop N
  le : N ≤ (partsOf S).length
  ol : ∀ x ∈ A.ol, It (partsOf S) N x
  sorted : A.ol.Pairwise fun x y => x.1 < y.1
  win : ∀ x ∈ A.ol, (N : Int) ≤ x.1 + 32
  im : ∀ p ∈ B.im, It (partsOf S) N p ∧ (M : Int) < p.1
  nd : (B.im.map (·.1)).Nodup
  un : ∀ k : Nat, M ≤ k → k < N → (∃ p ∈ B.im, p.1 = (k : Int)) ∨ ∃ x ∈ A.ol, x.1 = (k : Int)
  mle : M ≤ N
  cm : C = (allJ [] 0 ((partsOf S).take M)).1
  js : allS [] 0 ((partsOf S).take M) = (B.js, B.jn)
  car : B.car = C.length
theorem Dir.parts {S A B C N M} (h : Dir S A B C N M) : (partsOf S).length ≤ 40000 := by
  have := partsOf_len S (fun s hs => by have := h.sz s hs; omega)
  have := h.cnt
  omega
theorem Dir.small {S A B C N M} (h : Dir S A B C N M) : ∀ p ∈ partsOf S, p.2.length ≤ 200 := by
  intro p hp
  unfold partsOf at hp
  rw [List.mem_flatten] at hp
  obtain ⟨l, hl, hp⟩ := hp
  obtain ⟨s, hs, rfl⟩ := List.mem_map.1 hl
  exact cutP_small 2 s (by have := h.sz s hs; omega) p hp
theorem Dir.msgs {S A B C N M} (h : Dir S A B C N M) : allJ [] 0 (partsOf S) = (S, 0) := allJ_msgs S fun s hs => by have := h.sz s hs; omega
theorem Dir.pre {S A B C N M} (h : Dir S A B C N M) (m : Nat) : (allJ [] 0 ((partsOf S).take m)).2 = 0 := by
  apply allJ_pre _ ((partsOf S).drop m)
  rw [List.take_append_drop, h.msgs]
theorem Dir.rest {S A B C N M} (h : Dir S A B C N M) (m : Nat) : ∃ R, S = (allJ [] 0 ((partsOf S).take m)).1 ++ R := by
  have h1 := h.msgs
  have h2 := (allJ_app ((partsOf S).take m) ((partsOf S).drop m) [] 0 (h.pre m)).1
  rw [List.take_append_drop, h1] at h2
  exact ⟨_, congrArg Prod.fst h2⟩
theorem Dir.near {S A B C N M} (h : Dir S A B C N M) : N ≤ M + 32 := by
  rcases Nat.lt_or_ge M N with c | c
  · rcases h.un M (Nat.le_refl _) c with ⟨p, hp, e⟩ | ⟨x, hx, e⟩
    · have := (h.im p hp).2; omega
    · have := h.win x hx; omega
  · omega
theorem Dir.item {S A B C N M} (h : Dir S A B C N M) {x : Itm} (hx : It (partsOf S) N x) (tell : Bool) :
    ∃ (m : Nat) (B' : LS) (out : List (List UInt8)), itemF B x = (B', out) ∧ B' = { B with tell := true, inx := B'.inx, im := B'.im, js := B'.js, jn := B'.jn } ∧
      Dir S A { B' with car := B.car + out.length } (C ++ out) N m ∧ M ≤ m ∧ (∃ R, S = C ++ out ++ R) ∧ (∀ k : Nat, (k < M ∨ ∃ p ∈ B.im, p.1 = (k : Int)) → k < m ∨ ∃ p ∈ B'.im, p.1 = (k : Int)) ∧
      (x.1 < m ∨ ∃ p ∈ B'.im, p.1 = x.1) := by
  obtain ⟨k, hk, rfl⟩ := hx
  have hcp := h.parts
  have hle := h.le
  obtain ⟨m, K', e1, e2, h1, h2, h3, h4, h5, h6⟩ := put_it (Q := partsOf S) (N := N) (M := M) (k := k) (K := B.im) (by omega) hle h.mle hk h.near h.im h.nd
  have hpre := h.pre m
  have hsp : (partsOf S).take m = (partsOf S).take M ++ ((partsOf S).drop M).take (m - M) := by
    have := List.take_add (l := partsOf S) (i := M) (j := m - M)
    rw [show M + (m - M) = m by omega] at this
    exact this
  obtain ⟨a1, a2⟩ := allJ_app ((partsOf S).take M) (((partsOf S).drop M).take (m - M)) [] 0 (h.pre M)
  rw [h.js] at a1 a2
  simp only at a1 a2
  rw [← hsp] at a1 a2
  rw [a1] at hpre
  simp only at hpre
  have ht := takes_ok (((partsOf S).drop M).take (m - M)) (putL B ((k : Int), partB (prt (partsOf S) k))) (fun p hp => h.small p (List.mem_of_mem_drop (List.mem_of_mem_take hp))) hpre
  have hix := h.ix
  rw [← hix] at e1 e2
  refine ⟨m, { B with tell := true, inx := (m : Int), im := K', js := (allS B.js B.jn (((partsOf S).drop M).take (m - M))).1, jn := (allS B.js B.jn (((partsOf S).drop M).take (m - M))).2 }, (allJ B.js B.jn (((partsOf S).drop M).take (m - M))).1, ?_, rfl, ?_, h1, ?_, ?_, ?_⟩
  · unfold itemF
    rw [show (putW B.inx B.im ((k : Int), partB (prt (partsOf S) k)).1 ((k : Int), partB (prt (partsOf S) k)).2).2.1 = _ from e2, ht]
    simp only [putL, e1]
  · have hcm : C ++ (allJ B.js B.jn (((partsOf S).drop M).take (m - M))).1 = (allJ [] 0 ((partsOf S).take m)).1 := by rw [a1, h.cm]
    exact ⟨h.on, rfl, h.sz, h.cnt, h.ws, h.le, h.ol, h.sorted, h.win, h3, h4, fun j hj hj2 => by
      rcases h.un j (by omega) hj2 with ⟨p, hp, e⟩ | q
      · rcases h5 p hp with q | q
        · omega
        · exact .inl ⟨p, q, e⟩
      · exact .inr q, h2, hcm, a2, by simp only [List.length_append]; rw [h.car]; omega⟩
  · have hcm : C ++ (allJ B.js B.jn (((partsOf S).drop M).take (m - M))).1 = (allJ [] 0 ((partsOf S).take m)).1 := by rw [a1, h.cm]
    rw [hcm]
    exact h.rest m
  · rintro j (hj | ⟨p, hp, e⟩)
    · left; omega
    · rcases h5 p hp with q | q
      · left; omega
      · exact .inr ⟨p, q, e⟩
  · rcases h6 with q | q
    · left; simp only; omega
    · exact .inr q
theorem Dir.acked {S A B C N M} (h : Dir S A B C N M) (nx bits : Int) (T : List TE) (hv : ∀ k : Nat, k < N → hasW nx bits k = true → k < M ∨ ∃ p ∈ B.im, p.1 = (k : Int)) : Dir S { A with ol := leftW nx bits A.ol, tl := T } B C N M := by
  have hsub : ∀ x ∈ leftW nx bits A.ol, x ∈ A.ol := fun x hx => (List.mem_filter.1 hx).1
  refine ⟨h.on, h.ix, h.sz, h.cnt, h.ws, h.le, fun x hx => h.ol x (hsub x hx), h.sorted.sublist List.filter_sublist, fun x hx => h.win x (hsub x hx), h.im, h.nd, fun k hk hk2 => ?_, h.mle, h.cm, h.js, h.car⟩
  rcases h.un k hk hk2 with q | ⟨x, hx, e⟩
  · exact .inl q
  · cases hh : hasW nx bits k with
    | true =>
      rcases hv k hk2 hh with q | q
      · omega
      · exact .inl q
    | false =>
      refine .inr ⟨x, ?_, e⟩
      unfold leftW
      rw [List.mem_filter]
      exact ⟨hx, by rw [e, hh]; rfl⟩
theorem Dir.send {S A B C N M} (h : Dir S A B C N M) {t : List UInt8} (ht : t.length ≤ 500) (hc : S.length < 10000) : Dir (S ++ [t]) { A with ws := A.ws ++ cutP t } B C N M := by
  have hle := h.le
  have hm := h.mle
  have hp := partsOf_snoc S t
  have e1 : (partsOf (S ++ [t])).take M = (partsOf S).take M := by rw [hp, List.take_append_of_le_length (by omega)]
  refine ⟨h.on, h.ix, ?_, by simp; omega, ?_, by rw [hp, List.length_append]; omega, fun x hx => by rw [hp]; exact (h.ol x hx).more hle, h.sorted, h.win, fun p hq => ⟨by rw [hp]; exact (h.im p hq).1.more hle, (h.im p hq).2⟩, h.nd, h.un, h.mle, by rw [e1]; exact h.cm, by rw [e1]; exact h.js, h.car⟩
  · intro s hs
    rcases List.mem_append.1 hs with hs | hs
    · exact h.sz s hs
    · simp at hs; subst hs; exact ht
  · show A.ws ++ cutP t = _
    rw [h.ws, hp, List.drop_append_of_le_length (by omega)]
theorem Dir.same {S A B C N M} (h : Dir S A B C N M) {A' B' : LS} (a1 : A'.on = A.on) (a2 : A'.ws = A.ws) (a3 : A'.ol = A.ol) (b1 : B'.inx = B.inx) (b2 : B'.im = B.im) (b3 : B'.js = B.js) (b4 : B'.jn = B.jn) (b5 : B'.car = B.car) : Dir S A' B' C N M := by
  refine ⟨by rw [a1]; exact h.on, by rw [b1]; exact h.ix, h.sz, h.cnt, by rw [a2]; exact h.ws, h.le, by rw [a3]; exact h.ol, by rw [a3]; exact h.sorted, by rw [a3]; exact h.win, by rw [b2]; exact h.im, by rw [b2]; exact h.nd, by rw [a3, b2]; exact h.un, h.mle, h.cm, by rw [b3, b4]; exact h.js, by rw [b5]; exact h.car⟩
end Go.AEX

/- Two ends: what goes, what comes. -/
namespace Go.AEX
open Go Go.AE Go.Proofs
set_option maxRecDepth 100000
set_option linter.unusedVariables false
set_option linter.unusedSimpArgs false

theorem fdT_new {l : List TE} {n : Int} (h : ∀ e ∈ l, e.n ≠ n) : fdT l n < 0 := by
  unfold fdT idxH
  have : l.any (fun e => e.n == n) = false := by
    rw [List.any_eq_false]
    intro e he
    simpa using h e he
  rw [this]; simp
structure Fil (cf now : Int) (Q : List Part) (N : Nat) (ol : List Itm) (tl : List TE) (r : List Part × FS × List Itm) (N' : Nat) : Prop where
  ge : N ≤ N'
  le : N' ≤ Q.length
  ws : r.1 = Q.drop N'
  on : r.2.1.on = N'
  ol : r.2.1.ol = ol ++ r.2.2
  it : ∀ x ∈ r.2.2, ∃ k : Nat, N ≤ k ∧ k < N' ∧ x = ((k : Int), partB (prt Q k))
  all : ∀ k : Nat, N ≤ k → k < N' → ∃ x ∈ r.2.2, x.1 = (k : Int)
  sorted : r.2.1.ol.Pairwise fun x y => x.1 < y.1
  win : ∀ x ∈ r.2.1.ol, (N' : Int) ≤ x.1 + 32
  tl : r.2.1.tl = tl ++ r.2.2.map fun x => ⟨x.1, now + cf, cf, 0⟩
  full : r.1 = [] ∨ roomW r.2.1.on r.2.1.ol = false
theorem fill_it (cf now : Int) (Q : List Part) (hQ : Q.length ≤ 1000000) : ∀ (ws : List Part) (st : FS) (N : Nat), st.on = N → ws = Q.drop N → N ≤ Q.length → (∀ x ∈ st.ol, It Q N x) → (st.ol.Pairwise fun x y => x.1 < y.1) → (∀ x ∈ st.ol, (N : Int) ≤ x.1 + 32) →
    st.tl.map (·.n) = st.ol.map (·.1) → ∃ N', Fil cf now Q N st.ol st.tl (fillF cf now ws st) N'
  | [], st, N, hon, hws, hN, hol, hso, hwi, hnu => ⟨N, Nat.le_refl _, hN, hws, hon, by simp [fillF], by simp [fillF], fun k h1 h2 => by omega, hso, hwi, by simp [fillF], .inl rfl⟩
  | p :: ws, st, N, hon, hws, hN, hol, hso, hwi, hnu => by
    rw [fillF]
    have hlt : N < Q.length := by
      rcases Nat.lt_or_ge N Q.length with h | h
      · exact h
      · rw [List.drop_eq_nil_of_le h] at hws; cases hws
    have hd : Q.drop N = Q[N] :: Q.drop (N + 1) := List.drop_eq_getElem_cons hlt
    rw [hd] at hws
    obtain ⟨rfl, rfl⟩ := List.cons.inj hws
    have ep : prt Q N = Q[N] := by unfold prt; rw [List.getD_eq_getElem?_getD, List.getElem?_eq_getElem hlt]; rfl
    cases hr : roomW st.on st.ol with
    | false =>
      simp only [Bool.false_eq_true, if_false]
      exact ⟨N, Nat.le_refl _, hN, hd.symm, hon, by simp, by simp, fun k h1 h2 => by omega, hso, hwi, by simp, .inr hr⟩
    | true =>
      simp only [if_true]
      have hroom : ∀ x ∈ st.ol, (N : Int) < x.1 + 32 := by
        cases hc : st.ol with
        | nil => simp
        | cons x0 l =>
          rw [hc] at hr hso hol
          unfold roomW at hr
          simp only [decide_eq_true_eq] at hr
          have hx0 := (hol x0 (by simp)).rg
          have h0 : (N : Int) - x0.1 < 32 := by rw [hon] at hr; unfold u32 at hr; rw [iwrap_u32] at hr; omega
          intro x hx
          rcases List.mem_cons.1 hx with rfl | hx
          · omega
          · have := (List.pairwise_cons.1 hso).1 x hx; omega
      have hnew : fdT st.tl st.on < 0 := fdT_new fun e he h => by
        have : e.n ∈ st.ol.map (·.1) := by rw [← hnu]; exact List.mem_map.2 ⟨e, he, rfl⟩
        obtain ⟨x, hx, e2⟩ := List.mem_map.1 this
        have := (hol x hx).rg
        rw [h, hon] at e2; omega
      have hu : u32 (st.on + 1) = ((N + 1 : Nat) : Int) := by rw [hon]; unfold u32; rw [iwrap_u32]; omega
      have hst : startF cf now st.tl st.on = st.tl ++ [⟨st.on, now + cf, cf, 0⟩] := by unfold startF; rw [if_pos hnew]
      rw [hu, hst, hon]
      obtain ⟨N', f1, f2, f3, f4, f5, f6, f7, f8, f9, f10, f11⟩ := fill_it cf now Q hQ (Q.drop (N + 1)) ⟨((N + 1 : Nat) : Int), st.ol ++ [((N : Int), partB Q[N])], st.tl ++ [⟨(N : Int), now + cf, cf, 0⟩]⟩ (N + 1) rfl rfl (by omega)
        (fun x hx => by
          rcases List.mem_append.1 hx with hx | hx
          · exact (hol x hx).mono (by omega)
          · simp at hx; subst hx; exact ⟨N, by omega, by rw [ep]⟩)
        (by
          rw [List.pairwise_append]
          refine ⟨hso, by simp, fun x hx y hy => ?_⟩
          simp at hy; subst hy
          exact (hol x hx).rg.2)
        (fun x hx => by
          rcases List.mem_append.1 hx with hx | hx
          · have := hroom x hx; omega
          · simp at hx; subst hx; simp only; omega)
        (by simp [hnu])
      refine ⟨N', by omega, f2, f3, f4, by rw [f5]; simp, fun x hx => ?_, fun k h1 h2 => ?_, f8, f9, by rw [f10]; simp, f11⟩
      · rcases List.mem_cons.1 hx with rfl | hx
        · exact ⟨N, Nat.le_refl _, by omega, by rw [ep]⟩
        · obtain ⟨k, g1, g2, g3⟩ := f6 x hx; exact ⟨k, by omega, g2, g3⟩
      · by_cases c : k = N
        · subst c; exact ⟨_, List.mem_cons_self, rfl⟩
        · obtain ⟨x, hx, e⟩ := f7 k (by omega) h2; exact ⟨x, List.mem_cons_of_mem _ hx, e⟩
structure Tmr (A : LS) (now : Int) : Prop where
  cf : 1 ≤ A.cf ∧ A.cf ≤ A.cm ∧ A.cm ≤ 1000
  nums : A.tl.map (·.n) = A.ol.map (·.1)
  ti : ∀ e ∈ A.tl, (0 ≤ e.due ∧ e.due ≤ now + A.cm) ∧ (A.cf ≤ e.wait ∧ e.wait ≤ A.cm) ∧ (0 ≤ e.times ∧ e.times ≤ now)
theorem Tmr.acked {A : LS} {now : Int} (h : Tmr A now) (nx bits : Int) : Tmr { A with ol := leftW nx bits A.ol, tl := outL (toldW nx bits A.ol) A.tl } now := by
  refine ⟨h.cf, ?_, fun e he => h.ti e (List.mem_filter.1 he).1⟩
  show (outL (toldW nx bits A.ol) A.tl).map (·.n) = (leftW nx bits A.ol).map (·.1)
  unfold outL leftW
  have e1 : (A.tl.filter fun e => !decide (e.n ∈ toldW nx bits A.ol)).map (·.n) = (A.tl.map (·.n)).filter fun k => !decide (k ∈ toldW nx bits A.ol) := by rw [List.filter_map]; rfl
  have e2 : (A.ol.filter fun x => !hasW nx bits x.1).map (·.1) = (A.ol.map (·.1)).filter fun k => !hasW nx bits k := by rw [List.filter_map]; rfl
  rw [e1, e2, h.nums]
  apply List.filter_congr
  intro k hk
  obtain ⟨x, hx, rfl⟩ := List.mem_map.1 hk
  congr 1
  unfold toldW
  cases hh : hasW nx bits x.1 with
  | true => rw [decide_eq_true]; exact List.mem_map.2 ⟨x, List.mem_filter.2 ⟨hx, hh⟩, rfl⟩
  | false =>
    rw [decide_eq_false]
    intro hm
    obtain ⟨y, hy, e⟩ := List.mem_map.1 hm
    have := (List.mem_filter.1 hy).2
    rw [e, hh] at this; cases this
theorem Tmr.poll {A : LS} {now : Int} (h : Tmr A now) (hn : 0 ≤ now) {N N' : Nat} {Q : List Part} {r : List Part × FS × List Itm} (hf : Fil A.cf (now + 1) Q N A.ol (A.tl.map (updE A.cm (now + 1))) r N') (A' : LS) (a1 : A'.cf = A.cf) (a2 : A'.cm = A.cm) (a3 : A'.ol = r.2.1.ol) (a4 : A'.tl = r.2.1.tl) : Tmr A' (now + 1) := by
  have hc := h.cf
  refine ⟨by rw [a1, a2]; exact hc, ?_, ?_⟩
  · rw [a3, a4, hf.tl, hf.ol, List.map_append, List.map_append, List.map_map, List.map_map, ← h.nums]
    have e1 : ((fun e : TE => e.n) ∘ updE A.cm (now + 1)) = fun e : TE => e.n := by funext e; simp only [Function.comp, updE]; split <;> rfl
    rw [e1]; rfl
  · rw [a1, a2, a4, hf.tl]
    intro e he
    rcases List.mem_append.1 he with he | he
    · obtain ⟨e0, h0, rfl⟩ := List.mem_map.1 he
      obtain ⟨t1, t2, t3⟩ := h.ti e0 h0
      unfold updE
      split
      · simp only; omega
      · omega
    · obtain ⟨x, hx, rfl⟩ := List.mem_map.1 he
      simp only; omega
def Dg (Q : List Part) (N : Nat) (A : LS) (d : List UInt8) : Prop :=
  ∃ (nx bits : Nat) (l : List Itm), d = dgB nx bits l ∧ (nx : Int) ≤ A.inx ∧ nx < 1000000 ∧ bits < 4294967296 ∧ l.length ≤ 1 ∧ (∀ x ∈ l, It Q N x ∧ x.2.length ≤ 201) ∧
    (∀ k : Nat, k < 1000000 → hasW nx bits k = true → (k : Int) < A.inx ∨ ∃ p ∈ A.im, p.1 = (k : Int))
theorem kap1000 {n : Int} (h : 0 ≤ n ∧ n < 4294967296) : kap 1000 n = n := by rw [kap_eq]; omega
theorem has_got {M : Nat} {K : Ent} (hK : ∀ p ∈ K, (M : Int) < p.1 ∧ p.1 ≤ M + 32) (hnd : (K.map (·.1)).Nodup) (hM : M < 900000) (k : Nat) (hk : k < 1000000) :
    hasW M (bitsW M K 32 : Nat) k = true → ((k : Int) < M ∨ ∃ p ∈ K, p.1 = (k : Int)) := by
  have hw : WOk (M : Int) K := ⟨fun p hp => (hK p hp).1, fun p hp => (hK p hp).2, hnd⟩
  have e1 := bits_map (F := 1000) hw 32 (Nat.le_refl _)
  have eK : mapK 1000 K = K := by
    unfold mapK
    conv => rhs; rw [← List.map_id K]
    apply List.map_congr_left
    intro p hp
    have := hK p hp
    rw [kap1000 (by omega)]; rfl
  rw [kap1000 (by omega), eK] at e1
  rw [e1]
  have e2 := has_map 1000 M k (bitsR M K 32) (bitsR_lt _ _ 32) (by omega) (by omega)
  rw [kap1000 (by omega), kap1000 (by omega)] at e2
  rw [e2]
  by_cases c : (k : Int) ≤ M + 32
  · exact (hasR_iff M K hw k c).1
  · intro h
    unfold hasR at h
    rw [if_neg (by omega), if_pos (by omega)] at h
    cases h
end Go.AEX

/- Two ends: what holds of both, event by event. -/
namespace Go.AEX
open Go Go.AE Go.Proofs
set_option maxRecDepth 100000
set_option linter.unusedVariables false
set_option linter.unusedSimpArgs false

theorem allS_len : ∀ (l : List Part) (s : List UInt8) (n : Nat), s.length ≤ 65536 → n + l.length ≤ 900000 → (allS s n l).1.length ≤ 65536 ∧ (allS s n l).2 ≤ n + l.length
  | [], s, n, h, _ => by simp [allS]; exact h
  | p :: l, s, n, h, hn => by
    simp only [List.length_cons] at hn
    obtain ⟨q1, q2⟩ := putS_len s n p.1 p.2 h (by omega)
    simp only [allS]
    split
    · exact ⟨q1, by simp only [List.length_cons]; omega⟩
    · obtain ⟨r1, r2⟩ := allS_len l (putS s n p.1 p.2).1 (putS s n p.1 p.2).2 q1 (by omega)
      exact ⟨r1, by simp only [List.length_cons]; omega⟩
theorem prt_small {Q : List Part} (h : ∀ p ∈ Q, p.2.length ≤ 200) (k : Nat) : (prt Q k).2.length ≤ 200 := by
  unfold prt
  rw [List.getD_eq_getElem?_getD]
  cases hk : Q[k]? with
  | none => simp
  | some p => exact h p (List.mem_of_getElem? hk)
theorem partB_len (p : Part) : (partB p).length = p.2.length + 1 := by simp [partB]
theorem Dir.it_len {S A B C N M} (h : Dir S A B C N M) {x : Int × List UInt8} (hx : It (partsOf S) N x) : U32 x.1 ∧ x.2.length ≤ 201 := by
  have hp := h.parts
  have hl := h.le
  obtain ⟨k, hk, rfl⟩ := hx
  have := prt_small h.small k
  refine ⟨by unfold U32; simp only; omega, ?_⟩
  simp only [partB_len]; omega
theorem Dir.ol_len {S A B C N M} (h : Dir S A B C N M) : A.ol.length ≤ 32 := by
  have hnd : (A.ol.map (·.1)).Nodup := by
    rw [List.nodup_iff_pairwise_ne, List.pairwise_map]
    exact h.sorted.imp fun hxy e => by omega
  have := pigeon 32 (A.ol.map (·.1)) ((N : Int) - 33) hnd fun x hx => by
    obtain ⟨y, hy, rfl⟩ := List.mem_map.1 hx
    have h1 := h.win y hy
    have h2 := (h.ol y hy).rg
    omega
  simpa using this
theorem Dir.im_len {S A B C N M} (h : Dir S A B C N M) : B.im.length ≤ 32 := by
  have hn := h.near
  have := pigeon 32 (B.im.map (·.1)) M h.nd fun x hx => by
    obtain ⟨y, hy, rfl⟩ := List.mem_map.1 hx
    have h1 := h.im y hy
    have h2 := h1.1.rg
    omega
  simpa using this
structure Inv (E : Nat) (p : PS) (Na Mb Nb Ma : Nat) : Prop where
  ab : Dir p.s0 p.a p.b p.c1 Na Mb
  ba : Dir p.s1 p.b p.a p.c0 Nb Ma
  w1 : ∀ d ∈ p.w1, Dg (partsOf p.s0) Na p.a d
  w0 : ∀ d ∈ p.w0, Dg (partsOf p.s1) Nb p.b d
  l0 : p.w0.length ≤ 60
  l1 : p.w1.length ≤ 60
  ta : Tmr p.a p.now
  tb : Tmr p.b p.now
  wa : p.a.ws.length ≤ 700
  wb : p.b.ws.length ≤ 700
  now : 0 ≤ p.now ∧ p.now ≤ E
  bada : 0 ≤ p.a.bad ∧ p.a.bad ≤ E
  badb : 0 ≤ p.b.bad ∧ p.b.bad ≤ E
  sa : p.s0.length ≤ E
  sb : p.s1.length ≤ E
theorem Inv.swap {E : Nat} {p : PS} {Na Mb Nb Ma : Nat} (h : Inv E p Na Mb Nb Ma) : Inv E (sw p) Nb Ma Na Mb :=
  ⟨h.ba, h.ab, h.w0, h.w1, h.l1, h.l0, h.tb, h.ta, h.wb, h.wa, h.now, h.badb, h.bada, h.sb, h.sa⟩
theorem Inv.mono {E E' : Nat} {p : PS} {Na Mb Nb Ma : Nat} (h : Inv E p Na Mb Nb Ma) (he : E ≤ E') : Inv E' p Na Mb Nb Ma :=
  ⟨h.ab, h.ba, h.w1, h.w0, h.l0, h.l1, h.ta, h.tb, h.wa, h.wb, by have := h.now; omega, by have := h.bada; omega, by have := h.badb; omega, by have := h.sa; omega, by have := h.sb; omega⟩
theorem Inv.ok {E : Nat} {p : PS} {Na Mb Nb Ma : Nat} (h : Inv E p Na Mb Nb Ma) (he : E ≤ 5000) : LOk p.a ∧ RB 0 p.a 0 := by
  have hcf := h.ta.cf
  have hp := h.ab.parts
  have hp2 := h.ba.parts
  have hle := h.ab.le
  have hle2 := h.ba.le
  have hm2 := h.ba.mle
  have hol := h.ab.ol_len
  have him := h.ba.im_len
  have hnums := congrArg List.length h.ta.nums
  simp only [List.length_map] at hnums
  have hjs := allS_len ((partsOf p.s1).take Ma) [] 0 (by simp) (by rw [List.length_take]; omega)
  rw [h.ba.js] at hjs
  simp only [List.length_take] at hjs
  have hon := h.ab.on
  have hix := h.ba.ix
  have hwa := h.wa
  have hnow := h.now
  have hbad := h.bada
  have hcar := h.ba.car
  have hclen : p.c0.length ≤ 10000 := by
    obtain ⟨R, hR⟩ := h.ba.rest Ma
    rw [← h.ba.cm] at hR
    have h1 := congrArg List.length hR
    rw [List.length_append] at h1
    have := h.ba.cnt; omega
  have hmt : ∀ q ∈ p.a.im, q.2.length ≤ 10000 := fun q hq => by have := (h.ba.it_len (h.ba.im q hq).1).2; omega
  refine ⟨⟨by omega, by omega, by rw [hon]; unfold U32; omega, by rw [hix]; unfold U32; omega, by omega, by omega, by omega, by omega, fun x hx => ?_, fun q hq => ?_, fun e he => ?_, by omega, hmt⟩,
    ⟨by omega, by omega, by omega, by omega, hmt, Nat.le_refl _, by omega⟩⟩
  · have := h.ab.it_len (h.ab.ol x hx); exact ⟨this.1, by omega⟩
  · rw [h.ab.ws] at hq
    have := h.ab.small q (List.mem_of_mem_drop hq); omega
  · have := h.ta.ti e he
    omega
theorem Dg.len {Q : List Part} {N : Nat} {A : LS} {d : List UInt8} (h : Dg Q N A d) (hN : N ≤ 1000000) : 0 < d.length ∧ d.length ≤ 20000 := by
  obtain ⟨nx, bits, l, rfl, h1, h2, h3, h4, h5, h6⟩ := h
  refine ⟨?_, dgB_len nx bits l (by omega) (by omega) h4 fun x hx => ⟨?_, by have := (h5 x hx).2; omega⟩⟩
  · unfold dgB; rw [sealB_len]; omega
  · have := (h5 x hx).1.rg; unfold U32; omega
theorem Dg.says {Q : List Part} {N : Nat} {A : LS} {nx bits : Nat} {l : List Itm} (hN : N ≤ 1000000) (h2 : nx < 1000000) (h3 : bits < 4294967296) (h4 : l.length ≤ 1) (h5 : ∀ x ∈ l, It Q N x ∧ x.2.length ≤ 201) :
    linkP (dgB nx bits l) = (((nx : Int), (bits : Int)), l, 0) := by
  have := linkP_dg (nx : Int) bits l (by unfold U32; omega) h3 h4 fun x hx => ⟨by have := (h5 x hx).1.rg; unfold U32; omega, (h5 x hx).2⟩
  rwa [Int.toNat_natCast] at this
theorem Dg.mono {Q : List Part} {N N' : Nat} {A A' : LS} {d : List UInt8} (h : Dg Q N A d) (hn : N ≤ N') (hix : A.inx ≤ A'.inx) (hg : ∀ k : Nat, ((k : Int) < A.inx ∨ ∃ p ∈ A.im, p.1 = (k : Int)) → ((k : Int) < A'.inx ∨ ∃ p ∈ A'.im, p.1 = (k : Int))) : Dg Q N' A' d := by
  obtain ⟨nx, bits, l, rfl, h1, h2, h3, h4, h5, h6⟩ := h
  exact ⟨nx, bits, l, rfl, by omega, h2, h3, h4, fun x hx => ⟨(h5 x hx).1.mono hn, (h5 x hx).2⟩, fun k hk hh => hg k (h6 k hk hh)⟩
theorem Dg.more {Q R : List Part} {N : Nat} {A : LS} {d : List UInt8} (h : Dg Q N A d) (hq : N ≤ Q.length) : Dg (Q ++ R) N A d := by
  obtain ⟨nx, bits, l, rfl, h1, h2, h3, h4, h5, h6⟩ := h
  exact ⟨nx, bits, l, rfl, h1, h2, h3, h4, fun x hx => ⟨(h5 x hx).1.more hq, (h5 x hx).2⟩, h6⟩
theorem Inv.recv {E : Nat} {p : PS} {Na Mb Nb Ma : Nat} (h : Inv E p Na Mb Nb Ma) {d : List UInt8} (hd : Dg (partsOf p.s1) Nb p.b d) :
    ∃ Ma', Inv E (recv0 p d) Na Mb Nb Ma' ∧ (recvF p.a d).2.2 = 0 ∧ ∃ R, p.s1 = p.c0 ++ (recvF p.a d).2.1 ++ R := by
  have hp := h.ab.parts
  have hp2 := h.ba.parts
  have hle := h.ab.le
  have hle2 := h.ba.le
  obtain ⟨nx, bits, l, rfl, h1, h2, h3, h4, h5, h6⟩ := hd
  have hsay := Dg.says (A := p.b) (show Nb ≤ 1000000 by omega) h2 h3 h4 h5
  have hack : ackL p.a ((nx : Int), (bits : Int)) = { p.a with ol := leftW nx bits p.a.ol, tl := outL (toldW nx bits p.a.ol) p.a.tl } := by
    have hon := h.ab.on
    have hix := h.ab.ix
    have hml := h.ab.mle
    unfold ackL ackO ackN
    rw [if_neg (by unfold u32; rw [iwrap_u32]; omega), if_neg (by unfold u32; rw [iwrap_u32]; omega)]
  have hab := h.ab.acked nx bits (outL (toldW nx bits p.a.ol) p.a.tl) fun k hk hh => by
    have := h6 k (by omega) hh
    rw [h.ab.ix] at this
    rcases this with q | q
    · left; omega
    · exact .inr q
  have hta := h.ta.acked nx bits
  generalize hA1 : ({ p.a with ol := leftW nx bits p.a.ol, tl := outL (toldW nx bits p.a.ol) p.a.tl } : LS) = A1 at *
  have hA : p.a.inx = A1.inx ∧ p.a.im = A1.im ∧ p.a.js = A1.js ∧ p.a.jn = A1.jn ∧ p.a.car = A1.car ∧ p.a.ws = A1.ws ∧ p.a.bad = A1.bad := by rw [← hA1]; exact ⟨rfl, rfl, rfl, rfl, rfl, rfl, rfl⟩
  obtain ⟨i1, i2, i3, i4, i5, i6, i7⟩ := hA
  have hba := h.ba.same (A' := p.b) (B' := A1) rfl rfl rfl i1.symm i2.symm i3.symm i4.symm i5.symm
  have hr : recvF p.a (dgB nx bits l) = ({ (itemsF A1 l).1 with car := (itemsF A1 l).1.car + (itemsF A1 l).2.length }, (itemsF A1 l).2, 0) := by
    unfold recvF; rw [hsay]; simp only [hack]; rfl
  have hwa := h.wa
  have hbd := h.bada
  have key : ∃ (m : Nat) (B' : LS) (out : List (List UInt8)), itemsF A1 l = (B', out) ∧ B'.on = A1.on ∧ B'.ws = A1.ws ∧ B'.ol = A1.ol ∧ B'.tl = A1.tl ∧ B'.cf = A1.cf ∧ B'.cm = A1.cm ∧ B'.bad = A1.bad ∧ B'.car = A1.car ∧
      Dir p.s1 p.b { B' with car := A1.car + out.length } (p.c0 ++ out) Nb m ∧ Ma ≤ m ∧ (∃ R, p.s1 = p.c0 ++ out ++ R) ∧ (∀ k : Nat, (k < Ma ∨ ∃ q ∈ A1.im, q.1 = (k : Int)) → k < m ∨ ∃ q ∈ B'.im, q.1 = (k : Int)) := by
    clear hr hsay hack hab hta
    cases l with
    | nil =>
      refine ⟨Ma, A1, [], rfl, rfl, rfl, rfl, rfl, rfl, rfl, rfl, rfl, ?_, Nat.le_refl _, ?_, fun k hk => hk⟩
      · rw [List.append_nil]
        exact hba.same rfl rfl rfl rfl rfl rfl rfl (by simp)
      · obtain ⟨R, hR⟩ := h.ba.rest Ma
        rw [← h.ba.cm] at hR
        exact ⟨R, by rw [List.append_nil]; exact hR⟩
    | cons x l' =>
      have hl' : l' = [] := List.length_eq_zero_iff.1 (by simp only [List.length_cons] at h4; omega)
      subst hl'
      obtain ⟨m, B', out, e1, e2, e3, e4, e5, e6, e7⟩ := hba.item (h5 x (by simp)).1 true
      refine ⟨m, B', out, by simp only [itemsF, e1, List.append_nil], by rw [e2], by rw [e2], by rw [e2], by rw [e2], by rw [e2], by rw [e2], by rw [e2], by rw [e2], e3, e4, e5, e6⟩
  obtain ⟨m, B', out, e1, b1, b2, b3, b4, b5, b6, b7, b8, g1, g2, g3, g4⟩ := key
  rw [e1] at hr
  simp only at hr
  refine ⟨m, ?_, by rw [hr], by rw [hr]; exact g3⟩
  unfold recv0
  rw [hr]
  simp only
  refine ⟨hab.same b1 b2 b3 rfl rfl rfl rfl rfl, ?_, ?_, h.w0, h.l0, h.l1, ⟨?_, ?_, ?_⟩, h.tb, ?_, h.wb, h.now, ?_, h.badb, h.sa, h.sb⟩
  · exact g1.same rfl rfl rfl rfl rfl rfl rfl (by simp only; rw [b8])
  · intro e he
    refine (h.w1 e he).mono (Nat.le_refl _) ?_ ?_
    · have := g1.ix; have := h.ba.ix; simp only at *; omega
    · intro k hk
      have q1 := h.ba.ix
      have q2 := g1.ix
      simp only at q2 ⊢
      rw [q1, i2] at hk
      rw [q2]
      rcases g4 k (by rcases hk with hk | hk; exact .inl (by omega); exact .inr hk) with q | q
      · left; omega
      · exact .inr q
  · simp only; rw [b5, b6]; exact hta.cf
  · simp only; rw [b3, b4]; exact hta.nums
  · simp only; rw [b4, b5, b6]; exact hta.ti
  · simp only; rw [b2, ← i6]; exact hwa
  · simp only; rw [b7, ← i7]; exact hbd
end Go.AEX

/- Two ends: what holds of both, further events. -/
namespace Go.AEX
open Go Go.AE Go.Proofs
set_option maxRecDepth 100000
set_option linter.unusedVariables false
set_option linter.unusedSimpArgs false

theorem Inv.here {E : Nat} {p : PS} {Na Mb Nb Ma : Nat} (h : Inv E p Na Mb Nb Ma) : ∃ R, p.s1 = p.c0 ++ [] ++ R := by
  obtain ⟨R, hR⟩ := h.ba.rest Ma
  rw [← h.ba.cm] at hR
  exact ⟨R, by rw [List.append_nil]; exact hR⟩
theorem Inv.nothing {E : Nat} {p : PS} {Na Mb Nb Ma : Nat} (h : Inv E p Na Mb Nb Ma) {d : List UInt8} (hd : (linkP d).2.2 ≠ 0) :
    Inv (E + 1) (recv0 p d) Na Mb Nb Ma ∧ ∃ R, p.s1 = p.c0 ++ (recvF p.a d).2.1 ++ R := by
  have hr : recvF p.a d = ({ p.a with bad := p.a.bad + 1 }, [], (linkP d).2.2) := by unfold recvF; rw [if_pos hd]
  unfold recv0
  rw [hr]
  simp only
  have hm := h.mono (Nat.le_succ E)
  have hb := h.bada
  refine ⟨⟨h.ab.same rfl rfl rfl rfl rfl rfl rfl rfl, ?_, fun e he => (h.w1 e he).mono (Nat.le_refl _) (Int.le_refl _) fun k hk => hk, hm.w0, hm.l0, hm.l1, ⟨h.ta.cf, h.ta.nums, h.ta.ti⟩, hm.tb, hm.wa, hm.wb, hm.now, ?_, hm.badb, hm.sa, hm.sb⟩, h.here⟩
  · rw [List.append_nil]
    exact h.ba.same rfl rfl rfl rfl rfl rfl rfl rfl
  · simp only; omega
theorem Inv.send {E : Nat} {p : PS} {Na Mb Nb Ma : Nat} (h : Inv E p Na Mb Nb Ma) {t : List UInt8} (ht : t.length ≤ 500) (he : E ≤ 5000) : Inv (E + 1) (send0 p t) Na Mb Nb Ma := by
  have hm := h.mono (Nat.le_succ E)
  unfold send0
  split
  · rename_i c
    have hs := h.sa
    refine ⟨h.ab.send ht (by omega), h.ba.same rfl rfl rfl rfl rfl rfl rfl rfl, ?_, hm.w0, hm.l0, hm.l1, ⟨h.ta.cf, h.ta.nums, h.ta.ti⟩, hm.tb, ?_, hm.wb, hm.now, hm.bada, hm.badb, ?_, hm.sb⟩
    · intro d hd
      simp only
      rw [partsOf_snoc]
      exact ((h.w1 d hd).mono (A' := { p.a with ws := p.a.ws ++ cutP t }) (Nat.le_refl _) (Int.le_refl _) fun k hk => hk).more h.ab.le
    · simp only [List.length_append]; exact c
    · simp; omega
  · exact hm
theorem Inv.way {E : Nat} {p : PS} {Na Mb Nb Ma : Nat} (h : Inv E p Na Mb Nb Ma) {w : List (List UInt8)} (hw : ∀ d ∈ w, d ∈ p.w0) (hl : w.length ≤ 60) : Inv E { p with w0 := w } Na Mb Nb Ma :=
  ⟨h.ab, h.ba, h.w1, fun d hd => h.w0 d (hw d hd), hl, h.l1, h.ta, h.tb, h.wa, h.wb, h.now, h.bada, h.badb, h.sa, h.sb⟩
theorem addW_mem {d : List UInt8} : ∀ {o w : List (List UInt8)}, d ∈ addW w o → d ∈ w ∨ d ∈ o
  | [], w, h => .inl h
  | x :: o, w, h => by
    rw [addW] at h
    rcases addW_mem h with h | h
    · split at h
      · rcases List.mem_append.1 h with h | h
        · exact .inl h
        · simp at h; subst h; exact .inr (by simp)
      · exact .inl h
    · exact .inr (by simp [h])
theorem poll_dir {S A B C N M S' C' N' M'} {now : Int} (hab : Dir S A B C N M) (hba : Dir S' B A C' N' M') (ht : Tmr A now) (hn : 0 ≤ now) :
    ∃ N2, N ≤ N2 ∧ Dir S (pollF A (now + 1)).1 B C N2 M ∧ Dir S' B (pollF A (now + 1)).1 C' N' M' ∧ Tmr (pollF A (now + 1)).1 (now + 1) ∧ (pollF A (now + 1)).1.ws.length ≤ A.ws.length ∧ (pollF A (now + 1)).1.bad = A.bad ∧
      (pollF A (now + 1)).1.inx = A.inx ∧ (pollF A (now + 1)).1.im = A.im ∧ ∀ d ∈ (pollF A (now + 1)).2, Dg (partsOf S) N2 (pollF A (now + 1)).1 d := by
  have hp := hab.parts
  have hp2 := hba.parts
  have hle2 := hba.le
  have hm2 := hba.mle
  have hnr2 := hba.near
  obtain ⟨N2, F⟩ := fill_it A.cf (now + 1) (partsOf S) (by omega) A.ws ⟨A.on, A.ol, A.tl.map (updE A.cm (now + 1))⟩ N hab.on hab.ws hab.le hab.ol hab.sorted hab.win (by
    simp only [List.map_map, ← ht.nums]
    apply List.map_congr_left
    intro e _
    simp only [Function.comp, updE]; split <;> rfl)
  have hT : fillF A.cf (now + 1) A.ws ⟨A.on, A.ol, A.tl.map (updE A.cm (now + 1))⟩ = pollT A (now + 1) := rfl
  rw [hT] at F
  simp only at F
  have h1 : Dir S (pollF A (now + 1)).1 B C N2 M := by
    refine ⟨F.on, hab.ix, hab.sz, hab.cnt, F.ws, F.le, fun x hx => ?_, F.sorted, F.win, fun q hq => ⟨(hab.im q hq).1.mono F.ge, (hab.im q hq).2⟩, hab.nd, fun k hk hk2 => ?_, by have := hab.mle; have := F.ge; omega, hab.cm, hab.js, hab.car⟩
    · have hx : x ∈ (pollT A (now + 1)).2.1.ol := hx
      rw [F.ol] at hx
      rcases List.mem_append.1 hx with hx | hx
      · exact (hab.ol x hx).mono F.ge
      · obtain ⟨k, _, q2, q3⟩ := F.it x hx; exact ⟨k, q2, q3⟩
    · show _ ∨ ∃ x ∈ (pollT A (now + 1)).2.1.ol, _
      rw [F.ol]
      rcases Nat.lt_or_ge k N with c | c
      · rcases hab.un k hk c with q | ⟨x, hx, e⟩
        · exact .inl q
        · exact .inr ⟨x, by simp [hx], e⟩
      · obtain ⟨x, hx, e⟩ := F.all k c hk2
        exact .inr ⟨x, by simp [hx], e⟩
  refine ⟨N2, F.ge, h1, hba.same rfl rfl rfl rfl rfl rfl rfl rfl, ht.poll hn F _ rfl rfl rfl rfl, ?_, rfl, rfl, rfl, ?_⟩
  · show (pollT A (now + 1)).1.length ≤ _
    rw [F.ws, hab.ws, List.length_drop, List.length_drop]
    have := F.ge; omega
  · have hix := hba.ix
    have hone : ∀ l : List Itm, l.length ≤ 1 → (∀ x ∈ l, It (partsOf S) N2 x) → Dg (partsOf S) N2 (pollF A (now + 1)).1 (dgL A l) := by
      intro l hl hi
      have hb := bitsW_lt A.inx A.im 32
      refine ⟨M', bitsW A.inx A.im 32, l, ?_, ?_, by omega, by omega, hl, fun x hx => ⟨hi x hx, (h1.it_len (hi x hx)).2⟩, fun k hk hh => ?_⟩
      · unfold dgL; rw [hix]; rfl
      · show (M' : Int) ≤ A.inx; omega
      · show (k : Int) < A.inx ∨ ∃ q ∈ A.im, q.1 = (k : Int)
        rw [hix] at hh ⊢
        exact has_got (fun q hq => by
          have := hba.im q hq
          have := this.1.rg
          omega) hba.nd (by omega) k hk hh
    intro d hd
    have hd : d ∈ (if A.tell = true ∧ (pollO A (now + 1)).length = 0 then [dgL A []] else pollO A (now + 1)) := hd
    split at hd
    · simp at hd; subst hd; exact hone [] (by simp) (by simp)
    · unfold pollO at hd
      rcases List.mem_append.1 hd with hd | hd
      · obtain ⟨x, hx, rfl⟩ := List.mem_map.1 hd
        refine hone [x] (by simp) fun z hz => ?_
        simp at hz; subst hz
        exact (hab.ol _ (List.mem_filter.1 hx).1).mono F.ge
      · obtain ⟨x, hx, rfl⟩ := List.mem_map.1 hd
        refine hone [x] (by simp) fun z hz => ?_
        simp at hz; subst hz
        obtain ⟨k, _, q2, q3⟩ := F.it _ hx; exact ⟨k, q2, q3⟩
theorem Inv.tick {E : Nat} {p : PS} {Na Mb Nb Ma : Nat} (h : Inv E p Na Mb Nb Ma) : ∃ Na' Nb', Inv (E + 1) (pollP p) Na' Mb Nb' Ma := by
  have hn := h.now
  obtain ⟨Na', g0, g1, g2, g3, g4, g5, g6, g7, g8⟩ := poll_dir h.ab h.ba h.ta hn.1
  obtain ⟨Nb', k0, k1, k2, k3, k4, k5, k6, k7, k8⟩ := poll_dir g2 g1 h.tb hn.1
  have hm := h.mono (Nat.le_succ E)
  refine ⟨Na', Nb', ?_⟩
  have e : pollP p = { p with now := p.now + 1, a := (pollF p.a (p.now + 1)).1, w1 := addW p.w1 (pollF p.a (p.now + 1)).2, b := (pollF p.b (p.now + 1)).1, w0 := addW p.w0 (pollF p.b (p.now + 1)).2 } := rfl
  rw [e]
  have l0 := addW_len (pollF p.b (p.now + 1)).2 p.w0
  have l1 := addW_len (pollF p.a (p.now + 1)).2 p.w1
  have h0 := h.l0
  have h1 := h.l1
  have hwa := h.wa
  have hwb := h.wb
  refine ⟨k2, k1, fun d hd => ?_, fun d hd => ?_, by simp only; omega, by simp only; omega, g3, k3, by simp only; omega, by simp only; omega, by simp only; omega, by simp only; rw [g5]; exact hm.bada, by simp only; rw [k5]; exact hm.badb, hm.sa, hm.sb⟩
  · rcases addW_mem hd with hd | hd
    · exact (h.w1 d hd).mono g0 (by rw [g6]; exact Int.le_refl _) fun k hk => by rw [g6, g7]; exact hk
    · exact g8 d hd
  · rcases addW_mem hd with hd | hd
    · exact (h.w0 d hd).mono k0 (by rw [k6]; exact Int.le_refl _) fun k hk => by rw [k6, k7]; exact hk
    · exact k8 d hd
theorem ixW_lt (n : Int) {k : Nat} (h : 0 < k) : ixW n k < k := Nat.mod_lt _ h
theorem atW_mem {w : List (List UInt8)} (n : Int) (h : 0 < w.length) : atW w n ∈ w := by
  unfold atW
  rw [List.getD_eq_getElem?_getD, List.getElem?_eq_getElem (ixW_lt n h)]
  exact List.getElem_mem _
theorem delW_mem {w : List (List UInt8)} {n : Int} {d : List UInt8} (h : d ∈ delW w n) : d ∈ w := by
  unfold delW at h
  rcases List.mem_append.1 h with h | h
  · exact List.mem_of_mem_take h
  · exact List.mem_of_mem_drop h
theorem delW_len (w : List (List UInt8)) (n : Int) : (delW w n).length ≤ w.length := by
  unfold delW; rw [List.length_append, List.length_take, List.length_drop]; omega
theorem bend_bad {Q : List Part} {N : Nat} {A : LS} {d : List UInt8} (h : Dg Q N A d) (n : Int) (y : UInt8) : bendD d n y = d ∨ (linkP (bendD d n y)).2.2 ≠ 0 := by
  obtain ⟨nx, bits, l, rfl, _⟩ := h
  unfold dgB
  generalize ([] ++ numsB [nx, bits] ++ numsB ([(l.length : Int)].map posN) ++ itsB l) = S
  have hl : 0 < (sealB S).length := by rw [sealB_len]; omega
  have hj := ixW_lt n hl
  unfold bendD
  rw [List.getD_eq_getElem?_getD, List.getElem?_eq_getElem hj]
  simp only [Option.getD_some]
  by_cases c : y = 0
  · left
    rw [c, UInt8.xor_zero, List.set_getElem_self]
  · right
    obtain ⟨_, q⟩ := bent S _ hj ((sealB S)[ixW n (sealB S).length] ^^^ y) (xor_ne c)
    unfold linkP
    rcases q with q | ⟨_, q⟩ <;> rw [q] <;> simp
end Go.AEX

/- Two ends: any event. -/
namespace Go.AEX
open Go Go.AE Go.Proofs
set_option maxRecDepth 100000
set_option linter.unusedVariables false
set_option linter.unusedSimpArgs false

structure Act where
  kind : Int
  who : Int
  n : Int
  at' : Int
  y : UInt8
  s : List UInt8
abbrev actV (x : Act) : AV := .agg [.int .i64 x.kind, .int .i64 x.who, .int .i64 x.n, .int .i64 x.at', .int .u8 x.y.toNat, .str x.s]
theorem send1_eq (p : PS) (t : List UInt8) : send1 p t = sw (send0 (sw p) t) := by unfold send1 send0 sw; split <;> rfl
def does0 (p : PS) (x : Act) : PS :=
  if x.kind = 1 then send0 p (x.s.take 500) else if x.kind = 2 then pollP p else
  if x.kind = 7 then (if (refP (x.s.take 60)).2 = 0 then p else recv0 p (x.s.take 60)) else
  if x.kind < 3 ∨ 6 < x.kind ∨ p.w0.length = 0 then p else
  if x.kind = 3 then recv0 { p with w0 := delW p.w0 x.n } (atW p.w0 x.n) else
  if x.kind = 4 then { p with w0 := delW p.w0 x.n } else
  if x.kind = 5 then recv0 p (atW p.w0 x.n) else
  recv0 { p with w0 := delW p.w0 x.n } (bendD (atW p.w0 x.n) x.at' x.y)
set_option maxHeartbeats 4000000 in
theorem does0_spec {E : Nat} {p : PS} {Na Mb Nb Ma : Nat} (h : Inv E p Na Mb Nb Ma) (he : E ≤ 4000) (x : Act) (hw : ibits .and .i64 x.who 1 = 0) :
    Tri Try.prog 9 [.pbox 0 0, actV x] (pN p) (fun v m => v = .bool true ∧ m = pN2 (does0 p x)) ∧ ∃ Na' Mb' Nb' Ma', Inv (E + 1) (does0 p x) Na' Mb' Nb' Ma' := by
  have hz := h
  obtain ⟨ok, rb⟩ := hz.ok (by omega)
  have hsz := hz.sb
  have hsz2 := hz.sa
  have hl0 := hz.l0
  have hwz := hz.wa
  have hnow := h.now
  have hm := h.mono (Nat.le_succ E)
  have hNb : (Nb : Nat) ≤ 1000000 := by have := hz.ba.le; have := hz.ba.parts; omega
  obtain ⟨kind, who, n, at', y, s⟩ := x
  simp only at hw ⊢
  unfold does0
  simp only
  by_cases k1 : kind = 1
  · subst k1
    rw [if_pos rfl]
    have q := hz.send (t := s.take 500) (by rw [List.length_take]; omega) (by omega)
    exact ⟨pdo1_0 p who n at' y s hw hwz (by omega), Na, Mb, Nb, Ma, q⟩
  rw [if_neg k1]
  by_cases k2 : kind = 2
  · subst k2
    rw [if_pos rfl]
    obtain ⟨Na', Nb', q⟩ := h.tick
    exact ⟨pdo2_0 p who n at' y s hw (h.ok (by omega)).1 (h.swap.ok (by omega)).1 (by omega), _, _, _, _, q⟩
  rw [if_neg k2]
  by_cases k7 : kind = 7
  · subst k7
    rw [if_pos rfl]
    by_cases c : (refP (s.take 60)).2 = 0
    · rw [if_pos c]
      exact ⟨pdo7n_0 p who n at' y s hw c, _, _, _, _, hm⟩
    · rw [if_neg c]
      have c2 : (linkP (s.take 60)).2.2 ≠ 0 := by rw [← refP_link]; exact c
      obtain ⟨q, R, hR⟩ := hz.nothing c2
      exact ⟨pdo7_0 p who n at' y s hw c ok (by rw [List.length_take]; omega) rb R hR (by omega), _, _, _, _, q⟩
  rw [if_neg k7]
  by_cases c0 : kind < 3 ∨ 6 < kind ∨ p.w0.length = 0
  · rw [if_pos c0]
    refine ⟨?_, _, _, _, _, hm⟩
    by_cases c1 : kind < 3
    · exact pdoL_0 p kind who n at' y s hw ⟨k1, k2, c1⟩
    · by_cases c2 : 6 < kind
      · exact pdoH_0 p kind who n at' y s hw ⟨k7, c2⟩
      · exact pdoE_0 p kind who n at' y s hw (by omega) (by omega)
  rw [if_neg c0]
  have h0 : 0 < p.w0.length := by omega
  have hmem := atW_mem n h0
  have hdg := hz.w0 _ hmem
  have hdl := Dg.len hdg hNb
  have hway := hz.way (w := delW p.w0 n) (fun d hd => delW_mem hd) (by have := delW_len p.w0 n; omega)
  by_cases k3 : kind = 3
  · subst k3
    rw [if_pos rfl]
    obtain ⟨Ma', q, _, R, hR⟩ := hway.recv hdg
    replace q := q.mono (Nat.le_succ E)
    exact ⟨pdo3_0 p who n at' y s hw h0 (by omega) ok (by omega) rb R hR (by omega), _, _, _, _, q⟩
  rw [if_neg k3]
  by_cases k4 : kind = 4
  · subst k4
    rw [if_pos rfl]
    replace hway := hway.mono (Nat.le_succ E)
    exact ⟨pdo4_0 p who n at' y s hw h0 (by omega), _, _, _, _, hway⟩
  rw [if_neg k4]
  by_cases k5 : kind = 5
  · subst k5
    rw [if_pos rfl]
    obtain ⟨Ma', q, _, R, hR⟩ := hz.recv hdg
    replace q := q.mono (Nat.le_succ E)
    exact ⟨pdo5_0 p who n at' y s hw h0 (by omega) ok (by omega) rb R hR (by omega), _, _, _, _, q⟩
  rw [if_neg k5]
  have k6 : kind = 6 := by omega
  subst k6
  have hbl : (bendD (atW p.w0 n) at' y).length ≤ 1000000 := by unfold bendD; rw [List.length_set]; omega
  rcases bend_bad hdg at' y with e | e
  · rw [← e] at hdg
    obtain ⟨Ma', q, _, R, hR⟩ := hway.recv hdg
    replace q := q.mono (Nat.le_succ E)
    exact ⟨pdo6_0 p who n at' y s hw h0 (by omega) hdl.1 ok hbl rb R hR (by omega), _, _, _, _, q⟩
  · obtain ⟨q, R, hR⟩ := hway.nothing e
    exact ⟨pdo6_0 p who n at' y s hw h0 (by omega) hdl.1 ok hbl rb R hR (by omega), _, _, _, _, q⟩
def does1 (p : PS) (x : Act) : PS :=
  if x.kind = 1 then send1 p (x.s.take 500) else if x.kind = 2 then pollP p else
  if x.kind = 7 then (if (refP (x.s.take 60)).2 = 0 then p else recv1 p (x.s.take 60)) else
  if x.kind < 3 ∨ 6 < x.kind ∨ p.w1.length = 0 then p else
  if x.kind = 3 then recv1 { p with w1 := delW p.w1 x.n } (atW p.w1 x.n) else
  if x.kind = 4 then { p with w1 := delW p.w1 x.n } else
  if x.kind = 5 then recv1 p (atW p.w1 x.n) else
  recv1 { p with w1 := delW p.w1 x.n } (bendD (atW p.w1 x.n) x.at' x.y)
set_option maxHeartbeats 4000000 in
theorem does1_spec {E : Nat} {p : PS} {Na Mb Nb Ma : Nat} (h : Inv E p Na Mb Nb Ma) (he : E ≤ 4000) (x : Act) (hw : ibits .and .i64 x.who 1 = 1) :
    Tri Try.prog 9 [.pbox 0 0, actV x] (pN p) (fun v m => v = .bool true ∧ m = pN2 (does1 p x)) ∧ ∃ Na' Mb' Nb' Ma', Inv (E + 1) (does1 p x) Na' Mb' Nb' Ma' := by
  have hz := h.swap
  obtain ⟨ok, rb⟩ := hz.ok (by omega)
  have hsz := hz.sb
  have hsz2 := hz.sa
  have hl0 := hz.l0
  have hwz := hz.wa
  have hnow := h.now
  have hm := h.mono (Nat.le_succ E)
  have hNb : (Na : Nat) ≤ 1000000 := by have := hz.ba.le; have := hz.ba.parts; omega
  simp only [sw] at hz ok rb hsz hsz2 hl0 hwz
  obtain ⟨kind, who, n, at', y, s⟩ := x
  simp only at hw ⊢
  unfold does1
  simp only
  by_cases k1 : kind = 1
  · subst k1
    rw [if_pos rfl]
    have q := hz.send (t := s.take 500) (by rw [List.length_take]; omega) (by omega)
    exact ⟨pdo1_1 p who n at' y s hw hwz (by omega), Na, Mb, Nb, Ma, by rw [send1_eq]; exact q.swap⟩
  rw [if_neg k1]
  by_cases k2 : kind = 2
  · subst k2
    rw [if_pos rfl]
    obtain ⟨Na', Nb', q⟩ := h.tick
    exact ⟨pdo2_1 p who n at' y s hw (h.ok (by omega)).1 (h.swap.ok (by omega)).1 (by omega), _, _, _, _, q⟩
  rw [if_neg k2]
  by_cases k7 : kind = 7
  · subst k7
    rw [if_pos rfl]
    by_cases c : (refP (s.take 60)).2 = 0
    · rw [if_pos c]
      exact ⟨pdo7n_1 p who n at' y s hw c, _, _, _, _, hm⟩
    · rw [if_neg c]
      have c2 : (linkP (s.take 60)).2.2 ≠ 0 := by rw [← refP_link]; exact c
      obtain ⟨q, R, hR⟩ := hz.nothing c2
      exact ⟨pdo7_1 p who n at' y s hw c ok (by rw [List.length_take]; omega) rb R hR (by omega), _, _, _, _, q.swap⟩
  rw [if_neg k7]
  by_cases c0 : kind < 3 ∨ 6 < kind ∨ p.w1.length = 0
  · rw [if_pos c0]
    refine ⟨?_, _, _, _, _, hm⟩
    by_cases c1 : kind < 3
    · exact pdoL_1 p kind who n at' y s hw ⟨k1, k2, c1⟩
    · by_cases c2 : 6 < kind
      · exact pdoH_1 p kind who n at' y s hw ⟨k7, c2⟩
      · exact pdoE_1 p kind who n at' y s hw (by omega) (by omega)
  rw [if_neg c0]
  have h0 : 0 < p.w1.length := by omega
  have hmem := atW_mem n h0
  have hdg := hz.w0 _ hmem
  have hdl := Dg.len hdg hNb
  have hway := hz.way (w := delW p.w1 n) (fun d hd => delW_mem hd) (by have := delW_len p.w1 n; omega)
  by_cases k3 : kind = 3
  · subst k3
    rw [if_pos rfl]
    obtain ⟨Ma', q, _, R, hR⟩ := hway.recv hdg
    replace q := q.mono (Nat.le_succ E)
    exact ⟨pdo3_1 p who n at' y s hw h0 (by omega) ok (by omega) rb R hR (by omega), _, _, _, _, q.swap⟩
  rw [if_neg k3]
  by_cases k4 : kind = 4
  · subst k4
    rw [if_pos rfl]
    replace hway := hway.mono (Nat.le_succ E)
    exact ⟨pdo4_1 p who n at' y s hw h0 (by omega), _, _, _, _, hway.swap⟩
  rw [if_neg k4]
  by_cases k5 : kind = 5
  · subst k5
    rw [if_pos rfl]
    obtain ⟨Ma', q, _, R, hR⟩ := hz.recv hdg
    replace q := q.mono (Nat.le_succ E)
    exact ⟨pdo5_1 p who n at' y s hw h0 (by omega) ok (by omega) rb R hR (by omega), _, _, _, _, q.swap⟩
  rw [if_neg k5]
  have k6 : kind = 6 := by omega
  subst k6
  have hbl : (bendD (atW p.w1 n) at' y).length ≤ 1000000 := by unfold bendD; rw [List.length_set]; omega
  rcases bend_bad hdg at' y with e | e
  · rw [← e] at hdg
    obtain ⟨Ma', q, _, R, hR⟩ := hway.recv hdg
    replace q := q.mono (Nat.le_succ E)
    exact ⟨pdo6_1 p who n at' y s hw h0 (by omega) hdl.1 ok hbl rb R hR (by omega), _, _, _, _, q.swap⟩
  · obtain ⟨q, R, hR⟩ := hway.nothing e
    exact ⟨pdo6_1 p who n at' y s hw h0 (by omega) hdl.1 ok hbl rb R hR (by omega), _, _, _, _, q.swap⟩
def doesF (p : PS) (x : Act) : PS := if ibits .and .i64 x.who 1 = 0 then does0 p x else does1 p x
theorem does_spec {E : Nat} {p : PS} {Na Mb Nb Ma : Nat} (h : Inv E p Na Mb Nb Ma) (he : E ≤ 4000) (x : Act) :
    Tri Try.prog 9 [.pbox 0 0, actV x] (pN p) (fun v m => v = .bool true ∧ m = pN2 (doesF p x)) ∧ ∃ Na' Mb' Nb' Ma', Inv (E + 1) (doesF p x) Na' Mb' Nb' Ma' := by
  obtain ⟨j, hj, hj2⟩ := and_i64 x.who (k := 1) (by decide)
  have hj : ibits .and .i64 x.who 1 = (j : Int) := hj
  unfold doesF
  by_cases c : j = 0
  · subst c
    have hj : ibits .and .i64 x.who 1 = 0 := hj
    rw [if_pos hj]
    exact does0_spec h he x hj
  · have : j = 1 := by omega
    subst this
    have hj : ibits .and .i64 x.who 1 = 1 := hj
    rw [if_neg (by rw [hj]; decide)]
    exact does1_spec h he x hj
end Go.AEX

/- Link: ORDER: the messages that come out are those that were sent, in their order, each once. -/
namespace Go.AEX
open Go Go.AE Go.Proofs
set_option maxRecDepth 100000
set_option linter.unusedVariables false
set_option linter.unusedSimpArgs false

def arow (a : Act) : List AV := [.int .i64 a.kind, .int .i64 a.who, .int .i64 a.n, .int .i64 a.at', .int .u8 a.y.toNat, .str a.s]
theorem act_row {x : List AV} (h : HasL [.int .i64, .int .i64, .int .i64, .int .i64, .int .u8, .str] x) : ∃ a : Act, x = arow a := by
  simp only [HasL, Has] at h
  obtain ⟨_, _, rfl, ⟨k, rfl, _⟩, _, _, rfl, ⟨b, rfl, _⟩, _, _, rfl, ⟨c, rfl, _⟩, _, _, rfl, ⟨d, rfl, _⟩, _, _, rfl, ⟨f, rfl, hf⟩, _, _, rfl, ⟨s, rfl, _⟩, rfl⟩ := h
  obtain ⟨f, rfl⟩ := wf_u8 hf
  exact ⟨⟨k, b, c, d, f, s⟩, rfl⟩
theorem dir0 : Dir [] LS0 LS0 [] 0 0 := by
  refine ⟨rfl, rfl, by simp, by simp, rfl, by simp, by simp [LS0], by simp [LS0], by simp [LS0], by simp [LS0], by simp [LS0], fun k h1 h2 => by omega, Nat.le_refl _, rfl, rfl, rfl⟩
theorem tmr0 : Tmr LS0 0 := ⟨by decide, rfl, by simp [LS0]⟩
theorem inv0 : Inv 0 PS0 0 0 0 0 :=
  ⟨dir0, dir0, by simp [PS0], by simp [PS0], by simp [PS0], by simp [PS0], tmr0, tmr0, by decide, by decide, by decide, by decide, by decide, by decide, by decide⟩
theorem hawk_spec : Tri Try.prog 8 [] [] (fun v m => v = .bool true ∧ m = []) := by
  refine Tri.post (lawake_spec.mono ?_)
  rintro v m rfl
  exact ⟨_, [], .sub [] (by simp [EmbV, go_sem]) .done, rfl, rfl⟩
end Go.AEX

/- Link: LIVE: rounds in which all that goes comes. -/
namespace Go.AEX
open Go Go.AE Go.Proofs
set_option maxRecDepth 100000
set_option linter.unusedVariables false
set_option linter.unusedSimpArgs false

def got (B : LS) (k : Int) : Prop := k < B.inx ∨ ∃ p ∈ B.im, p.1 = k
structure Keep (s s' : LS) : Prop where
  on : s'.on = s.on
  ol : s'.ol = s.ol
  tl : s'.tl = s.tl
  ws : s'.ws = s.ws
  cm : s'.cm = s.cm
  tell : s.tell = true → s'.tell = true
theorem Keep.refl (s : LS) : Keep s s := ⟨rfl, rfl, rfl, rfl, rfl, id⟩
theorem Keep.trans {a b c : LS} (h : Keep a b) (h' : Keep b c) : Keep a c :=
  ⟨h'.on.trans h.on, h'.ol.trans h.ol, h'.tl.trans h.tl, h'.ws.trans h.ws, h'.cm.trans h.cm, fun t => h'.tell (h.tell t)⟩
theorem takeF_keep (s : LS) (t : List UInt8) : Keep s (takeF s t).1 := by
  unfold takeF
  split
  · exact ⟨rfl, rfl, rfl, rfl, rfl, id⟩
  split
  · exact ⟨rfl, rfl, rfl, rfl, rfl, id⟩
  · exact ⟨rfl, rfl, rfl, rfl, rfl, id⟩
theorem takesF_keep : ∀ (l : List (List UInt8)) (s : LS), Keep s (takesF s l).1
  | [], s => .refl s
  | t :: l, s => (takeF_keep s t).trans (takesF_keep l _)
theorem itemF_keep (s : LS) (x : Itm) : Keep s (itemF s x).1 ∧ (itemF s x).1.tell = true := by
  have h := takesF_keep (putW s.inx s.im x.1 x.2).2.1 (putL s x)
  exact ⟨(⟨rfl, rfl, rfl, rfl, rfl, fun _ => rfl⟩ : Keep s (putL s x)).trans h, h.tell rfl⟩
theorem itemsF_keep : ∀ (l : List Itm) (s : LS), Keep s (itemsF s l).1 ∧ (l ≠ [] → (itemsF s l).1.tell = true)
  | [], s => ⟨.refl s, fun h => absurd rfl h⟩
  | x :: l, s => ⟨(itemF_keep s x).1.trans (itemsF_keep l _).1, fun _ => (itemsF_keep l _).1.tell (itemF_keep s x).2⟩
theorem recvF_cm (s : LS) (d : List UInt8) : (recvF s d).1.cm = s.cm := by
  unfold recvF
  split
  · rfl
  · exact (itemsF_keep (linkP d).2.1 (ackL s (linkP d).1)).1.cm
theorem leftW_sub {nx bits : Int} {L : List Itm} {x : Itm} (h : x ∈ leftW nx bits L) : x ∈ L ∧ hasW nx bits x.1 = false := by
  have := List.mem_filter.1 h
  exact ⟨this.1, by simpa using this.2⟩
structure RcL (a a' : LS) (d : List UInt8) : Prop where
  ol : a'.ol = leftW (linkP d).1.1 (linkP d).1.2 a.ol
  tl : ∀ e ∈ a'.tl, e ∈ a.tl
  ws : a'.ws = a.ws
  on : a'.on = a.on
  tell : a.tell = true → a'.tell = true
  some : (linkP d).2.1 ≠ [] → a'.tell = true
  got : ∀ k, got a k → got a' k
  its : ∀ x ∈ (linkP d).2.1, AEX.got a' x.1
theorem Inv.recv_live {E : Nat} {p : PS} {Na Mb Nb Ma : Nat} (h : Inv E p Na Mb Nb Ma) {d : List UInt8} (hd : Dg (partsOf p.s1) Nb p.b d) : RcL p.a (recvF p.a d).1 d := by
  have hp := h.ab.parts
  have hp2 := h.ba.parts
  have hle := h.ab.le
  have hle2 := h.ba.le
  obtain ⟨nx, bits, l, rfl, h1, h2, h3, h4, h5, h6⟩ := hd
  have hsay := Dg.says (A := p.b) (show Nb ≤ 1000000 by omega) h2 h3 h4 h5
  have hack : ackL p.a ((nx : Int), (bits : Int)) = { p.a with ol := leftW nx bits p.a.ol, tl := outL (toldW nx bits p.a.ol) p.a.tl } := by
    have hon := h.ab.on
    have hix := h.ab.ix
    have hml := h.ab.mle
    unfold ackL ackO ackN
    rw [if_neg (by unfold u32; rw [iwrap_u32]; omega), if_neg (by unfold u32; rw [iwrap_u32]; omega)]
  have hr : recvF p.a (dgB nx bits l) = ({ (itemsF { p.a with ol := leftW nx bits p.a.ol, tl := outL (toldW nx bits p.a.ol) p.a.tl } l).1 with car := (itemsF { p.a with ol := leftW nx bits p.a.ol, tl := outL (toldW nx bits p.a.ol) p.a.tl } l).1.car + (itemsF { p.a with ol := leftW nx bits p.a.ol, tl := outL (toldW nx bits p.a.ol) p.a.tl } l).2.length }, (itemsF { p.a with ol := leftW nx bits p.a.ol, tl := outL (toldW nx bits p.a.ol) p.a.tl } l).2, 0) := by
    unfold recvF; rw [hsay]; simp only [hack]; rfl
  rw [hr]
  generalize hA1 : ({ p.a with ol := leftW nx bits p.a.ol, tl := outL (toldW nx bits p.a.ol) p.a.tl } : LS) = A1 at *
  have i1 : A1.inx = p.a.inx := by rw [← hA1]
  have i2 : A1.im = p.a.im := by rw [← hA1]
  have i3 : A1.js = p.a.js := by rw [← hA1]
  have i4 : A1.jn = p.a.jn := by rw [← hA1]
  have i5 : A1.car = p.a.car := by rw [← hA1]
  have i6 : A1.ws = p.a.ws := by rw [← hA1]
  have i7 : A1.on = p.a.on := by rw [← hA1]
  have i8 : A1.tell = p.a.tell := by rw [← hA1]
  have i9 : A1.ol = leftW nx bits p.a.ol := by rw [← hA1]
  have i10 : A1.tl = outL (toldW nx bits p.a.ol) p.a.tl := by rw [← hA1]
  have hba := h.ba.same (A' := p.b) (B' := A1) rfl rfl rfl i1 i2 i3 i4 i5
  obtain ⟨hk, hs⟩ := itemsF_keep l A1
  have hg : (∀ k, AEX.got A1 k → AEX.got (itemsF A1 l).1 k) ∧ ∀ x ∈ l, AEX.got (itemsF A1 l).1 x.1 := by
    cases l with
    | nil => exact ⟨fun k h => h, by simp⟩
    | cons x l' =>
      have hl' : l' = [] := List.length_eq_zero_iff.1 (by simp only [List.length_cons] at h4; omega)
      subst hl'
      obtain ⟨m, B', out, e1, e2, e3, e4, e5, e6, e7⟩ := hba.item (h5 x (by simp)).1 true
      have em : B'.inx = m := e3.ix
      have hix := hba.ix
      have e : (itemsF A1 [x]).1 = B' := by simp only [itemsF, e1]
      rw [e]
      refine ⟨fun k hk => ?_, fun y hy => ?_⟩
      · unfold AEX.got at hk ⊢
        rw [em]
        rw [hix] at hk
        rcases hk with hk | ⟨q, hq, e⟩
        · left; omega
        · obtain ⟨j, _, ej⟩ := (hba.im q hq).1
          have ek : k = (j : Int) := by rw [← e, ej]
          rw [ek] at e ⊢
          have := e6 j (.inr ⟨q, hq, e⟩)
          rcases this with c | c
          · left; omega
          · exact .inr c
      · simp at hy; subst hy
        unfold AEX.got
        rw [em]; exact e7
  refine ⟨?_, ?_, ?_, ?_, ?_, ?_, ?_, ?_⟩
  · rw [hsay]; simp only; rw [hk.ol, i9]
  · intro e he
    simp only at he
    rw [hk.tl, i10] at he
    exact (List.mem_filter.1 he).1
  · simp only; rw [hk.ws, i6]
  · simp only; rw [hk.on, i7]
  · intro ht; exact hk.tell (by rw [i8]; exact ht)
  · rw [hsay]; exact hs
  · intro k hgk
    have : AEX.got A1 k := by unfold AEX.got at hgk ⊢; rw [i1, i2]; exact hgk
    exact hg.1 k this
  · rw [hsay]; exact hg.2
/-! all that is on its way comes -/
def recvsF : LS → List (List UInt8) → LS × List (List UInt8)
  | s, [] => (s, [])
  | s, d :: l => ((recvsF (recvF s d).1 l).1, (recvF s d).2.1 ++ (recvsF (recvF s d).1 l).2)
def drain0 (p : PS) : PS := { p with a := (recvsF p.a p.w0).1, c0 := p.c0 ++ (recvsF p.a p.w0).2, w0 := [] }
def drain1 (p : PS) : PS := { p with b := (recvsF p.b p.w1).1, c1 := p.c1 ++ (recvsF p.b p.w1).2, w1 := [] }
def roundF (p : PS) : PS := drain1 (drain0 (pollP p))
theorem drain0_nil (p : PS) (h : p.w0 = []) : drain0 p = p := by
  obtain ⟨a, b, w0, w1, s0, s1, c0, c1, now⟩ := p
  simp only at h; subst h
  simp [drain0, recvsF]
theorem drain0_cons (p : PS) (d : List UInt8) (w : List (List UInt8)) (h : p.w0 = d :: w) : drain0 p = drain0 (recv0 { p with w0 := w } d) := by
  unfold drain0 recv0
  rw [h]
  simp only [recvsF, List.append_assoc]
theorem drain1_eq (p : PS) : drain1 p = sw (drain0 (sw p)) := rfl
theorem drain1_nil (p : PS) (h : p.w1 = []) : drain1 p = p := by rw [drain1_eq, drain0_nil (sw p) h]; rfl
theorem drain1_cons (p : PS) (d : List UInt8) (w : List (List UInt8)) (h : p.w1 = d :: w) : drain1 p = drain1 (recv1 { p with w1 := w } d) := by
  rw [drain1_eq, drain0_cons (sw p) d w h]; rfl
theorem roundF_sw (p : PS) : roundF (sw p) = sw (roundF p) := rfl
structure DrL (w : List (List UInt8)) (a a' : LS) : Prop where
  ol : ∀ x ∈ a'.ol, x ∈ a.ol
  tl : ∀ e ∈ a'.tl, e ∈ a.tl
  ws : a'.ws = a.ws
  on : a'.on = a.on
  tell : a.tell = true → a'.tell = true
  got : ∀ k, got a k → got a' k
  each : ∀ d ∈ w, ((linkP d).2.1 ≠ [] → a'.tell = true) ∧ (∀ x ∈ (linkP d).2.1, AEX.got a' x.1) ∧ ∀ x ∈ a'.ol, hasW (linkP d).1.1 (linkP d).1.2 x.1 = false
theorem drain_live : ∀ (n : Nat) {E : Nat} {p : PS} {Na Mb Nb Ma : Nat}, p.w0.length = n → Inv E p Na Mb Nb Ma → ∃ Ma', Inv E (drain0 p) Na Mb Nb Ma' ∧ DrL p.w0 p.a (drain0 p).a
  | 0, E, p, Na, Mb, Nb, Ma, hn, h => by
    have h0 : p.w0 = [] := List.length_eq_zero_iff.1 hn
    rw [drain0_nil p h0, h0]
    exact ⟨Ma, h, ⟨fun _ h => h, fun _ h => h, rfl, rfl, id, fun _ h => h, by simp⟩⟩
  | n + 1, E, p, Na, Mb, Nb, Ma, hn, h => by
    match hw : p.w0, hn with
    | d :: w, hn =>
      have hl0 := h.l0
      rw [hw] at hl0
      simp only [List.length_cons] at hn hl0
      have hd := h.w0 d (by rw [hw]; simp)
      have hway := h.way (w := w) (fun d hd => by rw [hw]; exact List.mem_cons_of_mem _ hd) (by omega)
      obtain ⟨Ma1, q, _, _⟩ := hway.recv hd
      have R := hway.recv_live hd
      simp only at R
      rw [drain0_cons p d w hw]
      obtain ⟨Ma2, q2, D⟩ := drain_live n (p := recv0 { p with w0 := w } d) (by show w.length = n; omega) q
      have ea : (recv0 { p with w0 := w } d).a = (recvF p.a d).1 := rfl
      have ew : (recv0 { p with w0 := w } d).w0 = w := rfl
      rw [ea, ew] at D
      refine ⟨Ma2, q2, fun x hx => ?_, fun e he => R.tl e (D.tl e he), D.ws.trans R.ws, D.on.trans R.on, fun t => D.tell (R.tell t), fun k hk => D.got k (R.got k hk), fun d' hd' => ?_⟩
      · have := D.ol x hx
        rw [R.ol] at this
        exact (leftW_sub this).1
      · rcases List.mem_cons.1 hd' with rfl | hd'
        · refine ⟨fun t => D.tell (R.some t), fun x hx => D.got _ (R.its x hx), fun x hx => ?_⟩
          have := D.ol x hx
          rw [R.ol] at this
          exact (leftW_sub this).2
        · exact D.each d' hd'
/-! what goes at a time -/
theorem got_has {M : Nat} {K : Ent} (hK : ∀ p ∈ K, (M : Int) < p.1 ∧ p.1 ≤ M + 32) (hnd : (K.map (·.1)).Nodup) (hM : M < 900000) (k : Nat) (hk : k < 1000000)
    (hg : (k : Int) < M ∨ ∃ p ∈ K, p.1 = (k : Int)) : hasW M (bitsW M K 32 : Nat) k = true := by
  have hw : WOk (M : Int) K := ⟨fun p hp => (hK p hp).1, fun p hp => (hK p hp).2, hnd⟩
  have e1 := bits_map (F := 1000) hw 32 (Nat.le_refl _)
  have eK : mapK 1000 K = K := by
    unfold mapK
    conv => rhs; rw [← List.map_id K]
    apply List.map_congr_left
    intro p hp
    have := hK p hp
    rw [kap1000 (by omega)]; rfl
  rw [kap1000 (by omega), eK] at e1
  rw [e1]
  have e2 := has_map 1000 M k (bitsR M K 32) (bitsR_lt _ _ 32) (by omega) (by omega)
  rw [kap1000 (by omega), kap1000 (by omega)] at e2
  rw [e2]
  have c : (k : Int) ≤ M + 32 := by
    rcases hg with hg | ⟨p, hp, e⟩
    · omega
    · have := hK p hp; omega
  exact (hasR_iff M K hw k c).2 hg
structure PoL (A A' : LS) (o : List (List UInt8)) (T : Int) : Prop where
  tl : ∀ e ∈ A'.tl, T < e.due
  tlk : ∀ e ∈ A'.tl, A.on ≤ e.n ∨ ∃ e0 ∈ A.tl, e.n = e0.n ∧ (e0.due ≤ T ∨ e = e0)
  ol : ∀ x ∈ A'.ol, x ∈ A.ol ∨ A.on ≤ x.1
  on : A.on ≤ A'.on
  ws : A.ws = [] → A'.ws = [] ∧ A'.on = A.on
  full : A'.ws = [] ∨ ∃ x0 ∈ A'.ol, x0.1 + 32 ≤ A'.on
  due : ∀ x ∈ A.ol, ∀ e ∈ A.tl, e.n = x.1 → e.due ≤ T → ∃ d ∈ o, (linkP d).2.1 = [x]
  tell : A.tell = true → o ≠ []
  dg : ∀ d ∈ o, (linkP d).1 = (A.inx, ((bitsW A.inx A.im 32 : Nat) : Int))
  len : o.length ≤ 60
  cm : A'.cm = A.cm
theorem poll_live {S A B C N M S' C' N' M'} {now : Int} (hab : Dir S A B C N M) (hba : Dir S' B A C' N' M') (ht : Tmr A now) (hn : 0 ≤ now) : PoL A (pollF A (now + 1)).1 (pollF A (now + 1)).2 (now + 1) := by
  have hp := hab.parts
  have hp2 := hba.parts
  have hle2 := hba.le
  have hm2 := hba.mle
  obtain ⟨N2, F⟩ := fill_it A.cf (now + 1) (partsOf S) (by omega) A.ws ⟨A.on, A.ol, A.tl.map (updE A.cm (now + 1))⟩ N hab.on hab.ws hab.le hab.ol hab.sorted hab.win (by
    simp only [List.map_map, ← ht.nums]
    apply List.map_congr_left
    intro e _
    simp only [Function.comp, updE]; split <;> rfl)
  have hT : fillF A.cf (now + 1) A.ws ⟨A.on, A.ol, A.tl.map (updE A.cm (now + 1))⟩ = pollT A (now + 1) := rfl
  rw [hT] at F
  simp only at F
  obtain ⟨N3, g0, g1, _⟩ := poll_dir hab hba ht hn
  have hl3 := g1.ol_len
  have hl3 : (pollT A (now + 1)).2.1.ol.length ≤ 32 := hl3
  rw [F.ol, List.length_append] at hl3
  have hon := hab.on
  have hcf := ht.cf
  have hlen : (pollO A (now + 1)).length ≤ 32 := by
    have h4 : (pollI A (now + 1)).length ≤ A.ol.length := List.length_filter_le _ _
    unfold pollO; rw [List.length_append, List.length_map, List.length_map]; omega
  have hNp := F.le
  have hsay : ∀ l : List Itm, l.length ≤ 1 → (∀ x ∈ l, It (partsOf S) N2 x) → linkP (dgL A l) = ((A.inx, ((bitsW A.inx A.im 32 : Nat) : Int)), l, 0) := by
    intro l hl hi
    have hb := bitsW_lt A.inx A.im 32
    have hix := hba.ix
    have := Dg.says (A := A) (N := N2) (Q := partsOf S) (nx := A.inx.toNat) (bits := bitsW A.inx A.im 32) (l := l) (by omega) (by omega) (by omega) hl fun x hx => ⟨hi x hx, by
      obtain ⟨k, hk, rfl⟩ := hi x hx
      have := prt_small hab.small k
      simp only [partB_len]; omega⟩
    rw [show ((A.inx.toNat : Nat) : Int) = A.inx by omega] at this
    exact this
  have hsI : ∀ x ∈ pollI A (now + 1), linkP (dgL A [x]) = ((A.inx, ((bitsW A.inx A.im 32 : Nat) : Int)), [x], 0) := fun x hx => hsay [x] (by simp) fun z hz => by
    simp at hz; subst hz
    exact (hab.ol _ (List.mem_filter.1 hx).1).mono F.ge
  have hsT : ∀ x ∈ (pollT A (now + 1)).2.2, linkP (dgL A [x]) = ((A.inx, ((bitsW A.inx A.im 32 : Nat) : Int)), [x], 0) := fun x hx => hsay [x] (by simp) fun z hz => by
    simp at hz; subst hz
    obtain ⟨k, _, q2, q3⟩ := F.it _ hx; exact ⟨k, q2, q3⟩
  have hupd : ∀ e0 ∈ A.tl, now + 1 < (updE A.cm (now + 1) e0).due ∧ (updE A.cm (now + 1) e0).n = e0.n ∧ (e0.due ≤ now + 1 ∨ updE A.cm (now + 1) e0 = e0) := by
    intro e0 h0
    have ti := ht.ti e0 h0
    unfold updE
    split
    · rename_i c
      exact ⟨by simp only; omega, rfl, .inl c⟩
    · exact ⟨by omega, rfl, .inr rfl⟩
  have htl : (pollF A (now + 1)).1.tl = (pollT A (now + 1)).2.1.tl := rfl
  have hol : (pollF A (now + 1)).1.ol = (pollT A (now + 1)).2.1.ol := rfl
  have hon' : (pollF A (now + 1)).1.on = (pollT A (now + 1)).2.1.on := rfl
  have hws' : (pollF A (now + 1)).1.ws = (pollT A (now + 1)).1 := rfl
  refine ⟨?_, ?_, ?_, ?_, ?_, ?_, ?_, ?_, ?_, ?_, rfl⟩
  · intro e he
    rw [htl, F.tl] at he
    rcases List.mem_append.1 he with he | he
    · obtain ⟨e0, h0, rfl⟩ := List.mem_map.1 he
      exact (hupd e0 h0).1
    · obtain ⟨x, hx, rfl⟩ := List.mem_map.1 he
      simp only; omega
  · intro e he
    rw [htl, F.tl] at he
    rcases List.mem_append.1 he with he | he
    · obtain ⟨e0, h0, rfl⟩ := List.mem_map.1 he
      exact .inr ⟨e0, h0, (hupd e0 h0).2⟩
    · obtain ⟨x, hx, rfl⟩ := List.mem_map.1 he
      obtain ⟨k, q1, q2, q3⟩ := F.it x hx
      left; rw [q3]; simp only; omega
  · intro x hx
    rw [hol, F.ol] at hx
    rcases List.mem_append.1 hx with hx | hx
    · exact .inl hx
    · obtain ⟨k, q1, q2, q3⟩ := F.it x hx
      right; rw [q3]; simp only; omega
  · rw [hon', F.on]; have := F.ge; omega
  · intro h0
    have : pollT A (now + 1) = ([], ⟨A.on, A.ol, A.tl.map (updE A.cm (now + 1))⟩, []) := by unfold pollT; rw [h0]; rfl
    rw [hws', hon', this]
    exact ⟨rfl, rfl⟩
  · rw [hws', hol, hon']
    rcases F.full with c | c
    · exact .inl c
    · right
      have hw := F.ol
      cases hc : (pollT A (now + 1)).2.1.ol with
      | nil => rw [hc] at c; simp [roomW] at c
      | cons x0 l =>
        refine ⟨x0, by simp, ?_⟩
        rw [hc] at c
        unfold roomW at c
        simp only [decide_eq_false_iff_not] at c
        have hr : 0 ≤ x0.1 ∧ x0.1 < N2 := by
          have hm : x0 ∈ A.ol ++ (pollT A (now + 1)).2.2 := by rw [← F.ol, hc]; simp
          rcases List.mem_append.1 hm with hm | hm
          · have := (hab.ol _ hm).rg; have := F.ge; omega
          · obtain ⟨k, q1, q2, q3⟩ := F.it _ hm; rw [q3]; simp only; omega
        have hon2 := F.on
        rw [hon2] at c ⊢
        unfold u32 at c; rw [iwrap_u32] at c; omega
  · intro x hx e he hen hdue
    have hmem : x ∈ pollI A (now + 1) := by
      unfold pollI
      rw [List.mem_filter]
      refine ⟨hx, ?_⟩
      rw [decide_eq_true_eq]
      unfold dueN numsT
      refine List.mem_map.2 ⟨e, (stab_perm _).mem_iff.2 ?_, hen⟩
      unfold dueL
      rw [List.mem_filter]
      exact ⟨he, by simpa using hdue⟩
    have hmo : dgL A [x] ∈ pollO A (now + 1) := by
      unfold pollO
      exact List.mem_append_left _ (List.mem_map.2 ⟨x, hmem, rfl⟩)
    refine ⟨dgL A [x], ?_, by rw [hsI x hmem]⟩
    show _ ∈ (if A.tell = true ∧ (pollO A (now + 1)).length = 0 then [dgL A []] else pollO A (now + 1))
    rw [if_neg (fun h => by have := List.length_pos_of_mem hmo; omega)]
    exact hmo
  · intro ht h0
    have h0 : (if A.tell = true ∧ (pollO A (now + 1)).length = 0 then [dgL A []] else pollO A (now + 1)) = [] := h0
    split at h0
    · cases h0
    · rename_i c
      exact c ⟨ht, by rw [h0]; rfl⟩
  · intro d hd
    have hd : d ∈ (if A.tell = true ∧ (pollO A (now + 1)).length = 0 then [dgL A []] else pollO A (now + 1)) := hd
    split at hd
    · simp at hd; subst hd; rw [hsay [] (by simp) (by simp)]
    · unfold pollO at hd
      rcases List.mem_append.1 hd with hd | hd
      · obtain ⟨x, hx, rfl⟩ := List.mem_map.1 hd
        rw [hsI x hx]
      · obtain ⟨x, hx, rfl⟩ := List.mem_map.1 hd
        rw [hsT x hx]
  · show (if A.tell = true ∧ (pollO A (now + 1)).length = 0 then [dgL A []] else pollO A (now + 1)).length ≤ 60
    split
    · simp
    · omega
theorem addW_nil : ∀ (o w : List (List UInt8)), w.length + o.length ≤ 60 → addW w o = w ++ o
  | [], w, _ => by simp [addW]
  | x :: o, w, h => by
    simp only [List.length_cons] at h
    rw [addW, if_pos (by omega), addW_nil o _ (by simp; omega)]
    simp
structure Rd (E : Nat) (p : PS) (Na Mb Nb Ma : Nat) : Prop where
  inv : Inv E p Na Mb Nb Ma
  w0 : p.w0 = []
  w1 : p.w1 = []
  ta : ∀ e ∈ p.a.tl, p.now < e.due
  tb : ∀ e ∈ p.b.tl, p.now < e.due
theorem Rd.swap {E : Nat} {p : PS} {Na Mb Nb Ma : Nat} (h : Rd E p Na Mb Nb Ma) : Rd E (sw p) Nb Ma Na Mb := ⟨h.inv.swap, h.w1, h.w0, h.tb, h.ta⟩
structure RoL (p : PS) : Prop where
  pa : PoL p.a (pollP p).a (pollF p.a (p.now + 1)).2 (p.now + 1)
  da : DrL (pollP p).w0 (pollP p).a (roundF p).a
  now : (roundF p).now = p.now + 1
  s0 : (roundF p).s0 = p.s0
theorem round_any {E : Nat} {p : PS} {Na Mb Nb Ma : Nat} (h : Inv E p Na Mb Nb Ma) : (∃ Na' Mb' Nb' Ma', Rd (E + 1) (roundF p) Na' Mb' Nb' Ma') ∧ RoL p ∧ RoL (sw p) := by
  have hn := h.now
  obtain ⟨Na', Nb', q⟩ := h.tick
  obtain ⟨Ma', q1, D0⟩ := drain_live _ rfl q
  obtain ⟨Mb', q2, D1⟩ := drain_live _ rfl q1.swap
  have pa := poll_live h.ab h.ba h.ta hn.1
  have pb := poll_live h.ba h.ab h.tb hn.1
  refine ⟨⟨Na', Mb', Nb', Ma', q2.swap, rfl, rfl, fun e he => pa.tl e (D0.tl e he), fun e he => pb.tl e (D1.tl e he)⟩, ⟨pa, D0, rfl, rfl⟩, pb, D1, rfl, rfl⟩
def Old (n0 T1 : Int) (p : PS) : Prop := ∀ x ∈ p.a.ol, x.1 < n0 → (got p.b x.1 ∧ p.b.tell = true) ∨ ∀ e ∈ p.a.tl, e.n = x.1 → e.due ≤ T1
theorem Old.step {E : Nat} {p : PS} {Na Mb Nb Ma : Nat} {n0 T1 : Int} (h : Rd E p Na Mb Nb Ma) (ho : Old n0 T1 p) (hn : n0 ≤ p.a.on) :
    Old n0 T1 (roundF p) ∧ (p.now = T1 → ∀ x ∈ (roundF p).a.ol, n0 ≤ x.1) := by
  obtain ⟨_, ra, rb⟩ := round_any h.inv
  have hp := h.inv.ab.parts
  have hle := h.inv.ab.le
  have hml := h.inv.ab.mle
  have hnear := h.inv.ab.near
  have hw0 : (pollP p).w0 = (pollF p.b (p.now + 1)).2 := by
    show addW p.w0 (pollF p.b (p.now + 1)).2 = _
    rw [h.w0, addW_nil _ _ (by have := rb.pa.len; have this : (pollF p.b (p.now + 1)).2.length ≤ 60 := this; rw [List.length_nil]; omega)]; rfl
  have hw1 : (pollP p).w1 = (pollF p.a (p.now + 1)).2 := by
    show addW p.w1 (pollF p.a (p.now + 1)).2 = _
    rw [h.w1, addW_nil _ _ (by have := ra.pa.len; rw [List.length_nil]; omega)]; rfl
  have D0 := ra.da
  have D1 : DrL (pollP p).w1 (pollP p).b (roundF p).b := rb.da
  have key : ∀ x ∈ (roundF p).a.ol, x.1 < n0 → x ∈ p.a.ol ∧ ∀ e ∈ p.a.tl, e.n = x.1 → e.due ≤ T1 := by
    intro x hx hlt
    have hxA : x ∈ p.a.ol := by
      rcases ra.pa.ol x (D0.ol x hx) with c | c
      · exact c
      · omega
    refine ⟨hxA, ?_⟩
    rcases ho x hxA hlt with ⟨hg, ht⟩ | c
    · exfalso
      have hne := rb.pa.tell ht
      obtain ⟨d, hd⟩ := List.exists_mem_of_ne_nil _ hne
      have hd : d ∈ (pollF p.b (p.now + 1)).2 := hd
      have hdg := rb.pa.dg d hd
      rw [← hw0] at hd
      have hno := (D0.each d hd).2.2 x hx
      rw [hdg] at hno
      have hix := h.inv.ab.ix
      obtain ⟨k, hk, hxk⟩ := h.inv.ab.ol x hxA
      have hyes := got_has (M := Mb) (K := p.b.im) (fun q hq => by
        have := h.inv.ab.im q hq
        have := this.1.rg
        omega) h.inv.ab.nd (by omega) k (by omega) (by
          unfold got at hg
          rw [hix, hxk] at hg
          exact hg)
      have hno : hasW p.b.inx ((bitsW p.b.inx p.b.im 32 : Nat) : Int) x.1 = false := hno
      rw [hix, hxk] at hno
      simp only at hno
      rw [hyes] at hno
      cases hno
    · exact c
  refine ⟨fun x hx hlt => ?_, fun hT x hx => ?_⟩
  · obtain ⟨hxA, hc⟩ := key x hx hlt
    by_cases hd : ∃ e ∈ p.a.tl, e.n = x.1 ∧ e.due ≤ p.now + 1
    · obtain ⟨e, he, hen, hdue⟩ := hd
      obtain ⟨d, hd, hl⟩ := ra.pa.due x hxA e he hen hdue
      rw [← hw1] at hd
      obtain ⟨z1, z2, _⟩ := D1.each d hd
      exact .inl ⟨z2 x (by rw [hl]; simp), z1 (by rw [hl]; simp)⟩
    · right
      intro e he hen
      rcases ra.pa.tlk e (D0.tl e he) with c | ⟨e0, h0, hn0, c | rfl⟩
      · omega
      · exact absurd ⟨e0, h0, by omega, c⟩ hd
      · exact hc e h0 hen
  · rcases Int.lt_or_le x.1 n0 with hlt | hge
    · exfalso
      obtain ⟨hxA, hc⟩ := key x hx hlt
      have hm : x.1 ∈ p.a.ol.map (·.1) := List.mem_map.2 ⟨x, hxA, rfl⟩
      rw [← h.inv.ta.nums] at hm
      obtain ⟨e, he, hen⟩ := List.mem_map.1 hm
      have h1 := hc e he hen
      have h2 := h.ta e he
      omega
    · exact hge
def iter : Nat → PS → PS
  | 0, p => p
  | n + 1, p => roundF (iter n p)
theorem iter_succ (n : Nat) (p : PS) : iter (n + 1) p = roundF (iter n p) := rfl
theorem iter_add (n : Nat) (p : PS) : ∀ m : Nat, iter (m + n) p = iter m (iter n p)
  | 0 => by rw [Nat.zero_add]; rfl
  | m + 1 => by rw [Nat.add_right_comm]; show roundF (iter (m + n) p) = roundF (iter m (iter n p)); rw [iter_add n p m]
theorem iter_sw (p : PS) : ∀ n : Nat, iter n (sw p) = sw (iter n p)
  | 0 => rfl
  | n + 1 => by show roundF (iter n (sw p)) = _; rw [iter_sw p n, roundF_sw]; rfl
theorem recvsF_cm : ∀ (l : List (List UInt8)) (s : LS), (recvsF s l).1.cm = s.cm
  | [], s => rfl
  | d :: l, s => by rw [recvsF, recvsF_cm l, recvF_cm]
structure Its (p r : PS) : Prop where
  on : p.a.on ≤ r.a.on
  ws : p.a.ws = [] → r.a.ws = [] ∧ r.a.on = p.a.on
  s0 : r.s0 = p.s0
  cm : r.a.cm = p.a.cm
theorem RoL.its {p : PS} (h : RoL p) : Its p (roundF p) := by
  refine ⟨by rw [h.da.on]; exact h.pa.on, fun c => ?_, h.s0, ?_⟩
  · obtain ⟨c1, c2⟩ := h.pa.ws c
    rw [h.da.ws, h.da.on]; exact ⟨c1, c2⟩
  · show (recvsF (pollP p).a (pollP p).w0).1.cm = _
    rw [recvsF_cm]; exact h.pa.cm
theorem Its.trans {a b c : PS} (h : Its a b) (h' : Its b c) : Its a c :=
  ⟨Int.le_trans h.on h'.on, fun z => by obtain ⟨z1, z2⟩ := h.ws z; obtain ⟨z3, z4⟩ := h'.ws z1; exact ⟨z3, z4.trans z2⟩, h'.s0.trans h.s0, h'.cm.trans h.cm⟩
theorem iter_rd {E : Nat} {p : PS} {Na Mb Nb Ma : Nat} (h : Rd E p Na Mb Nb Ma) (hc : p.a.cm = 12) : ∀ n : Nat, (∃ Na' Mb' Nb' Ma', Rd (E + n) (iter n p) Na' Mb' Nb' Ma') ∧ Its p (iter n p) ∧ (iter n p).now = p.now + n ∧ Old p.a.on (p.now + 12) (iter n p)
  | 0 => ⟨⟨_, _, _, _, h⟩, ⟨Int.le_refl _, fun c => ⟨c, rfl⟩, rfl, rfl⟩, by simp [iter], fun x hx _ => .inr fun e he _ => by have := (h.inv.ta.ti e he).1; rw [hc] at this; exact this.2⟩
  | n + 1 => by
    obtain ⟨⟨a, b, c, d, q⟩, I, hnow, ho⟩ := iter_rd h hc n
    obtain ⟨⟨a', b', c', d', q'⟩, ra, rb⟩ := round_any q.inv
    refine ⟨⟨a', b', c', d', by rw [← Nat.add_assoc]; exact q'⟩, I.trans ra.its, ?_, (Old.step q ho I.on).1⟩
    show (roundF (iter n p)).now = _
    rw [ra.now, hnow]; omega
theorem thirteen {E : Nat} {p : PS} {Na Mb Nb Ma : Nat} (h : Rd E p Na Mb Nb Ma) (hc : p.a.cm = 12) : ∀ x ∈ (iter 13 p).a.ol, p.a.on ≤ x.1 := by
  obtain ⟨⟨a, b, c, d, q⟩, I, hnow, ho⟩ := iter_rd h hc 12
  have := (Old.step q ho I.on).2 (by rw [hnow]; omega)
  rw [show (13 : Nat) = 12 + 1 from rfl, iter_succ]
  exact this
theorem phase {E : Nat} {p : PS} {Na Mb Nb Ma : Nat} (h : Rd E p Na Mb Nb Ma) (hc : p.a.cm = 12) : (iter 14 p).a.ws = [] ∨ p.a.on + 32 ≤ (iter 14 p).a.on := by
  have h13 := thirteen h hc
  obtain ⟨⟨a, b, c, d, q⟩, I, _, _⟩ := iter_rd h hc 13
  obtain ⟨_, ra, _⟩ := round_any q.inv
  have e : iter 14 p = roundF (iter 13 p) := iter_succ 13 p
  rw [e, ra.da.ws, ra.da.on]
  rcases ra.pa.full with c | ⟨x0, hx0, c⟩
  · exact .inl c
  · right
    have hI := I.on
    rcases ra.pa.ol x0 hx0 with z | z
    · have := h13 x0 z; omega
    · omega
theorem phases {E : Nat} {p : PS} {Na Mb Nb Ma : Nat} (h : Rd E p Na Mb Nb Ma) (hc : p.a.cm = 12) : ∀ m : Nat, (iter (14 * m) p).a.ws = [] ∨ p.a.on + 32 * m ≤ (iter (14 * m) p).a.on
  | 0 => .inr (by simp [iter])
  | m + 1 => by
    obtain ⟨⟨a, b, c, d, q⟩, I, _, _⟩ := iter_rd h hc (14 * m)
    have e : iter (14 * (m + 1)) p = iter 14 (iter (14 * m) p) := by rw [← iter_add]; congr 1; omega
    have hcm : (iter (14 * m) p).a.cm = 12 := by rw [I.cm, hc]
    rw [e]
    rcases phases h hc m with z | z
    · obtain ⟨_, I2, _, _⟩ := iter_rd q hcm 14
      exact .inl (I2.ws z).1
    · rcases phase q hcm with y | y
      · exact .inl y
      · right; omega
theorem quiet {E : Nat} {p : PS} {Na Mb Nb Ma : Nat} (h : Rd E p Na Mb Nb Ma) (hc : p.a.cm = 12) (hs : p.s0.length ≤ 120) (n : Nat) (hn : 237 ≤ n) : (iter n p).a.ws = [] ∧ (iter n p).a.ol = [] := by
  obtain ⟨⟨a, b, c, d, q⟩, I, _, _⟩ := iter_rd h hc (14 * 16)
  have hcm : (iter (14 * 16) p).a.cm = 12 := by rw [I.cm, hc]
  have h0 : (iter (14 * 16) p).a.ws = [] := by
    rcases phases h hc 16 with z | z
    · exact z
    · exfalso
      have h1 := q.inv.ab.on
      have h2 := q.inv.ab.le
      have h3 := partsOf_len (iter (14 * 16) p).s0 (fun s hs => by have := q.inv.ab.sz s hs; omega)
      have h4 := I.s0
      rw [h4] at h2 h3
      have h5 := h.inv.ab.on
      omega
  obtain ⟨⟨a1, b1, c1, d1, q1⟩, I1, _, _⟩ := iter_rd q hcm (n - 237)
  rw [← iter_add] at q1 I1
  have hcm1 : (iter (n - 237 + 14 * 16) p).a.cm = 12 := by rw [I1.cm, hcm]
  have hw1 := (I1.ws h0).1
  have h13 := thirteen q1 hcm1
  obtain ⟨⟨a2, b2, c2, d2, q2⟩, I2, _, _⟩ := iter_rd q1 hcm1 13
  obtain ⟨w2, o2⟩ := I2.ws hw1
  rw [← iter_add] at h13 q2 w2 o2
  have en : 13 + (n - 237 + 14 * 16) = n := by omega
  rw [en] at h13 q2 w2 o2
  refine ⟨w2, ?_⟩
  match hol : (iter n p).a.ol with
  | [] => rfl
  | x :: l =>
    exfalso
    have hx : x ∈ (iter n p).a.ol := by rw [hol]; simp
    have h1 := h13 x hx
    have h2 := (q2.inv.ab.ol x hx).rg
    have h3 := q2.inv.ab.on
    omega
theorem Dir.idle {S A B C N M} (h : Dir S A B C N M) (hw : A.ws = []) (ho : A.ol = []) : C = S := by
  have h1 := h.ws
  rw [hw] at h1
  have h2 : (partsOf S).length ≤ N := by
    rcases Nat.lt_or_ge N (partsOf S).length with c | c
    · have := congrArg List.length h1; rw [List.length_drop] at this; simp at this; omega
    · exact c
  have h3 : M = N := by
    have hm := h.mle
    rcases Nat.lt_or_ge M N with c | c
    · exfalso
      rcases h.un M (Nat.le_refl _) c with ⟨p, hp, e⟩ | ⟨x, hx, _⟩
      · have := (h.im p hp).2; omega
      · rw [ho] at hx; cases hx
    · omega
  rw [h.cm, List.take_of_length_le (by omega), h.msgs]
theorem does_cm (p : PS) (x : Act) : (doesF p x).a.cm = p.a.cm ∧ (doesF p x).b.cm = p.b.cm := by
  have hs0 : ∀ (p : PS) (t : List UInt8), (send0 p t).a.cm = p.a.cm ∧ (send0 p t).b.cm = p.b.cm := fun p t => by unfold send0; split <;> exact ⟨rfl, rfl⟩
  have hs1 : ∀ (p : PS) (t : List UInt8), (send1 p t).a.cm = p.a.cm ∧ (send1 p t).b.cm = p.b.cm := fun p t => by unfold send1; split <;> exact ⟨rfl, rfl⟩
  have hr0 : ∀ (p : PS) (d : List UInt8), (recv0 p d).a.cm = p.a.cm ∧ (recv0 p d).b.cm = p.b.cm := fun p d => ⟨recvF_cm _ _, rfl⟩
  have hr1 : ∀ (p : PS) (d : List UInt8), (recv1 p d).a.cm = p.a.cm ∧ (recv1 p d).b.cm = p.b.cm := fun p d => ⟨rfl, recvF_cm _ _⟩
  unfold doesF
  split
  · unfold does0
    split; · exact hs0 _ _
    split; · exact ⟨rfl, rfl⟩
    split
    · split; · exact ⟨rfl, rfl⟩
      exact hr0 _ _
    split; · exact ⟨rfl, rfl⟩
    split; · exact hr0 { p with w0 := delW p.w0 x.n } _
    split; · exact ⟨rfl, rfl⟩
    split; · exact hr0 _ _
    exact hr0 { p with w0 := delW p.w0 x.n } _
  · unfold does1
    split; · exact hs1 _ _
    split; · exact ⟨rfl, rfl⟩
    split
    · split; · exact ⟨rfl, rfl⟩
      exact hr1 _ _
    split; · exact ⟨rfl, rfl⟩
    split; · exact hr1 { p with w1 := delW p.w1 x.n } _
    split; · exact ⟨rfl, rfl⟩
    split; · exact hr1 _ _
    exact hr1 { p with w1 := delW p.w1 x.n } _
end Go.AEX

/- Link: LIVE: behind any 120 events, when all that goes comes through, all that was sent comes, and both ends are idle. -/
namespace Go.AEX
open Go Go.AE Go.Proofs
set_option maxRecDepth 100000
set_option linter.unusedVariables false
set_option linter.unusedSimpArgs false

theorem iter_inv {E : Nat} {p : PS} {Na Mb Nb Ma : Nat} (h : Inv E p Na Mb Nb Ma) : ∀ n : Nat, ∃ Na' Mb' Nb' Ma', Inv (E + n) (iter n p) Na' Mb' Nb' Ma'
  | 0 => ⟨_, _, _, _, h⟩
  | n + 1 => by
    obtain ⟨a, b, c, d, q⟩ := iter_inv h n
    obtain ⟨⟨a', b', c', d', q'⟩, _, _⟩ := round_any q
    exact ⟨a', b', c', d', by rw [← Nat.add_assoc]; exact q'.inv⟩
theorem iter_front (p : PS) : ∀ n : Nat, iter (n + 1) p = iter n (roundF p)
  | 0 => rfl
  | n + 1 => by rw [iter_succ (n + 1) p, iter_front p n, iter_succ]
theorem sw_a (p : PS) : (sw p).a = p.b := rfl
theorem sw_s0 (p : PS) : (sw p).s0 = p.s1 := rfl
theorem all_quiet {E : Nat} {p : PS} {Na Mb Nb Ma : Nat} (h : Inv E p Na Mb Nb Ma) (he : E ≤ 120) (hca : p.a.cm = 12) (hcb : p.b.cm = 12) (n : Nat) (hn : 238 ≤ n) :
    ((iter n p).a.ws = [] ∧ (iter n p).a.ol = []) ∧ ((iter n p).b.ws = [] ∧ (iter n p).b.ol = []) := by
  obtain ⟨⟨a, b, c, d, q⟩, ra, rb⟩ := round_any h
  have h1 := h.sa
  have h2 := h.sb
  have e1 : (roundF p).s0 = p.s0 := ra.s0
  have e2 : (sw (roundF p)).s0 = p.s1 := by rw [← roundF_sw, rb.s0, sw_s0]
  obtain ⟨m, rfl⟩ : ∃ m, n = m + 1 := ⟨n - 1, by omega⟩
  rw [iter_front]
  refine ⟨quiet q (by rw [ra.its.cm, hca]) (by rw [e1]; omega) m (by omega), ?_⟩
  have hc2 : (sw (roundF p)).a.cm = 12 := by rw [← roundF_sw, rb.its.cm, sw_a]; exact hcb
  have := quiet q.swap hc2 (by rw [e2]; omega) m (by omega)
  rw [iter_sw, sw_a] at this
  exact this
def stD (q : PS) : Nat → PS
  | 0 => q
  | 1 => drain0 q
  | _ => drain1 (drain0 q)
theorem stD0 (q : PS) : stD q 0 = q := rfl
theorem stD1 (q : PS) : stD q 1 = drain0 q := rfl
theorem stD2 (q : PS) : stD q 2 = drain1 (drain0 q) := rfl
theorem lidle_true (s : LS) (h1 : s.ws = []) (h2 : s.ol = []) : Tri Try.prog 10 [.pbox 0 0] (lkM s) (fun v m => v = .bool true ∧ m = lkM s) := by
  refine Tri.asB ((lidle_spec s).mono ?_)
  rintro v m ⟨rfl, rfl⟩
  exact ⟨by simp [asB, h1, h2], rfl⟩
theorem lidle_false (s : LS) (h : ¬ (s.ws = [] ∧ s.ol = [])) : Tri Try.prog 10 [.pbox 0 0] (lkM s) (fun v m => v = .bool false ∧ m = lkM s) := by
  refine Tri.asB ((lidle_spec s).mono ?_)
  rintro v m ⟨rfl, rfl⟩
  refine ⟨?_, rfl⟩
  have : ¬ (s.ws.length = 0 ∧ s.ol.length = 0) := fun ⟨a, b⟩ => h ⟨List.length_eq_zero_iff.1 a, List.length_eq_zero_iff.1 b⟩
  simp only [asB, decide_eq_false this]
set_option maxHeartbeats 40000000 in
theorem linkLive_spec (l : AV) (hl : Has (.sl [.int .i64, .int .i64, .int .i64, .int .i64, .int .u8, .str]) l) :
    Tri Try.prog 3 [l] [] (fun v m => v = .bool true) := by
  simp only [Has] at hl
  obtain ⟨xs, rfl, hxl, hx⟩ := hl
  simp only [List.length_cons, List.length_nil]
  refine Tri.post ?_
  have hb := lbegin0_spec
  have hawk := hawk_spec
  skip
  refine (Tri.enter (rl := r3) (code := c3) (by kernel_rfl) Try.func3 rfl c3_ok (by kernel_rfl) (by kernel_rfl) ?_)
  refine run_ok 4000 _ _ _ _ ?_
  simp (maxSteps := 10000000) only [go_sem, c3, r3, lkA, lkC, pBox0, List.cons_append, List.nil_append]
  refine sem_call rfl rfl (((hb).embed [] rfl trivial rfl rfl rfl (by simp)).mono ?_)
  rintro _ _ ⟨_, _, ⟨rfl, rfl⟩, rfl, rfl⟩
  simp (maxSteps := 10000000) only [go_sem, lkA, lkC, pBox0, List.cons_append, List.nil_append]
  refine sem_nilbox 0 2 1 rfl rfl ?_
  refine sem_nilbox 0 3 1 rfl rfl ?_
  refine sem_nilbox 0 4 1 rfl rfl ?_
  refine sem_nilbox 0 5 1 rfl rfl ?_
  refine sem_nilbox 0 6 1 rfl rfl ?_
  refine sem_nilbox 0 7 1 rfl rfl ?_
  simp (maxSteps := 10000000) only [go_sem, lkA, lkC, pBox0, List.cons_append, List.nil_append]
  refine run_ok 4000 _ _ _ _ ?_
  simp (maxSteps := 10000000) only [go_sem, lkA, lkC, pBox0, List.cons_append, List.nil_append]
  refine sem_call rfl rfl (((hawk).embed [] rfl trivial rfl rfl rfl (by simp)).mono ?_)
  rintro _ _ ⟨_, _, ⟨rfl, rfl⟩, rfl, rfl⟩
  refine run_ok 4000 _ _ _ _ ?_
  simp (maxSteps := 10000000) only [go_sem, lkA, lkC, pBox0, List.cons_append, List.nil_append]
  refine sem_rounds (fun q : Nat × PS => q.1 ≤ 120 ∧ q.2.a.cm = 12 ∧ q.2.b.cm = 12 ∧ ∃ Na Mb Nb Ma, Inv q.1 q.2 Na Mb Nb Ma)
    (fun q => [(0, .vsl 6 xs false), (3, .pbox 0 0), (5, .int .i64 (q.1 : Nat))])
    (fun q => pN q.2) (fun q => 120 - q.1) (0, PS0) [0, 1, 2, 3, 4, 5, 6, 7, 8, 9, 10, 11, 12, 13, 14, 15, 16, 17, 18, 19, 20] ⟨by simp, rfl, rfl, 0, 0, 0, 0, inv0⟩ ?_ ?_
  · simp [Emb, go_sem, PS0, LS0, sv, irows, terows, me, prows]
  rintro ⟨i, p⟩ ⟨hi, hca, hcb, Na, Mb, Nb, Ma, hI⟩
  simp only at hi hca hcb hI ⊢
  by_cases c : i < xs.length ∧ i < 120
  · have hlt : i < xs.length := by omega
    have hin1 : (i : Int) < (xs.length : Int) := by omega
    have hin2 : (i : Int) < 120 := by omega
    obtain ⟨a, hrow⟩ := act_row (hx _ (List.getElem_mem hlt))
    have hg0 : xs[i]? = some (arow a) := by rw [List.getElem?_eq_getElem hlt, hrow]
    have e0 : rint xs i 0 = a.kind := by simp [rint, List.getD_eq_getElem?_getD, hg0, arow]
    have e1 : rint xs i 1 = a.who := by simp [rint, List.getD_eq_getElem?_getD, hg0, arow]
    have e2 : rint xs i 2 = a.n := by simp [rint, List.getD_eq_getElem?_getD, hg0, arow]
    have e3 : rint xs i 3 = a.at' := by simp [rint, List.getD_eq_getElem?_getD, hg0, arow]
    have e4 : rint xs i 4 = a.y.toNat := by simp [rint, List.getD_eq_getElem?_getD, hg0, arow]
    have e5 : rstr xs i 5 = a.s := by simp [rstr, List.getD_eq_getElem?_getD, hg0, arow]
    have i0 : hasI .i64 xs i 0 := ⟨_, a.kind, hg0, rfl⟩
    have i1 : hasI .i64 xs i 1 := ⟨_, a.who, hg0, rfl⟩
    have i2 : hasI .i64 xs i 2 := ⟨_, a.n, hg0, rfl⟩
    have i3 : hasI .i64 xs i 3 := ⟨_, a.at', hg0, rfl⟩
    have i4 : hasI .u8 xs i 4 := ⟨_, (a.y.toNat : Int), hg0, rfl⟩
    have i5 : hasS xs i 5 := ⟨_, a.s, hg0, rfl⟩
    obtain ⟨hd, hn⟩ := does_spec hI (by omega) a
    obtain ⟨hca', hcb'⟩ := does_cm p a
    rw [hca] at hca'
    rw [hcb] at hcb'
    generalize doesF p a = p' at *
    simp only [actV, pN, pN2] at hd
    skip
    refine run_ok 4000 _ _ _ _ ?_
    simp (maxSteps := 10000000) only [go_sem, hin1, hin2, e0, e1, e2, e3, e4, e5, i0, i1, i2, i3, i4, i5, Int.natCast_nonneg, inc64 (show i < 1000000000000 by omega)]
    refine sem_call rfl rfl (((hd).embed [0, 1, 2, 3, 4, 5, 6, 7, 8, 9, 10, 11, 12, 13, 14, 15, 16, 17, 18, 19, 20] rfl (by repeat' first | exact trivial | rfl | (simp only [go_sem]; done) | constructor) rfl (by first | rfl | simp only [go_sem]) rfl (by simp)).mono ?_)
    rintro _ _ ⟨v2, m2, ⟨h1, h2⟩, h3, h4⟩
    subst h3
    subst h4
    subst h1
    subst h2
    refine run_ok 4000 _ _ _ _ ?_
    simp (maxSteps := 10000000) only [go_sem, hin1, hin2, e0, e1, e2, e3, e4, e5, i0, i1, i2, i3, i4, i5, Int.natCast_nonneg, inc64 (show i < 1000000000000 by omega)]
    refine ⟨(i + 1, p'), by simp only; omega, ⟨by simp only; omega, hca', hcb', hn⟩, [0, 1, 2, 3, 4, 21, 6, 22, 8, 9, 10, 11, 23, 13, 24, 25, 26, 27, 28, 29, 30], ?_⟩
    simp only [Emb, go_sem]
  · have hquiet := all_quiet hI hi hca hcb
    have hinv := iter_inv hI
    by_cases c1 : i < xs.length
    · have hin1 : (i : Int) < (xs.length : Int) := by omega
      have hin2 : ¬ (i : Int) < 120 := by omega
      skip
      refine run_ok 4000 _ _ _ _ ?_
      simp (maxSteps := 10000000) only [go_sem, hin1, hin2]
      refine run_ok 4000 _ _ _ _ ?_
      simp (maxSteps := 10000000) only [go_sem, hin1, hin2]
      refine sem_rounds (fun k : Nat => k ≤ 400) (fun k => [(3, .pbox 0 0), (6, .int .i64 (k : Nat))])
        (fun k => pN (iter k p)) (fun k => 400 - k) 0 [0, 1, 2, 3, 4, 5, 6, 7, 8, 9, 10, 11, 12, 13, 14, 15, 16, 17, 18, 19, 20] (by omega) ?_ ?_
      · simp [Emb, go_sem, iter]
      clear hin1 c
      have hi120 := hi
      generalize i = i0 at *
      intro i hi4
      obtain ⟨Na1, Mb1, Nb1, Ma1, hIq⟩ := hinv i
      have hquie := hquiet i
      have hit := iter_succ i p
      generalize iter i p = q at *
      by_cases ci : i < 400
      case neg =>
        have hge : ¬ (i : Int) < 400 := by omega
        obtain ⟨⟨qa1, qa2⟩, qb1, qb2⟩ := hquie (by omega)
        skip
        refine run_ok 4000 _ _ _ _ ?_
        simp (maxSteps := 10000000) only [go_sem, hge]
        refine run_ok 4000 _ _ _ _ ?_
        simp (maxSteps := 10000000) only [go_sem, hge]
        have ia := lidle_true q.a qa1 qa2
        have ib := lidle_true q.b qb1 qb2
        have z1 := congrArg List.length (hIq.ab.idle qa1 qa2)
        have z0 := congrArg List.length (hIq.ba.idle qb1 qb2)
        have zz1 : ((q.c1.length : Int) == (q.s0.length : Int)) = true := by rw [z1]; simp
        have zz0 : ((q.c0.length : Int) == (q.s1.length : Int)) = true := by rw [z0]; simp
        simp only [lkM, lkB] at ia ib
        skip
        refine sem_drawG l3_1_ok (by kernel_rfl) ?_
        intro KK hKK
        simp (maxSteps := 10000000) only [go_sem, l3_1, zz0, zz1]
        refine TriZ.of (((ia).embed [1, 2, 3, 4, 5, 6, 7] rfl (by repeat' first | exact trivial | rfl | (simp only [go_sem]; done) | constructor) rfl (by first | rfl | simp only [go_sem]) rfl (by simp)).mono ?_)
        rintro _ _ ⟨_, _, ⟨rfl, rfl⟩, rfl, rfl⟩
        simp (maxSteps := 10000000) only [go_sem, zz0, zz1]
        refine TriZ.of (((ib).embed [8, 9, 10, 11, 12, 13, 14] rfl (by repeat' first | exact trivial | rfl | (simp only [go_sem]; done) | constructor) rfl (by first | rfl | simp only [go_sem]) rfl (by simp)).mono ?_)
        rintro _ _ ⟨_, _, ⟨rfl, rfl⟩, rfl, rfl⟩
        simp (maxSteps := 10000000) only [go_sem, zz0, zz1]
        subst hKK
        simp (maxSteps := 10000000) only [go_sem, zz0, zz1]
        refine ⟨_, [], .like (Like.bool true) (.sub [] ?_ .done), rfl⟩
        simp only [EmbV, go_sem]
      have hlt4 : (i : Int) < 400 := by omega
      obtain ⟨oka, _⟩ := hIq.ok (by omega)
      obtain ⟨okb, _⟩ := hIq.swap.ok (by omega)
      have hnow := hIq.now
      have hpo := ppoll_spec q oka okb (by omega)
      obtain ⟨Na2, Nb2, hq⟩ := hIq.tick
      obtain ⟨Ma3, hq0, _⟩ := drain_live _ rfl hq
      have hro : roundF q = drain1 (drain0 (pollP q)) := rfl
      generalize hEq : i0 + i = Eq at *
      generalize pollP q = q1 at *
      simp only [pN, pN2] at hpo
      by_cases c3 : i < 3
      · have hlt3 : (i : Int) < 3 := by omega
        skip
        refine run_ok 4000 _ _ _ _ ?_
        simp (maxSteps := 10000000) only [go_sem, hlt4, hlt3]
        refine sem_call rfl rfl (((hpo).embed [0, 1, 2, 3, 4, 5, 6, 7, 8, 9, 10, 11, 12, 13, 14, 15, 16, 17, 18, 19, 20] rfl (by repeat' first | exact trivial | rfl | (simp only [go_sem]; done) | constructor) rfl (by first | rfl | simp only [go_sem]) rfl (by simp)).mono ?_)
        rintro _ _ ⟨v2, m2, ⟨h1, h2⟩, h3, h4⟩
        subst h3
        subst h4
        subst h1
        subst h2
        refine run_ok 4000 _ _ _ _ ?_
        simp (maxSteps := 10000000) only [go_sem, hlt4, hlt3]
        refine sem_rounds (fun k : Nat => k ≤ 2)
          (fun k => [(3, .pbox 0 0), (6, .int .i64 (i : Nat)), (64, .int .i64 (k : Nat))])
          (fun k => pN (stD q1 k)) (fun k => 2 - k) 0 [0, 1, 2, 3, 4, 21, 6, 22, 8, 9, 10, 11, 23, 13, 24, 25, 26, 27, 28, 29, 30] (by omega) ?_ ?_
        · simp only [stD0, stD1, stD2]; simp [Emb, go_sem]
        intro kk hkk
        by_cases hk0 : kk = 0
        · subst hk0
          have hin : (0 : Int) < 2 := by omega
          simp only [stD0, stD1, stD2]
          skip
          refine run_ok 4000 _ _ _ _ ?_
          simp (maxSteps := 10000000) only [go_sem, hin]
          refine sem_rounds (fun r : PS => (∃ Na Mb Nb Ma, Inv (Eq + 1) r Na Mb Nb Ma) ∧ drain0 r = drain0 q1)
            (fun r => [(3, .pbox 0 0), (6, .int .i64 (i : Nat)), (64, .int .i64 0), (7, .int .i64 0)])
            (fun r => pN r) (fun r => r.w0.length) q1 [0, 1, 2, 3, 4, 5, 6, 7, 8, 9, 10, 11, 12, 13, 14, 15, 16, 17, 18, 19, 20] ⟨⟨_, _, _, _, hq⟩, rfl⟩ ?_ ?_
          · simp [Emb, go_sem]
          rintro r ⟨⟨Na1, Mb1, Nb1, Ma1, hr⟩, hdr⟩
          by_cases hw : r.w0 = []
          · have hlen : ¬ (r.w0.length : Int) > 0 := by rw [hw]; simp
            skip
            refine run_ok 4000 _ _ _ _ ?_
            simp (maxSteps := 10000000) only [go_sem, hlen, show iwrap .i64 ((0 : Int) + 1) = 1 from rfl]
            refine run_ok 4000 _ _ _ _ ?_
            simp (maxSteps := 10000000) only [go_sem, hlen, show iwrap .i64 ((0 : Int) + 1) = 1 from rfl]
            rw [drain0_nil r hw] at hdr
            refine ⟨1, by omega, by omega, [0, 1, 2, 3, 4, 5, 6, 7, 8, 9, 10, 11, 12, 13, 14, 15, 16, 17, 18, 19, 20], ?_⟩
            simp only [stD0, stD1, stD2, ← hdr]
            simp [Emb, go_sem]
          · obtain ⟨d, w, hw⟩ := List.exists_cons_of_ne_nil hw
            have hd := hr.w0 d (by rw [hw]; simp)
            have hl0 := hr.l0
            have hsz := hr.sb
            have hNb : (Nb1 : Nat) ≤ 1000000 := by have := hr.ba.le; have := hr.ba.parts; omega
            have hdl := (Dg.len hd hNb).2
            rw [hw] at hl0
            simp only [List.length_cons] at hl0
            have hway := hr.way (w := w) (fun d hd => by rw [hw]; exact List.mem_cons_of_mem _ hd) (by omega)
            obtain ⟨ok, rb⟩ := hr.ok (by omega)
            obtain ⟨Ma2, q2, _, R, hR⟩ := hway.recv hd
            rw [drain0_cons r d w hw] at hdr
            have hp := prec0_spec { r with w0 := w } d ok (by omega) rb R hR (by simp only; omega)
            generalize hrr : recv0 { r with w0 := w } d = rr at *
            have hrw : rr.w0 = w := by rw [← hrr]; rfl
            clear hrr
            have hpos : ((w.length + 1 : Nat) : Int) > 0 := by omega
            have hle1 : (1 : Int) ≤ ((w.length + 1 : Nat) : Int) := by omega
            have hpos2 : (0 : Int) < ((w.length + 1 : Nat) : Int) := by omega
            have r0 : rstr (sv (d :: w)) 0 0 = d := rfl
            have h0 : hasS (sv (d :: w)) 0 0 := ⟨_, d, rfl, rfl⟩
            have hdrop : (sv (d :: w)).drop 1 = sv w := rfl
            have hlw : (d :: w).length = w.length + 1 := rfl
            have hsvl : (sv (d :: w)).length = w.length + 1 := by rw [sv_len]; rfl
            skip
            refine run_ok 4000 _ _ _ _ ?_
            simp (maxSteps := 10000000) only [go_sem, hw, hlw, hpos, hle1, hpos2, r0, h0, hdrop, Int.toNat_one, Int.toNat_zero, Nat.add_sub_cancel]
            refine sem_drawG l3_0_ok (by kernel_rfl) ?_
            intro KK hKK
            simp (maxSteps := 10000000) only [go_sem, l3_0, hw, hlw, hpos, hle1, hpos2, r0, h0, hdrop, Int.toNat_one, Int.toNat_zero, Nat.add_sub_cancel]
            subst hKK
            simp (maxSteps := 10000000) only [go_sem, hw, hlw, hpos, hle1, hpos2, r0, h0, hdrop, Int.toNat_one, Int.toNat_zero, Nat.add_sub_cancel]
            refine sem_drop 15 1 rfl (by rw [hsvl]; omega) ?_
            simp (maxSteps := 10000000) only [go_sem, hw, hlw, hpos, hle1, hpos2, r0, h0, hdrop, Int.toNat_one, Int.toNat_zero, Nat.add_sub_cancel]
            generalize sv (d :: w) = DW at *
            simp only [pN, pN2] at hp
            refine sem_call rfl rfl (((hp).embed [0, 1, 2, 3, 4, 5, 6, 7, 8, 9, 10, 11, 12, 13, 14, 21, 16, 17, 18, 19, 20] rfl (by repeat' first | exact trivial | rfl | (simp only [go_sem]; done) | constructor) rfl (by first | rfl | simp only [go_sem]) rfl (by simp)).mono ?_)
            rintro _ _ ⟨v2, m2, ⟨h1, h2⟩, h3, h4⟩
            subst h3
            subst h4
            subst h1
            subst h2
            refine run_ok 4000 _ _ _ _ ?_
            simp (maxSteps := 10000000) only [go_sem, hw, hlw, hpos, hle1, hpos2, r0, h0, hdrop, Int.toNat_one, Int.toNat_zero, Nat.add_sub_cancel]
            refine ⟨rr, by simp only [hrw, hw, List.length_cons]; omega, ⟨⟨_, _, _, _, q2⟩, hdr⟩, [0, 1, 2, 3, 4, 22, 6, 23, 8, 9, 10, 11, 24, 13, 25, 26, 27, 28, 29, 30, 31], ?_⟩
            simp only [Emb, go_sem]
        by_cases hk1 : kk = 1
        · subst hk1
          have hin : (1 : Int) < 2 := by omega
          simp only [stD0, stD1, stD2]
          skip
          refine run_ok 4000 _ _ _ _ ?_
          simp (maxSteps := 10000000) only [go_sem, hin]
          refine sem_rounds (fun r : PS => (∃ Na Mb Nb Ma, Inv (Eq + 1) r Na Mb Nb Ma) ∧ drain1 r = drain1 (drain0 q1))
            (fun r => [(3, .pbox 0 0), (6, .int .i64 (i : Nat)), (64, .int .i64 1), (7, .int .i64 1)])
            (fun r => pN r) (fun r => r.w1.length) (drain0 q1) [0, 1, 2, 3, 4, 5, 6, 7, 8, 9, 10, 11, 12, 13, 14, 15, 16, 17, 18, 19, 20] ⟨⟨_, _, _, _, hq0⟩, rfl⟩ ?_ ?_
          · simp [Emb, go_sem]
          rintro r ⟨⟨Na1, Mb1, Nb1, Ma1, hr⟩, hdr⟩
          by_cases hw : r.w1 = []
          · have hlen : ¬ (r.w1.length : Int) > 0 := by rw [hw]; simp
            skip
            refine run_ok 4000 _ _ _ _ ?_
            simp (maxSteps := 10000000) only [go_sem, hlen, show iwrap .i64 (2 : Int) = 2 from rfl]
            refine run_ok 4000 _ _ _ _ ?_
            simp (maxSteps := 10000000) only [go_sem, hlen, show iwrap .i64 (2 : Int) = 2 from rfl]
            rw [drain1_nil r hw] at hdr
            refine ⟨2, by omega, by omega, [0, 1, 2, 3, 4, 5, 6, 7, 8, 9, 10, 11, 12, 13, 14, 15, 16, 17, 18, 19, 20], ?_⟩
            simp only [stD0, stD1, stD2, ← hdr]
            simp [Emb, go_sem]
          · obtain ⟨d, w, hw⟩ := List.exists_cons_of_ne_nil hw
            have hs := hr.swap
            have hd := hs.w0 d (by show d ∈ r.w1; rw [hw]; simp)
            have hl1 := hr.l1
            have hsz := hr.sa
            have hNa : (Na1 : Nat) ≤ 1000000 := by have := hr.ab.le; have := hr.ab.parts; omega
            have hdl := (Dg.len hd hNa).2
            rw [hw] at hl1
            simp only [List.length_cons] at hl1
            have hway := hs.way (w := w) (fun d hd => by show d ∈ r.w1; rw [hw]; exact List.mem_cons_of_mem _ hd) (by omega)
            obtain ⟨ok, rb⟩ := hs.ok (by omega)
            obtain ⟨Ma2, q2, _, R, hR⟩ := hway.recv hd
            replace q2 := q2.swap
            have esw : sw (recv0 { sw r with w0 := w } d) = recv1 { r with w1 := w } d := rfl
            rw [esw] at q2
            rw [drain1_cons r d w hw] at hdr
            have hp := prec1_spec { r with w1 := w } d ok (by omega) rb R hR (by simp only; omega)
            generalize hrr : recv1 { r with w1 := w } d = rr at *
            have hrw : rr.w1 = w := by rw [← hrr]; rfl
            clear hrr
            have hpos : ((w.length + 1 : Nat) : Int) > 0 := by omega
            have hle1 : (1 : Int) ≤ ((w.length + 1 : Nat) : Int) := by omega
            have hpos2 : (0 : Int) < ((w.length + 1 : Nat) : Int) := by omega
            have r0 : rstr (sv (d :: w)) 0 0 = d := rfl
            have h0 : hasS (sv (d :: w)) 0 0 := ⟨_, d, rfl, rfl⟩
            have hdrop : (sv (d :: w)).drop 1 = sv w := rfl
            have hlw : (d :: w).length = w.length + 1 := rfl
            have hsvl : (sv (d :: w)).length = w.length + 1 := by rw [sv_len]; rfl
            skip
            refine run_ok 4000 _ _ _ _ ?_
            simp (maxSteps := 10000000) only [go_sem, hw, hlw, hpos, hle1, hpos2, r0, h0, hdrop, Int.toNat_one, Int.toNat_zero, Nat.add_sub_cancel]
            refine sem_drawG l3_0_ok (by kernel_rfl) ?_
            intro KK hKK
            simp (maxSteps := 10000000) only [go_sem, l3_0, hw, hlw, hpos, hle1, hpos2, r0, h0, hdrop, Int.toNat_one, Int.toNat_zero, Nat.add_sub_cancel]
            subst hKK
            simp (maxSteps := 10000000) only [go_sem, hw, hlw, hpos, hle1, hpos2, r0, h0, hdrop, Int.toNat_one, Int.toNat_zero, Nat.add_sub_cancel]
            refine sem_drop 16 1 rfl (by rw [hsvl]; omega) ?_
            simp (maxSteps := 10000000) only [go_sem, hw, hlw, hpos, hle1, hpos2, r0, h0, hdrop, Int.toNat_one, Int.toNat_zero, Nat.add_sub_cancel]
            generalize sv (d :: w) = DW at *
            simp only [pN, pN2] at hp
            refine sem_call rfl rfl (((hp).embed [0, 1, 2, 3, 4, 5, 6, 7, 8, 9, 10, 11, 12, 13, 14, 15, 21, 17, 18, 19, 20] rfl (by repeat' first | exact trivial | rfl | (simp only [go_sem]; done) | constructor) rfl (by first | rfl | simp only [go_sem]) rfl (by simp)).mono ?_)
            rintro _ _ ⟨v2, m2, ⟨h1, h2⟩, h3, h4⟩
            subst h3
            subst h4
            subst h1
            subst h2
            refine run_ok 4000 _ _ _ _ ?_
            simp (maxSteps := 10000000) only [go_sem, hw, hlw, hpos, hle1, hpos2, r0, h0, hdrop, Int.toNat_one, Int.toNat_zero, Nat.add_sub_cancel]
            refine ⟨rr, by simp only [hrw, hw, List.length_cons]; omega, ⟨⟨_, _, _, _, q2⟩, hdr⟩, [0, 1, 2, 3, 4, 22, 6, 23, 8, 9, 10, 11, 24, 13, 25, 26, 27, 28, 29, 30, 31], ?_⟩
            simp only [Emb, go_sem]
        have hk2 : kk = 2 := by omega
        subst hk2
        have hgg : ¬ (2 : Int) < 2 := by omega
        simp only [stD0, stD1, stD2]
        rw [← hro]
        skip
        refine run_ok 4000 _ _ _ _ ?_
        simp (maxSteps := 10000000) only [go_sem, hgg, inc64 (show i < 1000000000000 by omega)]
        refine run_ok 4000 _ _ _ _ ?_
        simp (maxSteps := 10000000) only [go_sem, hgg, inc64 (show i < 1000000000000 by omega)]
        refine ⟨i + 1, by omega, by omega, [0, 1, 2, 3, 4, 5, 6, 7, 8, 9, 10, 11, 12, 13, 14, 15, 16, 17, 18, 19, 20], ?_⟩
        rw [hit]
        simp [Emb, go_sem]
      have hge3 : ¬ (i : Int) < 3 := by omega
      by_cases ca : q.a.ws = [] ∧ q.a.ol = []
      case neg =>
        have ia := lidle_false q.a ca
        simp only [lkM, lkB] at ia
        skip
        refine run_ok 4000 _ _ _ _ ?_
        simp (maxSteps := 10000000) only [go_sem, hlt4, hge3]
        refine sem_call rfl rfl (((ia).embed [1, 2, 3, 4, 5, 6, 7] rfl (by repeat' first | exact trivial | rfl | (simp only [go_sem]; done) | constructor) rfl (by first | rfl | simp only [go_sem]) rfl (by simp)).mono ?_)
        rintro _ _ ⟨v2, m2, ⟨h1, h2⟩, h3, h4⟩
        subst h3
        subst h4
        subst h1
        subst h2
        refine run_ok 4000 _ _ _ _ ?_
        simp (maxSteps := 10000000) only [go_sem, hlt4, hge3]
        refine sem_call rfl rfl (((hpo).embed [0, 1, 2, 3, 4, 5, 6, 7, 8, 9, 10, 11, 12, 13, 14, 15, 16, 17, 18, 19, 20] rfl (by repeat' first | exact trivial | rfl | (simp only [go_sem]; done) | constructor) rfl (by first | rfl | simp only [go_sem]) rfl (by simp)).mono ?_)
        rintro _ _ ⟨v2, m2, ⟨h1, h2⟩, h3, h4⟩
        subst h3
        subst h4
        subst h1
        subst h2
        refine run_ok 4000 _ _ _ _ ?_
        simp (maxSteps := 10000000) only [go_sem, hlt4, hge3]
        refine sem_rounds (fun k : Nat => k ≤ 2)
          (fun k => [(3, .pbox 0 0), (6, .int .i64 (i : Nat)), (64, .int .i64 (k : Nat))])
          (fun k => pN (stD q1 k)) (fun k => 2 - k) 0 [0, 1, 2, 3, 4, 21, 6, 22, 8, 9, 10, 11, 23, 13, 24, 25, 26, 27, 28, 29, 30] (by omega) ?_ ?_
        · simp only [stD0, stD1, stD2]; simp [Emb, go_sem]
        intro kk hkk
        by_cases hk0 : kk = 0
        · subst hk0
          have hin : (0 : Int) < 2 := by omega
          simp only [stD0, stD1, stD2]
          skip
          refine run_ok 4000 _ _ _ _ ?_
          simp (maxSteps := 10000000) only [go_sem, hin]
          refine sem_rounds (fun r : PS => (∃ Na Mb Nb Ma, Inv (Eq + 1) r Na Mb Nb Ma) ∧ drain0 r = drain0 q1)
            (fun r => [(3, .pbox 0 0), (6, .int .i64 (i : Nat)), (64, .int .i64 0), (7, .int .i64 0)])
            (fun r => pN r) (fun r => r.w0.length) q1 [0, 1, 2, 3, 4, 5, 6, 7, 8, 9, 10, 11, 12, 13, 14, 15, 16, 17, 18, 19, 20] ⟨⟨_, _, _, _, hq⟩, rfl⟩ ?_ ?_
          · simp [Emb, go_sem]
          rintro r ⟨⟨Na1, Mb1, Nb1, Ma1, hr⟩, hdr⟩
          by_cases hw : r.w0 = []
          · have hlen : ¬ (r.w0.length : Int) > 0 := by rw [hw]; simp
            skip
            refine run_ok 4000 _ _ _ _ ?_
            simp (maxSteps := 10000000) only [go_sem, hlen, show iwrap .i64 ((0 : Int) + 1) = 1 from rfl]
            refine run_ok 4000 _ _ _ _ ?_
            simp (maxSteps := 10000000) only [go_sem, hlen, show iwrap .i64 ((0 : Int) + 1) = 1 from rfl]
            rw [drain0_nil r hw] at hdr
            refine ⟨1, by omega, by omega, [0, 1, 2, 3, 4, 5, 6, 7, 8, 9, 10, 11, 12, 13, 14, 15, 16, 17, 18, 19, 20], ?_⟩
            simp only [stD0, stD1, stD2, ← hdr]
            simp [Emb, go_sem]
          · obtain ⟨d, w, hw⟩ := List.exists_cons_of_ne_nil hw
            have hd := hr.w0 d (by rw [hw]; simp)
            have hl0 := hr.l0
            have hsz := hr.sb
            have hNb : (Nb1 : Nat) ≤ 1000000 := by have := hr.ba.le; have := hr.ba.parts; omega
            have hdl := (Dg.len hd hNb).2
            rw [hw] at hl0
            simp only [List.length_cons] at hl0
            have hway := hr.way (w := w) (fun d hd => by rw [hw]; exact List.mem_cons_of_mem _ hd) (by omega)
            obtain ⟨ok, rb⟩ := hr.ok (by omega)
            obtain ⟨Ma2, q2, _, R, hR⟩ := hway.recv hd
            rw [drain0_cons r d w hw] at hdr
            have hp := prec0_spec { r with w0 := w } d ok (by omega) rb R hR (by simp only; omega)
            generalize hrr : recv0 { r with w0 := w } d = rr at *
            have hrw : rr.w0 = w := by rw [← hrr]; rfl
            clear hrr
            have hpos : ((w.length + 1 : Nat) : Int) > 0 := by omega
            have hle1 : (1 : Int) ≤ ((w.length + 1 : Nat) : Int) := by omega
            have hpos2 : (0 : Int) < ((w.length + 1 : Nat) : Int) := by omega
            have r0 : rstr (sv (d :: w)) 0 0 = d := rfl
            have h0 : hasS (sv (d :: w)) 0 0 := ⟨_, d, rfl, rfl⟩
            have hdrop : (sv (d :: w)).drop 1 = sv w := rfl
            have hlw : (d :: w).length = w.length + 1 := rfl
            have hsvl : (sv (d :: w)).length = w.length + 1 := by rw [sv_len]; rfl
            skip
            refine run_ok 4000 _ _ _ _ ?_
            simp (maxSteps := 10000000) only [go_sem, hw, hlw, hpos, hle1, hpos2, r0, h0, hdrop, Int.toNat_one, Int.toNat_zero, Nat.add_sub_cancel]
            refine sem_drawG l3_0_ok (by kernel_rfl) ?_
            intro KK hKK
            simp (maxSteps := 10000000) only [go_sem, l3_0, hw, hlw, hpos, hle1, hpos2, r0, h0, hdrop, Int.toNat_one, Int.toNat_zero, Nat.add_sub_cancel]
            subst hKK
            simp (maxSteps := 10000000) only [go_sem, hw, hlw, hpos, hle1, hpos2, r0, h0, hdrop, Int.toNat_one, Int.toNat_zero, Nat.add_sub_cancel]
            refine sem_drop 15 1 rfl (by rw [hsvl]; omega) ?_
            simp (maxSteps := 10000000) only [go_sem, hw, hlw, hpos, hle1, hpos2, r0, h0, hdrop, Int.toNat_one, Int.toNat_zero, Nat.add_sub_cancel]
            generalize sv (d :: w) = DW at *
            simp only [pN, pN2] at hp
            refine sem_call rfl rfl (((hp).embed [0, 1, 2, 3, 4, 5, 6, 7, 8, 9, 10, 11, 12, 13, 14, 21, 16, 17, 18, 19, 20] rfl (by repeat' first | exact trivial | rfl | (simp only [go_sem]; done) | constructor) rfl (by first | rfl | simp only [go_sem]) rfl (by simp)).mono ?_)
            rintro _ _ ⟨v2, m2, ⟨h1, h2⟩, h3, h4⟩
            subst h3
            subst h4
            subst h1
            subst h2
            refine run_ok 4000 _ _ _ _ ?_
            simp (maxSteps := 10000000) only [go_sem, hw, hlw, hpos, hle1, hpos2, r0, h0, hdrop, Int.toNat_one, Int.toNat_zero, Nat.add_sub_cancel]
            refine ⟨rr, by simp only [hrw, hw, List.length_cons]; omega, ⟨⟨_, _, _, _, q2⟩, hdr⟩, [0, 1, 2, 3, 4, 22, 6, 23, 8, 9, 10, 11, 24, 13, 25, 26, 27, 28, 29, 30, 31], ?_⟩
            simp only [Emb, go_sem]
        by_cases hk1 : kk = 1
        · subst hk1
          have hin : (1 : Int) < 2 := by omega
          simp only [stD0, stD1, stD2]
          skip
          refine run_ok 4000 _ _ _ _ ?_
          simp (maxSteps := 10000000) only [go_sem, hin]
          refine sem_rounds (fun r : PS => (∃ Na Mb Nb Ma, Inv (Eq + 1) r Na Mb Nb Ma) ∧ drain1 r = drain1 (drain0 q1))
            (fun r => [(3, .pbox 0 0), (6, .int .i64 (i : Nat)), (64, .int .i64 1), (7, .int .i64 1)])
            (fun r => pN r) (fun r => r.w1.length) (drain0 q1) [0, 1, 2, 3, 4, 5, 6, 7, 8, 9, 10, 11, 12, 13, 14, 15, 16, 17, 18, 19, 20] ⟨⟨_, _, _, _, hq0⟩, rfl⟩ ?_ ?_
          · simp [Emb, go_sem]
          rintro r ⟨⟨Na1, Mb1, Nb1, Ma1, hr⟩, hdr⟩
          by_cases hw : r.w1 = []
          · have hlen : ¬ (r.w1.length : Int) > 0 := by rw [hw]; simp
            skip
            refine run_ok 4000 _ _ _ _ ?_
            simp (maxSteps := 10000000) only [go_sem, hlen, show iwrap .i64 (2 : Int) = 2 from rfl]
            refine run_ok 4000 _ _ _ _ ?_
            simp (maxSteps := 10000000) only [go_sem, hlen, show iwrap .i64 (2 : Int) = 2 from rfl]
            rw [drain1_nil r hw] at hdr
            refine ⟨2, by omega, by omega, [0, 1, 2, 3, 4, 5, 6, 7, 8, 9, 10, 11, 12, 13, 14, 15, 16, 17, 18, 19, 20], ?_⟩
            simp only [stD0, stD1, stD2, ← hdr]
            simp [Emb, go_sem]
          · obtain ⟨d, w, hw⟩ := List.exists_cons_of_ne_nil hw
            have hs := hr.swap
            have hd := hs.w0 d (by show d ∈ r.w1; rw [hw]; simp)
            have hl1 := hr.l1
            have hsz := hr.sa
            have hNa : (Na1 : Nat) ≤ 1000000 := by have := hr.ab.le; have := hr.ab.parts; omega
            have hdl := (Dg.len hd hNa).2
            rw [hw] at hl1
            simp only [List.length_cons] at hl1
            have hway := hs.way (w := w) (fun d hd => by show d ∈ r.w1; rw [hw]; exact List.mem_cons_of_mem _ hd) (by omega)
            obtain ⟨ok, rb⟩ := hs.ok (by omega)
            obtain ⟨Ma2, q2, _, R, hR⟩ := hway.recv hd
            replace q2 := q2.swap
            have esw : sw (recv0 { sw r with w0 := w } d) = recv1 { r with w1 := w } d := rfl
            rw [esw] at q2
            rw [drain1_cons r d w hw] at hdr
            have hp := prec1_spec { r with w1 := w } d ok (by omega) rb R hR (by simp only; omega)
            generalize hrr : recv1 { r with w1 := w } d = rr at *
            have hrw : rr.w1 = w := by rw [← hrr]; rfl
            clear hrr
            have hpos : ((w.length + 1 : Nat) : Int) > 0 := by omega
            have hle1 : (1 : Int) ≤ ((w.length + 1 : Nat) : Int) := by omega
            have hpos2 : (0 : Int) < ((w.length + 1 : Nat) : Int) := by omega
            have r0 : rstr (sv (d :: w)) 0 0 = d := rfl
            have h0 : hasS (sv (d :: w)) 0 0 := ⟨_, d, rfl, rfl⟩
            have hdrop : (sv (d :: w)).drop 1 = sv w := rfl
            have hlw : (d :: w).length = w.length + 1 := rfl
            have hsvl : (sv (d :: w)).length = w.length + 1 := by rw [sv_len]; rfl
            skip
            refine run_ok 4000 _ _ _ _ ?_
            simp (maxSteps := 10000000) only [go_sem, hw, hlw, hpos, hle1, hpos2, r0, h0, hdrop, Int.toNat_one, Int.toNat_zero, Nat.add_sub_cancel]
            refine sem_drawG l3_0_ok (by kernel_rfl) ?_
            intro KK hKK
            simp (maxSteps := 10000000) only [go_sem, l3_0, hw, hlw, hpos, hle1, hpos2, r0, h0, hdrop, Int.toNat_one, Int.toNat_zero, Nat.add_sub_cancel]
            subst hKK
            simp (maxSteps := 10000000) only [go_sem, hw, hlw, hpos, hle1, hpos2, r0, h0, hdrop, Int.toNat_one, Int.toNat_zero, Nat.add_sub_cancel]
            refine sem_drop 16 1 rfl (by rw [hsvl]; omega) ?_
            simp (maxSteps := 10000000) only [go_sem, hw, hlw, hpos, hle1, hpos2, r0, h0, hdrop, Int.toNat_one, Int.toNat_zero, Nat.add_sub_cancel]
            generalize sv (d :: w) = DW at *
            simp only [pN, pN2] at hp
            refine sem_call rfl rfl (((hp).embed [0, 1, 2, 3, 4, 5, 6, 7, 8, 9, 10, 11, 12, 13, 14, 15, 21, 17, 18, 19, 20] rfl (by repeat' first | exact trivial | rfl | (simp only [go_sem]; done) | constructor) rfl (by first | rfl | simp only [go_sem]) rfl (by simp)).mono ?_)
            rintro _ _ ⟨v2, m2, ⟨h1, h2⟩, h3, h4⟩
            subst h3
            subst h4
            subst h1
            subst h2
            refine run_ok 4000 _ _ _ _ ?_
            simp (maxSteps := 10000000) only [go_sem, hw, hlw, hpos, hle1, hpos2, r0, h0, hdrop, Int.toNat_one, Int.toNat_zero, Nat.add_sub_cancel]
            refine ⟨rr, by simp only [hrw, hw, List.length_cons]; omega, ⟨⟨_, _, _, _, q2⟩, hdr⟩, [0, 1, 2, 3, 4, 22, 6, 23, 8, 9, 10, 11, 24, 13, 25, 26, 27, 28, 29, 30, 31], ?_⟩
            simp only [Emb, go_sem]
        have hk2 : kk = 2 := by omega
        subst hk2
        have hgg : ¬ (2 : Int) < 2 := by omega
        simp only [stD0, stD1, stD2]
        rw [← hro]
        skip
        refine run_ok 4000 _ _ _ _ ?_
        simp (maxSteps := 10000000) only [go_sem, hgg, inc64 (show i < 1000000000000 by omega)]
        refine run_ok 4000 _ _ _ _ ?_
        simp (maxSteps := 10000000) only [go_sem, hgg, inc64 (show i < 1000000000000 by omega)]
        refine ⟨i + 1, by omega, by omega, [0, 1, 2, 3, 4, 5, 6, 7, 8, 9, 10, 11, 12, 13, 14, 15, 16, 17, 18, 19, 20], ?_⟩
        rw [hit]
        simp [Emb, go_sem]
      have ia := lidle_true q.a ca.1 ca.2
      simp only [lkM, lkB] at ia
      by_cases cb : q.b.ws = [] ∧ q.b.ol = []
      case neg =>
        have ib := lidle_false q.b cb
        simp only [lkM, lkB] at ib
        skip
        refine run_ok 4000 _ _ _ _ ?_
        simp (maxSteps := 10000000) only [go_sem, hlt4, hge3]
        refine sem_call rfl rfl (((ia).embed [1, 2, 3, 4, 5, 6, 7] rfl (by repeat' first | exact trivial | rfl | (simp only [go_sem]; done) | constructor) rfl (by first | rfl | simp only [go_sem]) rfl (by simp)).mono ?_)
        rintro _ _ ⟨v2, m2, ⟨h1, h2⟩, h3, h4⟩
        subst h3
        subst h4
        subst h1
        subst h2
        refine run_ok 4000 _ _ _ _ ?_
        simp (maxSteps := 10000000) only [go_sem, hlt4, hge3]
        refine sem_call rfl rfl (((ib).embed [8, 9, 10, 11, 12, 13, 14] rfl (by repeat' first | exact trivial | rfl | (simp only [go_sem]; done) | constructor) rfl (by first | rfl | simp only [go_sem]) rfl (by simp)).mono ?_)
        rintro _ _ ⟨v2, m2, ⟨h1, h2⟩, h3, h4⟩
        subst h3
        subst h4
        subst h1
        subst h2
        refine run_ok 4000 _ _ _ _ ?_
        simp (maxSteps := 10000000) only [go_sem, hlt4, hge3]
        refine sem_call rfl rfl (((hpo).embed [0, 1, 2, 3, 4, 5, 6, 7, 8, 9, 10, 11, 12, 13, 14, 15, 16, 17, 18, 19, 20] rfl (by repeat' first | exact trivial | rfl | (simp only [go_sem]; done) | constructor) rfl (by first | rfl | simp only [go_sem]) rfl (by simp)).mono ?_)
        rintro _ _ ⟨v2, m2, ⟨h1, h2⟩, h3, h4⟩
        subst h3
        subst h4
        subst h1
        subst h2
        refine run_ok 4000 _ _ _ _ ?_
        simp (maxSteps := 10000000) only [go_sem, hlt4, hge3]
        refine sem_rounds (fun k : Nat => k ≤ 2)
          (fun k => [(3, .pbox 0 0), (6, .int .i64 (i : Nat)), (64, .int .i64 (k : Nat))])
          (fun k => pN (stD q1 k)) (fun k => 2 - k) 0 [0, 1, 2, 3, 4, 21, 6, 22, 8, 9, 10, 11, 23, 13, 24, 25, 26, 27, 28, 29, 30] (by omega) ?_ ?_
        · simp only [stD0, stD1, stD2]; simp [Emb, go_sem]
        intro kk hkk
        by_cases hk0 : kk = 0
        · subst hk0
          have hin : (0 : Int) < 2 := by omega
          simp only [stD0, stD1, stD2]
          skip
          refine run_ok 4000 _ _ _ _ ?_
          simp (maxSteps := 10000000) only [go_sem, hin]
          refine sem_rounds (fun r : PS => (∃ Na Mb Nb Ma, Inv (Eq + 1) r Na Mb Nb Ma) ∧ drain0 r = drain0 q1)
            (fun r => [(3, .pbox 0 0), (6, .int .i64 (i : Nat)), (64, .int .i64 0), (7, .int .i64 0)])
            (fun r => pN r) (fun r => r.w0.length) q1 [0, 1, 2, 3, 4, 5, 6, 7, 8, 9, 10, 11, 12, 13, 14, 15, 16, 17, 18, 19, 20] ⟨⟨_, _, _, _, hq⟩, rfl⟩ ?_ ?_
          · simp [Emb, go_sem]
          rintro r ⟨⟨Na1, Mb1, Nb1, Ma1, hr⟩, hdr⟩
          by_cases hw : r.w0 = []
          · have hlen : ¬ (r.w0.length : Int) > 0 := by rw [hw]; simp
            skip
            refine run_ok 4000 _ _ _ _ ?_
            simp (maxSteps := 10000000) only [go_sem, hlen, show iwrap .i64 ((0 : Int) + 1) = 1 from rfl]
            refine run_ok 4000 _ _ _ _ ?_
            simp (maxSteps := 10000000) only [go_sem, hlen, show iwrap .i64 ((0 : Int) + 1) = 1 from rfl]
            rw [drain0_nil r hw] at hdr
            refine ⟨1, by omega, by omega, [0, 1, 2, 3, 4, 5, 6, 7, 8, 9, 10, 11, 12, 13, 14, 15, 16, 17, 18, 19, 20], ?_⟩
            simp only [stD0, stD1, stD2, ← hdr]
            simp [Emb, go_sem]
          · obtain ⟨d, w, hw⟩ := List.exists_cons_of_ne_nil hw
            have hd := hr.w0 d (by rw [hw]; simp)
            have hl0 := hr.l0
            have hsz := hr.sb
            have hNb : (Nb1 : Nat) ≤ 1000000 := by have := hr.ba.le; have := hr.ba.parts; omega
            have hdl := (Dg.len hd hNb).2
            rw [hw] at hl0
            simp only [List.length_cons] at hl0
            have hway := hr.way (w := w) (fun d hd => by rw [hw]; exact List.mem_cons_of_mem _ hd) (by omega)
            obtain ⟨ok, rb⟩ := hr.ok (by omega)
            obtain ⟨Ma2, q2, _, R, hR⟩ := hway.recv hd
            rw [drain0_cons r d w hw] at hdr
            have hp := prec0_spec { r with w0 := w } d ok (by omega) rb R hR (by simp only; omega)
            generalize hrr : recv0 { r with w0 := w } d = rr at *
            have hrw : rr.w0 = w := by rw [← hrr]; rfl
            clear hrr
            have hpos : ((w.length + 1 : Nat) : Int) > 0 := by omega
            have hle1 : (1 : Int) ≤ ((w.length + 1 : Nat) : Int) := by omega
            have hpos2 : (0 : Int) < ((w.length + 1 : Nat) : Int) := by omega
            have r0 : rstr (sv (d :: w)) 0 0 = d := rfl
            have h0 : hasS (sv (d :: w)) 0 0 := ⟨_, d, rfl, rfl⟩
            have hdrop : (sv (d :: w)).drop 1 = sv w := rfl
            have hlw : (d :: w).length = w.length + 1 := rfl
            have hsvl : (sv (d :: w)).length = w.length + 1 := by rw [sv_len]; rfl
            skip
            refine run_ok 4000 _ _ _ _ ?_
            simp (maxSteps := 10000000) only [go_sem, hw, hlw, hpos, hle1, hpos2, r0, h0, hdrop, Int.toNat_one, Int.toNat_zero, Nat.add_sub_cancel]
            refine sem_drawG l3_0_ok (by kernel_rfl) ?_
            intro KK hKK
            simp (maxSteps := 10000000) only [go_sem, l3_0, hw, hlw, hpos, hle1, hpos2, r0, h0, hdrop, Int.toNat_one, Int.toNat_zero, Nat.add_sub_cancel]
            subst hKK
            simp (maxSteps := 10000000) only [go_sem, hw, hlw, hpos, hle1, hpos2, r0, h0, hdrop, Int.toNat_one, Int.toNat_zero, Nat.add_sub_cancel]
            refine sem_drop 15 1 rfl (by rw [hsvl]; omega) ?_
            simp (maxSteps := 10000000) only [go_sem, hw, hlw, hpos, hle1, hpos2, r0, h0, hdrop, Int.toNat_one, Int.toNat_zero, Nat.add_sub_cancel]
            generalize sv (d :: w) = DW at *
            simp only [pN, pN2] at hp
            refine sem_call rfl rfl (((hp).embed [0, 1, 2, 3, 4, 5, 6, 7, 8, 9, 10, 11, 12, 13, 14, 21, 16, 17, 18, 19, 20] rfl (by repeat' first | exact trivial | rfl | (simp only [go_sem]; done) | constructor) rfl (by first | rfl | simp only [go_sem]) rfl (by simp)).mono ?_)
            rintro _ _ ⟨v2, m2, ⟨h1, h2⟩, h3, h4⟩
            subst h3
            subst h4
            subst h1
            subst h2
            refine run_ok 4000 _ _ _ _ ?_
            simp (maxSteps := 10000000) only [go_sem, hw, hlw, hpos, hle1, hpos2, r0, h0, hdrop, Int.toNat_one, Int.toNat_zero, Nat.add_sub_cancel]
            refine ⟨rr, by simp only [hrw, hw, List.length_cons]; omega, ⟨⟨_, _, _, _, q2⟩, hdr⟩, [0, 1, 2, 3, 4, 22, 6, 23, 8, 9, 10, 11, 24, 13, 25, 26, 27, 28, 29, 30, 31], ?_⟩
            simp only [Emb, go_sem]
        by_cases hk1 : kk = 1
        · subst hk1
          have hin : (1 : Int) < 2 := by omega
          simp only [stD0, stD1, stD2]
          skip
          refine run_ok 4000 _ _ _ _ ?_
          simp (maxSteps := 10000000) only [go_sem, hin]
          refine sem_rounds (fun r : PS => (∃ Na Mb Nb Ma, Inv (Eq + 1) r Na Mb Nb Ma) ∧ drain1 r = drain1 (drain0 q1))
            (fun r => [(3, .pbox 0 0), (6, .int .i64 (i : Nat)), (64, .int .i64 1), (7, .int .i64 1)])
            (fun r => pN r) (fun r => r.w1.length) (drain0 q1) [0, 1, 2, 3, 4, 5, 6, 7, 8, 9, 10, 11, 12, 13, 14, 15, 16, 17, 18, 19, 20] ⟨⟨_, _, _, _, hq0⟩, rfl⟩ ?_ ?_
          · simp [Emb, go_sem]
          rintro r ⟨⟨Na1, Mb1, Nb1, Ma1, hr⟩, hdr⟩
          by_cases hw : r.w1 = []
          · have hlen : ¬ (r.w1.length : Int) > 0 := by rw [hw]; simp
            skip
            refine run_ok 4000 _ _ _ _ ?_
            simp (maxSteps := 10000000) only [go_sem, hlen, show iwrap .i64 (2 : Int) = 2 from rfl]
            refine run_ok 4000 _ _ _ _ ?_
            simp (maxSteps := 10000000) only [go_sem, hlen, show iwrap .i64 (2 : Int) = 2 from rfl]
            rw [drain1_nil r hw] at hdr
            refine ⟨2, by omega, by omega, [0, 1, 2, 3, 4, 5, 6, 7, 8, 9, 10, 11, 12, 13, 14, 15, 16, 17, 18, 19, 20], ?_⟩
            simp only [stD0, stD1, stD2, ← hdr]
            simp [Emb, go_sem]
          · obtain ⟨d, w, hw⟩ := List.exists_cons_of_ne_nil hw
            have hs := hr.swap
            have hd := hs.w0 d (by show d ∈ r.w1; rw [hw]; simp)
            have hl1 := hr.l1
            have hsz := hr.sa
            have hNa : (Na1 : Nat) ≤ 1000000 := by have := hr.ab.le; have := hr.ab.parts; omega
            have hdl := (Dg.len hd hNa).2
            rw [hw] at hl1
            simp only [List.length_cons] at hl1
            have hway := hs.way (w := w) (fun d hd => by show d ∈ r.w1; rw [hw]; exact List.mem_cons_of_mem _ hd) (by omega)
            obtain ⟨ok, rb⟩ := hs.ok (by omega)
            obtain ⟨Ma2, q2, _, R, hR⟩ := hway.recv hd
            replace q2 := q2.swap
            have esw : sw (recv0 { sw r with w0 := w } d) = recv1 { r with w1 := w } d := rfl
            rw [esw] at q2
            rw [drain1_cons r d w hw] at hdr
            have hp := prec1_spec { r with w1 := w } d ok (by omega) rb R hR (by simp only; omega)
            generalize hrr : recv1 { r with w1 := w } d = rr at *
            have hrw : rr.w1 = w := by rw [← hrr]; rfl
            clear hrr
            have hpos : ((w.length + 1 : Nat) : Int) > 0 := by omega
            have hle1 : (1 : Int) ≤ ((w.length + 1 : Nat) : Int) := by omega
            have hpos2 : (0 : Int) < ((w.length + 1 : Nat) : Int) := by omega
            have r0 : rstr (sv (d :: w)) 0 0 = d := rfl
            have h0 : hasS (sv (d :: w)) 0 0 := ⟨_, d, rfl, rfl⟩
            have hdrop : (sv (d :: w)).drop 1 = sv w := rfl
            have hlw : (d :: w).length = w.length + 1 := rfl
            have hsvl : (sv (d :: w)).length = w.length + 1 := by rw [sv_len]; rfl
            skip
            refine run_ok 4000 _ _ _ _ ?_
            simp (maxSteps := 10000000) only [go_sem, hw, hlw, hpos, hle1, hpos2, r0, h0, hdrop, Int.toNat_one, Int.toNat_zero, Nat.add_sub_cancel]
            refine sem_drawG l3_0_ok (by kernel_rfl) ?_
            intro KK hKK
            simp (maxSteps := 10000000) only [go_sem, l3_0, hw, hlw, hpos, hle1, hpos2, r0, h0, hdrop, Int.toNat_one, Int.toNat_zero, Nat.add_sub_cancel]
            subst hKK
            simp (maxSteps := 10000000) only [go_sem, hw, hlw, hpos, hle1, hpos2, r0, h0, hdrop, Int.toNat_one, Int.toNat_zero, Nat.add_sub_cancel]
            refine sem_drop 16 1 rfl (by rw [hsvl]; omega) ?_
            simp (maxSteps := 10000000) only [go_sem, hw, hlw, hpos, hle1, hpos2, r0, h0, hdrop, Int.toNat_one, Int.toNat_zero, Nat.add_sub_cancel]
            generalize sv (d :: w) = DW at *
            simp only [pN, pN2] at hp
            refine sem_call rfl rfl (((hp).embed [0, 1, 2, 3, 4, 5, 6, 7, 8, 9, 10, 11, 12, 13, 14, 15, 21, 17, 18, 19, 20] rfl (by repeat' first | exact trivial | rfl | (simp only [go_sem]; done) | constructor) rfl (by first | rfl | simp only [go_sem]) rfl (by simp)).mono ?_)
            rintro _ _ ⟨v2, m2, ⟨h1, h2⟩, h3, h4⟩
            subst h3
            subst h4
            subst h1
            subst h2
            refine run_ok 4000 _ _ _ _ ?_
            simp (maxSteps := 10000000) only [go_sem, hw, hlw, hpos, hle1, hpos2, r0, h0, hdrop, Int.toNat_one, Int.toNat_zero, Nat.add_sub_cancel]
            refine ⟨rr, by simp only [hrw, hw, List.length_cons]; omega, ⟨⟨_, _, _, _, q2⟩, hdr⟩, [0, 1, 2, 3, 4, 22, 6, 23, 8, 9, 10, 11, 24, 13, 25, 26, 27, 28, 29, 30, 31], ?_⟩
            simp only [Emb, go_sem]
        have hk2 : kk = 2 := by omega
        subst hk2
        have hgg : ¬ (2 : Int) < 2 := by omega
        simp only [stD0, stD1, stD2]
        rw [← hro]
        skip
        refine run_ok 4000 _ _ _ _ ?_
        simp (maxSteps := 10000000) only [go_sem, hgg, inc64 (show i < 1000000000000 by omega)]
        refine run_ok 4000 _ _ _ _ ?_
        simp (maxSteps := 10000000) only [go_sem, hgg, inc64 (show i < 1000000000000 by omega)]
        refine ⟨i + 1, by omega, by omega, [0, 1, 2, 3, 4, 5, 6, 7, 8, 9, 10, 11, 12, 13, 14, 15, 16, 17, 18, 19, 20], ?_⟩
        rw [hit]
        simp [Emb, go_sem]
      have ib := lidle_true q.b cb.1 cb.2
      simp only [lkM, lkB] at ib
      obtain ⟨qa1, qa2⟩ := ca
      obtain ⟨qb1, qb2⟩ := cb
      skip
      refine run_ok 4000 _ _ _ _ ?_
      simp (maxSteps := 10000000) only [go_sem, hlt4, hge3]
      refine sem_call rfl rfl (((ia).embed [1, 2, 3, 4, 5, 6, 7] rfl (by repeat' first | exact trivial | rfl | (simp only [go_sem]; done) | constructor) rfl (by first | rfl | simp only [go_sem]) rfl (by simp)).mono ?_)
      rintro _ _ ⟨v2, m2, ⟨h1, h2⟩, h3, h4⟩
      subst h3
      subst h4
      subst h1
      subst h2
      refine run_ok 4000 _ _ _ _ ?_
      simp (maxSteps := 10000000) only [go_sem, hlt4, hge3]
      refine sem_call rfl rfl (((ib).embed [8, 9, 10, 11, 12, 13, 14] rfl (by repeat' first | exact trivial | rfl | (simp only [go_sem]; done) | constructor) rfl (by first | rfl | simp only [go_sem]) rfl (by simp)).mono ?_)
      rintro _ _ ⟨v2, m2, ⟨h1, h2⟩, h3, h4⟩
      subst h3
      subst h4
      subst h1
      subst h2
      refine run_ok 4000 _ _ _ _ ?_
      simp (maxSteps := 10000000) only [go_sem, hlt4, hge3]
      clear ia ib
      have ia := lidle_true q.a qa1 qa2
      have ib := lidle_true q.b qb1 qb2
      have z1 := congrArg List.length (hIq.ab.idle qa1 qa2)
      have z0 := congrArg List.length (hIq.ba.idle qb1 qb2)
      have zz1 : ((q.c1.length : Int) == (q.s0.length : Int)) = true := by rw [z1]; simp
      have zz0 : ((q.c0.length : Int) == (q.s1.length : Int)) = true := by rw [z0]; simp
      simp only [lkM, lkB] at ia ib
      skip
      refine sem_drawG l3_1_ok (by kernel_rfl) ?_
      intro KK hKK
      simp (maxSteps := 10000000) only [go_sem, l3_1, zz0, zz1]
      refine TriZ.of (((ia).embed [1, 2, 3, 4, 5, 6, 7] rfl (by repeat' first | exact trivial | rfl | (simp only [go_sem]; done) | constructor) rfl (by first | rfl | simp only [go_sem]) rfl (by simp)).mono ?_)
      rintro _ _ ⟨_, _, ⟨rfl, rfl⟩, rfl, rfl⟩
      simp (maxSteps := 10000000) only [go_sem, zz0, zz1]
      refine TriZ.of (((ib).embed [8, 9, 10, 11, 12, 13, 14] rfl (by repeat' first | exact trivial | rfl | (simp only [go_sem]; done) | constructor) rfl (by first | rfl | simp only [go_sem]) rfl (by simp)).mono ?_)
      rintro _ _ ⟨_, _, ⟨rfl, rfl⟩, rfl, rfl⟩
      simp (maxSteps := 10000000) only [go_sem, zz0, zz1]
      subst hKK
      simp (maxSteps := 10000000) only [go_sem, zz0, zz1]
      refine ⟨_, [], .like (Like.bool true) (.sub [] ?_ .done), rfl⟩
      simp only [EmbV, go_sem]
    · have hin1 : ¬ (i : Int) < (xs.length : Int) := by omega
      skip
      refine run_ok 4000 _ _ _ _ ?_
      simp (maxSteps := 10000000) only [go_sem, hin1]
      refine run_ok 4000 _ _ _ _ ?_
      simp (maxSteps := 10000000) only [go_sem, hin1]
      refine sem_rounds (fun k : Nat => k ≤ 400) (fun k => [(3, .pbox 0 0), (6, .int .i64 (k : Nat))])
        (fun k => pN (iter k p)) (fun k => 400 - k) 0 [0, 1, 2, 3, 4, 5, 6, 7, 8, 9, 10, 11, 12, 13, 14, 15, 16, 17, 18, 19, 20] (by omega) ?_ ?_
      · simp [Emb, go_sem, iter]
      clear hin1 c
      have hi120 := hi
      generalize i = i0 at *
      intro i hi4
      obtain ⟨Na1, Mb1, Nb1, Ma1, hIq⟩ := hinv i
      have hquie := hquiet i
      have hit := iter_succ i p
      generalize iter i p = q at *
      by_cases ci : i < 400
      case neg =>
        have hge : ¬ (i : Int) < 400 := by omega
        obtain ⟨⟨qa1, qa2⟩, qb1, qb2⟩ := hquie (by omega)
        skip
        refine run_ok 4000 _ _ _ _ ?_
        simp (maxSteps := 10000000) only [go_sem, hge]
        refine run_ok 4000 _ _ _ _ ?_
        simp (maxSteps := 10000000) only [go_sem, hge]
        have ia := lidle_true q.a qa1 qa2
        have ib := lidle_true q.b qb1 qb2
        have z1 := congrArg List.length (hIq.ab.idle qa1 qa2)
        have z0 := congrArg List.length (hIq.ba.idle qb1 qb2)
        have zz1 : ((q.c1.length : Int) == (q.s0.length : Int)) = true := by rw [z1]; simp
        have zz0 : ((q.c0.length : Int) == (q.s1.length : Int)) = true := by rw [z0]; simp
        simp only [lkM, lkB] at ia ib
        skip
        refine sem_drawG l3_1_ok (by kernel_rfl) ?_
        intro KK hKK
        simp (maxSteps := 10000000) only [go_sem, l3_1, zz0, zz1]
        refine TriZ.of (((ia).embed [1, 2, 3, 4, 5, 6, 7] rfl (by repeat' first | exact trivial | rfl | (simp only [go_sem]; done) | constructor) rfl (by first | rfl | simp only [go_sem]) rfl (by simp)).mono ?_)
        rintro _ _ ⟨_, _, ⟨rfl, rfl⟩, rfl, rfl⟩
        simp (maxSteps := 10000000) only [go_sem, zz0, zz1]
        refine TriZ.of (((ib).embed [8, 9, 10, 11, 12, 13, 14] rfl (by repeat' first | exact trivial | rfl | (simp only [go_sem]; done) | constructor) rfl (by first | rfl | simp only [go_sem]) rfl (by simp)).mono ?_)
        rintro _ _ ⟨_, _, ⟨rfl, rfl⟩, rfl, rfl⟩
        simp (maxSteps := 10000000) only [go_sem, zz0, zz1]
        subst hKK
        simp (maxSteps := 10000000) only [go_sem, zz0, zz1]
        refine ⟨_, [], .like (Like.bool true) (.sub [] ?_ .done), rfl⟩
        simp only [EmbV, go_sem]
      have hlt4 : (i : Int) < 400 := by omega
      obtain ⟨oka, _⟩ := hIq.ok (by omega)
      obtain ⟨okb, _⟩ := hIq.swap.ok (by omega)
      have hnow := hIq.now
      have hpo := ppoll_spec q oka okb (by omega)
      obtain ⟨Na2, Nb2, hq⟩ := hIq.tick
      obtain ⟨Ma3, hq0, _⟩ := drain_live _ rfl hq
      have hro : roundF q = drain1 (drain0 (pollP q)) := rfl
      generalize hEq : i0 + i = Eq at *
      generalize pollP q = q1 at *
      simp only [pN, pN2] at hpo
      by_cases c3 : i < 3
      · have hlt3 : (i : Int) < 3 := by omega
        skip
        refine run_ok 4000 _ _ _ _ ?_
        simp (maxSteps := 10000000) only [go_sem, hlt4, hlt3]
        refine sem_call rfl rfl (((hpo).embed [0, 1, 2, 3, 4, 5, 6, 7, 8, 9, 10, 11, 12, 13, 14, 15, 16, 17, 18, 19, 20] rfl (by repeat' first | exact trivial | rfl | (simp only [go_sem]; done) | constructor) rfl (by first | rfl | simp only [go_sem]) rfl (by simp)).mono ?_)
        rintro _ _ ⟨v2, m2, ⟨h1, h2⟩, h3, h4⟩
        subst h3
        subst h4
        subst h1
        subst h2
        refine run_ok 4000 _ _ _ _ ?_
        simp (maxSteps := 10000000) only [go_sem, hlt4, hlt3]
        refine sem_rounds (fun k : Nat => k ≤ 2)
          (fun k => [(3, .pbox 0 0), (6, .int .i64 (i : Nat)), (64, .int .i64 (k : Nat))])
          (fun k => pN (stD q1 k)) (fun k => 2 - k) 0 [0, 1, 2, 3, 4, 21, 6, 22, 8, 9, 10, 11, 23, 13, 24, 25, 26, 27, 28, 29, 30] (by omega) ?_ ?_
        · simp only [stD0, stD1, stD2]; simp [Emb, go_sem]
        intro kk hkk
        by_cases hk0 : kk = 0
        · subst hk0
          have hin : (0 : Int) < 2 := by omega
          simp only [stD0, stD1, stD2]
          skip
          refine run_ok 4000 _ _ _ _ ?_
          simp (maxSteps := 10000000) only [go_sem, hin]
          refine sem_rounds (fun r : PS => (∃ Na Mb Nb Ma, Inv (Eq + 1) r Na Mb Nb Ma) ∧ drain0 r = drain0 q1)
            (fun r => [(3, .pbox 0 0), (6, .int .i64 (i : Nat)), (64, .int .i64 0), (7, .int .i64 0)])
            (fun r => pN r) (fun r => r.w0.length) q1 [0, 1, 2, 3, 4, 5, 6, 7, 8, 9, 10, 11, 12, 13, 14, 15, 16, 17, 18, 19, 20] ⟨⟨_, _, _, _, hq⟩, rfl⟩ ?_ ?_
          · simp [Emb, go_sem]
          rintro r ⟨⟨Na1, Mb1, Nb1, Ma1, hr⟩, hdr⟩
          by_cases hw : r.w0 = []
          · have hlen : ¬ (r.w0.length : Int) > 0 := by rw [hw]; simp
            skip
            refine run_ok 4000 _ _ _ _ ?_
            simp (maxSteps := 10000000) only [go_sem, hlen, show iwrap .i64 ((0 : Int) + 1) = 1 from rfl]
            refine run_ok 4000 _ _ _ _ ?_
            simp (maxSteps := 10000000) only [go_sem, hlen, show iwrap .i64 ((0 : Int) + 1) = 1 from rfl]
            rw [drain0_nil r hw] at hdr
            refine ⟨1, by omega, by omega, [0, 1, 2, 3, 4, 5, 6, 7, 8, 9, 10, 11, 12, 13, 14, 15, 16, 17, 18, 19, 20], ?_⟩
            simp only [stD0, stD1, stD2, ← hdr]
            simp [Emb, go_sem]
          · obtain ⟨d, w, hw⟩ := List.exists_cons_of_ne_nil hw
            have hd := hr.w0 d (by rw [hw]; simp)
            have hl0 := hr.l0
            have hsz := hr.sb
            have hNb : (Nb1 : Nat) ≤ 1000000 := by have := hr.ba.le; have := hr.ba.parts; omega
            have hdl := (Dg.len hd hNb).2
            rw [hw] at hl0
            simp only [List.length_cons] at hl0
            have hway := hr.way (w := w) (fun d hd => by rw [hw]; exact List.mem_cons_of_mem _ hd) (by omega)
            obtain ⟨ok, rb⟩ := hr.ok (by omega)
            obtain ⟨Ma2, q2, _, R, hR⟩ := hway.recv hd
            rw [drain0_cons r d w hw] at hdr
            have hp := prec0_spec { r with w0 := w } d ok (by omega) rb R hR (by simp only; omega)
            generalize hrr : recv0 { r with w0 := w } d = rr at *
            have hrw : rr.w0 = w := by rw [← hrr]; rfl
            clear hrr
            have hpos : ((w.length + 1 : Nat) : Int) > 0 := by omega
            have hle1 : (1 : Int) ≤ ((w.length + 1 : Nat) : Int) := by omega
            have hpos2 : (0 : Int) < ((w.length + 1 : Nat) : Int) := by omega
            have r0 : rstr (sv (d :: w)) 0 0 = d := rfl
            have h0 : hasS (sv (d :: w)) 0 0 := ⟨_, d, rfl, rfl⟩
            have hdrop : (sv (d :: w)).drop 1 = sv w := rfl
            have hlw : (d :: w).length = w.length + 1 := rfl
            have hsvl : (sv (d :: w)).length = w.length + 1 := by rw [sv_len]; rfl
            skip
            refine run_ok 4000 _ _ _ _ ?_
            simp (maxSteps := 10000000) only [go_sem, hw, hlw, hpos, hle1, hpos2, r0, h0, hdrop, Int.toNat_one, Int.toNat_zero, Nat.add_sub_cancel]
            refine sem_drawG l3_0_ok (by kernel_rfl) ?_
            intro KK hKK
            simp (maxSteps := 10000000) only [go_sem, l3_0, hw, hlw, hpos, hle1, hpos2, r0, h0, hdrop, Int.toNat_one, Int.toNat_zero, Nat.add_sub_cancel]
            subst hKK
            simp (maxSteps := 10000000) only [go_sem, hw, hlw, hpos, hle1, hpos2, r0, h0, hdrop, Int.toNat_one, Int.toNat_zero, Nat.add_sub_cancel]
            refine sem_drop 15 1 rfl (by rw [hsvl]; omega) ?_
            simp (maxSteps := 10000000) only [go_sem, hw, hlw, hpos, hle1, hpos2, r0, h0, hdrop, Int.toNat_one, Int.toNat_zero, Nat.add_sub_cancel]
            generalize sv (d :: w) = DW at *
            simp only [pN, pN2] at hp
            refine sem_call rfl rfl (((hp).embed [0, 1, 2, 3, 4, 5, 6, 7, 8, 9, 10, 11, 12, 13, 14, 21, 16, 17, 18, 19, 20] rfl (by repeat' first | exact trivial | rfl | (simp only [go_sem]; done) | constructor) rfl (by first | rfl | simp only [go_sem]) rfl (by simp)).mono ?_)
            rintro _ _ ⟨v2, m2, ⟨h1, h2⟩, h3, h4⟩
            subst h3
            subst h4
            subst h1
            subst h2
            refine run_ok 4000 _ _ _ _ ?_
            simp (maxSteps := 10000000) only [go_sem, hw, hlw, hpos, hle1, hpos2, r0, h0, hdrop, Int.toNat_one, Int.toNat_zero, Nat.add_sub_cancel]
            refine ⟨rr, by simp only [hrw, hw, List.length_cons]; omega, ⟨⟨_, _, _, _, q2⟩, hdr⟩, [0, 1, 2, 3, 4, 22, 6, 23, 8, 9, 10, 11, 24, 13, 25, 26, 27, 28, 29, 30, 31], ?_⟩
            simp only [Emb, go_sem]
        by_cases hk1 : kk = 1
        · subst hk1
          have hin : (1 : Int) < 2 := by omega
          simp only [stD0, stD1, stD2]
          skip
          refine run_ok 4000 _ _ _ _ ?_
          simp (maxSteps := 10000000) only [go_sem, hin]
          refine sem_rounds (fun r : PS => (∃ Na Mb Nb Ma, Inv (Eq + 1) r Na Mb Nb Ma) ∧ drain1 r = drain1 (drain0 q1))
            (fun r => [(3, .pbox 0 0), (6, .int .i64 (i : Nat)), (64, .int .i64 1), (7, .int .i64 1)])
            (fun r => pN r) (fun r => r.w1.length) (drain0 q1) [0, 1, 2, 3, 4, 5, 6, 7, 8, 9, 10, 11, 12, 13, 14, 15, 16, 17, 18, 19, 20] ⟨⟨_, _, _, _, hq0⟩, rfl⟩ ?_ ?_
          · simp [Emb, go_sem]
          rintro r ⟨⟨Na1, Mb1, Nb1, Ma1, hr⟩, hdr⟩
          by_cases hw : r.w1 = []
          · have hlen : ¬ (r.w1.length : Int) > 0 := by rw [hw]; simp
            skip
            refine run_ok 4000 _ _ _ _ ?_
            simp (maxSteps := 10000000) only [go_sem, hlen, show iwrap .i64 (2 : Int) = 2 from rfl]
            refine run_ok 4000 _ _ _ _ ?_
            simp (maxSteps := 10000000) only [go_sem, hlen, show iwrap .i64 (2 : Int) = 2 from rfl]
            rw [drain1_nil r hw] at hdr
            refine ⟨2, by omega, by omega, [0, 1, 2, 3, 4, 5, 6, 7, 8, 9, 10, 11, 12, 13, 14, 15, 16, 17, 18, 19, 20], ?_⟩
            simp only [stD0, stD1, stD2, ← hdr]
            simp [Emb, go_sem]
          · obtain ⟨d, w, hw⟩ := List.exists_cons_of_ne_nil hw
            have hs := hr.swap
            have hd := hs.w0 d (by show d ∈ r.w1; rw [hw]; simp)
            have hl1 := hr.l1
            have hsz := hr.sa
            have hNa : (Na1 : Nat) ≤ 1000000 := by have := hr.ab.le; have := hr.ab.parts; omega
            have hdl := (Dg.len hd hNa).2
            rw [hw] at hl1
            simp only [List.length_cons] at hl1
            have hway := hs.way (w := w) (fun d hd => by show d ∈ r.w1; rw [hw]; exact List.mem_cons_of_mem _ hd) (by omega)
            obtain ⟨ok, rb⟩ := hs.ok (by omega)
            obtain ⟨Ma2, q2, _, R, hR⟩ := hway.recv hd
            replace q2 := q2.swap
            have esw : sw (recv0 { sw r with w0 := w } d) = recv1 { r with w1 := w } d := rfl
            rw [esw] at q2
            rw [drain1_cons r d w hw] at hdr
            have hp := prec1_spec { r with w1 := w } d ok (by omega) rb R hR (by simp only; omega)
            generalize hrr : recv1 { r with w1 := w } d = rr at *
            have hrw : rr.w1 = w := by rw [← hrr]; rfl
            clear hrr
            have hpos : ((w.length + 1 : Nat) : Int) > 0 := by omega
            have hle1 : (1 : Int) ≤ ((w.length + 1 : Nat) : Int) := by omega
            have hpos2 : (0 : Int) < ((w.length + 1 : Nat) : Int) := by omega
            have r0 : rstr (sv (d :: w)) 0 0 = d := rfl
            have h0 : hasS (sv (d :: w)) 0 0 := ⟨_, d, rfl, rfl⟩
            have hdrop : (sv (d :: w)).drop 1 = sv w := rfl
            have hlw : (d :: w).length = w.length + 1 := rfl
            have hsvl : (sv (d :: w)).length = w.length + 1 := by rw [sv_len]; rfl
            skip
            refine run_ok 4000 _ _ _ _ ?_
            simp (maxSteps := 10000000) only [go_sem, hw, hlw, hpos, hle1, hpos2, r0, h0, hdrop, Int.toNat_one, Int.toNat_zero, Nat.add_sub_cancel]
            refine sem_drawG l3_0_ok (by kernel_rfl) ?_
            intro KK hKK
            simp (maxSteps := 10000000) only [go_sem, l3_0, hw, hlw, hpos, hle1, hpos2, r0, h0, hdrop, Int.toNat_one, Int.toNat_zero, Nat.add_sub_cancel]
            subst hKK
            simp (maxSteps := 10000000) only [go_sem, hw, hlw, hpos, hle1, hpos2, r0, h0, hdrop, Int.toNat_one, Int.toNat_zero, Nat.add_sub_cancel]
            refine sem_drop 16 1 rfl (by rw [hsvl]; omega) ?_
            simp (maxSteps := 10000000) only [go_sem, hw, hlw, hpos, hle1, hpos2, r0, h0, hdrop, Int.toNat_one, Int.toNat_zero, Nat.add_sub_cancel]
            generalize sv (d :: w) = DW at *
            simp only [pN, pN2] at hp
            refine sem_call rfl rfl (((hp).embed [0, 1, 2, 3, 4, 5, 6, 7, 8, 9, 10, 11, 12, 13, 14, 15, 21, 17, 18, 19, 20] rfl (by repeat' first | exact trivial | rfl | (simp only [go_sem]; done) | constructor) rfl (by first | rfl | simp only [go_sem]) rfl (by simp)).mono ?_)
            rintro _ _ ⟨v2, m2, ⟨h1, h2⟩, h3, h4⟩
            subst h3
            subst h4
            subst h1
            subst h2
            refine run_ok 4000 _ _ _ _ ?_
            simp (maxSteps := 10000000) only [go_sem, hw, hlw, hpos, hle1, hpos2, r0, h0, hdrop, Int.toNat_one, Int.toNat_zero, Nat.add_sub_cancel]
            refine ⟨rr, by simp only [hrw, hw, List.length_cons]; omega, ⟨⟨_, _, _, _, q2⟩, hdr⟩, [0, 1, 2, 3, 4, 22, 6, 23, 8, 9, 10, 11, 24, 13, 25, 26, 27, 28, 29, 30, 31], ?_⟩
            simp only [Emb, go_sem]
        have hk2 : kk = 2 := by omega
        subst hk2
        have hgg : ¬ (2 : Int) < 2 := by omega
        simp only [stD0, stD1, stD2]
        rw [← hro]
        skip
        refine run_ok 4000 _ _ _ _ ?_
        simp (maxSteps := 10000000) only [go_sem, hgg, inc64 (show i < 1000000000000 by omega)]
        refine run_ok 4000 _ _ _ _ ?_
        simp (maxSteps := 10000000) only [go_sem, hgg, inc64 (show i < 1000000000000 by omega)]
        refine ⟨i + 1, by omega, by omega, [0, 1, 2, 3, 4, 5, 6, 7, 8, 9, 10, 11, 12, 13, 14, 15, 16, 17, 18, 19, 20], ?_⟩
        rw [hit]
        simp [Emb, go_sem]
      have hge3 : ¬ (i : Int) < 3 := by omega
      by_cases ca : q.a.ws = [] ∧ q.a.ol = []
      case neg =>
        have ia := lidle_false q.a ca
        simp only [lkM, lkB] at ia
        skip
        refine run_ok 4000 _ _ _ _ ?_
        simp (maxSteps := 10000000) only [go_sem, hlt4, hge3]
        refine sem_call rfl rfl (((ia).embed [1, 2, 3, 4, 5, 6, 7] rfl (by repeat' first | exact trivial | rfl | (simp only [go_sem]; done) | constructor) rfl (by first | rfl | simp only [go_sem]) rfl (by simp)).mono ?_)
        rintro _ _ ⟨v2, m2, ⟨h1, h2⟩, h3, h4⟩
        subst h3
        subst h4
        subst h1
        subst h2
        refine run_ok 4000 _ _ _ _ ?_
        simp (maxSteps := 10000000) only [go_sem, hlt4, hge3]
        refine sem_call rfl rfl (((hpo).embed [0, 1, 2, 3, 4, 5, 6, 7, 8, 9, 10, 11, 12, 13, 14, 15, 16, 17, 18, 19, 20] rfl (by repeat' first | exact trivial | rfl | (simp only [go_sem]; done) | constructor) rfl (by first | rfl | simp only [go_sem]) rfl (by simp)).mono ?_)
        rintro _ _ ⟨v2, m2, ⟨h1, h2⟩, h3, h4⟩
        subst h3
        subst h4
        subst h1
        subst h2
        refine run_ok 4000 _ _ _ _ ?_
        simp (maxSteps := 10000000) only [go_sem, hlt4, hge3]
        refine sem_rounds (fun k : Nat => k ≤ 2)
          (fun k => [(3, .pbox 0 0), (6, .int .i64 (i : Nat)), (64, .int .i64 (k : Nat))])
          (fun k => pN (stD q1 k)) (fun k => 2 - k) 0 [0, 1, 2, 3, 4, 21, 6, 22, 8, 9, 10, 11, 23, 13, 24, 25, 26, 27, 28, 29, 30] (by omega) ?_ ?_
        · simp only [stD0, stD1, stD2]; simp [Emb, go_sem]
        intro kk hkk
        by_cases hk0 : kk = 0
        · subst hk0
          have hin : (0 : Int) < 2 := by omega
          simp only [stD0, stD1, stD2]
          skip
          refine run_ok 4000 _ _ _ _ ?_
          simp (maxSteps := 10000000) only [go_sem, hin]
          refine sem_rounds (fun r : PS => (∃ Na Mb Nb Ma, Inv (Eq + 1) r Na Mb Nb Ma) ∧ drain0 r = drain0 q1)
            (fun r => [(3, .pbox 0 0), (6, .int .i64 (i : Nat)), (64, .int .i64 0), (7, .int .i64 0)])
            (fun r => pN r) (fun r => r.w0.length) q1 [0, 1, 2, 3, 4, 5, 6, 7, 8, 9, 10, 11, 12, 13, 14, 15, 16, 17, 18, 19, 20] ⟨⟨_, _, _, _, hq⟩, rfl⟩ ?_ ?_
          · simp [Emb, go_sem]
          rintro r ⟨⟨Na1, Mb1, Nb1, Ma1, hr⟩, hdr⟩
          by_cases hw : r.w0 = []
          · have hlen : ¬ (r.w0.length : Int) > 0 := by rw [hw]; simp
            skip
            refine run_ok 4000 _ _ _ _ ?_
            simp (maxSteps := 10000000) only [go_sem, hlen, show iwrap .i64 ((0 : Int) + 1) = 1 from rfl]
            refine run_ok 4000 _ _ _ _ ?_
            simp (maxSteps := 10000000) only [go_sem, hlen, show iwrap .i64 ((0 : Int) + 1) = 1 from rfl]
            rw [drain0_nil r hw] at hdr
            refine ⟨1, by omega, by omega, [0, 1, 2, 3, 4, 5, 6, 7, 8, 9, 10, 11, 12, 13, 14, 15, 16, 17, 18, 19, 20], ?_⟩
            simp only [stD0, stD1, stD2, ← hdr]
            simp [Emb, go_sem]
          · obtain ⟨d, w, hw⟩ := List.exists_cons_of_ne_nil hw
            have hd := hr.w0 d (by rw [hw]; simp)
            have hl0 := hr.l0
            have hsz := hr.sb
            have hNb : (Nb1 : Nat) ≤ 1000000 := by have := hr.ba.le; have := hr.ba.parts; omega
            have hdl := (Dg.len hd hNb).2
            rw [hw] at hl0
            simp only [List.length_cons] at hl0
            have hway := hr.way (w := w) (fun d hd => by rw [hw]; exact List.mem_cons_of_mem _ hd) (by omega)
            obtain ⟨ok, rb⟩ := hr.ok (by omega)
            obtain ⟨Ma2, q2, _, R, hR⟩ := hway.recv hd
            rw [drain0_cons r d w hw] at hdr
            have hp := prec0_spec { r with w0 := w } d ok (by omega) rb R hR (by simp only; omega)
            generalize hrr : recv0 { r with w0 := w } d = rr at *
            have hrw : rr.w0 = w := by rw [← hrr]; rfl
            clear hrr
            have hpos : ((w.length + 1 : Nat) : Int) > 0 := by omega
            have hle1 : (1 : Int) ≤ ((w.length + 1 : Nat) : Int) := by omega
            have hpos2 : (0 : Int) < ((w.length + 1 : Nat) : Int) := by omega
            have r0 : rstr (sv (d :: w)) 0 0 = d := rfl
            have h0 : hasS (sv (d :: w)) 0 0 := ⟨_, d, rfl, rfl⟩
            have hdrop : (sv (d :: w)).drop 1 = sv w := rfl
            have hlw : (d :: w).length = w.length + 1 := rfl
            have hsvl : (sv (d :: w)).length = w.length + 1 := by rw [sv_len]; rfl
            skip
            refine run_ok 4000 _ _ _ _ ?_
            simp (maxSteps := 10000000) only [go_sem, hw, hlw, hpos, hle1, hpos2, r0, h0, hdrop, Int.toNat_one, Int.toNat_zero, Nat.add_sub_cancel]
            refine sem_drawG l3_0_ok (by kernel_rfl) ?_
            intro KK hKK
            simp (maxSteps := 10000000) only [go_sem, l3_0, hw, hlw, hpos, hle1, hpos2, r0, h0, hdrop, Int.toNat_one, Int.toNat_zero, Nat.add_sub_cancel]
            subst hKK
            simp (maxSteps := 10000000) only [go_sem, hw, hlw, hpos, hle1, hpos2, r0, h0, hdrop, Int.toNat_one, Int.toNat_zero, Nat.add_sub_cancel]
            refine sem_drop 15 1 rfl (by rw [hsvl]; omega) ?_
            simp (maxSteps := 10000000) only [go_sem, hw, hlw, hpos, hle1, hpos2, r0, h0, hdrop, Int.toNat_one, Int.toNat_zero, Nat.add_sub_cancel]
            generalize sv (d :: w) = DW at *
            simp only [pN, pN2] at hp
            refine sem_call rfl rfl (((hp).embed [0, 1, 2, 3, 4, 5, 6, 7, 8, 9, 10, 11, 12, 13, 14, 21, 16, 17, 18, 19, 20] rfl (by repeat' first | exact trivial | rfl | (simp only [go_sem]; done) | constructor) rfl (by first | rfl | simp only [go_sem]) rfl (by simp)).mono ?_)
            rintro _ _ ⟨v2, m2, ⟨h1, h2⟩, h3, h4⟩
            subst h3
            subst h4
            subst h1
            subst h2
            refine run_ok 4000 _ _ _ _ ?_
            simp (maxSteps := 10000000) only [go_sem, hw, hlw, hpos, hle1, hpos2, r0, h0, hdrop, Int.toNat_one, Int.toNat_zero, Nat.add_sub_cancel]
            refine ⟨rr, by simp only [hrw, hw, List.length_cons]; omega, ⟨⟨_, _, _, _, q2⟩, hdr⟩, [0, 1, 2, 3, 4, 22, 6, 23, 8, 9, 10, 11, 24, 13, 25, 26, 27, 28, 29, 30, 31], ?_⟩
            simp only [Emb, go_sem]
        by_cases hk1 : kk = 1
        · subst hk1
          have hin : (1 : Int) < 2 := by omega
          simp only [stD0, stD1, stD2]
          skip
          refine run_ok 4000 _ _ _ _ ?_
          simp (maxSteps := 10000000) only [go_sem, hin]
          refine sem_rounds (fun r : PS => (∃ Na Mb Nb Ma, Inv (Eq + 1) r Na Mb Nb Ma) ∧ drain1 r = drain1 (drain0 q1))
            (fun r => [(3, .pbox 0 0), (6, .int .i64 (i : Nat)), (64, .int .i64 1), (7, .int .i64 1)])
            (fun r => pN r) (fun r => r.w1.length) (drain0 q1) [0, 1, 2, 3, 4, 5, 6, 7, 8, 9, 10, 11, 12, 13, 14, 15, 16, 17, 18, 19, 20] ⟨⟨_, _, _, _, hq0⟩, rfl⟩ ?_ ?_
          · simp [Emb, go_sem]
          rintro r ⟨⟨Na1, Mb1, Nb1, Ma1, hr⟩, hdr⟩
          by_cases hw : r.w1 = []
          · have hlen : ¬ (r.w1.length : Int) > 0 := by rw [hw]; simp
            skip
            refine run_ok 4000 _ _ _ _ ?_
            simp (maxSteps := 10000000) only [go_sem, hlen, show iwrap .i64 (2 : Int) = 2 from rfl]
            refine run_ok 4000 _ _ _ _ ?_
            simp (maxSteps := 10000000) only [go_sem, hlen, show iwrap .i64 (2 : Int) = 2 from rfl]
            rw [drain1_nil r hw] at hdr
            refine ⟨2, by omega, by omega, [0, 1, 2, 3, 4, 5, 6, 7, 8, 9, 10, 11, 12, 13, 14, 15, 16, 17, 18, 19, 20], ?_⟩
            simp only [stD0, stD1, stD2, ← hdr]
            simp [Emb, go_sem]
          · obtain ⟨d, w, hw⟩ := List.exists_cons_of_ne_nil hw
            have hs := hr.swap
            have hd := hs.w0 d (by show d ∈ r.w1; rw [hw]; simp)
            have hl1 := hr.l1
            have hsz := hr.sa
            have hNa : (Na1 : Nat) ≤ 1000000 := by have := hr.ab.le; have := hr.ab.parts; omega
            have hdl := (Dg.len hd hNa).2
            rw [hw] at hl1
            simp only [List.length_cons] at hl1
            have hway := hs.way (w := w) (fun d hd => by show d ∈ r.w1; rw [hw]; exact List.mem_cons_of_mem _ hd) (by omega)
            obtain ⟨ok, rb⟩ := hs.ok (by omega)
            obtain ⟨Ma2, q2, _, R, hR⟩ := hway.recv hd
            replace q2 := q2.swap
            have esw : sw (recv0 { sw r with w0 := w } d) = recv1 { r with w1 := w } d := rfl
            rw [esw] at q2
            rw [drain1_cons r d w hw] at hdr
            have hp := prec1_spec { r with w1 := w } d ok (by omega) rb R hR (by simp only; omega)
            generalize hrr : recv1 { r with w1 := w } d = rr at *
            have hrw : rr.w1 = w := by rw [← hrr]; rfl
            clear hrr
            have hpos : ((w.length + 1 : Nat) : Int) > 0 := by omega
            have hle1 : (1 : Int) ≤ ((w.length + 1 : Nat) : Int) := by omega
            have hpos2 : (0 : Int) < ((w.length + 1 : Nat) : Int) := by omega
            have r0 : rstr (sv (d :: w)) 0 0 = d := rfl
            have h0 : hasS (sv (d :: w)) 0 0 := ⟨_, d, rfl, rfl⟩
            have hdrop : (sv (d :: w)).drop 1 = sv w := rfl
            have hlw : (d :: w).length = w.length + 1 := rfl
            have hsvl : (sv (d :: w)).length = w.length + 1 := by rw [sv_len]; rfl
            skip
            refine run_ok 4000 _ _ _ _ ?_
            simp (maxSteps := 10000000) only [go_sem, hw, hlw, hpos, hle1, hpos2, r0, h0, hdrop, Int.toNat_one, Int.toNat_zero, Nat.add_sub_cancel]
            refine sem_drawG l3_0_ok (by kernel_rfl) ?_
            intro KK hKK
            simp (maxSteps := 10000000) only [go_sem, l3_0, hw, hlw, hpos, hle1, hpos2, r0, h0, hdrop, Int.toNat_one, Int.toNat_zero, Nat.add_sub_cancel]
            subst hKK
            simp (maxSteps := 10000000) only [go_sem, hw, hlw, hpos, hle1, hpos2, r0, h0, hdrop, Int.toNat_one, Int.toNat_zero, Nat.add_sub_cancel]
            refine sem_drop 16 1 rfl (by rw [hsvl]; omega) ?_
            simp (maxSteps := 10000000) only [go_sem, hw, hlw, hpos, hle1, hpos2, r0, h0, hdrop, Int.toNat_one, Int.toNat_zero, Nat.add_sub_cancel]
            generalize sv (d :: w) = DW at *
            simp only [pN, pN2] at hp
            refine sem_call rfl rfl (((hp).embed [0, 1, 2, 3, 4, 5, 6, 7, 8, 9, 10, 11, 12, 13, 14, 15, 21, 17, 18, 19, 20] rfl (by repeat' first | exact trivial | rfl | (simp only [go_sem]; done) | constructor) rfl (by first | rfl | simp only [go_sem]) rfl (by simp)).mono ?_)
            rintro _ _ ⟨v2, m2, ⟨h1, h2⟩, h3, h4⟩
            subst h3
            subst h4
            subst h1
            subst h2
            refine run_ok 4000 _ _ _ _ ?_
            simp (maxSteps := 10000000) only [go_sem, hw, hlw, hpos, hle1, hpos2, r0, h0, hdrop, Int.toNat_one, Int.toNat_zero, Nat.add_sub_cancel]
            refine ⟨rr, by simp only [hrw, hw, List.length_cons]; omega, ⟨⟨_, _, _, _, q2⟩, hdr⟩, [0, 1, 2, 3, 4, 22, 6, 23, 8, 9, 10, 11, 24, 13, 25, 26, 27, 28, 29, 30, 31], ?_⟩
            simp only [Emb, go_sem]
        have hk2 : kk = 2 := by omega
        subst hk2
        have hgg : ¬ (2 : Int) < 2 := by omega
        simp only [stD0, stD1, stD2]
        rw [← hro]
        skip
        refine run_ok 4000 _ _ _ _ ?_
        simp (maxSteps := 10000000) only [go_sem, hgg, inc64 (show i < 1000000000000 by omega)]
        refine run_ok 4000 _ _ _ _ ?_
        simp (maxSteps := 10000000) only [go_sem, hgg, inc64 (show i < 1000000000000 by omega)]
        refine ⟨i + 1, by omega, by omega, [0, 1, 2, 3, 4, 5, 6, 7, 8, 9, 10, 11, 12, 13, 14, 15, 16, 17, 18, 19, 20], ?_⟩
        rw [hit]
        simp [Emb, go_sem]
      have ia := lidle_true q.a ca.1 ca.2
      simp only [lkM, lkB] at ia
      by_cases cb : q.b.ws = [] ∧ q.b.ol = []
      case neg =>
        have ib := lidle_false q.b cb
        simp only [lkM, lkB] at ib
        skip
        refine run_ok 4000 _ _ _ _ ?_
        simp (maxSteps := 10000000) only [go_sem, hlt4, hge3]
        refine sem_call rfl rfl (((ia).embed [1, 2, 3, 4, 5, 6, 7] rfl (by repeat' first | exact trivial | rfl | (simp only [go_sem]; done) | constructor) rfl (by first | rfl | simp only [go_sem]) rfl (by simp)).mono ?_)
        rintro _ _ ⟨v2, m2, ⟨h1, h2⟩, h3, h4⟩
        subst h3
        subst h4
        subst h1
        subst h2
        refine run_ok 4000 _ _ _ _ ?_
        simp (maxSteps := 10000000) only [go_sem, hlt4, hge3]
        refine sem_call rfl rfl (((ib).embed [8, 9, 10, 11, 12, 13, 14] rfl (by repeat' first | exact trivial | rfl | (simp only [go_sem]; done) | constructor) rfl (by first | rfl | simp only [go_sem]) rfl (by simp)).mono ?_)
        rintro _ _ ⟨v2, m2, ⟨h1, h2⟩, h3, h4⟩
        subst h3
        subst h4
        subst h1
        subst h2
        refine run_ok 4000 _ _ _ _ ?_
        simp (maxSteps := 10000000) only [go_sem, hlt4, hge3]
        refine sem_call rfl rfl (((hpo).embed [0, 1, 2, 3, 4, 5, 6, 7, 8, 9, 10, 11, 12, 13, 14, 15, 16, 17, 18, 19, 20] rfl (by repeat' first | exact trivial | rfl | (simp only [go_sem]; done) | constructor) rfl (by first | rfl | simp only [go_sem]) rfl (by simp)).mono ?_)
        rintro _ _ ⟨v2, m2, ⟨h1, h2⟩, h3, h4⟩
        subst h3
        subst h4
        subst h1
        subst h2
        refine run_ok 4000 _ _ _ _ ?_
        simp (maxSteps := 10000000) only [go_sem, hlt4, hge3]
        refine sem_rounds (fun k : Nat => k ≤ 2)
          (fun k => [(3, .pbox 0 0), (6, .int .i64 (i : Nat)), (64, .int .i64 (k : Nat))])
          (fun k => pN (stD q1 k)) (fun k => 2 - k) 0 [0, 1, 2, 3, 4, 21, 6, 22, 8, 9, 10, 11, 23, 13, 24, 25, 26, 27, 28, 29, 30] (by omega) ?_ ?_
        · simp only [stD0, stD1, stD2]; simp [Emb, go_sem]
        intro kk hkk
        by_cases hk0 : kk = 0
        · subst hk0
          have hin : (0 : Int) < 2 := by omega
          simp only [stD0, stD1, stD2]
          skip
          refine run_ok 4000 _ _ _ _ ?_
          simp (maxSteps := 10000000) only [go_sem, hin]
          refine sem_rounds (fun r : PS => (∃ Na Mb Nb Ma, Inv (Eq + 1) r Na Mb Nb Ma) ∧ drain0 r = drain0 q1)
            (fun r => [(3, .pbox 0 0), (6, .int .i64 (i : Nat)), (64, .int .i64 0), (7, .int .i64 0)])
            (fun r => pN r) (fun r => r.w0.length) q1 [0, 1, 2, 3, 4, 5, 6, 7, 8, 9, 10, 11, 12, 13, 14, 15, 16, 17, 18, 19, 20] ⟨⟨_, _, _, _, hq⟩, rfl⟩ ?_ ?_
          · simp [Emb, go_sem]
          rintro r ⟨⟨Na1, Mb1, Nb1, Ma1, hr⟩, hdr⟩
          by_cases hw : r.w0 = []
          · have hlen : ¬ (r.w0.length : Int) > 0 := by rw [hw]; simp
            skip
            refine run_ok 4000 _ _ _ _ ?_
            simp (maxSteps := 10000000) only [go_sem, hlen, show iwrap .i64 ((0 : Int) + 1) = 1 from rfl]
            refine run_ok 4000 _ _ _ _ ?_
            simp (maxSteps := 10000000) only [go_sem, hlen, show iwrap .i64 ((0 : Int) + 1) = 1 from rfl]
            rw [drain0_nil r hw] at hdr
            refine ⟨1, by omega, by omega, [0, 1, 2, 3, 4, 5, 6, 7, 8, 9, 10, 11, 12, 13, 14, 15, 16, 17, 18, 19, 20], ?_⟩
            simp only [stD0, stD1, stD2, ← hdr]
            simp [Emb, go_sem]
          · obtain ⟨d, w, hw⟩ := List.exists_cons_of_ne_nil hw
            have hd := hr.w0 d (by rw [hw]; simp)
            have hl0 := hr.l0
            have hsz := hr.sb
            have hNb : (Nb1 : Nat) ≤ 1000000 := by have := hr.ba.le; have := hr.ba.parts; omega
            have hdl := (Dg.len hd hNb).2
            rw [hw] at hl0
            simp only [List.length_cons] at hl0
            have hway := hr.way (w := w) (fun d hd => by rw [hw]; exact List.mem_cons_of_mem _ hd) (by omega)
            obtain ⟨ok, rb⟩ := hr.ok (by omega)
            obtain ⟨Ma2, q2, _, R, hR⟩ := hway.recv hd
            rw [drain0_cons r d w hw] at hdr
            have hp := prec0_spec { r with w0 := w } d ok (by omega) rb R hR (by simp only; omega)
            generalize hrr : recv0 { r with w0 := w } d = rr at *
            have hrw : rr.w0 = w := by rw [← hrr]; rfl
            clear hrr
            have hpos : ((w.length + 1 : Nat) : Int) > 0 := by omega
            have hle1 : (1 : Int) ≤ ((w.length + 1 : Nat) : Int) := by omega
            have hpos2 : (0 : Int) < ((w.length + 1 : Nat) : Int) := by omega
            have r0 : rstr (sv (d :: w)) 0 0 = d := rfl
            have h0 : hasS (sv (d :: w)) 0 0 := ⟨_, d, rfl, rfl⟩
            have hdrop : (sv (d :: w)).drop 1 = sv w := rfl
            have hlw : (d :: w).length = w.length + 1 := rfl
            have hsvl : (sv (d :: w)).length = w.length + 1 := by rw [sv_len]; rfl
            skip
            refine run_ok 4000 _ _ _ _ ?_
            simp (maxSteps := 10000000) only [go_sem, hw, hlw, hpos, hle1, hpos2, r0, h0, hdrop, Int.toNat_one, Int.toNat_zero, Nat.add_sub_cancel]
            refine sem_drawG l3_0_ok (by kernel_rfl) ?_
            intro KK hKK
            simp (maxSteps := 10000000) only [go_sem, l3_0, hw, hlw, hpos, hle1, hpos2, r0, h0, hdrop, Int.toNat_one, Int.toNat_zero, Nat.add_sub_cancel]
            subst hKK
            simp (maxSteps := 10000000) only [go_sem, hw, hlw, hpos, hle1, hpos2, r0, h0, hdrop, Int.toNat_one, Int.toNat_zero, Nat.add_sub_cancel]
            refine sem_drop 15 1 rfl (by rw [hsvl]; omega) ?_
            simp (maxSteps := 10000000) only [go_sem, hw, hlw, hpos, hle1, hpos2, r0, h0, hdrop, Int.toNat_one, Int.toNat_zero, Nat.add_sub_cancel]
            generalize sv (d :: w) = DW at *
            simp only [pN, pN2] at hp
            refine sem_call rfl rfl (((hp).embed [0, 1, 2, 3, 4, 5, 6, 7, 8, 9, 10, 11, 12, 13, 14, 21, 16, 17, 18, 19, 20] rfl (by repeat' first | exact trivial | rfl | (simp only [go_sem]; done) | constructor) rfl (by first | rfl | simp only [go_sem]) rfl (by simp)).mono ?_)
            rintro _ _ ⟨v2, m2, ⟨h1, h2⟩, h3, h4⟩
            subst h3
            subst h4
            subst h1
            subst h2
            refine run_ok 4000 _ _ _ _ ?_
            simp (maxSteps := 10000000) only [go_sem, hw, hlw, hpos, hle1, hpos2, r0, h0, hdrop, Int.toNat_one, Int.toNat_zero, Nat.add_sub_cancel]
            refine ⟨rr, by simp only [hrw, hw, List.length_cons]; omega, ⟨⟨_, _, _, _, q2⟩, hdr⟩, [0, 1, 2, 3, 4, 22, 6, 23, 8, 9, 10, 11, 24, 13, 25, 26, 27, 28, 29, 30, 31], ?_⟩
            simp only [Emb, go_sem]
        by_cases hk1 : kk = 1
        · subst hk1
          have hin : (1 : Int) < 2 := by omega
          simp only [stD0, stD1, stD2]
          skip
          refine run_ok 4000 _ _ _ _ ?_
          simp (maxSteps := 10000000) only [go_sem, hin]
          refine sem_rounds (fun r : PS => (∃ Na Mb Nb Ma, Inv (Eq + 1) r Na Mb Nb Ma) ∧ drain1 r = drain1 (drain0 q1))
            (fun r => [(3, .pbox 0 0), (6, .int .i64 (i : Nat)), (64, .int .i64 1), (7, .int .i64 1)])
            (fun r => pN r) (fun r => r.w1.length) (drain0 q1) [0, 1, 2, 3, 4, 5, 6, 7, 8, 9, 10, 11, 12, 13, 14, 15, 16, 17, 18, 19, 20] ⟨⟨_, _, _, _, hq0⟩, rfl⟩ ?_ ?_
          · simp [Emb, go_sem]
          rintro r ⟨⟨Na1, Mb1, Nb1, Ma1, hr⟩, hdr⟩
          by_cases hw : r.w1 = []
          · have hlen : ¬ (r.w1.length : Int) > 0 := by rw [hw]; simp
            skip
            refine run_ok 4000 _ _ _ _ ?_
            simp (maxSteps := 10000000) only [go_sem, hlen, show iwrap .i64 (2 : Int) = 2 from rfl]
            refine run_ok 4000 _ _ _ _ ?_
            simp (maxSteps := 10000000) only [go_sem, hlen, show iwrap .i64 (2 : Int) = 2 from rfl]
            rw [drain1_nil r hw] at hdr
            refine ⟨2, by omega, by omega, [0, 1, 2, 3, 4, 5, 6, 7, 8, 9, 10, 11, 12, 13, 14, 15, 16, 17, 18, 19, 20], ?_⟩
            simp only [stD0, stD1, stD2, ← hdr]
            simp [Emb, go_sem]
          · obtain ⟨d, w, hw⟩ := List.exists_cons_of_ne_nil hw
            have hs := hr.swap
            have hd := hs.w0 d (by show d ∈ r.w1; rw [hw]; simp)
            have hl1 := hr.l1
            have hsz := hr.sa
            have hNa : (Na1 : Nat) ≤ 1000000 := by have := hr.ab.le; have := hr.ab.parts; omega
            have hdl := (Dg.len hd hNa).2
            rw [hw] at hl1
            simp only [List.length_cons] at hl1
            have hway := hs.way (w := w) (fun d hd => by show d ∈ r.w1; rw [hw]; exact List.mem_cons_of_mem _ hd) (by omega)
            obtain ⟨ok, rb⟩ := hs.ok (by omega)
            obtain ⟨Ma2, q2, _, R, hR⟩ := hway.recv hd
            replace q2 := q2.swap
            have esw : sw (recv0 { sw r with w0 := w } d) = recv1 { r with w1 := w } d := rfl
            rw [esw] at q2
            rw [drain1_cons r d w hw] at hdr
            have hp := prec1_spec { r with w1 := w } d ok (by omega) rb R hR (by simp only; omega)
            generalize hrr : recv1 { r with w1 := w } d = rr at *
            have hrw : rr.w1 = w := by rw [← hrr]; rfl
            clear hrr
            have hpos : ((w.length + 1 : Nat) : Int) > 0 := by omega
            have hle1 : (1 : Int) ≤ ((w.length + 1 : Nat) : Int) := by omega
            have hpos2 : (0 : Int) < ((w.length + 1 : Nat) : Int) := by omega
            have r0 : rstr (sv (d :: w)) 0 0 = d := rfl
            have h0 : hasS (sv (d :: w)) 0 0 := ⟨_, d, rfl, rfl⟩
            have hdrop : (sv (d :: w)).drop 1 = sv w := rfl
            have hlw : (d :: w).length = w.length + 1 := rfl
            have hsvl : (sv (d :: w)).length = w.length + 1 := by rw [sv_len]; rfl
            skip
            refine run_ok 4000 _ _ _ _ ?_
            simp (maxSteps := 10000000) only [go_sem, hw, hlw, hpos, hle1, hpos2, r0, h0, hdrop, Int.toNat_one, Int.toNat_zero, Nat.add_sub_cancel]
            refine sem_drawG l3_0_ok (by kernel_rfl) ?_
            intro KK hKK
            simp (maxSteps := 10000000) only [go_sem, l3_0, hw, hlw, hpos, hle1, hpos2, r0, h0, hdrop, Int.toNat_one, Int.toNat_zero, Nat.add_sub_cancel]
            subst hKK
            simp (maxSteps := 10000000) only [go_sem, hw, hlw, hpos, hle1, hpos2, r0, h0, hdrop, Int.toNat_one, Int.toNat_zero, Nat.add_sub_cancel]
            refine sem_drop 16 1 rfl (by rw [hsvl]; omega) ?_
            simp (maxSteps := 10000000) only [go_sem, hw, hlw, hpos, hle1, hpos2, r0, h0, hdrop, Int.toNat_one, Int.toNat_zero, Nat.add_sub_cancel]
            generalize sv (d :: w) = DW at *
            simp only [pN, pN2] at hp
            refine sem_call rfl rfl (((hp).embed [0, 1, 2, 3, 4, 5, 6, 7, 8, 9, 10, 11, 12, 13, 14, 15, 21, 17, 18, 19, 20] rfl (by repeat' first | exact trivial | rfl | (simp only [go_sem]; done) | constructor) rfl (by first | rfl | simp only [go_sem]) rfl (by simp)).mono ?_)
            rintro _ _ ⟨v2, m2, ⟨h1, h2⟩, h3, h4⟩
            subst h3
            subst h4
            subst h1
            subst h2
            refine run_ok 4000 _ _ _ _ ?_
            simp (maxSteps := 10000000) only [go_sem, hw, hlw, hpos, hle1, hpos2, r0, h0, hdrop, Int.toNat_one, Int.toNat_zero, Nat.add_sub_cancel]
            refine ⟨rr, by simp only [hrw, hw, List.length_cons]; omega, ⟨⟨_, _, _, _, q2⟩, hdr⟩, [0, 1, 2, 3, 4, 22, 6, 23, 8, 9, 10, 11, 24, 13, 25, 26, 27, 28, 29, 30, 31], ?_⟩
            simp only [Emb, go_sem]
        have hk2 : kk = 2 := by omega
        subst hk2
        have hgg : ¬ (2 : Int) < 2 := by omega
        simp only [stD0, stD1, stD2]
        rw [← hro]
        skip
        refine run_ok 4000 _ _ _ _ ?_
        simp (maxSteps := 10000000) only [go_sem, hgg, inc64 (show i < 1000000000000 by omega)]
        refine run_ok 4000 _ _ _ _ ?_
        simp (maxSteps := 10000000) only [go_sem, hgg, inc64 (show i < 1000000000000 by omega)]
        refine ⟨i + 1, by omega, by omega, [0, 1, 2, 3, 4, 5, 6, 7, 8, 9, 10, 11, 12, 13, 14, 15, 16, 17, 18, 19, 20], ?_⟩
        rw [hit]
        simp [Emb, go_sem]
      have ib := lidle_true q.b cb.1 cb.2
      simp only [lkM, lkB] at ib
      obtain ⟨qa1, qa2⟩ := ca
      obtain ⟨qb1, qb2⟩ := cb
      skip
      refine run_ok 4000 _ _ _ _ ?_
      simp (maxSteps := 10000000) only [go_sem, hlt4, hge3]
      refine sem_call rfl rfl (((ia).embed [1, 2, 3, 4, 5, 6, 7] rfl (by repeat' first | exact trivial | rfl | (simp only [go_sem]; done) | constructor) rfl (by first | rfl | simp only [go_sem]) rfl (by simp)).mono ?_)
      rintro _ _ ⟨v2, m2, ⟨h1, h2⟩, h3, h4⟩
      subst h3
      subst h4
      subst h1
      subst h2
      refine run_ok 4000 _ _ _ _ ?_
      simp (maxSteps := 10000000) only [go_sem, hlt4, hge3]
      refine sem_call rfl rfl (((ib).embed [8, 9, 10, 11, 12, 13, 14] rfl (by repeat' first | exact trivial | rfl | (simp only [go_sem]; done) | constructor) rfl (by first | rfl | simp only [go_sem]) rfl (by simp)).mono ?_)
      rintro _ _ ⟨v2, m2, ⟨h1, h2⟩, h3, h4⟩
      subst h3
      subst h4
      subst h1
      subst h2
      refine run_ok 4000 _ _ _ _ ?_
      simp (maxSteps := 10000000) only [go_sem, hlt4, hge3]
      clear ia ib
      have ia := lidle_true q.a qa1 qa2
      have ib := lidle_true q.b qb1 qb2
      have z1 := congrArg List.length (hIq.ab.idle qa1 qa2)
      have z0 := congrArg List.length (hIq.ba.idle qb1 qb2)
      have zz1 : ((q.c1.length : Int) == (q.s0.length : Int)) = true := by rw [z1]; simp
      have zz0 : ((q.c0.length : Int) == (q.s1.length : Int)) = true := by rw [z0]; simp
      simp only [lkM, lkB] at ia ib
      skip
      refine sem_drawG l3_1_ok (by kernel_rfl) ?_
      intro KK hKK
      simp (maxSteps := 10000000) only [go_sem, l3_1, zz0, zz1]
      refine TriZ.of (((ia).embed [1, 2, 3, 4, 5, 6, 7] rfl (by repeat' first | exact trivial | rfl | (simp only [go_sem]; done) | constructor) rfl (by first | rfl | simp only [go_sem]) rfl (by simp)).mono ?_)
      rintro _ _ ⟨_, _, ⟨rfl, rfl⟩, rfl, rfl⟩
      simp (maxSteps := 10000000) only [go_sem, zz0, zz1]
      refine TriZ.of (((ib).embed [8, 9, 10, 11, 12, 13, 14] rfl (by repeat' first | exact trivial | rfl | (simp only [go_sem]; done) | constructor) rfl (by first | rfl | simp only [go_sem]) rfl (by simp)).mono ?_)
      rintro _ _ ⟨_, _, ⟨rfl, rfl⟩, rfl, rfl⟩
      simp (maxSteps := 10000000) only [go_sem, zz0, zz1]
      subst hKK
      simp (maxSteps := 10000000) only [go_sem, zz0, zz1]
      refine ⟨_, [], .like (Like.bool true) (.sub [] ?_ .done), rfl⟩
      simp only [EmbV, go_sem]
end Go.AEX
