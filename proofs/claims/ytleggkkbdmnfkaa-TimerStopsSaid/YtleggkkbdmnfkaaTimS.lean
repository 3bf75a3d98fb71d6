/- Timers: sorting by insertion. -/
import Derived.Test.YtleggkkbdmnfkaaTim
namespace Go.AEX
open Go Go.AE Go.Proofs
set_option maxRecDepth 100000
set_option linter.unusedVariables false
set_option linter.unusedSimpArgs false

def cmpI (x y : Int) : Int := if x < y then -1 else if x > y then 1 else 0
theorem isNaN_spec (x : Int) : Tri Try.prog 34 [.int .i64 x] [] (fun v m => v = .bsym false ∧ m = []) := by
  refine Tri.post ?_
  have h : (x != x) = false := by simp
  skip
  refine (Tri.enter (rl := r34) (code := c34) (by kernel_rfl) Try.func34 rfl c34_ok (by kernel_rfl) (by kernel_rfl) ?_)
  refine run_ok 4000 _ _ _ _ ?_
  simp (maxSteps := 10000000) only [go_sem, c34, r34, h]
  refine ⟨_, _, .sub [] ?_ .done, rfl, rfl⟩
  simp only [EmbV, go_sem]
theorem compare_spec (x y : Int) : Tri Try.prog 24 [.int .i64 x, .int .i64 y] [] (fun v m => v = .int .i64 (cmpI x y) ∧ m = []) := by
  refine Tri.post ?_
  by_cases c1 : x < y
  · have h : cmpI x y = -1 := by unfold cmpI; rw [if_pos c1]
    skip
    refine (Tri.enter (rl := r24) (code := c24) (by kernel_rfl) Try.func24 rfl c24_ok (by kernel_rfl) (by kernel_rfl) ?_)
    refine run_ok 4000 _ _ _ _ ?_
    simp (maxSteps := 10000000) only [go_sem, c24, r24, c1]
    refine sem_call rfl rfl (((isNaN_spec x).embed [] rfl trivial rfl rfl rfl (by simp)).mono ?_)
    rintro _ _ ⟨_, _, ⟨rfl, rfl⟩, rfl, rfl⟩
    refine run_ok 4000 _ _ _ _ ?_
    simp (maxSteps := 10000000) only [go_sem, c1]
    refine sem_call rfl rfl (((isNaN_spec y).embed [] rfl trivial rfl rfl rfl (by simp)).mono ?_)
    rintro _ _ ⟨_, _, ⟨rfl, rfl⟩, rfl, rfl⟩
    refine run_ok 4000 _ _ _ _ ?_
    simp (maxSteps := 10000000) only [go_sem, c1]
    refine ⟨_, _, .sub [] ?_ .done, rfl, rfl⟩
    simp only [EmbV, go_sem, h]
  by_cases c2 : x > y
  · have h : cmpI x y = 1 := by unfold cmpI; rw [if_neg c1, if_pos c2]
    skip
    refine (Tri.enter (rl := r24) (code := c24) (by kernel_rfl) Try.func24 rfl c24_ok (by kernel_rfl) (by kernel_rfl) ?_)
    refine run_ok 4000 _ _ _ _ ?_
    simp (maxSteps := 10000000) only [go_sem, c24, r24, c1, c2]
    refine sem_call rfl rfl (((isNaN_spec x).embed [] rfl trivial rfl rfl rfl (by simp)).mono ?_)
    rintro _ _ ⟨_, _, ⟨rfl, rfl⟩, rfl, rfl⟩
    refine run_ok 4000 _ _ _ _ ?_
    simp (maxSteps := 10000000) only [go_sem, c1, c2]
    refine sem_call rfl rfl (((isNaN_spec y).embed [] rfl trivial rfl rfl rfl (by simp)).mono ?_)
    rintro _ _ ⟨_, _, ⟨rfl, rfl⟩, rfl, rfl⟩
    refine run_ok 4000 _ _ _ _ ?_
    simp (maxSteps := 10000000) only [go_sem, c1, c2]
    refine ⟨_, _, .sub [] ?_ .done, rfl, rfl⟩
    simp only [EmbV, go_sem, h]
  · have h : cmpI x y = 0 := by unfold cmpI; rw [if_neg c1, if_neg c2]
    skip
    refine (Tri.enter (rl := r24) (code := c24) (by kernel_rfl) Try.func24 rfl c24_ok (by kernel_rfl) (by kernel_rfl) ?_)
    refine run_ok 4000 _ _ _ _ ?_
    simp (maxSteps := 10000000) only [go_sem, c24, r24, c1, c2]
    refine sem_call rfl rfl (((isNaN_spec x).embed [] rfl trivial rfl rfl rfl (by simp)).mono ?_)
    rintro _ _ ⟨_, _, ⟨rfl, rfl⟩, rfl, rfl⟩
    refine run_ok 4000 _ _ _ _ ?_
    simp (maxSteps := 10000000) only [go_sem, c1, c2]
    refine sem_call rfl rfl (((isNaN_spec y).embed [] rfl trivial rfl rfl rfl (by simp)).mono ?_)
    rintro _ _ ⟨_, _, ⟨rfl, rfl⟩, rfl, rfl⟩
    refine run_ok 4000 _ _ _ _ ?_
    simp (maxSteps := 10000000) only [go_sem, c1, c2]
    refine ⟨_, _, .sub [] ?_ .done, rfl, rfl⟩
    simp only [EmbV, go_sem, h]
abbrev teV (e : TE) : AV := .agg [.int .u32 e.n, .int .i64 e.due, .int .i64 e.wait, .int .i64 e.times]
theorem due1_spec (a b : TE) : Tri Try.prog 23 [.agg [.int .u32 a.n, .int .i64 a.due, .int .i64 a.wait, .int .i64 a.times], .agg [.int .u32 b.n, .int .i64 b.due, .int .i64 b.wait, .int .i64 b.times]] [] (fun v m => v = .int .i64 (cmpI a.due b.due) ∧ m = []) := by
  refine Tri.post ?_
  refine (Tri.enter (rl := r23) (code := c23) (by kernel_rfl) Try.func23 rfl c23_ok (by kernel_rfl) (by kernel_rfl) ?_)
  refine run_ok 4000 _ _ _ _ ?_
  simp (maxSteps := 10000000) only [go_sem, c23, r23]
  refine sem_call rfl rfl (((compare_spec a.due b.due).embed [] rfl trivial rfl rfl rfl (by simp)).mono ?_)
  rintro _ _ ⟨_, _, ⟨rfl, rfl⟩, rfl, rfl⟩
  refine run_ok 4000 _ _ _ _ ?_
  simp (maxSteps := 10000000) only [go_sem]
  refine ⟨_, _, .sub [] ?_ .done, rfl, rfl⟩
  simp only [EmbV, go_sem]
theorem cmpI_lt (x y : Int) : (cmpI x y < 0) = (x < y) := by
  unfold cmpI
  by_cases c : x < y
  · simp [c]
  · by_cases d : x > y <;> simp [c, d]
/-! ### plain words -/
/-- Two change places. -/
def swp {α : Type} (L : List α) (p q : Nat) : List α := match L[p]?, L[q]? with
  | some x, some y => (L.set p y).set q x
  | _, _ => L
theorem swp_len {α : Type} (L : List α) (p q : Nat) : (swp L p q).length = L.length := by unfold swp; split <;> simp
theorem swp_eq {α : Type} {L : List α} {p q : Nat} (hp : p < L.length) (hq : q < L.length) : swp L p q = (L.set p L[q]).set q L[p] := by
  unfold swp; rw [List.getElem?_eq_getElem hp, List.getElem?_eq_getElem hq]
/-- One is taken leftward. -/
def insJ {α : Type} (key : α → Int) : Nat → List α → Nat → List α
  | 0, L, _ => L
  | k + 1, L, j => match L[j]?, L[j - 1]? with
    | some x, some y => if key x < key y then insJ key k (swp L j (j - 1)) (j - 1) else L
    | _, _ => L
def insI {α : Type} (key : α → Int) (a : Nat) : Nat → List α → Nat → List α
  | 0, L, _ => L
  | k + 1, L, i => insI key a k (insJ key (i - a) L i) (i + 1)
theorem insJ_len {α : Type} (key : α → Int) : ∀ (k : Nat) (L : List α) (j : Nat), (insJ key k L j).length = L.length
  | 0, L, j => rfl
  | k + 1, L, j => by
    unfold insJ
    split
    · split
      · rw [insJ_len key k, swp_len]
      · rfl
    · rfl
theorem swp_map {α β : Type} (f : α → β) (L : List α) (p q : Nat) : (swp L p q).map f = swp (L.map f) p q := by
  unfold swp
  rw [List.getElem?_map, List.getElem?_map]
  cases L[p]? with
  | none => rfl
  | some x => cases L[q]? with
    | none => rfl
    | some y => simp [List.map_set]
theorem insJ_map {α β : Type} (f : α → β) (key : β → Int) : ∀ (k : Nat) (L : List α) (j : Nat), (insJ (fun x => key (f x)) k L j).map f = insJ key k (L.map f) j
  | 0, L, j => rfl
  | k + 1, L, j => by
    unfold insJ
    rw [List.getElem?_map, List.getElem?_map]
    cases L[j]? with
    | none => rfl
    | some x => cases L[j - 1]? with
      | none => rfl
      | some y =>
        simp only [Option.map_some]
        split
        · rw [insJ_map f key k, swp_map]
        · rfl
theorem insI_map {α β : Type} (f : α → β) (key : β → Int) (a : Nat) : ∀ (k : Nat) (L : List α) (i : Nat), (insI (fun x => key (f x)) a k L i).map f = insI key a k (L.map f) i
  | 0, L, i => rfl
  | k + 1, L, i => by
    unfold insI
    rw [insI_map f key a k, insJ_map]
/-- Where one comes to stand. -/
theorem insJ_at {α : Type} (key : α → Int) (x : α) (A : List α) : ∀ (k : Nat) (S : List α), S.length = k → ∀ (B : List α), ∃ P Q, S = P ++ Q ∧ (∀ q ∈ Q, key x < key q) ∧ (∀ p, P.getLast? = some p → key p ≤ key x) ∧
    insJ key k (A ++ S ++ x :: B) (A.length + k) = A ++ (P ++ x :: Q) ++ B
  | 0, S, h, B => by
    have : S = [] := List.length_eq_zero_iff.1 h
    subst this
    exact ⟨[], [], rfl, by simp, by simp, by simp [insJ]⟩
  | k + 1, S, h, B => by
    obtain ⟨S', y, rfl⟩ : ∃ S' y, S = S' ++ [y] := ⟨S.dropLast, S.getLast (by intro e; rw [e] at h; simp at h), (List.dropLast_concat_getLast _).symm⟩
    have hk : S'.length = k := by simpa using h
    have e1 : (A ++ (S' ++ [y]) ++ x :: B)[A.length + (k + 1)]? = some x := by
      rw [List.getElem?_append_right (by simp; omega)]; simp [hk]
    have e2 : (A ++ (S' ++ [y]) ++ x :: B)[A.length + (k + 1) - 1]? = some y := by
      rw [List.getElem?_append_left (by simp; omega), List.getElem?_append_right (by omega), List.getElem?_append_right (by omega)]
      rw [show A.length + (k + 1) - 1 - A.length - S'.length = 0 by omega]; rfl
    unfold insJ
    rw [e1, e2]
    simp only
    by_cases c : key x < key y
    · rw [if_pos c]
      have es : swp (A ++ (S' ++ [y]) ++ x :: B) (A.length + (k + 1)) (A.length + (k + 1) - 1) = A ++ S' ++ x :: (y :: B) := by
        unfold swp
        rw [e1, e2]
        simp only
        have f1 : (A ++ (S' ++ [y]) ++ x :: B).set (A.length + (k + 1)) y = A ++ (S' ++ [y]) ++ y :: B := by
          rw [List.set_append_right _ _ (by simp; omega)]; simp [hk]
        rw [f1]
        have f2 : A ++ (S' ++ [y]) ++ y :: B = (A ++ S') ++ y :: (y :: B) := by simp
        rw [f2, List.set_append_right _ _ (by simp; omega)]
        rw [List.length_append, show A.length + (k + 1) - 1 - (A.length + S'.length) = 0 by omega]; simp
      rw [es, show A.length + (k + 1) - 1 = A.length + k by omega]
      obtain ⟨P, Q, g1, g2, g3, g4⟩ := insJ_at key x A k S' hk (y :: B)
      refine ⟨P, Q ++ [y], by rw [g1]; simp, ?_, g3, by rw [g4]; simp⟩
      intro q hq
      rcases List.mem_append.1 hq with hq | hq
      · exact g2 q hq
      · simp at hq; rw [hq]; exact c
    · rw [if_neg c]
      refine ⟨S' ++ [y], [], by simp, by simp, ?_, by simp⟩
      intro p hp
      simp at hp
      subst hp
      omega
/-- Entries with their places. -/
abbrev TG := TE × Nat
def R (x y : TG) : Prop := x.1.due < y.1.due ∨ (x.1.due = y.1.due ∧ x.2 < y.2)
abbrev kd1 (x : TG) : Int := x.1.due
theorem R.trans {x y z : TG} (h : R x y) (g : R y z) : R x z := by unfold R at *; omega
theorem ins_sorted {S : List TG} {x : TG} (hs : S.Pairwise R) (ht : ∀ s ∈ S, s.2 < x.2) {P Q : List TG} (e : S = P ++ Q) (hq : ∀ q ∈ Q, kd1 x < kd1 q) (hp : ∀ p, P.getLast? = some p → kd1 p ≤ kd1 x) : (P ++ x :: Q).Pairwise R := by
  subst e
  rw [List.pairwise_append] at hs
  obtain ⟨h1, h2, h3⟩ := hs
  have hpx : ∀ p ∈ P, R p x := by
    intro p hp1
    have hne : P ≠ [] := fun e => by rw [e] at hp1; simp at hp1
    have hl := hp (P.getLast hne) (List.getLast?_eq_some_getLast hne)
    have htx := ht p (by simp [hp1])
    have htl := ht (P.getLast hne) (by simp)
    by_cases e : p = P.getLast hne
    · rw [← e] at hl; unfold R; unfold kd1 at hl; omega
    · have : R p (P.getLast hne) := by
        have e2 := List.dropLast_concat_getLast hne
        rw [← e2, List.pairwise_append] at h1
        refine h1.2.2 p ?_ _ (by simp)
        rw [← e2] at hp1
        rcases List.mem_append.1 hp1 with h | h
        · exact h
        · simp at h; exact absurd h e
      unfold R kd1 at *; omega
  rw [List.pairwise_append]
  refine ⟨h1, ?_, ?_⟩
  · rw [List.pairwise_cons]
    exact ⟨fun q h => .inl (hq q h), h2⟩
  · intro p hp1 q hq1
    rcases List.mem_cons.1 hq1 with rfl | hq1
    · exact hpx p hp1
    · exact h3 p hp1 q hq1
/-- A part is sorted by insertion. -/
theorem insI_at (A : List TG) : ∀ (T S B : List TG), S.Pairwise R → (S ++ T).Pairwise (fun x y => True) → (∀ s ∈ S, ∀ t ∈ T, s.2 < t.2) → T.Pairwise (fun x y => x.2 < y.2) →
    ∃ W, insI kd1 A.length T.length (A ++ S ++ (T ++ B)) (A.length + S.length) = A ++ W ++ B ∧ W.Perm (S ++ T) ∧ W.Pairwise R
  | [], S, B, hs, _, _, _ => ⟨S, by simp [insI], by simp, hs⟩
  | x :: T, S, B, hs, h0, hst, ht => by
    rw [List.pairwise_cons] at ht
    obtain ⟨P, Q, g1, g2, g3, g4⟩ := insJ_at kd1 x A S.length S rfl (T ++ B)
    have hn := ins_sorted hs (fun s h => hst s h x (by simp)) g1 g2 g3
    have hlen : (P ++ x :: Q).length = S.length + 1 := by rw [g1]; simp; omega
    obtain ⟨W, w1, w2, w3⟩ := insI_at A T (P ++ x :: Q) B hn (by simp [List.pairwise_iff_forall_sublist]) (fun s h t h2 => by
      have : s ∈ x :: S := by
        rw [g1]
        rcases List.mem_append.1 h with h | h
        · simp [h]
        · rcases List.mem_cons.1 h with rfl | h
          · simp
          · simp [h]
      rcases List.mem_cons.1 this with rfl | h'
      · exact ht.1 t h2
      · exact hst s h' t (by simp [h2])) ht.2
    refine ⟨W, ?_, ?_, w3⟩
    · rw [List.length_cons, insI, show A.length + S.length - A.length = S.length by omega]
      have e1 : A ++ S ++ (x :: T ++ B) = A ++ S ++ x :: (T ++ B) := by simp
      rw [e1, g4]
      have e2 : A ++ (P ++ x :: Q) ++ (T ++ B) = A ++ (P ++ x :: Q) ++ (T ++ B) := rfl
      rw [hlen] at w1
      rw [show A.length + S.length + 1 = A.length + (S.length + 1) by omega]
      exact w1
    · refine w2.trans ?_
      rw [g1]
      have : (P ++ x :: Q ++ T).Perm (P ++ (Q ++ x :: T)) := by
        rw [List.append_assoc]
        refine List.Perm.append_left P ?_
        rw [List.cons_append]
        exact List.perm_middle.symm
      simpa using this
end Go.AEX
