/- Seat rT: what a window carries, of any texts. -/
import Derived.Test.YtpbmlaolpfaicaaTWin
namespace Go.AEX
open Go Go.AE Go.Proofs
set_option maxRecDepth 100000
set_option linter.unusedVariables false
set_option linter.unusedSimpArgs false
variable {tf : Int → List UInt8}

structure CarT (tf : Int → List UInt8) (n : Nat) (N : Int) (L : Ent) (M : Int) (K : Ent) : Prop where
  o : ∃ i, OOk i N L
  w : WOk M K
  lo : 1000 ≤ M
  le : M ≤ N
  top : N ≤ 1000 + n
  tl : ∀ p ∈ L, p.2 = tf p.1
  tk : ∀ p ∈ K, p.2 = tf p.1 ∧ p.1 < N
  miss : ∀ x, M ≤ x → x < N → (∃ p ∈ L, p.1 = x) ∨ (∃ p ∈ K, p.1 = x)
theorem CarT.near {n : Nat} {N : Int} {L : Ent} {M : Int} {K : Ent} (h : CarT tf n N L M K) : N ≤ M + 32 := by
  obtain ⟨i, ho⟩ := h.o
  have hle := h.le
  by_cases e : M = N
  · omega
  · rcases h.miss M (Int.le_refl _) (by omega) with ⟨p, hp, he⟩ | ⟨p, hp, he⟩
    · have := ho.near p hp; omega
    · have := h.w.lo p hp; omega
theorem CarT.begin (n : Nat) : CarT tf n 1000 [] 1000 [] where
  o := ⟨0, ⟨by simp, by simp, by simp, by simp, by simp⟩⟩
  w := ⟨by simp, by simp, by simp⟩
  lo := by omega
  le := by omega
  top := by omega
  tl := by simp
  tk := by simp
  miss := fun x h1 h2 => by omega
theorem CarT.push {n : Nat} {N : Int} {L : Ent} {M : Int} {K : Ent} (h : CarT tf n N L M K) (hr : ∀ p ∈ L, N - p.1 < 32) (hn : N < 1000 + n) : CarT tf n (N + 1) (L ++ [(N, tf N)]) M K where
  o := by obtain ⟨i, ho⟩ := h.o; exact ⟨i + 1, ho.push _ hr⟩
  w := h.w
  lo := h.lo
  le := by have := h.le; omega
  top := by omega
  tl := fun p hp => by
    rcases List.mem_append.1 hp with hp | hp
    · exact h.tl p hp
    · simp at hp; subst hp; rfl
  tk := fun p hp => ⟨(h.tk p hp).1, by have := (h.tk p hp).2; omega⟩
  miss := fun x h1 h2 => by
    by_cases e : x = N
    · exact .inl ⟨(N, tf N), by simp, e.symm⟩
    · rcases h.miss x h1 (by omega) with ⟨p, hp, he⟩ | hk
      · exact .inl ⟨p, by simp [hp], he⟩
      · exact .inr hk

theorem drain_cart : ∀ (f : Nat) {nx : Int} {K : Ent} {o : List (List UInt8)}, (∀ p ∈ K, p.2 = tf p.1) →
    ∃ g : Nat, (drainR f nx K o).1 = nx + g ∧ (drainR f nx K o).2.2 = o ++ (List.range g).map (fun j : Nat => tf (nx + (j : Int))) ∧ (∀ p ∈ (drainR f nx K o).2.1, p ∈ K) ∧
      (∀ p ∈ K, p ∈ (drainR f nx K o).2.1 ∨ (nx ≤ p.1 ∧ p.1 < nx + g)) ∧ (∀ j : Nat, j < g → ∃ p ∈ K, p.1 = nx + j)
  | 0, nx, K, o, _ => ⟨0, by simp [drainR], by simp [drainR], by simp [drainR], fun p hp => .inl (by simpa [drainR] using hp), by omega⟩
  | f + 1, nx, K, o, hk => by
    simp only [drainR]
    cases h : lkE K nx with
    | none => exact ⟨0, by simp, by simp, by simp, fun p hp => .inl (by simpa using hp), by omega⟩
    | some s =>
      simp only
      have hs : s = tf nx := hk _ (lk_val h)
      obtain ⟨g, g1, g2, g3, g4, g5⟩ := drain_cart f (nx := nx + 1) (K := delE K nx) (o := o ++ [s]) fun p hp => hk p (del_sub hp)
      refine ⟨g + 1, by rw [g1]; omega, ?_, fun p hp => del_sub (g3 p hp), fun p hp => ?_, fun j hj => ?_⟩
      · rw [g2, List.range_succ_eq_map, List.map_cons, List.map_map, hs, List.append_assoc]
        congr 1
        simp only [List.singleton_append]
        congr 1
        · simp
        · apply List.map_congr_left
          intro j _
          simp only [Function.comp]
          congr 1
          omega
      · by_cases e : p.1 = nx
        · exact .inr (by omega)
        · rcases g4 p (del_mem hp e) with h' | h'
          · exact .inl h'
          · exact .inr (by omega)
      · cases j with
        | zero => exact ⟨(nx, s), lk_val h, by simp⟩
        | succ j =>
          obtain ⟨p, hp, he⟩ := g5 j (by omega)
          exact ⟨p, del_sub hp, by omega⟩

theorem CarT.put {n : Nat} {N : Int} {L : Ent} {M : Int} {K : Ent} (h : CarT tf n N L M K) {x : Int} (hx : ∃ p ∈ L, p.1 = x) :
    M - 40 ≤ x ∧ x ≤ M + 87 ∧ ∃ (g : Nat) (K' : Ent), (putR M K x (tf x)).1 = (M + g, K') ∧ (putR M K x (tf x)).2.1 = (List.range g).map (fun j : Nat => tf (M + (j : Int))) ∧ CarT tf n N L (M + g) K' ∧
      (∀ y, (y < M ∨ ∃ p ∈ K, p.1 = y) → (y < M + g ∨ ∃ p ∈ K', p.1 = y)) ∧ (x < M + g ∨ ∃ p ∈ K', p.1 = x) := by
  obtain ⟨i, ho⟩ := h.o
  have hnr := h.near
  have hle := h.le
  obtain ⟨q, hq, hqx⟩ := hx
  have hqn := ho.near q hq
  have b1 : M - 40 ≤ x := by omega
  have b2 : x ≤ M + 87 := by omega
  refine ⟨b1, b2, ?_⟩
  obtain ⟨_, hw', _⟩ := put_map (F := 0) (s := tf x) h.w b1 b2
  unfold putR at hw' ⊢
  by_cases c1 : x < M
  · refine ⟨0, K, ?_, ?_, ?_, ?_, ?_⟩ <;> (try simp only [c1, if_true])
    · simp
    · simp
    · simpa using h
    · intro y hy; simpa using hy
    · exact .inl (by omega)
  · by_cases c2 : x > M + 32
    · omega
    · by_cases c3 : (lkE K x).isSome = true
      · refine ⟨0, K, ?_, ?_, ?_, ?_, ?_⟩ <;> (try simp only [c1, c2, c3, if_true, if_false])
        · simp
        · simp
        · simpa using h
        · intro y hy; simpa using hy
        · exact .inr (lk_some c3)
      · simp only [c1, c2, c3, if_false, Bool.false_eq_true] at hw' ⊢
        obtain ⟨g, g1, g2, g3, g4, g5⟩ := drain_cart 40 (nx := M) (K := K ++ [(x, tf x)]) (o := []) (fun p hp => by
          rcases List.mem_append.1 hp with hp | hp
          · exact (h.tk p hp).1
          · simp at hp; subst hp; rfl)
        have hall : ∀ p ∈ K ++ [(x, tf x)], p.2 = tf p.1 ∧ p.1 < N := fun p hp => by
          rcases List.mem_append.1 hp with hp | hp
          · exact h.tk p hp
          · simp at hp; subst hp; exact ⟨rfl, by simp only; omega⟩
        rw [g1] at hw'
        refine ⟨g, (drainR 40 M (K ++ [(x, tf x)]) []).2.1, by rw [g1], by rw [g2]; simp, ?_, ?_, ?_⟩
        · refine ⟨h.o, hw', by have := h.lo; omega, ?_, h.top, h.tl, fun p hp => hall p (g3 p hp), fun y h1 h2 => ?_⟩
          · cases g with
            | zero => simpa using hle
            | succ g =>
              obtain ⟨p, hp, he⟩ := g5 g (by omega)
              have := (hall p hp).2
              omega
          · rcases h.miss y (by omega) h2 with hl | ⟨p, hp, he⟩
            · exact .inl hl
            · rcases g4 p (by simp [hp]) with h' | h'
              · exact .inr ⟨p, h', he⟩
              · omega
        · intro y hy
          rcases hy with hy | ⟨p, hp, he⟩
          · exact .inl (by omega)
          · rcases g4 p (by simp [hp]) with h' | h'
            · exact .inr ⟨p, h', he⟩
            · exact .inl (by omega)
        · rcases g4 (x, tf x) (by simp) with h' | h'
          · exact .inr ⟨_, h', rfl⟩
          · exact .inl h'.2
theorem CarT.ack {n : Nat} {N : Int} {L : Ent} {M : Int} {K : Ent} (h : CarT tf n N L M K) : CarT tf n N (leftR M (bitsR M K 32) L) M K where
  o := by obtain ⟨i, ho⟩ := h.o; exact ⟨i + 1, ho.sub _ _⟩
  w := h.w
  lo := h.lo
  le := h.le
  top := h.top
  tl := fun p hp => h.tl p (List.mem_filter.1 hp).1
  tk := h.tk
  miss := fun x h1 h2 => by
    have hnr := h.near
    rcases h.miss x h1 h2 with ⟨p, hp, he⟩ | hk
    · by_cases c : hasR M (bitsR M K 32) p.1 = true
      · rcases (hasR_iff M K h.w p.1 (by omega)).1 c with h' | ⟨q, hq, hqe⟩
        · omega
        · exact .inr ⟨q, hq, by omega⟩
      · exact .inl ⟨p, List.mem_filter.2 ⟨hp, by simpa using c⟩, he⟩
    · exact .inr hk

theorem CarT.all {n : Nat} {N : Int} {L : Ent} {M : Int} {K : Ent} (h : CarT tf n N L M K) (hc : ∀ p ∈ L, p.1 < M ∨ ∃ q ∈ K, q.1 = p.1) : M = N ∧ K = [] ∧ leftR M (bitsR M K 32) L = [] := by
  have hnr := h.near
  have hle := h.le
  have hM : M = N := by
    by_cases e : M = N
    · exact e
    · rcases h.miss M (Int.le_refl _) (by omega) with ⟨p, hp, he⟩ | ⟨p, hp, he⟩
      · rcases hc p hp with h' | ⟨q, hq, hqe⟩
        · omega
        · have := h.w.lo q hq; omega
      · have := h.w.lo p hp; omega
  refine ⟨hM, ?_, ?_⟩
  · cases K with
    | nil => rfl
    | cons p K => have := h.w.lo p (by simp); have := (h.tk p (by simp)).2; omega
  · unfold leftR
    rw [List.filter_eq_nil_iff]
    intro p hp
    obtain ⟨i, ho⟩ := h.o
    have := ho.near p hp
    have hr := (hasR_iff M K h.w p.1 (by omega)).2 (.inl (by omega))
    rw [hr]; simp
end Go.AEX
