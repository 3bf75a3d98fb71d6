/- Window: what is carried, in plain words. -/
import Derived.Test.YtbbokkienmicmaaWinOL
namespace Go.AEX
open Go Go.AE Go.Proofs
set_option maxRecDepth 100000
set_option linter.unusedVariables false
set_option linter.unusedSimpArgs false

theorem lk_some {k : Int} : ∀ {L : Ent}, (lkE L k).isSome = true → ∃ p ∈ L, p.1 = k
  | [], h => by simp [lkE] at h
  | p :: L, h => by
    by_cases e : p.1 = k
    · exact ⟨p, by simp, e⟩
    · have : lkE (p :: L) k = lkE L k := by
        obtain ⟨a, b⟩ := p
        simp only [lkE] at e ⊢
        have e' : ¬ k = a := fun h => e h.symm
        simp [e']
      rw [this] at h
      obtain ⟨q, hq, he⟩ := lk_some h
      exact ⟨q, by simp [hq], he⟩
theorem lk_val {k : Int} {s : List UInt8} : ∀ {L : Ent}, lkE L k = some s → (k, s) ∈ L
  | [], h => by simp [lkE] at h
  | (a, b) :: L, h => by
    by_cases e : a = k
    · subst e
      simp [lkE] at h
      subst h
      simp
    · have e' : ¬ k = a := fun h => e h.symm
      have : lkE ((a, b) :: L) k = lkE L k := by simp [lkE, e']
      rw [this] at h
      have := lk_val h
      simp [this]
theorem lk_mem {k : Int} : ∀ {L : Ent}, (∃ p ∈ L, p.1 = k) → (lkE L k).isSome = true := by
  intro L h
  obtain ⟨p, hp, he⟩ := h
  cases hl : lkE L k with
  | none => exact absurd he (lk_none hl p hp)
  | some s => rfl
theorem del_mem {k : Int} : ∀ {L : Ent} {p : Int × List UInt8}, p ∈ L → p.1 ≠ k → p ∈ delE L k
  | [], p, h, _ => by simp at h
  | (a, b) :: L, p, h, hk => by
    by_cases e : a = k
    · subst e
      rcases List.mem_cons.1 h with rfl | h
      · exact absurd rfl hk
      · simpa [delE] using h
    · have e' : ¬ k = a := fun h => e h.symm
      have : delE ((a, b) :: L) k = (a, b) :: delE L k := by simp [delE, e']
      rw [this]
      rcases List.mem_cons.1 h with rfl | h
      · simp
      · exact List.mem_cons_of_mem _ (del_mem h hk)
/-- The bits of an ack. -/
theorem bitsR_bit (nx : Int) (L : Ent) : ∀ (k j : Nat), j < k → ((bitsR nx L k / 2 ^ j) % 2 = 1 ↔ (lkE L (nx + (j : Int) + 1)).isSome = true)
  | 0, j, h => by omega
  | k + 1, j, h => by
    have hlt := bitsR_lt nx L k
    have ec : nx + ((k + 1 : Nat) : Int) = nx + (k : Int) + 1 := by omega
    simp only [bitsR, ec]
    by_cases e : j = k
    · subst e
      have h0 : bitsR nx L j / 2 ^ j = 0 := Nat.div_eq_of_lt hlt
      split
      · rename_i hs
        rw [Nat.add_div_right _ (Nat.two_pow_pos j), h0]
        simp [hs]
      · rename_i hs
        rw [h0]; simp [hs]
    · have ih := bitsR_bit nx L k j (by omega)
      split
      · have : (bitsR nx L k + 2 ^ k) / 2 ^ j = bitsR nx L k / 2 ^ j + 2 * 2 ^ (k - j - 1) := by
          have e2 : 2 ^ k = (2 * 2 ^ (k - j - 1)) * 2 ^ j := by
            rw [Nat.mul_comm 2, ← Nat.pow_succ, ← Nat.pow_add]; congr 1; omega
          rw [e2, Nat.add_mul_div_right _ _ (Nat.two_pow_pos j)]
        rw [this, Nat.add_mul_mod_self_left]
        exact ih
      · exact ih
/-- The text of a number. -/
def tx (n : Int) : List UInt8 := [UInt8.ofNat (n - 1000).toNat]
/-- What stands between two events: what was sent, and what came. -/
structure Car (n : Nat) (N : Int) (L : Ent) (M : Int) (K : Ent) : Prop where
  o : ∃ i, OOk i N L
  w : WOk M K
  lo : 1000 ≤ M
  le : M ≤ N
  top : N ≤ 1000 + n
  tl : ∀ p ∈ L, p.2 = tx p.1
  tk : ∀ p ∈ K, p.2 = tx p.1 ∧ p.1 < N
  miss : ∀ x, M ≤ x → x < N → (∃ p ∈ L, p.1 = x) ∨ (∃ p ∈ K, p.1 = x)
theorem Car.near {n : Nat} {N : Int} {L : Ent} {M : Int} {K : Ent} (h : Car n N L M K) : N ≤ M + 32 := by
  obtain ⟨i, ho⟩ := h.o
  have hle := h.le
  by_cases e : M = N
  · omega
  · rcases h.miss M (Int.le_refl _) (by omega) with ⟨p, hp, he⟩ | ⟨p, hp, he⟩
    · have := ho.near p hp; omega
    · have := h.w.lo p hp; omega
theorem Car.begin (n : Nat) : Car n 1000 [] 1000 [] where
  o := ⟨0, ⟨by simp, by simp, by simp, by simp, by simp⟩⟩
  w := ⟨by simp, by simp, by simp⟩
  lo := by omega
  le := by omega
  top := by omega
  tl := by simp
  tk := by simp
  miss := fun x h1 h2 => by omega
theorem Car.push {n : Nat} {N : Int} {L : Ent} {M : Int} {K : Ent} (h : Car n N L M K) (hr : ∀ p ∈ L, N - p.1 < 32) (hn : N < 1000 + n) : Car n (N + 1) (L ++ [(N, tx N)]) M K where
  o := by obtain ⟨i, ho⟩ := h.o; exact ⟨i + 1, ho.push _ hr⟩
  w := h.w
  lo := h.lo
  le := by have := h.le; omega
  top := by omega
  tl := fun p hp => by
    rcases List.mem_append.1 hp with hp | hp
    · exact h.tl p hp
    · simp at hp; subst hp; rfl
  tk := fun p hp => ⟨(h.tk p hp).1, by have := (h.tk p hp).2; omega⟩
  miss := fun x h1 h2 => by
    by_cases e : x = N
    · exact .inl ⟨(N, tx N), by simp, e.symm⟩
    · rcases h.miss x h1 (by omega) with ⟨p, hp, he⟩ | hk
      · exact .inl ⟨p, by simp [hp], he⟩
      · exact .inr hk
/-- What goes out is in its order. -/
theorem drain_car : ∀ (f : Nat) {nx : Int} {K : Ent} {o : List (List UInt8)}, (∀ p ∈ K, p.2 = tx p.1) →
    ∃ g : Nat, (drainR f nx K o).1 = nx + g ∧ (drainR f nx K o).2.2 = o ++ (List.range g).map (fun j : Nat => tx (nx + (j : Int))) ∧ (∀ p ∈ (drainR f nx K o).2.1, p ∈ K) ∧
      (∀ p ∈ K, p ∈ (drainR f nx K o).2.1 ∨ (nx ≤ p.1 ∧ p.1 < nx + g)) ∧ (∀ j : Nat, j < g → ∃ p ∈ K, p.1 = nx + j)
  | 0, nx, K, o, _ => ⟨0, by simp [drainR], by simp [drainR], by simp [drainR], fun p hp => .inl (by simpa [drainR] using hp), by omega⟩
  | f + 1, nx, K, o, hk => by
    simp only [drainR]
    cases h : lkE K nx with
    | none => exact ⟨0, by simp, by simp, by simp, fun p hp => .inl (by simpa using hp), by omega⟩
    | some s =>
      simp only
      have hs : s = tx nx := hk _ (lk_val h)
      obtain ⟨g, g1, g2, g3, g4, g5⟩ := drain_car f (nx := nx + 1) (K := delE K nx) (o := o ++ [s]) fun p hp => hk p (del_sub hp)
      refine ⟨g + 1, by rw [g1]; omega, ?_, fun p hp => del_sub (g3 p hp), fun p hp => ?_, fun j hj => ?_⟩
      · rw [g2, List.range_succ_eq_map, List.map_cons, List.map_map, hs, List.append_assoc]
        congr 1
        simp only [List.singleton_append]
        congr 1
        · simp
        · apply List.map_congr_left
          intro j _
          simp only [Function.comp]
          congr 1
          omega
      · by_cases e : p.1 = nx
        · exact .inr (by omega)
        · rcases g4 p (del_mem hp e) with h' | h'
          · exact .inl h'
          · exact .inr (by omega)
      · cases j with
        | zero => exact ⟨(nx, s), lk_val h, by simp⟩
        | succ j =>
          obtain ⟨p, hp, he⟩ := g5 j (by omega)
          exact ⟨p, del_sub hp, by omega⟩
/-- A thing comes. -/
theorem Car.put {n : Nat} {N : Int} {L : Ent} {M : Int} {K : Ent} (h : Car n N L M K) {x : Int} (hx : ∃ p ∈ L, p.1 = x) :
    M - 40 ≤ x ∧ x ≤ M + 87 ∧ ∃ (g : Nat) (K' : Ent), (putR M K x (tx x)).1 = (M + g, K') ∧ (putR M K x (tx x)).2.1 = (List.range g).map (fun j : Nat => tx (M + (j : Int))) ∧ Car n N L (M + g) K' ∧
      (∀ y, (y < M ∨ ∃ p ∈ K, p.1 = y) → (y < M + g ∨ ∃ p ∈ K', p.1 = y)) ∧ (x < M + g ∨ ∃ p ∈ K', p.1 = x) := by
  obtain ⟨i, ho⟩ := h.o
  have hnr := h.near
  have hle := h.le
  obtain ⟨q, hq, hqx⟩ := hx
  have hqn := ho.near q hq
  have b1 : M - 40 ≤ x := by omega
  have b2 : x ≤ M + 87 := by omega
  refine ⟨b1, b2, ?_⟩
  obtain ⟨_, hw', _⟩ := put_map (F := 0) (s := tx x) h.w b1 b2
  unfold putR at hw' ⊢
  by_cases c1 : x < M
  · refine ⟨0, K, ?_, ?_, ?_, ?_, ?_⟩ <;> (try simp only [c1, if_true])
    · simp
    · simp
    · simpa using h
    · intro y hy; simpa using hy
    · exact .inl (by omega)
  · by_cases c2 : x > M + 32
    · omega
    · by_cases c3 : (lkE K x).isSome = true
      · refine ⟨0, K, ?_, ?_, ?_, ?_, ?_⟩ <;> (try simp only [c1, c2, c3, if_true, if_false])
        · simp
        · simp
        · simpa using h
        · intro y hy; simpa using hy
        · exact .inr (lk_some c3)
      · simp only [c1, c2, c3, if_false, Bool.false_eq_true] at hw' ⊢
        obtain ⟨g, g1, g2, g3, g4, g5⟩ := drain_car 40 (nx := M) (K := K ++ [(x, tx x)]) (o := []) (fun p hp => by
          rcases List.mem_append.1 hp with hp | hp
          · exact (h.tk p hp).1
          · simp at hp; subst hp; rfl)
        have hall : ∀ p ∈ K ++ [(x, tx x)], p.2 = tx p.1 ∧ p.1 < N := fun p hp => by
          rcases List.mem_append.1 hp with hp | hp
          · exact h.tk p hp
          · simp at hp; subst hp; exact ⟨rfl, by simp only; omega⟩
        rw [g1] at hw'
        refine ⟨g, (drainR 40 M (K ++ [(x, tx x)]) []).2.1, by rw [g1], by rw [g2]; simp, ?_, ?_, ?_⟩
        · refine ⟨h.o, hw', by have := h.lo; omega, ?_, h.top, h.tl, fun p hp => hall p (g3 p hp), fun y h1 h2 => ?_⟩
          · cases g with
            | zero => simpa using hle
            | succ g =>
              obtain ⟨p, hp, he⟩ := g5 g (by omega)
              have := (hall p hp).2
              omega
          · rcases h.miss y (by omega) h2 with hl | ⟨p, hp, he⟩
            · exact .inl hl
            · rcases g4 p (by simp [hp]) with h' | h'
              · exact .inr ⟨p, h', he⟩
              · omega
        · intro y hy
          rcases hy with hy | ⟨p, hp, he⟩
          · exact .inl (by omega)
          · rcases g4 p (by simp [hp]) with h' | h'
            · exact .inr ⟨p, h', he⟩
            · exact .inl (by omega)
        · rcases g4 (x, tx x) (by simp) with h' | h'
          · exact .inr ⟨_, h', rfl⟩
          · exact .inl h'.2
theorem hasR_iff (M : Int) (K : Ent) (hw : WOk M K) (x : Int) (hx : x ≤ M + 32) : hasR M (bitsR M K 32) x = true ↔ (x < M ∨ ∃ p ∈ K, p.1 = x) := by
  unfold hasR
  by_cases c1 : x < M
  · simp [c1]
  · rw [if_neg c1]
    by_cases c2 : x - M - 1 < 0 ∨ x - M - 1 > 31
    · rw [if_pos c2]
      simp only [Bool.false_eq_true, false_iff, not_or]
      refine ⟨c1, fun ⟨p, hp, he⟩ => ?_⟩
      have := hw.lo p hp
      omega
    · rw [if_neg c2]
      have hb := bitsR_bit M K 32 (x - M - 1).toNat (by omega)
      rw [show M + ((x - M - 1).toNat : Int) + 1 = x by omega] at hb
      rw [beq_iff_eq, hb]
      exact ⟨fun h => .inr (lk_some h), fun h => by
        rcases h with h | h
        · exact absurd h c1
        · exact lk_mem h⟩
/-- An ack comes. -/
theorem Car.ack {n : Nat} {N : Int} {L : Ent} {M : Int} {K : Ent} (h : Car n N L M K) : Car n N (leftR M (bitsR M K 32) L) M K where
  o := by obtain ⟨i, ho⟩ := h.o; exact ⟨i + 1, ho.sub _ _⟩
  w := h.w
  lo := h.lo
  le := h.le
  top := h.top
  tl := fun p hp => h.tl p (List.mem_filter.1 hp).1
  tk := h.tk
  miss := fun x h1 h2 => by
    have hnr := h.near
    rcases h.miss x h1 h2 with ⟨p, hp, he⟩ | hk
    · by_cases c : hasR M (bitsR M K 32) p.1 = true
      · rcases (hasR_iff M K h.w p.1 (by omega)).1 c with h' | ⟨q, hq, hqe⟩
        · omega
        · exact .inr ⟨q, hq, by omega⟩
      · exact .inl ⟨p, List.mem_filter.2 ⟨hp, by simpa using c⟩, he⟩
    · exact .inr hk
/-- When all that is on its way has come, all has. -/
theorem Car.all {n : Nat} {N : Int} {L : Ent} {M : Int} {K : Ent} (h : Car n N L M K) (hc : ∀ p ∈ L, p.1 < M ∨ ∃ q ∈ K, q.1 = p.1) : M = N ∧ K = [] ∧ leftR M (bitsR M K 32) L = [] := by
  have hnr := h.near
  have hle := h.le
  have hM : M = N := by
    by_cases e : M = N
    · exact e
    · rcases h.miss M (Int.le_refl _) (by omega) with ⟨p, hp, he⟩ | ⟨p, hp, he⟩
      · rcases hc p hp with h' | ⟨q, hq, hqe⟩
        · omega
        · have := h.w.lo q hq; omega
      · have := h.w.lo p hp; omega
  refine ⟨hM, ?_, ?_⟩
  · cases K with
    | nil => rfl
    | cons p K => have := h.w.lo p (by simp); have := (h.tk p (by simp)).2; omega
  · unfold leftR
    rw [List.filter_eq_nil_iff]
    intro p hp
    obtain ⟨i, ho⟩ := h.o
    have := ho.near p hp
    have hr := (hasR_iff M K h.w p.1 (by omega)).2 (.inl (by omega))
    rw [hr]; simp
end Go.AEX
