/- Window, what came: the plain law: numbers that go round against numbers without an end. -/
import Derived.Test.YtbbokkienmicmaaWinIn
namespace Go.AEX
open Go Go.AE
set_option linter.unusedVariables false
set_option linter.unusedSimpArgs false

/-- A number that goes round. -/
def kap (F N : Int) : Int := iwrap .u32 (F + iwrap .u32 (N - 1000))
theorem kap_eq (F N : Int) : kap F N = (F + (N - 1000)) % 4294967296 := by unfold kap; rw [iwrap_u32, iwrap_u32]; omega
theorem kap_inj {F a b : Int} (h : kap F a = kap F b) (h1 : a - b < 2147483648) (h2 : b - a < 2147483648) : a = b := by rw [kap_eq, kap_eq] at h; omega
theorem kap_next (F a : Int) : kap F (a + 1) = u32 (kap F a + 1) := by unfold u32; rw [kap_eq, kap_eq, iwrap_u32]; omega
theorem kap_add (F a k : Int) : kap F (a + k) = u32 (kap F a + k) := by unfold u32; rw [kap_eq, kap_eq, iwrap_u32]; omega
def mapK (F : Int) (L : Ent) : Ent := L.map fun p => (kap F p.1, p.2)
def Near (L : Ent) (k : Int) (d : Int) : Prop := ∀ p ∈ L, p.1 - k ≤ d ∧ k - p.1 ≤ d
theorem lk_map {F k d : Int} (hd : d < 2147483648) : ∀ {L : Ent}, Near L k d → lkE (mapK F L) (kap F k) = lkE L k
  | [], _ => rfl
  | p :: L, h => by
    have ih := lk_map (F := F) hd fun q hq => h q (List.mem_cons_of_mem _ hq)
    obtain ⟨h1, h2⟩ := h p (List.mem_cons_self ..)
    simp only [mapK, List.map_cons, lkE] at ih ⊢
    by_cases e : k = p.1
    · simp [e]
    · have : ¬ kap F k = kap F p.1 := fun e' => e (kap_inj e' (by omega) (by omega))
      simp only [e, this, if_false]; exact ih
theorem del_map {F k d : Int} (hd : d < 2147483648) : ∀ {L : Ent}, Near L k d → delE (mapK F L) (kap F k) = mapK F (delE L k)
  | [], _ => rfl
  | p :: L, h => by
    have ih := del_map (F := F) hd fun q hq => h q (List.mem_cons_of_mem _ hq)
    obtain ⟨h1, h2⟩ := h p (List.mem_cons_self ..)
    simp only [mapK, List.map_cons, delE] at ih ⊢
    by_cases e : k = p.1
    · simp [e]
    · have : ¬ kap F k = kap F p.1 := fun e' => e (kap_inj e' (by omega) (by omega))
      simp only [e, this, if_false, List.map_cons]; rw [ih]
theorem del_sub : ∀ {L : Ent} {k : Int} {p : Int × List UInt8}, p ∈ delE L k → p ∈ L
  | [], _, _, h => h
  | q :: L, k, p, h => by
    simp only [delE] at h
    split at h
    · exact List.mem_cons_of_mem _ h
    · rcases List.mem_cons.1 h with e | h
      · rw [e]; simp
      · exact List.mem_cons_of_mem _ (del_sub h)
theorem drain_map {F : Int} : ∀ (f : Nat) {nx : Int} {L : Ent} {o : List (List UInt8)}, Near L nx (2000 - f) → f ≤ 1000 → drain f (kap F nx) (mapK F L) o = (kap F (drainR f nx L o).1, mapK F (drainR f nx L o).2.1, (drainR f nx L o).2.2)
  | 0, _, _, _, _, _ => rfl
  | f + 1, nx, L, o, h, hf => by
    have e := lk_map (F := F) (d := 2000 - ((f + 1 : Nat) : Int)) (by omega) h
    simp only [drain, drainR, e]
    cases hl : lkE L nx with
    | none => rfl
    | some s =>
      simp only
      rw [del_map (d := 2000 - ((f + 1 : Nat) : Int)) (by omega) h, ← kap_next]
      exact drain_map f (fun p hp => by have := h p (del_sub hp); omega) (by omega)
theorem drainR_fuel : ∀ (n : Nat) {f g : Nat} {nx : Int} {L : Ent} {o : List (List UInt8)}, L.length ≤ n → n < f → n < g → drainR f nx L o = drainR g nx L o
  | n, f + 1, g + 1, nx, L, o, hl, hf, hg => by
    simp only [drainR]
    cases h : lkE L nx with
    | none => rfl
    | some s =>
      have := delE_len L nx (by rw [h]; rfl)
      cases n with
      | zero => omega
      | succ n => exact drainR_fuel n (by omega) (by omega) (by omega)
  | n, 0, _, _, _, _, _, hf, _ => by omega
  | n, _, 0, _, _, _, _, _, hg => by omega
theorem drain_fuel : ∀ (n : Nat) {f : Nat} {nx : Int} {L : Ent} {o : List (List UInt8)}, L.length ≤ n → n ≤ f → drain f nx L o = drain (f + 1) nx L o
  | n, 0, nx, L, o, hl, hf => by
    have : L = [] := List.eq_nil_of_length_eq_zero (by omega)
    subst this; rfl
  | n, f + 1, nx, L, o, hl, hf => by
    rw [drain, drain]
    cases h : lkE L nx with
    | none => rfl
    | some s =>
      have := delE_len L nx (by rw [h]; rfl)
      cases n with
      | zero => omega
      | succ n => exact drain_fuel n (by omega) (by omega)
/-- What waits lies behind the awaited number, each number once. -/
structure WOk (nx : Int) (L : Ent) : Prop where
  lo : ∀ p ∈ L, nx < p.1
  hi : ∀ p ∈ L, p.1 ≤ nx + 32
  nd : (L.map (·.1)).Nodup
theorem pigeon : ∀ (n : Nat) (l : List Int) (a : Int), l.Nodup → (∀ x ∈ l, a < x ∧ x ≤ a + n) → l.length ≤ n
  | 0, l, a, _, h => by
    cases l with
    | nil => simp
    | cons x l => have := h x (by simp); omega
  | n + 1, l, a, hn, h => by
    have ih := pigeon n (l.erase (a + (n + 1 : Nat))) a (hn.erase _) fun x hx => by
      have h1 := (hn.mem_erase_iff).1 hx
      have := h x h1.2
      have := h1.1
      omega
    by_cases hm : a + ((n + 1 : Nat) : Int) ∈ l
    · rw [List.length_erase_of_mem hm] at ih; omega
    · rw [List.erase_of_not_mem hm] at ih; omega
theorem WOk.len {nx : Int} {L : Ent} (h : WOk nx L) : L.length ≤ 32 := by
  have := pigeon 32 (L.map (·.1)) nx h.nd fun x hx => by
    obtain ⟨p, hp, rfl⟩ := List.mem_map.1 hx
    have := h.lo p hp; have := h.hi p hp; omega
  simpa using this
theorem lk_none {k : Int} : ∀ {L : Ent}, lkE L k = none → ∀ p ∈ L, p.1 ≠ k
  | [], _, _, h => by cases h
  | q :: L, h, p, hp => by
    simp only [lkE] at h
    split at h
    · cases h
    · rename_i hk
      rcases List.mem_cons.1 hp with rfl | hp
      · exact fun e => hk e.symm
      · exact lk_none h p hp
theorem del_nd {k : Int} : ∀ {L : Ent}, (L.map (·.1)).Nodup → ((delE L k).map (·.1)).Nodup ∧ ∀ p ∈ delE L k, p.1 ≠ k ∨ lkE L k = none
  | [], _ => ⟨by simp [delE], fun p h => by cases h⟩
  | q :: L, h => by
    simp only [List.map_cons, List.nodup_cons] at h
    obtain ⟨h1, h2⟩ := h
    obtain ⟨g1, g2⟩ := del_nd (k := k) h2
    simp only [delE, lkE]
    by_cases e : k = q.1
    · simp only [e, if_true]
      refine ⟨h2, fun p hp => .inl fun e' => h1 ?_⟩
      rw [← e']; exact List.mem_map.2 ⟨p, hp, rfl⟩
    · simp only [e, if_false, List.map_cons, List.nodup_cons]
      refine ⟨⟨fun hm => h1 ?_, g1⟩, fun p hp => ?_⟩
      · obtain ⟨p, hp, he⟩ := List.mem_map.1 hm
        rw [← he]; exact List.mem_map.2 ⟨p, del_sub hp, rfl⟩
      · rcases List.mem_cons.1 hp with rfl | hp
        · exact .inl fun e' => e e'.symm
        · exact g2 p hp
theorem drainR_ok : ∀ (f : Nat) {nx nx0 : Int} {L : Ent} {o : List (List UInt8)}, L.length < f → (∀ p ∈ L, nx ≤ p.1 ∧ p.1 ≤ nx0 + 32) → nx0 ≤ nx → (L.map (·.1)).Nodup →
    WOk (drainR f nx L o).1 (drainR f nx L o).2.1 ∧ nx ≤ (drainR f nx L o).1 ∧ (drainR f nx L o).1 ≤ nx + f ∧ (drainR f nx L o).2.2.length ≤ o.length + L.length
  | 0, _, _, _, _, h, _, _, _ => by omega
  | f + 1, nx, nx0, L, o, hl, hk, h0, hn => by
    simp only [drainR]
    cases h : lkE L nx with
    | none =>
      simp only
      refine ⟨⟨fun p hp => ?_, fun p hp => ?_, hn⟩, by omega, by omega, by omega⟩
      · have := hk p hp; have := lk_none h p hp; omega
      · have := hk p hp; omega
    | some s =>
      simp only
      have hd := delE_len L nx (by rw [h]; rfl)
      obtain ⟨g1, g2⟩ := del_nd (k := nx) hn
      obtain ⟨r1, r2, r3, r4⟩ := drainR_ok f (nx := nx + 1) (nx0 := nx0) (L := delE L nx) (o := o ++ [s]) (by omega) (fun p hp => by
        have := hk p (del_sub hp)
        rcases g2 p hp with h' | h'
        · omega
        · rw [h] at h'; cases h') (by omega) g1
      refine ⟨r1, by omega, by omega, ?_⟩
      simp at r4; omega
theorem put_map {F nx n : Int} {L : Ent} {s : List UInt8} (hw : WOk nx L) (h1 : nx - 40 ≤ n) (h2 : n ≤ nx + 87) :
    putW (kap F nx) (mapK F L) (kap F n) s = ((kap F (putR nx L n s).1.1, mapK F (putR nx L n s).1.2), (putR nx L n s).2) ∧
    WOk (putR nx L n s).1.1 (putR nx L n s).1.2 ∧ nx ≤ (putR nx L n s).1.1 ∧ (putR nx L n s).1.1 ≤ nx + 40 ∧ (putR nx L n s).2.1.length ≤ 33 := by
  have hl := hw.len
  have hd : u32 (kap F n - kap F nx) = (n - nx) % 4294967296 := by unfold u32; rw [kap_eq, kap_eq, iwrap_u32]; omega
  have hnear : Near L n 200 := fun p hp => by have := hw.lo p hp; have := hw.hi p hp; omega
  unfold putW putR
  simp only [hd]
  by_cases c1 : n < nx
  · have : (n - nx) % 4294967296 ≥ 2147483648 := by omega
    simp only [this, c1, if_true]
    exact ⟨trivial, hw, by omega, by omega, by simp⟩
  · have e : (n - nx) % 4294967296 = n - nx := by omega
    have c1' : ¬ n - nx ≥ 2147483648 := by omega
    simp only [e, c1, c1', if_false]
    by_cases c2 : n > nx + 32
    · have : n - nx > 32 := by omega
      simp only [this, c2, if_true]
      exact ⟨trivial, hw, by omega, by omega, by simp⟩
    · have c2' : ¬ n - nx > 32 := by omega
      simp only [c2, c2', if_false, lk_map (F := F) (d := 200) (by omega) hnear]
      by_cases c3 : (lkE L n).isSome = true
      · simp only [c3, if_true]
        exact ⟨trivial, hw, by omega, by omega, by simp⟩
      · have c3' : (lkE L n).isSome = false := by simpa using c3
        have c4 : lkE L n = none := by cases h : lkE L n with | none => rfl | some x => rw [h] at c3; simp at c3
        simp only [c3', Bool.false_eq_true, if_false]
        have em : mapK F L ++ [(kap F n, s)] = mapK F (L ++ [(n, s)]) := by simp [mapK]
        have el : (mapK F L).length = L.length := by simp [mapK]
        have hnd : ((L ++ [(n, s)]).map (·.1)).Nodup := by
          rw [List.map_append, List.nodup_append]
          refine ⟨hw.nd, by simp, fun a ha b hb => ?_⟩
          simp at hb; subst hb
          obtain ⟨p, hp, rfl⟩ := List.mem_map.1 ha
          exact lk_none c4 p hp
        have hb : ∀ p ∈ L ++ [(n, s)], nx ≤ p.1 ∧ p.1 ≤ nx + 32 := by
          intro p hp
          rcases List.mem_append.1 hp with hp | hp
          · have := hw.lo p hp; have := hw.hi p hp; omega
          · simp at hp; subst hp; simp only; omega
        have hdm := drain_map (F := F) (L.length + 1) (nx := nx) (L := L ++ [(n, s)]) (o := []) (fun p hp => by have := hb p hp; omega) (by omega)
        have hfu := drainR_fuel 33 (f := 40) (g := 41) (nx := nx) (L := L ++ [(n, s)]) (o := []) (by simp; omega) (by omega) (by omega)
        obtain ⟨r1, r2, r3, r4⟩ := drainR_ok 40 (nx := nx) (nx0 := nx) (L := L ++ [(n, s)]) (o := []) (by simp; omega) hb (by omega) hnd
        rw [em, el]
        have hfu2 := drainR_fuel (L.length + 1) (f := L.length + 2) (g := 40) (nx := nx) (L := L ++ [(n, s)]) (o := []) (by simp) (by omega) (by omega)
        have hfu3 := drain_fuel (L.length + 1) (f := L.length + 1) (nx := kap F nx) (L := mapK F (L ++ [(n, s)])) (o := []) (by simp [mapK]) (Nat.le_refl _)
        have hdm2 := drain_map (F := F) (L.length + 2) (nx := nx) (L := L ++ [(n, s)]) (o := []) (fun p hp => by have := hb p hp; omega) (by omega)
        rw [hfu2] at hdm2
        rw [hfu3, hdm2]
        exact ⟨rfl, r1, r2, r3, by simp at r4; omega⟩
theorem bits_map {F nx : Int} {L : Ent} (hw : WOk nx L) : ∀ k, k ≤ 32 → bitsW (kap F nx) (mapK F L) k = bitsR nx L k
  | 0, _ => rfl
  | k + 1, h => by
    have ih := bits_map (F := F) hw k (by omega)
    simp only [bitsW, bitsR, ← kap_add, ih]
    rw [lk_map (F := F) (d := 200) (by omega) fun p hp => by have := hw.lo p hp; have := hw.hi p hp; omega]
end Go.AEX
