/- Window: what one end tells, in plain words. -/
import Derived.Test.YtbbokkienmicmaaWinC
namespace Go.AEX
open Go Go.AE Go.Proofs
set_option maxRecDepth 100000
set_option linter.unusedVariables false
set_option linter.unusedSimpArgs false

/-! ### counts -/
abbrev Cnt := List (Int × Int)
def cget : Cnt → Int → Option Int
  | [], _ => none
  | p :: D, k => if k = p.1 then some p.2 else cget D k
def cput : Cnt → Int → Int → Cnt
  | [], k, v => [(k, v)]
  | p :: D, k, v => if k = p.1 then (p.1, v) :: D else p :: cput D k v
def cme (F : Int) (D : Cnt) : List (AV × AV) := D.map fun p => (AV.int .u32 (kap F p.1), AV.int .i64 p.2)
def CIn (D : Cnt) : Prop := ∀ p ∈ D, 1000 ≤ p.1 ∧ p.1 ≤ 1031
theorem kap_eqb {F a b : Int} (ha : 1000 ≤ a ∧ a ≤ 1031) (hb : 1000 ≤ b ∧ b ≤ 1031) : (kap F a == kap F b) = decide (a = b) := by
  rw [Bool.eq_iff_iff, beq_iff_eq, decide_eq_true_eq]
  exact ⟨fun h => kap_inj h (by omega) (by omega), fun h => by rw [h]⟩
theorem cme_ok (F : Int) : ∀ (D : Cnt) (k : Int), keysOk (cme F D) (.int .u32 k)
  | [], _ => trivial
  | p :: D, k => ⟨rfl, cme_ok F D k⟩
theorem cme_find {F k : Int} (hk : 1000 ≤ k ∧ k ≤ 1031) : ∀ {D : Cnt}, CIn D → mfind (cme F D) (.int .u32 (kap F k)) = (cget D k).map (AV.int .i64)
  | [], _ => rfl
  | p :: D, h => by
    have ih := cme_find (F := F) hk (D := D) fun q hq => h q (by simp [hq])
    have hp := kap_eqb (F := F) hk (h p (by simp))
    show (bif keq (.int .u32 (kap F k)) (.int .u32 (kap F p.1)) then some (AV.int .i64 p.2) else mfind (cme F D) (.int .u32 (kap F k))) = _
    rw [ih]
    have hq : keq (.int .u32 (kap F k)) (.int .u32 (kap F p.1)) = decide (k = p.1) := by simp only [keq, hp]; rfl
    rw [hq]
    by_cases e : k = p.1
    · rw [cget, if_pos e, decide_eq_true e]; rfl
    · rw [cget, if_neg e, decide_eq_false e]; rfl
theorem cme_int {F k : Int} (hk : 1000 ≤ k ∧ k ≤ 1031) {D : Cnt} (h : CIn D) : mint (cme F D) (.int .u32 (kap F k)) = (cget D k).getD 0 := by
  unfold mint; rw [cme_find hk h]; cases cget D k <;> rfl
theorem cme_val {F k : Int} (hk : 1000 ≤ k ∧ k ≤ 1031) {D : Cnt} (h : CIn D) : valI .i64 (cme F D) (.int .u32 (kap F k)) := by
  intro v hv
  rw [cme_find hk h] at hv
  cases hc : cget D k with
  | none => rw [hc] at hv; cases hv
  | some n => rw [hc] at hv; cases hv; exact ⟨n, rfl⟩
theorem cme_put {F k : Int} (hk : 1000 ≤ k ∧ k ≤ 1031) (v : Int) : ∀ {D : Cnt}, CIn D → mset (cme F D) (.int .u32 (kap F k)) (.int .i64 v) = cme F (cput D k v)
  | [], _ => rfl
  | p :: D, h => by
    have ih := cme_put (F := F) hk v (D := D) fun q hq => h q (by simp [hq])
    have hp := kap_eqb (F := F) hk (h p (by simp))
    show (bif keq (.int .u32 (kap F k)) (.int .u32 (kap F p.1)) then (AV.int .u32 (kap F p.1), AV.int .i64 v) :: cme F D else (AV.int .u32 (kap F p.1), AV.int .i64 p.2) :: mset (cme F D) (.int .u32 (kap F k)) (.int .i64 v)) = _
    rw [ih]
    have hq : keq (.int .u32 (kap F k)) (.int .u32 (kap F p.1)) = decide (k = p.1) := by simp only [keq, hp]; rfl
    rw [hq]
    by_cases e : k = p.1
    · rw [cput, if_pos e, decide_eq_true e]; rfl
    · rw [cput, if_neg e, decide_eq_false e]; rfl
theorem cme_len (F : Int) (D : Cnt) : (cme F D).length = D.length := by simp [cme]
theorem cme_ids (k : Nat) (F : Int) : ∀ (D : Cnt), idsP k (cme F D) = true
  | [] => rfl
  | p :: D => by
    have := cme_ids k F D
    simp only [cme, List.map_cons] at this ⊢
    simp only [idsP, ids, this]; rfl
theorem cme_ren (π : List Nat) (N : Nat) (F : Int) : ∀ (D : Cnt), renP π N (cme F D) = cme F D
  | [] => rfl
  | p :: D => by
    have := cme_ren π N F D
    simp only [cme, List.map_cons] at this ⊢
    simp only [renP, ren, this]
attribute [go_sem] cme_ids cme_ren cme_ok cme_len
theorem cget_iff {k : Int} : ∀ {D : Cnt}, (∃ v, cget D k = some v) ↔ ∃ p ∈ D, p.1 = k
  | [] => by simp [cget]
  | p :: D => by
    unfold cget
    by_cases e : k = p.1
    · subst e; simp
    · rw [if_neg e, cget_iff (D := D)]
      constructor
      · rintro ⟨q, hq, he⟩; exact ⟨q, by simp [hq], he⟩
      · rintro ⟨q, hq, he⟩
        rcases List.mem_cons.1 hq with rfl | hq
        · exact absurd he.symm e
        · exact ⟨q, hq, he⟩
theorem cget_mem {k v : Int} : ∀ {D : Cnt}, cget D k = some v → (k, v) ∈ D
  | [], h => by simp [cget] at h
  | p :: D, h => by
    unfold cget at h
    by_cases e : k = p.1
    · rw [if_pos e] at h; cases h; subst e; simp
    · rw [if_neg e] at h; have := cget_mem h; simp [this]
theorem cput_mem {k v : Int} : ∀ {D : Cnt} {p : Int × Int}, p ∈ cput D k v → p = (k, v) ∨ p ∈ D
  | [], p, h => by simp [cput] at h; exact .inl h
  | q :: D, p, h => by
    unfold cput at h
    by_cases e : k = q.1
    · rw [if_pos e] at h
      rcases List.mem_cons.1 h with rfl | h
      · exact .inl (by rw [e])
      · exact .inr (by simp [h])
    · rw [if_neg e] at h
      rcases List.mem_cons.1 h with rfl | h
      · exact .inr (by simp)
      · rcases cput_mem h with h | h
        · exact .inl h
        · exact .inr (by simp [h])
theorem cput_keys {k v : Int} : ∀ {D : Cnt}, (cput D k v).map (·.1) = if (∃ p ∈ D, p.1 = k) then D.map (·.1) else D.map (·.1) ++ [k]
  | [] => by simp [cput]
  | q :: D => by
    unfold cput
    by_cases e : k = q.1
    · rw [if_pos e, if_pos ⟨q, by simp, e.symm⟩]; rfl
    · rw [if_neg e, List.map_cons, cput_keys (D := D)]
      by_cases h : ∃ p ∈ D, p.1 = k
      · rw [if_pos h, if_pos (by obtain ⟨p, hp, he⟩ := h; exact ⟨p, by simp [hp], he⟩)]; rfl
      · rw [if_neg h, if_neg (by
          rintro ⟨p, hp, he⟩
          rcases List.mem_cons.1 hp with rfl | hp
          · exact e he.symm
          · exact h ⟨p, hp, he⟩)]
        rfl
theorem cput_has {k v : Int} {D : Cnt} {x : Int} : (∃ p ∈ cput D k v, p.1 = x) ↔ x = k ∨ ∃ p ∈ D, p.1 = x := by
  have h := cput_keys (k := k) (v := v) (D := D)
  have e1 : (∃ p ∈ cput D k v, p.1 = x) ↔ x ∈ (cput D k v).map (·.1) := by simp [List.mem_map]
  have e2 : (∃ p ∈ D, p.1 = x) ↔ x ∈ D.map (·.1) := by simp [List.mem_map]
  rw [e1, e2, h]
  split
  · rename_i hk
    constructor
    · exact .inr
    · rintro (rfl | h)
      · obtain ⟨p, hp, he⟩ := hk
        exact List.mem_map.2 ⟨p, hp, he⟩
      · exact h
  · rw [List.mem_append]; simp [or_comm]
theorem cput_nd {k v : Int} {D : Cnt} (h : (D.map (·.1)).Nodup) : ((cput D k v).map (·.1)).Nodup := by
  rw [cput_keys]
  split
  · exact h
  · rename_i hk
    rw [List.nodup_append]
    refine ⟨h, by simp, fun a ha b hb => ?_⟩
    simp at hb; subst hb
    obtain ⟨p, hp, rfl⟩ := List.mem_map.1 ha
    exact fun e => hk ⟨p, hp, e⟩
/-! ### what was sent -/
def fresh (i : Nat) : Ent := (List.range i).map fun j : Nat => (1000 + (j : Int), [120])
theorem fresh_len (i : Nat) : (fresh i).length = i := by simp [fresh]
theorem fresh_next (i : Nat) : fresh i ++ [(1000 + (i : Int), [120])] = fresh (i + 1) := by simp [fresh, List.range_succ]
theorem fresh_at {i : Nat} {p : Int × List UInt8} (h : p ∈ fresh i) : 1000 ≤ p.1 ∧ p.1 < 1000 + i := by
  simp [fresh] at h
  obtain ⟨j, hj, rfl⟩ := h
  simp only; omega
theorem fresh_ok : ∀ (i : Nat), i ≤ 32 → OOk i (1000 + i) (fresh i)
  | 0, _ => ⟨by simp, by simp, by simp [fresh], by simp [fresh], by simp [fresh]⟩
  | i + 1, h => by
    have := (fresh_ok i (by omega)).push [120] (fun p hp => by have := fresh_at hp; omega)
    rw [fresh_next] at this
    have e : (1000 : Int) + ((i + 1 : Nat) : Int) = 1000 + i + 1 := by omega
    rw [e]; exact this
theorem fresh_keys (i : Nat) : (fresh i).map (·.1) = (List.range i).map fun j : Nat => 1000 + (j : Int) := by simp [fresh]
/-! ### what came -/
theorem drain_any : ∀ (f : Nat) {nx : Int} {K : Ent} {o : List (List UInt8)},
    ∃ g : Nat, (drainR f nx K o).1 = nx + g ∧ (∀ p ∈ (drainR f nx K o).2.1, p ∈ K) ∧ (∀ p ∈ K, p ∈ (drainR f nx K o).2.1 ∨ (nx ≤ p.1 ∧ p.1 < nx + g)) ∧ (∀ j : Nat, j < g → ∃ p ∈ K, p.1 = nx + j)
  | 0, nx, K, o => ⟨0, by simp [drainR], by simp [drainR], fun p hp => .inl (by simpa [drainR] using hp), by omega⟩
  | f + 1, nx, K, o => by
    simp only [drainR]
    cases h : lkE K nx with
    | none => exact ⟨0, by simp, by simp, fun p hp => .inl (by simpa using hp), by omega⟩
    | some s =>
      simp only
      obtain ⟨g, g1, g3, g4, g5⟩ := drain_any f (nx := nx + 1) (K := delE K nx) (o := o ++ [s])
      refine ⟨g + 1, by rw [g1]; omega, fun p hp => del_sub (g3 p hp), fun p hp => ?_, fun j hj => ?_⟩
      · by_cases e : p.1 = nx
        · exact .inr (by omega)
        · rcases g4 p (del_mem hp e) with h' | h'
          · exact .inl h'
          · exact .inr (by omega)
      · cases j with
        | zero => exact ⟨(nx, s), lk_val h, by simp⟩
        | succ j =>
          obtain ⟨p, hp, he⟩ := g5 j (by omega)
          exact ⟨p, del_sub hp, by omega⟩
theorem filt_both {α : Type} (p : α → Bool) : ∀ (l : List α), (l.filter p).length + (l.filter fun x => !p x).length = l.length
  | [] => rfl
  | x :: l => by
    have := filt_both p l
    cases h : p x <;> simp [List.filter_cons, h] <;> omega
structure AcS (i : Nat) (D : Cnt) (M : Int) (K : Ent) : Prop where
  w : WOk M K
  b : 1000 ≤ M ∧ M ≤ 1032
  kin : ∀ p ∈ K, p.1 ≤ 1031
  nd : (D.map (·.1)).Nodup
  rg : ∀ p ∈ D, 1000 ≤ p.1 ∧ p.1 ≤ 1031 ∧ 1 ≤ p.2 ∧ p.2 ≤ i
  same : ∀ x, 1000 ≤ x → x ≤ 1031 → ((x < M ∨ ∃ p ∈ K, p.1 = x) ↔ ∃ p ∈ D, p.1 = x)
theorem AcS.cin {i : Nat} {D : Cnt} {M : Int} {K : Ent} (h : AcS i D M K) : CIn D := fun p hp => ⟨(h.rg p hp).1, (h.rg p hp).2.1⟩
theorem AcS.begin : AcS 0 [] 1000 [] where
  w := ⟨by simp, by simp, by simp⟩
  b := by omega
  kin := by simp
  nd := by simp
  rg := by simp
  same := fun x h1 h2 => by simp; omega
theorem AcS.put {i : Nat} {D : Cnt} {M : Int} {K : Ent} (h : AcS i D M K) {x : Int} (hx : 1000 ≤ x ∧ x ≤ 1031) (s : List UInt8) :
    AcS (i + 1) (cput D x ((cget D x).getD 0 + 1)) (putR M K x s).1.1 (putR M K x s).1.2 ∧ 0 ≤ (cget D x).getD 0 ∧ (cget D x).getD 0 ≤ i := by
  have hb := h.b
  obtain ⟨_, hw', _⟩ := put_map (F := 0) (s := s) h.w (show M - 40 ≤ x by omega) (show x ≤ M + 87 by omega)
  have hc : 0 ≤ (cget D x).getD 0 ∧ (cget D x).getD 0 ≤ i := by
    cases hg : cget D x with
    | none => simp
    | some v => have := h.rg _ (cget_mem hg); simp only [Option.getD_some] at *; omega
  have hrg : ∀ p ∈ cput D x ((cget D x).getD 0 + 1), 1000 ≤ p.1 ∧ p.1 ≤ 1031 ∧ 1 ≤ p.2 ∧ p.2 ≤ ((i + 1 : Nat) : Int) := fun p hp => by
    rcases cput_mem hp with rfl | hp
    · simp only; omega
    · have := h.rg p hp; omega
  refine ⟨?_, hc⟩
  have key : ∀ (M' : Int) (K' : Ent), WOk M' K' → (1000 ≤ M' ∧ M' ≤ 1032) → (∀ p ∈ K', p.1 ≤ 1031) → (∀ y, 1000 ≤ y → y ≤ 1031 → ((y < M' ∨ ∃ p ∈ K', p.1 = y) ↔ (y = x ∨ (y < M ∨ ∃ p ∈ K, p.1 = y)))) →
      AcS (i + 1) (cput D x ((cget D x).getD 0 + 1)) M' K' := fun M' K' w1 b1 k1 s1 => by
    refine ⟨w1, b1, k1, cput_nd h.nd, hrg, fun y h1 h2 => ?_⟩
    rw [s1 y h1 h2, cput_has, h.same y h1 h2]
  unfold putR at hw' ⊢
  by_cases c1 : x < M
  · simp only [c1, if_true]
    refine key M K h.w h.b h.kin fun y _ _ => ⟨.inr, ?_⟩
    rintro (rfl | h')
    · exact .inl c1
    · exact h'
  · by_cases c2 : x > M + 32
    · omega
    · by_cases c3 : (lkE K x).isSome = true
      · simp only [c1, c2, c3, if_true, if_false]
        refine key M K h.w h.b h.kin fun y _ _ => ⟨.inr, ?_⟩
        rintro (rfl | h')
        · exact .inr (lk_some c3)
        · exact h'
      · simp only [c1, c2, c3, if_false, Bool.false_eq_true] at hw' ⊢
        obtain ⟨g, g1, g3, g4, g5⟩ := drain_any 40 (nx := M) (K := K ++ [(x, s)]) (o := [])
        have hall : ∀ p ∈ K ++ [(x, s)], p.1 ≤ 1031 := fun p hp => by
          rcases List.mem_append.1 hp with hp | hp
          · exact h.kin p hp
          · simp at hp; subst hp; simp only; omega
        rw [g1] at hw' ⊢
        refine key _ _ hw' ⟨by omega, ?_⟩ (fun p hp => hall p (g3 p hp)) fun y h1 h2 => ⟨?_, ?_⟩
        · cases g with
          | zero => simpa using hb.2
          | succ g =>
            obtain ⟨p, hp, he⟩ := g5 g (by omega)
            have := hall p hp
            omega
        · rintro (h' | ⟨p, hp, he⟩)
          · by_cases e : y < M
            · exact .inr (.inl e)
            · obtain ⟨p, hp, he⟩ := g5 (y - M).toNat (by omega)
              rcases List.mem_append.1 hp with hp | hp
              · exact .inr (.inr ⟨p, hp, by omega⟩)
              · simp at hp; subst hp; simp only at he; exact .inl (by omega)
          · rcases List.mem_append.1 (g3 p hp) with hp | hp
            · exact .inr (.inr ⟨p, hp, he⟩)
            · simp at hp; subst hp; exact .inl he.symm
        · rintro (rfl | h' | ⟨p, hp, he⟩)
          · rcases g4 (y, s) (by simp) with h' | h'
            · exact .inr ⟨_, h', rfl⟩
            · exact .inl h'.2
          · exact .inl (by omega)
          · rcases g4 p (by simp [hp]) with h' | h'
            · exact .inr ⟨p, h', he⟩
            · exact .inl (by omega)
/-- What an ack tells is what came. -/
theorem AcS.has {i : Nat} {D : Cnt} {M : Int} {K : Ent} (h : AcS i D M K) {x : Int} (hx : 1000 ≤ x ∧ x ≤ 1031) : hasR M (bitsR M K 32) x = true ↔ ∃ p ∈ D, p.1 = x := by
  have hb := h.b
  rw [hasR_iff M K h.w x (by omega), h.same x hx.1 hx.2]
theorem AcS.told {i : Nat} {D : Cnt} {M : Int} {K : Ent} (h : AcS i D M K) : (toldR M (bitsR M K 32) (fresh 32)).length = D.length ∧ (leftR M (bitsR M K 32) (fresh 32)).length + D.length = 32 := by
  have h1 : (toldR M (bitsR M K 32) (fresh 32)).length = D.length := by
    have el : (D.map (·.1)).length = D.length := List.length_map _
    rw [← el]
    apply List.Perm.length_eq
    rw [List.perm_ext_iff_of_nodup]
    · intro x
      unfold toldR
      rw [List.mem_map, List.mem_map]
      constructor
      · rintro ⟨p, hp, rfl⟩
        obtain ⟨h1, h2⟩ := List.mem_filter.1 hp
        have := fresh_at h1
        exact (h.has (by omega)).1 h2
      · rintro ⟨p, hp, rfl⟩
        have hr := h.rg p hp
        refine ⟨(p.1, [120]), List.mem_filter.2 ⟨?_, (h.has (by omega)).2 ⟨p, hp, rfl⟩⟩, rfl⟩
        simp only [fresh, List.mem_map, List.mem_range]
        exact ⟨(p.1 - 1000).toNat, by omega, by rw [Prod.mk.injEq]; exact ⟨by omega, rfl⟩⟩
    · unfold toldR
      have hn : ((fresh 32).map (·.1)).Nodup := by rw [fresh_keys]; decide
      exact hn.sublist (List.Sublist.map _ List.filter_sublist)
    · exact h.nd
  refine ⟨h1, ?_⟩
  unfold toldR leftR at *
  rw [List.length_map] at h1
  have := filt_both (fun x : Int × List UInt8 => hasR M (bitsR M K 32) x.1) (fresh 32)
  rw [fresh_len, h1] at this
  omega
end Go.AEX
