/- Counts by number (u32 keys). -/
import Derived.Test.YtleggkkbdmnfkaaTimX
namespace Go.AEX
open Go Go.AE Go.Proofs
set_option maxRecDepth 100000
set_option linter.unusedVariables false
set_option linter.unusedSimpArgs false

abbrev Cnt := List (Int × Int)
def cget : Cnt → Int → Option Int
  | [], _ => none
  | p :: D, k => if k = p.1 then some p.2 else cget D k
def cput : Cnt → Int → Int → Cnt
  | [], k, v => [(k, v)]
  | p :: D, k, v => if k = p.1 then (p.1, v) :: D else p :: cput D k v
def gme (D : Cnt) : List (AV × AV) := D.map fun p => (AV.int .u32 p.1, AV.int .i64 p.2)
theorem gme_ok : ∀ (D : Cnt) (k : Int), keysOk (gme D) (.int .u32 k)
  | [], _ => trivial
  | p :: D, k => ⟨rfl, gme_ok D k⟩
theorem gme_find {k : Int} : ∀ {D : Cnt}, mfind (gme D) (.int .u32 k) = (cget D k).map (AV.int .i64)
  | [] => rfl
  | p :: D => by
    have ih := gme_find (k := k) (D := D)
    show (bif keq (.int .u32 k) (.int .u32 p.1) then some (AV.int .i64 p.2) else mfind (gme D) (.int .u32 k)) = _
    rw [ih]
    have hq : keq (.int .u32 k) (.int .u32 p.1) = decide (k = p.1) := by simp only [keq]; rw [Bool.eq_iff_iff]; simp [show kd IntKind.u32 IntKind.u32 = true from rfl]
    rw [hq]
    by_cases e : k = p.1
    · rw [cget, if_pos e, decide_eq_true e]; rfl
    · rw [cget, if_neg e, decide_eq_false e]; rfl
theorem gme_int {k : Int} {D : Cnt} : mint (gme D) (.int .u32 k) = (cget D k).getD 0 := by
  unfold mint; rw [gme_find]; cases cget D k <;> rfl
theorem gme_val {k : Int} {D : Cnt} : valI .i64 (gme D) (.int .u32 k) := by
  intro v hv
  rw [gme_find] at hv
  cases hc : cget D k with
  | none => rw [hc] at hv; cases hv
  | some n => rw [hc] at hv; cases hv; exact ⟨n, rfl⟩
theorem gme_put {k : Int} (v : Int) : ∀ {D : Cnt}, mset (gme D) (.int .u32 k) (.int .i64 v) = gme (cput D k v)
  | [] => rfl
  | p :: D => by
    have ih := gme_put (k := k) v (D := D)
    show (bif keq (.int .u32 k) (.int .u32 p.1) then (AV.int .u32 p.1, AV.int .i64 v) :: gme D else (AV.int .u32 p.1, AV.int .i64 p.2) :: mset (gme D) (.int .u32 k) (.int .i64 v)) = _
    rw [ih]
    have hq : keq (.int .u32 k) (.int .u32 p.1) = decide (k = p.1) := by simp only [keq]; rw [Bool.eq_iff_iff]; simp [show kd IntKind.u32 IntKind.u32 = true from rfl]
    rw [hq]
    by_cases e : k = p.1
    · rw [cput, if_pos e, decide_eq_true e]; rfl
    · rw [cput, if_neg e, decide_eq_false e]; rfl
theorem gme_len (D : Cnt) : (gme D).length = D.length := by simp [gme]
theorem gme_ids (k : Nat) : ∀ (D : Cnt), idsP k (gme D) = true
  | [] => rfl
  | p :: D => by
    have := gme_ids k D
    simp only [gme, List.map_cons] at this ⊢
    simp only [idsP, ids, this]; rfl
theorem gme_ren (π : List Nat) (N : Nat) : ∀ (D : Cnt), renP π N (gme D) = gme D
  | [] => rfl
  | p :: D => by
    have := gme_ren π N D
    simp only [gme, List.map_cons] at this ⊢
    simp only [renP, ren, this]
attribute [go_sem] gme_ids gme_ren gme_ok gme_len
theorem cget_iff {k : Int} : ∀ {D : Cnt}, (∃ v, cget D k = some v) ↔ ∃ p ∈ D, p.1 = k
  | [] => by simp [cget]
  | p :: D => by
    unfold cget
    by_cases e : k = p.1
    · subst e; simp
    · rw [if_neg e, cget_iff (D := D)]
      constructor
      · rintro ⟨q, hq, he⟩; exact ⟨q, by simp [hq], he⟩
      · rintro ⟨q, hq, he⟩
        rcases List.mem_cons.1 hq with rfl | hq
        · exact absurd he.symm e
        · exact ⟨q, hq, he⟩
theorem cget_mem {k v : Int} : ∀ {D : Cnt}, cget D k = some v → (k, v) ∈ D
  | [], h => by simp [cget] at h
  | p :: D, h => by
    unfold cget at h
    by_cases e : k = p.1
    · rw [if_pos e] at h; cases h; subst e; simp
    · rw [if_neg e] at h; have := cget_mem h; simp [this]
theorem cput_mem {k v : Int} : ∀ {D : Cnt} {p : Int × Int}, p ∈ cput D k v → p = (k, v) ∨ p ∈ D
  | [], p, h => by simp [cput] at h; exact .inl h
  | q :: D, p, h => by
    unfold cput at h
    by_cases e : k = q.1
    · rw [if_pos e] at h
      rcases List.mem_cons.1 h with rfl | h
      · exact .inl (by rw [e])
      · exact .inr (by simp [h])
    · rw [if_neg e] at h
      rcases List.mem_cons.1 h with rfl | h
      · exact .inr (by simp)
      · rcases cput_mem h with h | h
        · exact .inl h
        · exact .inr (by simp [h])
theorem cput_keys {k v : Int} : ∀ {D : Cnt}, (cput D k v).map (·.1) = if (∃ p ∈ D, p.1 = k) then D.map (·.1) else D.map (·.1) ++ [k]
  | [] => by simp [cput]
  | q :: D => by
    unfold cput
    by_cases e : k = q.1
    · rw [if_pos e, if_pos ⟨q, by simp, e.symm⟩]; rfl
    · rw [if_neg e, List.map_cons, cput_keys (D := D)]
      by_cases h : ∃ p ∈ D, p.1 = k
      · rw [if_pos h, if_pos (by obtain ⟨p, hp, he⟩ := h; exact ⟨p, by simp [hp], he⟩)]; rfl
      · rw [if_neg h, if_neg (by
          rintro ⟨p, hp, he⟩
          rcases List.mem_cons.1 hp with rfl | hp
          · exact e he.symm
          · exact h ⟨p, hp, he⟩)]
        rfl
theorem cput_has {k v : Int} {D : Cnt} {x : Int} : (∃ p ∈ cput D k v, p.1 = x) ↔ x = k ∨ ∃ p ∈ D, p.1 = x := by
  have h := cput_keys (k := k) (v := v) (D := D)
  have e1 : (∃ p ∈ cput D k v, p.1 = x) ↔ x ∈ (cput D k v).map (·.1) := by simp [List.mem_map]
  have e2 : (∃ p ∈ D, p.1 = x) ↔ x ∈ D.map (·.1) := by simp [List.mem_map]
  rw [e1, e2, h]
  split
  · rename_i hk
    constructor
    · exact .inr
    · rintro (rfl | h)
      · obtain ⟨p, hp, he⟩ := hk
        exact List.mem_map.2 ⟨p, hp, he⟩
      · exact h
  · rw [List.mem_append]; simp [or_comm]
theorem cput_nd {k v : Int} {D : Cnt} (h : (D.map (·.1)).Nodup) : ((cput D k v).map (·.1)).Nodup := by
  rw [cput_keys]
  split
  · exact h
  · rename_i hk
    rw [List.nodup_append]
    refine ⟨h, by simp, fun a ha b hb => ?_⟩
    simp at hb; subst hb
    obtain ⟨p, hp, rfl⟩ := List.mem_map.1 ha
    exact fun e => hk ⟨p, hp, e⟩

/-- What the counting of numbers below a bound has made. -/
structure CtI (n : Int) (p : List Int) (D : Cnt) : Prop where
  nd : (D.map (·.1)).Nodup
  has : ∀ x, (∃ q ∈ D, q.1 = x) ↔ x ∈ p ∧ x < n
  ge : ∀ q ∈ D, 1 ≤ q.2
  le : ∀ q ∈ D, q.2 ≤ p.length
theorem CtI.begin (n : Int) : CtI n [] [] := ⟨by simp, by simp, by simp, by simp⟩
theorem CtI.skip {n : Int} {p : List Int} {D : Cnt} (h : CtI n p D) {x : Int} (hx : ¬ x < n) : CtI n (p ++ [x]) D := by
  refine ⟨h.nd, fun y => ?_, h.ge, fun q hq => ?_⟩
  · rw [h.has y, List.mem_append, List.mem_singleton]
    constructor
    · exact fun ⟨a, b⟩ => ⟨.inl a, b⟩
    · rintro ⟨a | rfl, b⟩
      · exact ⟨a, b⟩
      · exact absurd b hx
  · have := h.le q hq; rw [List.length_append]; simp; omega
theorem cget_rg {n : Int} {p : List Int} {D : Cnt} (h : CtI n p D) (x : Int) : 0 ≤ (cget D x).getD 0 ∧ (cget D x).getD 0 ≤ p.length := by
  cases hc : cget D x with
  | none => simp
  | some v => have a := h.ge _ (cget_mem hc); have b := h.le _ (cget_mem hc); simp only [Option.getD_some]; simp only at a b; omega
theorem CtI.put {n : Int} {p : List Int} {D : Cnt} (h : CtI n p D) {x : Int} (hx : x < n) : CtI n (p ++ [x]) (cput D x ((cget D x).getD 0 + 1)) := by
  have hr := cget_rg h x
  refine ⟨cput_nd h.nd, fun y => ?_, fun q hq => ?_, fun q hq => ?_⟩
  · rw [cput_has, h.has y, List.mem_append, List.mem_singleton]
    constructor
    · rintro (rfl | ⟨a, b⟩)
      · exact ⟨.inr rfl, hx⟩
      · exact ⟨.inl a, b⟩
    · rintro ⟨a | rfl, b⟩
      · exact .inr ⟨a, b⟩
      · exact .inl rfl
  · rcases cput_mem hq with rfl | hq
    · simp only; omega
    · exact h.ge q hq
  · rw [List.length_append, List.length_singleton]
    rcases cput_mem hq with rfl | hq
    · simp only; omega
    · have := h.le q hq; omega
theorem CtI.len {k : Nat} {p : List Int} {D : Cnt} (h : CtI k p D) (hp : ∀ x ∈ p, 0 ≤ x) : D.length = ((List.range k).filter fun j : Nat => decide ((j : Int) ∈ p)).length := by
  have hq : (D.map (·.1)).Perm (((List.range k).filter fun j : Nat => decide ((j : Int) ∈ p)).map fun j : Nat => (j : Int)) := by
    rw [List.perm_ext_iff_of_nodup h.nd]
    · intro x
      have := h.has x
      have e1 : x ∈ D.map (·.1) ↔ ∃ q ∈ D, q.1 = x := by simp [List.mem_map]
      rw [e1, this]
      simp only [List.mem_map, List.mem_filter, List.mem_range, decide_eq_true_iff]
      constructor
      · rintro ⟨a, b⟩
        have := hp x a
        exact ⟨x.toNat, ⟨by omega, by rw [Int.toNat_of_nonneg this]; exact a⟩, by omega⟩
      · rintro ⟨j, ⟨a, b⟩, rfl⟩
        exact ⟨b, by omega⟩
    · rw [List.nodup_iff_pairwise_ne, List.pairwise_map]
      refine List.Pairwise.imp (fun h h2 => ?_) (List.nodup_iff_pairwise_ne.1 (List.Pairwise.filter _ List.nodup_range))
      exact h (by omega)
  have := hq.length_eq
  simpa using this
theorem CtI.get {n : Int} {p : List Int} {D : Cnt} (h : CtI n p D) {x : Int} (hx : x ∉ p) : cget D x = none := by
  cases hc : cget D x with
  | none => rfl
  | some v => exact absurd ((h.has x).1 ⟨_, cget_mem hc, rfl⟩).1 hx
end Go.AEX
