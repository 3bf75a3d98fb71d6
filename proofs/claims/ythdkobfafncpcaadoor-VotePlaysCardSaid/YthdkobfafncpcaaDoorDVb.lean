/- DPl, DGive, DVa, DVb. -/
import Derived.Test.YthdkobfafncpcaaDoorDIs
import Derived.Test.YthdkobfafncpcaaDoorTVoteS
import Derived.Test.YthdkobfafncpcaaDoorAEzg
/- Door seat: questions and words as lists: plain. -/
namespace Go.AEX
open Go Go.AE Go.Proofs
set_option linter.unusedVariables false
set_option linter.unusedSimpArgs false
abbrev Outr := List (Int × Nat)
def og : Outr → Int → Option Nat
  | [], _ => none
  | e :: O, p => if p = e.1 then some e.2 else og O p
def odl (O : Outr) (p : Int) : Outr := O.filter fun e => !(e.1 == p)
abbrev Wd := Int × Int × Bool
def wv (L : List Wd) (q : Int) : Vts := (L.filter fun x => x.2.1 == q).map fun x => (x.1, x.2.2)
def refK (L : List Wd) (q : Int) (y : Bool) (v : Int) : List Int := (L.filter fun x => x.1 == v && (x.2.1 == q && x.2.2 == y)).map (·.1)
def refC (L : List Wd) (q : Int) (y : Bool) (k : Nat) : List Int := (List.range k).flatMap fun v => refK L q y (Int.ofNat v)
structure VI (S : Nat) (Open : List Int) (L : List Wd) : Prop where
  nd : Open.Nodup
  op : ∀ q ∈ Open, hasN S q = true ∧ q ≠ 0
  wd : ∀ x ∈ L, x.2.1 ∈ Open ∧ hasN S x.1 = true ∧ x.1 ≠ x.2.1
  pr : (L.map fun x => (x.1, x.2.1)).Nodup
structure VF (O : Outr) (F : List Vts) (Open : List Int) (L : List Wd) : Prop where
  ks : O.map (·.1) = Open
  nd : (O.map (·.2)).Nodup
  fw : ∀ e ∈ O, F[e.2]? = some (wv L e.1)
theorem nd_map_inj {α β : Type} {f : α → β} : ∀ {l : List α}, (l.map f).Nodup → ∀ {a b : α}, a ∈ l → b ∈ l → f a = f b → a = b
  | [], _, a, _, h, _, _ => by simp at h
  | x :: l, hn, a, b, ha, hb, e => by
    simp only [List.map_cons, List.nodup_cons] at hn
    rcases List.mem_cons.1 ha with ea | ha
    · rcases List.mem_cons.1 hb with eb | hb
      · rw [ea, eb]
      · exact absurd (List.mem_map.2 ⟨b, hb, by rw [← e, ea]⟩) hn.1
    · rcases List.mem_cons.1 hb with eb | hb
      · exact absurd (List.mem_map.2 ⟨a, ha, by rw [e, eb]⟩) hn.1
      · exact nd_map_inj hn.2 ha hb e
theorem nd_of_map {α β : Type} {f : α → β} {l : List α} (h : (l.map f).Nodup) : l.Nodup := by
  rw [List.nodup_iff_pairwise_ne] at h ⊢
  exact (List.pairwise_map.1 h).imp fun h e => h (by rw [e])
theorem nd_map {α β : Type} {f : α → β} {l : List α} (h : l.Nodup) (hi : ∀ a ∈ l, ∀ b ∈ l, f a = f b → a = b) : (l.map f).Nodup := by
  induction l with
  | nil => simp
  | cons x l ih =>
    simp only [List.nodup_cons] at h
    simp only [List.map_cons, List.nodup_cons]
    refine ⟨fun hm => ?_, ih h.2 fun a ha b hb => hi a (by simp [ha]) b (by simp [hb])⟩
    obtain ⟨y, hy, e⟩ := List.mem_map.1 hm
    have := hi y (by simp [hy]) x (by simp) e
    exact h.1 (this ▸ hy)
theorem lt_ext : ∀ {a b : List Int}, a.Pairwise (· < ·) → b.Pairwise (· < ·) → (∀ x, x ∈ a ↔ x ∈ b) → a = b
  | [], [], _, _, _ => rfl
  | [], y :: b, _, _, h => by have := (h y).2 (by simp); simp at this
  | x :: a, [], _, _, h => by have := (h x).1 (by simp); simp at this
  | x :: a, y :: b, ha, hb, h => by
    rw [List.pairwise_cons] at ha hb
    have hxy : x = y := by
      rcases List.mem_cons.1 ((h x).1 (by simp)) with e | e
      · exact e
      · rcases List.mem_cons.1 ((h y).2 (by simp)) with e' | e'
        · exact e'.symm
        · have := hb.1 x e; have := ha.1 y e'; omega
    subst hxy
    rw [lt_ext ha.2 hb.2 fun z => ?_]
    have hz := h z
    simp only [List.mem_cons] at hz
    constructor
    · intro hm
      rcases hz.1 (.inr hm) with e | e
      · subst e; have := ha.1 _ hm; omega
      · exact e
    · intro hm
      rcases hz.2 (.inr hm) with e | e
      · subst e; have := hb.1 _ hm; omega
      · exact e
theorem wv_mem {L : List Wd} {q v : Int} {y : Bool} : (v, y) ∈ wv L q ↔ (v, q, y) ∈ L := by
  unfold wv
  rw [List.mem_map]
  constructor
  · rintro ⟨⟨a, b, c⟩, h, e⟩
    rw [List.mem_filter] at h
    simp only [Prod.mk.injEq] at e
    obtain ⟨rfl, rfl⟩ := e
    have := eq_of_beq h.2
    simp only at this
    subst this; exact h.1
  · intro h
    exact ⟨(v, q, y), List.mem_filter.2 ⟨h, by simp⟩, rfl⟩
theorem wv_keys {S : Nat} {Open : List Int} {L : List Wd} (h : VI S Open L) (q : Int) : ((wv L q).map (·.1)).Nodup := by
  unfold wv
  rw [List.map_map]
  refine nd_map ((nd_of_map h.pr).sublist List.filter_sublist) fun a ha b hb e => ?_
  rw [List.mem_filter] at ha hb
  refine nd_map_inj h.pr ha.1 hb.1 ?_
  have h1 := eq_of_beq ha.2
  have h2 := eq_of_beq hb.2
  simp only [Function.comp] at e
  rw [h1, h2, e]
theorem VI.vok {S : Nat} {Open : List Int} {L : List Wd} (h : VI S Open L) (q : Int) : VOk S q (wv L q) := by
  refine ⟨wv_keys h q, fun v hv => ?_⟩
  obtain ⟨⟨v', y⟩, hm, rfl⟩ := List.mem_map.1 hv
  have := h.wd _ (wv_mem.1 hm)
  exact ⟨this.2.1, this.2.2⟩
theorem vg_iff {V : Vts} (hn : (V.map (·.1)).Nodup) {v : Int} {y : Bool} : vg V v = some y ↔ (v, y) ∈ V := by
  induction V with
  | nil => simp [vg]
  | cons p V ih =>
    simp only [List.map_cons, List.nodup_cons] at hn
    simp only [vg, List.mem_cons]
    by_cases c : v = p.1
    · rw [if_pos c]
      constructor
      · intro h; left; cases h; rw [c]
      · rintro (h | h)
        · rw [← h]
        · exact absurd (List.mem_map.2 ⟨_, h, c⟩) hn.1
    · rw [if_neg c, ih hn.2]
      constructor
      · exact .inr
      · rintro (h | h)
        · exact absurd (by rw [← h]) c
        · exact h
theorem cntV_mem {V : Vts} (hn : (V.map (·.1)).Nodup) {v : Int} {y : Bool} : v ∈ cntV V y ↔ (v, y) ∈ V := by
  unfold cntV
  rw [List.mem_filter, (sort_perm _).mem_iff]
  constructor
  · rintro ⟨h1, h2⟩
    cases hg : vg V v with
    | none => exact absurd h1 (vg_none.1 hg)
    | some b =>
      rw [hg] at h2
      have : b = y := by simpa using h2
      rw [← this]; exact (vg_iff hn).1 hg
  · intro h
    refine ⟨List.mem_map.2 ⟨_, h, rfl⟩, ?_⟩
    rw [(vg_iff hn).2 h]; simp
theorem refK_mem {L : List Wd} {q v z : Int} {y : Bool} : z ∈ refK L q y v ↔ z = v ∧ (v, q, y) ∈ L := by
  unfold refK
  rw [List.mem_map]
  constructor
  · rintro ⟨⟨a, b, c⟩, h, rfl⟩
    rw [List.mem_filter] at h
    simp only [Bool.and_eq_true, beq_iff_eq] at h
    obtain ⟨h, rfl, rfl, rfl⟩ := h
    exact ⟨rfl, h⟩
  · rintro ⟨rfl, h⟩
    exact ⟨(z, q, y), List.mem_filter.2 ⟨h, by simp⟩, rfl⟩
theorem refK_lt {S : Nat} {Open : List Int} {L : List Wd} (h : VI S Open L) (q v : Int) (y : Bool) : (refK L q y v).Pairwise (· < ·) := by
  have hn : (refK L q y v).Nodup := by
    unfold refK
    refine nd_map ((nd_of_map h.pr).sublist List.filter_sublist) fun a ha b hb e => ?_
    rw [List.mem_filter] at ha hb
    simp only [Bool.and_eq_true, beq_iff_eq] at ha hb
    obtain ⟨_, a1, a2, a3⟩ := ha
    obtain ⟨_, b1, b2, b3⟩ := hb
    exact Prod.ext (a1.trans b1.symm) (Prod.ext (a2.trans b2.symm) (a3.trans b3.symm))
  rw [List.nodup_iff_pairwise_ne] at hn
  refine hn.imp_of_mem fun {a b} ha hb hne => ?_
  have h1 := (refK_mem.1 ha).1
  have h2 := (refK_mem.1 hb).1
  exact absurd (h1.trans h2.symm) hne
theorem refC_succ (L : List Wd) (q : Int) (y : Bool) (k : Nat) : refC L q y (k + 1) = refC L q y k ++ refK L q y (k : Int) := by
  unfold refC; rw [List.range_succ, List.flatMap_append]; simp
theorem refC_mem {L : List Wd} {q z : Int} {y : Bool} {k : Nat} : z ∈ refC L q y k ↔ 0 ≤ z ∧ z < k ∧ (z, q, y) ∈ L := by
  unfold refC
  rw [List.mem_flatMap]
  constructor
  · rintro ⟨a, ha, hz⟩
    obtain ⟨rfl, h⟩ := refK_mem.1 hz
    have := List.mem_range.1 ha
    simp only [Int.ofNat_eq_natCast] at h ⊢
    exact ⟨by omega, by omega, h⟩
  · rintro ⟨h0, h1, h⟩
    obtain ⟨n, rfl⟩ : ∃ n : Nat, z = n := ⟨z.toNat, by omega⟩
    exact ⟨n, List.mem_range.2 (by omega), refK_mem.2 ⟨rfl, h⟩⟩
theorem refC_lt {S : Nat} {Open : List Int} {L : List Wd} (h : VI S Open L) (q : Int) (y : Bool) : ∀ k, (refC L q y k).Pairwise (· < ·)
  | 0 => by simp [refC]
  | k + 1 => by
    rw [refC_succ, List.pairwise_append]
    refine ⟨refC_lt h q y k, refK_lt h q _ y, fun a ha b hb => ?_⟩
    have h1 := refC_mem.1 ha
    have h2 := (refK_mem.1 hb).1
    omega
theorem refC_cnt {S : Nat} {Open : List Int} {L : List Wd} (h : VI S Open L) (q : Int) (y : Bool) : refC L q y 32 = cntV (wv L q) y := by
  have hn := wv_keys h q
  refine lt_ext (refC_lt h q y 32) ((sort_lt hn).sublist List.filter_sublist) fun z => ?_
  rw [refC_mem, cntV_mem hn, wv_mem]
  constructor
  · exact fun h => h.2.2
  · intro hz
    have := hasN_rg (h.wd _ hz).2.1
    exact ⟨this.1, this.2, hz⟩
theorem og_mem {O : Outr} {p : Int} {k : Nat} (h : og O p = some k) : (p, k) ∈ O := by
  induction O with
  | nil => simp [og] at h
  | cons e O ih =>
    simp only [og] at h
    by_cases c : p = e.1
    · rw [if_pos c] at h; cases h; rw [c]; simp
    · rw [if_neg c] at h; simp [ih h]
theorem og_none {O : Outr} {p : Int} : og O p = none ↔ p ∉ O.map (·.1) := by
  induction O with
  | nil => simp [og]
  | cons e O ih =>
    simp only [og, List.map_cons, List.mem_cons, not_or]
    by_cases c : p = e.1
    · rw [if_pos c]; simp [c]
    · rw [if_neg c, ih]; simp [c]
theorem VF.got {O : Outr} {F : List Vts} {Open : List Int} {L : List Wd} (h : VF O F Open L) {p : Int} (hp : p ∈ Open) : ∃ k, og O p = some k ∧ F[k]? = some (wv L p) := by
  cases ho : og O p with
  | none => exact absurd (h.ks ▸ hp) (og_none.1 ho)
  | some k => exact ⟨k, rfl, h.fw _ (og_mem ho)⟩
theorem VF.nog {O : Outr} {F : List Vts} {Open : List Int} {L : List Wd} (h : VF O F Open L) {p : Int} (hp : p ∉ Open) : og O p = none := og_none.2 (h.ks ▸ hp)
theorem wv_nil {S : Nat} {Open : List Int} {L : List Wd} (h : VI S Open L) {p : Int} (hp : p ∉ Open) : wv L p = [] := by
  unfold wv
  rw [List.map_eq_nil_iff, List.filter_eq_nil_iff]
  intro x hx e
  have e := eq_of_beq e
  exact hp (e ▸ (h.wd x hx).1)
theorem VI.ask {S : Nat} {Open : List Int} {L : List Wd} (h : VI S Open L) {p : Int} (hp : p ∉ Open) (hs : hasN S p = true) (h0 : p ≠ 0) : VI S (Open ++ [p]) L := by
  refine ⟨?_, fun q hq => ?_, fun x hx => ?_, h.pr⟩
  · rw [List.nodup_append]
    exact ⟨h.nd, by simp, fun a ha b hb e => hp (by have := List.mem_singleton.1 hb; rw [← this, ← e]; exact ha)⟩
  · rcases List.mem_append.1 hq with hq | hq
    · exact h.op q hq
    · rw [List.mem_singleton.1 hq]; exact ⟨hs, h0⟩
  · have := h.wd x hx
    exact ⟨List.mem_append_left _ this.1, this.2⟩
theorem lt_of_get {α : Type} {l : List α} {k : Nat} {x : α} (h : l[k]? = some x) : k < l.length := (List.getElem?_eq_some_iff.1 h).1
theorem VF.ask {S : Nat} {O : Outr} {F : List Vts} {Open : List Int} {L : List Wd} (hI : VI S Open L) (h : VF O F Open L) {p : Int} (hp : p ∉ Open) : VF (O ++ [(p, F.length)]) (F ++ [[]]) (Open ++ [p]) L := by
  refine ⟨by rw [List.map_append, h.ks]; rfl, ?_, fun e he => ?_⟩
  · rw [List.map_append, List.nodup_append]
    refine ⟨h.nd, by simp, fun a ha b hb e => ?_⟩
    obtain ⟨x, hx, rfl⟩ := List.mem_map.1 ha
    have h1 := lt_of_get (h.fw x hx)
    simp only [List.map_cons, List.map_nil, List.mem_singleton] at hb
    omega
  · rcases List.mem_append.1 he with he | he
    · have h1 := h.fw e he
      rw [List.getElem?_append_left (lt_of_get h1)]; exact h1
    · rw [List.mem_singleton.1 he]
      simp only
      rw [wv_nil hI hp]; simp
theorem VI.put {S : Nat} {Open : List Int} {L : List Wd} (h : VI S Open L) {v p : Int} {y : Bool} (hp : p ∈ Open) (hs : hasN S v = true) (hne : v ≠ p) (hn : ∀ x ∈ L, ¬ (x.1 = v ∧ x.2.1 = p)) : VI S Open (L ++ [(v, p, y)]) := by
  refine ⟨h.nd, h.op, fun x hx => ?_, ?_⟩
  · rcases List.mem_append.1 hx with hx | hx
    · exact h.wd x hx
    · rw [List.mem_singleton.1 hx]; exact ⟨hp, hs, hne⟩
  · rw [List.map_append, List.nodup_append]
    refine ⟨h.pr, by simp, fun a ha b hb e => ?_⟩
    obtain ⟨x, hx, rfl⟩ := List.mem_map.1 ha
    simp only [List.map_cons, List.map_nil, List.mem_singleton] at hb
    rw [hb] at e
    simp only [Prod.mk.injEq] at e
    exact hn x hx e
theorem VF.inj {O : Outr} {F : List Vts} {Open : List Int} {L : List Wd} (h : VF O F Open L) {e e' : Int × Nat} (he : e ∈ O) (he' : e' ∈ O) (hk : e.2 = e'.2) : e = e' := nd_map_inj h.nd he he' hk
theorem VF.put {O : Outr} {F : List Vts} {Open : List Int} {L : List Wd} (h : VF O F Open L) (hO : Open.Nodup) {v p : Int} {y : Bool} {k : Nat} (ho : og O p = some k) : VF O (F.set k (wv L p ++ [(v, y)])) Open (L ++ [(v, p, y)]) := by
  refine ⟨h.ks, h.nd, fun e he => ?_⟩
  have h1 := h.fw e he
  by_cases c : k = e.2
  · have : e = (p, k) := h.inj he (og_mem ho) c.symm
    rw [List.getElem?_set, if_pos c, if_pos (c ▸ lt_of_get h1), this]
    simp [wv, List.filter_append]
  · rw [List.getElem?_set, if_neg c, h1]
    have hne : p ≠ e.1 := fun hp => c (by
      have := nd_map_inj (by rw [h.ks]; exact hO) he (og_mem ho) hp.symm
      rw [this])
    simp [wv, List.filter_append, hne]
def kOpen (S : Nat) (g : Int) (Open : List Int) : List Int := Open.filter fun p => !(p == g) && hasN S p
def kL (S : Nat) (Open' : List Int) (L : List Wd) : List Wd := L.filter fun x => decide (x.2.1 ∈ Open') && hasN S x.1
theorem VI.keep {S S' : Nat} {Open : List Int} {L : List Wd} (h : VI S Open L) (g : Int) : VI S' (kOpen S' g Open) (kL S' (kOpen S' g Open) L) := by
  refine ⟨h.nd.sublist List.filter_sublist, fun q hq => ?_, fun x hx => ?_, h.pr.sublist (List.filter_sublist.map _)⟩
  · unfold kOpen at hq
    rw [List.mem_filter, Bool.and_eq_true] at hq
    exact ⟨hq.2.2, (h.op q hq.1).2⟩
  · unfold kL at hx
    rw [List.mem_filter, Bool.and_eq_true, decide_eq_true_eq] at hx
    exact ⟨hx.2.1, hx.2.2, (h.wd x hx.1).2.2⟩
theorem wv_kL {S' : Nat} {Open' : List Int} {L : List Wd} {q : Int} (hq : q ∈ Open') : wv (kL S' Open' L) q = (wv L q).filter fun p => hasN S' p.1 := by
  unfold wv kL
  rw [List.filter_map, List.filter_filter, List.filter_filter]
  congr 1
  refine List.filter_congr fun x hx => ?_
  simp only [Function.comp]
  cases hc : x.2.1 == q with
  | false => simp
  | true => rw [eq_of_beq hc]; simp [hq]
theorem VF.close {S : Nat} {O : Outr} {F : List Vts} {Open : List Int} {L : List Wd} (hI : VI S Open L) (h : VF O F Open L) (g : Int) : VF (odl O g) F (kOpen S g Open) (kL S (kOpen S g Open) L) := by
  refine ⟨?_, h.nd.sublist (List.filter_sublist.map _), fun e he => ?_⟩
  · unfold odl kOpen
    rw [← h.ks, List.filter_map]
    congr 1
    refine List.filter_congr fun x hx => ?_
    have := (hI.op x.1 (h.ks ▸ List.mem_map.2 ⟨x, hx, rfl⟩)).1
    simp [this]
  · unfold odl at he
    rw [List.mem_filter] at he
    have ho : e.1 ∈ Open := h.ks ▸ List.mem_map.2 ⟨e, he.1, rfl⟩
    have hm : e.1 ∈ kOpen S g Open := by
      unfold kOpen
      rw [List.mem_filter, Bool.and_eq_true]
      exact ⟨ho, he.2, (hI.op _ ho).1⟩
    rw [h.fw e he.1, wv_kL hm]
    congr 1
    symm
    rw [List.filter_eq_self]
    rintro ⟨v, y⟩ hp
    exact (hI.wd _ (wv_mem.1 hp)).2.1
theorem VF.move {S' : Nat} {O : Outr} {F F' : List Vts} {Open : List Int} {L : List Wd} (h : VF O F Open L) (g : Int) (hg : g ∉ Open) (hF : ∀ e ∈ O, hasN S' e.1 = true → F'[e.2]? = some ((wv L e.1).filter fun p => hasN S' p.1)) :
    VF (O.filter fun e => hasN S' e.1) F' (kOpen S' g Open) (kL S' (kOpen S' g Open) L) := by
  have hk : kOpen S' g Open = Open.filter fun p => hasN S' p := by
    unfold kOpen
    refine List.filter_congr fun x hx => ?_
    have : (x == g) = false := by
      cases hc : x == g with
      | false => rfl
      | true => exact absurd (eq_of_beq hc ▸ hx) hg
    simp [this]
  refine ⟨?_, h.nd.sublist (List.filter_sublist.map _), fun e he => ?_⟩
  · rw [hk, ← h.ks, List.filter_map]; rfl
  · rw [List.mem_filter] at he
    have hm : e.1 ∈ kOpen S' g Open := by
      rw [hk, List.mem_filter]
      exact ⟨h.ks ▸ List.mem_map.2 ⟨e, he.1, rfl⟩, he.2⟩
    rw [hF e he.1 he.2, wv_kL hm]
end Go.AEX

/- Door seat: a row of one's own that is given away: a contract about a slice that nobody writes serves; the row is frozen from then on. -/
namespace Go.AE
open Go
set_option linter.unusedVariables false
set_option linter.unusedSimpArgs false
variable {P : Program} {n k0 : Nat}
theorem Tri.give {f : FuncId} {args args' : List AV} {sz : Nat} {xs : List (List AV)} {p : Prop} {K : AV → Mem → Prop} (he : fzL 0 sz xs args = (p, args')) (hp : p)
    (h : Tri P f args' [.gone] K) : Tri P f args [.row sz xs] K := by
  refine ⟨h.1, fun φ σ w vs hI hv => ?_⟩
  obtain ⟨φ2, hf, hI2, hφ, _⟩ := hI.freeze (b := 0) (sz := sz) (xs := xs) rfl (by simp [fzM, ms])
  have hI2 : Inv φ2 σ [.gone] w := hI2
  have hv2 : VRs φ2 σ args' vs := by have := fzL_ok hf hv (by rw [he]; exact hp); rw [he] at this; exact this
  refine (h.2 φ2 σ w vs hI2 hv2).mono ?_
  rintro e w' ⟨v', he', φ', σ', v, m', hK, hst, hr⟩
  have none_owned : ∀ (b : Nat) (k : Blk) (i : Img), ([Blk.gone] : Mem)[b]? = some k → k.owned = true → σ b = some i → ∀ B : Nat, i.B ≠ B := by
    intro b k i hb hk
    cases b with
    | zero => simp at hb; subst hb; cases hk
    | succ b => simp at hb
  refine ⟨v', he', φ', σ', v, m', hK, ⟨Fz.le_trans hf.le hst.fz, hst.sg, hst.inv, hst.size, fun B hB hn => ?_, fun b k i hb hk hi => ?_, hst.old, hst.len, fun B hB hlt hn => ?_, hst.env⟩, hr⟩
  · exact hst.frame B hB fun b k i hb hk hi => none_owned b k i hb hk hi _
  · rcases hst.own b k i hb hk hi with ⟨c, l, j, g1, g2, g3, _⟩ | g
    · exact absurd rfl (none_owned c l j g1 g2 g3 j.B)
    · exact .inr g
  · refine hst.ice B ?_ hlt fun b k i hb hk hi => none_owned b k i hb hk hi _
    rcases hφ B with e | ⟨img, hi, e⟩
    · rw [e]; exact hB
    · exact absurd e.symm (hn 0 _ img rfl rfl hi)
theorem Tri.give0 {f : FuncId} {args args' : List AV} {sz : Nat} {xs : List (List AV)} {p : Prop} {r : AV} (he : fzL 0 sz xs args = (p, args')) (hp : p) (hi : idss 0 args' = true) (hr : rens [] 1 args' = args') (hr2 : ren [] 1 r = r)
    (h : Tri P f args' [] fun v m => v = r ∧ m = []) : Tri P f args [.row sz xs] fun v m => v = r ∧ m = [.gone] := by
  refine Tri.give he hp ((h.embed (m := [.gone]) [] hr.symm trivial hi rfl rfl (by simp)).mono ?_)
  rintro v m ⟨v0, m0, ⟨rfl, rfl⟩, rfl, rfl⟩
  exact ⟨hr2, rfl⟩
end Go.AE

/- Door seat: the reference's rosters: Is, Most, Check. -/
namespace Go.AEX
open Go Go.AE Go.Proofs
set_option maxRecDepth 100000
set_option linter.unusedVariables false
set_option linter.unusedSimpArgs false

theorem ris_yes (L : List Int) (t : Bool) (hl : L.length ≤ 1000000) (p : Int) (h : p ∈ L) : Tri Tryd.prog 12 [.vsl 1 (iv .i64 L) t, .int .i64 p] [] (fun v m => v = .bool true ∧ m = []) := by
  refine Tri.post ?_
  skip
  refine (Tri.enter (rl := r12) (code := c12) (by kernel_rfl) Tryd.func12 rfl c12_ok (by kernel_rfl) (by kernel_rfl) ?_)
  refine run_ok 4000 _ _ _ _ ?_
  simp (maxSteps := 10000000) only [go_sem, c12, r12, iv_len]
  refine sem_rounds (fun i : Nat => i ≤ L.length ∧ ∀ j < i, L.getD j 0 ≠ p) (fun i => [(1, .int .i64 p), (7, .vsl 1 (iv .i64 L) t), (8, .int .i64 L.length), (9, .int .i64 (i : Nat))])
    (fun i => []) (fun i => L.length - i) 0 [] ⟨Nat.zero_le _, fun j hj => by omega⟩ ?_ ?_
  · simp [Emb, go_sem]
  rintro i ⟨hi, hn⟩
  by_cases c : i < L.length
  · have hin : (i : Int) < (L.length : Int) := by omega
    have w1 := inc64 (show i < 1000000000000 by omega)
    have r0 := iv_rint (k := .i64) c
    have h0 := iv_hasI (k := .i64) c
    have hd : L.getD i 0 = L[i] := by simp [List.getD_eq_getElem?_getD, List.getElem?_eq_getElem c]
    generalize L[i] = x at *
    by_cases e : x = p
    · subst e
      skip
      refine run_ok 4000 _ _ _ _ ?_
      simp (maxSteps := 10000000) only [go_sem, hin, w1, r0, h0, iv_len, Int.natCast_nonneg, beq_self_eq_true]
      refine ⟨_, _, .sub [] ?_ .done, rfl, rfl⟩
      simp only [EmbV, go_sem]
    · have hx : (x == p) = false := by simpa using e
      skip
      refine run_ok 4000 _ _ _ _ ?_
      simp (maxSteps := 10000000) only [go_sem, hin, w1, r0, h0, iv_len, Int.natCast_nonneg, hx]
      refine ⟨i + 1, by omega, ⟨c, fun j hj => ?_⟩, [], ?_⟩
      · by_cases ej : j = i
        · rw [ej, hd]; exact e
        · exact hn j (by omega)
      · simp only [Emb, go_sem]
  · exfalso
    obtain ⟨j, hj, e⟩ := List.getElem_of_mem h
    have := hn j (by omega)
    rw [List.getD_eq_getElem?_getD, List.getElem?_eq_getElem hj] at this
    exact this e
theorem ris_no (L : List Int) (t : Bool) (hl : L.length ≤ 1000000) (p : Int) (h : p ∉ L) : Tri Tryd.prog 12 [.vsl 1 (iv .i64 L) t, .int .i64 p] [] (fun v m => v = .bool false ∧ m = []) := by
  refine Tri.post ?_
  skip
  refine (Tri.enter (rl := r12) (code := c12) (by kernel_rfl) Tryd.func12 rfl c12_ok (by kernel_rfl) (by kernel_rfl) ?_)
  refine run_ok 4000 _ _ _ _ ?_
  simp (maxSteps := 10000000) only [go_sem, c12, r12, iv_len]
  refine sem_rounds (fun i : Nat => i ≤ L.length) (fun i => [(1, .int .i64 p), (7, .vsl 1 (iv .i64 L) t), (8, .int .i64 L.length), (9, .int .i64 (i : Nat))])
    (fun i => []) (fun i => L.length - i) 0 [] (Nat.zero_le _) ?_ ?_
  · simp [Emb, go_sem]
  intro i hi
  by_cases c : i < L.length
  · have hin : (i : Int) < (L.length : Int) := by omega
    have w1 := inc64 (show i < 1000000000000 by omega)
    have r0 := iv_rint (k := .i64) c
    have h0 := iv_hasI (k := .i64) c
    have hx : (L[i] == p) = false := by
      have : L[i] ≠ p := fun e => h (e ▸ List.getElem_mem c)
      simpa using this
    generalize L[i] = x at *
    skip
    refine run_ok 4000 _ _ _ _ ?_
    simp (maxSteps := 10000000) only [go_sem, hin, w1, r0, h0, iv_len, Int.natCast_nonneg, hx]
    refine ⟨i + 1, by omega, c, [], ?_⟩
    simp only [Emb, go_sem]
  · have hin : ¬ (i : Int) < (L.length : Int) := by omega
    skip
    refine run_ok 4000 _ _ _ _ ?_
    simp (maxSteps := 10000000) only [go_sem, hin]
    refine run_ok 4000 _ _ _ _ ?_
    simp (maxSteps := 10000000) only [go_sem, hin]
    refine ⟨_, _, .sub [] ?_ .done, rfl, rfl⟩
    simp only [EmbV, go_sem]
theorem ris_spec (L : List Int) (t : Bool) (hl : L.length ≤ 1000000) (p : Int) : Tri Tryd.prog 12 [.vsl 1 (iv .i64 L) t, .int .i64 p] [] (fun v m => v = .bool (decide (p ∈ L)) ∧ m = []) := by
  by_cases h : p ∈ L
  · rw [decide_eq_true h]; exact ris_yes L t hl p h
  · rw [decide_eq_false h]; exact ris_no L t hl p h
theorem rrh_spec (S : Nat) (t : Bool) (ep p : Int) : Tri Tryd.prog 23 [rr (allN S 32) t ep, .int .i64 p] [] (fun v m => v = .bool (hasN S p) ∧ m = []) := by
  have hll := allN_len S 32
  have := rhas_spec (allN S 32) t (by omega) ep p
  rwa [allN_dec] at this
theorem rmost_spec (S : Nat) (t : Bool) (ep nt : Int) (vs : List Int) (tight : Bool) (hl : vs.length ≤ 1000) :
    Tri Tryd.prog 36 [rr (allN S 32) t ep, .int .i64 nt, .vsl 1 (iv .i64 vs) tight] [] (fun v m => v = .bsym (mostF S nt vs) ∧ m = []) := by
  refine Tri.post ?_
  have hhs := rrh_spec S t ep
  have hpc := pc_all S
  have hll := allN_len S 32
  generalize allN S 32 = L at *
  skip
  refine (Tri.enter (rl := r36) (code := c36) (by kernel_rfl) Tryd.func36 rfl c36_ok (by kernel_rfl) (by kernel_rfl) ?_)
  refine run_ok 4000 _ _ _ _ ?_
  simp (maxSteps := 10000000) only [go_sem, c36, r36, iv_len]
  refine sem_rounds (fun i : Nat => i ≤ vs.length ∧ ∀ j, j < i → okM S nt vs j = true)
    (fun i => [(1, .int .i64 nt), (2, .vsl 1 (iv .i64 vs) tight), (3, .pbox 0 0), (9, .vsl 1 (iv .i64 vs) tight), (10, .int .i64 vs.length), (11, .int .i64 (i : Nat))])
    (fun i => [.box [.vsl 1 (iv .i64 L) t, .int .i64 ep]]) (fun i => vs.length - i) 0 [0] ⟨Nat.zero_le _, fun j hj => by omega⟩ ?_ ?_
  · simp [Emb, go_sem, iv_len]
  rintro i ⟨hi, hall⟩
  by_cases c : i < vs.length
  · have hin : (i : Int) < (vs.length : Int) := by omega
    have r0 := iv_rint (k := .i64) c
    have h0 := iv_hasI (k := .i64) c
    have hhas := hhs vs[i]
    have w1 := inc64 (show i < 1000000000000 by omega)
    cases hh : hasN S vs[i] with
    | false =>
      have hno : okM S nt vs i = false := by unfold okM; rw [getD_at c, hh]; rfl
      rw [hh] at hhas
      generalize vs[i] = v at *
      skip
      refine run_ok 4000 _ _ _ _ ?_
      simp (maxSteps := 10000000) only [go_sem, hin, r0, h0, iv_len, Int.natCast_nonneg]
      refine sem_call rfl rfl (((hhas).embed [] rfl trivial rfl rfl rfl (by simp)).mono ?_)
      rintro _ _ ⟨_, _, ⟨rfl, rfl⟩, rfl, rfl⟩
      refine run_ok 4000 _ _ _ _ ?_
      simp (maxSteps := 10000000) only [go_sem, hin, r0, h0, iv_len, Int.natCast_nonneg]
      rw [mostF_no c hno]
      refine ⟨_, _, .like (Like.bsym false) (.sub [] ?_ .done), rfl, rfl⟩
      simp only [EmbV, go_sem]
    | true =>
      rw [hh] at hhas
      by_cases hq : vs[i] = nt
      · have hno : okM S nt vs i = false := by unfold okM; rw [getD_at c, hq]; simp
        have hne : (vs[i] == nt) = true := by simpa using hq
        generalize vs[i] = v at *
        skip
        refine run_ok 4000 _ _ _ _ ?_
        simp (maxSteps := 10000000) only [go_sem, hin, r0, h0, hne, iv_len, Int.natCast_nonneg]
        refine sem_call rfl rfl (((hhas).embed [] rfl trivial rfl rfl rfl (by simp)).mono ?_)
        rintro _ _ ⟨_, _, ⟨rfl, rfl⟩, rfl, rfl⟩
        refine run_ok 4000 _ _ _ _ ?_
        simp (maxSteps := 10000000) only [go_sem, hin, r0, h0, hne, iv_len, Int.natCast_nonneg]
        rw [mostF_no c hno]
        refine ⟨_, _, .like (Like.bsym false) (.sub [] ?_ .done), rfl, rfl⟩
        simp only [EmbV, go_sem]
      · have hne : (vs[i] == nt) = false := by simpa using hq
        cases i with
        | zero =>
          have hok : okM S nt vs 0 = true := by unfold okM; rw [getD_at c, hh]; simp [hq]
          have g0 : ¬ (0 : Int) > 0 := by omega
          have hin0 : (0 : Int) < (vs.length : Int) := by omega
          generalize vs[0] = v at *
          skip
          refine run_ok 4000 _ _ _ _ ?_
          simp (maxSteps := 10000000) only [go_sem, hin0, r0, h0, hne, show iwrap .i64 (1 : Int) = 1 from rfl, g0, iv_len, Int.natCast_nonneg]
          refine sem_call rfl rfl (((hhas).embed [] rfl trivial rfl rfl rfl (by simp)).mono ?_)
          rintro _ _ ⟨_, _, ⟨rfl, rfl⟩, rfl, rfl⟩
          refine run_ok 4000 _ _ _ _ ?_
          simp (maxSteps := 10000000) only [go_sem, hin0, r0, h0, hne, show iwrap .i64 (1 : Int) = 1 from rfl, g0, iv_len, Int.natCast_nonneg]
          refine ⟨1, by omega, ⟨c, fun j hj => by rw [show j = 0 by omega]; exact hok⟩, [0], ?_⟩
          simp only [Emb, go_sem]
        | succ j =>
          have cj : j < vs.length := by omega
          have r1 := iv_rint (k := .i64) cj
          have h1 := iv_hasI (k := .i64) cj
          have hin1 : (j : Int) < (vs.length : Int) := by omega
          have g0 : ((j + 1 : Nat) : Int) > 0 := by omega
          have w2 : iwrap .i64 (((j + 1 : Nat) : Int) - 1) = (j : Int) := by rw [iwrap_i64_in (by omega)]; omega
          by_cases hlt : vs[j] < vs[j + 1]
          · have hok : okM S nt vs (j + 1) = true := by unfold okM; rw [getD_at c, Nat.add_sub_cancel, getD_at cj, hh]; simp [hq, hlt]
            have g1 : ¬ vs[j] ≥ vs[j + 1] := by omega
            generalize vs[j + 1] = v at *
            generalize vs[j] = u at *
            skip
            refine run_ok 4000 _ _ _ _ ?_
            simp (maxSteps := 10000000) only [go_sem, hin, hin1, r0, h0, r1, h1, hne, w1, w2, g0, g1, iv_len, Int.natCast_nonneg]
            refine sem_call rfl rfl (((hhas).embed [] rfl trivial rfl rfl rfl (by simp)).mono ?_)
            rintro _ _ ⟨_, _, ⟨rfl, rfl⟩, rfl, rfl⟩
            refine run_ok 4000 _ _ _ _ ?_
            simp (maxSteps := 10000000) only [go_sem, hin, hin1, r0, h0, r1, h1, hne, w1, w2, g0, g1, iv_len, Int.natCast_nonneg]
            refine ⟨j + 1 + 1, by omega, ⟨c, fun q hq => ?_⟩, [0], ?_⟩
            · by_cases e : q = j + 1
              · rw [e]; exact hok
              · exact hall q (by omega)
            · simp only [Emb, go_sem]
          · have hno : okM S nt vs (j + 1) = false := by unfold okM; rw [getD_at c, Nat.add_sub_cancel, getD_at cj, hh]; simp [hlt]
            have g1 : vs[j] ≥ vs[j + 1] := by omega
            generalize vs[j + 1] = v at *
            generalize vs[j] = u at *
            skip
            refine run_ok 4000 _ _ _ _ ?_
            simp (maxSteps := 10000000) only [go_sem, hin, hin1, r0, h0, r1, h1, hne, w1, w2, g0, g1, iv_len, Int.natCast_nonneg]
            refine sem_call rfl rfl (((hhas).embed [] rfl trivial rfl rfl rfl (by simp)).mono ?_)
            rintro _ _ ⟨_, _, ⟨rfl, rfl⟩, rfl, rfl⟩
            refine run_ok 4000 _ _ _ _ ?_
            simp (maxSteps := 10000000) only [go_sem, hin, hin1, r0, h0, r1, h1, hne, w1, w2, g0, g1, iv_len, Int.natCast_nonneg]
            rw [mostF_no c hno]
            refine ⟨_, _, .like (Like.bsym false) (.sub [] ?_ .done), rfl, rfl⟩
            simp only [EmbV, go_sem]
  · have hge : ¬ (i : Int) < (vs.length : Int) := by omega
    have q1 : (L.length : Int).tdiv 2 = ((L.length / 2 : Nat) : Int) := by rw [Int.tdiv_eq_ediv_of_nonneg (by omega)]; omega
    have w1 : iwrap .i64 ((L.length / 2 : Nat) : Int) = ((L.length / 2 : Nat) : Int) := by rw [iwrap_i64_in (by omega)]
    have e1 : decide ((vs.length : Int) > ((L.length / 2 : Nat) : Int)) = decide (2 * vs.length > pc S) := by
      rw [Bool.eq_iff_iff]; simp only [decide_eq_true_eq]; omega
    rw [mostF_yes fun j hj => hall j (by omega)]
    skip
    refine run_ok 4000 _ _ _ _ ?_
    simp (maxSteps := 10000000) only [go_sem, hge, q1, w1, iv_len]
    refine run_ok 4000 _ _ _ _ ?_
    simp (maxSteps := 10000000) only [go_sem, hge, q1, w1, iv_len]
    refine ⟨_, _, .sub [] ?_ .done, rfl, rfl⟩
    simp only [EmbV, go_sem, e1]
theorem rcheck_spec (S : Nat) (t : Bool) (ep k p : Int) (vs : List Int) (hl : vs.length ≤ 1000) :
    Tri Tryd.prog 27 [rr (allN S 32) t ep, .agg [.int .i64 k, .int .i64 p, .vsl 1 (iv .i64 vs) false]] [] (fun v m => v = .int .i64 (chkF S (k, p, vs)) ∧ m = []) := by
  refine Tri.post ?_
  have hhas := rrh_spec S t ep p
  have hmost := rmost_spec S t ep p vs false hl
  generalize allN S 32 = L at *
  by_cases a1 : k < 1
  · have e : chkF S (k, p, vs) = 7 := by simp [chkF, a1]
    rw [e]
    skip
    refine (Tri.enter (rl := r27) (code := c27) (by kernel_rfl) Tryd.func27 rfl c27_ok (by kernel_rfl) (by kernel_rfl) ?_)
    refine run_ok 4000 _ _ _ _ ?_
    simp (maxSteps := 10000000) only [go_sem, c27, r27, a1]
    refine ⟨_, _, .sub [] ?_ .done, rfl, rfl⟩
    simp only [EmbV, go_sem]
  by_cases a2 : k > 3
  · have e : chkF S (k, p, vs) = 7 := by simp [chkF, a2]
    rw [e]
    skip
    refine (Tri.enter (rl := r27) (code := c27) (by kernel_rfl) Tryd.func27 rfl c27_ok (by kernel_rfl) (by kernel_rfl) ?_)
    refine run_ok 4000 _ _ _ _ ?_
    simp (maxSteps := 10000000) only [go_sem, c27, r27, a1, a2]
    refine ⟨_, _, .sub [] ?_ .done, rfl, rfl⟩
    simp only [EmbV, go_sem]
  by_cases b1 : p < 0
  · have e : chkF S (k, p, vs) = 4 := by simp only [chkF]; rw [if_neg (by omega), if_pos (by omega)]
    rw [e]
    skip
    refine (Tri.enter (rl := r27) (code := c27) (by kernel_rfl) Tryd.func27 rfl c27_ok (by kernel_rfl) (by kernel_rfl) ?_)
    refine run_ok 4000 _ _ _ _ ?_
    simp (maxSteps := 10000000) only [go_sem, c27, r27, a1, a2, b1]
    refine ⟨_, _, .sub [] ?_ .done, rfl, rfl⟩
    simp only [EmbV, go_sem]
  by_cases b2 : p > 31
  · have e : chkF S (k, p, vs) = 4 := by simp only [chkF]; rw [if_neg (by omega), if_pos (by omega)]
    rw [e]
    skip
    refine (Tri.enter (rl := r27) (code := c27) (by kernel_rfl) Tryd.func27 rfl c27_ok (by kernel_rfl) (by kernel_rfl) ?_)
    refine run_ok 4000 _ _ _ _ ?_
    simp (maxSteps := 10000000) only [go_sem, c27, r27, a1, a2, b1, b2]
    refine ⟨_, _, .sub [] ?_ .done, rfl, rfl⟩
    simp only [EmbV, go_sem]
  have hk : k = 1 ∨ k = 2 ∨ k = 3 := by omega
  by_cases b3 : p = 0 ∧ k ≠ 1
  · have e : chkF S (k, p, vs) = 4 := by simp only [chkF]; rw [if_neg (by omega), if_pos (by omega)]
    have z1 : (p == 0) = true := by simp [b3.1]
    have z2 : k > 1 := by omega
    rw [e]
    skip
    refine (Tri.enter (rl := r27) (code := c27) (by kernel_rfl) Tryd.func27 rfl c27_ok (by kernel_rfl) (by kernel_rfl) ?_)
    refine run_ok 4000 _ _ _ _ ?_
    simp (maxSteps := 10000000) only [go_sem, c27, r27, a1, a2, b1, b2, z1, z2]
    refine ⟨_, _, .sub [] ?_ .done, rfl, rfl⟩
    simp only [EmbV, go_sem]
  by_cases b4 : k ≠ 3 ∧ 0 < vs.length
  · have e : chkF S (k, p, vs) = 4 := by simp only [chkF]; rw [if_neg (by omega), if_pos (by omega)]
    have z3 : k < 3 := by omega
    have z4 : (vs.length : Int) > 0 := by omega
    rw [e]
    by_cases b5 : p = 0
    · have z1 : (p == 0) = true := by simp [b5]
      have z2 : ¬ k > 1 := by omega
      skip
      refine (Tri.enter (rl := r27) (code := c27) (by kernel_rfl) Tryd.func27 rfl c27_ok (by kernel_rfl) (by kernel_rfl) ?_)
      refine run_ok 4000 _ _ _ _ ?_
      simp (maxSteps := 10000000) only [go_sem, c27, r27, a1, a2, b1, b2, z1, z2, z3, z4, iv_len]
      refine ⟨_, _, .sub [] ?_ .done, rfl, rfl⟩
      simp only [EmbV, go_sem]
    · have z1 : (p == 0) = false := by simpa using b5
      skip
      refine (Tri.enter (rl := r27) (code := c27) (by kernel_rfl) Tryd.func27 rfl c27_ok (by kernel_rfl) (by kernel_rfl) ?_)
      refine run_ok 4000 _ _ _ _ ?_
      simp (maxSteps := 10000000) only [go_sem, c27, r27, a1, a2, b1, b2, z1, z3, z4, iv_len]
      refine ⟨_, _, .sub [] ?_ .done, rfl, rfl⟩
      simp only [EmbV, go_sem]
  have hz : (p == 0) = true ∧ k = 1 ∨ (p == 0) = false := by
    by_cases h : p = 0
    · exact .inl ⟨by simp [h], by omega⟩
    · exact .inr (by simpa using h)
  rcases hk with rfl | rfl | rfl
  · have z4 : ¬ (vs.length : Int) > 0 := by omega
    cases hh : hasN S p with
    | true =>
      rw [hh] at hhas
      have e : chkF S (1, p, vs) = 10 := by simp only [chkF]; rw [if_neg (by omega), if_neg (by omega), if_pos (by simp [hh])]
      rw [e]
      rcases hz with ⟨z1, _⟩ | z1
      · skip
        refine (Tri.enter (rl := r27) (code := c27) (by kernel_rfl) Tryd.func27 rfl c27_ok (by kernel_rfl) (by kernel_rfl) ?_)
        refine run_ok 4000 _ _ _ _ ?_
        simp (maxSteps := 10000000) only [go_sem, c27, r27, a1, a2, b1, b2, z1, z4, iv_len, beq_self_eq_true]
        refine sem_call rfl rfl (((hhas).embed [] rfl trivial rfl rfl rfl (by simp)).mono ?_)
        rintro _ _ ⟨_, _, ⟨rfl, rfl⟩, rfl, rfl⟩
        refine run_ok 4000 _ _ _ _ ?_
        simp (maxSteps := 10000000) only [go_sem, a1, a2, b1, b2, z1, z4, iv_len, beq_self_eq_true]
        refine ⟨_, _, .sub [] ?_ .done, rfl, rfl⟩
        simp only [EmbV, go_sem]
      · skip
        refine (Tri.enter (rl := r27) (code := c27) (by kernel_rfl) Tryd.func27 rfl c27_ok (by kernel_rfl) (by kernel_rfl) ?_)
        refine run_ok 4000 _ _ _ _ ?_
        simp (maxSteps := 10000000) only [go_sem, c27, r27, a1, a2, b1, b2, z1, z4, iv_len, beq_self_eq_true]
        refine sem_call rfl rfl (((hhas).embed [] rfl trivial rfl rfl rfl (by simp)).mono ?_)
        rintro _ _ ⟨_, _, ⟨rfl, rfl⟩, rfl, rfl⟩
        refine run_ok 4000 _ _ _ _ ?_
        simp (maxSteps := 10000000) only [go_sem, a1, a2, b1, b2, z1, z4, iv_len, beq_self_eq_true]
        refine ⟨_, _, .sub [] ?_ .done, rfl, rfl⟩
        simp only [EmbV, go_sem]
    | false =>
      rw [hh] at hhas
      have e : chkF S (1, p, vs) = 0 := by simp only [chkF]; rw [if_neg (by omega), if_neg (by omega), if_neg (by simp [hh]), if_neg (by omega), if_neg (by omega)]
      rw [e]
      rcases hz with ⟨z1, _⟩ | z1
      · skip
        refine (Tri.enter (rl := r27) (code := c27) (by kernel_rfl) Tryd.func27 rfl c27_ok (by kernel_rfl) (by kernel_rfl) ?_)
        refine run_ok 4000 _ _ _ _ ?_
        simp (maxSteps := 10000000) only [go_sem, c27, r27, a1, a2, b1, b2, z1, z4, iv_len, beq_self_eq_true]
        refine sem_call rfl rfl (((hhas).embed [] rfl trivial rfl rfl rfl (by simp)).mono ?_)
        rintro _ _ ⟨_, _, ⟨rfl, rfl⟩, rfl, rfl⟩
        refine run_ok 4000 _ _ _ _ ?_
        simp (maxSteps := 10000000) only [go_sem, a1, a2, b1, b2, z1, z4, iv_len, beq_self_eq_true]
        refine ⟨_, _, .sub [] ?_ .done, rfl, rfl⟩
        simp only [EmbV, go_sem]
      · skip
        refine (Tri.enter (rl := r27) (code := c27) (by kernel_rfl) Tryd.func27 rfl c27_ok (by kernel_rfl) (by kernel_rfl) ?_)
        refine run_ok 4000 _ _ _ _ ?_
        simp (maxSteps := 10000000) only [go_sem, c27, r27, a1, a2, b1, b2, z1, z4, iv_len, beq_self_eq_true]
        refine sem_call rfl rfl (((hhas).embed [] rfl trivial rfl rfl rfl (by simp)).mono ?_)
        rintro _ _ ⟨_, _, ⟨rfl, rfl⟩, rfl, rfl⟩
        refine run_ok 4000 _ _ _ _ ?_
        simp (maxSteps := 10000000) only [go_sem, a1, a2, b1, b2, z1, z4, iv_len, beq_self_eq_true]
        refine ⟨_, _, .sub [] ?_ .done, rfl, rfl⟩
        simp only [EmbV, go_sem]
  · have z4 : ¬ (vs.length : Int) > 0 := by omega
    have z1 : (p == 0) = false := by rcases hz with ⟨_, h⟩ | h; omega; exact h
    cases hh : hasN S p with
    | true =>
      rw [hh] at hhas
      have e : chkF S (2, p, vs) = 0 := by simp only [chkF]; rw [if_neg (by omega), if_neg (by omega), if_neg (by omega), if_neg (by simp [hh]), if_neg (by omega)]
      rw [e]
      skip
      refine (Tri.enter (rl := r27) (code := c27) (by kernel_rfl) Tryd.func27 rfl c27_ok (by kernel_rfl) (by kernel_rfl) ?_)
      refine run_ok 4000 _ _ _ _ ?_
      simp (maxSteps := 10000000) only [go_sem, c27, r27, a1, a2, b1, b2, z1, z4, iv_len]
      refine sem_call rfl rfl (((hhas).embed [] rfl trivial rfl rfl rfl (by simp)).mono ?_)
      rintro _ _ ⟨_, _, ⟨rfl, rfl⟩, rfl, rfl⟩
      refine run_ok 4000 _ _ _ _ ?_
      simp (maxSteps := 10000000) only [go_sem, a1, a2, b1, b2, z1, z4, iv_len]
      refine ⟨_, _, .sub [] ?_ .done, rfl, rfl⟩
      simp only [EmbV, go_sem]
    | false =>
      rw [hh] at hhas
      have e : chkF S (2, p, vs) = 13 := by simp only [chkF]; rw [if_neg (by omega), if_neg (by omega), if_neg (by omega), if_pos ⟨by omega, hh⟩]
      rw [e]
      skip
      refine (Tri.enter (rl := r27) (code := c27) (by kernel_rfl) Tryd.func27 rfl c27_ok (by kernel_rfl) (by kernel_rfl) ?_)
      refine run_ok 4000 _ _ _ _ ?_
      simp (maxSteps := 10000000) only [go_sem, c27, r27, a1, a2, b1, b2, z1, z4, iv_len]
      refine sem_call rfl rfl (((hhas).embed [] rfl trivial rfl rfl rfl (by simp)).mono ?_)
      rintro _ _ ⟨_, _, ⟨rfl, rfl⟩, rfl, rfl⟩
      refine run_ok 4000 _ _ _ _ ?_
      simp (maxSteps := 10000000) only [go_sem, a1, a2, b1, b2, z1, z4, iv_len]
      refine ⟨_, _, .sub [] ?_ .done, rfl, rfl⟩
      simp only [EmbV, go_sem]
  · have z1 : (p == 0) = false := by rcases hz with ⟨_, h⟩ | h; omega; exact h
    cases hh : hasN S p with
    | false =>
      rw [hh] at hhas
      have e : chkF S (3, p, vs) = 13 := by simp only [chkF]; rw [if_neg (by omega), if_neg (by omega), if_neg (by omega), if_pos ⟨by omega, hh⟩]
      rw [e]
      skip
      refine (Tri.enter (rl := r27) (code := c27) (by kernel_rfl) Tryd.func27 rfl c27_ok (by kernel_rfl) (by kernel_rfl) ?_)
      refine run_ok 4000 _ _ _ _ ?_
      simp (maxSteps := 10000000) only [go_sem, c27, r27, a1, a2, b1, b2, z1, iv_len, beq_self_eq_true]
      refine sem_call rfl rfl (((hhas).embed [] rfl trivial rfl rfl rfl (by simp)).mono ?_)
      rintro _ _ ⟨_, _, ⟨rfl, rfl⟩, rfl, rfl⟩
      refine run_ok 4000 _ _ _ _ ?_
      simp (maxSteps := 10000000) only [go_sem, a1, a2, b1, b2, z1, iv_len, beq_self_eq_true]
      refine ⟨_, _, .sub [] ?_ .done, rfl, rfl⟩
      simp only [EmbV, go_sem]
    | true =>
      rw [hh] at hhas
      cases hm : mostF S p vs with
      | true =>
        rw [hm] at hmost
        have e : chkF S (3, p, vs) = 0 := by simp only [chkF]; rw [if_neg (by omega), if_neg (by omega), if_neg (by omega), if_neg (by simp [hh]), if_neg (by simp [hm])]
        rw [e]
        skip
        refine (Tri.enter (rl := r27) (code := c27) (by kernel_rfl) Tryd.func27 rfl c27_ok (by kernel_rfl) (by kernel_rfl) ?_)
        refine run_ok 4000 _ _ _ _ ?_
        simp (maxSteps := 10000000) only [go_sem, c27, r27, a1, a2, b1, b2, z1, iv_len, beq_self_eq_true]
        refine sem_call rfl rfl (((hhas).embed [] rfl trivial rfl rfl rfl (by simp)).mono ?_)
        rintro _ _ ⟨_, _, ⟨rfl, rfl⟩, rfl, rfl⟩
        refine run_ok 4000 _ _ _ _ ?_
        simp (maxSteps := 10000000) only [go_sem, a1, a2, b1, b2, z1, iv_len, beq_self_eq_true]
        refine sem_call rfl rfl (((hmost).embed [] rfl trivial rfl rfl rfl (by simp)).mono ?_)
        rintro _ _ ⟨_, _, ⟨rfl, rfl⟩, rfl, rfl⟩
        refine run_ok 4000 _ _ _ _ ?_
        simp (maxSteps := 10000000) only [go_sem, a1, a2, b1, b2, z1, iv_len, beq_self_eq_true]
        refine ⟨_, _, .sub [] ?_ .done, rfl, rfl⟩
        simp only [EmbV, go_sem]
      | false =>
        rw [hm] at hmost
        have e : chkF S (3, p, vs) = 15 := by simp only [chkF]; rw [if_neg (by omega), if_neg (by omega), if_neg (by omega), if_neg (by simp [hh]), if_pos (by simp [hm])]
        rw [e]
        skip
        refine (Tri.enter (rl := r27) (code := c27) (by kernel_rfl) Tryd.func27 rfl c27_ok (by kernel_rfl) (by kernel_rfl) ?_)
        refine run_ok 4000 _ _ _ _ ?_
        simp (maxSteps := 10000000) only [go_sem, c27, r27, a1, a2, b1, b2, z1, iv_len, beq_self_eq_true]
        refine sem_call rfl rfl (((hhas).embed [] rfl trivial rfl rfl rfl (by simp)).mono ?_)
        rintro _ _ ⟨_, _, ⟨rfl, rfl⟩, rfl, rfl⟩
        refine run_ok 4000 _ _ _ _ ?_
        simp (maxSteps := 10000000) only [go_sem, a1, a2, b1, b2, z1, iv_len, beq_self_eq_true]
        refine sem_call rfl rfl (((hmost).embed [] rfl trivial rfl rfl rfl (by simp)).mono ?_)
        rintro _ _ ⟨_, _, ⟨rfl, rfl⟩, rfl, rfl⟩
        refine run_ok 4000 _ _ _ _ ?_
        simp (maxSteps := 10000000) only [go_sem, a1, a2, b1, b2, z1, iv_len, beq_self_eq_true]
        refine ⟨_, _, .sub [] ?_ .done, rfl, rfl⟩
        simp only [EmbV, go_sem]
end Go.AEX

/- Door seat: the reference's rosters: one, With; law18.Told. -/
namespace Go.AEX
open Go Go.AE Go.Proofs
set_option maxRecDepth 100000
set_option linter.unusedVariables false
set_option linter.unusedSimpArgs false

theorem hasN_flip {S : Nat} {p : Int} (hp : 0 ≤ p ∧ p < 32) (q : Int) : hasN (flipS S p) q = if q = p then !hasN S q else hasN S q := by
  unfold hasN flipS
  rw [Nat.testBit_xor, Nat.testBit_two_pow]
  by_cases c : q = p
  · subst c
    rw [if_pos rfl]
    simp [hp.1, hp.2]
  · rw [if_neg c]
    by_cases h : 0 ≤ q ∧ q < 32
    · have : ¬ p.toNat = q.toNat := by omega
      simp [this]
    · by_cases h0 : 0 ≤ q
      · have : ¬ q < 32 := by omega
        simp [this]
      · simp [h0]
theorem allN_join {S : Nat} {p : Int} (hp : 0 ≤ p ∧ p < 32) (hn : hasN S p = false) : ofL (allN S 32 ++ [p]) 32 = allN (flipS S p) 32 := by
  unfold ofL allN
  refine List.filter_congr fun q hq => ?_
  rw [hasN_flip hp]
  have e : q ∈ (((List.range 32).map Int.ofNat).filter fun p => hasN S p) ++ [p] ↔ hasN S q = true ∨ q = p := by
    rw [List.mem_append, List.mem_filter, List.mem_singleton]
    simp only [hq, true_and]
  by_cases c : q = p
  · rw [if_pos c, decide_eq_true (e.2 (.inr c)), c, hn]; rfl
  · rw [if_neg c]
    cases h : hasN S q with
    | true => exact decide_eq_true (e.2 (.inl h))
    | false =>
      refine decide_eq_false fun h' => ?_
      rcases e.1 h' with h' | h'
      · rw [h] at h'; cases h'
      · exact c h'
theorem allN_part {S : Nat} {p : Int} (hp : 0 ≤ p ∧ p < 32) (hn : hasN S p = true) : (allN S 32).filter (fun q => q != p) = allN (flipS S p) 32 := by
  unfold allN
  rw [List.filter_filter]
  refine List.filter_congr fun q hq => ?_
  rw [hasN_flip hp]
  by_cases c : q = p
  · rw [if_pos c, c, hn]; simp
  · rw [if_neg c]
    have : (q != p) = true := by simpa using c
    rw [this]; simp
theorem one_join (L : List Int) (hl : L.length ≤ 1000) (ep p : Int) (vs : List Int) (he : -1000000 ≤ ep ∧ ep ≤ 1000000000) :
    Tri Tryd.prog 28 [rr L false ep, .agg [.int .i64 1, .int .i64 p, .vsl 1 (iv .i64 vs) false]] [] (fun v m => v = rr (ofL (L ++ [p]) 32) false (ep + 1) ∧ m = []) := by
  refine Tri.post ?_
  have w1 : iwrap .i64 (ep + 1) = ep + 1 := iwrap_i64_in (by omega)
  have sm0 : small L.length := by unfold small; omega
  have sm1 : small (L.length + 1) := by unfold small; omega
  have hal := r_iv_all (L ++ [p])
  rw [List.length_append, List.length_singleton] at hal
  have hg := Tri.give0 (args := [.sl 0 0 (L.length + 1) (L.length + 1) false]) (args' := [.vsl 1 (iv .i64 (L ++ [p])) false]) (sz := 1) (xs := iv .i64 (L ++ [p])) (p := (fzL 0 1 (iv .i64 (L ++ [p])) [.sl 0 0 (L.length + 1) (L.length + 1) false]).1)
    (Prod.ext rfl (by simp [fzL, fzV, hal])) (by simp [fzL, fzV, iv_len]) rfl rfl rfl (rof_spec (L ++ [p]) false (by simp; omega))
  have hfl := r_iv_all L
  have hap : iv .i64 L ++ [[AV.int .i64 p]] = iv .i64 (L ++ [p]) := by rw [r_iv_one, r_iv_app]
  skip
  refine (Tri.enter (rl := r28) (code := c28) (by kernel_rfl) Tryd.func28 rfl c28_ok (by kernel_rfl) (by kernel_rfl) ?_)
  refine run_ok 4000 _ _ _ _ ?_
  simp (maxSteps := 10000000) only [go_sem, c28, r28, w1, sm0, sm1, iv_len, hfl, hap, Nat.le_refl, beq_self_eq_true, max_add, Nat.zero_add]
  refine sem_drawG l28_0_ok (by kernel_rfl) ?_
  intro KK hKK
  simp (maxSteps := 10000000) only [go_sem, l28_0, w1, sm0, sm1, iv_len, hfl, hap, Nat.le_refl, beq_self_eq_true, max_add, Nat.zero_add]
  refine TriZ.of (((hg).embed [4] rfl (by repeat' first | exact trivial | rfl | (simp only [go_sem]; done) | constructor) rfl (by first | rfl | simp only [go_sem]) rfl (by simp)).mono ?_)
  rintro _ _ ⟨_, _, ⟨rfl, rfl⟩, rfl, rfl⟩
  simp (maxSteps := 10000000) only [go_sem, w1, sm0, sm1, iv_len, hfl, hap, Nat.le_refl, beq_self_eq_true, max_add, Nat.zero_add]
  subst hKK
  simp (maxSteps := 10000000) only [go_sem, w1, sm0, sm1, iv_len, hfl, hap, Nat.le_refl, beq_self_eq_true, max_add, Nat.zero_add]
  refine ⟨_, _, .sub [] ?_ .done, rfl, rfl⟩
  simp only [EmbV, go_sem]
theorem one_part (L : List Int) (hl : L.length ≤ 1000) (ep k p : Int) (hk : k ≠ 1) (vs : List Int) (he : -1000000 ≤ ep ∧ ep ≤ 1000000000) :
    Tri Tryd.prog 28 [rr L false ep, .agg [.int .i64 k, .int .i64 p, .vsl 1 (iv .i64 vs) false]] [] (fun v m => v = rr (L.filter fun q => q != p) false (ep + 1) ∧ m = []) := by
  refine Tri.post ?_
  have w0 : iwrap .i64 (ep + 1) = ep + 1 := iwrap_i64_in (by omega)
  have k1 : (k == 1) = false := by simpa using hk
  skip
  refine (Tri.enter (rl := r28) (code := c28) (by kernel_rfl) Tryd.func28 rfl c28_ok (by kernel_rfl) (by kernel_rfl) ?_)
  refine run_ok 4000 _ _ _ _ ?_
  simp (maxSteps := 10000000) only [go_sem, c28, r28, k1, iv_len]
  refine sem_virt 5 1 rfl ?_
  simp (maxSteps := 10000000) only [go_sem, k1, iv_len]
  refine sem_rounds (fun i : Nat => i ≤ L.length) (fun i => [(2, .pbox 0 0), (3, .pbox 1 0), (4, .pbox 2 0), (5, .sl 3 0 ((L.take i).filter fun q => q != p).length ((L.take i).filter fun q => q != p).length false), (27, .vsl 1 (iv .i64 L) false), (28, .int .i64 L.length), (29, .int .i64 (i : Nat))])
    (fun i => [.box [.vsl 1 (iv .i64 L) false, .int .i64 ep], .box [.int .i64 k, .int .i64 p, .vsl 1 (iv .i64 vs) false], .box [.nilsl, .int .i64 0], .row 1 (iv .i64 ((L.take i).filter fun q => q != p))]) (fun i => L.length - i) 0 [0, 1, 2, 3] (Nat.zero_le _) ?_ ?_
  · simp [Emb, go_sem, iv]
  intro i hi
  by_cases c : i < L.length
  · have hin : (i : Int) < (L.length : Int) := by omega
    have w1 := inc64 (show i < 1000000000000 by omega)
    have r0 := iv_rint (k := .i64) c
    have h0 := iv_hasI (k := .i64) c
    have hnx : (L.take (i + 1)).filter (fun q => q != p) = (L.take i).filter (fun q => q != p) ++ if (L[i] != p) = true then [L[i]] else [] := by
      rw [List.take_succ_eq_append_getElem c, List.filter_append, List.filter_cons, List.filter_nil]
    have hol : ((L.take i).filter fun q => q != p).length ≤ 1000 := by
      have h1 := List.length_filter_le (fun q => q != p) (L.take i)
      rw [List.length_take] at h1; omega
    generalize L[i] = x at *
    generalize ((L.take i).filter fun q => q != p) = out at *
    have hsm : small (out.length + 1) := by unfold small; omega
    have hfa := r_iv_all out
    cases hx : (x != p) with
    | true =>
      rw [hx, if_pos rfl] at hnx
      skip
      refine run_ok 4000 _ _ _ _ ?_
      simp (maxSteps := 10000000) only [go_sem, hin, w1, r0, h0, hx, hsm, hfa, iv_len, Int.natCast_nonneg, Nat.le_refl]
      refine ⟨i + 1, by omega, c, [0, 1, 2, 4], ?_⟩
      simp only [hnx, Emb, go_sem, r_iv_one, r_iv_app, hfa, List.length_append, List.length_singleton]
    | false =>
      rw [hx, if_neg (by simp), List.append_nil] at hnx
      skip
      refine run_ok 4000 _ _ _ _ ?_
      simp (maxSteps := 10000000) only [go_sem, hin, w1, r0, h0, hx, iv_len, Int.natCast_nonneg, Nat.le_refl]
      refine ⟨i + 1, by omega, c, [0, 1, 2, 3], ?_⟩
      simp only [hnx, Emb, go_sem]
  · have hin : ¬ (i : Int) < (L.length : Int) := by omega
    have hE : L.take i = L := List.take_of_length_le (by omega)
    rw [hE]
    generalize (L.filter fun q => q != p) = out at *
    have hfa := r_iv_all out
    skip
    refine run_ok 4000 _ _ _ _ ?_
    simp (maxSteps := 10000000) only [go_sem, hin, w0]
    refine run_ok 4000 _ _ _ _ ?_
    simp (maxSteps := 10000000) only [go_sem, hin, w0]
    refine ⟨_, _, .fz 3 rfl (by simp only [go_sem, iv_len, Nat.le_refl]) (.sub [] ?_ .done), rfl, rfl⟩
    simp only [EmbV, go_sem, hfa]
theorem one_spec (S : Nat) (ep : Int) (c : Chg) (hc : chkF S c = 0) (he : -1000000 ≤ ep ∧ ep ≤ 1000000000) :
    Tri Tryd.prog 28 [rr (allN S 32) false ep, .agg [.int .i64 c.1, .int .i64 c.2.1, .vsl 1 (iv .i64 c.2.2) false]] [] (fun v m => v = rr (allN (flipS S c.2.1) 32) false (ep + 1) ∧ m = []) := by
  obtain ⟨k, p, vs⟩ := c
  have hp := chkF_rg hc
  have hll := allN_len S 32
  simp only at hp ⊢
  by_cases h1 : k = 1
  · subst h1
    have hn : hasN S p = false := by
      cases h : hasN S p with
      | false => rfl
      | true =>
        exfalso
        simp only [chkF] at hc
        split at hc
        · cases hc
        · split at hc
          · cases hc
          · rw [if_pos ⟨trivial, h⟩] at hc; cases hc
    rw [← allN_join hp hn]
    exact one_join _ (by omega) ep p vs he
  · have hn : hasN S p = true := by
      cases h : hasN S p with
      | true => rfl
      | false =>
        exfalso
        simp only [chkF] at hc
        split at hc
        · cases hc
        · split at hc
          · cases hc
          · rw [if_neg (by simp [h1]), if_pos ⟨h1, h⟩] at hc; cases hc
    rw [← allN_part hp hn]
    exact one_part _ (by omega) ep k p h1 vs he
def refR (S : Nat) (ep : Int) (l : List Chg) : AV := .tup [match (withF S ep l).1 with | some x => rr (allN x.1 32) false x.2 | none => rr (allN S 32) false ep, .int .i64 (withF S ep l).2]
theorem rrwith_spec (S : Nat) (ep : Int) (he : 0 ≤ ep ∧ ep ≤ 1000000) (l : List Chg) (tight : Bool) (hl : l.length ≤ 1000) (hv : ∀ c ∈ l, c.2.2.length ≤ 1000) :
    Tri Tryd.prog 18 [rr (allN S 32) false ep, .vsl 3 (crows l) tight] [] (fun v m => v = refR S ep l ∧ m = []) := by
  refine Tri.post ?_
  skip
  refine (Tri.enter (rl := r18) (code := c18) (by kernel_rfl) Tryd.func18 rfl c18_ok (by kernel_rfl) (by kernel_rfl) ?_)
  refine run_ok 4000 _ _ _ _ ?_
  simp (maxSteps := 10000000) only [go_sem, c18, r18, crows_len]
  refine sem_rounds (fun x : Nat × Nat × Int => x.1 ≤ l.length ∧ (0 ≤ x.2.2 ∧ x.2.2 ≤ 1000000 + x.1) ∧ withF S ep l = withF x.2.1 x.2.2 (l.drop x.1))
    (fun x => [(2, .pbox 0 0), (4, .pbox 1 0), (6, .pbox 2 0), (10, .vsl 3 (crows l) tight), (11, .int .i64 l.length), (12, .int .i64 (x.1 : Nat))])
    (fun x => [.box [.vsl 1 (iv .i64 (allN S 32)) false, .int .i64 ep], .box [.nilsl, .int .i64 0], .box [.vsl 1 (iv .i64 (allN x.2.1 32)) false, .int .i64 x.2.2]]) (fun x => l.length - x.1) (0, S, ep) [0, 1, 2] ⟨Nat.zero_le _, by simp only; omega, by simp⟩ ?_ ?_
  · simp only [Emb, go_sem]
  rintro ⟨i, T, e⟩ ⟨hi, hee, hw⟩
  simp only at hi hee hw ⊢
  by_cases c : i < l.length
  · have hin : (i : Int) < (l.length : Int) := by omega
    have hd : l.drop i = l[i] :: l.drop (i + 1) := List.drop_eq_getElem_cons c
    rw [hd] at hw
    have r0 := crows_r0 c; have r1 := crows_r1 c; have r2 := crows_r2 c
    have h0 := crows_h0 c; have h1 := crows_h1 c; have h2 := crows_h2 c
    have hcl := hv _ (List.getElem_mem c)
    have w1 := inc64 (show i < 1000000000000 by omega)
    generalize l[i] = ch at *
    have hone := one_spec T e ch
    obtain ⟨k, p, vs⟩ := ch
    have hc := rcheck_spec T false e k p vs hcl
    simp only at r0 r1 r2 hone
    simp only [withF] at hw
    by_cases hz : chkF T (k, p, vs) = 0
    · have hone := hone hz (by omega)
      rw [if_neg (by simp [hz])] at hw
      rw [hz] at hc
      generalize hA : allN S 32 = A at *
      generalize allN T 32 = B at *
      skip
      refine run_ok 4000 _ _ _ _ ?_
      simp (maxSteps := 10000000) only [go_sem, hin, r0, r1, r2, h0, h1, h2, w1, Int.natCast_nonneg, crows_len]
      refine sem_call rfl rfl (((hc).embed [] rfl trivial rfl rfl rfl (by simp)).mono ?_)
      rintro _ _ ⟨_, _, ⟨rfl, rfl⟩, rfl, rfl⟩
      refine run_ok 4000 _ _ _ _ ?_
      simp (maxSteps := 10000000) only [go_sem, hin, r0, r1, r2, h0, h1, h2, w1, Int.natCast_nonneg, crows_len]
      refine sem_call rfl rfl (((hone).embed [] rfl trivial rfl rfl rfl (by simp)).mono ?_)
      rintro _ _ ⟨_, _, ⟨rfl, rfl⟩, rfl, rfl⟩
      refine run_ok 4000 _ _ _ _ ?_
      simp (maxSteps := 10000000) only [go_sem, hin, r0, r1, r2, h0, h1, h2, w1, Int.natCast_nonneg, crows_len]
      refine ⟨(i + 1, flipS T p, e + 1), by simp only; omega, ⟨by simp only; omega, by simp only; omega, hw⟩, [0, 1, 2], ?_⟩
      simp only [Emb, go_sem, hA]
    · rw [if_pos hz] at hw
      have hne : (chkF T (k, p, vs) != 0) = true := by simpa using hz
      generalize chkF T (k, p, vs) = z at *
      unfold refR
      rw [hw]
      simp only
      generalize hA : allN S 32 = A at *
      generalize allN T 32 = B at *
      skip
      refine run_ok 4000 _ _ _ _ ?_
      simp (maxSteps := 10000000) only [go_sem, hin, r0, r1, r2, h0, h1, h2, w1, hne, Int.natCast_nonneg, crows_len]
      refine sem_call rfl rfl (((hc).embed [] rfl trivial rfl rfl rfl (by simp)).mono ?_)
      rintro _ _ ⟨_, _, ⟨rfl, rfl⟩, rfl, rfl⟩
      refine run_ok 4000 _ _ _ _ ?_
      simp (maxSteps := 10000000) only [go_sem, hin, r0, r1, r2, h0, h1, h2, w1, hne, Int.natCast_nonneg, crows_len]
      refine sem_drawG l18_0_ok (by kernel_rfl) ?_
      intro KK hKK
      simp (maxSteps := 10000000) only [go_sem, l18_0, hin, r0, r1, r2, h0, h1, h2, w1, hne, Int.natCast_nonneg, crows_len]
      refine TriZ.of (((hc).embed [] rfl (by repeat' first | exact trivial | rfl | (simp only [go_sem]; done) | constructor) rfl (by first | rfl | simp only [go_sem]) rfl (by simp)).mono ?_)
      rintro _ _ ⟨_, _, ⟨rfl, rfl⟩, rfl, rfl⟩
      simp (maxSteps := 10000000) only [go_sem, hin, r0, r1, r2, h0, h1, h2, w1, hne, Int.natCast_nonneg, crows_len]
      subst hKK
      simp (maxSteps := 10000000) only [go_sem, hin, r0, r1, r2, h0, h1, h2, w1, hne, Int.natCast_nonneg, crows_len]
      refine ⟨_, _, .sub [] ?_ .done, rfl, rfl⟩
      simp only [EmbV, go_sem]
  · have hin : ¬ (i : Int) < (l.length : Int) := by omega
    rw [List.drop_eq_nil_of_le (by omega), withF_nil] at hw
    unfold refR
    rw [hw]
    simp only
    generalize hA : allN S 32 = A at *
    generalize allN T 32 = B at *
    skip
    refine run_ok 4000 _ _ _ _ ?_
    simp (maxSteps := 10000000) only [go_sem, hin]
    refine run_ok 4000 _ _ _ _ ?_
    simp (maxSteps := 10000000) only [go_sem, hin]
    refine ⟨_, _, .sub [] ?_ .done, rfl, rfl⟩
    simp only [EmbV, go_sem]
theorem told_spec (l : List Chg) (tight : Bool) (hl : l.length ≤ 1000) : Tri Tryd.prog 19 [.vsl 3 (crows l) tight] [] (fun v m => v = .vsl 3 (crows l) false ∧ m = []) := by
  refine Tri.post ?_
  skip
  refine (Tri.enter (rl := r19) (code := c19) (by kernel_rfl) Tryd.func19 rfl c19_ok (by kernel_rfl) (by kernel_rfl) ?_)
  refine run_ok 4000 _ _ _ _ ?_
  simp (maxSteps := 10000000) only [go_sem, c19, r19, crows_len]
  refine sem_virt 3 3 rfl ?_
  simp (maxSteps := 10000000) only [go_sem, crows_len]
  refine sem_rounds (fun i : Nat => i ≤ l.length) (fun i => [(3, .sl 0 0 (l.take i).length (l.take i).length false), (7, .vsl 3 (crows l) tight), (8, .int .i64 l.length), (9, .int .i64 (i : Nat))])
    (fun i => [.row 3 (crows (l.take i))]) (fun i => l.length - i) 0 [0] (Nat.zero_le _) ?_ ?_
  · simp [Emb, go_sem, crows]
  intro i hi
  by_cases c : i < l.length
  · have hin : (i : Int) < (l.length : Int) := by omega
    have r0 := crows_r0 c; have r1 := crows_r1 c; have r2 := crows_r2 c
    have h0 := crows_h0 c; have h1 := crows_h1 c; have h2 := crows_h2 c
    have w1 := inc64 (show i < 1000000000000 by omega)
    have hnx : l.take (i + 1) = l.take i ++ [l[i]] := List.take_succ_eq_append_getElem c
    have hfl : (l.take i).length ≤ 1000 := by rw [List.length_take]; omega
    generalize l[i] = ch at *
    generalize l.take i = O at *
    have hsm : small (O.length + 1) := by unfold small; omega
    obtain ⟨k, p, vs⟩ := ch
    simp only at r0 r1 r2
    skip
    refine run_ok 4000 _ _ _ _ ?_
    simp (maxSteps := 10000000) only [go_sem, hin, r0, r1, r2, h0, h1, h2, w1, hsm, iv_len, crows_len, Int.natCast_nonneg, Nat.le_refl]
    refine ⟨i + 1, by omega, c, [2], ?_⟩
    simp only [Emb, go_sem, hnx, crows_one, crows_app, crows_all, List.length_append, List.length_singleton]
  · have hin : ¬ (i : Int) < (l.length : Int) := by omega
    rw [List.take_of_length_le (by omega)]
    skip
    refine run_ok 4000 _ _ _ _ ?_
    simp (maxSteps := 10000000) only [go_sem, hin]
    refine run_ok 4000 _ _ _ _ ?_
    simp (maxSteps := 10000000) only [go_sem, hin]
    refine ⟨_, _, .fz 0 rfl (by simp only [go_sem, crows_len, Nat.le_refl]) (.sub [] ?_ .done), rfl, rfl⟩
    simp only [EmbV, go_sem, crows_all]
end Go.AEX
