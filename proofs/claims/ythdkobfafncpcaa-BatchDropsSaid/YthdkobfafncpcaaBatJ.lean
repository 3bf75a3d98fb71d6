/- Batch tables: what they tell, in plain words; what Take does to them. -/
import Derived.Test.YthdkobfafncpcaaBatI
import Derived.Test.YthdkobfafncpcaaAEzo
namespace Go.AEX
open Go Go.AE Go.Proofs
set_option maxRecDepth 100000
set_option linter.unusedVariables false
set_option linter.unusedSimpArgs false

def num : Int → List (List Ord) → Inn
  | _, [] => []
  | nx, L :: r => (nx, L) :: num (nx + 1) r
theorem num_len : ∀ (nx : Int) (l : List (List Ord)), (num nx l).length = l.length
  | _, [] => rfl
  | nx, L :: r => by simp [num, num_len (nx + 1) r]
theorem num_ge : ∀ {nx : Int} {l : List (List Ord)} {e : Int × List Ord}, e ∈ num nx l → nx ≤ e.1 ∧ e.1 < nx + l.length
  | _, [], e, h => by simp [num] at h
  | nx, L :: r, e, h => by
    simp only [num, List.mem_cons] at h
    rcases h with rfl | h
    · simp only [List.length_cons]; omega
    · have := num_ge h; simp only [List.length_cons]; omega
theorem num_app : ∀ (nx : Int) (l : List (List Ord)) (L : List Ord), num nx (l ++ [L]) = num nx l ++ [(nx + l.length, L)]
  | nx, [], L => by simp [num]
  | nx, M :: r, L => by
    simp only [List.cons_append, num, num_app (nx + 1) r L, List.length_cons]
    congr 3
    rw [Prod.mk.injEq]; exact ⟨by omega, rfl⟩
theorem num_nil {nx : Int} {l : List (List Ord)} : num nx l = [] ↔ l = [] := by cases l <;> simp [num]
theorem ig_none : ∀ {A : Inn} {p : Int}, (∀ e ∈ A, e.1 ≠ p) → ig A p = none
  | [], _, _ => rfl
  | e :: A, p, h => by
    simp only [ig]
    rw [if_neg (fun c => h e (by simp) c.symm)]
    exact ig_none fun x hx => h x (by simp [hx])
theorem num_free (nx : Int) (l : List (List Ord)) : ig (num nx l) (nx + l.length) = none := ig_none fun e he => by have := num_ge he; omega
def dl (nx : Int) (A : Inn) : Inn := A.filter fun e => !(e.1 == nx)
theorem dl_num (nx : Int) (L : List Ord) (r : List (List Ord)) : dl nx (num nx (L :: r)) = num (nx + 1) r := by
  unfold dl
  simp only [num, List.filter_cons, beq_self_eq_true, Bool.not_true, Bool.false_eq_true, if_false]
  rw [List.filter_eq_self]
  intro e he
  have := num_ge he
  have : e.1 ≠ nx := by omega
  simpa using this
theorem fb_del : ∀ (A : Inn) (v : Int), (A.map (·.1)).Nodup → mdel (fb A) (.int .i64 v) = fb (dl v A)
  | [], v, _ => rfl
  | p :: M, v, hn => by
    have e : kd IntKind.i64 IntKind.i64 = true := rfl
    simp only [List.map_cons, List.nodup_cons] at hn
    have ih := fb_del M v hn.2
    unfold fb at ih
    unfold fb dl
    simp only [List.map_cons, mdel, keq, e, Bool.true_and, List.filter_cons]
    by_cases c : v = p.1
    · have h1 : (v == p.1) = true := by simpa using c
      have h2 : (p.1 == v) = true := by simpa using c.symm
      rw [h1, h2]
      have : M.filter (fun p => !(p.1 == v)) = M := by
        rw [List.filter_eq_self]
        intro q hq
        have : q.1 ≠ v := fun e => hn.1 (by rw [← c, ← e]; exact List.mem_map.2 ⟨q, hq, rfl⟩)
        simpa using this
      simp [this]
    · have h1 : (v == p.1) = false := by simpa using c
      have h2 : (p.1 == v) = false := by simpa using fun e => c e.symm
      rw [h1, h2, ih]; rfl
theorem num_nodup : ∀ (nx : Int) (l : List (List Ord)), ((num nx l).map (·.1)).Nodup
  | _, [] => by simp [num]
  | nx, L :: r => by
    simp only [num, List.map_cons, List.nodup_cons]
    refine ⟨fun h => ?_, num_nodup (nx + 1) r⟩
    obtain ⟨e, he, hx⟩ := List.mem_map.1 h
    have := num_ge he; omega
structure TOk (nx : Int) (O : Outr) (F : List Inn) (g : Int → List (List Ord)) : Prop where
  nk : (O.map (·.1)).Nodup
  nv : (O.map (·.2)).Nodup
  ok : ∀ p k, (p, k) ∈ O → F[k]? = some (num nx (g p)) ∧ g p ≠ []
  no : ∀ p, (∀ k, (p, k) ∉ O) → g p = []
theorem og_mem : ∀ {O : Outr} {p : Int} {k : Nat}, og O p = some k → (p, k) ∈ O
  | [], _, _, h => by simp [og] at h
  | e :: O, p, k, h => by
    simp only [og] at h
    by_cases c : p = e.1
    · rw [if_pos c] at h; cases h; rw [c]; simp
    · rw [if_neg c] at h; exact List.mem_cons_of_mem _ (og_mem h)
theorem og_not : ∀ {O : Outr} {p : Int}, og O p = none → ∀ k, (p, k) ∉ O
  | [], _, _, k => by simp
  | e :: O, p, h, k => by
    simp only [og] at h
    by_cases c : p = e.1
    · rw [if_pos c] at h; cases h
    · rw [if_neg c] at h
      intro hm
      rcases List.mem_cons.1 hm with rfl | hm
      · exact c rfl
      · exact og_not h k hm
theorem TOk.og {nx : Int} {O : Outr} {F : List Inn} {g : Int → List (List Ord)} (h : TOk nx O F g) (p : Int) : (og O p = none ∧ g p = []) ∨ ∃ k, og O p = some k ∧ F[k]? = some (num nx (g p)) ∧ g p ≠ [] := by
  cases e : AEX.og O p with
  | none => exact .inl ⟨rfl, h.no p (og_not e)⟩
  | some k => exact .inr ⟨k, rfl, h.ok p k (og_mem e)⟩
theorem TOk.okO {nx : Int} {O : Outr} {F : List Inn} {g : Int → List (List Ord)} (h : TOk nx O F g) : OkO O F := fun e he => by
  have := (h.ok e.1 e.2 he).1
  exact (List.getElem?_eq_some_iff.1 this).1
theorem TOk.new (nx : Int) : TOk nx [] [] fun _ => [] := ⟨by simp, by simp, fun p k h => by simp at h, fun _ _ => rfl⟩
abbrev Ts := List (Nat × (Int × Nat))
def tzb (Z : Ts) : List Nat := Z.map (·.1)
def tzv (Z : Ts) : Outr := Z.map (·.2)
structure TkOk (nx : Int) (Z0 : Ts) (F0 : List Inn) (Z : Ts) (F : List Inn) (seen : List Nat) : Prop where
  sub : Z.Sublist Z0
  flen : F.length = F0.length
  todo : ∀ z ∈ Z0, z.1 ∉ seen → z ∈ Z ∧ F[z.2.2]? = F0[z.2.2]?
  did : ∀ z ∈ Z0, z.1 ∈ seen → F[z.2.2]? = (F0[z.2.2]?).map (dl nx) ∧ (z ∈ Z ↔ ∀ A, F0[z.2.2]? = some A → dl nx A ≠ [])
theorem TkOk.begin (nx : Int) (Z0 : Ts) (F0 : List Inn) : TkOk nx Z0 F0 Z0 F0 [] := ⟨List.Sublist.refl _, rfl, fun z hz _ => ⟨hz, rfl⟩, fun z _ h => by simp at h⟩
theorem nd_fst {α β : Type} {f : α → β} {Z : List α} (h : (Z.map f).Nodup) {a b : α} (ha : a ∈ Z) (hb : b ∈ Z) (e : f a = f b) : a = b := by
  induction Z with
  | nil => simp at ha
  | cons x Z ih =>
    simp only [List.map_cons, List.nodup_cons] at h
    rcases List.mem_cons.1 ha with ha1 | ha1
    · rcases List.mem_cons.1 hb with hb1 | hb1
      · rw [ha1, hb1]
      · exact absurd (List.mem_map.2 ⟨b, hb1, by rw [← e, ha1]⟩) h.1
    · rcases List.mem_cons.1 hb with hb1 | hb1
      · exact absurd (List.mem_map.2 ⟨a, ha1, by rw [e, hb1]⟩) h.1
      · exact ih h.2 ha1 hb1
theorem nd_erase {α : Type} {Z : List α} {j : Nat} {z w : α} (hn : Z.Nodup) (hj : Z[j]? = some z) : w ∈ Z.eraseIdx j ↔ w ∈ Z ∧ w ≠ z := by
  rw [List.mem_eraseIdx_iff_getElem?]
  constructor
  · rintro ⟨i, hi, h⟩
    refine ⟨List.mem_of_getElem? h, ?_⟩
    rintro rfl
    exact hi ((List.getElem?_inj (List.getElem?_eq_some_iff.1 h).1 hn).1 (by rw [h, hj]))
  · rintro ⟨h, hne⟩
    obtain ⟨i, hi⟩ := List.getElem?_of_mem h
    refine ⟨i, ?_, hi⟩
    rintro rfl
    rw [hi] at hj; cases hj; exact hne rfl
def nxtZ (nx : Int) (A : Inn) (Z : Ts) (j : Nat) : Ts := if (dl nx A).length = 0 then Z.eraseIdx j else Z
theorem TkOk.step {nx : Int} {Z0 : Ts} {F0 : List Inn} {Z : Ts} {F : List Inn} {seen : List Nat} (h : TkOk nx Z0 F0 Z F seen) (hb : (tzb Z0).Nodup) (hv : (Z0.map fun z => z.2.2).Nodup) {j b : Nat} {p : Int} {k : Nat} {A : Inn}
    (hj : Z[j]? = some (b, (p, k))) (hs : b ∉ seen) (hA : F[k]? = some A) : F0[k]? = some A ∧ TkOk nx Z0 F0 (nxtZ nx A Z j) (F.set k (dl nx A)) (seen ++ [b]) := by
  have hz : (b, (p, k)) ∈ Z0 := h.sub.subset (List.mem_of_getElem? hj)
  have h0 := (h.todo _ hz hs).2
  simp only at h0
  rw [hA] at h0
  have hk : k < F.length := (List.getElem?_eq_some_iff.1 hA).1
  have hnd : Z.Nodup := by
    have : (tzb Z).Nodup := hb.sublist (h.sub.map _)
    exact List.Pairwise.of_map Prod.fst (fun a b hab e => hab (by rw [e])) this
  have hmem : ∀ w, w ≠ (b, (p, k)) → (w ∈ nxtZ nx A Z j ↔ w ∈ Z) := by
    intro w hw
    unfold nxtZ
    split
    · rw [nd_erase hnd hj]; exact ⟨fun h => h.1, fun h => ⟨h, hw⟩⟩
    · rfl
  have hset : ∀ w ∈ Z0, w ≠ (b, (p, k)) → (F.set k (dl nx A))[w.2.2]? = F[w.2.2]? := by
    intro w hw hne
    refine List.getElem?_set_ne fun e => hne ?_
    exact nd_fst hv hw hz e.symm
  refine ⟨h0.symm, ?_, by rw [List.length_set]; exact h.flen, fun w hw hws => ?_, fun w hw hws => ?_⟩
  · unfold nxtZ
    split
    · exact (List.eraseIdx_sublist ..).trans h.sub
    · exact h.sub
  · have hne : w ≠ (b, (p, k)) := by rintro rfl; simp at hws
    have hws' : w.1 ∉ seen := fun h => hws (by simp [h])
    rw [hmem w hne, hset w hw hne]
    exact h.todo w hw hws'
  · by_cases e : w = (b, (p, k))
    · subst e
      simp only
      rw [List.getElem?_set_self hk, ← h0]
      refine ⟨rfl, ?_⟩
      unfold nxtZ
      split
      · rename_i c
        rw [nd_erase hnd hj]
        refine ⟨fun h => absurd rfl h.2, fun h => absurd (List.length_eq_zero_iff.1 c) (h A rfl)⟩
      · rename_i c
        refine ⟨fun _ B hB => ?_, fun _ => List.mem_of_getElem? hj⟩
        cases hB
        intro e; rw [e] at c; exact c rfl
    · have hws' : w.1 ∈ seen := by
        rcases List.mem_append.1 hws with h | h
        · exact h
        · exact absurd (nd_fst hb hw hz (by simpa using h)) e
      rw [hmem w e, hset w hw e]
      exact h.did w hw hws'
theorem TkOk.all {nx : Int} {Z0 : Ts} {F0 : List Inn} {Z : Ts} {F : List Inn} {seen : List Nat} (h : TkOk nx Z0 F0 Z F seen) (hd : ∀ x ∈ tzb Z, x ∈ seen) : ∀ z ∈ Z0, z.1 ∈ seen := by
  intro z hz
  by_cases c : z.1 ∈ seen
  · exact c
  · exact hd _ (List.mem_map.2 ⟨z, (h.todo z hz c).1, rfl⟩)
theorem TkOk.done {nx : Int} {O : Outr} {F0 : List Inn} {g : Int → List (List Ord)} (h0 : TOk nx O F0 g) {Z0 Z : Ts} {F : List Inn} {seen : List Nat} (hO : tzv Z0 = O) (h : TkOk nx Z0 F0 Z F seen) (hd : ∀ x ∈ tzb Z, x ∈ seen) :
    TOk (nx + 1) (tzv Z) F fun p => (g p).tail := by
  have ha := h.all hd
  have hsub : (tzv Z).Sublist O := by rw [← hO]; exact h.sub.map _
  have key : ∀ b p k, (b, (p, k)) ∈ Z0 → F[k]? = some (num (nx + 1) (g p).tail) ∧ ((b, (p, k)) ∈ Z ↔ (g p).tail ≠ []) := by
    intro b p k hz
    obtain ⟨h1, h2⟩ := h0.ok p k (by rw [← hO]; exact List.mem_map.2 ⟨_, hz, rfl⟩)
    obtain ⟨h3, h4⟩ := h.did _ hz (ha _ hz)
    simp only at h3 h4
    rw [h1] at h3 h4
    cases hg : g p with
    | nil => exact absurd hg h2
    | cons L r =>
      rw [hg, Option.map_some, dl_num] at h3
      refine ⟨by simpa using h3, ?_⟩
      rw [h4]
      simp only [Option.some.injEq, forall_eq', hg, dl_num, List.tail_cons]
      exact not_congr num_nil
  refine ⟨h0.nk.sublist (hsub.map _), h0.nv.sublist (hsub.map _), fun p k hm => ?_, fun p hn => ?_⟩
  · obtain ⟨⟨b, q⟩, hz, he⟩ := List.mem_map.1 hm
    simp only at he; subst he
    obtain ⟨k1, k2⟩ := key b p k (h.sub.subset hz)
    exact ⟨k1, k2.1 hz⟩
  · by_cases c : ∃ k, (p, k) ∈ O
    · obtain ⟨k, hk⟩ := c
      rw [← hO] at hk
      obtain ⟨⟨b, q⟩, hz, he⟩ := List.mem_map.1 hk
      simp only at he; subst he
      obtain ⟨_, k2⟩ := key b p k hz
      by_cases e : (g p).tail = []
      · exact e
      · exact absurd (List.mem_map.2 ⟨_, k2.2 e, rfl⟩) (hn k)
    · rw [h0.no p (fun k hk => c ⟨k, hk⟩)]; rfl
end Go.AEX
