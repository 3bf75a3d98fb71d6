/- Bag: what is put comes just once: counts by texts. -/
import Derived.Test.YtcenagdeejbmgaaBag4
import Derived.Test.YtcenagdeejbmgaaAEzm
namespace Go.AEX
open Go Go.AE Go.Proofs
set_option maxRecDepth 100000
set_option linter.unusedVariables false
set_option linter.unusedSimpArgs false

abbrev Sc := List (List UInt8 × Int)
def smp (D : Sc) : List (AV × AV) := D.map fun p => (.str p.1, .int .i64 p.2)
def scg : Sc → List UInt8 → Int
  | [], _ => 0
  | p :: D, s => if s = p.1 then p.2 else scg D s
def scp : Sc → List UInt8 → Int → Sc
  | [], s, v => [(s, v)]
  | p :: D, s, v => if s = p.1 then (p.1, v) :: D else p :: scp D s v
theorem seqb_iff (a b : List UInt8) : seqb a b = decide (a = b) := by
  unfold seqb
  cases h : (a == b) with
  | true => simp at h; simp [h]
  | false => simp at h; simp [h]
theorem smp_ok (D : Sc) (s : List UInt8) : keysOk (smp D) (.str s) := by
  induction D with
  | nil => trivial
  | cons p D ih => exact ⟨trivial, ih⟩
theorem smp_find : ∀ (D : Sc) (s : List UInt8), (∃ n, mfind (smp D) (.str s) = some (.int .i64 n) ∧ scg D s = n) ∨ (mfind (smp D) (.str s) = none ∧ scg D s = 0)
  | [], s => .inr ⟨rfl, rfl⟩
  | p :: D, s => by
    simp only [smp, List.map_cons, mfind, keq, seqb_iff, scg]
    by_cases c : s = p.1
    · simp only [c, decide_true, cond_true, if_true]
      exact .inl ⟨_, rfl, rfl⟩
    · simp only [c, decide_false, cond_false, if_false]
      exact smp_find D s
theorem smp_val (D : Sc) (s : List UInt8) : valI .i64 (smp D) (.str s) := fun v h => by
  rcases smp_find D s with ⟨n, h1, _⟩ | ⟨h1, _⟩
  · rw [h1] at h; cases h; exact ⟨n, rfl⟩
  · rw [h1] at h; cases h
theorem smp_int (D : Sc) (s : List UInt8) : mint (smp D) (.str s) = scg D s := by
  unfold mint
  rcases smp_find D s with ⟨n, h1, h2⟩ | ⟨h1, h2⟩
  · rw [h1, h2]
  · rw [h1, h2]
theorem smp_set : ∀ (D : Sc) (s : List UInt8) (v : Int), mset (smp D) (.str s) (.int .i64 v) = smp (scp D s v)
  | [], s, v => rfl
  | p :: D, s, v => by
    simp only [smp, List.map_cons, mset, keq, seqb_iff, scp]
    by_cases c : s = p.1
    · simp only [c, decide_true, cond_true, if_true, List.map_cons]
    · simp only [c, decide_false, cond_false, if_false, List.map_cons]
      have := smp_set D s v
      unfold smp at this
      rw [this]
theorem scg_put : ∀ (D : Sc) (s t : List UInt8) (v : Int), scg (scp D s v) t = if t = s then v else scg D t
  | [], s, t, v => by simp [scp, scg]
  | p :: D, s, t, v => by
    simp only [scp]
    by_cases c : s = p.1
    · rw [if_pos c]; simp only [scg, c]
      by_cases d : t = p.1
      · simp [d]
      · simp [d]
    · rw [if_neg c]; simp only [scg]
      rw [scg_put D s t v]
      by_cases d : t = p.1
      · rw [if_pos d, if_neg (by rw [d]; exact fun h => c h.symm), if_pos d]
      · rw [if_neg d, if_neg d]
theorem scp_keys : ∀ (D : Sc) (s : List UInt8) (v : Int), (∀ t ∈ (scp D s v).map (·.1), t = s ∨ t ∈ D.map (·.1)) ∧ ((D.map (·.1)).Nodup → ((scp D s v).map (·.1)).Nodup)
  | [], s, v => by simp [scp]
  | p :: D, s, v => by
    simp only [scp]
    by_cases c : s = p.1
    · rw [if_pos c]; exact ⟨fun t ht => .inr ht, fun h => h⟩
    · rw [if_neg c]
      obtain ⟨h1, h2⟩ := scp_keys D s v
      refine ⟨fun t ht => ?_, fun h => ?_⟩
      · rcases List.mem_cons.1 ht with rfl | ht
        · exact .inr (by simp)
        · rcases h1 t ht with h | h
          · exact .inl h
          · exact .inr (by simp only [List.map_cons, List.mem_cons]; exact .inr h)
      · simp only [List.map_cons, List.nodup_cons] at h ⊢
        refine ⟨fun hm => ?_, h2 h.2⟩
        rcases h1 _ hm with e | e
        · exact c e.symm
        · exact h.1 e
theorem scg_mem : ∀ {D : Sc}, (D.map (·.1)).Nodup → ∀ p ∈ D, scg D p.1 = p.2
  | q :: D, h, p, hp => by
    simp only [List.map_cons, List.nodup_cons] at h
    simp only [scg]
    rcases List.mem_cons.1 hp with rfl | hp
    · rw [if_pos rfl]
    · rw [if_neg (fun e => h.1 (by rw [← e]; exact List.mem_map.2 ⟨p, hp, rfl⟩))]
      exact scg_mem h.2 p hp
def cnt (L : List Itm) (s : List UInt8) : Nat := (L.filter fun x => decide (x.text = s)).length
/-- The counts are those of the bag. -/
structure Cnt (D : Sc) (L : List Itm) : Prop where
  nd : (D.map (·.1)).Nodup
  eq : ∀ s, scg D s = (cnt L s : Nat)
theorem cnt_put (L : List Itm) (x : Itm) (s : List UInt8) : cnt (L ++ [x]) s = cnt L s + if s = x.text then 1 else 0 := by
  unfold cnt
  rw [List.filter_append, List.length_append]
  by_cases c : s = x.text
  · simp [c]
  · have : ¬ x.text = s := fun e => c e.symm
    simp [c, this]
theorem cnt_wout {L : List Itm} {p : Nat} (h : p < L.length) (s : List UInt8) : cnt L s = cnt (wout L p) s + if s = (ga L p).text then 1 else 0 := by
  have e : L = L.take p ++ L[p] :: L.drop (p + 1) := by rw [← List.drop_eq_getElem_cons h, List.take_append_drop]
  have e2 : cnt L s = cnt (L.take p ++ L[p] :: L.drop (p + 1)) s := congrArg (fun l => cnt l s) e
  rw [e2]
  unfold cnt wout
  rw [ga_eq h]
  simp only [List.filter_append, List.filter_cons, List.length_append]
  by_cases c : s = (ga L p).text
  · simp [c]; omega
  · have : ¬ (ga L p).text = s := fun e => c e.symm
    simp [c, this]
theorem cnt_le (L : List Itm) (s : List UInt8) : cnt L s ≤ L.length := List.length_filter_le _ _
theorem Cnt.put {D : Sc} {L : List Itm} (h : Cnt D L) (x : Itm) : Cnt (scp D x.text (scg D x.text + 1)) (L ++ [x]) := by
  refine ⟨(scp_keys D _ _).2 h.nd, fun s => ?_⟩
  rw [scg_put, cnt_put]
  by_cases c : s = x.text
  · rw [if_pos c, if_pos c, c, h.eq]; omega
  · rw [if_neg c, if_neg c, h.eq]; omega
theorem Cnt.take {D : Sc} {L : List Itm} (h : Cnt D L) {p : Nat} (hp : p < L.length) : Cnt (scp D (ga L p).text (scg D (ga L p).text - 1)) (wout L p) ∧ scg D (ga L p).text - 1 = (cnt (wout L p) (ga L p).text : Nat) := by
  have h1 := cnt_wout hp (ga L p).text
  rw [if_pos rfl] at h1
  refine ⟨⟨(scp_keys D _ _).2 h.nd, fun s => ?_⟩, by rw [h.eq, h1]; omega⟩
  rw [scg_put]
  by_cases c : s = (ga L p).text
  · rw [if_pos c, c, h.eq, h1]; omega
  · rw [if_neg c, h.eq]
    have := cnt_wout hp s
    rw [if_neg c] at this
    rw [this]; omega
theorem Cnt.none {D : Sc} (h : Cnt D []) : ∀ p ∈ D, p.2 = 0 := fun p hp => by
  rw [← scg_mem h.nd p hp, h.eq]; rfl
theorem filt_le {p q : Nat → Bool} (h : ∀ b, q b = true → p b = true) : ∀ l : List Nat, (l.filter q).length ≤ (l.filter p).length
  | [] => Nat.le_refl _
  | b :: l => by
    have ih := filt_le h l
    simp only [List.filter_cons]
    cases hq : q b with
    | true => rw [h b hq]; simp only [if_true, List.length_cons]; omega
    | false => cases hp : p b <;> simp <;> omega
theorem filt_lt {p q : Nat → Bool} (h : ∀ b, q b = true → p b = true) : ∀ {l : List Nat} {x : Nat}, x ∈ l → p x = true → q x = false → (l.filter q).length < (l.filter p).length
  | b :: l, x, hx, hp, hq => by
    simp only [List.filter_cons]
    rcases List.mem_cons.1 hx with rfl | hx
    · rw [hp, hq]
      have := filt_le h l
      simp; omega
    · have ih := filt_lt h hx hp hq
      cases hq' : q b with
      | true => rw [h b hq']; simp only [if_true, List.length_cons]; omega
      | false => cases hp' : p b <;> simp <;> omega
/-- How many births were not seen. -/
def unseen (bs seen : List Nat) : Nat := (bs.filter fun b => !decide (b ∈ seen)).length
theorem unseen_dec {bs seen : List Nat} {x : Nat} (hx : x ∈ bs) (hn : x ∉ seen) : unseen bs (seen ++ [x]) < unseen bs seen := by
  unfold unseen
  refine filt_lt (fun b hb => ?_) hx (by simpa using hn) (by simp)
  simp at hb ⊢
  exact hb.1
end Go.AEX
