/- The abstract evaluator: AEp in one. -/
import Derived.Test.YthdkobfafncpcaaDoorAEo
/- The abstract evaluator, part p: a contract over a small memory serves in a greater one. -/
namespace Go.AE
open Go
set_option linter.unusedVariables false
set_option linter.unusedSimpArgs false

variable {P : Program} {n k0 : Nat}

def rid : List Nat → Nat → Nat → Nat
  | [], N, j => N + j
  | p :: _, _, 0 => p
  | _ :: π, N, j + 1 => rid π N j
mutual
def ren (π : List Nat) (N : Nat) : AV → AV
  | .bool b => .bool b
  | .bsym b => .bsym b
  | .int k n => .int k n
  | .str s => .str s
  | .nilptr => .nilptr
  | .pbox b j => .pbox (rid π N b) j
  | .parr b j i => .parr (rid π N b) j i
  | .pelt b i j => .pelt (rid π N b) i j
  | .pval sz xs i j => .pval sz xs i j
  | .nilsl => .nilsl
  | .nil0 => .nil0
  | .sl b i l c t => .sl (rid π N b) i l c t
  | .asl b j i l c => .asl (rid π N b) j i l c
  | .vsl sz xs t => .vsl sz xs t
  | .nilmap => .nilmap
  | .map b => .map (rid π N b)
  | .nilfn => .nilfn
  | .fn f a c => .fn f (rens π N a) (rens π N c)
  | .nilif => .nilif
  | .ifc t v => .ifc t (ren π N v)
  | .agg cs => .agg (rens π N cs)
  | .tup vs => .tup (rens π N vs)
def rens (π : List Nat) (N : Nat) : List AV → List AV
  | [] => []
  | v :: vs => ren π N v :: rens π N vs
end
def renP (π : List Nat) (N : Nat) : List (AV × AV) → List (AV × AV)
  | [] => []
  | (k, v) :: es => (ren π N k, ren π N v) :: renP π N es
def renB (π : List Nat) (N : Nat) : Blk → Blk
  | .box cs => .box (rens π N cs)
  | .row sz xs => .row sz xs
  | .map es => .map (renP π N es)
  | .mapb bm cl bs es => .mapb bm cl bs (renP π N es)
  | .iter bm si se st => .iter bm si se st
  | .gone => .gone

mutual
theorem ren_ok {φ : Fz} {π : List Nat} {N : Nat} : ∀ {σ σ' : Sg} {x : AV} {v : Value}, VR φ σ x v → (∀ b i, σ b = some i → σ' (rid π N b) = some i) → VR φ σ' (ren π N x) v
  | _, _, _, _, .bool, _ => .bool
  | _, _, _, _, .bsym, _ => .bsym
  | _, _, _, _, .int, _ => .int
  | _, _, _, _, .str, _ => .str
  | _, _, _, _, .nilptr, _ => .nilptr
  | _, _, _, _, .pbox h, hs => .pbox (hs _ _ h)
  | _, _, _, _, .parr h, hs => .parr (hs _ _ h)
  | _, _, _, _, .pelt h, hs => .pelt (hs _ _ h)
  | _, _, _, _, .pval h hb h1 hx, hs => .pval h hb h1 hx
  | _, _, _, _, .nilsl, _ => .nilsl
  | _, _, _, _, .nil0, _ => .nil0
  | _, _, _, _, .sl h h1 h2 h3 h4, hs => .sl (hs _ _ h) h1 h2 h3 h4
  | _, _, _, _, .sl0, _ => .sl0
  | _, _, _, _, .asl h h1 h2 h4, hs => .asl (hs _ _ h) h1 h2 h4
  | _, _, _, _, .asl0, _ => .asl0
  | _, _, _, _, .vsl h hb h1 hx hc ht, hs => .vsl h hb h1 hx hc ht
  | _, _, _, _, .vsl0, _ => .vsl0
  | _, _, _, _, .nilmap, _ => .nilmap
  | _, _, _, _, .map h, hs => .map (hs _ _ h)
  | _, _, _, _, .nilfn, _ => .nilfn
  | _, _, _, _, .fn h1 h2, hs => .fn (rens_ok h1 hs) (rens_ok h2 hs)
  | _, _, _, _, .nilif, _ => .nilif
  | _, _, _, _, .ifc h, hs => .ifc (ren_ok h hs)
  | _, _, _, _, .agg h, hs => .agg (rens_ok h hs)
  | _, _, _, _, .tup h, hs => .tup (rens_ok h hs)
theorem rens_ok {φ : Fz} {π : List Nat} {N : Nat} : ∀ {σ σ' : Sg} {x : List AV} {v : List Value}, VRs φ σ x v → (∀ b i, σ b = some i → σ' (rid π N b) = some i) → VRs φ σ' (rens π N x) v
  | _, _, _, _, .nil, _ => .nil
  | _, _, _, _, .cons h ht, hs => .cons (ren_ok h hs) (rens_ok ht hs)
end

/-! Only blocks below k are named. -/
mutual
def ids (k : Nat) : AV → Bool
  | .pbox b _ => Nat.blt b k
  | .parr b _ _ => Nat.blt b k
  | .pelt b _ _ => Nat.blt b k
  | .sl b _ _ _ _ => Nat.blt b k
  | .asl b _ _ _ _ => Nat.blt b k
  | .map b => Nat.blt b k
  | .fn _ a c => idss k a && idss k c
  | .ifc _ v => ids k v
  | .agg cs => idss k cs
  | .tup vs => idss k vs
  | _ => true
def idss (k : Nat) : List AV → Bool
  | [] => true
  | v :: vs => ids k v && idss k vs
end
mutual
theorem unren_ok {φ : Fz} {π : List Nat} {N k : Nat} {σ σ' : Sg} (hs : ∀ b, b < k → σ (rid π N b) = σ' b) : ∀ {x : AV} {v : Value}, VR φ σ (ren π N x) v → ids k x = true → VR φ σ' x v
  | .bool _, _, .bool, _ => .bool
  | .bsym _, _, .bsym, _ => .bsym
  | .int _ _, _, .int, _ => .int
  | .str _, _, .str, _ => .str
  | .nilptr, _, .nilptr, _ => .nilptr
  | .pbox b _, _, .pbox h, hi => .pbox (by rw [← hs b (Nat.blt_eq.mp hi)]; exact h)
  | .parr b _ _, _, .parr h, hi => .parr (by rw [← hs b (Nat.blt_eq.mp hi)]; exact h)
  | .pelt b _ _, _, .pelt h, hi => .pelt (by rw [← hs b (Nat.blt_eq.mp hi)]; exact h)
  | .pval _ _ _ _, _, .pval h hb h1 hx, _ => .pval h hb h1 hx
  | .nilsl, _, .nilsl, _ => .nilsl
  | .nil0, _, .nil0, _ => .nil0
  | .sl b _ _ _ _, _, .sl h h1 h2 h3 h4, hi => .sl (by rw [← hs b (Nat.blt_eq.mp hi)]; exact h) h1 h2 h3 h4
  | .sl b _ _ _ _, _, .sl0, _ => .sl0
  | .asl b _ _ _ _, _, .asl h h1 h2 h4, hi => .asl (by rw [← hs b (Nat.blt_eq.mp hi)]; exact h) h1 h2 h4
  | .asl b _ _ _ _, _, .asl0, _ => .asl0
  | .vsl _ _ _, _, .vsl h hb h1 hx hc ht, _ => .vsl h hb h1 hx hc ht
  | .vsl _ _ _, _, .vsl0, _ => .vsl0
  | .nilmap, _, .nilmap, _ => .nilmap
  | .map b, _, .map h, hi => .map (by rw [← hs b (Nat.blt_eq.mp hi)]; exact h)
  | .nilfn, _, .nilfn, _ => .nilfn
  | .fn _ _ _, _, .fn h1 h2, hi => by
    simp only [ids, Bool.and_eq_true] at hi
    exact .fn (unrens_ok hs h1 hi.1) (unrens_ok hs h2 hi.2)
  | .nilif, _, .nilif, _ => .nilif
  | .ifc _ _, _, .ifc h, hi => .ifc (unren_ok hs h hi)
  | .agg _, _, .agg h, hi => .agg (unrens_ok hs h hi)
  | .tup _, _, .tup h, hi => .tup (unrens_ok hs h hi)
theorem unrens_ok {φ : Fz} {π : List Nat} {N k : Nat} {σ σ' : Sg} (hs : ∀ b, b < k → σ (rid π N b) = σ' b) : ∀ {x : List AV} {v : List Value}, VRs φ σ (rens π N x) v → idss k x = true → VRs φ σ' x v
  | [], _, .nil, _ => .nil
  | _ :: _, _, .cons h ht, hi => by
    simp only [idss, Bool.and_eq_true] at hi
    exact .cons (unren_ok hs h hi.1) (unrens_ok hs ht hi.2)
end

def idsP (k : Nat) : List (AV × AV) → Bool
  | [] => true
  | (a, b) :: es => ids k a && ids k b && idsP k es
def idsB (k : Nat) : Blk → Bool
  | .box cs => idss k cs
  | .row _ _ => true
  | .map es => idsP k es
  | .mapb _ _ _ es => idsP k es
  | .iter _ _ _ _ => true
  | .gone => true
def idsM (k : Nat) : Mem → Bool
  | [] => true
  | b :: m => idsB k b && idsM k m
def embM (π0 : List Nat) (N : Nat) (m : Mem) : List Nat → Mem → Prop
  | [], [] => True
  | p :: π, .gone :: pm => embM π0 N m π pm
  | p :: π, k :: pm => mg m p = renB π0 N k ∧ embM π0 N m π pm
  | _, _ => False
def nodupN : List Nat → Bool
  | [] => true
  | p :: π => !(π.contains p) && nodupN π
def mrg (π0 : List Nat) (N : Nat) : List Nat → Mem → Mem → Mem → Mem
  | p :: π, k :: pm, k' :: pm', m => match k with
    | .gone => mrg π0 N π pm pm' m
    | _ => mrg π0 N π pm pm' (ms m p (renB π0 N k'))
  | _, _, rest, m => m ++ rest.map (renB π0 N)

theorem rid_lt : ∀ {π : List Nat} {N j : Nat}, j < π.length → ∃ p, π[j]? = some p ∧ rid π N j = p
  | p :: π, N, 0, _ => ⟨p, rfl, rfl⟩
  | p :: π, N, j + 1, h => by
    obtain ⟨q, h1, h2⟩ := rid_lt (π := π) (N := N) (j := j) (by simpa using h)
    exact ⟨q, by simpa using h1, h2⟩
theorem rid_ge : ∀ {π : List Nat} {N j : Nat}, π.length ≤ j → rid π N j = N + (j - π.length)
  | [], N, j, _ => by simp [rid]
  | p :: π, N, 0, h => by simp at h
  | p :: π, N, j + 1, h => by
    rw [rid, rid_ge (by simpa using h)]; simp
theorem embM_get {π0 : List Nat} {N : Nat} {m : Mem} : ∀ {π : List Nat} {pm : Mem}, embM π0 N m π pm → π.length = pm.length ∧ ∀ (j : Nat) (k : Blk), pm[j]? = some k → k.owned = true → ∃ p, π[j]? = some p ∧ mg m p = renB π0 N k
  | [], [], _ => ⟨rfl, fun j k h _ => by simp at h⟩
  | [], _ :: _, h => h.elim
  | p :: π, [], h => h.elim
  | p :: π, k0 :: pm, h => by
    have key : ∀ {h' : embM π0 N m π pm}, (k0.owned = true → mg m p = renB π0 N k0) → (p :: π).length = (k0 :: pm).length ∧ ∀ (j : Nat) (k : Blk), (k0 :: pm)[j]? = some k → k.owned = true → ∃ q, (p :: π)[j]? = some q ∧ mg m q = renB π0 N k := by
      intro h' h0
      obtain ⟨h1, h2⟩ := embM_get h'
      refine ⟨by simp [h1], fun j k hj hk => ?_⟩
      cases j with
      | zero => simp at hj; subst hj; exact ⟨p, rfl, h0 hk⟩
      | succ j => obtain ⟨q, g1, g2⟩ := h2 j k (by simpa using hj) hk; exact ⟨q, by simpa using g1, g2⟩
    cases k0 with
    | gone => exact key (h' := h) (fun e => by cases e)
    | box cs => exact key (h' := h.2) (fun _ => h.1)
    | row s xs => exact key (h' := h.2) (fun _ => h.1)
    | map es => exact key (h' := h.2) (fun _ => h.1)
    | mapb bm cl bs es => exact key (h' := h.2) (fun _ => h.1)
    | iter bm si se st => exact key (h' := h.2) (fun _ => h.1)
theorem renB_owned {π : List Nat} {N : Nat} {k : Blk} : (renB π N k).owned = k.owned := by cases k <;> rfl

theorem unrenB_ok {φ : Fz} {π : List Nat} {N k : Nat} {σ σ' : Sg} {w : World} (hs : ∀ b, b < k → σ (rid π N b) = σ' b) {i : Option Img} {x : Blk} (h : BM φ σ w i (renB π N x)) (hi : idsB k x = true) : BM φ σ' w i x := by
  cases x with
  | box cs =>
    obtain ⟨img, c, e, fr, h1, h2, h3, h4, h5, h6⟩ := h
    exact ⟨img, c, e, fr, h1, h2, h3, h4, unrens_ok hs h5 hi, h6⟩
  | row s xs => exact h
  | map es =>
    obtain ⟨img, ents, cl, h1, h2, h3, h4⟩ := h
    refine ⟨img, ents, cl, h1, h2, ?_, h4⟩
    clear h2 h4
    simp only [idsB] at hi
    generalize ents.toList = l at h3
    induction es generalizing l with
    | nil => cases h3; exact .nil
    | cons e es ih =>
      obtain ⟨a, b⟩ := e
      simp only [idsP, Bool.and_eq_true] at hi
      simp only [renP] at h3
      cases h3 with
      | cons hk hv ht => exact .cons (unren_ok hs hk hi.1.1) (unren_ok hs hv hi.1.2) (ih hi.2 _ ht)
  | mapb bm cl bs es =>
    obtain ⟨img, ents, h1, h2, h0, h3, h4⟩ := h
    refine ⟨img, ents, h1, h2, h0, ?_, h4⟩
    clear h0 h4
    simp only [idsB] at hi
    generalize ents.toList = l at h3
    induction es generalizing l with
    | nil => cases h3; exact .nil
    | cons e es ih =>
      obtain ⟨a, b⟩ := e
      simp only [idsP, Bool.and_eq_true] at hi
      simp only [renP] at h3
      cases h3 with
      | cons hk hv ht => exact .cons (unren_ok hs hk hi.1.1) (unren_ok hs hv hi.1.2) (ih hi.2 _ ht)
  | iter bm si se st => exact h
  | gone => trivial
theorem renB_ok {φ : Fz} {π : List Nat} {N : Nat} {σ σ' : Sg} {w : World} (hs : ∀ b i, σ b = some i → σ' (rid π N b) = some i) {i : Option Img} {x : Blk} (h : BM φ σ w i x) : BM φ σ' w i (renB π N x) := by
  cases x with
  | box cs =>
    obtain ⟨img, c, e, fr, h1, h2, h3, h4, h5, h6⟩ := h
    exact ⟨img, c, e, fr, h1, h2, h3, h4, rens_ok h5 hs, h6⟩
  | row s xs => exact h
  | map es =>
    obtain ⟨img, ents, cl, h1, h2, h3, h4⟩ := h
    refine ⟨img, ents, cl, h1, h2, ?_, h4⟩
    clear h2 h4
    generalize ents.toList = l at h3
    induction h3 with
    | nil => exact .nil
    | cons hk hv _ ih => exact .cons (ren_ok hk hs) (ren_ok hv hs) ih
  | mapb bm cl bs es =>
    obtain ⟨img, ents, h1, h2, h0, h3, h4⟩ := h
    refine ⟨img, ents, h1, h2, h0, ?_, h4⟩
    clear h0 h4
    generalize ents.toList = l at h3
    induction h3 with
    | nil => exact .nil
    | cons hk hv _ ih => exact .cons (ren_ok hk hs) (ren_ok hv hs) ih
  | iter bm si se st => exact h
  | gone => trivial
theorem idsM_get {k : Nat} : ∀ {m : Mem} {j : Nat} {b : Blk}, idsM k m = true → m[j]? = some b → idsB k b = true
  | [], j, b, _, h => by simp at h
  | x :: m, 0, b, h, hb => by simp only [idsM, Bool.and_eq_true] at h; simp at hb; subst hb; exact h.1
  | x :: m, j + 1, b, h, hb => by simp only [idsM, Bool.and_eq_true] at h; exact idsM_get h.2 (by simpa using hb)

theorem mrg_get {π0 : List Nat} {N : Nat} : ∀ {π : List Nat} {pm pm' m : Mem} {b : Nat} {k : Blk}, π.length = pm.length → pm.length ≤ pm'.length → nodupN π = true → (∀ p ∈ π, p < m.length) → m.length = N →
    (mrg π0 N π pm pm' m)[b]? = some k →
    (∃ (j : Nat) (k0 k' : Blk), π[j]? = some b ∧ pm[j]? = some k0 ∧ k0.owned = true ∧ pm'[j]? = some k' ∧ k = renB π0 N k') ∨
    (b < N ∧ m[b]? = some k ∧ ∀ (j : Nat) (k0 : Blk), π[j]? = some b → pm[j]? = some k0 → k0.owned = false) ∨
    (N ≤ b ∧ ∃ k', pm'[pm.length + (b - N)]? = some k' ∧ k = renB π0 N k')
  | [], [], pm', m, b, k, _, _, _, _, hN, h => by
    have h : (m ++ pm'.map (renB π0 N))[b]? = some k := by cases pm' <;> exact h
    rcases Nat.lt_or_ge b m.length with hb | hb
    · rw [List.getElem?_append_left hb] at h
      exact .inr (.inl ⟨by omega, h, fun j k0 hj => by simp at hj⟩)
    · rw [List.getElem?_append_right hb, List.getElem?_map] at h
      simp only [Option.map_eq_some_iff] at h
      obtain ⟨k', h1, h2⟩ := h
      refine .inr (.inr ⟨by omega, k', ?_, h2.symm⟩)
      rw [← hN]; simpa using h1
  | [], _ :: _, _, _, _, _, h, _, _, _, _, _ => by simp at h
  | _ :: _, [], _, _, _, _, h, _, _, _, _, _ => by simp at h
  | _ :: _, _ :: _, [], _, _, _, _, h, _, _, _, _ => by simp at h
  | p :: π, k1 :: pm, k1' :: pm', m, b, k, hl, hle, hnd, hp, hN, h => by
    simp only [nodupN, Bool.and_eq_true] at hnd
    obtain ⟨hnp, hnd⟩ := hnd
    have hnp : p ∉ π := by simpa using hnp
    have hpl : p < m.length := hp p (by simp)
    have step : ∀ {m1 : Mem}, m1.length = m.length → (mrg π0 N π pm pm' m1)[b]? = some k → (∀ k2, m1[b]? = some k2 → b ≠ p → m[b]? = some k2) → (m1[p]? = m[p]? ∧ k1.owned = false ∨ m1[p]? = some (renB π0 N k1') ∧ k1.owned = true) →
        ((∃ (j : Nat) (k0 k' : Blk), (p :: π)[j]? = some b ∧ (k1 :: pm)[j]? = some k0 ∧ k0.owned = true ∧ (k1' :: pm')[j]? = some k' ∧ k = renB π0 N k') ∨
        (b < N ∧ m[b]? = some k ∧ ∀ (j : Nat) (k0 : Blk), (p :: π)[j]? = some b → (k1 :: pm)[j]? = some k0 → k0.owned = false) ∨
        (N ≤ b ∧ ∃ k', (k1' :: pm')[(k1 :: pm).length + (b - N)]? = some k' ∧ k = renB π0 N k')) := by
      intro m1 hm1 hh hsame hat
      rcases mrg_get (π := π) (pm := pm) (pm' := pm') (m := m1) (by simpa using hl) (by simpa using hle) hnd (fun q hq => by rw [hm1]; exact hp q (by simp [hq])) (by rw [hm1, hN]) hh with ⟨j, k0, k', h1, h2, h3, h4, h5⟩ | ⟨h1, h2, h3⟩ | ⟨h1, k', h2, h3⟩
      · exact Or.inl ⟨j + 1, k0, k', by simpa using h1, by simpa using h2, h3, by simpa using h4, h5⟩
      · by_cases e : b = p
        · subst e
          rcases hat with ⟨ha, hk⟩ | ⟨ha, hk⟩
          · refine Or.inr (.inl ⟨h1, by rw [← ha]; exact h2, fun j k0 hj hk0 => ?_⟩)
            cases j with
            | zero => simp at hk0; subst hk0; exact hk
            | succ j => exact h3 j k0 (by simpa using hj) (by simpa using hk0)
          · rw [ha] at h2; cases h2
            exact Or.inl ⟨0, k1, k1', rfl, rfl, hk, rfl, rfl⟩
        · refine Or.inr (.inl ⟨h1, hsame k h2 e, fun j k0 hj hk0 => ?_⟩)
          cases j with
          | zero => simp at hj; exact absurd hj.symm e
          | succ j => exact h3 j k0 (by simpa using hj) (by simpa using hk0)
      · refine Or.inr (.inr ⟨h1, k', ?_, h3⟩)
        rw [List.length_cons, show pm.length + 1 + (b - N) = (pm.length + (b - N)) + 1 by omega]; simpa using h2
    have hms : ∀ k2, (ms m p (renB π0 N k1'))[b]? = some k2 → b ≠ p → m[b]? = some k2 := by
      intro k2 h2 hne
      rcases ms_get _ _ _ _ _ h2 with ⟨e, _⟩ | ⟨_, e⟩
      · exact absurd e hne
      · exact e
    cases k1 with
    | gone => exact step (m1 := m) rfl h (fun _ h _ => h) (.inl ⟨rfl, rfl⟩)
    | box cs => exact step (m1 := ms m p (renB π0 N k1')) (ms_len _ _ _) h hms (.inr ⟨ms_same _ _ _ hpl, rfl⟩)
    | row s xs => exact step (m1 := ms m p (renB π0 N k1')) (ms_len _ _ _) h hms (.inr ⟨ms_same _ _ _ hpl, rfl⟩)
    | map es => exact step (m1 := ms m p (renB π0 N k1')) (ms_len _ _ _) h hms (.inr ⟨ms_same _ _ _ hpl, rfl⟩)
    | mapb bm cl bs es => exact step (m1 := ms m p (renB π0 N k1')) (ms_len _ _ _) h hms (.inr ⟨ms_same _ _ _ hpl, rfl⟩)
    | iter bm si se st => exact step (m1 := ms m p (renB π0 N k1')) (ms_len _ _ _) h hms (.inr ⟨ms_same _ _ _ hpl, rfl⟩)
theorem mrg_len {π0 : List Nat} {N : Nat} : ∀ {π : List Nat} {pm pm' m : Mem}, π.length = pm.length → pm.length ≤ pm'.length → (mrg π0 N π pm pm' m).length = m.length + (pm'.length - pm.length)
  | [], [], pm', m, _, _ => by
    have : mrg π0 N [] [] pm' m = m ++ pm'.map (renB π0 N) := by cases pm' <;> rfl
    rw [this]; simp
  | [], _ :: _, _, _, h, _ => by simp at h
  | _ :: _, [], _, _, h, _ => by simp at h
  | _ :: _, _ :: _, [], _, _, h => by simp at h
  | p :: π, k1 :: pm, k1' :: pm', m, hl, hle => by
    have h1 : π.length = pm.length := by simpa using hl
    have h2 : pm.length ≤ pm'.length := by simpa using hle
    cases k1 <;> simp only [mrg] <;> rw [mrg_len h1 h2] <;> simp [ms_len]

theorem nodup_ne : ∀ {π : List Nat} {i j p q : Nat}, nodupN π = true → π[i]? = some p → π[j]? = some q → i ≠ j → p ≠ q
  | [], i, j, p, q, _, h, _, _ => by simp at h
  | x :: π, i, j, p, q, hnd, h1, h2, hne => by
    simp only [nodupN, Bool.and_eq_true] at hnd
    have hx : x ∉ π := by simpa using hnd.1
    cases i with
    | zero =>
      cases j with
      | zero => exact absurd rfl hne
      | succ j =>
        simp at h1 h2; subst h1
        rintro rfl
        exact hx (List.mem_of_getElem? h2)
    | succ i =>
      cases j with
      | zero =>
        simp at h1 h2; subst h2
        rintro rfl
        exact hx (List.mem_of_getElem? h1)
      | succ j => exact nodup_ne hnd.2 (by simpa using h1) (by simpa using h2) (by omega)

theorem Tri.embed {f : FuncId} {pargs args : List AV} {pm m : Mem} {R : AV → Mem → Prop} (spec : Tri P f pargs pm R) (π : List Nat) (ha : args = rens π m.length pargs) (hm : embM π m.length m π pm)
    (hia : idss pm.length pargs = true) (him : idsM pm.length pm = true) (hnd : nodupN π = true) (hlt : ∀ p ∈ π, p < m.length) :
    Tri P f args m fun v m' => ∃ v0 pm', R v0 pm' ∧ v = ren π m.length v0 ∧ m' = mrg π m.length π pm pm' m := by
  obtain ⟨hπl, hemb⟩ := embM_get hm
  refine ⟨spec.1, fun φ σ w vs hI hv => ?_⟩
  subst ha
  let σp : Sg := fun b => if b < pm.length then σ (rid π m.length b) else none
  have hσp : ∀ b, b < pm.length → σ (rid π m.length b) = σp b := fun b hb => by show _ = if b < pm.length then _ else _; rw [if_pos hb]
  have hσn : ∀ b, pm.length ≤ b → σp b = none := fun b hb => by show (if b < pm.length then _ else _) = none; rw [if_neg (by omega)]
  have here : ∀ (b : Nat) (k : Blk), pm[b]? = some k → k.owned = true → ∃ p, π[b]? = some p ∧ rid π m.length b = p ∧ m[p]? = some (renB π m.length k) ∧ σp b = σ p ∧ b < pm.length := by
    intro b k hb hk
    obtain ⟨p, h1, h2⟩ := hemb b k hb hk
    have hbl : b < pm.length := by
      rcases Nat.lt_or_ge b pm.length with h | h
      · exact h
      · rw [List.getElem?_eq_none h] at hb; cases hb
    obtain ⟨p', h3, h4⟩ := rid_lt (N := m.length) (show b < π.length by omega)
    rw [h1] at h3; cases h3
    exact ⟨p, h1, h4, mg_get h2 (by rw [renB_owned]; exact hk), by rw [← hσp b hbl, h4], hbl⟩
  have hIp : Inv φ σp pm w := by
    refine ⟨hI.lf, hI.fz, fun b k hb => ?_, fun b c k l i j hb hc hk hl hi hj hne => ?_, fun b k i hb hk hi => ?_, hσn⟩
    · cases hk : k.owned with
      | false => cases k <;> simp [Blk.owned] at hk; trivial
      | true =>
        obtain ⟨p, h1, h2, h3, h4, h5⟩ := here b k hb hk
        rw [h4]
        exact unrenB_ok hσp (hI.blk p _ h3) (idsM_get him hb)
    · obtain ⟨p, h1, h2, h3, h4, h5⟩ := here b k hb hk
      obtain ⟨q, g1, g2, g3, g4, g5⟩ := here c l hc hl
      exact hI.inj p q _ _ i j h3 g3 (by rw [renB_owned]; exact hk) (by rw [renB_owned]; exact hl) (by rw [← h4]; exact hi) (by rw [← g4]; exact hj) (nodup_ne hnd h1 g1 hne)
    · obtain ⟨p, h1, h2, h3, h4, h5⟩ := here b k hb hk
      exact hI.apart p _ i h3 (by rw [renB_owned]; exact hk) (by rw [← h4]; exact hi)
  refine (spec.2 φ σp w vs hIp (unrens_ok hσp hv hia)).mono ?_
  rintro e w' ⟨v', rfl, φ', σp', v0, pm', hR, hst, hv'⟩
  have hll := hst.len
  let σ' : Sg := fun b => if b < m.length then σ b else σp' (b - m.length + pm.length)
  have hs1 : ∀ b, b < m.length → σ' b = σ b := fun b hb => by show (if b < m.length then _ else _) = _; rw [if_pos hb]
  have hs2 : ∀ b, m.length ≤ b → σ' b = σp' (b - m.length + pm.length) := fun b hb => by show (if b < m.length then _ else _) = _; rw [if_neg (by omega)]
  have hren : ∀ b i, σp' b = some i → σ' (rid π m.length b) = some i := by
    intro b i hb
    rcases Nat.lt_or_ge b pm.length with h | h
    · obtain ⟨p, h3, h4⟩ := rid_lt (N := m.length) (show b < π.length by omega)
      rw [h4, hs1 p (hlt p (List.mem_of_getElem? h3)), ← h4, hσp b h, ← hst.old b h]; exact hb
    · rw [rid_ge (by omega), hs2 _ (by omega)]
      rw [show m.length + (b - π.length) - m.length + pm.length = b by omega]; exact hb
  have cls : ∀ (b : Nat) (k : Blk), (mrg π m.length π pm pm' m)[b]? = some k → k.owned = true →
      (∃ (j : Nat) (k' : Blk), pm'[j]? = some k' ∧ k'.owned = true ∧ k = renB π m.length k' ∧ rid π m.length j = b ∧ σ' b = σp' j) ∨
      (b < m.length ∧ m[b]? = some k ∧ σ' b = σ b ∧ ∀ (c : Nat) (l : Blk) (j : Img) (i : Img), pm[c]? = some l → l.owned = true → σp c = some j → σ b = some i → j.B ≠ i.B) := by
    intro b k hb hk
    rcases mrg_get hπl hll hnd hlt rfl hb with ⟨j, k0, k', h1, h2, h3, h4, rfl⟩ | ⟨h1, h2, h3⟩ | ⟨h1, k', h2, rfl⟩
    · rw [renB_owned] at hk
      obtain ⟨p, g1, g2, g3, g4, g5⟩ := here j k0 h2 h3
      rw [h1] at g1; cases g1
      exact .inl ⟨j, k', h4, hk, rfl, g2, by rw [hs1 b (hlt b (List.mem_of_getElem? h1)), ← g4, hst.old j g5]⟩
    · refine .inr ⟨h1, h2, hs1 b h1, fun c l j i hc hl hj hi e => ?_⟩
      obtain ⟨p, g1, g2, g3, g4, g5⟩ := here c l hc hl
      by_cases hpb : p = b
      · subst hpb
        rw [h3 c l g1 hc] at hl; cases hl
      · exact hI.inj p b _ _ j i g3 h2 (by rw [renB_owned]; exact hl) hk (by rw [← g4]; exact hj) hi hpb e
    · rw [renB_owned] at hk
      exact .inl ⟨_, k', h2, hk, rfl, by rw [rid_ge (by omega)]; omega, by rw [hs2 b h1]; congr 1; omega⟩
  have frame0 : ∀ B, B < w.heap.size → (∀ b k i, m[b]? = some k → k.owned = true → σ b = some i → i.B ≠ B) → ∀ b k i, pm[b]? = some k → k.owned = true → σp b = some i → i.B ≠ B := by
    intro B hB hno b k i hb hk hi
    obtain ⟨p, h1, h2, h3, h4, h5⟩ := here b k hb hk
    exact hno p _ i h3 (by rw [renB_owned]; exact hk) (by rw [← h4]; exact hi)
  have hσle : σ.le σ' := fun b i hb => by
    have hbl : b < m.length := by
      rcases Nat.lt_or_ge b m.length with h | h
      · exact h
      · rw [hI.fresh b h] at hb; cases hb
    rw [hs1 b hbl]; exact hb
  refine ⟨v', rfl, φ', σ', _, _, ⟨v0, pm', hR, rfl, rfl⟩, ⟨hst.fz, hσle, ?_, hst.size, fun B hB hno => hst.frame B hB (frame0 B hB hno), ?_, hs1, ?_, fun B hB hlt' hno => hst.ice B hB hlt' (frame0 B hlt' hno), hst.env⟩, ren_ok hv' hren⟩
  · refine ⟨hst.inv.lf, hst.inv.fz, fun b k hb => ?_, fun b c k l i j hb hc hk hl hi hj hne => ?_, fun b k i hb hk hi => ?_, fun b hb => ?_⟩
    · cases hk : k.owned with
      | false => cases k <;> simp [Blk.owned] at hk; trivial
      | true =>
        rcases cls b k hb hk with ⟨j, k', h1, h2, rfl, h4, h5⟩ | ⟨h1, h2, h3, h4⟩
        · rw [h5]; exact renB_ok hren (hst.inv.blk j k' h1)
        · rw [h3]
          refine (hI.blk b k h2).frame hst.fz hσle fun img hi => hst.frame img.B (hI.lt h2 hk hi) fun c l j hc hl hj e => h4 c l j img hc hl hj hi e
    · rcases cls b k hb hk with ⟨x, k', h1, h2, rfl, h4, h5⟩ | ⟨h1, h2, h3, h4⟩ <;> rcases cls c l hc hl with ⟨y, l', g1, g2, rfl, g4, g5⟩ | ⟨g1, g2, g3, g4⟩
      · exact hst.inv.inj x y k' l' i j h1 g1 h2 g2 (by rw [← h5]; exact hi) (by rw [← g5]; exact hj) (fun e => hne (by rw [← h4, ← g4, e]))
      · rw [h5] at hi; rw [g3] at hj
        rcases hst.own x k' i h1 h2 hi with ⟨c0, l0, j0, q1, q2, q3, q4⟩ | q
        · rw [← q4]; exact g4 c0 l0 j0 j q1 q2 q3 hj
        · have := hI.lt g2 hl hj; omega
      · rw [h3] at hi; rw [g5] at hj
        rcases hst.own y l' j g1 g2 hj with ⟨c0, l0, j0, q1, q2, q3, q4⟩ | q
        · rw [← q4]; exact fun e => h4 c0 l0 j0 i q1 q2 q3 hi e.symm
        · have := hI.lt h2 hk hi; omega
      · exact hI.inj b c k l i j h2 g2 hk hl (by rw [← h3]; exact hi) (by rw [← g3]; exact hj) hne
    · rcases cls b k hb hk with ⟨x, k', h1, h2, rfl, h4, h5⟩ | ⟨h1, h2, h3, h4⟩
      · exact hst.inv.apart x k' i h1 h2 (by rw [← h5]; exact hi)
      · rw [h3] at hi
        exact hst.ice i.B (hI.apart b k i h2 hk hi) (hI.lt h2 hk hi) fun c l j hc hl hj e => h4 c l j i hc hl hj hi e
    · rw [mrg_len hπl hll] at hb
      rw [hs2 b (by omega)]
      exact hst.inv.fresh _ (by omega)
  · intro b k i hb hk hi
    rcases cls b k hb hk with ⟨x, k', h1, h2, rfl, h4, h5⟩ | ⟨h1, h2, h3, h4⟩
    · rw [h5] at hi
      rcases hst.own x k' i h1 h2 hi with ⟨c0, l0, j0, q1, q2, q3, q4⟩ | q
      · obtain ⟨p, r1, r2, r3, r4, r5⟩ := here c0 l0 q1 q2
        exact .inl ⟨p, _, j0, r3, by rw [renB_owned]; exact q2, by rw [← r4]; exact q3, q4⟩
      · exact .inr q
    · exact .inl ⟨b, k, i, h2, hk, by rw [← h3]; exact hi, rfl⟩
  · rw [mrg_len hπl hll]; omega
end Go.AE
