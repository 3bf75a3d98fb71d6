/- Seat rT: what players give, turn by turn, is what the turns' plays have (CotillionBatches). -/
import Derived.Test.YtpbmlaolpfaicaaTBatU
import Derived.Test.YtpbmlaolpfaicaaAEzq
namespace Go.AEX
open Go Go.AE Go.Proofs
set_option maxRecDepth 100000
set_option linter.unusedVariables false
set_option linter.unusedSimpArgs false

abbrev Gs := List (List Ord)
def brow (G : Gs) : List (List AV) := G.map fun L => [.vsl 4 (orows L) false]
theorem brow_len (G : Gs) : (brow G).length = G.length := by simp [brow]
theorem brow_get {G : Gs} {i : Nat} (h : i < G.length) : (brow G)[i]? = some [.vsl 4 (orows G[i]) false] := by simp [brow, h]
theorem brow_r {G : Gs} {i : Nat} (h : i < G.length) : rany (brow G) i 0 = .vsl 4 (orows G[i]) false := by simp [rany, List.getD_eq_getElem?_getD, brow_get h]
theorem brow_h {G : Gs} {i : Nat} (h : i < G.length) : hasA (brow G) i 0 := ⟨_, _, brow_get h, rfl⟩
theorem brow_app (G : Gs) (L : List Ord) : brow G ++ [[.vsl 4 (orows L) false]] = brow (G ++ [L]) := by simp [brow]
theorem brow_all (G : Gs) : sub (brow G) 0 G.length = brow G := by
  unfold sub; rw [List.drop_zero, ← brow_len G, List.take_length]
theorem r3_0 (a b c : AV) : rany [[a], [b], [c]] 0 0 = a := rfl
theorem r3_1 (a b c : AV) : rany [[a], [b], [c]] 1 0 = b := rfl
theorem r3_2 (a b c : AV) : rany [[a], [b], [c]] 2 0 = c := rfl
theorem h3_0 (a b c : AV) : hasA [[a], [b], [c]] 0 0 := ⟨_, _, rfl, rfl⟩
theorem h3_1 (a b c : AV) : hasA [[a], [b], [c]] 1 0 := ⟨_, _, rfl, rfl⟩
theorem h3_2 (a b c : AV) : hasA [[a], [b], [c]] 2 0 := ⟨_, _, rfl, rfl⟩
def gT (T : Nat) (G0 G1 G2 : Gs) : Int → Gs := fun q => if q = 0 then G0.drop T else if q = 1 then G1.drop T else if q = 2 then G2.drop T else []
theorem gT_tail (T : Nat) (G0 G1 G2 : Gs) : (fun p => (gT T G0 G1 G2 p).tail) = gT (T + 1) G0 G1 G2 := by
  funext q; unfold gT
  split
  · simp
  · split
    · simp
    · split <;> simp
theorem gT_0 (T : Nat) {G0 G1 G2 : Gs} (b : List Ord) (h : T ≤ G0.length) : upd (gT T G0 G1 G2) 0 (gT T G0 G1 G2 0 ++ [b]) = gT T (G0 ++ [b]) G1 G2 := by
  funext q; unfold upd
  by_cases e : q = 0
  · subst e; simp [gT, List.drop_append_of_le_length h]
  · simp [gT, e]
theorem gT_1 (T : Nat) {G0 G1 G2 : Gs} (b : List Ord) (h : T ≤ G1.length) : upd (gT T G0 G1 G2) 1 (gT T G0 G1 G2 1 ++ [b]) = gT T G0 (G1 ++ [b]) G2 := by
  funext q; unfold upd
  by_cases e : q = 1
  · subst e; simp [gT, List.drop_append_of_le_length h]
  · simp [gT, e]
theorem gT_2 (T : Nat) {G0 G1 G2 : Gs} (b : List Ord) (h : T ≤ G2.length) : upd (gT T G0 G1 G2) 2 (gT T G0 G1 G2 2 ++ [b]) = gT T G0 G1 (G2 ++ [b]) := by
  funext q; unfold upd
  by_cases e : q = 2
  · subst e; simp [gT, List.drop_append_of_le_length h]
  · simp [gT, e]
def bP (G0 G1 G2 : Gs) : Mem := [.box [.sl 1 0 G0.length G0.length false, .sl 2 0 G1.length G1.length false, .sl 3 0 G2.length G2.length false], .row 1 (brow G0), .row 1 (brow G1), .row 1 (brow G2)]
def bM (nx : Int) (O : Outr) (F : List Inn) (G0 G1 G2 : Gs) : Mem := bP G0 G1 G2 ++ tS 4 nx O F
theorem bM_len (nx : Int) (O : Outr) (F : List Inn) (G0 G1 G2 : Gs) : (bM nx O F G0 G1 G2).length = F.length + 1 + 1 + 4 := by simp [bM, bP, tS_len]
theorem bM_ids {nx : Int} {O : Outr} {F : List Inn} (h : OkO O F) (G0 G1 G2 : Gs) : idsM (bM nx O F G0 G1 G2).length (bM nx O F G0 G1 G2) = true := by
  rw [bM_len]; unfold bM
  rw [idsM_appE, tS_ids h _ (by omega), Bool.and_true]
  simp [bP, idsM, idsB, idss, ids]
structure BX where
  i : Nat
  T : Nat
  O : Outr
  F : List Inn
  G0 : Gs
  G1 : Gs
  G2 : Gs
structure BJ (x : BX) : Prop where
  hT : x.T ≤ x.i
  h0 : x.T ≤ x.G0.length ∧ x.G0.length ≤ x.i ∧ x.G0.length ≤ x.T + 8
  h1 : x.T ≤ x.G1.length ∧ x.G1.length ≤ x.i ∧ x.G1.length ≤ x.T + 8
  h2 : x.T ≤ x.G2.length ∧ x.G2.length ≤ x.i ∧ x.G2.length ≤ x.T + 8
  l0 : ∀ L ∈ x.G0, L.length ≤ 8
  l1 : ∀ L ∈ x.G1, L.length ≤ 8
  l2 : ∀ L ∈ x.G2, L.length ≤ 8
  ok : TOk x.T x.O x.F (gT x.T x.G0 x.G1 x.G2)
theorem all_push {G : Gs} {L : List Ord} (h : ∀ x ∈ G, x.length ≤ 8) (hL : L.length ≤ 8) : ∀ x ∈ G ++ [L], x.length ≤ 8 := by
  intro x hx; rcases List.mem_append.1 hx with hx | hx
  · exact h x hx
  · simp at hx; rw [hx]; exact hL
theorem cutT {P : Program} {n k0 : Nat} {α : Type} (J : α → Prop) (sl : α → List (Nat × AV)) (mm : α → Mem) {k : List C} {Q : Exit → Tr → Mem → Prop} {S : Prop} (h : (∀ x, J x → SemW P n k0 k (mkP (sl x)) (mm x) Q) → S)
    (ht : ∀ x, J x → SemW P n k0 k (mkP (sl x)) (mm x) Q) : S := h ht
theorem norm0 {nx : Int} {O : Outr} {F : List Inn} (h : OkO O F) (G0 G1 G2 : Gs) {t : Tr} {N : Nat} (hN : N = F.length + 6) {sl : List (Nat × AV)} (he : embT0 t sl) (hi : idsT 0 (sl.filter fun x => x.1 != 5 && x.1 != 77 && x.1 != 6) = true)
    (h5 : ∀ x ∈ sl, x.1 = 5 ∨ x.1 = 77 → x.2 = .pbox 4 0) (h6 : ∀ x ∈ sl, x.1 = 6 → x.2 = .pbox 0 0) :
    Emb 0 ([0, N, 2, 3] ++ idl (F.length + 1 + 1) 4) t ([.box [.sl N 0 G0.length G0.length false, .sl 2 0 G1.length G1.length false, .sl 3 0 G2.length G2.length false], .gone, .row 1 (brow G1), .row 1 (brow G2)] ++ (tS 4 nx O F ++ [.row 1 (brow G0)])) sl (bM nx O F G0 G1 G2) := by
  subst hN
  have hl : (tM nx O F).length = F.length + 1 + 1 := tM_len nx O F
  have hr : ∀ x ∈ sl, (∀ N', ren ([0, F.length + 6, 2, 3] ++ idl (F.length + 1 + 1) 4) N' x.2 = x.2) ∧ ids (4 + (F.length + 1 + 1)) x.2 = true := by
    intro x hx
    by_cases c5 : x.1 = 5 ∨ x.1 = 77
    · rw [h5 x hx c5]
      refine ⟨fun N' => ?_, by simp [ids]⟩
      simp only [ren]
      rw [show rid ([0, F.length + 6, 2, 3] ++ idl (F.length + 1 + 1) 4) N' 4 = 4 from rfl]
    · by_cases c6 : x.1 = 6
      · rw [h6 x hx c6]; exact ⟨fun N' => rfl, by simp [ids]; omega⟩
      · have hm : x ∈ sl.filter fun x => x.1 != 5 && x.1 != 77 && x.1 != 6 := List.mem_filter.2 ⟨hx, by simp at c5 ⊢; exact ⟨⟨c5.1, c5.2⟩, c6⟩⟩
        have hz : ids 0 x.2 = true := by
          generalize (sl.filter fun x => x.1 != 5 && x.1 != 77 && x.1 != 6) = L at hi hm
          induction L with
          | nil => simp at hm
          | cons y L ih =>
            simp only [idsT, Bool.and_eq_true] at hi
            rcases List.mem_cons.1 hm with rfl | hm
            · exact hi.1
            · exact ih hi.2 hm
        exact ⟨fun N' => ren_fix (n := 0) (by intro b hb; omega) hz, ids_mono (by omega) hz⟩
  have hT : ∀ N', embT ([0, F.length + 6, 2, 3] ++ idl (F.length + 1 + 1) 4) N' t sl := by
    intro N'
    clear hi h5 h6
    induction sl with
    | nil => trivial
    | cons x sl ih =>
      obtain ⟨a, v⟩ := x
      refine ⟨?_, ih he.2 fun y hy => hr y (by simp [hy])⟩
      have := (hr (a, v) (by simp)).1 N'
      simp only at this
      rw [this]; exact he.1
  have hI : ∀ n, 4 + (F.length + 1 + 1) ≤ n → idsT n sl = true := by
    intro n hn
    clear hi h5 h6 hT he
    induction sl with
    | nil => rfl
    | cons x sl ih =>
      obtain ⟨a, v⟩ := x
      simp only [idsT, Bool.and_eq_true]
      exact ⟨ids_mono hn (hr (a, v) (by simp)).2, ih fun y hy => hr y (by simp [hy])⟩
  have hmr : ∀ (pre : Mem), pre.length = 4 → mg (pre ++ (tS 4 nx O F ++ [.row 1 (brow G0)])) (F.length + 6) = .row 1 (brow G0) := by
    intro pre hp
    have h1 := mg_app pre (tS 4 nx O F ++ [.row 1 (brow G0)]) (F.length + 1 + 1)
    have h2 := mg_app0 (tS 4 nx O F) [.row 1 (brow G0)]
    rw [tS_len] at h2
    rw [hp, h2] at h1
    rw [show F.length + 6 = 4 + (F.length + 1 + 1) by omega]; exact h1
  have := emb_mid (A := [.box [.sl (F.length + 6) 0 G0.length G0.length false, .sl 2 0 G1.length G1.length false, .sl 3 0 G2.length G2.length false], .gone, .row 1 (brow G1), .row 1 (brow G2)]) (A' := bP G0 G1 G2) (B := [.row 1 (brow G0)]) (T0 := tM nx O F) (πA := [0, F.length + 6, 2, 3]) (t := t) (sl := sl)
    (tM_ids nx O F h _ (by rw [hl]; exact Nat.le_refl _)) rfl rfl (hI _ (by rw [hl]; exact Nat.le_refl _)) (by rw [hl]; simp [bP, idsM, idsB, idss, ids]; try omega) (by simp [nodupN]) (by rw [hl]; simp; try omega)
    (by simp [below, renM_len, hl]; try omega) (by rw [hl]; exact hT _) (by rw [hl]; exact ⟨rfl, hmr _ rfl, rfl, rfl, trivial⟩)
  rw [hl] at this
  exact this
theorem norm1 {nx : Int} {O : Outr} {F : List Inn} (h : OkO O F) (G0 G1 G2 : Gs) {t : Tr} {N : Nat} (hN : N = F.length + 6) {sl : List (Nat × AV)} (he : embT0 t sl) (hi : idsT 0 (sl.filter fun x => x.1 != 5 && x.1 != 77 && x.1 != 6) = true)
    (h5 : ∀ x ∈ sl, x.1 = 5 ∨ x.1 = 77 → x.2 = .pbox 4 0) (h6 : ∀ x ∈ sl, x.1 = 6 → x.2 = .pbox 0 0) :
    Emb 0 ([0, 1, N, 3] ++ idl (F.length + 1 + 1) 4) t ([.box [.sl 1 0 G0.length G0.length false, .sl N 0 G1.length G1.length false, .sl 3 0 G2.length G2.length false], .row 1 (brow G0), .gone, .row 1 (brow G2)] ++ (tS 4 nx O F ++ [.row 1 (brow G1)])) sl (bM nx O F G0 G1 G2) := by
  subst hN
  have hl : (tM nx O F).length = F.length + 1 + 1 := tM_len nx O F
  have hr : ∀ x ∈ sl, (∀ N', ren ([0, 1, F.length + 6, 3] ++ idl (F.length + 1 + 1) 4) N' x.2 = x.2) ∧ ids (4 + (F.length + 1 + 1)) x.2 = true := by
    intro x hx
    by_cases c5 : x.1 = 5 ∨ x.1 = 77
    · rw [h5 x hx c5]
      refine ⟨fun N' => ?_, by simp [ids]⟩
      simp only [ren]
      rw [show rid ([0, 1, F.length + 6, 3] ++ idl (F.length + 1 + 1) 4) N' 4 = 4 from rfl]
    · by_cases c6 : x.1 = 6
      · rw [h6 x hx c6]; exact ⟨fun N' => rfl, by simp [ids]; omega⟩
      · have hm : x ∈ sl.filter fun x => x.1 != 5 && x.1 != 77 && x.1 != 6 := List.mem_filter.2 ⟨hx, by simp at c5 ⊢; exact ⟨⟨c5.1, c5.2⟩, c6⟩⟩
        have hz : ids 0 x.2 = true := by
          generalize (sl.filter fun x => x.1 != 5 && x.1 != 77 && x.1 != 6) = L at hi hm
          induction L with
          | nil => simp at hm
          | cons y L ih =>
            simp only [idsT, Bool.and_eq_true] at hi
            rcases List.mem_cons.1 hm with rfl | hm
            · exact hi.1
            · exact ih hi.2 hm
        exact ⟨fun N' => ren_fix (n := 0) (by intro b hb; omega) hz, ids_mono (by omega) hz⟩
  have hT : ∀ N', embT ([0, 1, F.length + 6, 3] ++ idl (F.length + 1 + 1) 4) N' t sl := by
    intro N'
    clear hi h5 h6
    induction sl with
    | nil => trivial
    | cons x sl ih =>
      obtain ⟨a, v⟩ := x
      refine ⟨?_, ih he.2 fun y hy => hr y (by simp [hy])⟩
      have := (hr (a, v) (by simp)).1 N'
      simp only at this
      rw [this]; exact he.1
  have hI : ∀ n, 4 + (F.length + 1 + 1) ≤ n → idsT n sl = true := by
    intro n hn
    clear hi h5 h6 hT he
    induction sl with
    | nil => rfl
    | cons x sl ih =>
      obtain ⟨a, v⟩ := x
      simp only [idsT, Bool.and_eq_true]
      exact ⟨ids_mono hn (hr (a, v) (by simp)).2, ih fun y hy => hr y (by simp [hy])⟩
  have hmr : ∀ (pre : Mem), pre.length = 4 → mg (pre ++ (tS 4 nx O F ++ [.row 1 (brow G1)])) (F.length + 6) = .row 1 (brow G1) := by
    intro pre hp
    have h1 := mg_app pre (tS 4 nx O F ++ [.row 1 (brow G1)]) (F.length + 1 + 1)
    have h2 := mg_app0 (tS 4 nx O F) [.row 1 (brow G1)]
    rw [tS_len] at h2
    rw [hp, h2] at h1
    rw [show F.length + 6 = 4 + (F.length + 1 + 1) by omega]; exact h1
  have := emb_mid (A := [.box [.sl 1 0 G0.length G0.length false, .sl (F.length + 6) 0 G1.length G1.length false, .sl 3 0 G2.length G2.length false], .row 1 (brow G0), .gone, .row 1 (brow G2)]) (A' := bP G0 G1 G2) (B := [.row 1 (brow G1)]) (T0 := tM nx O F) (πA := [0, 1, F.length + 6, 3]) (t := t) (sl := sl)
    (tM_ids nx O F h _ (by rw [hl]; exact Nat.le_refl _)) rfl rfl (hI _ (by rw [hl]; exact Nat.le_refl _)) (by rw [hl]; simp [bP, idsM, idsB, idss, ids]; try omega) (by simp [nodupN]) (by rw [hl]; simp; try omega)
    (by simp [below, renM_len, hl]; try omega) (by rw [hl]; exact hT _) (by rw [hl]; exact ⟨rfl, rfl, hmr _ rfl, rfl, trivial⟩)
  rw [hl] at this
  exact this
theorem norm2 {nx : Int} {O : Outr} {F : List Inn} (h : OkO O F) (G0 G1 G2 : Gs) {t : Tr} {N : Nat} (hN : N = F.length + 6) {sl : List (Nat × AV)} (he : embT0 t sl) (hi : idsT 0 (sl.filter fun x => x.1 != 5 && x.1 != 77 && x.1 != 6) = true)
    (h5 : ∀ x ∈ sl, x.1 = 5 ∨ x.1 = 77 → x.2 = .pbox 4 0) (h6 : ∀ x ∈ sl, x.1 = 6 → x.2 = .pbox 0 0) :
    Emb 0 ([0, 1, 2, N] ++ idl (F.length + 1 + 1) 4) t ([.box [.sl 1 0 G0.length G0.length false, .sl 2 0 G1.length G1.length false, .sl N 0 G2.length G2.length false], .row 1 (brow G0), .row 1 (brow G1), .gone] ++ (tS 4 nx O F ++ [.row 1 (brow G2)])) sl (bM nx O F G0 G1 G2) := by
  subst hN
  have hl : (tM nx O F).length = F.length + 1 + 1 := tM_len nx O F
  have hr : ∀ x ∈ sl, (∀ N', ren ([0, 1, 2, F.length + 6] ++ idl (F.length + 1 + 1) 4) N' x.2 = x.2) ∧ ids (4 + (F.length + 1 + 1)) x.2 = true := by
    intro x hx
    by_cases c5 : x.1 = 5 ∨ x.1 = 77
    · rw [h5 x hx c5]
      refine ⟨fun N' => ?_, by simp [ids]⟩
      simp only [ren]
      rw [show rid ([0, 1, 2, F.length + 6] ++ idl (F.length + 1 + 1) 4) N' 4 = 4 from rfl]
    · by_cases c6 : x.1 = 6
      · rw [h6 x hx c6]; exact ⟨fun N' => rfl, by simp [ids]; omega⟩
      · have hm : x ∈ sl.filter fun x => x.1 != 5 && x.1 != 77 && x.1 != 6 := List.mem_filter.2 ⟨hx, by simp at c5 ⊢; exact ⟨⟨c5.1, c5.2⟩, c6⟩⟩
        have hz : ids 0 x.2 = true := by
          generalize (sl.filter fun x => x.1 != 5 && x.1 != 77 && x.1 != 6) = L at hi hm
          induction L with
          | nil => simp at hm
          | cons y L ih =>
            simp only [idsT, Bool.and_eq_true] at hi
            rcases List.mem_cons.1 hm with rfl | hm
            · exact hi.1
            · exact ih hi.2 hm
        exact ⟨fun N' => ren_fix (n := 0) (by intro b hb; omega) hz, ids_mono (by omega) hz⟩
  have hT : ∀ N', embT ([0, 1, 2, F.length + 6] ++ idl (F.length + 1 + 1) 4) N' t sl := by
    intro N'
    clear hi h5 h6
    induction sl with
    | nil => trivial
    | cons x sl ih =>
      obtain ⟨a, v⟩ := x
      refine ⟨?_, ih he.2 fun y hy => hr y (by simp [hy])⟩
      have := (hr (a, v) (by simp)).1 N'
      simp only at this
      rw [this]; exact he.1
  have hI : ∀ n, 4 + (F.length + 1 + 1) ≤ n → idsT n sl = true := by
    intro n hn
    clear hi h5 h6 hT he
    induction sl with
    | nil => rfl
    | cons x sl ih =>
      obtain ⟨a, v⟩ := x
      simp only [idsT, Bool.and_eq_true]
      exact ⟨ids_mono hn (hr (a, v) (by simp)).2, ih fun y hy => hr y (by simp [hy])⟩
  have hmr : ∀ (pre : Mem), pre.length = 4 → mg (pre ++ (tS 4 nx O F ++ [.row 1 (brow G2)])) (F.length + 6) = .row 1 (brow G2) := by
    intro pre hp
    have h1 := mg_app pre (tS 4 nx O F ++ [.row 1 (brow G2)]) (F.length + 1 + 1)
    have h2 := mg_app0 (tS 4 nx O F) [.row 1 (brow G2)]
    rw [tS_len] at h2
    rw [hp, h2] at h1
    rw [show F.length + 6 = 4 + (F.length + 1 + 1) by omega]; exact h1
  have := emb_mid (A := [.box [.sl 1 0 G0.length G0.length false, .sl 2 0 G1.length G1.length false, .sl (F.length + 6) 0 G2.length G2.length false], .row 1 (brow G0), .row 1 (brow G1), .gone]) (A' := bP G0 G1 G2) (B := [.row 1 (brow G2)]) (T0 := tM nx O F) (πA := [0, 1, 2, F.length + 6]) (t := t) (sl := sl)
    (tM_ids nx O F h _ (by rw [hl]; exact Nat.le_refl _)) rfl rfl (hI _ (by rw [hl]; exact Nat.le_refl _)) (by rw [hl]; simp [bP, idsM, idsB, idss, ids]; try omega) (by simp [nodupN]) (by rw [hl]; simp; try omega)
    (by simp [below, renM_len, hl]; try omega) (by rw [hl]; exact hT _) (by rw [hl]; exact ⟨rfl, rfl, rfl, hmr _ rfl, trivial⟩)
  rw [hl] at this
  exact this
theorem bb_ff' : (false == false) = true := rfl
theorem bb_tf' : (true == false) = false := rfl
theorem bb_ft' : (false == true) = false := rfl
theorem bb_tt' : (true == true) = true := rfl
theorem bn_tf' : (true != false) = true := rfl
theorem bn_ff' : (false != false) = false := rfl
theorem bn_tt' : (true != true) = false := rfl
abbrev bS (LL : Gs) (W : List Int) (i T : Nat) : List (Nat × AV) := [(0, .vsl 1 (brow LL) false), (1, .vsl 1 (iv .i64 W) false), (5, .pbox 4 0), (6, .pbox 0 0), (7, .int .i64 (T : Nat)), (8, .int .i64 (i : Nat))]
abbrev bS2 (LL : Gs) (W : List Int) (i T : Nat) : List (Nat × AV) := (77, .pbox 4 0) :: (78, .vsl 1 [[.int .i64 0], [.int .i64 1], [.int .i64 2]] true) :: bS LL W i T
theorem ords_of {xs : List (List AV)} (h : ∀ x ∈ xs, HasL [.int .i64, .int .i64, .int .i64, .int .i64] x) : ∃ l : List Ord, xs = orows l := by
  induction xs with
  | nil => exact ⟨[], rfl⟩
  | cons x xs ih =>
    obtain ⟨l, rfl⟩ := ih fun y hy => h y (by simp [hy])
    have := h x (by simp)
    simp only [HasL, Has] at this
    obtain ⟨_, _, rfl, ⟨a, rfl, _⟩, _, _, rfl, ⟨b, rfl, _⟩, _, _, rfl, ⟨c, rfl, _⟩, _, _, rfl, ⟨d, rfl, _⟩, rfl⟩ := this
    exact ⟨(a, b, c, d) :: l, rfl⟩
set_option maxHeartbeats 1000000 in
theorem batches_core (LL : Gs) (W : List Int) : Tri Try.prog 3 [.vsl 1 (brow LL) false, .vsl 1 (iv .i64 W) false] [] (fun v m => v = .bool true) := by
  refine Tri.post ?_
  have hnew : Tri Try.prog 8 [.int .i64 0] [] (fun v m => v = .pbox 0 0 ∧ m = [.box [.int .i64 0, .map 1], .map []]) := tnew_spec 0
  refine (Tri.enter (rl := r3) (code := c3) (by kernel_rfl) Try.func3 rfl c3_ok (by kernel_rfl) (by kernel_rfl) ?_)
  refine run_ok 4000 _ _ _ _ ?_
  simp (maxSteps := 10000000) only [go_sem, c3, r3]
  refine sem_call rfl rfl (((live_spec).embed [] rfl trivial rfl rfl rfl (by simp)).mono ?_)
  rintro _ _ ⟨_, _, ⟨rfl, rfl⟩, rfl, rfl⟩
  refine run_ok 4000 _ _ _ _ ?_
  simp (maxSteps := 10000000) only [go_sem]
  refine sem_call rfl rfl ((hnew).mono ?_)
  rintro _ _ ⟨rfl, rfl⟩
  refine run_ok 4000 _ _ _ _ ?_
  simp (maxSteps := 10000000) only [go_sem]
  refine sem_nilbox 2 0 1 rfl rfl ?_
  simp (maxSteps := 10000000) only [go_sem]
  refine sem_nilbox 2 1 1 rfl rfl ?_
  simp (maxSteps := 10000000) only [go_sem]
  refine sem_nilbox 2 2 1 rfl rfl ?_
  simp (maxSteps := 10000000) only [go_sem]
  refine sem_sub (sl := bS LL W 0 0) (m2 := bM 0 [] [] [] [] []) [2, 3, 4, 5, 0, 1] ?_ ?_
  · simp only [Emb, go_sem, bM, bP, tS_new, brow, List.map_nil, List.length_nil]
  refine sem_roundsJ (fun x : BX => x.i ≤ 60 ∧ BJ x) (fun x => bS LL W x.i x.T)
    (fun x => bM (x.T : Nat) x.O x.F x.G0 x.G1 x.G2) (fun x => 60 - x.i) ⟨0, 0, [], [], [], [], []⟩ ?_ ?_ ?_ ⟨by simp, ⟨by simp, by simp, by simp, by simp, by simp, by simp, by simp, ?_⟩⟩ ?_ ?_
  · intro x hx; exact bM_ids hx.2.ok.okO _ _ _
  · intro x hx; omega
  · intro x hx; simp [idsT, ids, bM_len]; try omega
  · have := TOk.new 0; rwa [show (fun _ => []) = gT 0 [] [] [] by funext p; simp [gT]] at this
  · simp [go_sem]
  rintro ⟨i, T, O, F, G0, G1, G2⟩ ⟨hi, hJ⟩
  obtain ⟨hTi, h0, h1, h2, l0, l1, l2, hok⟩ := hJ
  simp only at hi hTi h0 h1 h2 l0 l1 l2 hok ⊢
  by_cases c1 : i < LL.length
  · have i1 : (i : Int) < (LL.length : Int) := by omega
    by_cases c2 : i < W.length
    · have i2 : (i : Int) < (W.length : Int) := by omega
      by_cases c3 : i < 60
      · have i3 : (i : Int) < 60 := by omega
        have r0 := iv_rint (k := .i64) c2
        have q0 := iv_hasI (k := .i64) c2
        obtain ⟨b, hb, hb2⟩ := and_i64 W[i] (k := 255) (by decide)
        have hb : ibits .and .i64 W[i] 255 = (b : Int) := hb
        have m1 : (b : Int).tmod 3 = ((b % 3 : Nat) : Int) := rfl
        have r1 := brow_r c1
        have q1 := brow_h c1
        have w8 : iwrap .i64 ((T : Int) + 8) = (T : Int) + 8 := iwrap_i64_in (by omega)
        have hti := tidy_spec LL[i]
        generalize W[i] = w at *
        have hp3 : b % 3 = 0 ∨ b % 3 = 1 ∨ b % 3 = 2 := by omega
        apply cutT (fun y : BX => y.i = i + 1 ∧ y.T = T ∧ BJ y) (fun y => bS2 LL W i T) (fun y => bM (T : Nat) y.O y.F y.G0 y.G1 y.G2)
        · intro hX
          rcases hp3 with e | e | e
          · rw [e] at m1
            have m1 : (b : Int).tmod 3 = 0 := m1
            have hgv := tBehS (bP G0 G1 G2) hok (givenT hok 0 (by omega) (by show (G0.drop T).length ≤ 100; simp; omega)) rfl rfl rfl
            rw [show (T : Int) + ((gT T G0 G1 G2 0).length : Int) = (G0.length : Int) by show (T : Int) + ((G0.drop T).length : Int) = _; simp; omega] at hgv
            skip
            refine run_ok 4000 _ _ _ _ ?_
            simp (maxSteps := 10000000) only [go_sem, brow_len, iv_len, i1, i2, i3, r0, q0, hb, m1, r1, q1, w8, Int.natCast_nonneg, bM, bP, List.cons_append, List.nil_append, r3_0, h3_0]
            refine sem_call rfl rfl (((hti).embed [] rfl trivial rfl rfl rfl (by simp)).mono ?_)
            rintro _ _ ⟨_, _, ⟨rfl, rfl⟩, rfl, rfl⟩
            refine run_ok 4000 _ _ _ _ ?_
            simp (maxSteps := 10000000) only [go_sem, brow_len, iv_len, i1, i2, i3, r0, q0, hb, m1, r1, q1, w8, Int.natCast_nonneg, bM, bP, List.cons_append, List.nil_append, r3_0, h3_0]
            by_cases cf : G0.length = T + 8
            · have hput := tBehS (bP G0 G1 G2) hok (fullT hok 0 (G0.length : Int) (td LL[i]) (by show (G0.length : Int) = (T : Int) + ((G0.drop T).length : Int); simp; omega) (by omega) (by show (G0.drop T).length = 8; simp; omega) (by omega)) rfl rfl rfl
              have g1 : (G0.length : Int) ≥ (T : Int) + 8 := by omega
              skip
              refine run_ok 4000 _ _ _ _ ?_
              simp (maxSteps := 10000000) only [go_sem, brow_len, w8, g1, bP, List.cons_append, List.nil_append, r3_0, h3_0, bb_ft', bb_tf', bb_ff', bb_tt']
              refine sem_call rfl rfl (hgv.mono ?_)
              rintro _ _ ⟨rfl, rfl⟩
              refine run_ok 4000 _ _ _ _ ?_
              simp (maxSteps := 10000000) only [go_sem, brow_len, w8, g1, bP, List.cons_append, List.nil_append, r3_0, h3_0, bb_ft', bb_tf', bb_ff', bb_tt']
              refine sem_call rfl rfl (hput.mono ?_)
              rintro _ _ ⟨rfl, rfl⟩
              refine run_ok 4000 _ _ _ _ ?_
              simp (maxSteps := 10000000) only [go_sem, brow_len, w8, g1, bP, List.cons_append, List.nil_append, r3_0, h3_0, bb_ft', bb_tf', bb_ff', bb_tt']
              refine sem_sub0 (m := bM (T : Nat) O F G0 G1 G2) (bS2 LL W i T) (bM_ids hok.okO _ _ _) (by omega) (by simp [idsT, ids, bM_len]; try omega) (by simp [go_sem]) ?_
              exact hX ⟨i + 1, T, O, F, G0, G1, G2⟩ ⟨rfl, rfl, ⟨by simp only; omega, ⟨h0.1, by simp only; omega, h0.2.2⟩, ⟨h1.1, by simp only; omega, h1.2.2⟩, ⟨h2.1, by simp only; omega, h2.2.2⟩, l0, l1, l2, hok⟩⟩
            · have hput := tBeh (bP G0 G1 G2) hok (putT hok 0 (G0.length : Int) (td LL[i]) (by show (G0.length : Int) = (T : Int) + ((G0.drop T).length : Int); simp; omega) (by omega) (by show (G0.drop T).length < 8; simp; omega) (by omega) (td_len _) (td_ok _)) rfl rfl rfl
              rw [gT_0 T (td LL[i]) h0.1] at hput
              have g1 : ¬ (G0.length : Int) ≥ (T : Int) + 8 := by omega
              have ga := brow_app G0 (td LL[i])
              have hsm : small (G0.length + 1) := by unfold small; omega
              skip
              refine run_ok 4000 _ _ _ _ ?_
              simp (maxSteps := 10000000) only [go_sem, brow_len, w8, g1, bP, List.cons_append, List.nil_append, r3_0, h3_0, bb_ft', bb_tf', bb_ff', bb_tt', ga, hsm, brow_all, brow_len, Nat.le_refl, tS_len]
              refine sem_call rfl rfl (hgv.mono ?_)
              rintro _ _ ⟨rfl, rfl⟩
              refine run_ok 4000 _ _ _ _ ?_
              simp (maxSteps := 10000000) only [go_sem, brow_len, w8, g1, bP, List.cons_append, List.nil_append, r3_0, h3_0, bb_ft', bb_tf', bb_ff', bb_tt', ga, hsm, brow_all, brow_len, Nat.le_refl, tS_len]
              refine sem_call rfl rfl (hput.mono ?_)
              rintro _ _ ⟨rfl, O1, F1, hok1, rfl⟩
              refine run_ok 4000 _ _ _ _ ?_
              simp (maxSteps := 10000000) only [go_sem, brow_len, w8, g1, bP, List.cons_append, List.nil_append, r3_0, h3_0, bb_ft', bb_tf', bb_ff', bb_tt', ga, hsm, brow_all, brow_len, Nat.le_refl, tS_len]
              rw [show G0.length + 1 = (G0 ++ [td LL[i]]).length by simp]
              refine sem_sub (sl := bS2 LL W i T) (m2 := bM (T : Nat) O1 F1 (G0 ++ [td LL[i]]) G1 G2) _ (norm0 (N := F1.length + 6) hok1.okO (G0 ++ [td LL[i]]) G1 G2 rfl ?_ ?_ ?_ ?_) ?_
              · simp [go_sem]
              · simp [idsT, ids]
              · simp
              · simp
              exact hX ⟨i + 1, T, O1, F1, G0 ++ [td LL[i]], G1, G2⟩ ⟨rfl, rfl, ⟨by simp only; omega, ⟨by simp only [List.length_append, List.length_singleton]; omega, by simp only [List.length_append, List.length_singleton]; omega, by simp only [List.length_append, List.length_singleton]; omega⟩, ⟨by simp only [List.length_append, List.length_singleton]; omega, by simp only [List.length_append, List.length_singleton]; omega, by simp only [List.length_append, List.length_singleton]; omega⟩, ⟨by simp only [List.length_append, List.length_singleton]; omega, by simp only [List.length_append, List.length_singleton]; omega, by simp only [List.length_append, List.length_singleton]; omega⟩, all_push l0 (td_len _), l1, l2, hok1⟩⟩
          · rw [e] at m1
            have m1 : (b : Int).tmod 3 = 1 := m1
            have hgv := tBehS (bP G0 G1 G2) hok (givenT hok 1 (by omega) (by show (G1.drop T).length ≤ 100; simp; omega)) rfl rfl rfl
            rw [show (T : Int) + ((gT T G0 G1 G2 1).length : Int) = (G1.length : Int) by show (T : Int) + ((G1.drop T).length : Int) = _; simp; omega] at hgv
            skip
            refine run_ok 4000 _ _ _ _ ?_
            simp (maxSteps := 10000000) only [go_sem, brow_len, iv_len, i1, i2, i3, r0, q0, hb, m1, r1, q1, w8, Int.natCast_nonneg, bM, bP, List.cons_append, List.nil_append, r3_1, h3_1]
            refine sem_call rfl rfl (((hti).embed [] rfl trivial rfl rfl rfl (by simp)).mono ?_)
            rintro _ _ ⟨_, _, ⟨rfl, rfl⟩, rfl, rfl⟩
            refine run_ok 4000 _ _ _ _ ?_
            simp (maxSteps := 10000000) only [go_sem, brow_len, iv_len, i1, i2, i3, r0, q0, hb, m1, r1, q1, w8, Int.natCast_nonneg, bM, bP, List.cons_append, List.nil_append, r3_1, h3_1]
            by_cases cf : G1.length = T + 8
            · have hput := tBehS (bP G0 G1 G2) hok (fullT hok 1 (G1.length : Int) (td LL[i]) (by show (G1.length : Int) = (T : Int) + ((G1.drop T).length : Int); simp; omega) (by omega) (by show (G1.drop T).length = 8; simp; omega) (by omega)) rfl rfl rfl
              have g1 : (G1.length : Int) ≥ (T : Int) + 8 := by omega
              skip
              refine run_ok 4000 _ _ _ _ ?_
              simp (maxSteps := 10000000) only [go_sem, brow_len, w8, g1, bP, List.cons_append, List.nil_append, r3_1, h3_1, bb_ft', bb_tf', bb_ff', bb_tt']
              refine sem_call rfl rfl (hgv.mono ?_)
              rintro _ _ ⟨rfl, rfl⟩
              refine run_ok 4000 _ _ _ _ ?_
              simp (maxSteps := 10000000) only [go_sem, brow_len, w8, g1, bP, List.cons_append, List.nil_append, r3_1, h3_1, bb_ft', bb_tf', bb_ff', bb_tt']
              refine sem_call rfl rfl (hput.mono ?_)
              rintro _ _ ⟨rfl, rfl⟩
              refine run_ok 4000 _ _ _ _ ?_
              simp (maxSteps := 10000000) only [go_sem, brow_len, w8, g1, bP, List.cons_append, List.nil_append, r3_1, h3_1, bb_ft', bb_tf', bb_ff', bb_tt']
              refine sem_sub0 (m := bM (T : Nat) O F G0 G1 G2) (bS2 LL W i T) (bM_ids hok.okO _ _ _) (by omega) (by simp [idsT, ids, bM_len]; try omega) (by simp [go_sem]) ?_
              exact hX ⟨i + 1, T, O, F, G0, G1, G2⟩ ⟨rfl, rfl, ⟨by simp only; omega, ⟨h0.1, by simp only; omega, h0.2.2⟩, ⟨h1.1, by simp only; omega, h1.2.2⟩, ⟨h2.1, by simp only; omega, h2.2.2⟩, l0, l1, l2, hok⟩⟩
            · have hput := tBeh (bP G0 G1 G2) hok (putT hok 1 (G1.length : Int) (td LL[i]) (by show (G1.length : Int) = (T : Int) + ((G1.drop T).length : Int); simp; omega) (by omega) (by show (G1.drop T).length < 8; simp; omega) (by omega) (td_len _) (td_ok _)) rfl rfl rfl
              rw [gT_1 T (td LL[i]) h1.1] at hput
              have g1 : ¬ (G1.length : Int) ≥ (T : Int) + 8 := by omega
              have ga := brow_app G1 (td LL[i])
              have hsm : small (G1.length + 1) := by unfold small; omega
              skip
              refine run_ok 4000 _ _ _ _ ?_
              simp (maxSteps := 10000000) only [go_sem, brow_len, w8, g1, bP, List.cons_append, List.nil_append, r3_1, h3_1, bb_ft', bb_tf', bb_ff', bb_tt', ga, hsm, brow_all, brow_len, Nat.le_refl, tS_len]
              refine sem_call rfl rfl (hgv.mono ?_)
              rintro _ _ ⟨rfl, rfl⟩
              refine run_ok 4000 _ _ _ _ ?_
              simp (maxSteps := 10000000) only [go_sem, brow_len, w8, g1, bP, List.cons_append, List.nil_append, r3_1, h3_1, bb_ft', bb_tf', bb_ff', bb_tt', ga, hsm, brow_all, brow_len, Nat.le_refl, tS_len]
              refine sem_call rfl rfl (hput.mono ?_)
              rintro _ _ ⟨rfl, O1, F1, hok1, rfl⟩
              refine run_ok 4000 _ _ _ _ ?_
              simp (maxSteps := 10000000) only [go_sem, brow_len, w8, g1, bP, List.cons_append, List.nil_append, r3_1, h3_1, bb_ft', bb_tf', bb_ff', bb_tt', ga, hsm, brow_all, brow_len, Nat.le_refl, tS_len]
              rw [show G1.length + 1 = (G1 ++ [td LL[i]]).length by simp]
              refine sem_sub (sl := bS2 LL W i T) (m2 := bM (T : Nat) O1 F1 G0 (G1 ++ [td LL[i]]) G2) _ (norm1 (N := F1.length + 6) hok1.okO G0 (G1 ++ [td LL[i]]) G2 rfl ?_ ?_ ?_ ?_) ?_
              · simp [go_sem]
              · simp [idsT, ids]
              · simp
              · simp
              exact hX ⟨i + 1, T, O1, F1, G0, G1 ++ [td LL[i]], G2⟩ ⟨rfl, rfl, ⟨by simp only; omega, ⟨by simp only [List.length_append, List.length_singleton]; omega, by simp only [List.length_append, List.length_singleton]; omega, by simp only [List.length_append, List.length_singleton]; omega⟩, ⟨by simp only [List.length_append, List.length_singleton]; omega, by simp only [List.length_append, List.length_singleton]; omega, by simp only [List.length_append, List.length_singleton]; omega⟩, ⟨by simp only [List.length_append, List.length_singleton]; omega, by simp only [List.length_append, List.length_singleton]; omega, by simp only [List.length_append, List.length_singleton]; omega⟩, l0, all_push l1 (td_len _), l2, hok1⟩⟩
          · rw [e] at m1
            have m1 : (b : Int).tmod 3 = 2 := m1
            have hgv := tBehS (bP G0 G1 G2) hok (givenT hok 2 (by omega) (by show (G2.drop T).length ≤ 100; simp; omega)) rfl rfl rfl
            rw [show (T : Int) + ((gT T G0 G1 G2 2).length : Int) = (G2.length : Int) by show (T : Int) + ((G2.drop T).length : Int) = _; simp; omega] at hgv
            skip
            refine run_ok 4000 _ _ _ _ ?_
            simp (maxSteps := 10000000) only [go_sem, brow_len, iv_len, i1, i2, i3, r0, q0, hb, m1, r1, q1, w8, Int.natCast_nonneg, bM, bP, List.cons_append, List.nil_append, r3_2, h3_2]
            refine sem_call rfl rfl (((hti).embed [] rfl trivial rfl rfl rfl (by simp)).mono ?_)
            rintro _ _ ⟨_, _, ⟨rfl, rfl⟩, rfl, rfl⟩
            refine run_ok 4000 _ _ _ _ ?_
            simp (maxSteps := 10000000) only [go_sem, brow_len, iv_len, i1, i2, i3, r0, q0, hb, m1, r1, q1, w8, Int.natCast_nonneg, bM, bP, List.cons_append, List.nil_append, r3_2, h3_2]
            by_cases cf : G2.length = T + 8
            · have hput := tBehS (bP G0 G1 G2) hok (fullT hok 2 (G2.length : Int) (td LL[i]) (by show (G2.length : Int) = (T : Int) + ((G2.drop T).length : Int); simp; omega) (by omega) (by show (G2.drop T).length = 8; simp; omega) (by omega)) rfl rfl rfl
              have g1 : (G2.length : Int) ≥ (T : Int) + 8 := by omega
              skip
              refine run_ok 4000 _ _ _ _ ?_
              simp (maxSteps := 10000000) only [go_sem, brow_len, w8, g1, bP, List.cons_append, List.nil_append, r3_2, h3_2, bb_ft', bb_tf', bb_ff', bb_tt']
              refine sem_call rfl rfl (hgv.mono ?_)
              rintro _ _ ⟨rfl, rfl⟩
              refine run_ok 4000 _ _ _ _ ?_
              simp (maxSteps := 10000000) only [go_sem, brow_len, w8, g1, bP, List.cons_append, List.nil_append, r3_2, h3_2, bb_ft', bb_tf', bb_ff', bb_tt']
              refine sem_call rfl rfl (hput.mono ?_)
              rintro _ _ ⟨rfl, rfl⟩
              refine run_ok 4000 _ _ _ _ ?_
              simp (maxSteps := 10000000) only [go_sem, brow_len, w8, g1, bP, List.cons_append, List.nil_append, r3_2, h3_2, bb_ft', bb_tf', bb_ff', bb_tt']
              refine sem_sub0 (m := bM (T : Nat) O F G0 G1 G2) (bS2 LL W i T) (bM_ids hok.okO _ _ _) (by omega) (by simp [idsT, ids, bM_len]; try omega) (by simp [go_sem]) ?_
              exact hX ⟨i + 1, T, O, F, G0, G1, G2⟩ ⟨rfl, rfl, ⟨by simp only; omega, ⟨h0.1, by simp only; omega, h0.2.2⟩, ⟨h1.1, by simp only; omega, h1.2.2⟩, ⟨h2.1, by simp only; omega, h2.2.2⟩, l0, l1, l2, hok⟩⟩
            · have hput := tBeh (bP G0 G1 G2) hok (putT hok 2 (G2.length : Int) (td LL[i]) (by show (G2.length : Int) = (T : Int) + ((G2.drop T).length : Int); simp; omega) (by omega) (by show (G2.drop T).length < 8; simp; omega) (by omega) (td_len _) (td_ok _)) rfl rfl rfl
              rw [gT_2 T (td LL[i]) h2.1] at hput
              have g1 : ¬ (G2.length : Int) ≥ (T : Int) + 8 := by omega
              have ga := brow_app G2 (td LL[i])
              have hsm : small (G2.length + 1) := by unfold small; omega
              skip
              refine run_ok 4000 _ _ _ _ ?_
              simp (maxSteps := 10000000) only [go_sem, brow_len, w8, g1, bP, List.cons_append, List.nil_append, r3_2, h3_2, bb_ft', bb_tf', bb_ff', bb_tt', ga, hsm, brow_all, brow_len, Nat.le_refl, tS_len]
              refine sem_call rfl rfl (hgv.mono ?_)
              rintro _ _ ⟨rfl, rfl⟩
              refine run_ok 4000 _ _ _ _ ?_
              simp (maxSteps := 10000000) only [go_sem, brow_len, w8, g1, bP, List.cons_append, List.nil_append, r3_2, h3_2, bb_ft', bb_tf', bb_ff', bb_tt', ga, hsm, brow_all, brow_len, Nat.le_refl, tS_len]
              refine sem_call rfl rfl (hput.mono ?_)
              rintro _ _ ⟨rfl, O1, F1, hok1, rfl⟩
              refine run_ok 4000 _ _ _ _ ?_
              simp (maxSteps := 10000000) only [go_sem, brow_len, w8, g1, bP, List.cons_append, List.nil_append, r3_2, h3_2, bb_ft', bb_tf', bb_ff', bb_tt', ga, hsm, brow_all, brow_len, Nat.le_refl, tS_len]
              rw [show G2.length + 1 = (G2 ++ [td LL[i]]).length by simp]
              refine sem_sub (sl := bS2 LL W i T) (m2 := bM (T : Nat) O1 F1 G0 G1 (G2 ++ [td LL[i]])) _ (norm2 (N := F1.length + 6) hok1.okO G0 G1 (G2 ++ [td LL[i]]) rfl ?_ ?_ ?_ ?_) ?_
              · simp [go_sem]
              · simp [idsT, ids]
              · simp
              · simp
              exact hX ⟨i + 1, T, O1, F1, G0, G1, G2 ++ [td LL[i]]⟩ ⟨rfl, rfl, ⟨by simp only; omega, ⟨by simp only [List.length_append, List.length_singleton]; omega, by simp only [List.length_append, List.length_singleton]; omega, by simp only [List.length_append, List.length_singleton]; omega⟩, ⟨by simp only [List.length_append, List.length_singleton]; omega, by simp only [List.length_append, List.length_singleton]; omega, by simp only [List.length_append, List.length_singleton]; omega⟩, ⟨by simp only [List.length_append, List.length_singleton]; omega, by simp only [List.length_append, List.length_singleton]; omega, by simp only [List.length_append, List.length_singleton]; omega⟩, l0, l1, all_push l2 (td_len _), hok1⟩⟩
        clear hok h0 h1 h2 l0 l1 l2 hTi
        rintro ⟨i9, T, O, F, G0, G1, G2⟩ ⟨e1, e2, ⟨hTi, h0, h1, h2, l0, l1, l2, hok⟩⟩
        simp only at e1 e2 hTi h0 h1 h2 l0 l1 l2 hok ⊢
        subst e1
        subst e2
        have w9 := inc64 (show i < 1000000000000 by omega)
        by_cases call : T < G0.length ∧ T < G1.length ∧ T < G2.length
        · obtain ⟨k0, k1, k2⟩ := call
          have n0 : gT T G0 G1 G2 0 ≠ [] := by show G0.drop T ≠ []; rw [Ne, List.drop_eq_nil_iff]; omega
          have n1 : gT T G0 G1 G2 1 ≠ [] := by show G1.drop T ≠ []; rw [Ne, List.drop_eq_nil_iff]; omega
          have n2 : gT T G0 G1 G2 2 ≠ [] := by show G2.drop T ≠ []; rw [Ne, List.drop_eq_nil_iff]; omega
          have hty := tBeh (bP G0 G1 G2) hok (takeYes hok [0, 1, 2] true (by simp) (by omega) (by simp [n0, n1, n2])) rfl rfl rfl
          rw [gT_tail] at hty
          have hd0 : hdT (gT T G0 G1 G2) 0 = G0[T] := by show (G0.drop T).headD [] = _; rw [List.drop_eq_getElem_cons k0]; rfl
          have hd1 : hdT (gT T G0 G1 G2) 1 = G1[T] := by show (G1.drop T).headD [] = _; rw [List.drop_eq_getElem_cons k1]; rfl
          have hd2 : hdT (gT T G0 G1 G2) 2 = G2[T] := by show (G2.drop T).headD [] = _; rw [List.drop_eq_getElem_cons k2]; rfl
          have hpw : pws (hdT (gT T G0 G1 G2)) [0, 1, 2] = [[.int .i64 0, .vsl 4 (orows G0[T]) false], [.int .i64 1, .vsl 4 (orows G1[T]) false], [.int .i64 2, .vsl 4 (orows G2[T]) false]] := by
            simp only [pws, pw, List.map_cons, List.map_nil, hd0, hd1, hd2]
          rw [hpw] at hty
          have g0 : (G0.length : Int) > (T : Int) := by omega
          have g1 : (G1.length : Int) > (T : Int) := by omega
          have g2 : (G2.length : Int) > (T : Int) := by omega
          skip
          refine run_ok 4000 _ _ _ _ ?_
          simp (maxSteps := 10000000) only [go_sem, bM, bP, List.cons_append, List.nil_append, r3_0, r3_1, r3_2, h3_0, h3_1, h3_2, g0, g1, g2, bn_tt', bn_tf', bn_ff']
          refine sem_call rfl rfl (hty.mono ?_)
          rintro _ _ ⟨rfl, O1, F1, hok1, rfl⟩
          refine run_ok 4000 _ _ _ _ ?_
          simp (maxSteps := 10000000) only [go_sem, bM, bP, List.cons_append, List.nil_append, r3_0, r3_1, r3_2, h3_0, h3_1, h3_2, g0, g1, g2, bn_tt', bn_tf', bn_ff']
          generalize hX : [[AV.int .i64 0, AV.vsl 4 (orows G0[T]) false], [AV.int .i64 1, AV.vsl 4 (orows G1[T]) false], [AV.int .i64 2, AV.vsl 4 (orows G2[T]) false]] = X at *
          have xl : X.length = 3 := by rw [← hX]; rfl
          refine sem_roundsJ (fun j : Nat => j ≤ 3) (fun j => (14, .bool true) :: (103, .vsl 2 X false) :: (104, .int .i64 3) :: (105, .int .i64 (j : Nat)) :: bS LL W i T)
            (fun _ => bM ((T : Int) + 1) O1 F1 G0 G1 G2) (fun j => 3 - j) 0 ?_ ?_ ?_ (by omega) ?_ ?_
          · intro x hx; exact bM_ids hok1.okO _ _ _
          · intro x hx; omega
          · intro x hx; simp [idsT, ids, bM_len]; try omega
          · simp [go_sem, xl]
          intro j hj
          have hjc : j = 0 ∨ j = 1 ∨ j = 2 ∨ j = 3 := by omega
          rcases hjc with rfl | rfl | rfl | rfl
          · have ht := told_spec G0[T] (l0 _ (List.getElem_mem k0))
            have hs := same_spec G0[T] (l0 _ (List.getElem_mem k0))
            have x0 : rint X 0 0 = 0 := by rw [← hX]; rfl
            have x1 : rany X 0 1 = .vsl 4 (orows G0[T]) false := by rw [← hX]; rfl
            have x2 : hasI .i64 X 0 0 := by rw [← hX]; exact ⟨_, _, rfl, rfl⟩
            have x3 : hasA X 0 1 := by rw [← hX]; exact ⟨_, _, rfl, rfl⟩
            have y0 := brow_r k0
            have y1 := brow_h k0
            have cj : ((0 : Nat) : Int) = 0 := rfl
            have wj : iwrap .i64 (0 + 1) = ((1 : Nat) : Int) := rfl
            have wj' : iwrap .i64 (1 : Int) = ((1 : Nat) : Int) := rfl
            have tl : (T : Int) < (G0.length : Int) := by omega
            skip
            refine run_ok 4000 _ _ _ _ ?_
            simp (maxSteps := 10000000) only [go_sem, bM, bP, List.cons_append, List.nil_append, r3_0, h3_0, x0, x1, x2, x3, y0, y1, xl, cj, wj, wj', tl, ms_app0, mg_app0, Int.natCast_nonneg, brow_len]
            refine sem_drawG l3_0_ok (by kernel_rfl) ?_
            intro KK hKK
            simp (maxSteps := 10000000) only [go_sem, l3_0, bM, bP, List.cons_append, List.nil_append, r3_0, h3_0, x0, x1, x2, x3, y0, y1, xl, cj, wj, wj', tl, ms_app0, mg_app0, Int.natCast_nonneg, brow_len]
            refine TriZ.of (((ht).embed [] rfl (by repeat' first | exact trivial | rfl | (simp only [go_sem]; done) | constructor) rfl (by first | rfl | simp only [go_sem]) rfl (by simp)).mono ?_)
            rintro _ _ ⟨_, _, ⟨rfl, rfl⟩, rfl, rfl⟩
            simp (maxSteps := 10000000) only [go_sem, bM, bP, List.cons_append, List.nil_append, r3_0, h3_0, x0, x1, x2, x3, y0, y1, xl, cj, wj, wj', tl, ms_app0, mg_app0, Int.natCast_nonneg, brow_len]
            refine TriZ.of (((hs).embed [] rfl (by repeat' first | exact trivial | rfl | (simp only [go_sem]; done) | constructor) rfl (by first | rfl | simp only [go_sem]) rfl (by simp)).mono ?_)
            rintro _ _ ⟨_, _, ⟨rfl, rfl⟩, rfl, rfl⟩
            simp (maxSteps := 10000000) only [go_sem, bM, bP, List.cons_append, List.nil_append, r3_0, h3_0, x0, x1, x2, x3, y0, y1, xl, cj, wj, wj', tl, ms_app0, mg_app0, Int.natCast_nonneg, brow_len]
            subst hKK
            simp (maxSteps := 10000000) only [go_sem, bM, bP, List.cons_append, List.nil_append, r3_0, h3_0, x0, x1, x2, x3, y0, y1, xl, cj, wj, wj', tl, ms_app0, mg_app0, Int.natCast_nonneg, brow_len]
            exact ⟨1, by omega, by omega, rfl, _, rfl⟩
          · have ht := told_spec G1[T] (l1 _ (List.getElem_mem k1))
            have hs := same_spec G1[T] (l1 _ (List.getElem_mem k1))
            have x0 : rint X 1 0 = 1 := by rw [← hX]; rfl
            have x1 : rany X 1 1 = .vsl 4 (orows G1[T]) false := by rw [← hX]; rfl
            have x2 : hasI .i64 X 1 0 := by rw [← hX]; exact ⟨_, _, rfl, rfl⟩
            have x3 : hasA X 1 1 := by rw [← hX]; exact ⟨_, _, rfl, rfl⟩
            have y0 := brow_r k1
            have y1 := brow_h k1
            have cj : ((1 : Nat) : Int) = 1 := rfl
            have wj : iwrap .i64 (1 + 1) = ((2 : Nat) : Int) := rfl
            have wj' : iwrap .i64 (2 : Int) = ((2 : Nat) : Int) := rfl
            have tl : (T : Int) < (G1.length : Int) := by omega
            skip
            refine run_ok 4000 _ _ _ _ ?_
            simp (maxSteps := 10000000) only [go_sem, bM, bP, List.cons_append, List.nil_append, r3_1, h3_1, x0, x1, x2, x3, y0, y1, xl, cj, wj, wj', tl, ms_app0, mg_app0, Int.natCast_nonneg, brow_len]
            refine sem_drawG l3_0_ok (by kernel_rfl) ?_
            intro KK hKK
            simp (maxSteps := 10000000) only [go_sem, l3_0, bM, bP, List.cons_append, List.nil_append, r3_1, h3_1, x0, x1, x2, x3, y0, y1, xl, cj, wj, wj', tl, ms_app0, mg_app0, Int.natCast_nonneg, brow_len]
            refine TriZ.of (((ht).embed [] rfl (by repeat' first | exact trivial | rfl | (simp only [go_sem]; done) | constructor) rfl (by first | rfl | simp only [go_sem]) rfl (by simp)).mono ?_)
            rintro _ _ ⟨_, _, ⟨rfl, rfl⟩, rfl, rfl⟩
            simp (maxSteps := 10000000) only [go_sem, bM, bP, List.cons_append, List.nil_append, r3_1, h3_1, x0, x1, x2, x3, y0, y1, xl, cj, wj, wj', tl, ms_app0, mg_app0, Int.natCast_nonneg, brow_len]
            refine TriZ.of (((hs).embed [] rfl (by repeat' first | exact trivial | rfl | (simp only [go_sem]; done) | constructor) rfl (by first | rfl | simp only [go_sem]) rfl (by simp)).mono ?_)
            rintro _ _ ⟨_, _, ⟨rfl, rfl⟩, rfl, rfl⟩
            simp (maxSteps := 10000000) only [go_sem, bM, bP, List.cons_append, List.nil_append, r3_1, h3_1, x0, x1, x2, x3, y0, y1, xl, cj, wj, wj', tl, ms_app0, mg_app0, Int.natCast_nonneg, brow_len]
            subst hKK
            simp (maxSteps := 10000000) only [go_sem, bM, bP, List.cons_append, List.nil_append, r3_1, h3_1, x0, x1, x2, x3, y0, y1, xl, cj, wj, wj', tl, ms_app0, mg_app0, Int.natCast_nonneg, brow_len]
            exact ⟨2, by omega, by omega, rfl, _, rfl⟩
          · have ht := told_spec G2[T] (l2 _ (List.getElem_mem k2))
            have hs := same_spec G2[T] (l2 _ (List.getElem_mem k2))
            have x0 : rint X 2 0 = 2 := by rw [← hX]; rfl
            have x1 : rany X 2 1 = .vsl 4 (orows G2[T]) false := by rw [← hX]; rfl
            have x2 : hasI .i64 X 2 0 := by rw [← hX]; exact ⟨_, _, rfl, rfl⟩
            have x3 : hasA X 2 1 := by rw [← hX]; exact ⟨_, _, rfl, rfl⟩
            have y0 := brow_r k2
            have y1 := brow_h k2
            have cj : ((2 : Nat) : Int) = 2 := rfl
            have wj : iwrap .i64 (2 + 1) = ((3 : Nat) : Int) := rfl
            have wj' : iwrap .i64 (3 : Int) = ((3 : Nat) : Int) := rfl
            have tl : (T : Int) < (G2.length : Int) := by omega
            skip
            refine run_ok 4000 _ _ _ _ ?_
            simp (maxSteps := 10000000) only [go_sem, bM, bP, List.cons_append, List.nil_append, r3_2, h3_2, x0, x1, x2, x3, y0, y1, xl, cj, wj, wj', tl, ms_app0, mg_app0, Int.natCast_nonneg, brow_len]
            refine sem_drawG l3_0_ok (by kernel_rfl) ?_
            intro KK hKK
            simp (maxSteps := 10000000) only [go_sem, l3_0, bM, bP, List.cons_append, List.nil_append, r3_2, h3_2, x0, x1, x2, x3, y0, y1, xl, cj, wj, wj', tl, ms_app0, mg_app0, Int.natCast_nonneg, brow_len]
            refine TriZ.of (((ht).embed [] rfl (by repeat' first | exact trivial | rfl | (simp only [go_sem]; done) | constructor) rfl (by first | rfl | simp only [go_sem]) rfl (by simp)).mono ?_)
            rintro _ _ ⟨_, _, ⟨rfl, rfl⟩, rfl, rfl⟩
            simp (maxSteps := 10000000) only [go_sem, bM, bP, List.cons_append, List.nil_append, r3_2, h3_2, x0, x1, x2, x3, y0, y1, xl, cj, wj, wj', tl, ms_app0, mg_app0, Int.natCast_nonneg, brow_len]
            refine TriZ.of (((hs).embed [] rfl (by repeat' first | exact trivial | rfl | (simp only [go_sem]; done) | constructor) rfl (by first | rfl | simp only [go_sem]) rfl (by simp)).mono ?_)
            rintro _ _ ⟨_, _, ⟨rfl, rfl⟩, rfl, rfl⟩
            simp (maxSteps := 10000000) only [go_sem, bM, bP, List.cons_append, List.nil_append, r3_2, h3_2, x0, x1, x2, x3, y0, y1, xl, cj, wj, wj', tl, ms_app0, mg_app0, Int.natCast_nonneg, brow_len]
            subst hKK
            simp (maxSteps := 10000000) only [go_sem, bM, bP, List.cons_append, List.nil_append, r3_2, h3_2, x0, x1, x2, x3, y0, y1, xl, cj, wj, wj', tl, ms_app0, mg_app0, Int.natCast_nonneg, brow_len]
            exact ⟨3, by omega, by omega, rfl, _, rfl⟩
          · have w10 : iwrap .i64 ((T : Int) + 1) = ((T + 1 : Nat) : Int) := inc64 (by omega)
            have c3' : ((3 : Nat) : Int) = 3 := rfl
            skip
            refine run_ok 4000 _ _ _ _ ?_
            simp (maxSteps := 10000000) only [go_sem, w10, w9, c3']
            refine run_ok 4000 _ _ _ _ ?_
            simp (maxSteps := 10000000) only [go_sem, w10, w9, c3']
            refine ⟨⟨i + 1, T + 1, O1, F1, G0, G1, G2⟩, by simp only; omega, ⟨by simp only; omega, ⟨by simp only; omega, ⟨by simp only; omega, by simp only; omega, by simp only; omega⟩, ⟨by simp only; omega, by simp only; omega, by simp only; omega⟩, ⟨by simp only; omega, by simp only; omega, by simp only; omega⟩, l0, l1, l2, hok1⟩⟩, ?_, [], ?_⟩
            · simp [go_sem]
            · simp [bM, bP]
        · have hex : ∃ p ∈ [(0 : Int), 1, 2], gT T G0 G1 G2 p = [] := by
            by_cases k0 : T < G0.length
            · by_cases k1 : T < G1.length
              · exact ⟨2, by simp, by show G2.drop T = []; rw [List.drop_eq_nil_iff]; omega⟩
              · exact ⟨1, by simp, by show G1.drop T = []; rw [List.drop_eq_nil_iff]; omega⟩
            · exact ⟨0, by simp, by show G0.drop T = []; rw [List.drop_eq_nil_iff]; omega⟩
          have htn := tBehS (bP G0 G1 G2) hok (takeNo hok [0, 1, 2] true (by simp) hex) rfl rfl rfl
          by_cases k0 : T < G0.length
          · have g0 : (G0.length : Int) > (T : Int) := by omega
            by_cases k1 : T < G1.length
            · have g1 : (G1.length : Int) > (T : Int) := by omega
              have g2 : ¬ (G2.length : Int) > (T : Int) := by omega
              skip
              refine run_ok 4000 _ _ _ _ ?_
              simp (maxSteps := 10000000) only [go_sem, bM, bP, List.cons_append, List.nil_append, r3_0, r3_1, r3_2, h3_0, h3_1, h3_2, g0, g1, g2, bn_tt', bn_tf', bn_ff']
              refine sem_call rfl rfl (htn.mono ?_)
              rintro _ _ ⟨rfl, rfl⟩
              refine run_ok 4000 _ _ _ _ ?_
              simp (maxSteps := 10000000) only [go_sem, bM, bP, List.cons_append, List.nil_append, r3_0, r3_1, r3_2, h3_0, h3_1, h3_2, g0, g1, g2, bn_tt', bn_tf', bn_ff']
              refine sem_rounds0 (m := bM (T : Nat) O F G0 G1 G2) (fun _ : Unit => True) (fun _ => (14, .bool false) :: (104, .int .i64 0) :: (105, .int .i64 0) :: bS LL W i T) (fun _ => 0) ()
                (bM_ids hok.okO _ _ _) (by omega) (by intro k _; simp [idsT, ids, bM_len]; try omega) trivial (by simp [go_sem]) ?_
              intro _ _
              skip
              refine run_ok 4000 _ _ _ _ ?_
              simp (maxSteps := 10000000) only [go_sem, w9]
              refine run_ok 4000 _ _ _ _ ?_
              simp (maxSteps := 10000000) only [go_sem, w9]
              refine ⟨⟨i + 1, T, O, F, G0, G1, G2⟩, by simp only; omega, ⟨by simp only; omega, ⟨hTi, h0, h1, h2, l0, l1, l2, hok⟩⟩, ?_, [], ?_⟩
              · simp [go_sem]
              · simp [bM, bP]
            · have g1 : ¬ (G1.length : Int) > (T : Int) := by omega
              skip
              refine run_ok 4000 _ _ _ _ ?_
              simp (maxSteps := 10000000) only [go_sem, bM, bP, List.cons_append, List.nil_append, r3_0, r3_1, r3_2, h3_0, h3_1, h3_2, g0, g1, bn_tt', bn_tf', bn_ff']
              refine sem_call rfl rfl (htn.mono ?_)
              rintro _ _ ⟨rfl, rfl⟩
              refine run_ok 4000 _ _ _ _ ?_
              simp (maxSteps := 10000000) only [go_sem, bM, bP, List.cons_append, List.nil_append, r3_0, r3_1, r3_2, h3_0, h3_1, h3_2, g0, g1, bn_tt', bn_tf', bn_ff']
              refine sem_rounds0 (m := bM (T : Nat) O F G0 G1 G2) (fun _ : Unit => True) (fun _ => (14, .bool false) :: (104, .int .i64 0) :: (105, .int .i64 0) :: bS LL W i T) (fun _ => 0) ()
                (bM_ids hok.okO _ _ _) (by omega) (by intro k _; simp [idsT, ids, bM_len]; try omega) trivial (by simp [go_sem]) ?_
              intro _ _
              skip
              refine run_ok 4000 _ _ _ _ ?_
              simp (maxSteps := 10000000) only [go_sem, w9]
              refine run_ok 4000 _ _ _ _ ?_
              simp (maxSteps := 10000000) only [go_sem, w9]
              refine ⟨⟨i + 1, T, O, F, G0, G1, G2⟩, by simp only; omega, ⟨by simp only; omega, ⟨hTi, h0, h1, h2, l0, l1, l2, hok⟩⟩, ?_, [], ?_⟩
              · simp [go_sem]
              · simp [bM, bP]
          · have g0 : ¬ (G0.length : Int) > (T : Int) := by omega
            skip
            refine run_ok 4000 _ _ _ _ ?_
            simp (maxSteps := 10000000) only [go_sem, bM, bP, List.cons_append, List.nil_append, r3_0, r3_1, r3_2, h3_0, h3_1, h3_2, g0, bn_tt', bn_tf', bn_ff']
            refine sem_call rfl rfl (htn.mono ?_)
            rintro _ _ ⟨rfl, rfl⟩
            refine run_ok 4000 _ _ _ _ ?_
            simp (maxSteps := 10000000) only [go_sem, bM, bP, List.cons_append, List.nil_append, r3_0, r3_1, r3_2, h3_0, h3_1, h3_2, g0, bn_tt', bn_tf', bn_ff']
            refine sem_rounds0 (m := bM (T : Nat) O F G0 G1 G2) (fun _ : Unit => True) (fun _ => (14, .bool false) :: (104, .int .i64 0) :: (105, .int .i64 0) :: bS LL W i T) (fun _ => 0) ()
              (bM_ids hok.okO _ _ _) (by omega) (by intro k _; simp [idsT, ids, bM_len]; try omega) trivial (by simp [go_sem]) ?_
            intro _ _
            skip
            refine run_ok 4000 _ _ _ _ ?_
            simp (maxSteps := 10000000) only [go_sem, w9]
            refine run_ok 4000 _ _ _ _ ?_
            simp (maxSteps := 10000000) only [go_sem, w9]
            refine ⟨⟨i + 1, T, O, F, G0, G1, G2⟩, by simp only; omega, ⟨by simp only; omega, ⟨hTi, h0, h1, h2, l0, l1, l2, hok⟩⟩, ?_, [], ?_⟩
            · simp [go_sem]
            · simp [bM, bP]
      · have i3 : ¬ (i : Int) < 60 := by omega
        skip
        have hnx := tBehS (bP G0 G1 G2) hok (nextT (T : Int) O F) rfl rfl rfl
        refine run_ok 4000 _ _ _ _ ?_
        simp (maxSteps := 10000000) only [go_sem, brow_len, iv_len, i1, i2, i3]
        refine run_ok 4000 _ _ _ _ ?_
        simp (maxSteps := 10000000) only [go_sem, brow_len, iv_len, i1, i2, i3]
        refine sem_call rfl rfl (hnx.mono ?_)
        rintro _ _ ⟨rfl, rfl⟩
        skip
        refine run_ok 4000 _ _ _ _ ?_
        simp (maxSteps := 10000000) only [go_sem, beq_self_eq_true]
        refine ⟨_, [], .like (Like.bool true) (.sub [] ?_ .done), rfl⟩
        simp only [EmbV, go_sem]
    · have i2 : ¬ (i : Int) < (W.length : Int) := by omega
      skip
      have hnx := tBehS (bP G0 G1 G2) hok (nextT (T : Int) O F) rfl rfl rfl
      refine run_ok 4000 _ _ _ _ ?_
      simp (maxSteps := 10000000) only [go_sem, brow_len, iv_len, i1, i2]
      refine run_ok 4000 _ _ _ _ ?_
      simp (maxSteps := 10000000) only [go_sem, brow_len, iv_len, i1, i2]
      refine sem_call rfl rfl (hnx.mono ?_)
      rintro _ _ ⟨rfl, rfl⟩
      skip
      refine run_ok 4000 _ _ _ _ ?_
      simp (maxSteps := 10000000) only [go_sem, beq_self_eq_true]
      refine ⟨_, [], .like (Like.bool true) (.sub [] ?_ .done), rfl⟩
      simp only [EmbV, go_sem]
  · have i1 : ¬ (i : Int) < (LL.length : Int) := by omega
    skip
    have hnx := tBehS (bP G0 G1 G2) hok (nextT (T : Int) O F) rfl rfl rfl
    refine run_ok 4000 _ _ _ _ ?_
    simp (maxSteps := 10000000) only [go_sem, brow_len, iv_len, i1]
    refine run_ok 4000 _ _ _ _ ?_
    simp (maxSteps := 10000000) only [go_sem, brow_len, iv_len, i1]
    refine sem_call rfl rfl (hnx.mono ?_)
    rintro _ _ ⟨rfl, rfl⟩
    skip
    refine run_ok 4000 _ _ _ _ ?_
    simp (maxSteps := 10000000) only [go_sem, beq_self_eq_true]
    refine ⟨_, [], .like (Like.bool true) (.sub [] ?_ .done), rfl⟩
    simp only [EmbV, go_sem]
theorem batss_of {xs : List (List AV)} (h : ∀ x ∈ xs, HasL [.sl [.int .i64, .int .i64, .int .i64, .int .i64]] x) : ∃ G : Gs, xs = brow G := by
  induction xs with
  | nil => exact ⟨[], rfl⟩
  | cons x xs ih =>
    obtain ⟨G, rfl⟩ := ih fun y hy => h y (by simp [hy])
    obtain ⟨a, rfl, ha⟩ := Has.one (h x (by simp))
    simp only [Has] at ha
    obtain ⟨ys, rfl, hl, hy⟩ := ha
    obtain ⟨L, rfl⟩ := ords_of hy
    exact ⟨L :: G, rfl⟩
theorem cotillionBatches_spec (l : AV) (hl : Has (.sl [.sl [.int .i64, .int .i64, .int .i64, .int .i64]]) l) (W : List Int) (hW : ∀ x ∈ W, (Lit.int .i64 x).wf = true) :
    Tri Try.prog 3 [l, .vsl 1 (iv .i64 W) false] [] (fun v m => v = .bool true) := by
  simp only [Has] at hl
  obtain ⟨xs, rfl, hxl, hx⟩ := hl
  simp only [List.length_cons, List.length_nil]
  obtain ⟨G, rfl⟩ := batss_of hx
  exact batches_core G W
end Go.AEX
