/- The abstract evaluator: AEz in one. -/
import Derived.Test.YthdkobfafncpcaaDoorAEy
/- The abstract evaluator, part z: regions that draw their order: the evaluator is right. -/
namespace Go.AE
open Go
set_option linter.unusedVariables false
set_option linter.unusedSimpArgs false

variable {P : Program} {n k0 : Nat}

structure DOk (P : Program) (n : Nat) (ops : Array Oper) (r : List It) (T : List (Nat × Nat)) (ord0 : List (Nat × Bool)) (E : Nat → Nat → Bool) : Prop where
  it : ∀ i o, ops[i]? = some o → ∃ g d c, cOp P n ops i = some (.op g d c) ∧ ig r i = some (g, d, c, preds o)
  tok : Tok r T
  all : ∀ i, i < ops.size → ∃ s, (i, s) ∈ ord0
  ord : ∀ pre j s ord, ord0 = pre ++ (j, s) :: ord → ∃ it, ig r j = some it ∧ (∀ p ∈ it.2.2.2, ∃ x ∈ pre, x.1 = p) ∧ (s = true ∨ isQ it.2.2.1 = true) ∧ ∀ x ∈ pre, x.1 ≠ j ∧ (x.2 = true → E x.1 j = true ∨ inM T x.1 j = true)
  bnd : ∀ i it, ig r i = some it → i < ops.size
  low : ∀ i it, ig r i = some it → ∀ k ∈ rds it, k < 4000
  slots : ∀ x ∈ ord0, ∀ y ∈ ord0, ∀ g d o ps, ig r x.1 = some (g, some d, o, ps) → ∀ it, ig r y.1 = some it →
    (x.1 = y.1 → x.2 = true ∨ d ∉ rds it) ∧ (x.1 ≠ y.1 → it.2.1 ≠ some d ∧ (d ∈ rds it → inM T x.1 y.1 = true ∨ (x.2 = true ∧ inM T y.1 x.1 = true)))

theorem chkO_ok {r : List It} {T : List (Nat × Nat)} {E : Nat → Nat → Bool} : ∀ {ord pre0 : List (Nat × Bool)}, chkO r T E pre0 ord = true → ∀ pre j s rest, ord = pre ++ (j, s) :: rest →
    ∃ it, ig r j = some it ∧ (∀ p ∈ it.2.2.2, ∃ x ∈ pre0 ++ pre, x.1 = p) ∧ (s = true ∨ isQ it.2.2.1 = true) ∧ ∀ x ∈ pre0 ++ pre, x.1 ≠ j ∧ (x.2 = true → E x.1 j = true ∨ inM T x.1 j = true)
  | [], pre0, h, pre, j, s, rest, e => by cases pre <;> cases e
  | (k, b) :: ord, pre0, h, pre, j, s, rest, e => by
    simp only [chkO, Bool.and_eq_true] at h
    obtain ⟨⟨h1, h2⟩, h3⟩ := h
    cases pre with
    | nil =>
      simp only [List.nil_append, List.cons.injEq, Prod.mk.injEq] at e
      obtain ⟨⟨rfl, rfl⟩, rfl⟩ := e
      cases hit : ig r k with
      | none => rw [hit] at h1; cases h1
      | some it =>
        rw [hit] at h1
        simp only [Bool.and_eq_true, Bool.or_eq_true, List.all_eq_true, List.any_eq_true] at h1
        refine ⟨it, rfl, fun p hp => ?_, h1.2, fun x hx => ?_⟩
        · obtain ⟨x, hx, hxp⟩ := h1.1 p hp
          exact ⟨x, by simpa using hx, Nat.eq_of_beq_eq_true hxp⟩
        · have := List.all_eq_true.1 h2 x (by simpa using hx)
          simp only [Bool.and_eq_true, Bool.or_eq_true, Bool.not_eq_true'] at this
          refine ⟨fun e => ?_, fun e => ?_⟩
          · have h' := this.1; rw [e] at h'; simp [Nat.beq_refl] at h'
          · rcases this.2 with h' | h'
            · rw [e] at h'; cases h'
            · exact h'
    | cons y pre =>
      simp only [List.cons_append, List.cons.injEq] at e
      obtain ⟨rfl, e⟩ := e
      have := chkO_ok h3 pre j s rest e
      simpa using this
theorem okDraw_ok {ops : Array Oper} {r : List It} {ord : List (Nat × Bool)} (hr : cDraw P n ops (List.range ops.size) = some r) {E : Nat → Nat → Bool} (h : okDrawE r ord E = true) : DOk P n ops r (tbl r ord []) ord E := by
  have key : ∀ (is : List Nat) (r : List It), cDraw P n ops is = some r → r.length = is.length ∧ ∀ (k i : Nat), is[k]? = some i → ∃ o g d c, ops[i]? = some o ∧ cOp P n ops i = some (.op g d c) ∧ r[k]? = some (g, d, c, preds o) := by
    intro is
    induction is with
    | nil => intro r h; simp [cDraw] at h; subst h; simp
    | cons j is ih =>
      intro r h
      simp only [cDraw] at h
      split at h
      · rename_i o g d c cs ho hc hcs
        cases h
        obtain ⟨h1, h2⟩ := ih cs hcs
        refine ⟨by simp [h1], fun k i hk => ?_⟩
        cases k with
        | zero => simp at hk; subst hk; exact ⟨o, g, d, c, ho, hc, by simp⟩
        | succ k => simp at hk; obtain ⟨o, g, d, c, q1, q2, q3⟩ := h2 k i hk; exact ⟨o, g, d, c, q1, q2, by simpa using q3⟩
      · cases h
  obtain ⟨hl, hk⟩ := key _ r hr
  simp only [List.length_range] at hl
  simp only [okDrawE, Bool.and_eq_true] at h
  obtain ⟨⟨⟨h1, h2⟩, h3⟩, h4⟩ := h
  refine ⟨fun i o ho => ?_, tbl_ok (tok_nil r), fun i hi => ?_, fun pre j s rest e => ?_, fun i it hit => ?_, fun i it hit k hk => ?_, fun x hx y hy g d o ps hxi it hyi => ?_⟩
  · have hlt : i < ops.size := (Array.getElem?_eq_some_iff.1 ho).1
    obtain ⟨o', g, d, c, q1, q2, q3⟩ := hk i i (by simp [hlt])
    rw [ho] at q1; cases q1
    exact ⟨g, d, c, q2, by rw [ig_eq]; exact q3⟩
  · have := List.all_eq_true.1 h1 i (by simp [hl, hi])
    obtain ⟨x, hx, hxi⟩ := List.any_eq_true.1 this
    have := Nat.eq_of_beq_eq_true hxi
    subst this
    exact ⟨x.2, hx⟩
  · have := chkO_ok h2 pre j s rest e
    simpa using this
  · rw [ig_eq] at hit
    have := (List.getElem?_eq_some_iff.1 hit).1
    omega
  · have := List.all_eq_true.1 (List.all_eq_true.1 h4 it (by rw [ig_eq] at hit; exact List.mem_of_getElem? hit)) k hk
    exact Nat.le_of_ble_eq_true this
  · have hx' := List.all_eq_true.1 h3 x hx
    rw [hxi] at hx'
    have hy' := List.all_eq_true.1 hx' y hy
    simp only [hyi] at hy'
    refine ⟨fun e => ?_, fun e => ?_⟩
    · have : Nat.beq x.1 y.1 = true := by rw [e]; exact Nat.beq_refl _
      rw [this] at hy'
      simp only [cond_true, Bool.or_eq_true, Bool.not_eq_true'] at hy'
      refine hy'.imp id fun h hd => ?_
      rw [List.contains_iff_mem.2 hd] at h; cases h
    · have : Nat.beq x.1 y.1 = false := by
        cases hb : Nat.beq x.1 y.1 with
        | false => rfl
        | true => exact absurd (Nat.eq_of_beq_eq_true hb) e
      rw [this] at hy'
      simp only [cond_false, Bool.and_eq_true, Bool.or_eq_true, Bool.not_eq_true'] at hy'
      refine ⟨fun e => ?_, fun hd => ?_⟩
      · rw [e] at hy'; simp at hy'
      · rcases hy'.2 with (h | h) | h
        · rw [List.contains_iff_mem.2 hd] at h; cases h
        · exact .inl h
        · exact .inr h

theorem asB_VR {φ : Fz} {σ : Sg} {v : AV} {x : Value} (h : VR φ σ (asB v) x) : VR φ σ v x := by
  cases v <;> first | exact h | (cases h; exact .bsym)
theorem VR.like {φ : Fz} {σ : Sg} {u v : AV} {x : Value} (h : VR φ σ v x) (e : AE.asB u = AE.asB v) : VR φ σ u x := asB_VR (by rw [e]; exact h.asB)

section
open Classical
def Bad (r : List It) (lag : List (Nat × AV)) (listed : Array Bool) (k : Nat) : Prop := ∃ l v, (l, v) ∈ lag ∧ listed.getD l false = false ∧ ∃ g o ps, ig r l = some (g, some k, o, ps)
noncomputable def vis (r : List It) (lag : List (Nat × AV)) (listed : Array Bool) (t : Tr) : Tr := t.flt fun k => !decide (Bad r lag listed k)
theorem vis_get {r : List It} {lag : List (Nat × AV)} {listed : Array Bool} {t : Tr} {k : Nat} (h : ¬ Bad r lag listed k) : (vis r lag listed t).get k = t.get k := by
  simp [vis, Tr.flt_get, h]
theorem vis_some {r : List It} {lag : List (Nat × AV)} {listed : Array Bool} {t : Tr} {k : Nat} {v : AV} (h : (vis r lag listed t).get k = some v) : ¬ Bad r lag listed k ∧ t.get k = some v := by
  simp only [vis, Tr.flt_get] at h
  by_cases hb : Bad r lag listed k
  · simp [hb] at h
  · simp [hb] at h; exact ⟨hb, h⟩
end

structure DS (r : List It) (A : Anch) (n k0 : Nat) (ord0 : List (Nat × Bool)) (listed : Array Bool) (pre ord : List (Nat × Bool)) (lag : List (Nat × AV)) (t : Tr) (m : Mem) (φ : Fz) (σ : Sg) (a : Act) (w : World) : Prop where
  split : ord0 = pre ++ ord
  re : Re r lag t m
  unl : ∀ x ∈ ord, listed.getD x.1 false = false
  lagd : ∀ x ∈ pre, listed.getD x.1 false = false → x.2 = false ∧ ∃ v, (x.1, v) ∈ lag
  laq : ∀ l v, (l, v) ∈ lag → (l, false) ∈ pre
  lav : ∀ l v, (l, v) ∈ lag → ∀ g d o ps, ig r l = some (g, some d, o, ps) → ∀ u, t.get d = some u → asB u = asB v
  dc : DC r fun i => listed.getD i false = true
  good : Good A n k0 φ σ m w (vis r lag listed t) a

theorem Good.retr {A : Anch} {φ : Fz} {σ : Sg} {m : Mem} {w : World} {t t' : Tr} {a : Act} (h : Good A n k0 φ σ m w t a) (ht : TR φ σ t' a.tmps) : Good A n k0 φ σ m w t' a :=
  ⟨h.fz, h.sg, h.inv, ht, h.sz, h.df, h.grow, h.kept, h.own, h.len, h.ice, h.env⟩

theorem listed_set {listed : Array Bool} {i j : Nat} : (listed.setIfInBounds i true).getD j false = true ↔ (listed.getD j false = true ∨ (i = j ∧ i < listed.size)) := by
  by_cases hij : i = j
  · subst hij
    rcases Nat.lt_or_ge i listed.size with h' | h'
    · simp [h']
    · have : ¬ i < listed.size := by omega
      simp [this]
  · rw [getD_set_ne false hij]; simp [hij]

theorem lk_reads {o : O} {i : Nat} {g : Option (Nat × Bool)} {d : Option Nat} {ps : List Nat} (h : Opd.t i ∈ opr o) : i ∈ rds (g, d, o, ps) :=
  List.mem_append_right _ (List.mem_filterMap.2 ⟨_, h, rfl⟩)
theorem ev_same {t t' : Tr} {o : O} {g : Option (Nat × Bool)} {d : Option Nat} {ps : List Nat} (h : ∀ k ∈ rds (g, d, o, ps), t.get k = t'.get k) : ∀ x ∈ opr o, ev t x = ev t' x := by
  intro x hx
  cases x with
  | t i => exact h i (lk_reads hx)
  | c v => rfl
theorem gk_same {t t' : Tr} {o : O} {g : Option (Nat × Bool)} {d : Option Nat} {ps : List Nat} (h : ∀ k ∈ rds (g, d, o, ps), t.get k = t'.get k) : gk t g = gk t' g := by
  cases g with
  | none => rfl
  | some x => obtain ⟨j, w⟩ := x; simp only [gk]; rw [h j (by simp [rds])]
theorem Step1_congr {o : O} {t t' : Tr} {m : Mem} {K : AV → Mem → Prop} (h : ∀ x ∈ opr o, ev t x = ev t' x) (hs : Step1 P n o t m K) : Step1 P n o t' m K := by
  cases o with
  | call f xs => obtain ⟨args, h1, h2⟩ := hs; exact ⟨args, by rw [← evs_congr (xs := xs) h]; exact h1, h2⟩
  | callv x xs =>
    obtain ⟨f, fs, cp, args, h1, h2, h3⟩ := hs
    exact ⟨f, fs, cp, args, by rw [← h x (by simp [opr])]; exact h1, by rw [← evs_congr (xs := xs) fun y hy => h y (by simp [opr, hy])]; exact h2, h3⟩
  | _ => obtain ⟨p, v, m', h1, h2⟩ := hs; exact ⟨p, v, m', by rw [← ao_congr h]; exact h1, h2⟩
theorem Rv_congr {r : List It} {l : Nat} {v : AV} {t t' : Tr} {m : Mem} (h : ∀ it, ig r l = some it → ∀ k ∈ rds it, t.get k = t'.get k) (hs : Rv r l v t m) : Rv r l v t' m := by
  unfold Rv at *
  split at hs
  · rename_i g d o ps hit
    have h' := h _ hit
    rw [gk_same h', ao_congr (ev_same h')] at hs
    exact hs
  · exact hs

theorem sp_get {d : Option Nat} {t : Tr} {v : AV} {k : Nat} {u : AV} (h : (sp d t v).get k = some u) : (d = some k ∧ u = v) ∨ (d ≠ some k ∧ t.get k = some u) := by
  cases d with
  | none => exact .inr ⟨by simp, h⟩
  | some i =>
    rcases Tr.get_put _ _ _ _ _ _ h with ⟨rfl, e⟩ | ⟨hne, e⟩
    · cases e; exact .inl ⟨rfl, rfl⟩
    · exact .inr ⟨fun e' => hne (by cases e'; rfl), e⟩
theorem put_ne : ∀ (f : Nat) (t : Tr) (i : Nat) (x : Option AV) (j : Nat), j ≠ i → j + 1 < 2 ^ f → (Tr.put f t i x).get j = t.get j
  | 0, t, i, x, j, h, hj => by simp at hj
  | f + 1, .lf, 0, x, 0, h, hj => absurd rfl h
  | f + 1, .lf, 0, x, j + 1, h, hj => by
    simp only [Tr.put, Tr.get]
    cases (j % 2 == 0) <;> rfl
  | f + 1, .lf, i + 1, x, 0, h, hj => by
    simp only [Tr.put]
    cases (i % 2 == 0) <;> rfl
  | f + 1, .lf, i + 1, x, j + 1, h, hj => by
    have h2 : j / 2 + 1 < 2 ^ f := by rw [Nat.pow_succ] at hj; omega
    simp only [Tr.put]
    cases hi : (i % 2 == 0) <;> simp only [cond_true, cond_false, Tr.get] <;> cases hj' : (j % 2 == 0) <;> simp only [cond_true, cond_false, Tr.get]
    · rw [put_ne f .lf _ x _ (fun e => h (by rw [Tr.half e (by rw [hi, hj'])])) h2]; rfl
    · rw [put_ne f .lf _ x _ (fun e => h (by rw [Tr.half e (by rw [hi, hj'])])) h2]; rfl
  | f + 1, .nd l u r, 0, x, 0, h, hj => absurd rfl h
  | f + 1, .nd l u r, 0, x, j + 1, h, hj => rfl
  | f + 1, .nd l u r, i + 1, x, 0, h, hj => by
    simp only [Tr.put]
    cases (i % 2 == 0) <;> rfl
  | f + 1, .nd l u r, i + 1, x, j + 1, h, hj => by
    have h2 : j / 2 + 1 < 2 ^ f := by rw [Nat.pow_succ] at hj; omega
    simp only [Tr.put]
    cases hi : (i % 2 == 0) <;> simp only [cond_true, cond_false, Tr.get] <;> cases hj' : (j % 2 == 0) <;> simp only [cond_true, cond_false, Tr.get]
    · rw [put_ne f _ _ x _ (fun e => h (by rw [Tr.half e (by rw [hi, hj'])])) h2]
    · rw [put_ne f _ _ x _ (fun e => h (by rw [Tr.half e (by rw [hi, hj'])])) h2]
theorem sp_ne {d : Option Nat} {t : Tr} {v : AV} {k : Nat} (h : d ≠ some k) (hk : k < 4000) : (sp d t v).get k = t.get k := by
  cases d with
  | none => rfl
  | some i => exact put_ne 12 t i _ k (fun e => h (by rw [e])) (by omega)

section
variable {ops : Array Oper} {r : List It} {T : List (Nat × Nat)} {ord0 : List (Nat × Bool)} {A : Anch} {listed : Array Bool} {pre ord : List (Nat × Bool)} {lag : List (Nat × AV)} {t : Tr} {m : Mem} {φ : Fz} {σ : Sg} {a : Act} {w : World}

theorem pre_dc {E : Nat → Nat → Bool} (H : DOk P n ops r T ord0 E) : ∀ (pre ord : List (Nat × Bool)), ord0 = pre ++ ord → DC r fun i => ∃ x ∈ pre, x.1 = i := by
  intro pre ord e j it ⟨x, hx, hxj⟩ hit p hp
  obtain ⟨p1, p2, rfl⟩ := List.append_of_mem hx
  obtain ⟨it', h1, h2, _⟩ := H.ord p1 x.1 x.2 (p2 ++ ord) (by rw [e]; simp)
  rw [hxj, hit] at h1; cases h1
  obtain ⟨y, hy, hyp⟩ := h2 p hp
  exact ⟨y, by simp [hy], hyp⟩
theorem not_needed {E : Nat → Nat → Bool} (H : DOk P n ops r T ord0 E) {j : Nat} {s : Bool} (e : ord0 = pre ++ (j, s) :: ord) {l : Nat} {b : Bool} (hl : (l, b) ∈ pre) : inM T j l = false := by
  cases h : inM T j l with
  | false => rfl
  | true =>
    obtain ⟨x, hx, hxj⟩ := H.tok _ (pre_dc H pre _ e) l j h fun it hit p hp => pre_dc H pre _ e l it ⟨_, hl, rfl⟩ hit p hp
    obtain ⟨_, _, _, _, h4⟩ := H.ord pre j s ord e
    exact absurd hxj (h4 x hx).1
theorem not_bad {E : Nat → Nat → Bool} (H : DOk P n ops r T ord0 E) (D : DS r A n k0 ord0 listed pre ord lag t m φ σ a w) {i : Nat} {s : Bool} {it : It} (hi : (i, s) ∈ ord0) (hit : ig r i = some it) (hp : ∀ p ∈ it.2.2.2, listed.getD p false = true) {k : Nat} (hk : k ∈ rds it) :
    ¬ Bad r lag listed k := by
  rintro ⟨l, v, hl, hu, g, o, ps, hlt⟩
  have hlo : (l, false) ∈ ord0 := by rw [D.split]; exact List.mem_append_left _ (D.laq l v hl)
  have hs := H.slots (l, false) hlo (i, s) hi g k o ps hlt it hit
  by_cases e : l = i
  · rcases hs.1 e with h | h
    · cases h
    · exact h hk
  · rcases (hs.2 e).2 hk with h | ⟨h, _⟩
    · have := H.tok _ D.dc i l h fun it' hit' p hp' => by rw [hit] at hit'; cases hit'; exact hp p hp'
      rw [hu] at this; cases this
    · cases h
theorem exec_pre {E : Nat → Nat → Bool} (H : DOk P n ops r T ord0 E) (D : DS r A n k0 ord0 listed pre ord lag t m φ σ a w) {i : Nat} {Q : Exit → Act → World → Prop} {KK : Act → World → Prop} (hlt : i < listed.size)
    (hpre : (i, false) ∈ pre) {v : AV} (hv : (i, v) ∈ lag) {g : Option (Nat × Bool)} {d : Option Nat} {c : O} {ps : List Nat} (hc : cOp P n ops i = some (.op g d c)) (hit : ig r i = some (g, d, c, ps)) (hun : listed.getD i false = false)
    (hp : ∀ p ∈ ps, listed.getD p false = true)
    (K : ∀ φ σ a w, DS r A n k0 ord0 (listed.setIfInBounds i true) pre ord lag t m φ σ a w → KK a w) : wpOp P ops Q i KK a w := by
  have hio : (i, false) ∈ ord0 := by rw [D.split]; exact List.mem_append_left _ hpre
  have hsame : ∀ k ∈ rds (g, d, c, ps), t.get k = (vis r lag listed t).get k := fun k hk => (vis_get (not_bad H D hio hit hp hk)).symm
  have hd : ∀ k, d = some k → k < n := by obtain ⟨o0, g', x, ho, hgd, hx, e, hd⟩ := cOp_inv hc; cases e; exact hd
  have done : ∀ φ' σ' u v' w', Stp φ σ m w φ' σ' m w' → VR φ' σ' u v' → asB u = asB v → KK (a.put d v') w' := by
    intro φ' σ' u v' w' hst hvr he
    have hG := D.good.put hst hd hvr
    refine K φ' σ' _ w' ⟨D.split, D.re, fun x hx => ?_, fun x hx hxu => ?_, D.laq, D.lav, fun j it hj hjt p hpj => ?_, hG.retr fun k u' hk => ?_⟩
    · have h1 := D.unl x hx
      cases hxl : (listed.setIfInBounds i true).getD x.1 false with
      | false => rfl
      | true =>
        rcases listed_set.1 hxl with h | ⟨h, _⟩
        · rw [h1] at h; cases h
        · obtain ⟨p1, p2, he'⟩ := List.append_of_mem hx
          obtain ⟨_, _, _, _, h4⟩ := H.ord (pre ++ p1) x.1 x.2 p2 (by rw [D.split, he']; simp)
          exact absurd h (h4 (i, false) (by simp [hpre])).1
    · refine D.lagd x hx ?_
      cases hxl : listed.getD x.1 false with
      | false => rfl
      | true => rw [listed_set.2 (.inl hxl)] at hxu; cases hxu
    · rcases listed_set.1 hj with h | ⟨h, _⟩
      · exact listed_set.2 (.inl (D.dc j it h hjt p hpj))
      · subst h; rw [hit] at hjt; cases hjt; exact listed_set.2 (.inl (hp p hpj))
    · obtain ⟨hnb, hk'⟩ := vis_some hk
      by_cases hdk : d = some k
      · subst hdk
        have hkl : k < a.tmps.size := by rw [D.good.sz]; exact hd k rfl
        exact ⟨v', by simp [Act.put, hkl], hvr.like (by rw [D.lav i v hv g k c ps hit u' hk', he])⟩
      · have : ¬ Bad r lag listed k := by
          rintro ⟨l, v2, hl, hu, g2, o2, ps2, hl2⟩
          refine hnb ⟨l, v2, hl, ?_, g2, o2, ps2, hl2⟩
          cases hxl : (listed.setIfInBounds i true).getD l false with
          | false => rfl
          | true =>
            rcases listed_set.1 hxl with h | ⟨h, _⟩
            · rw [hu] at h; cases h
            · subst h; rw [hit] at hl2; cases hl2; exact absurd rfl hdk
        obtain ⟨v2, h1, h2⟩ := D.good.tr k u' (by rw [vis_get this]; exact hk')
        refine ⟨v2, ?_, h2.mono hst.fz hst.sg⟩
        cases d with
        | none => exact h1
        | some d0 => simp only [Act.put]; rw [Array.getElem?_setIfInBounds_ne (fun e => hdk (by rw [e]))]; exact h1
  have hR := Re_mem D.re hv
  unfold Rv at hR
  rw [hit] at hR
  simp only at hR
  cases hg : gk t g with
  | no =>
    rw [hg] at hR
    exact wpOp_skip hc (gk_gok.2 (by rw [← gk_same hsame]; exact hg)) D.good (done φ σ (.tup []) undef w (.refl D.good.inv) (.tup .nil) (by rw [hR]; rfl))
  | yes =>
    rw [hg] at hR
    simp only at hR
    cases he : ao c t m with
    | none => rw [he] at hR; exact hR.elim
    | some x =>
      obtain ⟨p, v', m'⟩ := x
      rw [he] at hR
      obtain ⟨hp', he'⟩ := hR
      have hq : isQ c = true := by
        obtain ⟨p1, p2, e⟩ := List.append_of_mem hio
        obtain ⟨it', q1, _, q3, _⟩ := H.ord p1 i false p2 e
        rw [hit] at q1; cases q1
        exact q3.resolve_left (by simp)
      have hm := isQ_mem hq he
      subst hm
      have he2 : ao c (vis r lag listed t) m' = some (p, v', m') := by rw [← ao_congr (ev_same hsame)]; exact he
      refine wpOp_step (K := fun v2 m2 => v2 = v' ∧ m2 = m') hc (gk_gok.1 (by rw [← gk_same hsame]; exact hg)) D.good ?_ ?_
      · have : ∀ o, isQ o = true → ao o (vis r lag listed t) m' = some (p, v', m') → Step1 P n o (vis r lag listed t) m' (fun v2 m2 => v2 = v' ∧ m2 = m') := by
          intro o hqo hao
          cases o <;> first | (cases hqo; done) | exact ⟨p, v', m', hao, hp', rfl, rfl⟩
        exact this c hq he2
      · rintro φ' σ' v2 x m2 w' ⟨rfl, rfl⟩ hst hvr
        exact done φ' σ' v2 x w' hst hvr he'
  | stuck => rw [hg] at hR; exact hR.elim
  | fork j q b => rw [hg] at hR; exact hR.elim

theorem DS.fork (D : DS r A n k0 ord0 listed pre ord lag t m φ σ a w) {j : Nat} {q b : Bool} (hj : t.get j = some (.bsym q)) (hq : q = b) (hre : Re r lag (t.set j (.bool b)) m) :
    DS r A n k0 ord0 listed pre ord lag (t.set j (.bool b)) m φ σ a w := by
  subst hq
  have key : ∀ k u, (t.set j (.bool q)).get k = some u → ∃ u0, t.get k = some u0 ∧ asB u0 = asB u := by
    intro k u hk
    rcases Tr.get_put _ _ _ _ _ _ hk with ⟨rfl, e⟩ | ⟨hne, e⟩
    · cases e; exact ⟨_, hj, rfl⟩
    · exact ⟨u, e, rfl⟩
  refine ⟨D.split, hre, D.unl, D.lagd, D.laq, fun l v hl g d o ps hlt u hu => ?_, D.dc, D.good.retr fun k u hk => ?_⟩
  · obtain ⟨u0, h1, h2⟩ := key d u hu
    rw [← h2]; exact D.lav l v hl g d o ps hlt u0 h1
  · obtain ⟨hnb, hk'⟩ := vis_some hk
    obtain ⟨u0, h1, h2⟩ := key k u hk'
    obtain ⟨x, h3, h4⟩ := D.good.tr k u0 (by rw [vis_get hnb]; exact h1)
    exact ⟨x, h3, h4.like h2.symm⟩
theorem gk_fork {t : Tr} {g : Option (Nat × Bool)} {j : Nat} {q b : Bool} (h : gk t g = .fork j q b) : g = some (j, b) ∧ t.get j = some (.bsym q) := by
  cases g with
  | none => cases h
  | some x =>
    obtain ⟨j', w'⟩ := x
    simp only [gk] at h
    cases hj : t.get j' with
    | none => rw [hj] at h; cases h
    | some v =>
      rw [hj] at h
      cases v with
      | bool b' => cases b' <;> cases w' <;> cases h
      | bsym q' => cases h; exact ⟨rfl, hj⟩
      | _ => cases h
theorem DX_head {K : Tr → Mem → Prop} {i : Nat} {s : Bool} (D : DS r A n k0 ord0 listed pre ord lag t m φ σ a w) {ord' : List (Nat × Bool)} (h : DX P r K ((i, s) :: ord') lag t m) {g : Option (Nat × Bool)} {d : Option Nat} {c : O} {ps : List Nat} (hit : ig r i = some (g, d, c, ps)) :
    ∃ t', DS r A n k0 ord0 listed pre ord lag t' m φ σ a w ∧ ((gk t' g = .yes ∧ goW P r i s d c ps lag t' m (DX P r K ord')) ∨ (gk t' g = .no ∧ skipW r i s d ps lag t' m (DX P r K ord'))) := by
  simp only [DX, hit] at h
  cases hg : gk t g with
  | stuck => rw [hg] at h; exact h.elim
  | yes => rw [hg] at h; exact ⟨t, D, .inl ⟨hg, h⟩⟩
  | no => rw [hg] at h; exact ⟨t, D, .inr ⟨hg, h⟩⟩
  | fork j q b =>
    rw [hg] at h
    obtain ⟨hlt, h1, h2⟩ := h
    obtain ⟨rfl, hj⟩ := gk_fork hg
    have hjl : j + 1 < 2 ^ 12 := by have := Nat.le_of_ble_eq_true hlt; omega
    cases q with
    | true =>
      obtain ⟨hre, h⟩ := h1 rfl
      refine ⟨_, D.fork hj rfl hre, ?_⟩
      have e : (t.set j (.bool true)).get j = some (.bool true) := Tr.put_get 12 t j _ hjl
      cases b with
      | true => exact .inl ⟨by simp only [gk, e], h⟩
      | false => exact .inr ⟨by simp only [gk, e], h⟩
    | false =>
      obtain ⟨hre, h⟩ := h2 rfl
      refine ⟨_, D.fork hj rfl hre, ?_⟩
      have e : (t.set j (.bool false)).get j = some (.bool false) := Tr.put_get 12 t j _ hjl
      cases b with
      | true => exact .inr ⟨by simp only [gk, e], h⟩
      | false => exact .inl ⟨by simp only [gk, e], h⟩

theorem DS.tell {E : Nat → Nat → Bool} (H : DOk P n ops r T ord0 E) {j : Nat} (D : DS r A n k0 ord0 listed pre ((j, false) :: ord) lag t m φ σ a w) {g : Option (Nat × Bool)} {d : Option Nat} {c : O} {ps : List Nat} (hit : ig r j = some (g, d, c, ps)) {v : AV}
    (hR : Rv r j v t m) : DS r A n k0 ord0 listed (pre ++ [(j, false)]) ord ((j, v) :: lag) (sp d t v) m φ σ a w := by
  have hjo : (j, false) ∈ ord0 := by rw [D.split]; simp
  have keep : ∀ l u, (l, u) ∈ lag → ∀ it, ig r l = some it → ∀ k ∈ rds it, t.get k = (sp d t v).get k := by
    intro l u hl it hlt k hk
    refine (sp_ne ?_ (H.low l it hlt k hk)).symm
    rintro rfl
    have hlp := D.laq l u hl
    have hs := (H.slots (j, false) hjo (l, false) (by rw [D.split]; simp [hlp]) g k c ps hit it hlt)
    have hne : j ≠ l := by
      rintro rfl
      obtain ⟨_, _, _, _, h4⟩ := H.ord pre j false ord D.split
      exact (h4 _ hlp).1 rfl
    rcases (hs.2 hne).2 hk with h | ⟨h, _⟩
    · rw [not_needed H D.split hlp] at h; cases h
    · cases h
  have keepj : ∀ it, ig r j = some it → ∀ k ∈ rds it, t.get k = (sp d t v).get k := by
    intro it hlt k hk
    refine (sp_ne ?_ (H.low j it hlt k hk)).symm
    rintro rfl
    rcases (H.slots (j, false) hjo (j, false) hjo g k c ps hit it hlt).1 rfl with h | h
    · cases h
    · exact h hk
  have reAll : ∀ lag' : List (Nat × AV), (∀ x ∈ lag', x ∈ lag) → Re r lag' t m → Re r lag' (sp d t v) m := by
    intro lag'
    induction lag' with
    | nil => intro _ h; exact h
    | cons x lag' ih =>
      obtain ⟨l, u⟩ := x
      intro hsub h
      exact ⟨Rv_congr (keep l u (hsub _ (by simp))) h.1, ih (fun y hy => hsub y (by simp [hy])) h.2⟩
  refine ⟨by rw [D.split]; simp, ⟨Rv_congr keepj hR, reAll lag (fun _ h => h) D.re⟩, fun x hx => D.unl x (by simp [hx]), fun x hx hxu => ?_, fun l u hl => ?_, fun l u hl g2 d2 o2 ps2 hl2 u2 hu2 => ?_, D.dc, D.good.retr fun k u hk => ?_⟩
  · rcases List.mem_append.1 hx with hx | hx
    · obtain ⟨h1, v2, h2⟩ := D.lagd x hx hxu
      exact ⟨h1, v2, List.mem_cons_of_mem _ h2⟩
    · simp at hx; subst hx; exact ⟨rfl, v, by simp⟩
  · rcases List.mem_cons.1 hl with h | h
    · cases h; simp
    · exact List.mem_append_left _ (D.laq l u h)
  · rcases List.mem_cons.1 hl with h | h
    · cases h
      rw [hit] at hl2; cases hl2
      rcases sp_get hu2 with ⟨_, e⟩ | ⟨e, _⟩
      · rw [e]
      · exact absurd rfl e
    · rcases sp_get hu2 with ⟨e, _⟩ | ⟨_, e⟩
      · subst e
        have hlp := D.laq l u h
        have hne : j ≠ l := by
          rintro rfl
          obtain ⟨_, _, _, _, h4⟩ := H.ord pre j false ord D.split
          exact (h4 _ hlp).1 rfl
        exact absurd rfl (((H.slots (j, false) hjo (l, false) (by rw [D.split]; simp [hlp]) g d2 c ps hit _ hl2).2 hne).1)
      · exact D.lav l u h g2 d2 o2 ps2 hl2 u2 e
  · obtain ⟨hnb, hk'⟩ := vis_some hk
    have hju : listed.getD j false = false := D.unl (j, false) (by simp)
    rcases sp_get hk' with ⟨e, _⟩ | ⟨_, e⟩
    · subst e
      exact absurd ⟨j, v, by simp, hju, g, c, ps, hit⟩ hnb
    · have : ¬ Bad r lag listed k := fun ⟨l, v2, hl, hu, hx⟩ => hnb ⟨l, v2, List.mem_cons_of_mem _ hl, hu, hx⟩
      exact D.good.tr k u (by rw [vis_get this]; exact e)

theorem DS.come {E : Nat → Nat → Bool} (H : DOk P n ops r T ord0 E) {j : Nat} (D : DS r A n k0 ord0 listed pre ((j, true) :: ord) lag t m φ σ a w) {g : Option (Nat × Bool)} {d : Option Nat} {c : O} {ps : List Nat} (hit : ig r j = some (g, d, c, ps)) (hlt : j < listed.size)
    (hp : ∀ p ∈ ps, listed.getD p false = true) (hd : ∀ k, d = some k → k < n) {φ' : Fz} {σ' : Sg} {m' : Mem} {w' : World} {v : AV} {v' : Value} (hst : Stp φ σ m w φ' σ' m' w') (hvr : VR φ' σ' v v') (hre : Re r (drp ps lag) (sp d t v) m') :
    DS r A n k0 ord0 (listed.setIfInBounds j true) (pre ++ [(j, true)]) ord (drp ps lag) (sp d t v) m' φ' σ' (a.put d v') w' := by
  have hjo : (j, true) ∈ ord0 := by rw [D.split]; simp
  have hsub : ∀ {l : Nat} {u : AV}, (l, u) ∈ drp ps lag → (l, u) ∈ lag := by
    intro l u
    clear hre D
    induction lag with
    | nil => intro h; cases h
    | cons x lag ih =>
      obtain ⟨l', u'⟩ := x
      intro h
      simp only [drp] at h
      cases hh : hasN ps l' with
      | true => rw [hh] at h; exact List.mem_cons_of_mem _ (ih h)
      | false =>
        rw [hh] at h
        rcases List.mem_cons.1 h with h | h
        · rw [h]; simp
        · exact List.mem_cons_of_mem _ (ih h)
  have hne : ∀ {l : Nat} {b : Bool}, (l, b) ∈ pre → j ≠ l := by
    rintro l b hl rfl
    obtain ⟨_, _, _, _, h4⟩ := H.ord pre j true ord D.split
    exact (h4 _ hl).1 rfl
  refine ⟨by rw [D.split]; simp, hre, fun x hx => ?_, fun x hx hxu => ?_, fun l u hl => List.mem_append_left _ (D.laq l u (hsub hl)), fun l u hl g2 d2 o2 ps2 hl2 u2 hu2 => ?_, fun i it hi hit' p hpi => ?_, (D.good.put hst hd hvr).retr fun k u hk => ?_⟩
  · have h1 := D.unl x (by simp [hx])
    cases hxl : (listed.setIfInBounds j true).getD x.1 false with
    | false => rfl
    | true =>
      rcases listed_set.1 hxl with h | ⟨h, _⟩
      · rw [h1] at h; cases h
      · obtain ⟨p1, p2, he'⟩ := List.append_of_mem hx
        obtain ⟨_, _, _, _, h4⟩ := H.ord (pre ++ (j, true) :: p1) x.1 x.2 p2 (by rw [D.split, he']; simp)
        exact absurd h (h4 (j, true) (by simp)).1
  · have hxl : listed.getD x.1 false = false := by
      cases hxl : listed.getD x.1 false with
      | false => rfl
      | true => rw [listed_set.2 (.inl hxl)] at hxu; cases hxu
    rcases List.mem_append.1 hx with hx | hx
    · obtain ⟨h1, v2, h2⟩ := D.lagd x hx hxl
      refine ⟨h1, v2, drp_mem h2 fun hin => ?_⟩
      rw [hp _ hin] at hxl; cases hxl
    · simp at hx; subst hx
      rw [listed_set.2 (.inr ⟨rfl, hlt⟩)] at hxu; cases hxu
  · rcases sp_get hu2 with ⟨e, _⟩ | ⟨_, e⟩
    · subst e
      have hlp := D.laq l u (hsub hl)
      exact absurd rfl (((H.slots (j, true) hjo (l, false) (by rw [D.split]; simp [hlp]) g d2 c ps hit _ hl2).2 (hne hlp)).1)
    · exact D.lav l u (hsub hl) g2 d2 o2 ps2 hl2 u2 e
  · rcases listed_set.1 hi with h | ⟨h, _⟩
    · exact listed_set.2 (.inl (D.dc i it h hit' p hpi))
    · subst h; rw [hit] at hit'; cases hit'; exact listed_set.2 (.inl (hp p hpi))
  · obtain ⟨hnb, hk'⟩ := vis_some hk
    rcases sp_get hk' with ⟨e, rfl⟩ | ⟨hdk, e⟩
    · subst e
      have hkl : k < a.tmps.size := by rw [D.good.sz]; exact hd k rfl
      exact ⟨v', by simp [Act.put, hkl], hvr⟩
    · have : ¬ Bad r lag listed k := by
        rintro ⟨l, v2, hl, hu, hx⟩
        refine hnb ⟨l, v2, drp_mem hl fun hin => (by rw [hp _ hin] at hu; cases hu), ?_, hx⟩
        cases hxl : (listed.setIfInBounds j true).getD l false with
        | false => rfl
        | true =>
          rcases listed_set.1 hxl with h | ⟨h, _⟩
          · rw [hu] at h; cases h
          · exact absurd h (hne (D.laq l v2 hl))
      obtain ⟨v2, h1, h2⟩ := D.good.tr k u (by rw [vis_get this]; exact e)
      refine ⟨v2, ?_, h2.mono hst.fz hst.sg⟩
      cases d with
      | none => exact h1
      | some d0 => simp only [Act.put]; rw [Array.getElem?_setIfInBounds_ne (fun e => hdk (by rw [e]))]; exact h1
end

def left (ops : Array Oper) (listed : Array Bool) : Nat := (List.range ops.size).countP fun i => !listed.getD i false
theorem cnt_set {i : Nat} {p q : Nat → Bool} (hp : p i = true) (hq : q i = false) (h : ∀ j, j ≠ i → q j = p j) : ∀ {L : List Nat}, L.Nodup → i ∈ L → L.countP q + 1 = L.countP p
  | [], _, hi => by cases hi
  | x :: L, hnd, hi => by
    have hnd' := List.nodup_cons.1 hnd
    by_cases hx : x = i
    · subst hx
      have : L.countP q = L.countP p := List.countP_congr fun j hj => by
        rw [h j (fun e => hnd'.1 (by rw [← e]; exact hj))]
      rw [List.countP_cons, List.countP_cons, hp, hq, this]; simp
    · have hi' : i ∈ L := by
        rcases List.mem_cons.1 hi with e | h'
        · exact absurd e.symm hx
        · exact h'
      have := cnt_set hp hq h hnd'.2 hi'
      rw [List.countP_cons, List.countP_cons, h x hx]; omega

theorem DX_sound {ops : Array Oper} {r : List It} {T : List (Nat × Nat)} {ord0 : List (Nat × Bool)} {A : Anch} {E : Nat → Nat → Bool} (H : DOk P n ops r T ord0 E) {K : Tr → Mem → Prop} {Q : Exit → Act → World → Prop}
    (hQ : ∀ φ σ t m a w, K t m → Good A n k0 φ σ m w t a → Q .normal a w) :
    ∀ (fuel : Nat) (listed : Array Bool) (pre ord : List (Nat × Bool)) (lag : List (Nat × AV)) (t : Tr) (m : Mem) (φ : Fz) (σ : Sg) (a : Act) (w : World), listed.size = ops.size → left ops listed ≤ fuel → (∀ x y, E x y = true → listed.getD x false = true ∨ listed.getD y false = true) →
      DS r A n k0 ord0 listed pre ord lag t m φ σ a w → DX P r K ord lag t m → wpAny P .any ops Q fuel listed a w := by
  have fin : ∀ (listed : Array Bool) (pre ord : List (Nat × Bool)) (lag : List (Nat × AV)) (t : Tr) (m : Mem) (φ : Fz) (σ : Sg) (a : Act) (w : World), listed.size = ops.size → (∀ i, i < ops.size → listed.getD i false = true) →
      DS r A n k0 ord0 listed pre ord lag t m φ σ a w → DX P r K ord lag t m → Q .normal a w := by
    intro listed pre ord lag t m φ σ a w hsz hall D h
    cases ord with
    | cons x ord =>
      obtain ⟨it, hit, _⟩ := H.ord pre x.1 x.2 ord D.split
      have := hall x.1 (H.bnd x.1 it hit)
      rw [D.unl x (by simp)] at this; cases this
    | nil =>
      refine hQ φ σ t m a w h (D.good.retr fun k u hk => D.good.tr k u ?_)
      rw [vis_get]; exact hk
      rintro ⟨l, v, hl, hu, g, o, ps, hlt⟩
      have := hall l (H.bnd l _ hlt)
      rw [hu] at this; cases this
  have none_ready : ∀ (listed : Array Bool), listed.size = ops.size → Region.ready .any ops listed = [] → ∀ i, i < ops.size → listed.getD i false = true := by
    intro listed hsz hr
    have first : ∀ (pre ord : List (Nat × Bool)), ord0 = pre ++ ord → (∀ x ∈ pre, listed.getD x.1 false = true) → ∀ x ∈ ord, listed.getD x.1 false = true := by
      intro pre ord
      induction ord generalizing pre with
      | nil => intro _ _ x hx; cases hx
      | cons y ord ih =>
        intro e hpre
        have hy : listed.getD y.1 false = true := by
          obtain ⟨it, hit, h2, _⟩ := H.ord pre y.1 y.2 ord e
          cases hyl : listed.getD y.1 false with
          | true => rfl
          | false =>
            exfalso
            have hylt := H.bnd y.1 it hit
            have hin : y.1 ∈ Region.ready .any ops listed := by
              rw [mem_ready]
              refine ⟨?_, ops[y.1], by simp [hylt], fun e' he' hb' => ?_⟩
              · have : y.1 < listed.size := by omega
                simp [this] at hyl ⊢; exact hyl
              · obtain ⟨g, d, c, _, q2⟩ := H.it y.1 ops[y.1] (by simp [hylt])
                rw [hit] at q2; cases q2
                obtain ⟨x, hx, hxe⟩ := h2 e'.on (by
                  unfold preds
                  exact List.mem_filterMap.2 ⟨e', by simpa using he', by simp [hb']⟩)
                rw [← hxe]; exact hpre x hx
            rw [hr] at hin; cases hin
        intro x hx
        rcases List.mem_cons.1 hx with rfl | hx
        · exact hy
        · exact ih (pre ++ [y]) (by rw [e]; simp) (fun z hz => by
            rcases List.mem_append.1 hz with hz | hz
            · exact hpre z hz
            · simp at hz; rw [hz]; exact hy) x hx
    intro i hi
    obtain ⟨s, hs⟩ := H.all i hi
    exact first [] ord0 rfl (fun x hx => by cases hx) (i, s) hs
  intro fuel
  induction fuel with
  | zero =>
    intro listed pre ord lag t m φ σ a w hsz hl hE D h
    have hall : ∀ i, i < ops.size → listed.getD i false = true := by
      intro i hi
      have : left ops listed = 0 := by omega
      unfold left at this
      have := List.countP_eq_zero.1 this i (by simp [hi])
      simpa using this
    refine ⟨?_, fin listed pre ord lag t m φ σ a w hsz hall D h⟩
    cases hr : Region.ready .any ops listed with
    | nil => rfl
    | cons x xs =>
      exfalso
      have hx : x ∈ Region.ready .any ops listed := by rw [hr]; simp
      obtain ⟨h0, o, ho, _⟩ := mem_ready.1 hx
      have hxlt := (Array.getElem?_eq_some_iff.1 ho).1
      have := hall x hxlt
      have hxl : x < listed.size := by omega
      simp [hxl] at h0 this; rw [h0] at this; cases this
  | succ fuel ih =>
    intro listed pre ord lag t m φ σ a w hsz hl hE D h
    refine ⟨fun hr => fin listed pre ord lag t m φ σ a w hsz (none_ready listed hsz hr) D h, fun i hi => ?_⟩
    obtain ⟨h0, o, ho, hpr⟩ := mem_ready.1 hi
    have hilt := (Array.getElem?_eq_some_iff.1 ho).1
    have hil : i < listed.size := by omega
    have hun : listed.getD i false = false := by simp [hil] at h0 ⊢; exact h0
    obtain ⟨g, d, c, hc, hit⟩ := H.it i o ho
    have hp : ∀ p ∈ preds o, listed.getD p false = true := by
      intro p hp
      unfold preds at hp
      obtain ⟨e, he, hb⟩ := List.mem_filterMap.1 hp
      split at hb
      · rename_i hbb; cases hb; exact hpr e (by simpa using he) hbb
      · cases hb
    have hd : ∀ k, d = some k → k < n := by obtain ⟨o0, g', x, ho, hgd, hx, e, hd⟩ := cOp_inv hc; cases e; exact hd
    have hleft : left ops (listed.setIfInBounds i true) ≤ fuel := by
      have : left ops (listed.setIfInBounds i true) + 1 = left ops listed := by
        unfold left
        refine cnt_set (i := i) (by rw [hun]; rfl) (by rw [listed_set.2 (.inr ⟨rfl, hil⟩)]; rfl) (fun j hj => by rw [getD_set_ne false (Ne.symm hj)]) List.nodup_range (by simp [hilt])
      omega
    have hsz' : (listed.setIfInBounds i true).size = ops.size := by simp [hsz]
    have hE' : ∀ x y, E x y = true → (listed.setIfInBounds i true).getD x false = true ∨ (listed.setIfInBounds i true).getD y false = true := fun x y e => (hE x y e).imp (fun h => listed_set.2 (.inl h)) (fun h => listed_set.2 (.inl h))
    have inpre : ∀ (pre ord : List (Nat × Bool)) (lag : List (Nat × AV)) (t : Tr), DS r A n k0 ord0 listed pre ord lag t m φ σ a w → DX P r K ord lag t m → (∃ s, (i, s) ∈ pre) →
        wpOp P ops Q i (wpAny P .any ops Q fuel (listed.setIfInBounds i true)) a w := by
      rintro pre ord lag t D h ⟨s, hs⟩
      obtain ⟨rfl, v, hv⟩ := D.lagd (i, s) hs hun |>.imp (fun e => (e : s = false)) id
      exact exec_pre H D hil hs hv hc hit hun hp fun φ σ a w D' => ih _ pre ord lag t m φ σ a w hsz' hleft hE' D' h
    have go : ∀ (ord pre : List (Nat × Bool)) (lag : List (Nat × AV)) (t : Tr), DS r A n k0 ord0 listed pre ord lag t m φ σ a w → DX P r K ord lag t m →
        wpOp P ops Q i (wpAny P .any ops Q fuel (listed.setIfInBounds i true)) a w := by
      intro ord
      induction ord with
      | nil =>
        intro pre lag t D h
        obtain ⟨s, hs⟩ := H.all i hilt
        exact inpre pre [] lag t D h ⟨s, by rw [D.split] at hs; simpa using hs⟩
      | cons y ord ih2 =>
        intro pre lag t D h
        obtain ⟨j, s⟩ := y
        obtain ⟨it, hjt, hj2, hj3, hj4⟩ := H.ord pre j s ord D.split
        obtain ⟨g', d', c', ps'⟩ := it
        by_cases hin : ∃ s, (i, s) ∈ pre
        · exact inpre pre _ lag t D h hin
        cases s with
        | true =>
          have hji : j = i := by
            by_cases e : j = i
            · exact e
            · exfalso
              obtain ⟨s, hs⟩ := H.all i hilt
              rw [D.split] at hs
              rcases List.mem_append.1 hs with hs | hs
              · exact hin ⟨s, hs⟩
              · rcases List.mem_cons.1 hs with hs | hs
                · cases hs; exact e rfl
                · obtain ⟨p1, p2, e2⟩ := List.append_of_mem hs
                  obtain ⟨_, _, _, _, h4⟩ := H.ord (pre ++ (j, true) :: p1) i s p2 (by rw [D.split, e2]; simp)
                  have h5 : inM T j i = true := by
                    rcases (h4 (j, true) (by simp)).2 rfl with h6 | h6
                    · rcases hE j i h6 with h7 | h7
                      · rw [D.unl (j, true) (by simp)] at h7; cases h7
                      · rw [hun] at h7; cases h7
                    · exact h6
                  have := H.tok _ D.dc i j h5 fun it' hit' p hp' => by rw [hit] at hit'; cases hit'; exact hp p hp'
                  rw [D.unl (j, true) (by simp)] at this; cases this
          subst hji
          rw [hit] at hjt; cases hjt
          obtain ⟨t', D', hh⟩ := DX_head D h hit
          have hsame : ∀ k ∈ rds (g, d, c, preds o), t'.get k = (vis r lag listed t').get k := fun k hk => (vis_get (not_bad H D' (s := true) (by rw [D.split]; simp) hit hp hk)).symm
          rcases hh with ⟨hg, hgo⟩ | ⟨hg, hgo⟩
          · refine wpOp_step hc (gk_gok.1 (by rw [← gk_same hsame]; exact hg)) D'.good (Step1_congr (ev_same hsame) (goW_step hgo)) ?_
            rintro φ' σ' v v' m' w' ⟨hre, hR⟩ hst hvr
            exact ih _ _ _ _ _ _ φ' σ' _ _ hsz' hleft hE' (D'.come H hit hil hp hd hst hvr hre) hR
          · obtain ⟨hre, hR⟩ := hgo
            exact wpOp_skip hc (gk_gok.2 (by rw [← gk_same hsame]; exact hg)) D'.good (ih _ _ _ _ _ _ φ σ _ _ hsz' hleft hE' (D'.come H hit hil hp hd (.refl D'.good.inv) (.tup .nil) hre) hR)
        | false =>
          obtain ⟨t', D', hh⟩ := DX_head D h hjt
          rcases hh with ⟨hg, hgo⟩ | ⟨hg, hgo⟩
          · simp only [goW] at hgo
            split at hgo
            · rename_i p v m2 he
              refine ih2 _ _ _ (D'.tell H hjt ?_) hgo.2
              simp only [Rv, hjt, hg, he]
              first | exact ⟨hgo.1, rfl⟩ | exact ⟨hgo.1, trivial⟩
            · exact hgo.elim
          · refine ih2 _ _ _ (D'.tell H hjt ?_) hgo
            simp only [Rv, hjt, hg]
            rfl
    exact go ord pre lag t D h

theorem sem_draw (ord : List (Nat × Bool)) {r : List It} {k : List C} {t : Tr} {m : Mem} {Q : Exit → Tr → Mem → Prop} (hm : P.follows .mixedOrders = true) (hok : okDraw r ord = true)
    (h : DX P r (fun t m => SemW P n k0 k t m Q) ord [] t m) : SemW P n k0 (.draw r :: k) t m Q := by
  intro cs hcs A φ σ a w hG
  cases view_of P n _ cs _ (Nat.le_refl _) hcs with
  | draw hl hr h' =>
    rename_i id ops rest
    refine h' _ a w ?_
    have H := okDraw_ok hl hok
    refine wp_region_any hm ?_
    have hG' : Good A n k0 φ σ m { w with drawn := w.drawn + 1 } t a := ⟨hG.fz, hG.sg, hG.inv.same rfl, hG.tr, hG.sz, hG.df, hG.grow, hG.kept, hG.own, hG.len, hG.ice, hG.env⟩
    have hnone : ∀ i, (Array.replicate ops.size false).getD i false = false := by
      intro i; by_cases hi : i < ops.size <;> simp [hi]
    refine DX_sound (k0 := k0) H (K := fun t m => SemW P n k0 k t m Q) (fun φ σ t m a w hK hG => hK _ hr A φ σ a w hG) ops.size _ [] ord [] t m φ σ a _ (by simp) ?_ (fun x y e => by cases e) ⟨rfl, trivial, fun x _ => hnone _, fun x hx => (by cases hx), fun l v hl => (by cases hl), fun l v hl => (by cases hl), fun j it hj => (by have hj : (Array.replicate ops.size false).getD j false = true := hj; rw [hnone] at hj; cases hj), hG'.retr fun k u hk => hG'.tr k u (vis_some hk).2⟩ h
    unfold left
    exact Nat.le_trans List.countP_le_length (by simp)
end Go.AE
