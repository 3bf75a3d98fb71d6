/- The abstract evaluator: AEc in one. -/
import Derived.Test.YthdkobfafncpcaaDoorAEb
/- The abstract evaluator, part c: how memories change, and what operands stand for. -/
namespace Go.AE
open Go
set_option linter.unusedVariables false
set_option linter.unusedSimpArgs false

/-! ### lists at places -/
theorem nz_pos : ∀ {n : Nat}, nz n = true → 0 < n
  | _ + 1, _ => Nat.succ_pos _
theorem mg_get : ∀ {m : Mem} {b : Nat} {k : Blk}, mg m b = k → k.owned = true → m[b]? = some k
  | [], b, k, h, hk => by simp [mg] at h; subst h; cases hk
  | x :: m, 0, k, h, hk => by simp [mg] at h; simp [h]
  | x :: m, b + 1, k, h, hk => by simp only [mg] at h; simpa using mg_get (m := m) h hk
theorem ms_len : ∀ (m : Mem) (b : Nat) (x : Blk), (ms m b x).length = m.length
  | [], _, _ => rfl
  | _ :: _, 0, _ => rfl
  | _ :: m, b + 1, x => by simp [ms, ms_len m b x]
theorem ms_get : ∀ (m : Mem) (b : Nat) (x : Blk) (c : Nat) (k : Blk), (ms m b x)[c]? = some k → (c = b ∧ k = x) ∨ (c ≠ b ∧ m[c]? = some k)
  | [], b, x, c, k, h => by simp [ms] at h
  | y :: m, 0, x, 0, k, h => by simp [ms] at h; exact .inl ⟨rfl, h.symm⟩
  | y :: m, 0, x, c + 1, k, h => by simp [ms] at h; exact .inr ⟨by omega, by simpa using h⟩
  | y :: m, b + 1, x, 0, k, h => by simp [ms] at h; exact .inr ⟨by omega, by simp [h]⟩
  | y :: m, b + 1, x, c + 1, k, h => by
    simp only [ms, List.getElem?_cons_succ] at h
    rcases ms_get m b x c k h with ⟨e, r⟩ | ⟨e, r⟩
    · exact .inl ⟨by omega, r⟩
    · exact .inr ⟨by omega, by simpa using r⟩
theorem ms_same : ∀ (m : Mem) (b : Nat) (x : Blk), b < m.length → (ms m b x)[b]? = some x
  | [], b, x, h => by simp at h
  | y :: m, 0, x, h => by simp [ms]
  | y :: m, b + 1, x, h => by simpa [ms] using ms_same m b x (by simpa using h)
theorem lg_get : ∀ {l : List AV} {j : Nat} {v : AV}, lg l j = some v → l[j]? = some v
  | [], j, v, h => by simp [lg] at h
  | x :: l, 0, v, h => by simpa [lg] using h
  | x :: l, j + 1, v, h => by simp only [lg] at h; simpa using lg_get h
theorem ldr_eq : ∀ (n : Nat) (l : List AV), ldr n l = l.drop n
  | 0, l => by simp [ldr]
  | n + 1, [] => by simp [ldr]
  | n + 1, x :: l => by simp [ldr, ldr_eq n l]
theorem ltk_eq : ∀ {n : Nat} {l r : List AV}, ltk n l = some r → r = l.take n ∧ r.length = n
  | 0, l, r, h => by simp [ltk] at h; subst h; simp
  | n + 1, [], r, h => by simp [ltk] at h
  | n + 1, x :: l, r, h => by
    simp only [ltk] at h
    cases hl : ltk n l with
    | none => simp [hl] at h
    | some q => simp [hl] at h; subst h; obtain ⟨rfl, hq⟩ := ltk_eq hl; simp at hq ⊢; exact hq
theorem lput_len : ∀ {l : List AV} {j : Nat} {vs r : List AV}, lput l j vs = some r → r.length = l.length ∧ j + vs.length ≤ max l.length j
  | l, j, [], r, h => by cases l <;> cases j <;> simp [lput] at h <;> subst h <;> simp <;> omega
  | [], j, v :: vs, r, h => by simp [lput] at h
  | u :: l, 0, v :: vs, r, h => by
    simp only [lput] at h
    cases hl : lput l 0 vs with
    | none => simp [hl] at h
    | some q => simp [hl] at h; subst h; have := lput_len hl; simp at this ⊢; omega
  | u :: l, j + 1, v :: vs, r, h => by
    simp only [lput] at h
    cases hl : lput l j (v :: vs) with
    | none => simp [hl] at h
    | some q => simp [hl] at h; subst h; have := lput_len hl; simp at this ⊢; omega
theorem lput_le : ∀ {l : List AV} {j : Nat} {vs r : List AV}, lput l j vs = some r → 0 < vs.length → j + vs.length ≤ l.length
  | l, j, [], r, h, h0 => by simp at h0
  | [], j, v :: vs, r, h, _ => by simp [lput] at h
  | u :: l, 0, v :: vs, r, h, _ => by
    simp only [lput] at h
    cases hl : lput l 0 vs with
    | none => simp [hl] at h
    | some q =>
      cases vs with
      | nil => simp
      | cons x vs => have := lput_le hl (by simp); simp at this ⊢; omega
  | u :: l, j + 1, v :: vs, r, h, _ => by
    simp only [lput] at h
    cases hl : lput l j (v :: vs) with
    | none => simp [hl] at h
    | some q => have := lput_le hl (by simp); simp at this ⊢; omega
theorem lput_get : ∀ {l : List AV} {j : Nat} {vs r : List AV}, lput l j vs = some r → ∀ (i : Nat),
    r[i]? = if j ≤ i ∧ i < j + vs.length then vs[i - j]? else l[i]?
  | l, j, [], r, h, i => by cases l <;> cases j <;> simp [lput] at h <;> subst h <;> simp <;> omega
  | [], j, v :: vs, r, h, i => by simp [lput] at h
  | u :: l, 0, v :: vs, r, h, i => by
    simp only [lput] at h
    cases hl : lput l 0 vs with
    | none => simp [hl] at h
    | some q =>
      simp [hl] at h; subst h
      cases i with
      | zero => simp
      | succ i => have := lput_get hl i; simp at this ⊢; exact this
  | u :: l, j + 1, v :: vs, r, h, i => by
    simp only [lput] at h
    cases hl : lput l j (v :: vs) with
    | none => simp [hl] at h
    | some q =>
      simp [hl] at h; subst h
      cases i with
      | zero => simp
      | succ i =>
        have := lput_get hl i
        simp at this ⊢
        rw [this]
        by_cases c : j ≤ i ∧ i < j + (vs.length + 1)
        · rw [if_pos c, if_pos (by omega)]
        · rw [if_neg c, if_neg (by omega)]

/-! ### steps of a memory -/
structure Stp (φ : Fz) (σ : Sg) (m : Mem) (w : World) (φ' : Fz) (σ' : Sg) (m' : Mem) (w' : World) : Prop where
  fz : φ.le φ'
  sg : σ.le σ'
  inv : Inv φ' σ' m' w'
  size : w.heap.size ≤ w'.heap.size
  frame : ∀ B, B < w.heap.size → (∀ b k i, m[b]? = some k → k.owned = true → σ b = some i → i.B ≠ B) → w'.heap[B]? = w.heap[B]?
  own : ∀ b k i, m'[b]? = some k → k.owned = true → σ' b = some i → (∃ c l j, m[c]? = some l ∧ l.owned = true ∧ σ c = some j ∧ j.B = i.B) ∨ w.heap.size ≤ i.B
  old : ∀ b, b < m.length → σ' b = σ b
  len : m.length ≤ m'.length
  ice : ∀ B, φ B = none → B < w.heap.size → (∀ b k i, m[b]? = some k → k.owned = true → σ b = some i → i.B ≠ B) → φ' B = none
  env : Env w w'
theorem Stp.refl {φ : Fz} {σ : Sg} {m : Mem} {w : World} (h : Inv φ σ m w) : Stp φ σ m w φ σ m w :=
  ⟨Fz.le_refl _, Sg.le_refl _, h, Nat.le_refl _, fun _ _ _ => rfl, fun b k i h1 h2 h3 => .inl ⟨b, k, i, h1, h2, h3, rfl⟩, fun _ _ => rfl, Nat.le_refl _, fun _ h _ _ => h, Env.refl _⟩

theorem Inv.lt {φ : Fz} {σ : Sg} {m : Mem} {w : World} (h : Inv φ σ m w) {b : Nat} {k : Blk} {i : Img} (hb : m[b]? = some k) (hk : k.owned = true) (hi : σ b = some i) : i.B < w.heap.size := by
  have := h.blk b k hb; rw [hi] at this; exact this.lt hk
theorem Inv.fz_lt {φ : Fz} {σ : Sg} {m : Mem} {w : World} (h : Inv φ σ m w) {B : Nat} {o : Obj} (hB : φ B = some o) : B < w.heap.size := by
  have ho := h.fz B o hB
  rcases Nat.lt_or_ge B w.heap.size with h' | h'
  · exact h'
  · simp [Array.getElem?_eq_none h'] at ho

theorem Inv.change {φ : Fz} {σ σ' : Sg} {m m' : Mem} {w w' : World} (h : Inv φ σ m w) (X b0 : Nat) (hs : σ.le σ') (hsz : w.heap.size ≤ w'.heap.size)
    (hw : ∀ B, B ≠ X → B < w.heap.size → w'.heap[B]? = w.heap[B]?) (hX : φ X = none)
    (hXo : (∃ c l j, m[c]? = some l ∧ l.owned = true ∧ σ c = some j ∧ j.B = X) ∨ w.heap.size ≤ X)
    (hfr : ∀ b, m'.length ≤ b → σ' b = none) (hlo : ∀ b, b < m.length → σ' b = σ b) (hll : m.length ≤ m'.length) (henv : Env w w')
    (hm : ∀ b k, m'[b]? = some k → k.owned = true → b ≠ b0 → m[b]? = some k ∧ σ' b = σ b ∧ ∀ i, σ b = some i → i.B ≠ X)
    (h0 : ∀ k, m'[b0]? = some k → k.owned = true → BM φ σ' w' (σ' b0) k ∧ ∀ i, σ' b0 = some i → i.B = X) :
    Stp φ σ m w φ σ' m' w' where
  fz := Fz.le_refl _
  sg := hs
  size := hsz
  old := hlo
  len := hll
  ice := fun _ h _ _ => h
  env := henv
  frame := fun B hB hn => by
    refine hw B ?_ hB
    rintro rfl
    rcases hXo with ⟨c, l, j, h1, h2, h3, h4⟩ | h'
    · exact hn c l j h1 h2 h3 h4
    · omega
  own := fun b k i hb hk hi => by
    by_cases e : b = b0
    · subst e
      have := (h0 k hb hk).2 i hi
      rcases hXo with ⟨c, l, j, h1, h2, h3, h4⟩ | h'
      · exact .inl ⟨c, l, j, h1, h2, h3, by rw [h4, this]⟩
      · exact .inr (by omega)
    · obtain ⟨h1, h2, h3⟩ := hm b k hb hk e
      exact .inl ⟨b, k, i, h1, hk, by rw [← h2]; exact hi, rfl⟩
  inv := by
    constructor
    · exact h.lf
    · intro B o hB
      have hlt := h.fz_lt hB
      have hne : B ≠ X := by rintro rfl; rw [hX] at hB; cases hB
      rw [hw B hne hlt]; exact h.fz B o hB
    · intro b k hb
      cases hk : k.owned with
      | false => cases k <;> simp [Blk.owned] at hk; trivial
      | true =>
        by_cases e : b = b0
        · subst e; exact (h0 k hb hk).1
        · obtain ⟨h1, h2, h3⟩ := hm b k hb hk e
          rw [h2]
          exact (h.blk b k h1).frame (Fz.le_refl _) hs fun img hi => hw _ (h3 img hi) (h.lt h1 hk hi)
    · intro b c k l i j hb hc hk hl hi hj hne
      by_cases e : b = b0
      · have e' : c ≠ b0 := fun e' => hne (by rw [e, e'])
        subst e
        obtain ⟨h1, h2, h3⟩ := hm c l hc hl e'
        rw [(h0 k hb hk).2 i hi]
        exact fun x => h3 j (by rw [← h2]; exact hj) x.symm
      · obtain ⟨h1, h2, h3⟩ := hm b k hb hk e
        by_cases e' : c = b0
        · subst e'
          rw [(h0 l hc hl).2 j hj]
          exact h3 i (by rw [← h2]; exact hi)
        · obtain ⟨g1, g2, g3⟩ := hm c l hc hl e'
          exact h.inj b c k l i j h1 g1 hk hl (by rw [← h2]; exact hi) (by rw [← g2]; exact hj) hne
    · intro b k i hb hk hi
      by_cases e : b = b0
      · subst e; rw [(h0 k hb hk).2 i hi]; exact hX
      · obtain ⟨h1, h2, h3⟩ := hm b k hb hk e
        exact h.apart b k i h1 hk (by rw [← h2]; exact hi)
    · exact hfr

def Sg.upd (σ : Sg) (b : Nat) (i : Option Img) : Sg := fun c => if c = b then i else σ c
theorem Sg.upd_le {σ : Sg} {b : Nat} {i : Option Img} (h : σ b = none) : σ.le (σ.upd b i) := fun c j hc => by
  unfold Sg.upd; split
  · rename_i e; subst e; rw [h] at hc; cases hc
  · exact hc

theorem Inv.fz_new {φ : Fz} {σ : Sg} {m : Mem} {w : World} (h : Inv φ σ m w) : φ w.heap.size = none := by
  cases e : φ w.heap.size with
  | none => rfl
  | some o => exact absurd (h.fz_lt e) (Nat.lt_irrefl _)
theorem alloc_old {w : World} {o : Obj} {B : Nat} (hB : B < w.heap.size) : (w.alloc o).heap[B]? = w.heap[B]? := by
  simp only [World.alloc, Array.getElem?_push]; rw [if_neg (by omega)]
theorem alloc_new {w : World} {o : Obj} : (w.alloc o).heap[w.heap.size]? = some o := by
  show (w.heap.push o)[w.heap.size]? = some o
  simp

theorem Inv.alloc {φ : Fz} {σ : Sg} {m m1 : Mem} {w w' : World} (h : Inv φ σ m w) (k : Blk) (img : Option Img) (hB : ∀ i, img = some i → i.B = w.heap.size)
    (hold : ∀ B, B < w.heap.size → w'.heap[B]? = w.heap[B]?) (hsz : w.heap.size ≤ w'.heap.size) (henv : Env w w')
    (hm1 : m1.length = m.length) (hg : ∀ (b : Nat) (l : Blk), m1[b]? = some l → l.owned = true → m[b]? = some l)
    (hk : BM φ (σ.upd m.length img) w' img k) :
    Stp φ σ m w φ (σ.upd m.length img) (m1 ++ [k]) w' := by
  have hfr := h.fresh m.length (Nat.le_refl _)
  refine h.change w.heap.size m.length (Sg.upd_le hfr) hsz (fun B _ hB => hold B hB) h.fz_new (.inr (Nat.le_refl _)) ?_ (fun b hb => by unfold Sg.upd; rw [if_neg (by omega)]) (by simp [hm1]) henv ?_ ?_
  · intro b hb
    simp [hm1] at hb
    unfold Sg.upd; rw [if_neg (by omega)]; exact h.fresh b (by omega)
  · intro b l hb hl hne
    have hb' : m1[b]? = some l := by
      rcases Nat.lt_or_ge b m1.length with h' | h'
      · rwa [List.getElem?_append_left h'] at hb
      · rw [List.getElem?_append_right h'] at hb
        have : b - m1.length ≠ 0 := by omega
        cases hx : b - m1.length with
        | zero => omega
        | succ x => rw [hx] at hb; simp at hb
    have hb2 := hg b l hb' hl
    refine ⟨hb2, by unfold Sg.upd; rw [if_neg hne], fun i hi => Nat.ne_of_lt (h.lt hb2 hl hi)⟩
  · intro l hl _
    rw [← hm1] at hl
    simp at hl
    subst hl
    refine ⟨by simpa [Sg.upd] using hk, fun i hi => ?_⟩
    simp [Sg.upd] at hi; exact hB i hi
theorem Inv.same {φ : Fz} {σ : Sg} {m : Mem} {w w' : World} (h : Inv φ σ m w) (e : w'.heap = w.heap) : Inv φ σ m w' :=
  ⟨h.lf, fun B o hB => by rw [e]; exact h.fz B o hB, fun b k hb => (h.blk b k hb).frame (Fz.le_refl _) (Sg.le_refl _) fun _ _ => by rw [e], h.inj, h.apart, h.fresh⟩

def Fz.upd (φ : Fz) (B0 : Nat) (o : Obj) : Fz := fun B => if B = B0 then some o else φ B
theorem Inv.ice {φ : Fz} {σ : Sg} {m : Mem} {w : World} (h : Inv φ σ m w) (o : Obj) :
    Stp φ σ m w (φ.upd w.heap.size o) σ m (w.alloc o) where
  fz := fun B x hx => by
    have := h.fz_lt hx
    show (if B = w.heap.size then some o else φ B) = some x
    rw [if_neg (by omega)]; exact hx
  sg := Sg.le_refl _
  size := by simp
  frame := fun B hB _ => alloc_old hB
  own := fun b k i hb hk hi => .inl ⟨b, k, i, hb, hk, hi, rfl⟩
  old := fun _ _ => rfl
  len := Nat.le_refl _
  ice := fun B hB hlt _ => by
    show (if B = w.heap.size then some o else φ B) = none
    rw [if_neg (by omega)]; exact hB
  env := ⟨rfl, rfl, rfl⟩
  inv := by
    have hle : φ.le (φ.upd w.heap.size o) := fun B x hx => by
      have := h.fz_lt hx
      show (if B = w.heap.size then some o else φ B) = some x
      rw [if_neg (by omega)]; exact hx
    constructor
    · exact h.lf.mono hle
    · intro B x hx
      by_cases e : B = w.heap.size
      · subst e; simp [Fz.upd] at hx; subst hx; exact alloc_new
      · simp [Fz.upd, e] at hx; rw [alloc_old (h.fz_lt hx)]; exact h.fz B x hx
    · intro b k hb
      cases hk : k.owned with
      | false => cases k <;> simp [Blk.owned] at hk; trivial
      | true => exact (h.blk b k hb).frame hle (Sg.le_refl _) fun img hi => alloc_old (h.lt hb hk hi)
    · exact h.inj
    · intro b k i hb hk hi
      have := h.lt hb hk hi
      show (if i.B = w.heap.size then some o else φ i.B) = none
      rw [if_neg (by omega)]; exact h.apart b k i hb hk hi
    · exact h.fresh

/-! ### operands -/
mutual
theorem ofV_ok (φ : Fz) (σ : Sg) : ∀ (f : Nat) (v : Value) (a : AV), AV.ofV f v = some a → VR φ σ a v
  | 0, v, a, h => by simp [AV.ofV] at h
  | f + 1, v, a, h => by
    cases v with
    | bool b => simp [AV.ofV] at h; subst h; exact .bool
    | int k n => simp [AV.ofV] at h; subst h; exact .int
    | string s => simp [AV.ofV] at h; subst h; have : VR φ σ (.str s.data.toList) (.string ⟨s.data.toList.toArray⟩) := .str; simpa using this
    | pointer p => cases p <;> simp [AV.ofV] at h; subst h; exact .nilptr
    | slice p l c =>
      cases p with
      | some x => simp [AV.ofV] at h
      | none => cases l with
        | succ l => simp [AV.ofV] at h
        | zero => cases c with
          | succ c => simp [AV.ofV] at h
          | zero => simp [AV.ofV] at h; subst h; exact .nilsl
    | map r => cases r <;> simp [AV.ofV] at h; subst h; exact .nilmap
    | nilFunc => simp [AV.ofV] at h; subst h; exact .nilfn
    | nilIface => simp [AV.ofV] at h; subst h; exact .nilif
    | agg cs =>
      simp only [AV.ofV, Option.map_eq_some_iff] at h
      obtain ⟨l, hl, rfl⟩ := h
      have := ofVs_ok φ σ f cs.toList l hl
      exact .agg this
    | float k b => simp [AV.ofV] at h
    | complex k a b => simp [AV.ofV] at h
    | chan r => simp [AV.ofV] at h
    | func a b c => simp [AV.ofV] at h
    | iface t v => simp [AV.ofV] at h
    | tuple vs => simp [AV.ofV] at h
theorem ofVs_ok (φ : Fz) (σ : Sg) : ∀ (f : Nat) (vs : List Value) (as : List AV), AV.ofVs f vs = some as → VRs φ σ as vs
  | 0, vs, as, h => by simp [AV.ofVs] at h
  | f + 1, [], as, h => by simp [AV.ofVs] at h; subst h; exact .nil
  | f + 1, v :: vs, as, h => by
    simp only [AV.ofVs] at h
    cases h1 : AV.ofV f v with
    | none => simp [h1] at h
    | some a => cases h2 : AV.ofVs f vs with
      | none => simp [h1, h2] at h
      | some bs => simp [h1, h2] at h; subst h; exact .cons (ofV_ok φ σ f v a h1) (ofVs_ok φ σ f vs bs h2)
end

section
variable {φ : Fz} {σ : Sg} {t : Tr} {a : Act}
theorem ev_ok (ht : TR φ σ t a.tmps) {x : Operand} {y : Opd} {v : AV} (hx : cOpd x = some y) (hv : ev t y = some v) : VR φ σ v (a.eval x) := by
  cases x with
  | tmp i =>
    simp [cOpd] at hx; subst hx
    obtain ⟨v', h1, h2⟩ := ht i v hv
    simp [Act.eval, h1]; exact h2
  | const c =>
    simp only [cOpd, Option.map_eq_some_iff] at hx
    obtain ⟨b, hb, rfl⟩ := hx
    simp [ev] at hv; subst hv
    exact ofV_ok φ σ 300 c b hb
  | global g => simp [cOpd] at hx
  | func f =>
    simp [cOpd] at hx; subst hx
    simp [ev] at hv; subst hv
    exact .fn .nil .nil
theorem evs_ok (ht : TR φ σ t a.tmps) : ∀ {xs : List Operand} {ys : List Opd} {vs : List AV}, cOpds xs = some ys → evs t ys = some vs → VRs φ σ vs (xs.map a.eval)
  | [], ys, vs, hx, hv => by simp [cOpds] at hx; subst hx; simp [evs] at hv; subst hv; exact .nil
  | x :: xs, ys, vs, hx, hv => by
    simp only [cOpds] at hx
    cases h1 : cOpd x with
    | none => simp [h1] at hx
    | some y => cases h2 : cOpds xs with
      | none => simp [h1, h2] at hx
      | some ys' =>
        simp [h1, h2] at hx; subst hx
        simp only [evs] at hv
        cases g1 : ev t y with
        | none => simp [g1] at hv
        | some v => cases g2 : evs t ys' with
          | none => simp [g1, g2] at hv
          | some vs' =>
            simp [g1, g2] at hv; subst hv
            exact .cons (ev_ok ht h1 g1) (evs_ok ht h2 g2)
end

def OpOk (P : Program) (o : Oper) (a : Act) (φ : Fz) (σ : Sg) (m : Mem) (w : World) (v : AV) (m' : Mem) : Prop :=
  ∃ v' w' φ' σ', ((execOp a.eval o).run P w = .ok (.value v') w' ∨ ((execOp a.eval o).run P w = .ok .skip w' ∧ v' = undef)) ∧
    Stp φ σ m w φ' σ' m' w' ∧ VR φ' σ' v v'
theorem OpOk.pure {P : Program} {o : Oper} {a : Act} {φ : Fz} {σ : Sg} {m : Mem} {w : World} {v : AV} (hI : Inv φ σ m w) {v' : Value}
    (h : (execOp a.eval o).run P w = .ok (.value v') w) (hv : VR φ σ v v') : OpOk P o a φ σ m w v m :=
  ⟨v', w, φ, σ, .inl h, .refl hI, hv⟩
end Go.AE
