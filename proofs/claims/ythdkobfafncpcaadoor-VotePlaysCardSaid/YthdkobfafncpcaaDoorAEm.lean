/- The abstract evaluator: AEm in one. -/
import Derived.Test.YthdkobfafncpcaaDoorAEl
/- The abstract evaluator, part m: what it means that code is right, and that the evaluator tells so. -/
namespace Go.AE
open Go
set_option linter.unusedVariables false
set_option linter.unusedSimpArgs false

variable {P : Program}

inductive Itm where
  | code (c : Code)
  | reg (ops : Array Oper) (is : List Nat)
  | endb (id : Nat)
def cI (P : Program) (n : Nat) : Itm → Option (List C)
  | .code c => cC P n c
  | .reg ops is => cOps P n ops is
  | .endb id => some [.endb id]
def cIs (P : Program) (n : Nat) : List Itm → Option (List C)
  | [] => some []
  | x :: r => match cI P n x, cIs P n r with
    | some a, some b => some (a ++ b)
    | _, _ => none
def wpI (P : Program) : List Itm → (Exit → Act → World → Prop) → Exit → Act → World → Prop
  | [], Q, e, a, w => Q e a w
  | .code c :: r, Q, e, a, w => match e with
    | .normal => c.wp P (wpI P r Q) a w
    | e => wpI P r Q e a w
  | .reg ops is :: r, Q, e, a, w => match e with
    | .normal => wpOps P ops (wpI P r Q) is a w
    | e => wpI P r Q e a w
  | .endb id :: r, Q, e, a, w => match e with
    | .exit j => if j = id then wpI P r Q .normal a w else wpI P r Q (.exit j) a w
    | e => wpI P r Q e a w

section
variable {Q : Exit → Act → World → Prop} {a : Act} {w : World} {r : List Itm}
theorem wpI_seq {x y : Code} (h : wpI P (.code x :: .code y :: r) Q .normal a w) : wpI P (.code (.seq x y) :: r) Q .normal a w := by
  refine wp_seq (wp_mono h fun e a w he => ?_)
  cases e <;> exact he
theorem wpI_skip (h : wpI P r Q .normal a w) : wpI P (.code .skip :: r) Q .normal a w := wp_skip h
theorem wpI_region {id : Nat} {ops : Array Oper} (h : wpI P (.reg ops (List.range ops.size) :: r) Q .normal a w) : wpI P (.code (.region id ops false) :: r) Q .normal a w := wp_region h
theorem wpI_block {id : Nat} {b : Code} (h : wpI P (.code b :: .endb id :: r) Q .normal a w) : wpI P (.code (.block id b) :: r) Q .normal a w := by
  refine wp_block (wp_mono h fun e a w he => ?_)
  cases e <;> exact he
theorem wpI_nil {ops : Array Oper} (h : wpI P r Q .normal a w) : wpI P (.reg ops [] :: r) Q .normal a w := h
end

/-! No code leaves the end of a block behind that isn't its own. -/
def noEnd : List C → Bool
  | [] => true
  | .endb _ :: _ => false
  | _ :: k => noEnd k
theorem noEnd_append : ∀ {a b : List C}, noEnd a = true → noEnd b = true → noEnd (a ++ b) = true
  | [], b, _, hb => hb
  | c :: a, b, ha, hb => by
    cases c <;> simp only [noEnd, List.cons_append] at ha ⊢ <;> first | exact noEnd_append ha hb | cases ha
theorem exk_skip {id : Nat} : ∀ {a b : List C}, noEnd a = true → exk id (a ++ b) = exk id b
  | [], b, _ => rfl
  | c :: a, b, ha => by
    cases c <;> simp only [noEnd, List.cons_append] at ha ⊢ <;> first | (simp only [exk]; exact exk_skip ha) | cases ha
theorem cOps_noEnd {n : Nat} {ops : Array Oper} : ∀ {is : List Nat} {l : List C}, cOps P n ops is = some l → noEnd l = true
  | [], l, h => by simp [cOps] at h; subst h; rfl
  | i :: is, l, h => by
    simp only [cOps] at h
    split at h
    · rename_i c cs h1 h2
      cases h
      have := cOps_noEnd h2
      unfold cOp at h1
      split at h1
      · cases h1
      · split at h1
        · split at h1
          · cases h1; exact this
          · split at h1
            · cases h1; exact this
            · cases h1
        · cases h1
    · cases h
theorem cC_noEnd {n : Nat} : ∀ {c : Code} {l : List C}, cC P n c = some l → noEnd l = true
  | .skip, l, h => by simp [cC] at h; subst h; rfl
  | .region _ ops false, l, h => cOps_noEnd h
  | .region _ ops true, l, h => by
    simp only [cC, Option.map_eq_some_iff] at h
    obtain ⟨r, _, rfl⟩ := h; rfl
  | .seq a b, l, h => by
    simp only [cC] at h
    split at h
    · rename_i x y h1 h2; cases h; exact noEnd_append (cC_noEnd h1) (cC_noEnd h2)
    · cases h
  | .cond x a b, l, h => by
    simp only [cC] at h
    split at h
    · cases h; rfl
    · cases h
  | .block id b, l, h => by
    simp only [cC, Option.map_eq_some_iff] at h
    obtain ⟨r, _, rfl⟩ := h; rfl
  | .loop b, l, h => by
    simp only [cC, Option.map_eq_some_iff] at h
    obtain ⟨r, _, rfl⟩ := h; rfl
  | .exit id, l, h => by simp [cC] at h; subst h; rfl
  | .ret, l, h => by simp [cC] at h; subst h; rfl
  | .rangeFunc _ _ _ _, l, h => by simp [cC] at h
  | .scope _, l, h => by simp [cC] at h
  | .label _, l, h => by simp [cC] at h
  | .goto _, l, h => by simp [cC] at h
  | .refuse _, l, h => by simp [cC] at h

theorem wpI_exit {n id : Nat} {Q : Exit → Act → World → Prop} : ∀ {cs : List Itm} {k : List C}, cIs P n cs = some k →
    (exk id k = none ∧ ∀ a w, Q (.exit id) a w → wpI P cs Q (.exit id) a w) ∨
    ∃ k' cs', exk id k = some k' ∧ cIs P n cs' = some k' ∧ ∀ a w, wpI P cs' Q .normal a w → wpI P cs Q (.exit id) a w
  | [], k, h => by simp [cIs] at h; subst h; exact .inl ⟨rfl, fun _ _ h => h⟩
  | x :: r, k, h => by
    simp only [cIs] at h
    split at h
    · rename_i p q h1 h2
      cases h
      cases x with
      | code c =>
        rw [exk_skip (cC_noEnd h1)]
        rcases wpI_exit (id := id) h2 with ⟨g1, g2⟩ | ⟨k', cs', g1, g2, g3⟩
        · exact .inl ⟨g1, fun a w hh => g2 a w hh⟩
        · exact .inr ⟨k', cs', g1, g2, fun a w hh => g3 a w hh⟩
      | reg ops is =>
        rw [exk_skip (cOps_noEnd h1)]
        rcases wpI_exit (id := id) h2 with ⟨g1, g2⟩ | ⟨k', cs', g1, g2, g3⟩
        · exact .inl ⟨g1, fun a w hh => g2 a w hh⟩
        · exact .inr ⟨k', cs', g1, g2, fun a w hh => g3 a w hh⟩
      | endb j =>
        simp only [cI] at h1
        cases h1
        by_cases e : j = id
        · subst e
          refine .inr ⟨q, r, by simp [exk], h2, fun a w hh => ?_⟩
          show (if j = j then wpI P r Q .normal a w else wpI P r Q (.exit j) a w)
          rw [if_pos rfl]; exact hh
        · have e' : Nat.beq j id = false := by
            cases hb : Nat.beq j id with
            | true => exact absurd (Nat.eq_of_beq_eq_true hb) e
            | false => rfl
          have : exk id ([C.endb j] ++ q) = exk id q := by simp [exk, e']
          rw [this]
          rcases wpI_exit (id := id) h2 with ⟨g1, g2⟩ | ⟨k', cs', g1, g2, g3⟩
          · refine .inl ⟨g1, fun a w hh => ?_⟩
            show (if id = j then wpI P r Q .normal a w else wpI P r Q (.exit id) a w)
            rw [if_neg (Ne.symm e)]; exact g2 a w hh
          · refine .inr ⟨k', cs', g1, g2, fun a w hh => ?_⟩
            show (if id = j then wpI P r Q .normal a w else wpI P r Q (.exit id) a w)
            rw [if_neg (Ne.symm e)]; exact g3 a w hh
    · cases h

theorem cOp_inv {n : Nat} {ops : Array Oper} {i : Nat} {c : C} (h : cOp P n ops i = some c) :
    ∃ o g x, ops[i]? = some o ∧ gd ops o = some g ∧ cO P o = some x ∧ c = .op g o.dst x ∧ ∀ d, o.dst = some d → d < n := by
  unfold cOp at h
  split at h
  · cases h
  · rename_i o ho
    split at h
    · rename_i g x hg hx
      split at h
      · rename_i hd; cases h; exact ⟨o, g, x, ho, hg, hx, by rw [hd], fun d hd' => by rw [hd] at hd'; cases hd'⟩
      · rename_i d hd
        split at h
        · rename_i hlt; cases h; exact ⟨o, g, x, ho, hg, hx, by rw [hd], fun d' hd' => by rw [hd] at hd'; cases hd'; exact hlt⟩
        · cases h
    · cases h

inductive View (P : Program) (n : Nat) (cs : List Itm) : List C → Prop where
  | nil (h : ∀ Q a w, Q .normal a w → wpI P cs Q .normal a w) : View P n cs []
  | op {ops : Array Oper} {i : Nat} {is : List Nat} {r : List Itm} {g : Option (Nat × Bool)} {d : Option Nat} {o : O} {k : List C} (hc : cOp P n ops i = some (.op g d o)) (hr : cIs P n (.reg ops is :: r) = some k)
      (h : ∀ Q a w, wpI P (.reg ops (i :: is) :: r) Q .normal a w → wpI P cs Q .normal a w) : View P n cs (.op g d o :: k)
  | cond {x : Operand} {y : Opd} {a b : Code} {p q : List C} {r : List Itm} {k : List C} (hx : cOpd x = some y) (ha : cC P n a = some p) (hb : cC P n b = some q) (hr : cIs P n r = some k)
      (h : ∀ Q act w, wpI P (.code (.cond x a b) :: r) Q .normal act w → wpI P cs Q .normal act w) : View P n cs (.cond y p q :: k)
  | blk {id : Nat} {b : Code} {p : List C} {r : List Itm} {k : List C} (hb : cC P n b = some p) (hr : cIs P n r = some k)
      (h : ∀ Q act w, wpI P (.code b :: .endb id :: r) Q .normal act w → wpI P cs Q .normal act w) : View P n cs (.blk id p :: k)
  | endb {id : Nat} {r : List Itm} {k : List C} (hr : cIs P n r = some k)
      (h : ∀ Q act w, wpI P r Q .normal act w → wpI P cs Q .normal act w) : View P n cs (.endb id :: k)
  | loop {b : Code} {p : List C} {r : List Itm} {k : List C} (hb : cC P n b = some p) (hr : cIs P n r = some k)
      (h : ∀ Q act w, wpI P (.code (.loop b) :: r) Q .normal act w → wpI P cs Q .normal act w) : View P n cs (.loop p :: k)
  | exit {id : Nat} {r : List Itm} {k : List C} (hr : cIs P n r = some k)
      (h : ∀ Q act w, wpI P r Q (.exit id) act w → wpI P cs Q .normal act w) : View P n cs (.exit id :: k)
  | ret {r : List Itm} {k : List C} (hr : cIs P n r = some k) (h : ∀ Q act w, Q .ret act w → wpI P cs Q .normal act w) : View P n cs (.ret :: k)
  | draw {id : Nat} {ops : Array Oper} {l : List (Option (Nat × Bool) × Option Nat × O × List Nat)} {r : List Itm} {k : List C} (hl : cDraw P n ops (List.range ops.size) = some l) (hr : cIs P n r = some k)
      (h : ∀ Q act w, wpI P (.code (.region id ops true) :: r) Q .normal act w → wpI P cs Q .normal act w) : View P n cs (.draw l :: k)

theorem wpI_ret {Q : Exit → Act → World → Prop} {a : Act} {w : World} (h : Q .ret a w) : ∀ (r : List Itm), wpI P r Q .ret a w
  | [] => h
  | .code _ :: r => wpI_ret h r
  | .reg _ _ :: r => wpI_ret h r
  | .endb _ :: r => wpI_ret h r

def csz : Code → Nat
  | .seq a b => csz a + csz b + 3
  | _ => 1
def Itm.size : Itm → Nat
  | .code c => csz c
  | .reg _ is => 1 + is.length
  | .endb _ => 1
def sizes : List Itm → Nat
  | [] => 0
  | x :: r => 1 + x.size + sizes r

theorem View.pre {n : Nat} {cs cs' : List Itm} {l : List C} (v : View P n cs' l) (h : ∀ Q a w, wpI P cs' Q .normal a w → wpI P cs Q .normal a w) : View P n cs l := by
  cases v with
  | nil g => exact .nil fun Q a w x => h Q a w (g Q a w x)
  | op a b g => exact .op a b fun Q a w x => h Q a w (g Q a w x)
  | cond a b c d g => exact .cond a b c d fun Q a w x => h Q a w (g Q a w x)
  | blk a b g => exact .blk a b fun Q a w x => h Q a w (g Q a w x)
  | endb a g => exact .endb a fun Q a w x => h Q a w (g Q a w x)
  | loop a b g => exact .loop a b fun Q a w x => h Q a w (g Q a w x)
  | exit a g => exact .exit a fun Q a w x => h Q a w (g Q a w x)
  | ret a g => exact .ret a fun Q a w x => h Q a w (g Q a w x)
  | draw a b g => exact .draw a b fun Q a w x => h Q a w (g Q a w x)

theorem cIs_cons {n : Nat} {x : Itm} {r : List Itm} {p q : List C} (h1 : cI P n x = some p) (h2 : cIs P n r = some q) : cIs P n (x :: r) = some (p ++ q) := by
  simp [cIs, h1, h2]

theorem view_of (P : Program) (n : Nat) : ∀ (N : Nat) (cs : List Itm) (l : List C), sizes cs ≤ N → cIs P n cs = some l → View P n cs l
  | 0, [], l, _, h => by simp [cIs] at h; subst h; exact .nil fun _ _ _ h => h
  | 0, x :: r, l, hN, h => by simp [sizes] at hN
  | N + 1, [], l, _, h => by simp [cIs] at h; subst h; exact .nil fun _ _ _ h => h
  | N + 1, .endb id :: r, l, hN, h => by
    simp only [cIs, cI] at h
    split at h
    · rename_i p q h1 h2
      cases h1; cases h
      exact .endb h2 fun Q a w x => x
    · cases h
  | N + 1, .reg ops [] :: r, l, hN, h => by
    simp only [cIs, cI, cOps] at h
    split at h
    · rename_i p q h1 h2
      cases h1; cases h
      exact (view_of P n N r q (by simp [sizes] at hN ⊢; omega) h2).pre fun Q a w x => wpI_nil x
    · cases h
  | N + 1, .reg ops (i :: is) :: r, l, hN, h => by
    simp only [cIs, cI, cOps] at h
    split at h
    · rename_i p q h1 h2
      split at h1
      · rename_i c cs h3 h4
        cases h1; cases h
        obtain ⟨o0, g, x0, _, _, _, rfl, _⟩ := cOp_inv h3
        exact .op h3 (cIs_cons (x := .reg ops is) h4 h2) fun Q a w x => x
      · cases h1
    · cases h
  | N + 1, .code c :: r, l, hN, h => by
    simp only [cIs, cI] at h
    split at h
    · rename_i p q h1 h2
      cases h
      simp only [sizes, Itm.size] at hN
      match c, h1, hN with
      | .skip, h1, hN =>
        simp only [cC] at h1; cases h1
        exact (view_of P n N r q (by omega) h2).pre fun Q a w x => wpI_skip x
      | .region id ops false, h1, hN =>
        simp only [cC] at h1
        cases hops : List.range ops.size with
        | nil =>
          rw [hops] at h1
          simp only [cOps] at h1; cases h1
          exact (view_of P n N r q (by omega) h2).pre fun Q a w x => wpI_region (by rw [hops]; exact x)
        | cons i is =>
          rw [hops] at h1
          simp only [cOps] at h1
          split at h1
          · rename_i c' cs' h3 h4
            cases h1
            obtain ⟨o0, g, x0, _, _, _, rfl, _⟩ := cOp_inv h3
            exact .op h3 (cIs_cons (x := .reg ops is) h4 h2) fun Q a w x => wpI_region (by rw [hops]; exact x)
          · cases h1
      | .region id ops true, h1, hN =>
        simp only [cC, Option.map_eq_some_iff] at h1
        obtain ⟨l, hl, rfl⟩ := h1
        exact .draw hl h2 fun Q a w x => x
      | .seq a b, h1, hN =>
        simp only [cC] at h1
        split at h1
        · rename_i x y g1 g2
          cases h1
          refine (view_of P n N (.code a :: .code b :: r) _ ?_ (cIs_cons (x := .code a) g1 (cIs_cons (x := .code b) g2 h2))).pre (fun Q a w x => wpI_seq x) |> fun v => by rw [List.append_assoc]; exact v
          simp only [sizes, Itm.size, csz] at hN ⊢; omega
        · cases h1
      | .cond x a b, h1, hN =>
        simp only [cC] at h1
        split at h1
        · rename_i y p' q' g1 g2 g3
          cases h1
          exact .cond g1 g2 g3 h2 fun Q a w x => x
        · cases h1
      | .block id b, h1, hN =>
        simp only [cC, Option.map_eq_some_iff] at h1
        obtain ⟨x, hx, rfl⟩ := h1
        exact .blk hx h2 fun Q a w x => wpI_block x
      | .loop b, h1, hN =>
        simp only [cC, Option.map_eq_some_iff] at h1
        obtain ⟨x, hx, rfl⟩ := h1
        exact .loop hx h2 fun Q a w x => x
      | .exit id, h1, hN =>
        simp only [cC] at h1; cases h1
        exact .exit h2 fun Q a w x => wp_exit x
      | .ret, h1, hN =>
        simp only [cC] at h1; cases h1
        exact .ret h2 fun Q a w x => wp_ret (wpI_ret x r)
      | .rangeFunc _ _ _ _, h1, hN => simp [cC] at h1
      | .scope _, h1, hN => simp [cC] at h1
      | .label _, h1, hN => simp [cC] at h1
      | .goto _, h1, hN => simp [cC] at h1
      | .refuse _, h1, hN => simp [cC] at h1
    · cases h

/-! ### what it means that code is right -/
structure Anch where
  φ0 : Fz
  σ0 : Sg
  w0 : World
  O : Nat → Prop
structure Good (A : Anch) (n k0 : Nat) (φ : Fz) (σ : Sg) (m : Mem) (w : World) (t : Tr) (a : Act) : Prop where
  fz : A.φ0.le φ
  sg : ∀ b, b < k0 → σ b = A.σ0 b
  inv : Inv φ σ m w
  tr : TR φ σ t a.tmps
  sz : a.tmps.size = n
  df : a.defers = []
  grow : A.w0.heap.size ≤ w.heap.size
  kept : ∀ B, B < A.w0.heap.size → ¬ A.O B → w.heap[B]? = A.w0.heap[B]?
  own : ∀ b k i, m[b]? = some k → k.owned = true → σ b = some i → A.O i.B ∨ A.w0.heap.size ≤ i.B
  len : k0 ≤ m.length
  ice : ∀ B, A.φ0 B = none → B < A.w0.heap.size → ¬ A.O B → φ B = none
  env : Env A.w0 w
def Lift (A : Anch) (n k0 : Nat) (Q : Exit → Tr → Mem → Prop) : Exit → Act → World → Prop := fun e a w => ∃ φ σ t m, Q e t m ∧ Good A n k0 φ σ m w t a
def SemW (P : Program) (n k0 : Nat) (todo : List C) (t : Tr) (m : Mem) (Q : Exit → Tr → Mem → Prop) : Prop :=
  ∀ cs, cIs P n cs = some todo → ∀ (A : Anch) (φ : Fz) (σ : Sg) (a : Act) (w : World), Good A n k0 φ σ m w t a → wpI P cs (Lift A n k0 Q) .normal a w

theorem Good.step {A : Anch} {n k0 : Nat} {φ φ' : Fz} {σ σ' : Sg} {m m' : Mem} {w w' : World} {t t' : Tr} {a a' : Act} (h : Good A n k0 φ σ m w t a) (hs : Stp φ σ m w φ' σ' m' w')
    (ht : TR φ' σ' t' a'.tmps) (hz : a'.tmps.size = n) (hd : a'.defers = []) : Good A n k0 φ' σ' m' w' t' a' where
  fz := Fz.le_trans h.fz hs.fz
  sg := fun b hb => by
    rw [← h.sg b hb]; exact hs.old b (Nat.lt_of_lt_of_le hb h.len)
  inv := hs.inv
  tr := ht
  sz := hz
  df := hd
  grow := Nat.le_trans h.grow hs.size
  kept := fun B hB hO => by
    rw [← h.kept B hB hO]
    refine hs.frame B (Nat.lt_of_lt_of_le hB h.grow) fun b k i h1 h2 h3 e => ?_
    rcases h.own b k i h1 h2 h3 with h' | h'
    · rw [e] at h'; exact hO h'
    · omega
  own := fun b k i h1 h2 h3 => by
    rcases hs.own b k i h1 h2 h3 with ⟨c, l, j, g1, g2, g3, g4⟩ | g
    · rw [← g4]; exact h.own c l j g1 g2 g3
    · exact .inr (Nat.le_trans h.grow g)
  len := Nat.le_trans h.len hs.len
  env := Env.trans h.env hs.env
  ice := fun B hB hlt hO => by
    refine hs.ice B (h.ice B hB hlt hO) (Nat.lt_of_lt_of_le hlt h.grow) fun b k i h1 h2 h3 e => ?_
    rcases h.own b k i h1 h2 h3 with h' | h'
    · rw [e] at h'; exact hO h'
    · omega
end Go.AE
