/- The abstract evaluator: AEn in one. -/
import Derived.Test.YthdkobfafncpcaaDoorAEm
import Derived.Deep.LoopGhost
/- The abstract evaluator, part n: the evaluator is right; rules for what it stops at. -/
namespace Go.AE
open Go
set_option linter.unusedVariables false
set_option linter.unusedSimpArgs false

variable {P : Program} {n k0 : Nat}

def gok (t : Tr) : Option (Nat × Bool) → Option Bool
  | none => some true
  | some (j, w) => match t.get j with
    | some (.bool b) => some (b == w)
    | some (.tup _) => some false
    | _ => none
theorem gok_ok {φ : Fz} {σ : Sg} {t : Tr} {a : Act} (ht : TR φ σ t a.tmps) {ops : Array Oper} {o : Oper} {g : Option (Nat × Bool)} (hg : gd ops o = some g) {b : Bool} (hb : gok t g = some b) :
    Region.wanted o (yielded ops a.tmps) = b := by
  unfold gd at hg
  split at hg
  · rename_i h0
    cases hg
    simp [gok] at hb
    simp [Region.wanted, h0, hb]
  · rename_i j w h0
    simp only [Option.map_eq_some_iff] at hg
    obtain ⟨d, hd, rfl⟩ := hg
    simp only [gok] at hb
    split at hb
    · rename_i x hx
      obtain ⟨v', h1, h2⟩ := ht d _ hx
      cases h2
      cases hb
      simp [Region.wanted, h0, yielded, hd, h1]
    · rename_i x hx
      obtain ⟨v', h1, h2⟩ := ht d _ hx
      cases h2
      cases hb
      simp [Region.wanted, h0, yielded, hd, h1]
    · cases hb

theorem put_size {a : Act} {d : Option Tmp} {v : Value} : (a.put d v).tmps.size = a.tmps.size := by
  cases d <;> simp [Act.put]
theorem put_defers {a : Act} {d : Option Tmp} {v : Value} : (a.put d v).defers = a.defers := by
  cases d <;> rfl
theorem TR.sp {φ : Fz} {σ : Sg} {t : Tr} {a : Act} (h : TR φ σ t a.tmps) {d : Option Nat} (hd : ∀ i, d = some i → i < a.tmps.size) {v : AV} {v' : Value} (hv : VR φ σ v v') :
    TR φ σ (sp d t v) (a.put d v').tmps := by
  cases d with
  | none => exact h
  | some i => exact h.set (hd i rfl) hv

theorem Good.put {A : Anch} {φ φ' : Fz} {σ σ' : Sg} {m m' : Mem} {w w' : World} {t : Tr} {a : Act} (h : Good A n k0 φ σ m w t a) (hs : Stp φ σ m w φ' σ' m' w') {d : Option Nat} (hd : ∀ i, d = some i → i < n)
    {v : AV} {v' : Value} (hv : VR φ' σ' v v') : Good A n k0 φ' σ' m' w' (sp d t v) (a.put d v') :=
  h.step hs ((h.tr.mono hs.fz hs.sg).sp (fun i hi => by rw [h.sz]; exact hd i hi) hv) (by rw [put_size, h.sz]) (by rw [put_defers, h.df])

theorem sem_op {g : Option (Nat × Bool)} {d : Option Nat} {o : O} {k : List C} {t : Tr} {m m' : Mem} {Q : Exit → Tr → Mem → Prop} {p : Prop} {v : AV}
    (hg : gok t g = some true) (he : ao o t m = some (p, v, m')) (hp : p) (hk : SemW P n k0 k (sp d t v) m' Q) : SemW P n k0 (.op g d o :: k) t m Q := by
  intro cs hcs A φ σ a w hG
  cases view_of P n _ cs _ (Nat.le_refl _) hcs with
  | op hc hr h =>
    rename_i ops i is r
    refine h _ a w ?_
    obtain ⟨o0, g', x, ho, hgd, hx, e, hd⟩ := cOp_inv hc
    cases e
    have hw := gok_ok hG.tr hgd hg
    obtain ⟨v', w', φ', σ', hrun, hst, hv⟩ := ao_ok hG.inv hG.tr hx he hp
    have hG' := hG.put hst (d := o0.dst) (fun i hi => hd i hi) hv
    have hk' := hk _ hr A φ' σ' _ w' hG'
    show wpOps P ops _ (i :: is) a w
    simp only [wpOps, ho, hw, if_true]
    refine .inl ?_
    unfold Oper.wp
    rcases hrun with hrun | ⟨hrun, rfl⟩ <;> rw [hrun] <;> exact hk'
theorem sem_skip {g : Option (Nat × Bool)} {d : Option Nat} {o : O} {k : List C} {t : Tr} {m : Mem} {Q : Exit → Tr → Mem → Prop}
    (hg : gok t g = some false) (hk : SemW P n k0 k (sp d t (.tup [])) m Q) : SemW P n k0 (.op g d o :: k) t m Q := by
  intro cs hcs A φ σ a w hG
  cases view_of P n _ cs _ (Nat.le_refl _) hcs with
  | op hc hr h =>
    rename_i ops i is r
    refine h _ a w ?_
    obtain ⟨o0, g', x, ho, hgd, hx, e, hd⟩ := cOp_inv hc
    cases e
    have hw := gok_ok hG.tr hgd hg
    have hG' := hG.put (.refl hG.inv) (d := o0.dst) (fun i hi => hd i hi) (v := .tup []) (v' := undef) (.tup .nil)
    have hk' := hk _ hr A φ σ _ w hG'
    show wpOps P ops _ (i :: is) a w
    simp only [wpOps, ho, hw, Bool.false_eq_true, if_false]
    exact hk'

theorem sem_nil {t : Tr} {m : Mem} {Q : Exit → Tr → Mem → Prop} (h : Q .normal t m) : SemW P n k0 [] t m Q := by
  intro cs hcs A φ σ a w hG
  cases view_of P n _ cs _ (Nat.le_refl _) hcs with
  | nil h' => exact h' _ a w ⟨φ, σ, t, m, h, hG⟩
theorem sem_ret {k : List C} {t : Tr} {m : Mem} {Q : Exit → Tr → Mem → Prop} (h : Q .ret t m) : SemW P n k0 (.ret :: k) t m Q := by
  intro cs hcs A φ σ a w hG
  cases view_of P n _ cs _ (Nat.le_refl _) hcs with
  | ret hr h' => exact h' _ a w ⟨φ, σ, t, m, h, hG⟩
theorem sem_endb {id : Nat} {k : List C} {t : Tr} {m : Mem} {Q : Exit → Tr → Mem → Prop} (h : SemW P n k0 k t m Q) : SemW P n k0 (.endb id :: k) t m Q := by
  intro cs hcs A φ σ a w hG
  cases view_of P n _ cs _ (Nat.le_refl _) hcs with
  | endb hr h' => exact h' _ a w (h _ hr A φ σ a w hG)
theorem sem_blk {id : Nat} {b k : List C} {t : Tr} {m : Mem} {Q : Exit → Tr → Mem → Prop} (h : SemW P n k0 (b ++ .endb id :: k) t m Q) : SemW P n k0 (.blk id b :: k) t m Q := by
  intro cs hcs A φ σ a w hG
  cases view_of P n _ cs _ (Nat.le_refl _) hcs with
  | blk hb hr h' =>
    refine h' _ a w (h _ ?_ A φ σ a w hG)
    exact cIs_cons (x := .code _) hb (cIs_cons (x := .endb id) (p := [.endb id]) rfl hr)
theorem sem_exit {id : Nat} {k : List C} {t : Tr} {m : Mem} {Q : Exit → Tr → Mem → Prop} (h : match exk id k with | some k' => SemW P n k0 k' t m Q | none => Q (.exit id) t m) : SemW P n k0 (.exit id :: k) t m Q := by
  intro cs hcs A φ σ a w hG
  cases view_of P n _ cs _ (Nat.le_refl _) hcs with
  | exit hr h' =>
    refine h' _ a w ?_
    rcases wpI_exit (id := id) hr with ⟨g1, g2⟩ | ⟨k', cs', g1, g2, g3⟩
    · rw [g1] at h
      exact g2 a w ⟨φ, σ, t, m, h, hG⟩
    · rw [g1] at h
      exact g3 a w (h cs' g2 A φ σ a w hG)
theorem sem_cond {x : Opd} {p q k : List C} {t : Tr} {m : Mem} {Q : Exit → Tr → Mem → Prop} {b : Bool} (hx : ev t x = some (.bool b) ∨ ev t x = some (.bsym b))
    (h1 : b = true → SemW P n k0 (p ++ k) t m Q) (h2 : b = false → SemW P n k0 (q ++ k) t m Q) : SemW P n k0 (.cond x p q :: k) t m Q := by
  intro cs hcs A φ σ a w hG
  cases view_of P n _ cs _ (Nat.le_refl _) hcs with
  | cond hx' ha hb hr h' =>
    refine h' _ a w ?_
    rename_i x0 ca cb r
    have hv : a.eval x0 = .bool b := by
      rcases hx with hx | hx
      · have := ev_ok hG.tr hx' hx; generalize a.eval x0 = vv at this; cases this; rfl
      · have := ev_ok hG.tr hx' hx; generalize a.eval x0 = vv at this; cases this; rfl
    refine wp_cond hv ?_
    cases b with
    | true => exact h1 rfl _ (cIs_cons (x := .code _) ha hr) A φ σ a w hG
    | false => exact h2 rfl _ (cIs_cons (x := .code _) hb hr) A φ σ a w hG

theorem sem_split {k : List C} {t : Tr} {m : Mem} {Q : Exit → Tr → Mem → Prop} (j : Nat) {b : Bool} (hj : t.get j = some (.bsym b))
    (h1 : b = true → SemW P n k0 k (t.set j (.bool true)) m Q) (h2 : b = false → SemW P n k0 k (t.set j (.bool false)) m Q) : SemW P n k0 k t m Q := by
  intro cs hcs A φ σ a w hG
  obtain ⟨v', g1, g2⟩ := hG.tr j _ hj
  cases g2
  have hlt : j < a.tmps.size := by
    rcases Nat.lt_or_ge j a.tmps.size with h | h
    · exact h
    · rw [Array.getElem?_eq_none h] at g1; cases g1
  have hsame : a.tmps.setIfInBounds j (.bool b) = a.tmps := by
    apply Array.ext'
    apply List.ext_getElem?
    intro q
    rw [Array.toList_setIfInBounds, List.getElem?_set]
    split
    · rename_i e; subst e
      have : a.tmps.toList[j]? = some (.bool b) := by simpa using g1
      rw [this]; simp [hlt]
    · rfl
  have key : ∀ u, VR φ σ u (.bool b) → Good A n k0 φ σ m w (t.set j u) a := fun u hu =>
    ⟨hG.fz, hG.sg, hG.inv, by have := hG.tr.set hlt hu; rwa [hsame] at this, hG.sz, hG.df, hG.grow, hG.kept, hG.own, hG.len, hG.ice, hG.env⟩
  cases b with
  | true => exact h1 rfl cs hcs A φ σ a w (key _ .bool)
  | false => exact h2 rfl cs hcs A φ σ a w (key _ .bool)

theorem run_ok : ∀ (fuel : Nat) (k : List C) (t : Tr) (m : Mem) (Q : Exit → Tr → Mem → Prop), exec (SemW P n k0) fuel k t m Q → SemW P n k0 k t m Q
  | 0, k, t, m, Q, h => h
  | f + 1, [], t, m, Q, h => sem_nil h
  | f + 1, c :: k, t, m, Q, h => by
    cases c with
    | ret => exact sem_ret h
    | endb id => exact sem_endb (run_ok f _ _ _ _ h)
    | blk id b => exact sem_blk (run_ok f _ _ _ _ h)
    | exit id =>
      refine sem_exit ?_
      simp only [exec] at h
      split at h
      · rename_i k' hk; rw [hk]; exact run_ok f _ _ _ _ h
      · rename_i hk; rw [hk]; exact h
    | cond x a b =>
      simp only [exec] at h
      split at h
      · rename_i hx; exact sem_cond (.inl hx) (fun _ => run_ok f _ _ _ _ h) (fun e => by cases e)
      · rename_i hx; exact sem_cond (.inl hx) (fun e => by cases e) (fun _ => run_ok f _ _ _ _ h)
      · rename_i hx; exact sem_cond (.inr hx) (fun e => run_ok f _ _ _ _ (h.1 e)) (fun e => run_ok f _ _ _ _ (h.2 e))
      · exact h
    | op g d o =>
      simp only [exec] at h
      have done : ∀ {g : Option (Nat × Bool)}, gok t g = some true → (match ao o t m with
          | some (p, v, m') => p ∧ exec (SemW P n k0) f k (sp d t v) m' Q
          | none => SemW P n k0 (.op g d o :: k) t m Q) → SemW P n k0 (.op g d o :: k) t m Q := by
        intro g hg h
        split at h
        · rename_i p v m' he
          exact sem_op hg he h.1 (run_ok f _ _ _ _ h.2)
        · exact h
      split at h
      · exact done rfl h
      · rename_i j w1
        split at h
        · rename_i hj; exact done (by simp [gok, hj]) h
        · rename_i hj; exact done (by simp [gok, hj]) h
        · rename_i b hj hn1 hn2
          refine sem_skip ?_ (run_ok f _ _ _ _ h)
          simp only [gok, hj]
          have key : ∀ w : Bool, (w = true → b = true → False) → (w = false → b = false → False) → (b == w) = false := by
            intro w h1 h2
            cases b <;> cases w <;> first | rfl | exact (h1 rfl rfl).elim | exact (h2 rfl rfl).elim
          exact congrArg some (key _ (fun e1 e2 => by subst e2; exact hn1 e1 rfl) (fun e1 e2 => by subst e2; exact hn2 e1 rfl))
        · rename_i q hj
          exact sem_skip (by simp [gok, hj]) (run_ok f _ _ _ _ h)
        · rename_i q hj; exact sem_split j hj (fun e => run_ok f _ _ _ _ (h.1 e)) (fun e => run_ok f _ _ _ _ (h.2 e))
        · exact h
    | loop b => exact h
    | draw r => exact h

theorem wpI_other {Q : Exit → Act → World → Prop} {a : Act} {w : World} {e : Exit} (h1 : e ≠ .normal) (h2 : ∀ id, e ≠ .exit id) (h : Q e a w) : ∀ (r : List Itm), wpI P r Q e a w
  | [] => h
  | .code _ :: r => by
    have := wpI_other h1 h2 h r
    cases e <;> first | exact absurd rfl h1 | exact absurd rfl (h2 _) | exact this
  | .reg _ _ :: r => by
    have := wpI_other h1 h2 h r
    cases e <;> first | exact absurd rfl h1 | exact absurd rfl (h2 _) | exact this
  | .endb _ :: r => by
    have := wpI_other h1 h2 h r
    cases e <;> first | exact absurd rfl h1 | exact absurd rfl (h2 _) | exact this

def Nxt (P : Program) (n k0 : Nat) (k : List C) (Q : Exit → Tr → Mem → Prop) (N : Tr → Mem → Prop) (e : Exit) (t : Tr) (m : Mem) : Prop := match e with
  | .normal => N t m
  | .exit id => (match exk id k with
    | some k' => SemW P n k0 k' t m Q
    | none => Q (.exit id) t m)
  | e => Q e t m
theorem sem_loop {α : Type} (I : α → Tr → Mem → Prop) (μ : α → Nat) {b k : List C} {t : Tr} {m : Mem} {Q : Exit → Tr → Mem → Prop} (x0 : α) (h0 : I x0 t m)
    (round : ∀ x t m, I x t m → SemW P n k0 b t m (Nxt P n k0 k Q fun t' m' => ∃ y, μ y < μ x ∧ I y t' m')) : SemW P n k0 (.loop b :: k) t m Q := by
  intro cs hcs A φ σ a w hG
  cases view_of P n _ cs _ (Nat.le_refl _) hcs with
  | loop hb hr h' =>
    rename_i cb r
    refine h' _ a w ?_
    refine wp_loop_ghost (fun N a w => ∃ x t m φ σ, μ x = N ∧ I x t m ∧ Good A n k0 φ σ m w t a) (μ x0) ⟨x0, t, m, φ, σ, rfl, h0, hG⟩ ?_
    rintro N a w ⟨x, t, m, φ, σ, rfl, hI, hG⟩
    have hb' : cIs P n [.code cb] = some b := by
      have := cIs_cons (P := P) (n := n) (x := .code cb) (r := []) (q := []) hb rfl
      rw [List.append_nil] at this; exact this
    have hr' := round x t m hI _ hb' A φ σ a w hG
    refine wp_mono hr' ?_
    rintro e a' w' ⟨φ', σ', t', m', hq, hG'⟩
    cases e with
    | normal =>
      obtain ⟨y, hy, hIy⟩ := hq
      exact ⟨μ y, hy, y, t', m', φ', σ', rfl, hIy, hG'⟩
    | exit id =>
      show wpI P r _ (.exit id) a' w'
      rcases wpI_exit (id := id) hr with ⟨g1, g2⟩ | ⟨k', cs', g1, g2, g3⟩
      · simp only [Nxt] at hq
        rw [g1] at hq
        exact g2 a' w' ⟨φ', σ', t', m', hq, hG'⟩
      · simp only [Nxt] at hq
        rw [g1] at hq
        exact g3 a' w' (hq cs' g2 A φ' σ' a' w' hG')
    | goto l => exact wpI_other (fun e => by cases e) (fun _ e => by cases e) ⟨φ', σ', t', m', hq, hG'⟩ r
    | ret => exact wpI_ret ⟨φ', σ', t', m', hq, hG'⟩ r
    | panic ch => exact wpI_other (fun e => by cases e) (fun _ e => by cases e) ⟨φ', σ', t', m', hq, hG'⟩ r
    | outgrown => exact wpI_other (fun e => by cases e) (fun _ e => by cases e) ⟨φ', σ', t', m', hq, hG'⟩ r
end Go.AE
