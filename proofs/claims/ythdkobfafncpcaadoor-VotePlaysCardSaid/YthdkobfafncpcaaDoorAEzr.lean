/- The abstract evaluator: AEzr in one. -/
import Derived.Test.YthdkobfafncpcaaDoorAEzq
/- The abstract evaluator, part zr: regions whose order is free at some places: a tree of orders. -/
namespace Go.AE
open Go
set_option linter.unusedVariables false
set_option linter.unusedSimpArgs false

variable {P : Program} {n k0 : Nat} {r : List It} {T : List (Nat × Nat)} {ord0 pre ord : List (Nat × Bool)} {A : Anch} {listed : Array Bool} {lag : List (Nat × AV)} {t : Tr} {m : Mem} {φ : Fz} {σ : Sg} {a : Act} {w : World}

inductive OT where
  | nil
  | cons (i : Nat) (s : Bool) (o : OT)
  | br (c1 : Nat) (a : OT) (c2 : Nat) (b : OT)
def OT.main : OT → List (Nat × Bool)
  | .nil => []
  | .cons i s o => (i, s) :: o.main
  | .br c1 a _ _ => (c1, true) :: a.main
def DT (P : Program) (r : List It) (K : Tr → Mem → Prop) : OT → RF
  | .nil => fun _ t m => K t m
  | .cons i s o => fun lag t m => DX1 P r (DT P r K o) i s lag t m
  | .br c1 a c2 b => fun lag t m => DX1 P r (DT P r K a) c1 true lag t m ∧ DX1 P r (DT P r K b) c2 true lag t m
def OKT (P : Program) (n : Nat) (ops : Array Oper) (r : List It) : OT → List (Nat × Bool) → (Nat → Nat → Bool) → Prop
  | .nil, pre, E => ∃ T, DOk P n ops r T pre E
  | .cons i s o, pre, E => OKT P n ops r o (pre ++ [(i, s)]) E
  | .br c1 a c2 b, pre, E => c1 ≠ c2 ∧ OKT P n ops r a (pre ++ [(c1, true)]) (fun x y => E x y || (Nat.beq x c1 && Nat.beq y c2)) ∧ OKT P n ops r b (pre ++ [(c2, true)]) (fun x y => E x y || Nat.beq x c2) ∧
      (c2, true) ∈ a.main ∧ ∀ x ∈ b.main, x = (c1, true) ∨ x ∈ a.main
theorem main_ok {ops : Array Oper} : ∀ (o : OT) (pre : List (Nat × Bool)) (E : Nat → Nat → Bool), OKT P n ops r o pre E →
    ∃ T E', DOk P n ops r T (pre ++ o.main) E' ∧ ∀ x y, E' x y = true → E x y = true ∨ (x, true) ∈ o.main
  | .nil, pre, E, h => by
    obtain ⟨T, h⟩ := h
    exact ⟨T, E, by simpa [OT.main] using h, fun x y e => .inl e⟩
  | .cons i s o, pre, E, h => by
    obtain ⟨T, E', h1, h2⟩ := main_ok o _ _ h
    refine ⟨T, E', by simpa [OT.main] using h1, fun x y e => ?_⟩
    rcases h2 x y e with h | h
    · exact .inl h
    · exact .inr (List.mem_cons_of_mem _ h)
  | .br c1 a c2 b, pre, E, h => by
    obtain ⟨T, E', h1, h2⟩ := main_ok a _ _ h.2.1
    refine ⟨T, E', by simpa [OT.main] using h1, fun x y e => ?_⟩
    rcases h2 x y e with h | h
    · simp only [Bool.or_eq_true, Bool.and_eq_true] at h
      rcases h with h | ⟨h, _⟩
      · exact .inl h
      · rw [Nat.eq_of_beq_eq_true h]; exact .inr (by simp [OT.main])
    · exact .inr (List.mem_cons_of_mem _ h)
theorem spine_stepR {ops : Array Oper} {E : Nat → Nat → Bool} (H : DOk P n ops r T ord0 E) {Q : Exit → Act → World → Prop} {KK : Act → World → Prop} {R : RF} {i : Nat} {g : Option (Nat × Bool)} {d : Option Nat} {c : O} {o : Oper}
    (D : DS r A n k0 ord0 listed pre ((i, true) :: ord) lag t m φ σ a w) (h : DX1 P r R i true lag t m) (hil : i < listed.size) (hc : cOp P n ops i = some (.op g d c)) (hit : ig r i = some (g, d, c, preds o))
    (hp : ∀ p ∈ preds o, listed.getD p false = true) (hd : ∀ k, d = some k → k < n)
    (next : ∀ lag t m φ σ a w, DS r A n k0 ord0 (listed.setIfInBounds i true) (pre ++ [(i, true)]) ord lag t m φ σ a w → R lag t m → KK a w) : wpOp P ops Q i KK a w := by
  obtain ⟨t', D', hh⟩ := DX1_head D h hit
  have hsame : ∀ k ∈ rds (g, d, c, preds o), t'.get k = (vis r lag listed t').get k := fun k hk => (vis_get (not_bad H D' (s := true) (by rw [D.split]; simp) hit hp hk)).symm
  rcases hh with ⟨hg, hgo⟩ | ⟨hg, hgo⟩
  · refine wpOp_step hc (gk_gok.1 (by rw [← gk_same hsame]; exact hg)) D'.good (Step1_congr (ev_same hsame) (goW_step hgo)) ?_
    rintro φ' σ' v v' m' w' ⟨hre, hR⟩ hst hvr
    exact next _ _ _ φ' σ' _ _ (D'.come H hit hil hp hd hst hvr hre) hR
  · obtain ⟨hre, hR⟩ := hgo
    exact wpOp_skip hc (gk_gok.2 (by rw [← gk_same hsame]; exact hg)) D'.good (next _ _ _ φ σ _ _ (D'.come H hit hil hp hd (.refl D'.good.inv) (.tup .nil) hre) hR)
theorem DS.to {ord1 ord' : List (Nat × Bool)} (D : DS r A n k0 ord0 listed pre ord lag t m φ σ a w) (e : ord1 = pre ++ ord') (hs : ∀ x ∈ ord', x ∈ ord) : DS r A n k0 ord1 listed pre ord' lag t m φ σ a w :=
  ⟨e, D.re, fun x hx => D.unl x (hs x hx), D.lagd, D.laq, D.lav, D.dc, D.good⟩
theorem DT_sound {ops : Array Oper} {K : Tr → Mem → Prop} {Q : Exit → Act → World → Prop} (hQ : ∀ φ σ t m a w, K t m → Good A n k0 φ σ m w t a → Q .normal a w) :
    ∀ (fuel : Nat) (o : OT) (E : Nat → Nat → Bool) (listed : Array Bool) (pre : List (Nat × Bool)) (lag : List (Nat × AV)) (t : Tr) (m : Mem) (φ : Fz) (σ : Sg) (a : Act) (w : World), listed.size = ops.size → left ops listed ≤ fuel →
      (∀ x y, E x y = true → listed.getD x false = true) → OKT P n ops r o pre E → DS r A n k0 (pre ++ o.main) listed pre o.main lag t m φ σ a w → DT P r K o lag t m → wpAny P .any ops Q fuel listed a w := by
  have fin : ∀ (o : OT) (E : Nat → Nat → Bool) (listed : Array Bool) (pre : List (Nat × Bool)) (lag : List (Nat × AV)) (t : Tr) (m : Mem) (φ : Fz) (σ : Sg) (a : Act) (w : World), (∀ i, i < ops.size → listed.getD i false = true) →
      OKT P n ops r o pre E → DS r A n k0 (pre ++ o.main) listed pre o.main lag t m φ σ a w → DT P r K o lag t m → Q .normal a w := by
    intro o E listed pre lag t m φ σ a w hall hok D h
    obtain ⟨T, E', H, _⟩ := main_ok o pre E hok
    cases ho : o.main with
    | cons x l =>
      obtain ⟨it, hit, _⟩ := H.ord pre x.1 x.2 l (by rw [ho])
      have := hall x.1 (H.bnd x.1 it hit)
      rw [D.unl x (by rw [ho]; simp)] at this; cases this
    | nil =>
      cases o with
      | cons i s o => simp [OT.main] at ho
      | br c1 a c2 b => simp [OT.main] at ho
      | nil =>
        refine hQ φ σ t m a w h (D.good.retr fun k u hk => D.good.tr k u ?_)
        rw [vis_get]; exact hk
        rintro ⟨l, v, hl, hu, g, o, ps, hlt⟩
        have := hall l (H.bnd l _ hlt)
        rw [hu] at this; cases this
  intro fuel
  induction fuel with
  | zero =>
    intro o E listed pre lag t m φ σ a w hsz hl hE hok D h
    have hall : ∀ i, i < ops.size → listed.getD i false = true := by
      intro i hi
      have : left ops listed = 0 := by omega
      unfold left at this
      have := List.countP_eq_zero.1 this i (by simp [hi])
      simpa using this
    refine ⟨?_, fin o E listed pre lag t m φ σ a w hall hok D h⟩
    cases hr : Region.ready .any ops listed with
    | nil => rfl
    | cons x xs =>
      exfalso
      have hx : x ∈ Region.ready .any ops listed := by rw [hr]; simp
      obtain ⟨h0, o, ho, _⟩ := mem_ready.1 hx
      have hxlt := (Array.getElem?_eq_some_iff.1 ho).1
      have := hall x hxlt
      have hxl : x < listed.size := by omega
      simp [hxl] at h0 this; rw [h0] at this; cases this
  | succ fuel ih =>
    intro o E listed pre lag t m φ σ a w hsz hl hE hok D h
    refine ⟨fun hr => ?_, fun i hi => ?_⟩
    · obtain ⟨T, E', H, _⟩ := main_ok o pre E hok
      exact fin o E listed pre lag t m φ σ a w (none_ready H listed hsz hr) hok D h
    obtain ⟨h0, op, ho, hpr⟩ := mem_ready.1 hi
    have hilt := (Array.getElem?_eq_some_iff.1 ho).1
    have hil : i < listed.size := by omega
    have hun : listed.getD i false = false := by simp [hil] at h0 ⊢; exact h0
    have hcit : ∃ g d c, cOp P n ops i = some (.op g d c) ∧ ig r i = some (g, d, c, preds op) := by
      obtain ⟨T, E', H, _⟩ := main_ok o pre E hok
      exact H.it i op ho
    obtain ⟨g, d, c, hc, hit⟩ := hcit
    have hp : ∀ p ∈ preds op, listed.getD p false = true := by
      intro p hp
      unfold preds at hp
      obtain ⟨e, he, hb⟩ := List.mem_filterMap.1 hp
      split at hb
      · rename_i hbb; cases hb; exact hpr e (by simpa using he) hbb
      · cases hb
    have hd : ∀ k, d = some k → k < n := by obtain ⟨o0, g', x, ho, hgd, hx, e, hd⟩ := cOp_inv hc; cases e; exact hd
    have hleft : left ops (listed.setIfInBounds i true) ≤ fuel := by
      have : left ops (listed.setIfInBounds i true) + 1 = left ops listed := by
        unfold left
        refine cnt_set (i := i) (by rw [hun]; rfl) (by rw [listed_set.2 (.inr ⟨rfl, hil⟩)]; rfl) (fun j hj => by rw [getD_set_ne false (Ne.symm hj)]) List.nodup_range (by simp [hilt])
      omega
    have hsz' : (listed.setIfInBounds i true).size = ops.size := by simp [hsz]
    have keep : ∀ x, listed.getD x false = true → (listed.setIfInBounds i true).getD x false = true := fun x h => listed_set.2 (.inl h)
    have now : (listed.setIfInBounds i true).getD i false = true := listed_set.2 (.inr ⟨rfl, hil⟩)
    have inpre : ∀ (o : OT) (E : Nat → Nat → Bool) (pre : List (Nat × Bool)) (lag : List (Nat × AV)) (t : Tr), (∀ x y, E x y = true → listed.getD x false = true) → OKT P n ops r o pre E →
        DS r A n k0 (pre ++ o.main) listed pre o.main lag t m φ σ a w → DT P r K o lag t m → (∃ s, (i, s) ∈ pre) → wpOp P ops Q i (wpAny P .any ops Q fuel (listed.setIfInBounds i true)) a w := by
      rintro o E pre lag t hE hok D h ⟨s, hs⟩
      obtain ⟨T, E', H, _⟩ := main_ok o pre E hok
      obtain ⟨rfl, v, hv⟩ := D.lagd (i, s) hs hun |>.imp (fun e => (e : s = false)) id
      exact exec_pre H D hil hs hv hc hit hun hp fun φ σ a w D' => ih o E _ pre lag t m φ σ a w hsz' hleft (fun x y e => keep x (hE x y e)) hok D' h
    have away : ∀ (k : Nat) (o : OT) (E E1 : Nat → Nat → Bool) (pre : List (Nat × Bool)) (lag : List (Nat × AV)) (t : Tr), (∀ x y, E x y = true → listed.getD x false = true) → OKT P n ops r o (pre ++ [(k, true)]) E1 → (E1 k i = true → E k i = true) →
        DS r A n k0 (pre ++ (k, true) :: o.main) listed pre ((k, true) :: o.main) lag t m φ σ a w → ¬ (∃ s, (i, s) ∈ pre) → i ≠ k → False := by
      intro k o E E1 pre lag t hE hok hEi D hin hik
      obtain ⟨T, E', H, hE'⟩ := main_ok o _ _ hok
      rw [List.append_assoc, List.singleton_append] at H
      obtain ⟨s, hs⟩ := H.all i hilt
      rcases List.mem_append.1 hs with hs | hs
      · exact hin ⟨s, hs⟩
      rcases List.mem_cons.1 hs with hs | hs
      · cases hs; exact hik rfl
      obtain ⟨p1, p2, e2⟩ := List.append_of_mem hs
      obtain ⟨_, _, _, _, h4⟩ := H.ord (pre ++ (k, true) :: p1) i s p2 (by rw [e2]; simp)
      have hkun : listed.getD k false = false := D.unl (k, true) (by simp)
      have h5 : inM T k i = true := by
        rcases (h4 (k, true) (by simp)).2 rfl with h6 | h6
        · exfalso
          rcases hE' k i h6 with h7 | h7
          · have := hE k i (hEi h7)
            rw [hkun] at this; cases this
          · obtain ⟨q1, q2, e3⟩ := List.append_of_mem h7
            obtain ⟨_, _, _, _, h8⟩ := H.ord (pre ++ (k, true) :: q1) k true q2 (by rw [e3]; simp)
            exact (h8 (k, true) (by simp)).1 rfl
        · exact h6
      have := H.tok _ D.dc i k h5 fun it' hit' p hp' => by rw [hit] at hit'; cases hit'; exact hp p hp'
      rw [hkun] at this; cases this
    have go : ∀ (o : OT) (E : Nat → Nat → Bool) (pre : List (Nat × Bool)) (lag : List (Nat × AV)) (t : Tr), (∀ x y, E x y = true → listed.getD x false = true) → OKT P n ops r o pre E →
        DS r A n k0 (pre ++ o.main) listed pre o.main lag t m φ σ a w → DT P r K o lag t m → wpOp P ops Q i (wpAny P .any ops Q fuel (listed.setIfInBounds i true)) a w := by
      intro o
      induction o with
      | nil =>
        intro E pre lag t hE hok D h
        obtain ⟨T, E', H, _⟩ := main_ok _ pre E hok
        obtain ⟨s, hs⟩ := H.all i hilt
        exact inpre _ E pre lag t hE hok D h ⟨s, by simpa [OT.main] using hs⟩
      | cons k s o ih2 =>
        intro E pre lag t hE hok D h
        by_cases hin : ∃ s, (i, s) ∈ pre
        · exact inpre _ E pre lag t hE hok D h hin
        obtain ⟨T, E', H, _⟩ := main_ok _ pre E hok
        cases s with
        | true =>
          by_cases hik : i = k
          · subst hik
            refine spine_stepR H D h hil hc hit hp hd fun lag t m φ σ a w D' hR => ih o E _ (pre ++ [(i, true)]) lag t m φ σ a w hsz' hleft (fun x y e => keep x (hE x y e)) hok ?_ hR
            simpa [OT.main] using D'
          · exact (away k o E E pre lag t hE hok id D hin hik).elim
        | false =>
          obtain ⟨it, hjt, _⟩ := H.ord pre k false _ rfl
          obtain ⟨g', d', c', ps'⟩ := it
          obtain ⟨t', D', hh⟩ := DX1_head D h hjt
          rcases hh with ⟨hg, hgo⟩ | ⟨hg, hgo⟩
          · simp only [goW] at hgo
            split at hgo
            · rename_i p v m2 he
              have D2 := DS.tell H D' hjt (v := v) (by simp only [Rv, hjt, hg, he]; first | exact ⟨hgo.1, rfl⟩ | exact ⟨hgo.1, trivial⟩)
              exact ih2 E (pre ++ [(k, false)]) _ _ hE hok (by simpa [OT.main] using D2) hgo.2
            · exact hgo.elim
          · have D2 := DS.tell H D' hjt (v := .tup []) (by simp only [Rv, hjt, hg]; rfl)
            exact ih2 E (pre ++ [(k, false)]) _ _ hE hok (by simpa [OT.main] using D2) hgo
      | br c1 oa c2 ob iha ihb =>
        intro E pre lag t hE hok D h
        by_cases hin : ∃ s, (i, s) ∈ pre
        · exact inpre _ E pre lag t hE hok D h hin
        obtain ⟨hne, ok1, ok2, hm1, hm2⟩ := hok
        by_cases h1 : i = c1
        · subst h1
          obtain ⟨T, E', H, _⟩ := main_ok _ _ _ ok1
          rw [List.append_assoc, List.singleton_append] at H
          refine spine_stepR H D h.1 hil hc hit hp hd fun lag t m φ σ a w D' hR => ih oa _ _ (pre ++ [(i, true)]) lag t m φ σ a w hsz' hleft (fun x y e => ?_) ok1 ?_ hR
          · simp only [Bool.or_eq_true, Bool.and_eq_true] at e
            rcases e with e | ⟨e, _⟩
            · exact keep x (hE x y e)
            · rw [Nat.eq_of_beq_eq_true e]; exact now
          · simpa [OT.main] using D'
        by_cases h2 : i = c2
        · subst h2
          obtain ⟨T, E', H, _⟩ := main_ok _ _ _ ok2
          rw [List.append_assoc, List.singleton_append] at H
          have D1 : DS r A n k0 (pre ++ (i, true) :: ob.main) listed pre ((i, true) :: ob.main) lag t m φ σ a w := D.to rfl fun x hx => by
            rcases List.mem_cons.1 hx with rfl | hx
            · exact List.mem_cons_of_mem _ hm1
            · rcases hm2 x hx with rfl | hx
              · simp [OT.main]
              · exact List.mem_cons_of_mem _ hx
          refine spine_stepR H D1 h.2 hil hc hit hp hd fun lag t m φ σ a w D' hR => ih ob _ _ (pre ++ [(i, true)]) lag t m φ σ a w hsz' hleft (fun x y e => ?_) ok2 ?_ hR
          · simp only [Bool.or_eq_true] at e
            rcases e with e | e
            · exact keep x (hE x y e)
            · rw [Nat.eq_of_beq_eq_true e]; exact now
          · simpa [OT.main] using D'
        · exfalso
          refine away c1 oa E _ pre lag t hE ok1 (fun e => ?_) D hin h1
          simp only [Bool.or_eq_true, Bool.and_eq_true] at e
          rcases e with e | ⟨_, e⟩
          · exact e
          · exact absurd (Nat.eq_of_beq_eq_true e) h2
    exact go o E pre lag t hE hok D h

/-! ### as it is told -/
def DY1 (P : Program) (R : RFY) (i : Nat) (s : Bool) (g : Option (Nat × Bool)) (d : Option Nat) (o : O) (ps : List Nat) (lag : Lg) (t : Tr) (m : Mem) : Prop := match gk t g with
    | .stuck => False
    | .yes => goY P i s (g, d, o, ps) d o ps lag t m R
    | .no => skipY i s (g, d, o, ps) d ps lag t m R
    | .fork j q w => Nat.blt j 4000 = true ∧
      fk q (ReY lag (t.set j (.bool true)) m ∧ (match w with | true => goY P i s (g, d, o, ps) d o ps lag (t.set j (.bool true)) m R | false => skipY i s (g, d, o, ps) d ps lag (t.set j (.bool true)) m R))
        (ReY lag (t.set j (.bool false)) m ∧ (match w with | true => skipY i s (g, d, o, ps) d ps lag (t.set j (.bool false)) m R | false => goY P i s (g, d, o, ps) d o ps lag (t.set j (.bool false)) m R))
theorem DY1_ok {R : RFY} {S : RF} {i : Nat} {s : Bool} {g : Option (Nat × Bool)} {d : Option Nat} {o : O} {ps : List Nat} {lag : Lg} (ih : ∀ {lag : Lg} {t : Tr} {m : Mem}, LOk r lag → R lag t m → S (toL lag) t m) (hi : ig r i = some (g, d, o, ps)) (hl : LOk r lag)
    (h : DY1 P R i s g d o ps lag t m) : DX1 P r S i s (toL lag) t m := by
  have haft : ∀ {t : Tr} {m : Mem}, aftY ps lag t m R → aft r ps (toL lag) t m S := by
    rintro t m ⟨h1, h2⟩
    have hd : LOk r (drpY ps lag) := fun x hx => hl x (drpY_sub hx)
    exact ⟨by rw [← drpY_toL]; exact ReY_ok hd h1, by rw [← drpY_toL]; exact ih hd h2⟩
  have hgo : ∀ {t : Tr}, goY P i s (g, d, o, ps) d o ps lag t m R → goW P r i s d o ps (toL lag) t m S := by
    intro t h
    cases s with
    | false =>
      simp only [goY] at h
      simp only [goW]
      split at h
      · rename_i p v m' he
        rw [he]
        exact ⟨h.1, ih (lag := (i, (g, d, o, ps), v, p) :: lag) (fun x hx => by
          rcases List.mem_cons.1 hx with e | hx
          · subst e; exact ⟨hi, h.1⟩
          · exact hl x hx) h.2⟩
      · exact h.elim
    | true =>
      simp only [goY] at h
      simp only [goW]
      cases o with
      | call f xs =>
        simp only at h ⊢
        cases he : evs t xs with
        | some args => rw [he] at h; exact Tri.mono h fun _ _ => haft
        | none => rw [he] at h; exact h.elim
      | callv x xs =>
        simp only at h ⊢
        split at h
        · rename_i h1 h2; rw [h1, h2]; exact Tri.mono h fun _ _ => haft
        · exact h.elim
      | _ =>
        simp only at h ⊢
        split at h
        · rename_i he; rw [he]; exact ⟨h.1, haft h.2⟩
        · exact h.elim
  have hskip : ∀ {t : Tr}, skipY i s (g, d, o, ps) d ps lag t m R → skipW r i s d ps (toL lag) t m S := by
    intro t h
    cases s with
    | false =>
      exact ih (lag := (i, (g, d, o, ps), .tup [], True) :: lag) (fun x hx => by
          rcases List.mem_cons.1 hx with e | hx
          · subst e; exact ⟨hi, trivial⟩
          · exact hl x hx) h
    | true => exact haft h
  simp only [DX1, hi]
  simp only [DY1] at h
  cases hg : gk t g with
  | stuck => rw [hg] at h; exact h.elim
  | yes => rw [hg] at h; exact hgo h
  | no => rw [hg] at h; exact hskip h
  | fork j q w =>
    rw [hg] at h
    obtain ⟨h0, h1, h2⟩ := h
    refine ⟨h0, fun hq => ?_, fun hq => ?_⟩
    · obtain ⟨a1, a2⟩ := h1 hq
      refine ⟨ReY_ok hl a1, ?_⟩
      cases w with
      | true => exact hgo a2
      | false => exact hskip a2
    · obtain ⟨a1, a2⟩ := h2 hq
      refine ⟨ReY_ok hl a1, ?_⟩
      cases w with
      | true => exact hskip a2
      | false => exact hgo a2
inductive LT where
  | nil
  | cons (i : Nat) (s : Bool) (it : It) (o : LT)
  | br (c1 : Nat) (i1 : It) (a : LT) (c2 : Nat) (i2 : It) (b : LT)
def LT.ot : LT → OT
  | .nil => .nil
  | .cons i s _ o => .cons i s o.ot
  | .br c1 _ a c2 _ b => .br c1 a.ot c2 b.ot
def LT.its (r : List It) : LT → Prop
  | .nil => True
  | .cons i _ it o => ig r i = some it ∧ o.its r
  | .br c1 i1 a c2 i2 b => (ig r c1 = some i1 ∧ a.its r) ∧ ig r c2 = some i2 ∧ b.its r
def DYT (P : Program) (K : Tr → Mem → Prop) : LT → RFY
  | .nil => fun _ t m => K t m
  | .cons i s it o => fun lag t m => DY1 P (DYT P K o) i s it.1 it.2.1 it.2.2.1 it.2.2.2 lag t m
  | .br c1 i1 a c2 i2 b => fun lag t m => DY1 P (DYT P K a) c1 true i1.1 i1.2.1 i1.2.2.1 i1.2.2.2 lag t m ∧ DY1 P (DYT P K b) c2 true i2.1 i2.2.1 i2.2.2.1 i2.2.2.2 lag t m
theorem DYT_ok {K : Tr → Mem → Prop} : ∀ {o : LT} {lag : Lg} {t : Tr} {m : Mem}, o.its r → LOk r lag → DYT P K o lag t m → DT P r K o.ot (toL lag) t m
  | .nil, lag, t, m, _, _, h => h
  | .cons i s it o, lag, t, m, hi, hl, h => DY1_ok (fun h1 h2 => DYT_ok hi.2 h1 h2) hi.1 hl h
  | .br c1 i1 a c2 i2 b, lag, t, m, hi, hl, h => ⟨DY1_ok (fun h1 h2 => DYT_ok hi.1.2 h1 h2) hi.1.1 hl h.1, DY1_ok (fun h1 h2 => DYT_ok hi.2.2 h1 h2) hi.2.1 hl h.2⟩
def mkLT (r : List It) : OT → Option LT
  | .nil => some .nil
  | .cons i s o => match ig r i, mkLT r o with
    | some it, some l => some (.cons i s it l)
    | _, _ => none
  | .br c1 a c2 b => match ig r c1, mkLT r a, ig r c2, mkLT r b with
    | some i1, some x, some i2, some y => some (.br c1 i1 x c2 i2 y)
    | _, _, _, _ => none
theorem mkLT_ok : ∀ {o : OT} {l : LT}, mkLT r o = some l → l.ot = o ∧ l.its r
  | .nil, l, h => by simp [mkLT] at h; subst h; exact ⟨rfl, trivial⟩
  | .cons i s o, l, h => by
    simp only [mkLT] at h
    split at h
    · rename_i it l' hi hl
      cases h
      obtain ⟨h1, h2⟩ := mkLT_ok hl
      exact ⟨by simp [LT.ot, h1], hi, h2⟩
    · cases h
  | .br c1 a c2 b, l, h => by
    simp only [mkLT] at h
    split at h
    · rename_i i1 x i2 y q1 q2 q3 q4
      cases h
      obtain ⟨h1, h2⟩ := mkLT_ok q2
      obtain ⟨h3, h4⟩ := mkLT_ok q4
      exact ⟨by simp [LT.ot, h1, h3], ⟨q1, h2⟩, q3, h4⟩
    · cases h
def okTE (r : List It) : OT → List (Nat × Bool) → (Nat → Nat → Bool) → Bool
  | .nil, pre, E => okDrawE r pre E
  | .cons i s o, pre, E => okTE r o (pre ++ [(i, s)]) E
  | .br c1 a c2 b, pre, E => !(Nat.beq c1 c2) && okTE r a (pre ++ [(c1, true)]) (fun x y => E x y || (Nat.beq x c1 && Nat.beq y c2)) && okTE r b (pre ++ [(c2, true)]) (fun x y => E x y || Nat.beq x c2) &&
      a.main.any (fun x => Nat.beq x.1 c2 && x.2) && b.main.all (fun x => (Nat.beq x.1 c1 && x.2) || a.main.any fun y => Nat.beq x.1 y.1 && (x.2 == y.2))
theorem okTE_ok {ops : Array Oper} (hr : cDraw P n ops (List.range ops.size) = some r) : ∀ {o : OT} {pre : List (Nat × Bool)} {E : Nat → Nat → Bool}, okTE r o pre E = true → OKT P n ops r o pre E
  | .nil, pre, E, h => ⟨_, okDraw_ok hr h⟩
  | .cons i s o, pre, E, h => okTE_ok (o := o) hr h
  | .br c1 a c2 b, pre, E, h => by
    simp only [okTE, Bool.and_eq_true, Bool.not_eq_true', List.any_eq_true, List.all_eq_true, Bool.or_eq_true] at h
    obtain ⟨⟨⟨⟨h1, h2⟩, h3⟩, x, hx, hx1, hx2⟩, h5⟩ := h
    refine ⟨fun e => (by rw [e, Nat.beq_refl] at h1; cases h1), okTE_ok hr h2, okTE_ok hr h3, ?_, fun y hy => ?_⟩
    · obtain ⟨x1, x2⟩ := x
      have := Nat.eq_of_beq_eq_true hx1
      simp only at this hx2
      subst this; subst hx2; exact hx
    · obtain ⟨y1, y2⟩ := y
      rcases h5 _ hy with ⟨g1, g2⟩ | ⟨z, hz, g1, g2⟩
      · have := Nat.eq_of_beq_eq_true g1
        simp only at this g2
        subst this; subst g2; exact .inl rfl
      · obtain ⟨z1, z2⟩ := z
        have := Nat.eq_of_beq_eq_true g1
        simp only [beq_iff_eq] at this g2
        subst this; subst g2; exact .inr hz
def okDrawT (r : List It) (o : OT) : Bool := okTE r o [] fun _ _ => false
/-! The same, told without functions as arguments. -/
def DZT (P : Program) (K : Tr → Mem → Prop) (o : LT) (lag : Lg) (t : Tr) (m : Mem) : Prop := DYT P K o lag t m
def aftZT (P : Program) (K : Tr → Mem → Prop) (ps : List Nat) (lag : Lg) (t : Tr) (m : Mem) (ord : LT) : Prop := ReY (drpY ps lag) t m ∧ DZT P K ord (drpY ps lag) t m
def skipZT (P : Program) (K : Tr → Mem → Prop) (i : Nat) (s : Bool) (it : It) (d : Option Nat) (ps : List Nat) (lag : Lg) (t : Tr) (m : Mem) (ord : LT) : Prop := match s with
  | false => DZT P K ord ((i, it, .tup [], True) :: lag) (sp d t (.tup [])) m
  | true => aftZT P K ps lag (sp d t (.tup [])) m ord
def TriZT (P : Program) (K : Tr → Mem → Prop) (f : FuncId) (args : List AV) (d : Option Nat) (ps : List Nat) (lag : Lg) (t : Tr) (m : Mem) (ord : LT) : Prop := Tri P f args m fun v m' => aftZT P K ps lag (sp d t v) m' ord
theorem TriZT.of {K : Tr → Mem → Prop} {f : FuncId} {args : List AV} {d : Option Nat} {ps : List Nat} {lag : Lg} {t : Tr} {m : Mem} {ord : LT} (h : Tri P f args m fun v m' => aftZT P K ps lag (sp d t v) m' ord) : TriZT P K f args d ps lag t m ord := h
def goZT (P : Program) (K : Tr → Mem → Prop) (i : Nat) (s : Bool) (it : It) (d : Option Nat) (o : O) (ps : List Nat) (lag : Lg) (t : Tr) (m : Mem) (ord : LT) : Prop := match s with
  | false => match ao o t m with
    | some (p, v, _) => p ∧ DZT P K ord ((i, it, v, p) :: lag) (sp d t v) m
    | none => False
  | true => match o with
    | .call f xs => match evs t xs with
      | some args => TriZT P K f args d ps lag t m ord
      | none => False
    | .callv x xs => match ev t x, evs t xs with
      | some (.fn f fs cp), some args => TriZT P K f (fs ++ args ++ cp) d ps lag t m ord
      | _, _ => False
    | o => match ao o t m with
      | some (p, v, m') => p ∧ aftZT P K ps lag (sp d t v) m' ord
      | none => False
def DZ1 (P : Program) (K : Tr → Mem → Prop) (i : Nat) (s : Bool) (g : Option (Nat × Bool)) (d : Option Nat) (o : O) (ps : List Nat) (ord : LT) (lag : Lg) (t : Tr) (m : Mem) : Prop := match gk t g with
      | .stuck => False
      | .yes => goZT P K i s (g, d, o, ps) d o ps lag t m ord
      | .no => skipZT P K i s (g, d, o, ps) d ps lag t m ord
      | .fork j q w => Nat.blt j 4000 = true ∧
        fk q (ReY lag (t.set j (.bool true)) m ∧ (match w with | true => goZT P K i s (g, d, o, ps) d o ps lag (t.set j (.bool true)) m ord | false => skipZT P K i s (g, d, o, ps) d ps lag (t.set j (.bool true)) m ord))
          (ReY lag (t.set j (.bool false)) m ∧ (match w with | true => skipZT P K i s (g, d, o, ps) d ps lag (t.set j (.bool false)) m ord | false => goZT P K i s (g, d, o, ps) d o ps lag (t.set j (.bool false)) m ord))
theorem DZT_nil (P : Program) (K : Tr → Mem → Prop) (lag : Lg) (t : Tr) (m : Mem) : DZT P K .nil lag t m = K t m := propext Iff.rfl
theorem DZT_cons (P : Program) (K : Tr → Mem → Prop) (i : Nat) (s : Bool) (g : Option (Nat × Bool)) (d : Option Nat) (o : O) (ps : List Nat) (ord : LT) (lag : Lg) (t : Tr) (m : Mem) :
    DZT P K (.cons i s (g, d, o, ps) ord) lag t m = DZ1 P K i s g d o ps ord lag t m := propext Iff.rfl
theorem DZT_br (P : Program) (K : Tr → Mem → Prop) (c1 : Nat) (g : Option (Nat × Bool)) (d : Option Nat) (o : O) (ps : List Nat) (a : LT) (c2 : Nat) (g2 : Option (Nat × Bool)) (d2 : Option Nat) (o2 : O) (ps2 : List Nat) (b : LT) (lag : Lg) (t : Tr) (m : Mem) :
    DZT P K (.br c1 (g, d, o, ps) a c2 (g2, d2, o2, ps2) b) lag t m = (DZ1 P K c1 true g d o ps a lag t m ∧ DZ1 P K c2 true g2 d2 o2 ps2 b lag t m) := propext Iff.rfl
theorem sem_drawT {o : OT} {r : List It} {L : LT} {k : List C} {t : Tr} {m : Mem} {Q : Exit → Tr → Mem → Prop} (hok : okDrawT r o = true ∧ mkLT r o = some L) (hm : P.follows .mixedOrders = true)
    (h : ∀ KK : Tr → Mem → Prop, KK = (fun t m => exec (SemW P n k0) 4000 k t m Q) → DZT P KK L [] t m) : SemW P n k0 (.draw r :: k) t m Q := by
  obtain ⟨hok, hL⟩ := hok
  obtain ⟨e0, g0⟩ := mkLT_ok hL
  have h' : DT P r (fun t m => exec (SemW P n k0) 4000 k t m Q) o [] t m := by
    rw [← e0]; exact DYT_ok (lag := []) g0 (fun x hx => by cases hx) (h _ rfl)
  intro cs hcs A φ σ a w hG
  cases view_of P n _ cs _ (Nat.le_refl _) hcs with
  | draw hl hr h2 =>
    rename_i id ops rest
    refine h2 _ a w ?_
    have H := okTE_ok hl hok
    refine wp_region_any hm ?_
    have hG' : Good A n k0 φ σ m { w with drawn := w.drawn + 1 } t a := ⟨hG.fz, hG.sg, hG.inv.same rfl, hG.tr, hG.sz, hG.df, hG.grow, hG.kept, hG.own, hG.len, hG.ice, hG.env⟩
    have hnone : ∀ i, (Array.replicate ops.size false).getD i false = false := by
      intro i; by_cases hi : i < ops.size <;> simp [hi]
    refine DT_sound (k0 := k0) (K := fun t m => exec (SemW P n k0) 4000 k t m Q) (fun φ σ t m a w hK hG => run_ok 4000 k t m Q hK _ hr A φ σ a w hG) ops.size o _ _ [] [] t m φ σ a _ (by simp) ?_ (fun x y e => by cases e) H ⟨rfl, trivial, fun x _ => hnone _, fun x hx => (by cases hx), fun l v hl => (by cases hl), fun l v hl => (by cases hl), fun j it hj => (by have hj : (Array.replicate ops.size false).getD j false = true := hj; rw [hnone] at hj; cases hj), hG'.retr fun k u hk => hG'.tr k u (vis_some hk).2⟩ h'
    unfold left
    exact Nat.le_trans List.countP_le_length (by simp)
attribute [go_sem] DZT_nil DZT_cons DZT_br DZ1 goZT skipZT aftZT
end Go.AE
