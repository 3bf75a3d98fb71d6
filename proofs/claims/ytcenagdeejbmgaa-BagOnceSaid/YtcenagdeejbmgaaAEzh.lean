/- The abstract evaluator, part zh: regions in which a new variable may come ahead of a call, or behind it: two orders. -/
import Derived.Test.YtcenagdeejbmgaaAEzg
namespace Go.AE
open Go
set_option linter.unusedVariables false
set_option linter.unusedSimpArgs false

variable {P : Program} {n k0 : Nat} {r : List It} {T : List (Nat × Nat)} {ord0 ord1 pre ord : List (Nat × Bool)} {A : Anch} {listed : Array Bool} {lag : List (Nat × AV)} {t : Tr} {m : Mem} {φ : Fz} {σ : Sg} {a : Act} {w : World}

/-- One step of a region, with what comes behind. -/
def DX1 (P : Program) (r : List It) (R : RF) (i : Nat) (s : Bool) (lag : List (Nat × AV)) (t : Tr) (m : Mem) : Prop := match ig r i with
    | none => False
    | some (g, d, o, ps) => match gk t g with
      | .stuck => False
      | .yes => goW P r i s d o ps lag t m R
      | .no => skipW r i s d ps lag t m R
      | .fork j q w => Nat.blt j 4000 = true ∧
        (q = true → Re r lag (t.set j (.bool true)) m ∧ (bif w then goW P r i s d o ps lag (t.set j (.bool true)) m R else skipW r i s d ps lag (t.set j (.bool true)) m R)) ∧
        (q = false → Re r lag (t.set j (.bool false)) m ∧ (bif w then skipW r i s d ps lag (t.set j (.bool false)) m R else goW P r i s d o ps lag (t.set j (.bool false)) m R))
theorem DX_cons {K : Tr → Mem → Prop} {i : Nat} {s : Bool} : DX P r K ((i, s) :: ord) lag t m = DX1 P r (DX P r K ord) i s lag t m := rfl
theorem goW_and {i : Nat} {d : Option Nat} {o : O} {ps : List Nat} {R S : RF} (h : goW P r i false d o ps lag t m R) (h' : goW P r i false d o ps lag t m S) : goW P r i false d o ps lag t m fun l t m => R l t m ∧ S l t m := by
  simp only [goW] at h h' ⊢
  split at h
  · rename_i p v m2 he
    rw [he] at h'
    exact ⟨h.1, h.2, h'.2⟩
  · exact h.elim
theorem DX1_and {R S : RF} {i : Nat} (h : DX1 P r R i false lag t m) (h' : DX1 P r S i false lag t m) : DX1 P r (fun l t m => R l t m ∧ S l t m) i false lag t m := by
  unfold DX1 at h h' ⊢
  cases hi : ig r i with
  | none => rw [hi] at h; exact h.elim
  | some it =>
    obtain ⟨g, d, o, ps⟩ := it
    rw [hi] at h h'
    simp only at h h' ⊢
    cases hg : gk t g with
    | stuck => rw [hg] at h; exact h.elim
    | yes => rw [hg] at h h'; exact goW_and (P := P) (r := r) (ps := ps) h h'
    | no => rw [hg] at h h'; exact ⟨h, h'⟩
    | fork j q b =>
      rw [hg] at h h'
      obtain ⟨h0, h1, h2⟩ := h
      obtain ⟨_, g1, g2⟩ := h'
      refine ⟨h0, fun e => ⟨(h1 e).1, ?_⟩, fun e => ⟨(h2 e).1, ?_⟩⟩
      · have q1 := (h1 e).2; have q2 := (g1 e).2
        cases b with
        | true => exact goW_and (P := P) (r := r) (ps := ps) q1 q2
        | false => exact ⟨q1, q2⟩
      · have q1 := (h2 e).2; have q2 := (g2 e).2
        cases b with
        | true => exact ⟨q1, q2⟩
        | false => exact goW_and (P := P) (r := r) (ps := ps) q1 q2
theorem DX1_head {R : RF} {i : Nat} {s : Bool} (D : DS r A n k0 ord0 listed pre ord lag t m φ σ a w) (h : DX1 P r R i s lag t m) {g : Option (Nat × Bool)} {d : Option Nat} {c : O} {ps : List Nat} (hit : ig r i = some (g, d, c, ps)) :
    ∃ t', DS r A n k0 ord0 listed pre ord lag t' m φ σ a w ∧ ((gk t' g = .yes ∧ goW P r i s d c ps lag t' m R) ∨ (gk t' g = .no ∧ skipW r i s d ps lag t' m R)) := by
  simp only [DX1, hit] at h
  cases hg : gk t g with
  | stuck => rw [hg] at h; exact h.elim
  | yes => rw [hg] at h; exact ⟨t, D, .inl ⟨hg, h⟩⟩
  | no => rw [hg] at h; exact ⟨t, D, .inr ⟨hg, h⟩⟩
  | fork j q b =>
    rw [hg] at h
    obtain ⟨hlt, h1, h2⟩ := h
    obtain ⟨rfl, hj⟩ := gk_fork hg
    have hjl : j + 1 < 2 ^ 12 := by have := Nat.le_of_ble_eq_true hlt; omega
    cases q with
    | true =>
      obtain ⟨hre, h⟩ := h1 rfl
      refine ⟨_, D.fork hj rfl hre, ?_⟩
      have e : (t.set j (.bool true)).get j = some (.bool true) := Tr.put_get 12 t j _ hjl
      cases b with
      | true => exact .inl ⟨by simp only [gk, e], h⟩
      | false => exact .inr ⟨by simp only [gk, e], h⟩
    | false =>
      obtain ⟨hre, h⟩ := h2 rfl
      refine ⟨_, D.fork hj rfl hre, ?_⟩
      have e : (t.set j (.bool false)).get j = some (.bool false) := Tr.put_get 12 t j _ hjl
      cases b with
      | true => exact .inr ⟨by simp only [gk, e], h⟩
      | false => exact .inl ⟨by simp only [gk, e], h⟩
/-- When nothing is ready, all have come. -/
theorem none_ready {ops : Array Oper} {E : Nat → Nat → Bool} (H : DOk P n ops r T ord0 E) : ∀ (listed : Array Bool), listed.size = ops.size → Region.ready .any ops listed = [] → ∀ i, i < ops.size → listed.getD i false = true := by
  intro listed hsz hr
  have first : ∀ (pre ord : List (Nat × Bool)), ord0 = pre ++ ord → (∀ x ∈ pre, listed.getD x.1 false = true) → ∀ x ∈ ord, listed.getD x.1 false = true := by
    intro pre ord
    induction ord generalizing pre with
    | nil => intro _ _ x hx; cases hx
    | cons y ord ih =>
      intro e hpre
      have hy : listed.getD y.1 false = true := by
        obtain ⟨it, hit, h2, _⟩ := H.ord pre y.1 y.2 ord e
        cases hyl : listed.getD y.1 false with
        | true => rfl
        | false =>
          exfalso
          have hylt := H.bnd y.1 it hit
          have hin : y.1 ∈ Region.ready .any ops listed := by
            rw [mem_ready]
            refine ⟨?_, ops[y.1], by simp [hylt], fun e' he' hb' => ?_⟩
            · have : y.1 < listed.size := by omega
              simp [this] at hyl ⊢; exact hyl
            · obtain ⟨g, d, c, _, q2⟩ := H.it y.1 ops[y.1] (by simp [hylt])
              rw [hit] at q2; cases q2
              obtain ⟨x, hx, hxe⟩ := h2 e'.on (by
                unfold preds
                exact List.mem_filterMap.2 ⟨e', by simpa using he', by simp [hb']⟩)
              rw [← hxe]; exact hpre x hx
          rw [hr] at hin; cases hin
      intro x hx
      rcases List.mem_cons.1 hx with rfl | hx
      · exact hy
      · exact ih (pre ++ [y]) (by rw [e]; simp) (fun z hz => by
          rcases List.mem_append.1 hz with hz | hz
          · exact hpre z hz
          · simp at hz; rw [hz]; exact hy) x hx
  intro i hi
  obtain ⟨s, hs⟩ := H.all i hi
  exact first [] ord0 rfl (fun x hx => by cases hx) (i, s) hs
/-- The step of the spine's next item. -/
theorem spine_step {ops : Array Oper} {E : Nat → Nat → Bool} (H : DOk P n ops r T ord0 E) {Q : Exit → Act → World → Prop} {KK : Act → World → Prop} {K : Tr → Mem → Prop} {i : Nat} {g : Option (Nat × Bool)} {d : Option Nat} {c : O} {o : Oper}
    (D : DS r A n k0 ord0 listed pre ((i, true) :: ord) lag t m φ σ a w) (h : DX P r K ((i, true) :: ord) lag t m) (hil : i < listed.size) (hc : cOp P n ops i = some (.op g d c)) (hit : ig r i = some (g, d, c, preds o))
    (hp : ∀ p ∈ preds o, listed.getD p false = true) (hd : ∀ k, d = some k → k < n)
    (next : ∀ lag t m φ σ a w, DS r A n k0 ord0 (listed.setIfInBounds i true) (pre ++ [(i, true)]) ord lag t m φ σ a w → DX P r K ord lag t m → KK a w) : wpOp P ops Q i KK a w := by
  obtain ⟨t', D', hh⟩ := DX_head D h hit
  have hsame : ∀ k ∈ rds (g, d, c, preds o), t'.get k = (vis r lag listed t').get k := fun k hk => (vis_get (not_bad H D' (s := true) (by rw [D.split]; simp) hit hp hk)).symm
  rcases hh with ⟨hg, hgo⟩ | ⟨hg, hgo⟩
  · refine wpOp_step hc (gk_gok.1 (by rw [← gk_same hsame]; exact hg)) D'.good (Step1_congr (ev_same hsame) (goW_step hgo)) ?_
    rintro φ' σ' v v' m' w' ⟨hre, hR⟩ hst hvr
    exact next _ _ _ φ' σ' _ _ (D'.come H hit hil hp hd hst hvr hre) hR
  · obtain ⟨hre, hR⟩ := hgo
    exact wpOp_skip hc (gk_gok.2 (by rw [← gk_same hsame]; exact hg)) D'.good (next _ _ _ φ σ _ _ (D'.come H hit hil hp hd (.refl D'.good.inv) (.tup .nil) hre) hR)
/-- A region in which item al may come ahead of item j, or behind it. -/
theorem DX2_sound {ops : Array Oper} {T1 : List (Nat × Nat)} {j al : Nat} (H : DOk P n ops r T ord0 fun x y => Nat.beq x j && Nat.beq y al) (H1 : DOk P n ops r T1 ord1 fun x _ => Nat.beq x al) {K : Tr → Mem → Prop} {Q : Exit → Act → World → Prop}
    (hQ : ∀ φ σ t m a w, K t m → Good A n k0 φ σ m w t a → Q .normal a w) {s1 s2 : List (Nat × Bool)} (hsub : ∀ x ∈ s2, x ∈ s1) {sal : Bool} (hal : (al, sal) ∈ s1) (hja : j ≠ al) :
    ∀ (fuel : Nat) (listed : Array Bool) (pre r1 : List (Nat × Bool)) (lag : List (Nat × AV)) (t : Tr) (m : Mem) (φ : Fz) (σ : Sg) (a : Act) (w : World), listed.size = ops.size → left ops listed ≤ fuel → (∀ x ∈ r1, x.2 = false) →
      ord1 = pre ++ (r1 ++ (al, true) :: (j, true) :: s2) → DS r A n k0 ord0 listed pre (r1 ++ (j, true) :: s1) lag t m φ σ a w → DX P r K (r1 ++ (j, true) :: s1) lag t m → DX P r K (r1 ++ (al, true) :: (j, true) :: s2) lag t m →
      wpAny P .any ops Q fuel listed a w := by
  have jlt : ∀ (listed : Array Bool) (pre r1 : List (Nat × Bool)) (lag : List (Nat × AV)) (t : Tr) (m : Mem) (φ : Fz) (σ : Sg) (a : Act) (w : World), DS r A n k0 ord0 listed pre (r1 ++ (j, true) :: s1) lag t m φ σ a w → j < ops.size ∧ listed.getD j false = false := by
    intro listed pre r1 lag t m φ σ a w D
    obtain ⟨it, hit, _⟩ := H.ord (pre ++ r1) j true s1 (by rw [D.split]; simp)
    exact ⟨H.bnd j it hit, D.unl (j, true) (by simp)⟩
  intro fuel
  induction fuel with
  | zero =>
    intro listed pre r1 lag t m φ σ a w hsz hl hr1 e1 D h h'
    exfalso
    obtain ⟨hj1, hj2⟩ := jlt _ _ _ _ _ _ _ _ _ _ D
    have : left ops listed = 0 := by omega
    unfold left at this
    have := List.countP_eq_zero.1 this j (by simp [hj1])
    simp [hj2] at this
  | succ fuel ih =>
    intro listed pre r1 lag t m φ σ a w hsz hl hr1 e1 D h h'
    refine ⟨fun hr => ?_, fun i hi => ?_⟩
    · obtain ⟨hj1, hj2⟩ := jlt _ _ _ _ _ _ _ _ _ _ D
      have := none_ready H listed hsz hr j hj1
      rw [hj2] at this; cases this
    obtain ⟨h0, o, ho, hpr⟩ := mem_ready.1 hi
    have hilt := (Array.getElem?_eq_some_iff.1 ho).1
    have hil : i < listed.size := by omega
    have hun : listed.getD i false = false := by simp [hil] at h0 ⊢; exact h0
    obtain ⟨g, d, c, hc, hit⟩ := H.it i o ho
    have hp : ∀ p ∈ preds o, listed.getD p false = true := by
      intro p hp
      unfold preds at hp
      obtain ⟨e, he, hb⟩ := List.mem_filterMap.1 hp
      split at hb
      · rename_i hbb; cases hb; exact hpr e (by simpa using he) hbb
      · cases hb
    have hd : ∀ k, d = some k → k < n := by obtain ⟨o0, g', x, ho, hgd, hx, e, hd⟩ := cOp_inv hc; cases e; exact hd
    have hleft : left ops (listed.setIfInBounds i true) ≤ fuel := by
      have : left ops (listed.setIfInBounds i true) + 1 = left ops listed := by
        unfold left
        refine cnt_set (i := i) (by rw [hun]; rfl) (by rw [listed_set.2 (.inr ⟨rfl, hil⟩)]; rfl) (fun j hj => by rw [getD_set_ne false (Ne.symm hj)]) List.nodup_range (by simp [hilt])
      omega
    have hsz' : (listed.setIfInBounds i true).size = ops.size := by simp [hsz]
    have now : (listed.setIfInBounds i true).getD i false = true := listed_set.2 (.inr ⟨rfl, hil⟩)
    have go : ∀ (r1 pre : List (Nat × Bool)) (lag : List (Nat × AV)) (t : Tr), (∀ x ∈ r1, x.2 = false) → ord1 = pre ++ (r1 ++ (al, true) :: (j, true) :: s2) → DS r A n k0 ord0 listed pre (r1 ++ (j, true) :: s1) lag t m φ σ a w →
        DX P r K (r1 ++ (j, true) :: s1) lag t m → DX P r K (r1 ++ (al, true) :: (j, true) :: s2) lag t m → wpOp P ops Q i (wpAny P .any ops Q fuel (listed.setIfInBounds i true)) a w := by
      intro r1
      induction r1 with
      | nil =>
        intro pre lag t hr1 e1 D h h'
        by_cases hin : ∃ s, (i, s) ∈ pre
        · obtain ⟨s, hs⟩ := hin
          obtain ⟨rfl, v, hv⟩ := D.lagd (i, s) hs hun |>.imp (fun e => (e : s = false)) id
          exact exec_pre H D hil hs hv hc hit hun hp fun φ σ a w D' => ih _ pre [] lag t m φ σ a w hsz' hleft hr1 e1 D' h h'
        by_cases hij : i = j
        · subst hij
          refine spine_step H D h hil hc hit hp hd fun lag t m φ σ a w D' hR => DX_sound H hQ fuel _ _ _ lag t m φ σ a w hsz' hleft (fun x y e => ?_) D' hR
          simp only [Bool.and_eq_true] at e
          rw [Nat.eq_of_beq_eq_true e.1]; exact .inl now
        by_cases hia : i = al
        · subst hia
          have D1 : DS r A n k0 ord1 listed pre ((i, true) :: (j, true) :: s2) lag t m φ σ a w := ⟨e1, D.re, fun x hx => by
            rcases List.mem_cons.1 hx with rfl | hx
            · exact hun
            · rcases List.mem_cons.1 hx with rfl | hx
              · exact D.unl (j, true) (by simp)
              · exact D.unl x (List.mem_cons_of_mem _ (hsub x hx)), D.lagd, D.laq, D.lav, D.dc, D.good⟩
          refine spine_step H1 D1 h' hil hc hit hp hd fun lag t m φ σ a w D' hR => DX_sound H1 hQ fuel _ _ _ lag t m φ σ a w hsz' hleft (fun x y e => ?_) D' hR
          rw [Nat.eq_of_beq_eq_true e]; exact .inl now
        · exfalso
          obtain ⟨s, hs⟩ := H.all i hilt
          rw [D.split] at hs
          rcases List.mem_append.1 hs with hs | hs
          · exact hin ⟨s, hs⟩
          · simp only [List.nil_append] at hs
            rcases List.mem_cons.1 hs with hs | hs
            · cases hs; exact hij rfl
            · obtain ⟨p1, p2, e2⟩ := List.append_of_mem hs
              obtain ⟨_, _, _, _, h4⟩ := H.ord (pre ++ (j, true) :: p1) i s p2 (by rw [D.split, e2]; simp)
              have h5 : inM T j i = true := by
                rcases (h4 (j, true) (by simp)).2 rfl with h6 | h6
                · simp only [Bool.and_eq_true] at h6
                  exact absurd (Nat.eq_of_beq_eq_true h6.2) hia
                · exact h6
              have := H.tok _ D.dc i j h5 fun it' hit' p hp' => by rw [hit] at hit'; cases hit'; exact hp p hp'
              rw [D.unl (j, true) (by simp)] at this; cases this
      | cons y r1 ih2 =>
        intro pre lag t hr1 e1 D h h'
        by_cases hin : ∃ s, (i, s) ∈ pre
        · obtain ⟨s, hs⟩ := hin
          obtain ⟨rfl, v, hv⟩ := D.lagd (i, s) hs hun |>.imp (fun e => (e : s = false)) id
          exact exec_pre H D hil hs hv hc hit hun hp fun φ σ a w D' => ih _ pre _ lag t m φ σ a w hsz' hleft hr1 e1 D' h h'
        obtain ⟨k, s⟩ := y
        have hs : s = false := hr1 (k, s) (by simp)
        subst hs
        obtain ⟨it, hjt, _⟩ := H.ord pre k false _ D.split
        obtain ⟨g', d', c', ps'⟩ := it
        have hb : DX1 P r (fun l t m => DX P r K (r1 ++ (j, true) :: s1) l t m ∧ DX P r K (r1 ++ (al, true) :: (j, true) :: s2) l t m) k false lag t m := DX1_and h h'
        obtain ⟨t', D', hh⟩ := DX1_head D hb hjt
        have e1' : ord1 = (pre ++ [(k, false)]) ++ (r1 ++ (al, true) :: (j, true) :: s2) := by rw [e1]; simp
        have hr1' : ∀ x ∈ r1, x.2 = false := fun x hx => hr1 x (List.mem_cons_of_mem _ hx)
        rcases hh with ⟨hg, hgo⟩ | ⟨hg, hgo⟩
        · simp only [goW] at hgo
          split at hgo
          · rename_i p v m2 he
            refine ih2 _ _ _ hr1' e1' (DS.tell H D' hjt ?_) hgo.2.1 hgo.2.2
            simp only [Rv, hjt, hg, he]
            first | exact ⟨hgo.1, rfl⟩ | exact ⟨hgo.1, trivial⟩
          · exact hgo.elim
        · refine ih2 _ _ _ hr1' e1' (DS.tell H D' hjt ?_) hgo.1 hgo.2
          simp only [Rv, hjt, hg]
          rfl
    exact go r1 pre lag t hr1 e1 D h h'
/-- Both orders are the same up to item j; there the second one has item al first. -/
def spl (j al : Nat) : List (Nat × Bool) → List (Nat × Bool) → Bool
  | x :: o0, y :: o1 => bif x.2 then
      Nat.beq x.1 j && (Nat.beq y.1 al && (y.2 && (!(Nat.beq j al) && ((o0.any fun v => Nat.beq v.1 al) && (match o1 with
        | z :: s2 => Nat.beq z.1 j && (z.2 && s2.all fun u => o0.any fun v => Nat.beq u.1 v.1 && (u.2 == v.2))
        | [] => false)))))
    else Nat.beq x.1 y.1 && (!y.2 && spl j al o0 o1)
  | _, _ => false
theorem spl_ok {j al : Nat} : ∀ {o0 o1 : List (Nat × Bool)}, spl j al o0 o1 = true → ∃ r1 s1 s2, o0 = r1 ++ (j, true) :: s1 ∧ o1 = r1 ++ (al, true) :: (j, true) :: s2 ∧ (∀ x ∈ r1, x.2 = false) ∧ (∀ x ∈ s2, x ∈ s1) ∧ (∃ s, (al, s) ∈ s1) ∧ j ≠ al
  | [], _, h => by simp [spl] at h
  | _ :: _, [], h => by simp [spl] at h
  | (x, xs) :: o0, (y, ys) :: o1, h => by
    cases xs with
    | false =>
      simp only [spl, cond_false, Bool.and_eq_true, Bool.not_eq_true'] at h
      obtain ⟨h1, h2, h3⟩ := h
      obtain ⟨r1, s1, s2, rfl, rfl, h4, h5, h6, h7⟩ := spl_ok h3
      have := Nat.eq_of_beq_eq_true h1
      subst this; subst h2
      exact ⟨(x, false) :: r1, s1, s2, rfl, rfl, fun z hz => by
        rcases List.mem_cons.1 hz with rfl | hz
        · rfl
        · exact h4 z hz, h5, h6, h7⟩
    | true =>
      simp only [spl, cond_true, Bool.and_eq_true, Bool.not_eq_true'] at h
      obtain ⟨h1, h2, h3, h4, h5, h6⟩ := h
      have e1 := Nat.eq_of_beq_eq_true h1
      have e2 := Nat.eq_of_beq_eq_true h2
      subst e1; subst e2; subst h3
      cases o1 with
      | nil => simp at h6
      | cons z s2 =>
        simp only [Bool.and_eq_true] at h6
        obtain ⟨g1, g2, g3⟩ := h6
        obtain ⟨z1, z2⟩ := z
        have e3 := Nat.eq_of_beq_eq_true g1
        simp only at e3 g2
        subst e3; subst g2
        refine ⟨[], o0, s2, rfl, rfl, (fun z hz => by cases hz), fun u hu => ?_, ?_, fun e => ?_⟩
        · obtain ⟨v, hv, hv2⟩ := List.any_eq_true.1 (List.all_eq_true.1 g3 u hu)
          simp only [Bool.and_eq_true, beq_iff_eq] at hv2
          have : u = v := Prod.ext (Nat.eq_of_beq_eq_true hv2.1) hv2.2
          rw [this]; exact hv
        · obtain ⟨v, hv, hv2⟩ := List.any_eq_true.1 h5
          have := Nat.eq_of_beq_eq_true hv2
          exact ⟨v.2, by rw [← this]; exact hv⟩
        · rw [e, Nat.beq_refl] at h4; cases h4
def okDraw2 (r : List It) (o0 o1 : List (Nat × Bool)) (j al : Nat) : Bool :=
  okDrawE r o0 (fun x y => Nat.beq x j && Nat.beq y al) && okDrawE r o1 (fun x _ => Nat.beq x al) && spl j al o0 o1
theorem sem_draw2 {o0 o1 : List (Nat × Bool)} {r : List It} {j al : Nat} {L0 L1 : List (Nat × Bool × It)} {k : List C} {t : Tr} {m : Mem} {Q : Exit → Tr → Mem → Prop} (hok : okDraw2 r o0 o1 j al = true ∧ mkL r o0 = some L0 ∧ mkL r o1 = some L1) (hm : P.follows .mixedOrders = true)
    (h : ∀ KK : Tr → Mem → Prop, KK = (fun t m => exec (SemW P n k0) 4000 k t m Q) → DZ P KK L0 [] t m ∧ DZ P KK L1 [] t m) : SemW P n k0 (.draw r :: k) t m Q := by
  obtain ⟨hok, hL0, hL1⟩ := hok
  obtain ⟨e0, g0⟩ := mkL_ok hL0
  obtain ⟨e1, g1⟩ := mkL_ok hL1
  obtain ⟨h0, h1⟩ := h _ rfl
  have h0' : DX P r (fun t m => exec (SemW P n k0) 4000 k t m Q) o0 [] t m := by
    rw [e0]; exact DY_ok (lag := []) g0 (fun x hx => by cases hx) h0
  have h1' : DX P r (fun t m => exec (SemW P n k0) 4000 k t m Q) o1 [] t m := by
    rw [e1]; exact DY_ok (lag := []) g1 (fun x hx => by cases hx) h1
  clear h h0 h1 e0 e1 g0 g1
  simp only [okDraw2, Bool.and_eq_true] at hok
  obtain ⟨⟨k0', k1'⟩, k2'⟩ := hok
  obtain ⟨r1, s1, s2, rfl, rfl, q1, q2, ⟨sal, q3⟩, q4⟩ := spl_ok k2'
  intro cs hcs A φ σ a w hG
  cases view_of P n _ cs _ (Nat.le_refl _) hcs with
  | draw hl hr h' =>
    rename_i id ops rest
    refine h' _ a w ?_
    have H := okDraw_ok hl k0'
    have H1 := okDraw_ok hl k1'
    refine wp_region_any hm ?_
    have hG' : Good A n k0 φ σ m { w with drawn := w.drawn + 1 } t a := ⟨hG.fz, hG.sg, hG.inv.same rfl, hG.tr, hG.sz, hG.df, hG.grow, hG.kept, hG.own, hG.len, hG.ice, hG.env⟩
    have hnone : ∀ i, (Array.replicate ops.size false).getD i false = false := by
      intro i; by_cases hi : i < ops.size <;> simp [hi]
    refine DX2_sound (k0 := k0) H H1 (K := fun t m => exec (SemW P n k0) 4000 k t m Q) (fun φ σ t m a w hK hG => run_ok 4000 k t m Q hK _ hr A φ σ a w hG) q2 q3 q4 ops.size _ [] r1 [] t m φ σ a _ (by simp) ?_ q1 rfl ⟨rfl, trivial, fun x _ => hnone _, fun x hx => (by cases hx), fun l v hl => (by cases hl), fun l v hl => (by cases hl), fun j it hj => (by have hj : (Array.replicate ops.size false).getD j false = true := hj; rw [hnone] at hj; cases hj), hG'.retr fun k u hk => hG'.tr k u (vis_some hk).2⟩ h0' h1'
    unfold left
    exact Nat.le_trans List.countP_le_length (by simp)
end Go.AE
