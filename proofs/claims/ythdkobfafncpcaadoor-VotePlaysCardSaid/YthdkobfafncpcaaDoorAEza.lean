/- The abstract evaluator: AEza in one. -/
import Derived.Test.YthdkobfafncpcaaDoorAEz
/- The abstract evaluator, part za: regions that draw their order: an evaluator that bears its items with it. -/
namespace Go.AE
open Go
set_option linter.unusedVariables false
set_option linter.unusedSimpArgs false

variable {P : Program} {n k0 : Nat}

abbrev Lg := List (Nat × It × AV × Prop)
def RvY (it : It) (v : AV) (p : Prop) (t : Tr) (m : Mem) : Prop := match it with
  | (g, _, o, _) => match gk t g with
    | .no => asB v = .tup []
    | .yes => match ao o t m with
      | some (p', v', _) => (p → p') ∧ asB v' = asB v
      | none => False
    | _ => False
def ReY : Lg → Tr → Mem → Prop
  | [], _, _ => True
  | (_, it, v, p) :: lag, t, m => RvY it v p t m ∧ ReY lag t m
def drpY (ps : List Nat) : Lg → Lg
  | [] => []
  | (l, x) :: lag => match hasN ps l with
    | true => drpY ps lag
    | false => (l, x) :: drpY ps lag
abbrev RFY := Lg → Tr → Mem → Prop
def aftY (ps : List Nat) (lag : Lg) (t : Tr) (m : Mem) (R : RFY) : Prop := ReY (drpY ps lag) t m ∧ R (drpY ps lag) t m
def skipY (i : Nat) (s : Bool) (it : It) (d : Option Nat) (ps : List Nat) (lag : Lg) (t : Tr) (m : Mem) (R : RFY) : Prop := match s with
  | false => R ((i, it, .tup [], True) :: lag) (sp d t (.tup [])) m
  | true => aftY ps lag (sp d t (.tup [])) m R
def TriY (P : Program) (f : FuncId) (args : List AV) (d : Option Nat) (ps : List Nat) (lag : Lg) (t : Tr) (m : Mem) (R : RFY) : Prop := Tri P f args m fun v m' => aftY ps lag (sp d t v) m' R
theorem TriY.of {P : Program} {f : FuncId} {args : List AV} {d : Option Nat} {ps : List Nat} {lag : Lg} {t : Tr} {m : Mem} {R : RFY} (h : Tri P f args m fun v m' => aftY ps lag (sp d t v) m' R) : TriY P f args d ps lag t m R := h
def goY (P : Program) (i : Nat) (s : Bool) (it : It) (d : Option Nat) (o : O) (ps : List Nat) (lag : Lg) (t : Tr) (m : Mem) (R : RFY) : Prop := match s with
  | false => match ao o t m with
    | some (p, v, _) => p ∧ R ((i, it, v, p) :: lag) (sp d t v) m
    | none => False
  | true => match o with
    | .call f xs => match evs t xs with
      | some args => TriY P f args d ps lag t m R
      | none => False
    | .callv x xs => match ev t x, evs t xs with
      | some (.fn f fs cp), some args => TriY P f (fs ++ args ++ cp) d ps lag t m R
      | _, _ => False
    | o => match ao o t m with
      | some (p, v, m') => p ∧ aftY ps lag (sp d t v) m' R
      | none => False
def DY (P : Program) (K : Tr → Mem → Prop) : List (Nat × Bool × It) → RFY
  | [], _, t, m => K t m
  | (i, s, g, d, o, ps) :: ord, lag, t, m => match gk t g with
    | .stuck => False
    | .yes => goY P i s (g, d, o, ps) d o ps lag t m (DY P K ord)
    | .no => skipY i s (g, d, o, ps) d ps lag t m (DY P K ord)
    | .fork j q w => Nat.blt j 4000 = true ∧
      fk q (ReY lag (t.set j (.bool true)) m ∧ (match w with | true => goY P i s (g, d, o, ps) d o ps lag (t.set j (.bool true)) m (DY P K ord) | false => skipY i s (g, d, o, ps) d ps lag (t.set j (.bool true)) m (DY P K ord)))
        (ReY lag (t.set j (.bool false)) m ∧ (match w with | true => skipY i s (g, d, o, ps) d ps lag (t.set j (.bool false)) m (DY P K ord) | false => goY P i s (g, d, o, ps) d o ps lag (t.set j (.bool false)) m (DY P K ord)))

def toL (lag : Lg) : List (Nat × AV) := lag.map fun x => (x.1, x.2.2.1)
def LOk (r : List It) (lag : Lg) : Prop := ∀ x ∈ lag, ig r x.1 = some x.2.1 ∧ x.2.2.2
theorem ReY_ok {r : List It} {t : Tr} {m : Mem} : ∀ {lag : Lg}, LOk r lag → ReY lag t m → Re r (toL lag) t m
  | [], _, _ => trivial
  | (l, (g, d, o, ps), v, p) :: lag, h, hR => by
    obtain ⟨h1, h2⟩ := hR
    obtain ⟨hi, hp⟩ := h _ (List.mem_cons_self ..)
    refine ⟨?_, ReY_ok (fun x hx => h x (List.mem_cons_of_mem _ hx)) h2⟩
    simp only at hi hp
    simp only [Rv, hi]
    simp only [RvY] at h1
    split at h1
    · rename_i hg; rw [hg]; exact h1
    · rename_i hg
      rw [hg]
      split at h1
      · rename_i p' v' m' he; simp only [he]; exact ⟨h1.1 hp, h1.2⟩
      · exact h1.elim
    · exact h1.elim
theorem drpY_toL {ps : List Nat} : ∀ (lag : Lg), toL (drpY ps lag) = drp ps (toL lag)
  | [] => rfl
  | (l, x) :: lag => by
    simp only [drpY, toL, List.map_cons, drp]
    cases hasN ps l with
    | true => exact drpY_toL lag
    | false => simp only [cond_false, List.map_cons]; exact congrArg _ (drpY_toL lag)
theorem drpY_sub {ps : List Nat} : ∀ {lag : Lg} {x}, x ∈ drpY ps lag → x ∈ lag
  | [], _, h => h
  | (l, y) :: lag, x, h => by
    simp only [drpY] at h
    cases hh : hasN ps l with
    | true => rw [hh] at h; exact List.mem_cons_of_mem _ (drpY_sub h)
    | false =>
      rw [hh] at h
      rcases List.mem_cons.1 h with h | h
      · rw [h]; simp
      · exact List.mem_cons_of_mem _ (drpY_sub h)
theorem DY_ok {r : List It} {K : Tr → Mem → Prop} : ∀ {L : List (Nat × Bool × It)} {lag : Lg} {t : Tr} {m : Mem}, (∀ x ∈ L, ig r x.1 = some x.2.2) → LOk r lag → DY P K L lag t m →
    DX P r K (L.map fun x => (x.1, x.2.1)) (toL lag) t m
  | [], lag, t, m, _, _, h => h
  | (i, s, g, d, o, ps) :: L, lag, t, m, hL, hl, h => by
    have hi := hL _ (List.mem_cons_self ..)
    simp only at hi
    have ih : ∀ {lag : Lg} {t : Tr} {m : Mem}, LOk r lag → DY P K L lag t m → DX P r K (L.map fun x => (x.1, x.2.1)) (toL lag) t m := fun h1 h2 => DY_ok (fun x hx => hL x (List.mem_cons_of_mem _ hx)) h1 h2
    have haft : ∀ {t : Tr} {m : Mem}, aftY ps lag t m (DY P K L) → aft r ps (toL lag) t m (DX P r K (L.map fun x => (x.1, x.2.1))) := by
      rintro t m ⟨h1, h2⟩
      have hd : LOk r (drpY ps lag) := fun x hx => hl x (drpY_sub hx)
      exact ⟨by rw [← drpY_toL]; exact ReY_ok hd h1, by rw [← drpY_toL]; exact ih hd h2⟩
    have hgo : ∀ {t : Tr}, goY P i s (g, d, o, ps) d o ps lag t m (DY P K L) → goW P r i s d o ps (toL lag) t m (DX P r K (L.map fun x => (x.1, x.2.1))) := by
      intro t h
      cases s with
      | false =>
        simp only [goY] at h
        simp only [goW]
        split at h
        · rename_i p v m' he
          rw [he]
          exact ⟨h.1, ih (lag := (i, (g, d, o, ps), v, p) :: lag) (fun x hx => by
            rcases List.mem_cons.1 hx with e | hx
            · subst e; exact ⟨hi, h.1⟩
            · exact hl x hx) h.2⟩
        · exact h.elim
      | true =>
        simp only [goY] at h
        simp only [goW]
        cases o with
        | call f xs =>
          simp only at h ⊢
          cases he : evs t xs with
          | some args => rw [he] at h; exact Tri.mono h fun _ _ => haft
          | none => rw [he] at h; exact h.elim
        | callv x xs =>
          simp only at h ⊢
          split at h
          · rename_i h1 h2; rw [h1, h2]; exact Tri.mono h fun _ _ => haft
          · exact h.elim
        | _ =>
          simp only at h ⊢
          split at h
          · rename_i he; rw [he]; exact ⟨h.1, haft h.2⟩
          · exact h.elim
    have hskip : ∀ {t : Tr}, skipY i s (g, d, o, ps) d ps lag t m (DY P K L) → skipW r i s d ps (toL lag) t m (DX P r K (L.map fun x => (x.1, x.2.1))) := by
      intro t h
      cases s with
      | false =>
        exact ih (lag := (i, (g, d, o, ps), .tup [], True) :: lag) (fun x hx => by
            rcases List.mem_cons.1 hx with e | hx
            · subst e; exact ⟨hi, trivial⟩
            · exact hl x hx) h
      | true => exact haft h
    simp only [List.map_cons, DX, hi]
    simp only [DY] at h
    cases hg : gk t g with
    | stuck => rw [hg] at h; exact h.elim
    | yes => rw [hg] at h; exact hgo h
    | no => rw [hg] at h; exact hskip h
    | fork j q w =>
      rw [hg] at h
      obtain ⟨h0, h1, h2⟩ := h
      refine ⟨h0, fun hq => ?_, fun hq => ?_⟩
      · obtain ⟨a1, a2⟩ := h1 hq
        refine ⟨ReY_ok hl a1, ?_⟩
        cases w with
        | true => exact hgo a2
        | false => exact hskip a2
      · obtain ⟨a1, a2⟩ := h2 hq
        refine ⟨ReY_ok hl a1, ?_⟩
        cases w with
        | true => exact hskip a2
        | false => exact hgo a2
def mkL (r : List It) : List (Nat × Bool) → Option (List (Nat × Bool × It))
  | [] => some []
  | (i, s) :: ord => match ig r i, mkL r ord with
    | some it, some l => some ((i, s, it) :: l)
    | _, _ => none
theorem mkL_ok {r : List It} : ∀ {ord : List (Nat × Bool)} {L : List (Nat × Bool × It)}, mkL r ord = some L → ord = L.map (fun x => (x.1, x.2.1)) ∧ ∀ x ∈ L, ig r x.1 = some x.2.2
  | [], L, h => by simp [mkL] at h; subst h; simp
  | (i, s) :: ord, L, h => by
    simp only [mkL] at h
    split at h
    · rename_i it l hi hl
      cases h
      obtain ⟨h1, h2⟩ := mkL_ok hl
      refine ⟨by simp [h1], fun x hx => ?_⟩
      rcases List.mem_cons.1 hx with e | hx
      · subst e; exact hi
      · exact h2 x hx
    · cases h
theorem sem_drawE (ord : List (Nat × Bool)) {r : List It} {k : List C} {t : Tr} {m : Mem} {Q : Exit → Tr → Mem → Prop} (hm : P.follows .mixedOrders = true) (hok : okDraw r ord = true)
    (h : DX P r (fun t m => exec (SemW P n k0) 4000 k t m Q) ord [] t m) : SemW P n k0 (.draw r :: k) t m Q := by
  intro cs hcs A φ σ a w hG
  cases view_of P n _ cs _ (Nat.le_refl _) hcs with
  | draw hl hr h' =>
    rename_i id ops rest
    refine h' _ a w ?_
    have H := okDraw_ok hl hok
    refine wp_region_any hm ?_
    have hG' : Good A n k0 φ σ m { w with drawn := w.drawn + 1 } t a := ⟨hG.fz, hG.sg, hG.inv.same rfl, hG.tr, hG.sz, hG.df, hG.grow, hG.kept, hG.own, hG.len, hG.ice, hG.env⟩
    have hnone : ∀ i, (Array.replicate ops.size false).getD i false = false := by
      intro i; by_cases hi : i < ops.size <;> simp [hi]
    refine DX_sound (k0 := k0) H (K := fun t m => exec (SemW P n k0) 4000 k t m Q) (fun φ σ t m a w hK hG => run_ok 4000 k t m Q hK _ hr A φ σ a w hG) ops.size _ [] ord [] t m φ σ a _ (by simp) ?_ (fun x y e => by cases e) ⟨rfl, trivial, fun x _ => hnone _, fun x hx => (by cases hx), fun l v hl => (by cases hl), fun l v hl => (by cases hl), fun j it hj => (by have hj : (Array.replicate ops.size false).getD j false = true := hj; rw [hnone] at hj; cases hj), hG'.retr fun k u hk => hG'.tr k u (vis_some hk).2⟩ h
    unfold left
    exact Nat.le_trans List.countP_le_length (by simp)
theorem sem_drawY {ord : List (Nat × Bool)} {r : List It} {L : List (Nat × Bool × It)} {k : List C} {t : Tr} {m : Mem} {Q : Exit → Tr → Mem → Prop} (hok : okDraw r ord = true ∧ mkL r ord = some L) (hm : P.follows .mixedOrders = true)
    (h : DY P (fun t m => exec (SemW P n k0) 4000 k t m Q) L [] t m) : SemW P n k0 (.draw r :: k) t m Q := by
  obtain ⟨h1, h2⟩ := mkL_ok hok.2
  have h' : DX P r (fun t m => exec (SemW P n k0) 4000 k t m Q) ord [] t m := by
    rw [h1]; exact DY_ok (lag := []) h2 (fun x hx => by cases hx) h
  refine sem_drawE ord hm hok.1 h'
/-! The same, told without functions as arguments: simp would look into them. -/
def DZ (P : Program) (K : Tr → Mem → Prop) (ord : List (Nat × Bool × It)) (lag : Lg) (t : Tr) (m : Mem) : Prop := DY P K ord lag t m
def aftZ (P : Program) (K : Tr → Mem → Prop) (ps : List Nat) (lag : Lg) (t : Tr) (m : Mem) (ord : List (Nat × Bool × It)) : Prop := ReY (drpY ps lag) t m ∧ DZ P K ord (drpY ps lag) t m
def skipZ (P : Program) (K : Tr → Mem → Prop) (i : Nat) (s : Bool) (it : It) (d : Option Nat) (ps : List Nat) (lag : Lg) (t : Tr) (m : Mem) (ord : List (Nat × Bool × It)) : Prop := match s with
  | false => DZ P K ord ((i, it, .tup [], True) :: lag) (sp d t (.tup [])) m
  | true => aftZ P K ps lag (sp d t (.tup [])) m ord
def TriZ (P : Program) (K : Tr → Mem → Prop) (f : FuncId) (args : List AV) (d : Option Nat) (ps : List Nat) (lag : Lg) (t : Tr) (m : Mem) (ord : List (Nat × Bool × It)) : Prop := Tri P f args m fun v m' => aftZ P K ps lag (sp d t v) m' ord
theorem TriZ.of {P : Program} {K : Tr → Mem → Prop} {f : FuncId} {args : List AV} {d : Option Nat} {ps : List Nat} {lag : Lg} {t : Tr} {m : Mem} {ord : List (Nat × Bool × It)} (h : Tri P f args m fun v m' => aftZ P K ps lag (sp d t v) m' ord) : TriZ P K f args d ps lag t m ord := h
def goZ (P : Program) (K : Tr → Mem → Prop) (i : Nat) (s : Bool) (it : It) (d : Option Nat) (o : O) (ps : List Nat) (lag : Lg) (t : Tr) (m : Mem) (ord : List (Nat × Bool × It)) : Prop := match s with
  | false => match ao o t m with
    | some (p, v, _) => p ∧ DZ P K ord ((i, it, v, p) :: lag) (sp d t v) m
    | none => False
  | true => match o with
    | .call f xs => match evs t xs with
      | some args => TriZ P K f args d ps lag t m ord
      | none => False
    | .callv x xs => match ev t x, evs t xs with
      | some (.fn f fs cp), some args => TriZ P K f (fs ++ args ++ cp) d ps lag t m ord
      | _, _ => False
    | o => match ao o t m with
      | some (p, v, m') => p ∧ aftZ P K ps lag (sp d t v) m' ord
      | none => False
theorem DZ_nil (P : Program) (K : Tr → Mem → Prop) (lag : Lg) (t : Tr) (m : Mem) : DZ P K [] lag t m = K t m := propext Iff.rfl
theorem DZ_cons (P : Program) (K : Tr → Mem → Prop) (i : Nat) (s : Bool) (g : Option (Nat × Bool)) (d : Option Nat) (o : O) (ps : List Nat) (ord : List (Nat × Bool × It)) (lag : Lg) (t : Tr) (m : Mem) :
    DZ P K ((i, s, g, d, o, ps) :: ord) lag t m = match gk t g with
      | .stuck => False
      | .yes => goZ P K i s (g, d, o, ps) d o ps lag t m ord
      | .no => skipZ P K i s (g, d, o, ps) d ps lag t m ord
      | .fork j q w => Nat.blt j 4000 = true ∧
        fk q (ReY lag (t.set j (.bool true)) m ∧ (match w with | true => goZ P K i s (g, d, o, ps) d o ps lag (t.set j (.bool true)) m ord | false => skipZ P K i s (g, d, o, ps) d ps lag (t.set j (.bool true)) m ord))
          (ReY lag (t.set j (.bool false)) m ∧ (match w with | true => skipZ P K i s (g, d, o, ps) d ps lag (t.set j (.bool false)) m ord | false => goZ P K i s (g, d, o, ps) d o ps lag (t.set j (.bool false)) m ord)) := propext Iff.rfl
theorem sem_drawG {ord : List (Nat × Bool)} {r : List It} {L : List (Nat × Bool × It)} {k : List C} {t : Tr} {m : Mem} {Q : Exit → Tr → Mem → Prop} (hok : okDraw r ord = true ∧ mkL r ord = some L) (hm : P.follows .mixedOrders = true)
    (h : ∀ KK : Tr → Mem → Prop, KK = (fun t m => exec (SemW P n k0) 4000 k t m Q) → DZ P KK L [] t m) : SemW P n k0 (.draw r :: k) t m Q := sem_drawY hok hm (h _ rfl)
attribute [go_sem] DZ_nil DZ_cons goZ skipZ aftZ ReY RvY drpY hasN gk
end Go.AE
