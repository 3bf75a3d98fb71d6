/- The abstract evaluator, part zf: a row that is lent: a contract about a slice that nobody writes holds for one of one's own too. -/
import Derived.Test.YtcenagdeejbmgaaAEze
namespace Go.AE
open Go
set_option linter.unusedVariables false
set_option linter.unusedSimpArgs false

variable {P : Program} {n k0 : Nat}

mutual
/-- Holds no slice that is told as a list. -/
def plV : AV → Bool
  | .pval .. => false
  | .vsl .. => false
  | .fn _ a c => plL a && plL c
  | .ifc _ v => plV v
  | .agg cs => plL cs
  | .tup cs => plL cs
  | _ => true
def plL : List AV → Bool
  | [] => true
  | v :: vs => plV v && plL vs
end
mutual
theorem plV_ok {φ φ' : Fz} {σ : Sg} : ∀ {v : AV} {x : Value}, VR φ σ v x → plV v = true → VR φ' σ v x
  | _, _, .bool, _ => .bool
  | _, _, .bsym, _ => .bsym
  | _, _, .int, _ => .int
  | _, _, .str, _ => .str
  | _, _, .nilptr, _ => .nilptr
  | _, _, .pbox h, _ => .pbox h
  | _, _, .parr h, _ => .parr h
  | _, _, .pelt h, _ => .pelt h
  | _, _, .pval h hb h1 hx, hp => by simp [plV] at hp
  | _, _, .nilsl, _ => .nilsl
  | _, _, .nil0, _ => .nil0
  | _, _, .sl h h1 h2 h3 h4, _ => .sl h h1 h2 h3 h4
  | _, _, .sl0, _ => .sl0
  | _, _, .asl h h1 h2 h4, _ => .asl h h1 h2 h4
  | _, _, .asl0, _ => .asl0
  | _, _, .vsl h hb h1 hx hc ht, hp => by simp [plV] at hp
  | _, _, .vsl0, hp => by simp [plV] at hp
  | _, _, .nilmap, _ => .nilmap
  | _, _, .map h, _ => .map h
  | _, _, .nilfn, _ => .nilfn
  | _, _, .fn h1 h2, hp => by simp only [plV, Bool.and_eq_true] at hp; exact .fn (plL_ok h1 hp.1) (plL_ok h2 hp.2)
  | _, _, .nilif, _ => .nilif
  | _, _, .ifc h, hp => by simp only [plV] at hp; exact .ifc (plV_ok h hp)
  | _, _, .agg h, hp => by simp only [plV] at hp; exact .agg (plL_ok h hp)
  | _, _, .tup h, hp => by simp only [plV] at hp; exact .tup (plL_ok h hp)
theorem plL_ok {φ φ' : Fz} {σ : Sg} : ∀ {v : List AV} {x : List Value}, VRs φ σ v x → plL v = true → VRs φ' σ v x
  | _, _, .nil, _ => .nil
  | _, _, .cons h ht, hp => by simp only [plL, Bool.and_eq_true] at hp; exact .cons (plV_ok h hp.1) (plL_ok ht hp.2)
end
/-- A function that only looks at a slice: its contract for one that nobody writes holds for a row of one's own. -/
theorem Tri.lend {f : FuncId} {args args' : List AV} {sz : Nat} {xs : List (List AV)} {p : Prop} {K : AV → Prop} (he : fzL 0 sz xs args = (p, args')) (hp : p)
    (h : Tri P f args' [.gone] fun v m => (plV v = true ∧ K v) ∧ m = [.gone]) : Tri P f args [.row sz xs] fun v m => K v ∧ m = [.row sz xs] := by
  refine ⟨h.1, fun φ σ w vs hI hv => ?_⟩
  obtain ⟨φ2, hf, hI2, hφ, _⟩ := hI.freeze (b := 0) (sz := sz) (xs := xs) rfl (by simp [fzM, ms])
  have hI2 : Inv φ2 σ [.gone] w := hI2
  have hv2 : VRs φ2 σ args' vs := by have := fzL_ok hf hv (by rw [he]; exact hp); rw [he] at this; exact this
  refine (h.2 φ2 σ w vs hI2 hv2).mono ?_
  rintro e w' ⟨v', he', φ', σ', v, m', ⟨⟨hpl, hK⟩, rfl⟩, hst, hr⟩
  have h0 : σ' 0 = σ 0 := hst.old 0 (by simp)
  have none_owned : ∀ (b : Nat) (k : Blk) (i : Img), ([Blk.gone] : Mem)[b]? = some k → k.owned = true → σ b = some i → ∀ B : Nat, i.B ≠ B := by
    intro b k i hb hk
    cases b with
    | zero => simp at hb; subst hb; cases hk
    | succ b => simp at hb
  have at0 : ∀ {b : Nat} {k : Blk}, ([Blk.row sz xs] : Mem)[b]? = some k → b = 0 ∧ k = .row sz xs := by
    intro b k hb
    cases b with
    | zero => simp at hb; exact ⟨rfl, hb.symm⟩
    | succ b => simp at hb
  let φ3 : Fz := fun B => if (∃ i, σ 0 = some i ∧ i.B = B) then none else φ' B
  have hle : φ.le φ3 := by
    intro B o hB
    show (if (∃ i, σ 0 = some i ∧ i.B = B) then none else φ' B) = some o
    rw [if_neg]
    · exact hst.fz _ _ (hf.le _ _ hB)
    · rintro ⟨i, hi, rfl⟩
      rw [hI.apart 0 _ i (show ([Blk.row sz xs] : Mem)[0]? = some _ from rfl) rfl hi] at hB; cases hB
  refine ⟨v', he', φ3, σ', v, _, ⟨hK, rfl⟩, ⟨hle, hst.sg, ⟨fun B o hB => ?_, fun b k hb => ?_, fun b c k l i j hb hc hk hl hi hj hne => ?_, fun b k i hb hk hi => ?_, fun b hb => hst.inv.fresh b hb⟩, hst.size, fun B hB hn => ?_, fun b k i hb hk hi => ?_, hst.old, Nat.le_refl _, fun B hB hlt hn => ?_, hst.env⟩, plV_ok hr hpl⟩
  · have hB : (if (∃ i, σ 0 = some i ∧ i.B = B) then none else φ' B) = some o := hB
    split at hB
    · cases hB
    · exact hst.inv.fz B o hB
  · obtain ⟨rfl, rfl⟩ := at0 hb
    rw [h0]
    refine (hI.blk 0 _ rfl).frame hle hst.sg fun img hi => ?_
    exact hst.frame _ (hI.lt (b := 0) rfl rfl hi) fun b k i hb hk hi => none_owned b k i hb hk hi _
  · exact absurd ((at0 hb).1.trans (at0 hc).1.symm) hne
  · obtain ⟨rfl, rfl⟩ := at0 hb
    show (if (∃ i', σ 0 = some i' ∧ i'.B = i.B) then none else φ' i.B) = none
    rw [if_pos ⟨i, by rw [← h0]; exact hi, rfl⟩]
  · exact hst.frame B hB fun b k i hb hk hi => none_owned b k i hb hk hi _
  · obtain ⟨rfl, rfl⟩ := at0 hb
    rw [h0] at hi
    exact .inl ⟨0, _, i, rfl, rfl, hi, rfl⟩
  · show (if (∃ i, σ 0 = some i ∧ i.B = B) then none else φ' B) = none
    split
    · rfl
    · rename_i hno
      refine hst.ice B ?_ hlt fun b k i hb hk hi => none_owned b k i hb hk hi _
      rcases hφ B with e | ⟨img, hi, e⟩
      · rw [e]; exact hB
      · exact absurd ⟨img, hi, e.symm⟩ hno
/-- The same, for a contract that speaks of no memory. -/
theorem Tri.lend0 {f : FuncId} {args args' : List AV} {sz : Nat} {xs : List (List AV)} {p : Prop} {K : AV → Prop} (he : fzL 0 sz xs args = (p, args')) (hp : p) (hi : idss 0 args' = true) (hr : rens [] 1 args' = args')
    (h : Tri P f args' [] fun v m => K v ∧ m = []) (hk : ∀ v, K v → plV v = true ∧ ren [] 1 v = v) : Tri P f args [.row sz xs] fun v m => K v ∧ m = [.row sz xs] := by
  refine Tri.lend he hp ((h.embed (m := [.gone]) [] hr.symm trivial hi rfl rfl (by simp)).mono ?_)
  rintro v m ⟨v0, m0, ⟨h1, rfl⟩, rfl, rfl⟩
  obtain ⟨h2, h3⟩ := hk _ h1
  simp only [List.length_cons, List.length_nil] at h3 ⊢
  exact ⟨⟨by rw [h3]; exact h2, by rw [h3]; exact h1⟩, rfl⟩
end Go.AE
