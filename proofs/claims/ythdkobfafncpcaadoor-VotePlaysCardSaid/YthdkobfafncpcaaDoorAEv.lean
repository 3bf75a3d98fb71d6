/- The abstract evaluator: AEv in one. -/
import Derived.Test.YthdkobfafncpcaaDoorAEu
/- The abstract evaluator, part v: an operation looks at its operands alone. -/
namespace Go.AE
open Go
set_option linter.unusedVariables false
set_option linter.unusedSimpArgs false

def opr : O → List Opd
  | .mv x | .box x | .nck x | .un _ x | .cvi _ x | .cvs x | .cvb x | .cvt x | .ifc _ x | .fad _ x | .fld _ _ x | .ext x _ | .eqn _ x | .len _ x | .lenm x | .clr _ _ x | .tas _ _ x | .rng x | .nxt x | .ent x => [x]
  | .pick c a b => [c, a, b]
  | .alloc _ | .mkmap | .other => []
  | .build _ ps => ps.map fun p => p.2.2
  | .bsl _ _ _ ps => ps.map fun p => p.2
  | .ld _ a => [a]
  | .iag _ _ _ i => [i]
  | .ldn _ a => [a]
  | .st _ a v => [a, v]
  | .bin _ x y | .eqp _ _ x y | .eqb _ x y | .eqa _ _ x y | .iad _ x y | .iaa _ x y | .ist x y | .ixa _ _ x y | .app _ x y | .cpy _ x y | .look _ _ _ _ x y | .mdel _ x y => [x, y]
  | .mkfn _ a c => a ++ c
  | .mksl _ _ _ l c => [l, c]
  | .ssl x lo hi => x :: (lo.toList ++ hi.toList)
  | .lsl _ x lo hi mx => x :: (lo.toList ++ (hi.toList ++ mx.toList))
  | .asl _ x lo hi => x :: (lo.toList ++ hi.toList)
  | .mx xs | .mn xs => xs
  | .mput _ x k v => [x, k, v]
  | .call _ xs => xs
  | .callv x xs => x :: xs
  | .inv x _ xs => x :: xs

theorem evs_congr {t t' : Tr} : ∀ {xs : List Opd}, (∀ x ∈ xs, ev t x = ev t' x) → evs t xs = evs t' xs
  | [], _ => rfl
  | x :: xs, h => by
    simp only [evs]
    rw [h x (by simp), evs_congr fun y hy => h y (by simp [hy])]
theorem bputs_congr {t t' : Tr} : ∀ {ps : List (Nat × Nat × Opd)} {z : List AV}, (∀ x ∈ ps.map (fun p => p.2.2), ev t x = ev t' x) → bputs z ps t = bputs z ps t'
  | [], _, _ => rfl
  | (o, n, x) :: ps, z, h => by
    simp only [bputs]
    rw [h x (by simp)]
    have ih : ∀ z', bputs z' ps t = bputs z' ps t' := fun z' => bputs_congr fun y hy => h y (by simp at hy ⊢; exact .inr hy)
    simp only [ih]
theorem slits_congr {t t' : Tr} {sz : Nat} : ∀ {ps : List (Nat × Opd)} {rows : List (List AV)}, (∀ x ∈ ps.map (fun p => p.2), ev t x = ev t' x) → slits sz rows ps t = slits sz rows ps t'
  | [], _, _ => rfl
  | (i, x) :: ps, rows, h => by
    simp only [slits]
    rw [h x (by simp)]
    have ih : ∀ r', slits sz r' ps t = slits sz r' ps t' := fun r' => slits_congr fun y hy => h y (by simp at hy ⊢; exact .inr hy)
    simp only [ih]
theorem bnds_congr {t t' : Tr} {len most : Nat} {lo hi : Option Opd} (h : ∀ x ∈ lo.toList ++ hi.toList, ev t x = ev t' x) : bnds len t lo hi most = bnds len t' lo hi most := by
  cases lo with
  | none => cases hi with
    | none => rfl
    | some y => simp only [bnds]; rw [h y (by simp)]
  | some x => cases hi with
    | none => simp only [bnds]; rw [h x (by simp)]
    | some y => simp only [bnds]; rw [h x (by simp), h y (by simp)]
theorem lslA_congr {t t' : Tr} {sz : Nat} {m : Mem} {v : AV} {lo hi mx : Option Opd} (h : ∀ x ∈ lo.toList ++ (hi.toList ++ mx.toList), ev t x = ev t' x) : lslA sz m v t lo hi mx = lslA sz m v t' lo hi mx := by
  have hb : ∀ len most, bnds len t lo hi most = bnds len t' lo hi most := fun len most => bnds_congr fun x hx => h x (by simp at hx ⊢; rcases hx with hx | hx <;> simp [hx])
  cases mx with
  | none => simp only [lslA, hb]
  | some y => have := h y (by simp); cases hi <;> cases v <;> simp only [lslA, hb, this]
theorem ao_congr {t t' : Tr} {m : Mem} {o : O} (h : ∀ x ∈ opr o, ev t x = ev t' x) : ao o t m = ao o t' m := by
  cases o with
  | build z ps => simp only [ao, bputs_congr h]
  | bsl a b c ps => simp only [ao, slits_congr h]
  | mkfn f a c => simp only [ao]; rw [evs_congr fun x hx => h x (by simp [opr, hx]), evs_congr (xs := c) fun x hx => h x (by simp [opr, hx])]
  | mx xs => simp only [ao]; rw [evs_congr (xs := xs) h]
  | mn xs => simp only [ao]; rw [evs_congr (xs := xs) h]
  | ssl x lo hi =>
    have hx := h x (by simp [opr])
    have hb : ∀ len most, bnds len t lo hi most = bnds len t' lo hi most := fun len most => bnds_congr fun y hy => h y (by simp only [opr]; exact List.mem_cons_of_mem _ hy)
    simp only [ao, hx, hb]
  | asl k x lo hi =>
    have hx := h x (by simp [opr])
    have hb : ∀ len most, bnds len t lo hi most = bnds len t' lo hi most := fun len most => bnds_congr fun y hy => h y (by simp only [opr]; exact List.mem_cons_of_mem _ hy)
    simp only [ao, hx, hb]
  | lsl sz x lo hi mx =>
    have hx := h x (by simp [opr])
    have hb : ∀ v, lslA sz m v t lo hi mx = lslA sz m v t' lo hi mx := fun v => lslA_congr fun y hy => h y (by simp only [opr]; exact List.mem_cons_of_mem _ hy)
    simp only [ao, hx, hb]
  | pick c a b => simp only [ao]; rw [h c (by simp [opr]), h a (by simp [opr]), h b (by simp [opr])]
  | st k a v => simp only [ao]; rw [h a (by simp [opr]), h v (by simp [opr])]
  | bin _ x y => simp only [ao]; rw [h x (by simp [opr]), h y (by simp [opr])]
  | eqp _ _ x y => simp only [ao]; rw [h x (by simp [opr]), h y (by simp [opr])]
  | eqb _ x y => simp only [ao]; rw [h x (by simp [opr]), h y (by simp [opr])]
  | iad _ x y => simp only [ao]; rw [h x (by simp [opr]), h y (by simp [opr])]
  | iaa _ x y => simp only [ao]; rw [h x (by simp [opr]), h y (by simp [opr])]
  | iag _ _ _ y => simp only [ao]; rw [h y (by simp [opr])]
  | ist x y => simp only [ao]; rw [h x (by simp [opr]), h y (by simp [opr])]
  | ixa _ _ x y => simp only [ao]; rw [h x (by simp [opr]), h y (by simp [opr])]
  | app _ x y => simp only [ao]; rw [h x (by simp [opr]), h y (by simp [opr])]
  | mksl _ _ _ x y => simp only [ao]; rw [h x (by simp [opr]), h y (by simp [opr])]
  | mv x => simp only [ao]; rw [h x (by simp [opr])]
  | box x => simp only [ao]; rw [h x (by simp [opr])]
  | nck x => simp only [ao]; rw [h x (by simp [opr])]
  | un _ x => simp only [ao]; rw [h x (by simp [opr])]
  | cvi _ x => simp only [ao]; rw [h x (by simp [opr])]
  | cvs x => simp only [ao]; rw [h x (by simp [opr])]
  | cvb x => simp only [ao]; rw [h x (by simp [opr])]
  | cvt x => simp only [ao]; rw [h x (by simp [opr])]
  | ifc _ x => simp only [ao]; rw [h x (by simp [opr])]
  | fad _ x => simp only [ao]; rw [h x (by simp [opr])]
  | fld _ _ x => simp only [ao]; rw [h x (by simp [opr])]
  | ext x _ => simp only [ao]; rw [h x (by simp [opr])]
  | len _ x => simp only [ao]; rw [h x (by simp [opr])]
  | ld _ x => simp only [ao]; rw [h x (by simp [opr])]
  | ldn _ x => simp only [ao]; rw [h x (by simp [opr])]
  | eqa _ _ x y => simp only [ao]; rw [h x (by simp [opr]), h y (by simp [opr])]
  | cpy _ x y => simp only [ao]; rw [h x (by simp [opr]), h y (by simp [opr])]
  | look _ _ _ _ x y => simp only [ao]; rw [h x (by simp [opr]), h y (by simp [opr])]
  | mdel _ x y => simp only [ao]; rw [h x (by simp [opr]), h y (by simp [opr])]
  | mput _ a b c => simp only [ao]; rw [h c (by simp [opr]), h a (by simp [opr]), h b (by simp [opr])]
  | clr _ _ x => simp only [ao]; rw [h x (by simp [opr])]
  | lenm x => simp only [ao]; rw [h x (by simp [opr])]
  | _ => rfl
end Go.AE
