/- The abstract evaluator: AEzk, AEzl, AEzm, AEzn in one. -/
import Derived.Test.YtpbmlaolpfaicaaAEzj
import Derived.Maps.RangeRun
/- The abstract evaluator, part zk: a row whose first elements nobody reads any more is told without them. -/
namespace Go.AE
open Go
set_option linter.unusedVariables false
set_option linter.unusedSimpArgs false

variable {P : Program} {n k0 : Nat}

mutual
def shV (b N k : Nat) : AV → AV
  | .sl b' i n c t => match Nat.beq b' b, Nat.ble k i with
    | true, true => .sl N (i - k) n c t
    | _, _ => .sl b' i n c t
  | .agg vs => .agg (shL b N k vs)
  | v => v
def shL (b N k : Nat) : List AV → List AV
  | [] => []
  | v :: vs => shV b N k v :: shL b N k vs
end
def shT (b N k : Nat) : Tr → Tr
  | .lf => .lf
  | .nd l v r => match v with
    | some v => .nd (shT b N k l) (some (shV b N k v)) (shT b N k r)
    | none => .nd (shT b N k l) none (shT b N k r)
def shB (b N k : Nat) : Blk → Blk
  | .box cs => .box (shL b N k cs)
  | l => l
def shM (b N k : Nat) : Mem → Mem
  | [] => []
  | l :: m => shB b N k l :: shM b N k m
attribute [go_sem] shT shM shB shV shL Nat.ble
end Go.AE

/- The abstract evaluator, part zl: nil slices that are known to be nil. -/
namespace Go.AE
open Go
set_option linter.unusedVariables false
set_option linter.unusedSimpArgs false

variable {P : Program} {n k0 : Nat}

theorem Like.nil0 : Like .nil0 .nilsl := fun _ _ _ h => by cases h; exact .nilsl
end Go.AE

/- The abstract evaluator, part zm: loops over maps. -/
namespace Go.AE
open Go
open Go.ChangeMaps (setBlock)
set_option linter.unusedVariables false
set_option linter.unusedSimpArgs false

variable {P : Program} {n k0 : Nat}

end Go.AE

/- The abstract evaluator, part zn: rounds that leave the memory as it is. -/
namespace Go.AE
open Go
set_option linter.unusedVariables false
set_option linter.unusedSimpArgs false

variable {P : Program} {n k0 : Nat}

def idl : Nat → Nat → List Nat
  | 0, _ => []
  | n + 1, i => i :: idl n (i + 1)
theorem idl_len : ∀ (n i : Nat), (idl n i).length = n
  | 0, _ => rfl
  | n + 1, i => by simp [idl, idl_len n]
theorem idl_get : ∀ (n i j : Nat), j < n → (idl n i)[j]? = some (i + j)
  | 0, _, _, h => by omega
  | n + 1, i, 0, _ => by simp [idl]
  | n + 1, i, j + 1, h => by simp only [idl, List.getElem?_cons_succ]; rw [idl_get n (i + 1) j (by omega)]; congr 1; omega
theorem rid_idl {n N b : Nat} (h : b < n) : rid (idl n 0) N b = b := by
  obtain ⟨p, h1, h2⟩ := rid_lt (π := idl n 0) (N := N) (j := b) (by rw [idl_len]; exact h)
  rw [idl_get n 0 b h] at h1
  rw [h2]; simp at h1; omega
mutual
theorem ren_idl {n N : Nat} : ∀ {v : AV}, ids n v = true → ren (idl n 0) N v = v
  | .bool _, _ | .bsym _, _ | .int _ _, _ | .str _, _ | .nilptr, _ | .pval _ _ _ _, _ | .nilsl, _ | .nil0, _ | .vsl _ _ _, _ | .nilmap, _ | .nilfn, _ | .nilif, _ => rfl
  | .pbox b j, h => by simp only [ren]; rw [rid_idl (Nat.blt_eq.mp h)]
  | .parr b j i, h => by simp only [ren]; rw [rid_idl (Nat.blt_eq.mp h)]
  | .pelt b j i, h => by simp only [ren]; rw [rid_idl (Nat.blt_eq.mp h)]
  | .sl b i l c t, h => by simp only [ren]; rw [rid_idl (Nat.blt_eq.mp h)]
  | .asl b j i l c, h => by simp only [ren]; rw [rid_idl (Nat.blt_eq.mp h)]
  | .map b, h => by simp only [ren]; rw [rid_idl (Nat.blt_eq.mp h)]
  | .fn f a c, h => by simp only [ids, Bool.and_eq_true] at h; simp only [ren]; rw [rens_idl h.1, rens_idl h.2]
  | .ifc t v, h => by simp only [ren]; rw [ren_idl (v := v) h]
  | .agg cs, h => by simp only [ren]; rw [rens_idl (vs := cs) h]
  | .tup cs, h => by simp only [ren]; rw [rens_idl (vs := cs) h]
theorem rens_idl {n N : Nat} : ∀ {vs : List AV}, idss n vs = true → rens (idl n 0) N vs = vs
  | [], _ => rfl
  | v :: vs, h => by simp only [idss, Bool.and_eq_true] at h; simp only [rens]; rw [ren_idl h.1, rens_idl h.2]
end
theorem renP_idl {n N : Nat} : ∀ {es : List (AV × AV)}, idsP n es = true → renP (idl n 0) N es = es
  | [], _ => rfl
  | (a, b) :: es, h => by simp only [idsP, Bool.and_eq_true] at h; simp only [renP]; rw [ren_idl h.1.1, ren_idl h.1.2, renP_idl h.2]
theorem renB_idl {n N : Nat} : ∀ {k : Blk}, idsB n k = true → renB (idl n 0) N k = k
  | .box cs, h => by simp only [renB]; rw [rens_idl (vs := cs) h]
  | .row _ _, _ => rfl
  | .map es, h => by simp only [renB]; rw [renP_idl (es := es) h]
  | .mapb _ _ _ es, h => by simp only [renB]; rw [renP_idl (es := es) h]
  | .iter _ _ _ _, _ => rfl
  | .gone, _ => rfl
theorem embM_idl {n N : Nat} {ex : Mem} : ∀ {pm pre : Mem}, idsM n pm = true → embM (idl n 0) N (pre ++ (pm ++ ex)) (idl pm.length pre.length) pm
  | [], _, _ => trivial
  | k :: pm, pre, h => by
    simp only [idsM, Bool.and_eq_true] at h
    have ih := embM_idl (N := N) (ex := ex) (pm := pm) (pre := pre ++ [k]) h.2
    simp only [List.append_assoc, List.singleton_append, List.length_append, List.length_cons, List.length_nil] at ih
    have hg : mg (pre ++ k :: (pm ++ ex)) pre.length = renB (idl n 0) N k := by
      rw [renB_idl h.1]
      clear ih h
      induction pre with
      | nil => rfl
      | cons x pre ih => exact ih
    simp only [List.length_cons, idl, List.cons_append]
    cases k with
    | gone => exact ih
    | _ => exact ⟨hg, ih⟩
theorem nodup_idl : ∀ (n i : Nat), nodupN (idl n i) = true
  | 0, _ => rfl
  | n + 1, i => by
    simp only [idl, nodupN, nodup_idl n (i + 1), Bool.and_true, Bool.not_eq_true']
    rw [Bool.eq_false_iff]
    intro h
    have hm : i ∈ idl n (i + 1) := by simpa using h
    obtain ⟨j, hj⟩ := List.getElem?_of_mem hm
    have hjl : j < n := by
      rcases Nat.lt_or_ge j n with h | h
      · exact h
      · rw [List.getElem?_eq_none (by rw [idl_len]; exact h)] at hj; cases hj
    rw [idl_get n (i + 1) j hjl] at hj
    simp at hj; omega
def embT0 (t : Tr) : List (Nat × AV) → Prop
  | [] => True
  | (i, v) :: l => t.get i = some v ∧ embT0 t l
attribute [go_sem] embT0
end Go.AE
