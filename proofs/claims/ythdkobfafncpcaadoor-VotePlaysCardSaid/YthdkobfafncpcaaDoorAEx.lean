/- The abstract evaluator: AEx in one. -/
import Derived.Test.YthdkobfafncpcaaDoorAEw
/- The abstract evaluator, part x: regions that draw their order: what is asked. -/
namespace Go.AE
open Go
set_option linter.unusedVariables false
set_option linter.unusedSimpArgs false

variable {P : Program} {n k0 : Nat}

abbrev It := Option (Nat × Bool) × Option Nat × O × List Nat
def ig : List It → Nat → Option It
  | [], _ => none
  | x :: _, 0 => some x
  | _ :: r, i + 1 => ig r i
theorem ig_eq : ∀ (r : List It) (i : Nat), ig r i = r[i]?
  | [], i => by simp [ig]
  | x :: r, 0 => by simp [ig]
  | x :: r, i + 1 => by simp [ig, ig_eq r i]

def isQ : O → Bool
  | .mv _ | .pick _ _ _ | .build _ _ | .bsl _ _ _ _ | .ld _ _ | .ldn _ _ | .nck _ | .bin _ _ _ | .eqp _ _ _ _ | .eqb _ _ _ | .un _ _ | .cvi _ _ | .cvb _ | .cvt _ | .ifc _ _ | .mkfn _ _ _
  | .ssl _ _ _ | .lsl _ _ _ _ _ | .asl _ _ _ _ | .fad _ _ | .fld _ _ _ | .iad _ _ _ | .iaa _ _ _ | .iag _ _ _ _ | .ist _ _ | .ixa _ _ _ _ | .ext _ _ | .len _ _ | .mx _ | .mn _ | .eqa _ _ _ _ | .look _ _ _ _ _ _ | .lenm _ => true
  | _ => false
theorem ldA_mem {k : CK} {m m' : Mem} {v u : AV} {p : Prop} (h : ldA k m v = some (p, u, m')) : m' = m := by
  unfold ldA at h; (repeat' split at h) <;> first | (cases h; rfl) | (cases h; done)
theorem ldN_mem {k : List CK} {m m' : Mem} {v u : AV} {p : Prop} (h : ldN k m v = some (p, u, m')) : m' = m := by
  unfold ldN at h; (repeat' split at h) <;> first | (cases h; rfl) | (cases h; done)
theorem isQ_mem {o : O} {t : Tr} {m m' : Mem} {v : AV} {p : Prop} (hq : isQ o = true) (h : ao o t m = some (p, v, m')) : m' = m := by
  cases o <;> first
    | (cases hq; done)
    | (simp only [ao] at h; (repeat' split at h) <;> first | (cases h; rfl) | (cases h; done) | exact ldA_mem h | exact ldN_mem h)

def rds (it : It) : List Nat := (match it.1 with | some (j, _) => [j] | none => []) ++ (opr it.2.2.1).filterMap fun x => match x with | .t i => some i | .c _ => none

/-! ### what comes ahead of what -/
def lk : List (Nat × Nat) → Nat → Nat
  | [], _ => 0
  | (i, x) :: T, j => bif Nat.beq i j then x else lk T j
def pm (T : List (Nat × Nat)) : List Nat → Nat
  | [] => 0
  | p :: ps => (1 <<< p ||| lk T p) ||| pm T ps
def tbl (r : List It) : List (Nat × Bool) → List (Nat × Nat) → List (Nat × Nat)
  | [], T => T
  | (j, _) :: ord, T => match ig r j with
    | some it => tbl r ord ((j, pm T it.2.2.2) :: T)
    | none => tbl r ord T
def inM (T : List (Nat × Nat)) (s j : Nat) : Bool := (lk T j).testBit s

def DC (r : List It) (L : Nat → Prop) : Prop := ∀ j it, L j → ig r j = some it → ∀ p ∈ it.2.2.2, L p
def Tok (r : List It) (T : List (Nat × Nat)) : Prop := ∀ (L : Nat → Prop), DC r L → ∀ j s, inM T s j = true → (∀ it, ig r j = some it → ∀ p ∈ it.2.2.2, L p) → L s
theorem pm_ok {r : List It} {T : List (Nat × Nat)} (hT : Tok r T) {L : Nat → Prop} (hL : DC r L) : ∀ {ps : List Nat} {s : Nat}, (pm T ps).testBit s = true → (∀ p ∈ ps, L p) → L s
  | [], s, h, _ => by simp [pm] at h
  | p :: ps, s, h, hp => by
    simp only [pm, Nat.testBit_or, Bool.or_eq_true] at h
    rcases h with (h | h) | h
    · rw [Nat.one_shiftLeft, Nat.testBit_two_pow] at h
      have : p = s := by simpa using h
      subst this; exact hp p (by simp)
    · exact hT L hL p s h fun it hit q hq => hL p it (hp p (by simp)) hit q hq
    · exact pm_ok hT hL h fun q hq => hp q (by simp [hq])
theorem tbl_ok {r : List It} : ∀ {ord : List (Nat × Bool)} {T : List (Nat × Nat)}, Tok r T → Tok r (tbl r ord T)
  | [], T, h => h
  | (j, b) :: ord, T, h => by
    simp only [tbl]
    split
    · rename_i it hit
      refine tbl_ok fun L hL k s hs hp => ?_
      simp only [inM, lk] at hs
      cases hjk : Nat.beq j k with
      | true =>
        rw [hjk] at hs
        have := Nat.eq_of_beq_eq_true hjk; subst this
        exact pm_ok h hL hs fun q hq => hp it hit q hq
      | false => rw [hjk] at hs; exact h L hL k s hs hp
    · exact tbl_ok h
theorem tok_nil (r : List It) : Tok r [] := fun L hL j s h => by simp [inM, lk] at h

def chkO (r : List It) (T : List (Nat × Nat)) (E : Nat → Nat → Bool) : List (Nat × Bool) → List (Nat × Bool) → Bool
  | _, [] => true
  | pre, (j, s) :: ord => (match ig r j with
    | some it => it.2.2.2.all (fun p => pre.any fun x => Nat.beq x.1 p) && (s || isQ it.2.2.1)
    | none => false) && pre.all (fun x => !(Nat.beq x.1 j) && (!x.2 || (E x.1 j || inM T x.1 j))) && chkO r T E (pre ++ [(j, s)]) ord
def chkS (r : List It) (T : List (Nat × Nat)) (ord : List (Nat × Bool)) : Bool :=
  ord.all fun x => match ig r x.1 with
    | some (_, some d, _, _) => ord.all fun y => match ig r y.1 with
      | some it => bif Nat.beq x.1 y.1 then x.2 || !((rds it).contains d) else
          !(it.2.1 == some d) && (!((rds it).contains d) || inM T x.1 y.1 || (x.2 && inM T y.1 x.1))
      | none => false
    | some (_, none, _, _) => true
    | none => false
def okDrawE (r : List It) (ord : List (Nat × Bool)) (E : Nat → Nat → Bool) : Bool :=
  let T := tbl r ord []
  (List.range r.length).all (fun i => ord.any fun x => Nat.beq x.1 i) && chkO r T E [] ord && chkS r T ord && r.all fun it => (rds it).all fun k => Nat.blt k 4000
def okDraw (r : List It) (ord : List (Nat × Bool)) : Bool := okDrawE r ord fun _ _ => false
end Go.AE
