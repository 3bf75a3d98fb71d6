/- The abstract evaluator: AEy in one. -/
import Derived.Test.YthdkobfafncpcaaDoorAEx
/- The abstract evaluator, part y: regions that draw their order: the evaluator. -/
namespace Go.AE
open Go
set_option linter.unusedVariables false
set_option linter.unusedSimpArgs false

variable {P : Program} {n k0 : Nat}

theorem Tr.put_get : ∀ (f : Nat) (t : Tr) (j : Nat) (x : Option AV), j + 1 < 2 ^ f → (Tr.put f t j x).get j = x
  | 0, t, j, x, h => by simp at h
  | f + 1, .lf, 0, x, h => rfl
  | f + 1, .nd l u r, 0, x, h => rfl
  | f + 1, .lf, i + 1, x, h => by
    have h2 : i / 2 + 1 < 2 ^ f := by rw [Nat.pow_succ] at h; omega
    simp only [Tr.put]
    cases hi : (i % 2 == 0) <;> simp only [cond_true, cond_false, Tr.get, hi] <;> exact Tr.put_get f _ _ _ h2
  | f + 1, .nd l u r, i + 1, x, h => by
    have h2 : i / 2 + 1 < 2 ^ f := by rw [Nat.pow_succ] at h; omega
    simp only [Tr.put]
    cases hi : (i % 2 == 0) <;> simp only [cond_true, cond_false, Tr.get, hi] <;> exact Tr.put_get f _ _ _ h2

def Tr.flt : (Nat → Bool) → Tr → Tr
  | _, .lf => .lf
  | p, .nd l v r => .nd (Tr.flt (fun i => p (2 * i + 1)) l) (bif p 0 then v else none) (Tr.flt (fun i => p (2 * i + 2)) r)
theorem Tr.flt_get : ∀ (t : Tr) (p : Nat → Bool) (i : Nat), (t.flt p).get i = bif p i then t.get i else none
  | .lf, p, i => by simp [Tr.flt, Tr.get]
  | .nd l v r, p, 0 => by simp [Tr.flt, Tr.get]
  | .nd l v r, p, i + 1 => by
    simp only [Tr.flt, Tr.get]
    cases hi : (i % 2 == 0) <;> simp only [cond_true, cond_false]
    · rw [Tr.flt_get r]
      have : 2 * (i / 2) + 2 = i + 1 := by simp at hi; omega
      rw [this]
    · rw [Tr.flt_get l]
      have : 2 * (i / 2) + 1 = i + 1 := by simp at hi; omega
      rw [this]

inductive GK where
  | yes | no | stuck
  | fork (j : Nat) (q w : Bool)
def gk (t : Tr) : Option (Nat × Bool) → GK
  | none => .yes
  | some (j, w) => match t.get j with
    | some (.bool true) => match w with | true => .yes | false => .no
    | some (.bool false) => match w with | true => .no | false => .yes
    | some (.bsym q) => .fork j q w
    | some (.tup _) => .no
    | _ => .stuck
def Rv (r : List It) (l : Nat) (v : AV) (t : Tr) (m : Mem) : Prop := match ig r l with
  | some (g, _, o, _) => match gk t g with
    | .no => asB v = .tup []
    | .yes => match ao o t m with
      | some (p, v', _) => p ∧ asB v' = asB v
      | none => False
    | _ => False
  | none => False
def Re (r : List It) : List (Nat × AV) → Tr → Mem → Prop
  | [], _, _ => True
  | (l, v) :: lag, t, m => Rv r l v t m ∧ Re r lag t m
theorem Re_mem {r : List It} {t : Tr} {m : Mem} : ∀ {lag : List (Nat × AV)} {l : Nat} {v : AV}, Re r lag t m → (l, v) ∈ lag → Rv r l v t m
  | (l', v') :: lag, l, v, h, hm => by
    rcases List.mem_cons.1 hm with e | hm
    · cases e; exact h.1
    · exact Re_mem h.2 hm
def hasN : List Nat → Nat → Bool
  | [], _ => false
  | p :: ps, i => match Nat.beq p i with
    | true => true
    | false => hasN ps i
theorem hasN_ok : ∀ {ps : List Nat} {i : Nat}, hasN ps i = true → i ∈ ps
  | p :: ps, i, h => by
    simp only [hasN] at h
    cases hp : Nat.beq p i with
    | true => rw [Nat.eq_of_beq_eq_true hp]; simp
    | false => rw [hp] at h; exact List.mem_cons_of_mem _ (hasN_ok h)
def drp (ps : List Nat) : List (Nat × AV) → List (Nat × AV)
  | [] => []
  | (l, v) :: lag => bif hasN ps l then drp ps lag else (l, v) :: drp ps lag
theorem drp_mem {ps : List Nat} : ∀ {lag : List (Nat × AV)} {l : Nat} {v : AV}, (l, v) ∈ lag → l ∉ ps → (l, v) ∈ drp ps lag
  | (l', v') :: lag, l, v, h, hp => by
    simp only [drp]
    rcases List.mem_cons.1 h with e | h
    · cases e
      cases hh : hasN ps l' with
      | true => exact absurd (hasN_ok hh) hp
      | false => simp
    · cases hh : hasN ps l' with
      | true => exact drp_mem h hp
      | false => exact List.mem_cons_of_mem _ (drp_mem h hp)

abbrev RF := List (Nat × AV) → Tr → Mem → Prop
def aft (r : List It) (ps : List Nat) (lag : List (Nat × AV)) (t : Tr) (m : Mem) (R : RF) : Prop := Re r (drp ps lag) t m ∧ R (drp ps lag) t m
def skipW (r : List It) (i : Nat) (s : Bool) (d : Option Nat) (ps : List Nat) (lag : List (Nat × AV)) (t : Tr) (m : Mem) (R : RF) : Prop := match s with
  | false => R ((i, .tup []) :: lag) (sp d t (.tup [])) m
  | true => aft r ps lag (sp d t (.tup [])) m R
def goW (P : Program) (r : List It) (i : Nat) (s : Bool) (d : Option Nat) (o : O) (ps : List Nat) (lag : List (Nat × AV)) (t : Tr) (m : Mem) (R : RF) : Prop := match s with
  | false => match ao o t m with
    | some (p, v, _) => p ∧ R ((i, v) :: lag) (sp d t v) m
    | none => False
  | true => match o with
    | .call f xs => match evs t xs with
      | some args => Tri P f args m fun v m' => aft r ps lag (sp d t v) m' R
      | none => False
    | .callv x xs => match ev t x, evs t xs with
      | some (.fn f fs cp), some args => Tri P f (fs ++ args ++ cp) m fun v m' => aft r ps lag (sp d t v) m' R
      | _, _ => False
    | o => match ao o t m with
      | some (p, v, m') => p ∧ aft r ps lag (sp d t v) m' R
      | none => False
def DX (P : Program) (r : List It) (K : Tr → Mem → Prop) : List (Nat × Bool) → RF
  | [], _, t, m => K t m
  | (i, s) :: ord, lag, t, m => match ig r i with
    | none => False
    | some (g, d, o, ps) => match gk t g with
      | .stuck => False
      | .yes => goW P r i s d o ps lag t m (DX P r K ord)
      | .no => skipW r i s d ps lag t m (DX P r K ord)
      | .fork j q w => Nat.blt j 4000 = true ∧
        (q = true → Re r lag (t.set j (.bool true)) m ∧ (bif w then goW P r i s d o ps lag (t.set j (.bool true)) m (DX P r K ord) else skipW r i s d ps lag (t.set j (.bool true)) m (DX P r K ord))) ∧
        (q = false → Re r lag (t.set j (.bool false)) m ∧ (bif w then skipW r i s d ps lag (t.set j (.bool false)) m (DX P r K ord) else goW P r i s d o ps lag (t.set j (.bool false)) m (DX P r K ord)))

theorem goW_step {r : List It} {i : Nat} {d : Option Nat} {o : O} {ps : List Nat} {lag : List (Nat × AV)} {t : Tr} {m : Mem} {R : RF} (h : goW P r i true d o ps lag t m R) :
    Step1 P n o t m fun v m' => aft r ps lag (sp d t v) m' R := by
  unfold goW at h
  cases o with
  | call f xs =>
    simp only at h
    split at h
    · rename_i args he; exact ⟨args, he, h⟩
    · exact h.elim
  | callv x xs =>
    simp only at h
    split at h
    · rename_i f fs cp args h1 h2; exact ⟨f, fs, cp, args, h1, h2, h⟩
    · exact h.elim
  | _ =>
    simp only at h
    split at h
    · rename_i p v m' he; exact ⟨p, v, m', he, h⟩
    · exact h.elim
theorem gk_gok {t : Tr} {g : Option (Nat × Bool)} : (gk t g = .yes → gok t g = some true) ∧ (gk t g = .no → gok t g = some false) := by
  cases g with
  | none => exact ⟨fun _ => rfl, fun h => by cases h⟩
  | some x =>
    obtain ⟨j, w⟩ := x
    simp only [gk, gok]
    cases hj : t.get j with
    | none => exact ⟨fun h => by simp at h, fun h => by simp at h⟩
    | some v =>
      cases v with
      | bool b => cases b <;> cases w <;> simp
      | _ => simp
end Go.AE
