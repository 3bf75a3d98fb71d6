/- The abstract evaluator: AEa in one. -/
import Derived.WalkKit
import Derived.Orders
/- The abstract evaluator, part a: abstract values, blocks, and when a world and its values stand for them. -/
namespace Go.AE
open Go
set_option linter.unusedVariables false
set_option linter.unusedSimpArgs false

inductive AV where
  | bool (b : Bool) | bsym (b : Bool)
  | int (k : IntKind) (n : Int)
  | str (s : List UInt8)
  | nilptr
  | pbox (b j : Nat) | parr (b j i : Nat) | pelt (b i j : Nat) | pval (sz : Nat) (xs : List (List AV)) (i j : Nat)
  | nilsl | nil0 | sl (b i len cap : Nat) (tight : Bool) | asl (b j i len cap : Nat) | vsl (sz : Nat) (xs : List (List AV)) (tight : Bool)
  | nilmap | map (b : Nat)
  | nilfn | fn (f : FuncId) (first cap : List AV)
  | nilif | ifc (t : TypeId) (v : AV)
  | agg (cs : List AV)
  | tup (vs : List AV)

structure Img where
  B : Nat
  o : Nat
  sz : Nat
  cap : Nat

abbrev Sg := Nat → Option Img
abbrev Fz := Nat → Option Obj
def noS : Sg := fun _ => none

def Ones (c : Array Value) (lo hi : Nat) : Prop := ∀ (p : Nat) (u : Value), lo ≤ p → p < hi → c[p]? = some u → u.oneCell' = true

mutual
inductive VR (φ : Fz) : Sg → AV → Value → Prop where
  | bool {σ b} : VR φ σ (.bool b) (.bool b)
  | bsym {σ b} : VR φ σ (.bsym b) (.bool b)
  | int {σ k n} : VR φ σ (.int k n) (.int k n)
  | str {σ s} : VR φ σ (.str s) (.string ⟨s.toArray⟩)
  | nilptr {σ} : VR φ σ .nilptr (.pointer none)
  | pbox {σ b j img} (h : σ b = some img) : VR φ σ (.pbox b j) (.pointer (some ⟨img.B, img.o + j, none⟩))
  | parr {σ b j i img} (h : σ b = some img) : VR φ σ (.parr b j i) (.pointer (some ⟨img.B, img.o + (j + i), none⟩))
  | pelt {σ b i j img} (h : σ b = some img) : VR φ σ (.pelt b i j) (.pointer (some ⟨img.B, img.o + i * img.sz + j, none⟩))
  | pval {σ sz xs i j B o c e fr} (h : φ B = some (.cells c e fr)) (hb : o + xs.length * sz ≤ c.size) (h1 : Ones c o (o + xs.length * sz))
      (hx : ∀ i x, xs[i]? = some x → VRs φ noS x ((c.toList.drop (o + i * sz)).take sz)) :
      VR φ σ (.pval sz xs i j) (.pointer (some ⟨B, o + i * sz + j, none⟩))
  | nilsl {σ a} : VR φ σ .nilsl (.slice a 0 0)
  | nil0 {σ} : VR φ σ .nil0 (.slice none 0 0)
  | sl {σ b i len cap cap' tight img} (h : σ b = some img) (h1 : len ≤ cap) (h2 : cap ≤ cap') (h3 : tight = true → cap' = cap)
      (h4 : img.o + (i + cap') * img.sz ≤ img.cap) :
      VR φ σ (.sl b i len cap tight) (.slice (some ⟨img.B, img.o + i * img.sz, none⟩) len cap')
  | sl0 {σ b i tight a} : VR φ σ (.sl b i 0 0 tight) (.slice a 0 0)
  | asl {σ b j i len cap cap' img} (h : σ b = some img) (h1 : len ≤ cap) (h2 : cap ≤ cap') (h4 : img.o + (j + i) + cap' ≤ img.cap) :
      VR φ σ (.asl b j i len cap) (.slice (some ⟨img.B, img.o + (j + i), none⟩) len cap')
  | asl0 {σ b j i a} : VR φ σ (.asl b j i 0 0) (.slice a 0 0)
  | vsl {σ sz xs tight B o c e fr cap'} (h : φ B = some (.cells c e fr)) (hb : o + xs.length * sz ≤ c.size) (h1 : Ones c o (o + xs.length * sz))
      (hx : ∀ i x, xs[i]? = some x → VRs φ noS x ((c.toList.drop (o + i * sz)).take sz))
      (hc : xs.length ≤ cap') (ht : tight = true → cap' = xs.length) :
      VR φ σ (.vsl sz xs tight) (.slice (some ⟨B, o, none⟩) xs.length cap')
  | vsl0 {σ sz tight a} : VR φ σ (.vsl sz [] tight) (.slice a 0 0)
  | nilmap {σ} : VR φ σ .nilmap (.map none)
  | map {σ b img} (h : σ b = some img) : VR φ σ (.map b) (.map (some img.B))
  | nilfn {σ} : VR φ σ .nilfn .nilFunc
  | fn {σ f as cs as' cs'} (h1 : VRs φ σ as as') (h2 : VRs φ σ cs cs') : VR φ σ (.fn f as cs) (.func (.func f) ⟨as'⟩ ⟨cs'⟩)
  | nilif {σ} : VR φ σ .nilif .nilIface
  | ifc {σ t v v'} (h : VR φ σ v v') : VR φ σ (.ifc t v) (.iface t v')
  | agg {σ cs cs'} (h : VRs φ σ cs cs') : VR φ σ (.agg cs) (.agg ⟨cs'⟩)
  | tup {σ cs cs'} (h : VRs φ σ cs cs') : VR φ σ (.tup cs) (.tuple ⟨cs'⟩)
inductive VRs (φ : Fz) : Sg → List AV → List Value → Prop where
  | nil {σ} : VRs φ σ [] []
  | cons {σ a as v vs} (h : VR φ σ a v) (hs : VRs φ σ as vs) : VRs φ σ (a :: as) (v :: vs)
end

def Fz.le (φ φ' : Fz) : Prop := ∀ B o, φ B = some o → φ' B = some o
def Sg.le (σ σ' : Sg) : Prop := ∀ b i, σ b = some i → σ' b = some i
theorem Fz.le_refl (φ : Fz) : φ.le φ := fun _ _ h => h
theorem Sg.le_refl (σ : Sg) : σ.le σ := fun _ _ h => h
theorem Fz.le_trans {a b c : Fz} (h : a.le b) (h' : b.le c) : a.le c := fun _ _ x => h' _ _ (h _ _ x)
theorem Sg.le_trans {a b c : Sg} (h : a.le b) (h' : b.le c) : a.le c := fun _ _ x => h' _ _ (h _ _ x)
theorem noS_le (σ : Sg) : noS.le σ := fun _ _ h => by cases h

mutual
theorem VR.mono {φ φ' : Fz} (hφ : φ.le φ') : ∀ {σ : Sg} {a : AV} {v : Value}, VR φ σ a v → ∀ {σ' : Sg}, σ.le σ' → VR φ' σ' a v
  | _, _, _, .bool, _, _ => .bool
  | _, _, _, .bsym, _, _ => .bsym
  | _, _, _, .int, _, _ => .int
  | _, _, _, .str, _, _ => .str
  | _, _, _, .nilptr, _, _ => .nilptr
  | _, _, _, .pbox h, _, hs => .pbox (hs _ _ h)
  | _, _, _, .parr h, _, hs => .parr (hs _ _ h)
  | _, _, _, .pelt h, _, hs => .pelt (hs _ _ h)
  | _, _, _, .pval h hb h1 hx, _, hs => .pval (hφ _ _ h) hb h1 fun i x e => VRs.mono hφ (hx i x e) (Sg.le_refl _)
  | _, _, _, .nilsl, _, _ => .nilsl
  | _, _, _, .nil0, _, _ => .nil0
  | _, _, _, .sl h h1 h2 h3 h4, _, hs => .sl (hs _ _ h) h1 h2 h3 h4
  | _, _, _, .sl0, _, _ => .sl0
  | _, _, _, .asl h h1 h2 h4, _, hs => .asl (hs _ _ h) h1 h2 h4
  | _, _, _, .asl0, _, _ => .asl0
  | _, _, _, .vsl h hb h1 hx hc ht, _, hs => .vsl (hφ _ _ h) hb h1 (fun i x e => VRs.mono hφ (hx i x e) (Sg.le_refl _)) hc ht
  | _, _, _, .vsl0, _, _ => .vsl0
  | _, _, _, .nilmap, _, _ => .nilmap
  | _, _, _, .map h, _, hs => .map (hs _ _ h)
  | _, _, _, .nilfn, _, _ => .nilfn
  | _, _, _, .fn h1 h2, _, hs => .fn (VRs.mono hφ h1 hs) (VRs.mono hφ h2 hs)
  | _, _, _, .nilif, _, _ => .nilif
  | _, _, _, .ifc h, _, hs => .ifc (VR.mono hφ h hs)
  | _, _, _, .agg h, _, hs => .agg (VRs.mono hφ h hs)
  | _, _, _, .tup h, _, hs => .tup (VRs.mono hφ h hs)
theorem VRs.mono {φ φ' : Fz} (hφ : φ.le φ') : ∀ {σ : Sg} {a : List AV} {v : List Value}, VRs φ σ a v → ∀ {σ' : Sg}, σ.le σ' → VRs φ' σ' a v
  | _, _, _, .nil, _, _ => .nil
  | _, _, _, .cons h ht, _, hs => .cons (VR.mono hφ h hs) (VRs.mono hφ ht hs)
end

theorem VRs.length {φ : Fz} {σ : Sg} {as : List AV} {vs : List Value} (h : VRs φ σ as vs) : as.length = vs.length := by
  induction as generalizing vs with
  | nil => cases h; rfl
  | cons a as ih => cases h with | cons h ht => simp [ih ht]
theorem VRs.get {φ : Fz} {σ : Sg} {as : List AV} {vs : List Value} (h : VRs φ σ as vs) {j : Nat} {a : AV} (ha : as[j]? = some a) :
    ∃ v, vs[j]? = some v ∧ VR φ σ a v := by
  induction as generalizing vs j with
  | nil => simp at ha
  | cons x as ih =>
    cases h with
    | cons h ht =>
      cases j with
      | zero => simp at ha; subst ha; exact ⟨_, by simp, h⟩
      | succ j => simp at ha; obtain ⟨v, hv, hr⟩ := ih ht ha; exact ⟨v, by simpa using hv, hr⟩
theorem VRs.of_get {φ : Fz} {σ : Sg} {as : List AV} {vs : List Value} (hl : as.length = vs.length)
    (h : ∀ (j : Nat) a v, as[j]? = some a → vs[j]? = some v → VR φ σ a v) : VRs φ σ as vs := by
  induction as generalizing vs with
  | nil => cases vs with | nil => exact .nil | cons v vs => simp at hl
  | cons a as ih =>
    cases vs with
    | nil => simp at hl
    | cons v vs => exact .cons (h 0 a v (by simp) (by simp)) (ih (by simpa using hl) fun j a v ha hv => h (j + 1) a v (by simpa using ha) (by simpa using hv))
theorem VRs.append {φ : Fz} {σ : Sg} {as bs : List AV} {vs us : List Value} (h : VRs φ σ as vs) (h' : VRs φ σ bs us) : VRs φ σ (as ++ bs) (vs ++ us) := by
  induction as generalizing vs with
  | nil => cases h; exact h'
  | cons a as ih => cases h with | cons h ht => exact .cons h (ih ht)
theorem VRs.take {φ : Fz} {σ : Sg} {as : List AV} {vs : List Value} (h : VRs φ σ as vs) (n : Nat) : VRs φ σ (as.take n) (vs.take n) := by
  induction n generalizing as vs with
  | zero => simp; exact .nil
  | succ n ih => cases h with | nil => simp; exact .nil | cons h ht => simp; exact .cons h (ih ht)
theorem VRs.drop {φ : Fz} {σ : Sg} {as : List AV} {vs : List Value} (h : VRs φ σ as vs) (n : Nat) : VRs φ σ (as.drop n) (vs.drop n) := by
  induction n generalizing as vs with
  | zero => simpa using h
  | succ n ih => cases h with | nil => simp; exact .nil | cons h ht => simpa using ih ht
theorem VRs.set {φ : Fz} {σ : Sg} {as : List AV} {vs : List Value} (h : VRs φ σ as vs) (j : Nat) {a : AV} {v : Value} (hv : VR φ σ a v) : VRs φ σ (as.set j a) (vs.set j v) := by
  induction as generalizing vs j with
  | nil => cases h; simp; exact .nil
  | cons x as ih => cases h with | cons h ht => cases j with | zero => exact .cons hv ht | succ j => exact .cons h (ih ht j)

def Env (w w' : World) : Prop := w'.os = w.os ∧ w'.tape = w.tape ∧ w'.output = w.output
theorem Env.refl (w : World) : Env w w := ⟨rfl, rfl, rfl⟩
theorem Env.trans {a b c : World} (h : Env a b) (h' : Env b c) : Env a c := ⟨h'.1.trans h.1, h'.2.1.trans h.2.1, h'.2.2.trans h.2.2⟩
inductive Blk where
  | box (cs : List AV)
  | row (sz : Nat) (xs : List (List AV))
  | map (es : List (AV × AV))
  | mapb (bm clock : Nat) (bs : List Nat) (es : List (AV × AV))
  | iter (bm : Option Nat) (since : Nat) (seen : List Nat) (stepped : Nat)
  | gone
def Blk.owned : Blk → Bool
  | .gone => false
  | _ => true
abbrev Mem := List Blk

def Plain (fr : Nat × Nat) (cap : Nat) : Prop := ∀ p, p < cap → (fr.1 ≤ p && p < fr.2) = false

inductive MR (φ : Fz) (σ : Sg) : List (AV × AV) → List MapEntry → Prop where
  | nil : MR φ σ [] []
  | cons {k v es e ents} (hk : VR φ σ k e.key) (hv : VR φ σ v e.val) (ht : MR φ σ es ents) : MR φ σ ((k, v) :: es) (e :: ents)

def BM (φ : Fz) (σ : Sg) (w : World) (i : Option Img) : Blk → Prop
  | .box cs => ∃ img c e fr, i = some img ∧ img.o = 0 ∧ w.heap[img.B]? = some (.cells c e fr) ∧ c.size = img.cap ∧ VRs φ σ cs c.toList ∧ Plain fr img.cap
  | .row sz xs => (xs = [] ∧ i = none) ∨ ∃ img c e fr, i = some img ∧ img.sz = sz ∧ w.heap[img.B]? = some (.cells c e fr) ∧ c.size = img.cap ∧ img.o + xs.length * sz ≤ img.cap ∧ Ones c img.o (img.o + xs.length * sz) ∧
      (∀ i x, xs[i]? = some x → VRs φ noS x ((c.toList.drop (img.o + i * sz)).take sz)) ∧ Plain fr img.cap
  | .map es => ∃ img ents clock, i = some img ∧ w.heap[img.B]? = some (.map ents clock) ∧ MR φ σ es ents.toList ∧
      (∀ e ∈ ents.toList, e.born < clock) ∧ (ents.toList.map (·.born)).Nodup
  | .mapb bm clock bs es => ∃ img ents, i = some img ∧ img.B = bm ∧ w.heap[img.B]? = some (.map ents clock) ∧ MR φ σ es ents.toList ∧ ents.toList.map (·.born) = bs ∧ (∀ x ∈ bs, x < clock) ∧ bs.Nodup
  | .iter bm since seen stepped => ∃ img, i = some img ∧ img.o = 0 ∧ w.heap[img.B]? = some (.mapIter bm since ⟨seen⟩ stepped)
  | .gone => True

def laidG : List (Nat × IntKind × List Int) := [(0, .u8, [0, 1, 28, 2, 29, 14, 24, 3, 30, 22, 20, 15, 25, 17, 4, 8, 31, 27, 13, 23, 21, 19, 16, 7, 26, 12, 18, 6, 11, 5, 10, 9])] -- LAID
def Laid (φ : Fz) : Prop := ∀ g k l, (g, k, l) ∈ laidG → ∃ e fr, φ g = some (.cells (l.map fun n => Value.int k n).toArray e fr)
theorem Laid.mono {φ φ' : Fz} (h : Laid φ) (hle : ∀ B o, φ B = some o → φ' B = some o) : Laid φ' := fun g k l hg => by
  obtain ⟨e, fr, h1⟩ := h g k l hg
  exact ⟨e, fr, hle _ _ h1⟩
def laidAt (g : Nat) : Option (IntKind × List Int) := (laidG.find? fun x => x.1 == g).map (·.2)
theorem laidAt_ok {g : Nat} {k : IntKind} {l : List Int} (h : laidAt g = some (k, l)) : (g, k, l) ∈ laidG := by
  unfold laidAt at h
  obtain ⟨x, h1, h2⟩ := Option.map_eq_some_iff.1 h
  have h3 := List.find?_some h1
  have h4 := List.mem_of_find?_eq_some h1
  obtain ⟨g', k', l'⟩ := x
  simp only [beq_iff_eq] at h3
  cases h2; subst h3; exact h4
structure Inv (φ : Fz) (σ : Sg) (m : Mem) (w : World) : Prop where
  lf : Laid φ
  fz : ∀ B o, φ B = some o → w.heap[B]? = some o
  blk : ∀ b k, m[b]? = some k → BM φ σ w (σ b) k
  inj : ∀ b c k l i j, m[b]? = some k → m[c]? = some l → k.owned = true → l.owned = true → σ b = some i → σ c = some j → b ≠ c → i.B ≠ j.B
  apart : ∀ b k i, m[b]? = some k → k.owned = true → σ b = some i → φ i.B = none
  fresh : ∀ b, m.length ≤ b → σ b = none

theorem BM.lt {φ : Fz} {σ : Sg} {w : World} {img : Img} {k : Blk} (h : BM φ σ w (some img) k) (hk : k.owned = true) : img.B < w.heap.size := by
  have key : ∀ o, w.heap[img.B]? = some o → img.B < w.heap.size := fun o ho => by
    rcases Nat.lt_or_ge img.B w.heap.size with h' | h'
    · exact h'
    · simp [Array.getElem?_eq_none h'] at ho
  cases k with
  | box cs => obtain ⟨i, c, e, fr, hi, _, hh, _⟩ := h; cases hi; exact key _ hh
  | row sz xs =>
    rcases h with ⟨_, h⟩ | ⟨i, c, e, fr, hi, _, hh, _⟩
    · cases h
    · cases hi; exact key _ hh
  | map es => obtain ⟨i, ents, cl, hi, hh, _⟩ := h; cases hi; exact key _ hh
  | mapb bm cl bs es => obtain ⟨i, ents, hi, _, hh, _⟩ := h; cases hi; exact key _ hh
  | iter bm si se st => obtain ⟨i, hi, _, hh⟩ := h; cases hi; exact key _ hh
  | gone => cases hk

theorem BM.frame {φ φ' : Fz} {σ σ' : Sg} {w w' : World} {i : Option Img} {k : Blk} (h : BM φ σ w i k) (hφ : φ.le φ') (hσ : σ.le σ')
    (hw : ∀ img, i = some img → w'.heap[img.B]? = w.heap[img.B]?) : BM φ' σ' w' i k := by
  cases k with
  | box cs =>
    obtain ⟨img, c, e, fr, hi, h0, hh, hc, hv, hp⟩ := h
    exact ⟨img, c, e, fr, hi, h0, by rw [hw img hi]; exact hh, hc, hv.mono hφ hσ, hp⟩
  | row sz xs =>
    rcases h with h | ⟨img, c, e, fr, hi, hs, hh, hc, hl, h1, hx, hp⟩
    · exact .inl h
    · exact .inr ⟨img, c, e, fr, hi, hs, by rw [hw img hi]; exact hh, hc, hl, h1, fun i x hx' => (hx i x hx').mono hφ (Sg.le_refl _), hp⟩
  | map es =>
    obtain ⟨img, ents, cl, hi, hh, hm, hr⟩ := h
    refine ⟨img, ents, cl, hi, by rw [hw img hi]; exact hh, ?_, hr⟩
    clear hr hh
    generalize ents.toList = l at hm
    induction hm with
    | nil => exact .nil
    | cons hk hv _ ih => exact .cons (hk.mono hφ hσ) (hv.mono hφ hσ) ih
  | mapb bm cl bs es =>
    obtain ⟨img, ents, hi, hB, hh, hm, hr⟩ := h
    refine ⟨img, ents, hi, hB, by rw [hw img hi]; exact hh, ?_, hr⟩
    clear hr hh
    generalize ents.toList = l at hm
    induction hm with
    | nil => exact .nil
    | cons hk hv _ ih => exact .cons (hk.mono hφ hσ) (hv.mono hφ hσ) ih
  | iter bm si se st =>
    obtain ⟨img, hi, h0, hh⟩ := h
    exact ⟨img, hi, h0, by rw [hw img hi]; exact hh⟩
  | gone => trivial

inductive Tr where
  | lf
  | nd (l : Tr) (v : Option AV) (r : Tr)
def Tr.get : Tr → Nat → Option AV
  | .lf, _ => none
  | .nd l v r, i => match i with
    | 0 => v
    | i + 1 => match i % 2 == 0 with | true => l.get (i / 2) | false => r.get (i / 2)
def Tr.put : Nat → Tr → Nat → Option AV → Tr
  | 0, _, _, _ => .lf
  | f + 1, .lf, i, x => match i with
    | 0 => .nd .lf x .lf
    | i + 1 => match i % 2 == 0 with | true => .nd (Tr.put f .lf (i / 2) x) none .lf | false => .nd .lf none (Tr.put f .lf (i / 2) x)
  | f + 1, .nd l v r, i, x => match i with
    | 0 => .nd l x r
    | i + 1 => match i % 2 == 0 with | true => .nd (Tr.put f l (i / 2) x) v r | false => .nd l v (Tr.put f r (i / 2) x)
abbrev Tr.set (t : Tr) (i : Nat) (x : AV) : Tr := Tr.put 12 t i (some x)

theorem Tr.half {i j : Nat} (h : i / 2 = j / 2) (h' : (i % 2 == 0) = (j % 2 == 0)) : i = j := by
  cases hi : (i % 2 == 0) <;> rw [hi] at h' <;> have h'' := h'.symm <;> simp at hi h'' <;> omega
theorem Tr.get_put : ∀ (f : Nat) (t : Tr) (i : Nat) (x : Option AV) (j : Nat) (v : AV), (Tr.put f t i x).get j = some v →
    (j = i ∧ x = some v) ∨ (j ≠ i ∧ t.get j = some v)
  | 0, t, i, x, j, v, h => by simp [Tr.put, Tr.get] at h
  | f + 1, .lf, 0, x, 0, v, h => .inl ⟨rfl, h⟩
  | f + 1, .lf, 0, x, j + 1, v, h => by
    simp only [Tr.put, Tr.get] at h
    cases hj : (j % 2 == 0) <;> simp [hj] at h
  | f + 1, .lf, i + 1, x, 0, v, h => by
    simp only [Tr.put] at h
    cases hi : (i % 2 == 0) <;> simp [hi, Tr.get] at h
  | f + 1, .lf, i + 1, x, j + 1, v, h => by
    simp only [Tr.put] at h
    cases hi : (i % 2 == 0) <;> simp only [hi, cond_true, cond_false, Tr.get] at h <;> cases hj : (j % 2 == 0) <;> simp only [hj, cond_true, cond_false, Tr.get] at h
    · rcases Tr.get_put f .lf (i / 2) x (j / 2) v h with ⟨e, r⟩ | ⟨e, r⟩
      · exact .inl ⟨by rw [Tr.half e (by rw [hi, hj])], r⟩
      · simp [Tr.get] at r
    · cases h
    · cases h
    · rcases Tr.get_put f .lf (i / 2) x (j / 2) v h with ⟨e, r⟩ | ⟨e, r⟩
      · exact .inl ⟨by rw [Tr.half e (by rw [hi, hj])], r⟩
      · simp [Tr.get] at r
  | f + 1, .nd l u r, 0, x, 0, v, h => .inl ⟨rfl, h⟩
  | f + 1, .nd l u r, 0, x, j + 1, v, h => .inr ⟨by omega, h⟩
  | f + 1, .nd l u r, i + 1, x, 0, v, h => by
    simp only [Tr.put] at h
    cases hi : (i % 2 == 0) <;> simp only [hi, cond_true, cond_false, Tr.get] at h <;> exact .inr ⟨by omega, h⟩
  | f + 1, .nd l u r, i + 1, x, j + 1, v, h => by
    simp only [Tr.put] at h
    cases hi : (i % 2 == 0) <;> simp only [hi, cond_true, cond_false, Tr.get] at h <;> cases hj : (j % 2 == 0) <;> simp only [hj, cond_true, cond_false] at h
    · rcases Tr.get_put f r (i / 2) x (j / 2) v h with ⟨e, q⟩ | ⟨e, q⟩
      · exact .inl ⟨by rw [Tr.half e (by rw [hi, hj])], q⟩
      · exact .inr ⟨fun e' => e (by injection e' with e'; rw [e']), by simp only [Tr.get, hj, cond_false]; exact q⟩
    · exact .inr ⟨fun e' => (by injection e' with e'; rw [e', hi] at hj; cases hj), by simp only [Tr.get, hj, cond_true]; exact h⟩
    · exact .inr ⟨fun e' => (by injection e' with e'; rw [e', hi] at hj; cases hj), by simp only [Tr.get, hj, cond_false]; exact h⟩
    · rcases Tr.get_put f l (i / 2) x (j / 2) v h with ⟨e, q⟩ | ⟨e, q⟩
      · exact .inl ⟨by rw [Tr.half e (by rw [hi, hj])], q⟩
      · exact .inr ⟨fun e' => e (by injection e' with e'; rw [e']), by simp only [Tr.get, hj, cond_true]; exact q⟩

def TR (φ : Fz) (σ : Sg) (t : Tr) (tmps : Array Value) : Prop := ∀ i v, t.get i = some v → ∃ v', tmps[i]? = some v' ∧ VR φ σ v v'
theorem TR.mono {φ φ' : Fz} {σ σ' : Sg} {t : Tr} {a : Array Value} (h : TR φ σ t a) (hφ : φ.le φ') (hσ : σ.le σ') : TR φ' σ' t a :=
  fun i v e => let ⟨v', h1, h2⟩ := h i v e; ⟨v', h1, h2.mono hφ hσ⟩
theorem TR.set {φ : Fz} {σ : Sg} {t : Tr} {a : Array Value} (h : TR φ σ t a) {i : Nat} (hi : i < a.size) {v : AV} {v' : Value} (hv : VR φ σ v v') :
    TR φ σ (t.set i v) (a.setIfInBounds i v') := by
  intro j u hu
  rcases Tr.get_put _ _ _ _ _ _ hu with ⟨rfl, e⟩ | ⟨hne, e⟩
  · cases e; exact ⟨v', by simp [hi], hv⟩
  · obtain ⟨u', h1, h2⟩ := h j u e
    exact ⟨u', by rw [Array.getElem?_setIfInBounds_ne (Ne.symm hne)]; exact h1, h2⟩

end Go.AE
