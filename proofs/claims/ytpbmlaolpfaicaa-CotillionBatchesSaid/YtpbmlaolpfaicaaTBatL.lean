/- Turned to this seat by turn.py: BatJ.lean BatK.lean BatL.lean. -/
import Derived.Test.YtpbmlaolpfaicaaTBatI
import Derived.Test.YtpbmlaolpfaicaaAEzo
namespace Go.AEX
open Go Go.AE Go.Proofs
set_option maxRecDepth 100000
set_option linter.unusedVariables false
set_option linter.unusedSimpArgs false

def num : Int → List (List Ord) → Inn
  | _, [] => []
  | nx, L :: r => (nx, L) :: num (nx + 1) r
theorem num_len : ∀ (nx : Int) (l : List (List Ord)), (num nx l).length = l.length
  | _, [] => rfl
  | nx, L :: r => by simp [num, num_len (nx + 1) r]
theorem num_ge : ∀ {nx : Int} {l : List (List Ord)} {e : Int × List Ord}, e ∈ num nx l → nx ≤ e.1 ∧ e.1 < nx + l.length
  | _, [], e, h => by simp [num] at h
  | nx, L :: r, e, h => by
    simp only [num, List.mem_cons] at h
    rcases h with rfl | h
    · simp only [List.length_cons]; omega
    · have := num_ge h; simp only [List.length_cons]; omega
theorem num_app : ∀ (nx : Int) (l : List (List Ord)) (L : List Ord), num nx (l ++ [L]) = num nx l ++ [(nx + l.length, L)]
  | nx, [], L => by simp [num]
  | nx, M :: r, L => by
    simp only [List.cons_append, num, num_app (nx + 1) r L, List.length_cons]
    congr 3
    rw [Prod.mk.injEq]; exact ⟨by omega, rfl⟩
theorem num_nil {nx : Int} {l : List (List Ord)} : num nx l = [] ↔ l = [] := by cases l <;> simp [num]
theorem ig_none : ∀ {A : Inn} {p : Int}, (∀ e ∈ A, e.1 ≠ p) → ig A p = none
  | [], _, _ => rfl
  | e :: A, p, h => by
    simp only [ig]
    rw [if_neg (fun c => h e (by simp) c.symm)]
    exact ig_none fun x hx => h x (by simp [hx])
theorem num_free (nx : Int) (l : List (List Ord)) : ig (num nx l) (nx + l.length) = none := ig_none fun e he => by have := num_ge he; omega
def dl (nx : Int) (A : Inn) : Inn := A.filter fun e => !(e.1 == nx)
theorem dl_num (nx : Int) (L : List Ord) (r : List (List Ord)) : dl nx (num nx (L :: r)) = num (nx + 1) r := by
  unfold dl
  simp only [num, List.filter_cons, beq_self_eq_true, Bool.not_true, Bool.false_eq_true, if_false]
  rw [List.filter_eq_self]
  intro e he
  have := num_ge he
  have : e.1 ≠ nx := by omega
  simpa using this
theorem fb_del : ∀ (A : Inn) (v : Int), (A.map (·.1)).Nodup → mdel (fb A) (.int .i64 v) = fb (dl v A)
  | [], v, _ => rfl
  | p :: M, v, hn => by
    have e : kd IntKind.i64 IntKind.i64 = true := rfl
    simp only [List.map_cons, List.nodup_cons] at hn
    have ih := fb_del M v hn.2
    unfold fb at ih
    unfold fb dl
    simp only [List.map_cons, mdel, keq, e, Bool.true_and, List.filter_cons]
    by_cases c : v = p.1
    · have h1 : (v == p.1) = true := by simpa using c
      have h2 : (p.1 == v) = true := by simpa using c.symm
      rw [h1, h2]
      have : M.filter (fun p => !(p.1 == v)) = M := by
        rw [List.filter_eq_self]
        intro q hq
        have : q.1 ≠ v := fun e => hn.1 (by rw [← c, ← e]; exact List.mem_map.2 ⟨q, hq, rfl⟩)
        simpa using this
      simp [this]
    · have h1 : (v == p.1) = false := by simpa using c
      have h2 : (p.1 == v) = false := by simpa using fun e => c e.symm
      rw [h1, h2, ih]; rfl
theorem num_nodup : ∀ (nx : Int) (l : List (List Ord)), ((num nx l).map (·.1)).Nodup
  | _, [] => by simp [num]
  | nx, L :: r => by
    simp only [num, List.map_cons, List.nodup_cons]
    refine ⟨fun h => ?_, num_nodup (nx + 1) r⟩
    obtain ⟨e, he, hx⟩ := List.mem_map.1 h
    have := num_ge he; omega
structure TOk (nx : Int) (O : Outr) (F : List Inn) (g : Int → List (List Ord)) : Prop where
  nk : (O.map (·.1)).Nodup
  nv : (O.map (·.2)).Nodup
  ok : ∀ p k, (p, k) ∈ O → F[k]? = some (num nx (g p)) ∧ g p ≠ []
  no : ∀ p, (∀ k, (p, k) ∉ O) → g p = []
theorem og_mem : ∀ {O : Outr} {p : Int} {k : Nat}, og O p = some k → (p, k) ∈ O
  | [], _, _, h => by simp [og] at h
  | e :: O, p, k, h => by
    simp only [og] at h
    by_cases c : p = e.1
    · rw [if_pos c] at h; cases h; rw [c]; simp
    · rw [if_neg c] at h; exact List.mem_cons_of_mem _ (og_mem h)
theorem og_not : ∀ {O : Outr} {p : Int}, og O p = none → ∀ k, (p, k) ∉ O
  | [], _, _, k => by simp
  | e :: O, p, h, k => by
    simp only [og] at h
    by_cases c : p = e.1
    · rw [if_pos c] at h; cases h
    · rw [if_neg c] at h
      intro hm
      rcases List.mem_cons.1 hm with rfl | hm
      · exact c rfl
      · exact og_not h k hm
theorem TOk.og {nx : Int} {O : Outr} {F : List Inn} {g : Int → List (List Ord)} (h : TOk nx O F g) (p : Int) : (og O p = none ∧ g p = []) ∨ ∃ k, og O p = some k ∧ F[k]? = some (num nx (g p)) ∧ g p ≠ [] := by
  cases e : AEX.og O p with
  | none => exact .inl ⟨rfl, h.no p (og_not e)⟩
  | some k => exact .inr ⟨k, rfl, h.ok p k (og_mem e)⟩
theorem TOk.okO {nx : Int} {O : Outr} {F : List Inn} {g : Int → List (List Ord)} (h : TOk nx O F g) : OkO O F := fun e he => by
  have := (h.ok e.1 e.2 he).1
  exact (List.getElem?_eq_some_iff.1 this).1
theorem TOk.new (nx : Int) : TOk nx [] [] fun _ => [] := ⟨by simp, by simp, fun p k h => by simp at h, fun _ _ => rfl⟩
abbrev Ts := List (Nat × (Int × Nat))
def tzb (Z : Ts) : List Nat := Z.map (·.1)
def tzv (Z : Ts) : Outr := Z.map (·.2)
structure TkOk (nx : Int) (Z0 : Ts) (F0 : List Inn) (Z : Ts) (F : List Inn) (seen : List Nat) : Prop where
  sub : Z.Sublist Z0
  flen : F.length = F0.length
  todo : ∀ z ∈ Z0, z.1 ∉ seen → z ∈ Z ∧ F[z.2.2]? = F0[z.2.2]?
  did : ∀ z ∈ Z0, z.1 ∈ seen → F[z.2.2]? = (F0[z.2.2]?).map (dl nx) ∧ (z ∈ Z ↔ ∀ A, F0[z.2.2]? = some A → dl nx A ≠ [])
theorem TkOk.begin (nx : Int) (Z0 : Ts) (F0 : List Inn) : TkOk nx Z0 F0 Z0 F0 [] := ⟨List.Sublist.refl _, rfl, fun z hz _ => ⟨hz, rfl⟩, fun z _ h => by simp at h⟩
theorem nd_fst {α β : Type} {f : α → β} {Z : List α} (h : (Z.map f).Nodup) {a b : α} (ha : a ∈ Z) (hb : b ∈ Z) (e : f a = f b) : a = b := by
  induction Z with
  | nil => simp at ha
  | cons x Z ih =>
    simp only [List.map_cons, List.nodup_cons] at h
    rcases List.mem_cons.1 ha with ha1 | ha1
    · rcases List.mem_cons.1 hb with hb1 | hb1
      · rw [ha1, hb1]
      · exact absurd (List.mem_map.2 ⟨b, hb1, by rw [← e, ha1]⟩) h.1
    · rcases List.mem_cons.1 hb with hb1 | hb1
      · exact absurd (List.mem_map.2 ⟨a, ha1, by rw [e, hb1]⟩) h.1
      · exact ih h.2 ha1 hb1
theorem nd_erase {α : Type} {Z : List α} {j : Nat} {z w : α} (hn : Z.Nodup) (hj : Z[j]? = some z) : w ∈ Z.eraseIdx j ↔ w ∈ Z ∧ w ≠ z := by
  rw [List.mem_eraseIdx_iff_getElem?]
  constructor
  · rintro ⟨i, hi, h⟩
    refine ⟨List.mem_of_getElem? h, ?_⟩
    rintro rfl
    exact hi ((List.getElem?_inj (List.getElem?_eq_some_iff.1 h).1 hn).1 (by rw [h, hj]))
  · rintro ⟨h, hne⟩
    obtain ⟨i, hi⟩ := List.getElem?_of_mem h
    refine ⟨i, ?_, hi⟩
    rintro rfl
    rw [hi] at hj; cases hj; exact hne rfl
def nxtZ (nx : Int) (A : Inn) (Z : Ts) (j : Nat) : Ts := if (dl nx A).length = 0 then Z.eraseIdx j else Z
theorem TkOk.step {nx : Int} {Z0 : Ts} {F0 : List Inn} {Z : Ts} {F : List Inn} {seen : List Nat} (h : TkOk nx Z0 F0 Z F seen) (hb : (tzb Z0).Nodup) (hv : (Z0.map fun z => z.2.2).Nodup) {j b : Nat} {p : Int} {k : Nat} {A : Inn}
    (hj : Z[j]? = some (b, (p, k))) (hs : b ∉ seen) (hA : F[k]? = some A) : F0[k]? = some A ∧ TkOk nx Z0 F0 (nxtZ nx A Z j) (F.set k (dl nx A)) (seen ++ [b]) := by
  have hz : (b, (p, k)) ∈ Z0 := h.sub.subset (List.mem_of_getElem? hj)
  have h0 := (h.todo _ hz hs).2
  simp only at h0
  rw [hA] at h0
  have hk : k < F.length := (List.getElem?_eq_some_iff.1 hA).1
  have hnd : Z.Nodup := by
    have : (tzb Z).Nodup := hb.sublist (h.sub.map _)
    exact List.Pairwise.of_map Prod.fst (fun a b hab e => hab (by rw [e])) this
  have hmem : ∀ w, w ≠ (b, (p, k)) → (w ∈ nxtZ nx A Z j ↔ w ∈ Z) := by
    intro w hw
    unfold nxtZ
    split
    · rw [nd_erase hnd hj]; exact ⟨fun h => h.1, fun h => ⟨h, hw⟩⟩
    · rfl
  have hset : ∀ w ∈ Z0, w ≠ (b, (p, k)) → (F.set k (dl nx A))[w.2.2]? = F[w.2.2]? := by
    intro w hw hne
    refine List.getElem?_set_ne fun e => hne ?_
    exact nd_fst hv hw hz e.symm
  refine ⟨h0.symm, ?_, by rw [List.length_set]; exact h.flen, fun w hw hws => ?_, fun w hw hws => ?_⟩
  · unfold nxtZ
    split
    · exact (List.eraseIdx_sublist ..).trans h.sub
    · exact h.sub
  · have hne : w ≠ (b, (p, k)) := by rintro rfl; simp at hws
    have hws' : w.1 ∉ seen := fun h => hws (by simp [h])
    rw [hmem w hne, hset w hw hne]
    exact h.todo w hw hws'
  · by_cases e : w = (b, (p, k))
    · subst e
      simp only
      rw [List.getElem?_set_self hk, ← h0]
      refine ⟨rfl, ?_⟩
      unfold nxtZ
      split
      · rename_i c
        rw [nd_erase hnd hj]
        refine ⟨fun h => absurd rfl h.2, fun h => absurd (List.length_eq_zero_iff.1 c) (h A rfl)⟩
      · rename_i c
        refine ⟨fun _ B hB => ?_, fun _ => List.mem_of_getElem? hj⟩
        cases hB
        intro e; rw [e] at c; exact c rfl
    · have hws' : w.1 ∈ seen := by
        rcases List.mem_append.1 hws with h | h
        · exact h
        · exact absurd (nd_fst hb hw hz (by simpa using h)) e
      rw [hmem w e, hset w hw e]
      exact h.did w hw hws'
theorem TkOk.all {nx : Int} {Z0 : Ts} {F0 : List Inn} {Z : Ts} {F : List Inn} {seen : List Nat} (h : TkOk nx Z0 F0 Z F seen) (hd : ∀ x ∈ tzb Z, x ∈ seen) : ∀ z ∈ Z0, z.1 ∈ seen := by
  intro z hz
  by_cases c : z.1 ∈ seen
  · exact c
  · exact hd _ (List.mem_map.2 ⟨z, (h.todo z hz c).1, rfl⟩)
theorem TkOk.done {nx : Int} {O : Outr} {F0 : List Inn} {g : Int → List (List Ord)} (h0 : TOk nx O F0 g) {Z0 Z : Ts} {F : List Inn} {seen : List Nat} (hO : tzv Z0 = O) (h : TkOk nx Z0 F0 Z F seen) (hd : ∀ x ∈ tzb Z, x ∈ seen) :
    TOk (nx + 1) (tzv Z) F fun p => (g p).tail := by
  have ha := h.all hd
  have hsub : (tzv Z).Sublist O := by rw [← hO]; exact h.sub.map _
  have key : ∀ b p k, (b, (p, k)) ∈ Z0 → F[k]? = some (num (nx + 1) (g p).tail) ∧ ((b, (p, k)) ∈ Z ↔ (g p).tail ≠ []) := by
    intro b p k hz
    obtain ⟨h1, h2⟩ := h0.ok p k (by rw [← hO]; exact List.mem_map.2 ⟨_, hz, rfl⟩)
    obtain ⟨h3, h4⟩ := h.did _ hz (ha _ hz)
    simp only at h3 h4
    rw [h1] at h3 h4
    cases hg : g p with
    | nil => exact absurd hg h2
    | cons L r =>
      rw [hg, Option.map_some, dl_num] at h3
      refine ⟨by simpa using h3, ?_⟩
      rw [h4]
      simp only [Option.some.injEq, forall_eq', hg, dl_num, List.tail_cons]
      exact not_congr num_nil
  refine ⟨h0.nk.sublist (hsub.map _), h0.nv.sublist (hsub.map _), fun p k hm => ?_, fun p hn => ?_⟩
  · obtain ⟨⟨b, q⟩, hz, he⟩ := List.mem_map.1 hm
    simp only at he; subst he
    obtain ⟨k1, k2⟩ := key b p k (h.sub.subset hz)
    exact ⟨k1, k2.1 hz⟩
  · by_cases c : ∃ k, (p, k) ∈ O
    · obtain ⟨k, hk⟩ := c
      rw [← hO] at hk
      obtain ⟨⟨b, q⟩, hz, he⟩ := List.mem_map.1 hk
      simp only at he; subst he
      obtain ⟨_, k2⟩ := key b p k hz
      by_cases e : (g p).tail = []
      · exact e
      · exact absurd (List.mem_map.2 ⟨_, k2.2 e, rfl⟩) (hn k)
    · rw [h0.no p (fun k hk => c ⟨k, hk⟩)]; rfl
def pw (hd : Int → List Ord) (p : Int) : List AV := [.int .i64 p, .vsl 4 (orows (hd p)) false]
def pws (hd : Int → List Ord) (l : List Int) : List (List AV) := l.map (pw hd)
theorem pws_len (hd : Int → List Ord) (l : List Int) : (pws hd l).length = l.length := by simp [pws]
theorem pws_app (hd : Int → List Ord) (l : List Int) (p : Int) : pws hd l ++ [[.int .i64 p, .vsl 4 (orows (hd p)) false]] = pws hd (l ++ [p]) := by simp [pws, pw]
theorem pws_all (hd : Int → List Ord) (l : List Int) : sub (pws hd l) 0 l.length = pws hd l := by
  unfold sub; rw [List.drop_zero, ← pws_len hd l, List.take_length]
theorem fam_getx {F : List Inn} {k : Nat} {A : Inn} (ex : Mem) (h : F[k]? = some A) : mg (fam F ++ ex) k = .map (fb A) := by
  induction F generalizing k with
  | nil => simp at h
  | cons B F ih =>
    cases k with
    | zero => simp at h; subst h; rfl
    | succ k => simp at h; exact ih h
theorem fam_setx {F : List Inn} {k : Nat} {A : Inn} (ex : Mem) (hk : k < F.length) : ms (fam F ++ ex) k (.map (fb A)) = fam (F.set k A) ++ ex := by
  induction F generalizing k with
  | nil => simp at hk
  | cons B F ih =>
    cases k with
    | zero => rfl
    | succ k =>
      have := ih (k := k) (by simpa using hk)
      simp only [fam, List.map_cons, List.cons_append, ms, List.set_cons_succ] at this ⊢; rw [this]
theorem tz_zip {bs : List Nat} {V : Outr} (h : bs.length = V.length) : tzb (bs.zip V) = bs ∧ tzv (bs.zip V) = V := by
  unfold tzb tzv
  exact ⟨List.map_fst_zip (by omega), List.map_snd_zip (by omega)⟩
theorem tz_get {Z : Ts} {j b : Nat} {k v : AV} (h1 : (tzb Z)[j]? = some b) (h2 : (ob (tzv Z))[j]? = some (k, v)) : ∃ p q, Z[j]? = some (b, (p, q)) ∧ k = .int .i64 p ∧ v = .map (q + 1 + 1) := by
  simp only [tzb, ob, tzv, List.getElem?_map] at h1 h2
  cases h : Z[j]? with
  | none => rw [h] at h1; cases h1
  | some z =>
    obtain ⟨b', p, q⟩ := z
    rw [h] at h1 h2; cases h1; cases h2
    exact ⟨p, q, rfl, rfl, rfl⟩
theorem ob_midx {p : Int} {q : Nat} : ∀ (V : Outr) (j i : Nat), (V.map (·.1)).Nodup → V[j]? = some (p, q) → midx (ob V) (.int .i64 p) i = some (i + j, .map (q + 1 + 1))
  | [], j, i, _, h => by simp at h
  | e :: V, j, i, hn, h => by
    have h0 : kd IntKind.i64 IntKind.i64 = true := rfl
    simp only [List.map_cons, List.nodup_cons] at hn
    simp only [ob, List.map_cons, midx, keq, h0, Bool.true_and]
    cases j with
    | zero =>
      simp only [List.getElem?_cons_zero, Option.some.injEq] at h
      subst h
      rw [beq_self_eq_true]; rfl
    | succ j =>
      simp only [List.getElem?_cons_succ] at h
      have hm : p ∈ V.map (·.1) := List.mem_map.2 ⟨(p, q), List.mem_of_getElem? h, rfl⟩
      have hne : (p == e.1) = false := by
        cases hb : (p == e.1) with
        | false => rfl
        | true => exact absurd (by rw [← eq_of_beq hb]; exact hm) hn.1
      rw [hne]
      have ih := ob_midx V j (i + 1) hn.2 h
      unfold ob at ih
      rw [cond_false, ih, show i + 1 + j = i + (j + 1) by omega]
theorem tz_del {Z : Ts} {j b : Nat} {p : Int} {q : Nat} (hn : ((tzv Z).map (·.1)).Nodup) (h : Z[j]? = some (b, (p, q))) :
    delB (tzb Z) (ob (tzv Z)) (.int .i64 p) = (tzb (Z.eraseIdx j), ob (tzv (Z.eraseIdx j))) := by
  have hv : (tzv Z)[j]? = some (p, q) := by simp only [tzv, List.getElem?_map, h]; rfl
  unfold delB
  rw [ob_midx _ j 0 hn hv]
  simp only [Nat.zero_add, tzb, tzv, ob, map_eraseIdx']
def unsT (bs seen : List Nat) : Nat := (bs.filter fun x => ! seen.contains x).length
theorem unsT_dec {bs seen : List Nat} {b : Nat} (h1 : b ∈ bs) (h2 : b ∉ seen) : unsT bs (seen ++ [b]) < unsT bs seen := by
  unfold unsT
  have hsub : ∀ l : List Nat, (l.filter fun x => ! (seen ++ [b]).contains x).length ≤ (l.filter fun x => ! seen.contains x).length := by
    intro l
    induction l with
    | nil => simp
    | cons a l ih =>
      simp only [List.filter_cons]
      by_cases c1 : a ∈ seen
      · simp [c1] at ih ⊢; omega
      · by_cases c2 : a = b
        · subst c2; simp [c1] at ih ⊢; omega
        · simp [c1, c2] at ih ⊢; omega
  induction bs with
  | nil => simp at h1
  | cons a bs ih =>
    simp only [List.filter_cons]
    have hs := hsub bs
    by_cases c2 : a = b
    · subst c2; simp [h2] at hs ⊢; omega
    · have hm : b ∈ bs := by simp at h1; rcases h1 with h | h; exact absurd h.symm c2; exact h
      have := ih hm
      by_cases c1 : a ∈ seen
      · simp [c1, c2] at this ⊢; omega
      · simp [c1, c2] at this ⊢; omega
theorem unsT_sub {bs bs' seen : List Nat} (h : bs'.Sublist bs) : unsT bs' seen ≤ unsT bs seen := (h.filter _).length_le
theorem nxtZ_sub (nx : Int) (A : Inn) (Z : Ts) (j : Nat) : (tzb (nxtZ nx A Z j)).Sublist (tzb Z) := by
  unfold nxtZ
  split
  · exact (List.eraseIdx_sublist ..).map _
  · exact List.Sublist.refl _
abbrev tB (nx : Int) (bm clock : Nat) (Z : Ts) (F : List Inn) (seen : List Nat) : Mem := .box [.int .i64 nx, .map 1] :: .mapb bm clock (tzb Z) (ob (tzv Z)) :: (fam F ++ [.iter (some bm) clock seen clock])
theorem tB_len (nx : Int) (bm clock : Nat) (Z : Ts) (F : List Inn) (seen : List Nat) : (tB nx bm clock Z F seen).length = F.length + 1 + 1 + 1 := by simp [fam]
theorem tB_ids (nx : Int) (bm clock : Nat) (Z : Ts) (F : List Inn) (seen : List Nat) (h : OkO (tzv Z) F) (n : Nat) (hn : F.length + 1 + 1 ≤ n) : idsM n (tB nx bm clock Z F seen) = true := by
  have h1 := ob_ids (n := n) (tzv Z) fun e he => by have := h e he; omega
  have h2 := fam_ids n F
  simp only [tB, idsM, idsB, h1, idsM_app, h2, Bool.and_true, idss, ids, Bool.true_and]
  simp; omega
theorem fz_pl (nx : Int) (O : Outr) (F : List Inn) (t t' : Tr) (xs : List (List AV)) (p : Prop) (h : fzT (F.length + 1 + 1) 2 xs t = (p, t')) :
    fzA (F.length + 1 + 1) t (tM nx O F ++ [.row 2 xs]) = some (p ∧ ((True ∧ True ∧ True) ∧ True), t', tM nx O F ++ [.gone]) := by
  have hrow := fam_row F (.row 2 xs)
  have hfs := fam_rowset F (.row 2 xs) .gone
  simp only [fzA, tM, List.cons_append, mg, hrow, ms, hfs, fzM, fzM_fam, fzL, fzV, h]
theorem take_yes (nx : Int) (O : Outr) (F : List Inn) (g : Int → List (List Ord)) (hT : TOk nx O F g) (l : List Int) (tight : Bool) (hl : l.length ≤ 100000) (hd : Int → List Ord) (hnx : 0 ≤ nx ∧ nx ≤ 1000000)
    (hH : ∀ p ∈ l, ∃ r, g p = hd p :: r) (hm : Tri Try.prog 56 [.pbox 0 0, .vsl 1 (iv .i64 l) tight] (tM nx O F) (fun v m => v = .vsl 1 (iv .i64 []) false ∧ m = tM nx O F)) :
    Tri Try.prog 12 [.pbox 0 0, .vsl 1 (iv .i64 l) tight] (tM nx O F) (fun v m => v = .tup [.vsl 2 (pws hd l) false, .bool true] ∧ ∃ O' F', TOk (nx + 1) O' F' (fun p => (g p).tail) ∧ m = tM (nx + 1) O' F') := by
  refine Tri.post ?_
  have hO := hT.okO
  have hgt : ¬ (([] : List Int).length : Int) > 0 := by simp
  skip
  refine (Tri.enter (rl := r12) (code := c12) (by kernel_rfl) Try.func12 rfl c12_ok (by kernel_rfl) (by kernel_rfl) ?_)
  refine run_ok 4000 _ _ _ _ ?_
  simp (maxSteps := 10000000) only [go_sem, c12, r12, hgt, iv_len, fam_len]
  refine sem_call rfl rfl ((hm).mono ?_)
  rintro _ _ ⟨rfl, rfl⟩
  refine run_ok 4000 _ _ _ _ ?_
  simp (maxSteps := 10000000) only [go_sem, hgt, iv_len, fam_len]
  refine sem_virt 6 2 rfl ?_
  simp (maxSteps := 10000000) only [go_sem, hgt, iv_len, fam_len]
  have hA : idsM (tM nx O F).length (tM nx O F) = true := tM_ids nx O F hO _ (by rw [tM_len]; exact Nat.le_refl _)
  refine sem_rounds (fun i : Nat => i ≤ l.length)
    (fun i => [(0, .pbox 0 0), (6, .sl (F.length + 1 + 1) 0 i i false), (16, .vsl 1 (iv .i64 l) tight), (17, .int .i64 l.length), (18, .int .i64 (i : Nat))])
    (fun i => tM nx O F ++ [.row 2 (pws hd (l.take i))]) (fun i => l.length - i) 0 (idl (tM nx O F).length 0 ++ [(tM nx O F).length + 0]) (Nat.zero_le _) ?_ ?_
  · refine emb_row (A := tM nx O F) (ex := [.row 2 []]) (j := 0) hA (Nat.le_of_eq (tM_len _ _ _).symm) ?_ ?_ ⟨_, _, rfl⟩ ?_
    · simp [idsT, ids, fam_len]
    · simp [pws, mg]
    · have e : (tM nx O F).length = F.length + 1 + 1 := tM_len _ _ _
      rw [e]
      simp only [embT, ren, rid_post0]
      simp only [go_sem, idl, List.cons_append, rid]
  intro i hi
  by_cases c : i < l.length
  · have hin : (i : Int) < (l.length : Int) := by omega
    obtain ⟨r, hr⟩ := hH l[i] (List.getElem_mem c)
    obtain ⟨k, h1, h2⟩ : ∃ k, og O l[i] = some k ∧ F[k]? = some (num nx (g l[i])) := by
      rcases hT.og l[i] with ⟨_, h⟩ | ⟨k, h1, h2, _⟩
      · rw [h] at hr; cases hr
      · exact ⟨k, h1, h2⟩
    have hf := ob_find O l[i]; rw [h1] at hf
    have hrow := fam_row F (.row 2 (pws hd (l.take i)))
    have hg1 := fam_getx [.row 2 (pws hd (l.take i))] h2
    have hi2 := fb_find (num nx (g l[i])) nx
    have hi3 : ig (num nx (g l[i])) nx = some (hd l[i]) := by rw [hr]; simp [num, ig]
    rw [hi3] at hi2
    have w1 := inc64 (show i < 1000000000000 by omega)
    have r0 := iv_rint (k := .i64) c
    have h0 := iv_hasI (k := .i64) c
    have hnext : l.take (i + 1) = l.take i ++ [l[i]] := List.take_succ_eq_append_getElem c
    have hlt : (l.take i).length = i := by rw [List.length_take]; omega
    have hpl : (pws hd (l.take i)).length = i := by rw [pws_len, hlt]
    have hsm : small (i + 1) := by unfold small; omega
    have hall : sub (pws hd (l.take i)) 0 i = pws hd (l.take i) := by have := pws_all hd (l.take i); rwa [hlt] at this
    have hrs := fam_rowset F (.row 2 (pws hd (l.take i))) .gone
    have happ := pws_app hd (l.take i) l[i]
    rw [← hnext] at happ
    have hln : (fam F ++ [Blk.row 2 (pws hd (l.take i))]).length = F.length + 1 := by simp [fam]
    have hfin : mg [.gone, .row 2 (pws hd (l.take (i + 1)))] 1 = .row 2 (pws hd (l.take (i + 1))) := rfl
    have hg2 : mg (fam F ++ [.gone] ++ [.row 2 (pws hd (l.take (i + 1)))]) k = .map (fb (num nx (g l[i]))) := by rw [List.append_assoc]; exact fam_getx _ h2
    generalize l[i] = x at *
    generalize num nx (g x) = A at *
    skip
    refine run_ok 4000 _ _ _ _ ?_
    simp (maxSteps := 10000000) only [go_sem, hin, w1, r0, h0, hf, Option.map_some, hg1, hg2, hi2, hln, hrow, hpl, hsm, hall, hrs, happ, Int.natCast_nonneg, iv_len, Nat.le_refl, fam_len]
    refine sem_drawG l12_0_ok (by kernel_rfl) ?_
    intro KK hKK
    simp (maxSteps := 10000000) only [go_sem, l12_0, hin, w1, r0, h0, hf, Option.map_some, hg1, hg2, hi2, hln, hrow, hpl, hsm, hall, hrs, happ, Int.natCast_nonneg, iv_len, Nat.le_refl, fam_len]
    subst hKK
    simp (maxSteps := 10000000) only [go_sem, hin, w1, r0, h0, hf, Option.map_some, hg1, hg2, hi2, hln, hrow, hpl, hsm, hall, hrs, happ, Int.natCast_nonneg, iv_len, Nat.le_refl, fam_len]
    rw [show fam F ++ [Blk.gone] ++ [Blk.row 2 (pws hd (l.take (i + 1)))] = fam F ++ [Blk.gone, Blk.row 2 (pws hd (l.take (i + 1)))] by simp]
    refine ⟨i + 1, by omega, c, idl (tM nx O F).length 0 ++ [(tM nx O F).length + 1], ?_⟩
    refine emb_row (A := tM nx O F) (ex := [.gone, .row 2 (pws hd (l.take (i + 1)))]) (j := 1) hA (Nat.le_of_eq (tM_len _ _ _).symm) ?_ hfin ⟨_, _, rfl⟩ ?_
    · simp [idsT, ids, fam_len]
    · rw [tM_len]
      simp only [embT, ren, rid_post0]
      simp only [go_sem, idl, List.cons_append, rid]
  · have hin : ¬ (i : Int) < (l.length : Int) := by omega
    obtain rfl : i = l.length := by omega
    rw [List.take_of_length_le (Nat.le_refl _)]
    skip
    refine run_ok 4000 _ _ _ _ ?_
    simp (maxSteps := 10000000) only [go_sem, hin]
    refine sem_freeze (F.length + 1 + 1) (fz_pl nx O F _ _ (pws hd l) _ (by simp only [go_sem, Nat.beq_refl]; rfl)) ?_ ?_
    · simp [pws_len]
    rw [← pws_len hd l]
    refine sem_sub1 (m := tM nx O F) [.gone] [(0, .pbox 0 0), (6, .vsl 2 (pws hd l) false)] hA (Nat.le_of_eq (tM_len _ _ _).symm) (by simp [idsT, ids, fam_len]) ?_ ?_
    · simp only [go_sem, sub, List.drop_zero, List.take_length]
    refine sem_births 1 rfl ?_
    intro bm clock bs hbl hblt hbn
    have hbl : bs.length = O.length := by simpa [ob] using hbl
    obtain ⟨z1, z2⟩ := tz_zip hbl
    generalize hZ : bs.zip O = Z0 at *
    subst z1
    subst z2
    skip
    refine run_ok 4000 _ _ _ _ ?_
    simp (maxSteps := 10000000) only [go_sem, fam_len]
    refine sem_rng rfl rfl rfl ?_
    refine run_ok 4000 _ _ _ _ ?_
    simp (maxSteps := 10000000) only [go_sem, fam_len]
    have hvn : (Z0.map fun z => z.2.2).Nodup := by have := hT.nv; rwa [show (tzv Z0).map (·.2) = Z0.map fun z => z.2.2 by simp [tzv]] at this
    have w9 : iwrap .i64 (nx + 1) = nx + 1 := iwrap_i64_in (by omega)
    have hOZ : ∀ {Z F' seen}, TkOk nx Z0 F Z F' seen → OkO (tzv Z) F' := fun {Z F' seen} h e he => by
      rw [h.flen]
      exact hO e ((h.sub.map (·.2)).subset he)
    refine sem_roundsJ (fun x : Ts × List Inn × List Nat => TkOk nx Z0 F x.1 x.2.1 x.2.2)
      (fun x => [(0, .pbox 0 0), (6, .vsl 2 (pws hd l) false), (43, .pbox (F.length + 1 + 1) 0)])
      (fun x => tB nx bm clock x.1 x.2.1 x.2.2) (fun x => unsT (tzb x.1) x.2.2) (Z0, F, []) ?_ ?_ ?_ (TkOk.begin nx Z0 F) ?_ ?_
    · intro x hx; exact tB_ids _ _ _ _ _ _ (hOZ hx) _ (by rw [tB_len]; omega)
    · intro x hx; rw [tB_len, hx.flen]; omega
    · intro x hx; have := hx.flen; simp [idsT, ids, fam_len]; omega
    · simp [go_sem]
    rintro ⟨Z, F', seen⟩ hz
    simp only at hz ⊢
    have hfl := hz.flen
    have hrow := fam_row F' (.iter (some bm) clock seen clock)
    rw [hfl] at hrow
    have hblt' : ∀ x ∈ tzb Z, x < clock := fun x hx => hblt x ((hz.sub.map _).subset hx)
    skip
    refine run_ok 4000 _ _ _ _ ?_
    simp (maxSteps := 10000000) only [go_sem, fam_len, hfl]
    refine sem_nxt (i := F.length + 1 + 1) (b := 1) rfl rfl hrow rfl hblt' (Nat.le_refl _) ?_ ?_
    · intro hdn
      have hdone := hz.done hT rfl hdn
      skip
      refine run_ok 4000 _ _ _ _ ?_
      simp (maxSteps := 10000000) only [go_sem, w9]
      refine sem_unborn 1 rfl ?_
      refine run_ok 4000 _ _ _ _ ?_
      simp (maxSteps := 10000000) only [go_sem, w9]
      have hO2 := hdone.okO
      exact ⟨_, _, .sub (idl (tM (nx + 1) (tzv Z) F').length 0) (embV_idl [.iter (some bm) clock seen clock] (by rw [tM_len, hfl]; exact Nat.le_refl _) (by simp only [go_sem]) (tM_ids _ _ _ hO2 _ (by rw [tM_len]; exact Nat.le_refl _))) .done, rfl, _, _, hdone, rfl⟩
    · intro j born key val h1 h2 h3
      obtain ⟨p, k, hj, rfl, rfl⟩ := tz_get h1 h2
      have hmem : born ∈ tzb Z := List.mem_of_getElem? h1
      have hin0 : (born, (p, k)) ∈ Z0 := hz.sub.subset (List.mem_of_getElem? hj)
      obtain ⟨hF0, _⟩ := hT.ok p k (List.mem_map.2 ⟨_, hin0, rfl⟩)
      have hF1 := (hz.todo _ hin0 h3).2
      simp only at hF1
      rw [hF0] at hF1
      have hkl : k < F'.length := (List.getElem?_eq_some_iff.1 hF1).1
      obtain ⟨_, hz2⟩ := hz.step hbn hvn hj h3 hF1
      have hfs := fam_rowset F' (.iter (some bm) clock seen clock) (.iter (some bm) clock (seen ++ [born]) clock)
      have hrow2 := fam_row F' (.iter (some bm) clock (seen ++ [born]) clock)
      rw [hfl] at hfs hrow2
      have hg1 := fam_getx [.iter (some bm) clock (seen ++ [born]) clock] hF1
      have hdl := fb_del (num nx (g p)) nx (num_nodup nx (g p))
      have hst := fam_setx (A := dl nx (num nx (g p))) [.iter (some bm) clock (seen ++ [born]) clock] hkl
      have hg2 := fam_getx (F := F'.set k (dl nx (num nx (g p)))) (k := k) (A := dl nx (num nx (g p))) [.iter (some bm) clock (seen ++ [born]) clock] (by simp [hkl])
      have hkn : ((tzv Z).map (·.1)).Nodup := hT.nk.sublist ((hz.sub.map _).map _)
      have hdec : unsT (tzb (nxtZ nx (num nx (g p)) Z j)) (seen ++ [born]) < unsT (tzb Z) seen := Nat.lt_of_le_of_lt (unsT_sub (nxtZ_sub _ _ _ _)) (unsT_dec hmem h3)
      generalize hA0 : num nx (g p) = A at *
      skip
      refine run_ok 4000 _ _ _ _ ?_
      simp (maxSteps := 10000000) only [go_sem, fam_len, hfl, hfs]
      refine sem_ent (i := F.length + 1 + 1) (b := 1) (j := j) rfl rfl hrow2 rfl h1 h2 ?_
      by_cases e : (dl nx A).length = 0
      · have e1 : ((((dl nx A).length : Nat) : Int) == 0) = true := by rw [e]; rfl
        have hnz : nxtZ nx A Z j = Z.eraseIdx j := by unfold nxtZ; rw [if_pos e]
        skip
        refine run_ok 4000 _ _ _ _ ?_
        simp (maxSteps := 10000000) only [go_sem, fam_len, hfl, hfs, hg1, hg2, hdl, hst, fb_len, e1]
        refine sem_mdelb (b := 1) rfl rfl rfl rfl rfl (ob_ok _ _) ?_
        rw [tz_del hkn hj]
        refine run_ok 4000 _ _ _ _ ?_
        simp (maxSteps := 10000000) only [go_sem, fam_len, hfl, hfs, hg1, hg2, hdl, hst, fb_len, e1]
        refine ⟨(nxtZ nx A Z j, F'.set k (dl nx A), seen ++ [born]), hdec, hz2, [], ?_⟩
        simp [hnz]
      · have e1 : ((((dl nx A).length : Nat) : Int) == 0) = false := by simpa using e
        have hnz : nxtZ nx A Z j = Z := by unfold nxtZ; rw [if_neg e]
        skip
        refine run_ok 4000 _ _ _ _ ?_
        simp (maxSteps := 10000000) only [go_sem, fam_len, hfl, hfs, hg1, hg2, hdl, hst, fb_len, e1]
        refine ⟨(nxtZ nx A Z j, F'.set k (dl nx A), seen ++ [born]), hdec, hz2, [], ?_⟩
        simp [hnz]
def upd (g : Int → List (List Ord)) (p : Int) (l : List (List Ord)) : Int → List (List Ord) := fun q => if q = p then l else g q
theorem upd_same (g : Int → List (List Ord)) (p : Int) (l : List (List Ord)) : upd g p l p = l := by simp [upd]
theorem upd_else (g : Int → List (List Ord)) {p q : Int} (l : List (List Ord)) (h : q ≠ p) : upd g p l q = g q := by simp [upd, h]
def hasB' (g : Int → List (List Ord)) (p : Int) : Bool := !(g p).isEmpty
theorem hasT {nx : Int} {O : Outr} {F : List Inn} {g : Int → List (List Ord)} (h : TOk nx O F g) (p : Int) : Tri Try.prog 104 [.pbox 0 0, .int .i64 p] (tM nx O F) fun v m => v = .bsym (hasB' g p) ∧ m = tM nx O F := by
  rcases h.og p with ⟨h1, h2⟩ | ⟨k, h1, h2, h3⟩
  · have := has_none nx O F p h1
    rwa [show hasB' g p = false by simp [hasB', h2]]
  · have := has_some nx O F p k _ h1 h2
    cases e : g p with
    | nil => exact absurd e h3
    | cons L r =>
      rw [show (ig (num nx (g p)) nx).isSome = true by rw [e]; simp [num, ig]] at this
      rwa [show hasB' g p = true by simp [hasB', e]]
theorem givenT {nx : Int} {O : Outr} {F : List Inn} {g : Int → List (List Ord)} (h : TOk nx O F g) (p : Int) (hn : 0 ≤ nx ∧ nx ≤ 1000000) (hl : (g p).length ≤ 100) :
    Tri Try.prog 11 [.pbox 0 0, .int .i64 p] (tM nx O F) fun v m => v = .int .i64 (nx + (g p).length) ∧ m = tM nx O F := by
  rcases h.og p with ⟨h1, h2⟩ | ⟨k, h1, h2, h3⟩
  · have := given_none nx O F p h1 (by omega)
    rwa [show nx + ((g p).length : Int) = nx by rw [h2]; simp]
  · have := given_some nx O F p k _ h1 h2 (by omega) (by rw [num_len]; omega)
    rwa [num_len] at this
theorem missT {nx : Int} {O : Outr} {F : List Inn} {g : Int → List (List Ord)} (h : TOk nx O F g) (l : List Int) (tight : Bool) (hl : l.length ≤ 100000) :
    Tri Try.prog 56 [.pbox 0 0, .vsl 1 (iv .i64 l) tight] (tM nx O F) fun v m => v = .vsl 1 (iv .i64 (l.filter fun x => !hasB' g x)) false ∧ m = tM nx O F :=
  missing_spec nx O F h.okO (hasB' g) (hasT h) l tight hl
theorem takeNo {nx : Int} {O : Outr} {F : List Inn} {g : Int → List (List Ord)} (h : TOk nx O F g) (l : List Int) (tight : Bool) (hl : l.length ≤ 100000) (hm : ∃ p ∈ l, g p = []) :
    Tri Try.prog 12 [.pbox 0 0, .vsl 1 (iv .i64 l) tight] (tM nx O F) fun v m => v = .tup [.nilsl, .bool false] ∧ m = tM nx O F := by
  obtain ⟨p, hp, he⟩ := hm
  exact take_no nx O F h.okO (hasB' g) (hasT h) l tight hl (List.length_pos_of_mem (List.mem_filter.2 ⟨hp, by simp [hasB', he]⟩))
def hdT (g : Int → List (List Ord)) (p : Int) : List Ord := (g p).headD []
theorem takeYes {nx : Int} {O : Outr} {F : List Inn} {g : Int → List (List Ord)} (h : TOk nx O F g) (l : List Int) (tight : Bool) (hl : l.length ≤ 100000) (hn : 0 ≤ nx ∧ nx ≤ 1000000) (hm : ∀ p ∈ l, g p ≠ []) :
    Tri Try.prog 12 [.pbox 0 0, .vsl 1 (iv .i64 l) tight] (tM nx O F) fun v m => v = .tup [.vsl 2 (pws (hdT g) l) false, .bool true] ∧ ∃ O' F', TOk (nx + 1) O' F' (fun p => (g p).tail) ∧ m = tM (nx + 1) O' F' := by
  refine take_yes nx O F g h l tight hl (hdT g) hn (fun p hp => ?_) ?_
  · cases e : g p with
    | nil => exact absurd e (hm p hp)
    | cons L r => exact ⟨r, by simp [hdT, e]⟩
  · have := missT h l tight hl
    rwa [show (l.filter fun x => !hasB' g x) = [] by
      rw [List.filter_eq_nil_iff]; intro p hp; have := hm p hp; simp [hasB', this]] at this
theorem TOk.push {nx : Int} {O : Outr} {F : List Inn} {g : Int → List (List Ord)} (h : TOk nx O F g) {p : Int} {k : Nat} (L : List Ord) (h1 : AEX.og O p = some k) (h2 : F[k]? = some (num nx (g p))) :
    TOk nx O (F.set k (num nx (g p) ++ [(nx + (g p).length, L)])) (upd g p (g p ++ [L])) := by
  have hk : k < F.length := (List.getElem?_eq_some_iff.1 h2).1
  have hm := og_mem h1
  refine ⟨h.nk, h.nv, fun q j hq => ?_, fun q hq => ?_⟩
  · by_cases e : q = p
    · subst e
      have : j = k := by have := nd_fst h.nk hq hm rfl; simpa using this
      subst this
      rw [List.getElem?_set_self hk, upd_same, num_app]
      exact ⟨rfl, by simp⟩
    · have hjk : j ≠ k := fun ejk => e (by have := nd_fst h.nv hq hm ejk; simpa using congrArg Prod.fst this)
      rw [List.getElem?_set_ne (Ne.symm hjk), upd_else _ _ e]
      exact h.ok q j hq
  · by_cases e : q = p
    · subst e; exact absurd hm (hq k)
    · rw [upd_else _ _ e]; exact h.no q hq
theorem TOk.add {nx : Int} {O : Outr} {F : List Inn} {g : Int → List (List Ord)} (h : TOk nx O F g) {p : Int} (L : List Ord) (h1 : AEX.og O p = none) : TOk nx (O ++ [(p, F.length)]) (F ++ [[(nx, L)]]) (upd g p [L]) := by
  have hno := og_not h1
  refine ⟨?_, ?_, fun q j hq => ?_, fun q hq => ?_⟩
  · rw [List.map_append, List.nodup_append]
    refine ⟨h.nk, by simp, fun a ha b hb => ?_⟩
    simp at hb; subst hb
    rintro rfl
    obtain ⟨⟨a', j⟩, he, hx⟩ := List.mem_map.1 ha
    simp only at hx; subst hx
    exact hno j he
  · rw [List.map_append, List.nodup_append]
    refine ⟨h.nv, by simp, fun a ha b hb => ?_⟩
    simp at hb; subst hb
    rintro rfl
    obtain ⟨⟨a', j⟩, he, hx⟩ := List.mem_map.1 ha
    simp only at hx; subst hx
    have := h.okO _ he
    simp at this
  · rcases List.mem_append.1 hq with hq1 | hq1
    · have hne : q ≠ p := by rintro rfl; exact hno j hq1
      have hj := h.okO _ hq1
      simp only at hj
      rw [upd_else _ _ hne, List.getElem?_append_left hj]
      exact h.ok q j hq1
    · simp at hq1
      obtain ⟨rfl, rfl⟩ := hq1
      rw [upd_same]
      exact ⟨by simp [num], by simp⟩
  · have hne : q ≠ p := by rintro rfl; exact hq F.length (by simp)
    rw [upd_else _ _ hne]
    exact h.no q fun k hk => hq k (by simp [hk])
theorem putT {nx : Int} {O : Outr} {F : List Inn} {g : Int → List (List Ord)} (h : TOk nx O F g) (p T : Int) (L : List Ord) (hT : T = nx + (g p).length) (hn : 0 ≤ nx ∧ nx ≤ 100000) (hg : (g p).length < 8) (hp : 0 ≤ p ∧ p < 32) (hL : L.length ≤ 8) (hok : ∀ o ∈ L, okO o) :
    Tri Try.prog 10 [.pbox 0 0, .int .i64 p, .int .i64 T, .vsl 4 (orows L) false] (tM nx O F) fun v m => v = .int .i64 0 ∧ ∃ O' F', TOk nx O' F' (upd g p (g p ++ [L])) ∧ m = tM nx O' F' := by
  subst hT
  rcases h.og p with ⟨h1, h2⟩ | ⟨k, h1, h2, h3⟩
  · have := put_none nx O F p L h1 hn hp hL hok
    rw [show nx + ((g p).length : Int) = nx by rw [h2]; simp]
    refine this.mono ?_
    rintro _ _ ⟨rfl, rfl⟩
    refine ⟨rfl, _, _, ?_, rfl⟩
    have := h.add L h1
    rwa [h2, List.nil_append]
  · have hn0 := num_free nx (g p)
    have := put_some nx O F p k _ L h1 h2 hn (by rw [num_len]; exact hg) hp hL hok (by rw [num_len]; exact hn0)
    rw [num_len] at this
    refine this.mono ?_
    rintro _ _ ⟨rfl, rfl⟩
    exact ⟨rfl, _, _, h.push L h1 h2, rfl⟩
end Go.AEX
