/- Batch tables: Take, when all have given. -/
import Derived.Test.YthdkobfafncpcaaBatJ
namespace Go.AEX
open Go Go.AE Go.Proofs
set_option maxRecDepth 100000
set_option linter.unusedVariables false
set_option linter.unusedSimpArgs false

def pw (hd : Int → List Ord) (p : Int) : List AV := [.int .i64 p, .vsl 4 (orows (hd p)) false]
def pws (hd : Int → List Ord) (l : List Int) : List (List AV) := l.map (pw hd)
theorem pws_len (hd : Int → List Ord) (l : List Int) : (pws hd l).length = l.length := by simp [pws]
theorem pws_app (hd : Int → List Ord) (l : List Int) (p : Int) : pws hd l ++ [[.int .i64 p, .vsl 4 (orows (hd p)) false]] = pws hd (l ++ [p]) := by simp [pws, pw]
theorem pws_all (hd : Int → List Ord) (l : List Int) : sub (pws hd l) 0 l.length = pws hd l := by
  unfold sub; rw [List.drop_zero, ← pws_len hd l, List.take_length]
theorem fam_getx {F : List Inn} {k : Nat} {A : Inn} (ex : Mem) (h : F[k]? = some A) : mg (fam F ++ ex) k = .map (fb A) := by
  induction F generalizing k with
  | nil => simp at h
  | cons B F ih =>
    cases k with
    | zero => simp at h; subst h; rfl
    | succ k => simp at h; exact ih h
theorem fam_setx {F : List Inn} {k : Nat} {A : Inn} (ex : Mem) (hk : k < F.length) : ms (fam F ++ ex) k (.map (fb A)) = fam (F.set k A) ++ ex := by
  induction F generalizing k with
  | nil => simp at hk
  | cons B F ih =>
    cases k with
    | zero => rfl
    | succ k =>
      have := ih (k := k) (by simpa using hk)
      simp only [fam, List.map_cons, List.cons_append, ms, List.set_cons_succ] at this ⊢; rw [this]
theorem tz_zip {bs : List Nat} {V : Outr} (h : bs.length = V.length) : tzb (bs.zip V) = bs ∧ tzv (bs.zip V) = V := by
  unfold tzb tzv
  exact ⟨List.map_fst_zip (by omega), List.map_snd_zip (by omega)⟩
theorem tz_get {Z : Ts} {j b : Nat} {k v : AV} (h1 : (tzb Z)[j]? = some b) (h2 : (ob (tzv Z))[j]? = some (k, v)) : ∃ p q, Z[j]? = some (b, (p, q)) ∧ k = .int .i64 p ∧ v = .map (q + 1 + 1) := by
  simp only [tzb, ob, tzv, List.getElem?_map] at h1 h2
  cases h : Z[j]? with
  | none => rw [h] at h1; cases h1
  | some z =>
    obtain ⟨b', p, q⟩ := z
    rw [h] at h1 h2; cases h1; cases h2
    exact ⟨p, q, rfl, rfl, rfl⟩
theorem ob_midx {p : Int} {q : Nat} : ∀ (V : Outr) (j i : Nat), (V.map (·.1)).Nodup → V[j]? = some (p, q) → midx (ob V) (.int .i64 p) i = some (i + j, .map (q + 1 + 1))
  | [], j, i, _, h => by simp at h
  | e :: V, j, i, hn, h => by
    have h0 : kd IntKind.i64 IntKind.i64 = true := rfl
    simp only [List.map_cons, List.nodup_cons] at hn
    simp only [ob, List.map_cons, midx, keq, h0, Bool.true_and]
    cases j with
    | zero =>
      simp only [List.getElem?_cons_zero, Option.some.injEq] at h
      subst h
      rw [beq_self_eq_true]; rfl
    | succ j =>
      simp only [List.getElem?_cons_succ] at h
      have hm : p ∈ V.map (·.1) := List.mem_map.2 ⟨(p, q), List.mem_of_getElem? h, rfl⟩
      have hne : (p == e.1) = false := by
        cases hb : (p == e.1) with
        | false => rfl
        | true => exact absurd (by rw [← eq_of_beq hb]; exact hm) hn.1
      rw [hne]
      have ih := ob_midx V j (i + 1) hn.2 h
      unfold ob at ih
      rw [cond_false, ih, show i + 1 + j = i + (j + 1) by omega]
theorem tz_del {Z : Ts} {j b : Nat} {p : Int} {q : Nat} (hn : ((tzv Z).map (·.1)).Nodup) (h : Z[j]? = some (b, (p, q))) :
    delB (tzb Z) (ob (tzv Z)) (.int .i64 p) = (tzb (Z.eraseIdx j), ob (tzv (Z.eraseIdx j))) := by
  have hv : (tzv Z)[j]? = some (p, q) := by simp only [tzv, List.getElem?_map, h]; rfl
  unfold delB
  rw [ob_midx _ j 0 hn hv]
  simp only [Nat.zero_add, tzb, tzv, ob, map_eraseIdx']
def unsT (bs seen : List Nat) : Nat := (bs.filter fun x => ! seen.contains x).length
theorem unsT_dec {bs seen : List Nat} {b : Nat} (h1 : b ∈ bs) (h2 : b ∉ seen) : unsT bs (seen ++ [b]) < unsT bs seen := by
  unfold unsT
  have hsub : ∀ l : List Nat, (l.filter fun x => ! (seen ++ [b]).contains x).length ≤ (l.filter fun x => ! seen.contains x).length := by
    intro l
    induction l with
    | nil => simp
    | cons a l ih =>
      simp only [List.filter_cons]
      by_cases c1 : a ∈ seen
      · simp [c1] at ih ⊢; omega
      · by_cases c2 : a = b
        · subst c2; simp [c1] at ih ⊢; omega
        · simp [c1, c2] at ih ⊢; omega
  induction bs with
  | nil => simp at h1
  | cons a bs ih =>
    simp only [List.filter_cons]
    have hs := hsub bs
    by_cases c2 : a = b
    · subst c2; simp [h2] at hs ⊢; omega
    · have hm : b ∈ bs := by simp at h1; rcases h1 with h | h; exact absurd h.symm c2; exact h
      have := ih hm
      by_cases c1 : a ∈ seen
      · simp [c1, c2] at this ⊢; omega
      · simp [c1, c2] at this ⊢; omega
theorem unsT_sub {bs bs' seen : List Nat} (h : bs'.Sublist bs) : unsT bs' seen ≤ unsT bs seen := (h.filter _).length_le
theorem nxtZ_sub (nx : Int) (A : Inn) (Z : Ts) (j : Nat) : (tzb (nxtZ nx A Z j)).Sublist (tzb Z) := by
  unfold nxtZ
  split
  · exact (List.eraseIdx_sublist ..).map _
  · exact List.Sublist.refl _
abbrev tB (nx : Int) (bm clock : Nat) (Z : Ts) (F : List Inn) (seen : List Nat) : Mem := .box [.int .i64 nx, .map 1] :: .mapb bm clock (tzb Z) (ob (tzv Z)) :: (fam F ++ [.iter (some bm) clock seen clock])
theorem tB_len (nx : Int) (bm clock : Nat) (Z : Ts) (F : List Inn) (seen : List Nat) : (tB nx bm clock Z F seen).length = F.length + 1 + 1 + 1 := by simp [fam]
theorem tB_ids (nx : Int) (bm clock : Nat) (Z : Ts) (F : List Inn) (seen : List Nat) (h : OkO (tzv Z) F) (n : Nat) (hn : F.length + 1 + 1 ≤ n) : idsM n (tB nx bm clock Z F seen) = true := by
  have h1 := ob_ids (n := n) (tzv Z) fun e he => by have := h e he; omega
  have h2 := fam_ids n F
  simp only [tB, idsM, idsB, h1, idsM_app, h2, Bool.and_true, idss, ids, Bool.true_and]
  simp; omega
theorem fz_pl (nx : Int) (O : Outr) (F : List Inn) (t t' : Tr) (xs : List (List AV)) (p : Prop) (h : fzT (F.length + 1 + 1) 2 xs t = (p, t')) :
    fzA (F.length + 1 + 1) t (tM nx O F ++ [.row 2 xs]) = some (p ∧ ((True ∧ True ∧ True) ∧ True), t', tM nx O F ++ [.gone]) := by
  have hrow := fam_row F (.row 2 xs)
  have hfs := fam_rowset F (.row 2 xs) .gone
  simp only [fzA, tM, List.cons_append, mg, hrow, ms, hfs, fzM, fzM_fam, fzL, fzV, h]
theorem take_yes (nx : Int) (O : Outr) (F : List Inn) (g : Int → List (List Ord)) (hT : TOk nx O F g) (l : List Int) (tight : Bool) (hl : l.length ≤ 100000) (hd : Int → List Ord) (hnx : 0 ≤ nx ∧ nx ≤ 1000000)
    (hH : ∀ p ∈ l, ∃ r, g p = hd p :: r) (hm : Tri Try.prog 29 [.pbox 0 0, .vsl 1 (iv .i64 l) tight] (tM nx O F) (fun v m => v = .vsl 1 (iv .i64 []) false ∧ m = tM nx O F)) :
    Tri Try.prog 16 [.pbox 0 0, .vsl 1 (iv .i64 l) tight] (tM nx O F) (fun v m => v = .tup [.vsl 2 (pws hd l) false, .bool true] ∧ ∃ O' F', TOk (nx + 1) O' F' (fun p => (g p).tail) ∧ m = tM (nx + 1) O' F') := by
  refine Tri.post ?_
  have hO := hT.okO
  have hgt : ¬ (([] : List Int).length : Int) > 0 := by simp
  skip
  refine (Tri.enter (rl := r16) (code := c16) (by kernel_rfl) Try.func16 rfl c16_ok (by kernel_rfl) (by kernel_rfl) ?_)
  refine run_ok 4000 _ _ _ _ ?_
  simp (maxSteps := 10000000) only [go_sem, c16, r16, hgt, iv_len, fam_len]
  refine sem_call rfl rfl ((hm).mono ?_)
  rintro _ _ ⟨rfl, rfl⟩
  refine run_ok 4000 _ _ _ _ ?_
  simp (maxSteps := 10000000) only [go_sem, hgt, iv_len, fam_len]
  refine sem_virt 6 2 rfl ?_
  simp (maxSteps := 10000000) only [go_sem, hgt, iv_len, fam_len]
  have hA : idsM (tM nx O F).length (tM nx O F) = true := tM_ids nx O F hO _ (by rw [tM_len]; exact Nat.le_refl _)
  refine sem_rounds (fun i : Nat => i ≤ l.length)
    (fun i => [(0, .pbox 0 0), (6, .sl (F.length + 1 + 1) 0 i i false), (16, .vsl 1 (iv .i64 l) tight), (17, .int .i64 l.length), (18, .int .i64 (i : Nat))])
    (fun i => tM nx O F ++ [.row 2 (pws hd (l.take i))]) (fun i => l.length - i) 0 (idl (tM nx O F).length 0 ++ [(tM nx O F).length + 0]) (Nat.zero_le _) ?_ ?_
  · refine emb_row (A := tM nx O F) (ex := [.row 2 []]) (j := 0) hA (Nat.le_of_eq (tM_len _ _ _).symm) ?_ ?_ ⟨_, _, rfl⟩ ?_
    · simp [idsT, ids, fam_len]
    · simp [pws, mg]
    · have e : (tM nx O F).length = F.length + 1 + 1 := tM_len _ _ _
      rw [e]
      simp only [embT, ren, rid_post0]
      simp only [go_sem, idl, List.cons_append, rid]
  intro i hi
  by_cases c : i < l.length
  · have hin : (i : Int) < (l.length : Int) := by omega
    obtain ⟨r, hr⟩ := hH l[i] (List.getElem_mem c)
    obtain ⟨k, h1, h2⟩ : ∃ k, og O l[i] = some k ∧ F[k]? = some (num nx (g l[i])) := by
      rcases hT.og l[i] with ⟨_, h⟩ | ⟨k, h1, h2, _⟩
      · rw [h] at hr; cases hr
      · exact ⟨k, h1, h2⟩
    have hf := ob_find O l[i]; rw [h1] at hf
    have hrow := fam_row F (.row 2 (pws hd (l.take i)))
    have hg1 := fam_getx [.row 2 (pws hd (l.take i))] h2
    have hi2 := fb_find (num nx (g l[i])) nx
    have hi3 : ig (num nx (g l[i])) nx = some (hd l[i]) := by rw [hr]; simp [num, ig]
    rw [hi3] at hi2
    have w1 := inc64 (show i < 1000000000000 by omega)
    have r0 := iv_rint (k := .i64) c
    have h0 := iv_hasI (k := .i64) c
    have hnext : l.take (i + 1) = l.take i ++ [l[i]] := List.take_succ_eq_append_getElem c
    have hlt : (l.take i).length = i := by rw [List.length_take]; omega
    have hpl : (pws hd (l.take i)).length = i := by rw [pws_len, hlt]
    have hsm : small (i + 1) := by unfold small; omega
    have hall : sub (pws hd (l.take i)) 0 i = pws hd (l.take i) := by have := pws_all hd (l.take i); rwa [hlt] at this
    have hrs := fam_rowset F (.row 2 (pws hd (l.take i))) .gone
    have happ := pws_app hd (l.take i) l[i]
    rw [← hnext] at happ
    have hln : (fam F ++ [Blk.row 2 (pws hd (l.take i))]).length = F.length + 1 := by simp [fam]
    have hfin : mg [.gone, .row 2 (pws hd (l.take (i + 1)))] 1 = .row 2 (pws hd (l.take (i + 1))) := rfl
    have hg2 : mg (fam F ++ [.gone] ++ [.row 2 (pws hd (l.take (i + 1)))]) k = .map (fb (num nx (g l[i]))) := by rw [List.append_assoc]; exact fam_getx _ h2
    generalize l[i] = x at *
    generalize num nx (g x) = A at *
    skip
    refine run_ok 4000 _ _ _ _ ?_
    simp (maxSteps := 10000000) only [go_sem, hin, w1, r0, h0, hf, Option.map_some, hg1, hg2, hi2, hln, hrow, hpl, hsm, hall, hrs, happ, Int.natCast_nonneg, iv_len, Nat.le_refl, fam_len]
    refine sem_drawG l16_0_ok (by kernel_rfl) ?_
    intro KK hKK
    simp (maxSteps := 10000000) only [go_sem, l16_0, hin, w1, r0, h0, hf, Option.map_some, hg1, hg2, hi2, hln, hrow, hpl, hsm, hall, hrs, happ, Int.natCast_nonneg, iv_len, Nat.le_refl, fam_len]
    subst hKK
    simp (maxSteps := 10000000) only [go_sem, hin, w1, r0, h0, hf, Option.map_some, hg1, hg2, hi2, hln, hrow, hpl, hsm, hall, hrs, happ, Int.natCast_nonneg, iv_len, Nat.le_refl, fam_len]
    rw [show fam F ++ [Blk.gone] ++ [Blk.row 2 (pws hd (l.take (i + 1)))] = fam F ++ [Blk.gone, Blk.row 2 (pws hd (l.take (i + 1)))] by simp]
    refine ⟨i + 1, by omega, c, idl (tM nx O F).length 0 ++ [(tM nx O F).length + 1], ?_⟩
    refine emb_row (A := tM nx O F) (ex := [.gone, .row 2 (pws hd (l.take (i + 1)))]) (j := 1) hA (Nat.le_of_eq (tM_len _ _ _).symm) ?_ hfin ⟨_, _, rfl⟩ ?_
    · simp [idsT, ids, fam_len]
    · rw [tM_len]
      simp only [embT, ren, rid_post0]
      simp only [go_sem, idl, List.cons_append, rid]
  · have hin : ¬ (i : Int) < (l.length : Int) := by omega
    obtain rfl : i = l.length := by omega
    rw [List.take_of_length_le (Nat.le_refl _)]
    skip
    refine run_ok 4000 _ _ _ _ ?_
    simp (maxSteps := 10000000) only [go_sem, hin]
    refine sem_freeze (F.length + 1 + 1) (fz_pl nx O F _ _ (pws hd l) _ (by simp only [go_sem, Nat.beq_refl]; rfl)) ?_ ?_
    · simp [pws_len]
    rw [← pws_len hd l]
    refine sem_sub1 (m := tM nx O F) [.gone] [(0, .pbox 0 0), (6, .vsl 2 (pws hd l) false)] hA (Nat.le_of_eq (tM_len _ _ _).symm) (by simp [idsT, ids, fam_len]) ?_ ?_
    · simp only [go_sem, sub, List.drop_zero, List.take_length]
    refine sem_births 1 rfl ?_
    intro bm clock bs hbl hblt hbn
    have hbl : bs.length = O.length := by simpa [ob] using hbl
    obtain ⟨z1, z2⟩ := tz_zip hbl
    generalize hZ : bs.zip O = Z0 at *
    subst z1
    subst z2
    skip
    refine run_ok 4000 _ _ _ _ ?_
    simp (maxSteps := 10000000) only [go_sem, fam_len]
    refine sem_rng rfl rfl rfl ?_
    refine run_ok 4000 _ _ _ _ ?_
    simp (maxSteps := 10000000) only [go_sem, fam_len]
    have hvn : (Z0.map fun z => z.2.2).Nodup := by have := hT.nv; rwa [show (tzv Z0).map (·.2) = Z0.map fun z => z.2.2 by simp [tzv]] at this
    have w9 : iwrap .i64 (nx + 1) = nx + 1 := iwrap_i64_in (by omega)
    have hOZ : ∀ {Z F' seen}, TkOk nx Z0 F Z F' seen → OkO (tzv Z) F' := fun {Z F' seen} h e he => by
      rw [h.flen]
      exact hO e ((h.sub.map (·.2)).subset he)
    refine sem_roundsJ (fun x : Ts × List Inn × List Nat => TkOk nx Z0 F x.1 x.2.1 x.2.2)
      (fun x => [(0, .pbox 0 0), (6, .vsl 2 (pws hd l) false), (43, .pbox (F.length + 1 + 1) 0)])
      (fun x => tB nx bm clock x.1 x.2.1 x.2.2) (fun x => unsT (tzb x.1) x.2.2) (Z0, F, []) ?_ ?_ ?_ (TkOk.begin nx Z0 F) ?_ ?_
    · intro x hx; exact tB_ids _ _ _ _ _ _ (hOZ hx) _ (by rw [tB_len]; omega)
    · intro x hx; rw [tB_len, hx.flen]; omega
    · intro x hx; have := hx.flen; simp [idsT, ids, fam_len]; omega
    · simp [go_sem]
    rintro ⟨Z, F', seen⟩ hz
    simp only at hz ⊢
    have hfl := hz.flen
    have hrow := fam_row F' (.iter (some bm) clock seen clock)
    rw [hfl] at hrow
    have hblt' : ∀ x ∈ tzb Z, x < clock := fun x hx => hblt x ((hz.sub.map _).subset hx)
    skip
    refine run_ok 4000 _ _ _ _ ?_
    simp (maxSteps := 10000000) only [go_sem, fam_len, hfl]
    refine sem_nxt (i := F.length + 1 + 1) (b := 1) rfl rfl hrow rfl hblt' (Nat.le_refl _) ?_ ?_
    · intro hdn
      have hdone := hz.done hT rfl hdn
      skip
      refine run_ok 4000 _ _ _ _ ?_
      simp (maxSteps := 10000000) only [go_sem, w9]
      refine sem_unborn 1 rfl ?_
      refine run_ok 4000 _ _ _ _ ?_
      simp (maxSteps := 10000000) only [go_sem, w9]
      have hO2 := hdone.okO
      exact ⟨_, _, .sub (idl (tM (nx + 1) (tzv Z) F').length 0) (embV_idl [.iter (some bm) clock seen clock] (by rw [tM_len, hfl]; exact Nat.le_refl _) (by simp only [go_sem]) (tM_ids _ _ _ hO2 _ (by rw [tM_len]; exact Nat.le_refl _))) .done, rfl, _, _, hdone, rfl⟩
    · intro j born key val h1 h2 h3
      obtain ⟨p, k, hj, rfl, rfl⟩ := tz_get h1 h2
      have hmem : born ∈ tzb Z := List.mem_of_getElem? h1
      have hin0 : (born, (p, k)) ∈ Z0 := hz.sub.subset (List.mem_of_getElem? hj)
      obtain ⟨hF0, _⟩ := hT.ok p k (List.mem_map.2 ⟨_, hin0, rfl⟩)
      have hF1 := (hz.todo _ hin0 h3).2
      simp only at hF1
      rw [hF0] at hF1
      have hkl : k < F'.length := (List.getElem?_eq_some_iff.1 hF1).1
      obtain ⟨_, hz2⟩ := hz.step hbn hvn hj h3 hF1
      have hfs := fam_rowset F' (.iter (some bm) clock seen clock) (.iter (some bm) clock (seen ++ [born]) clock)
      have hrow2 := fam_row F' (.iter (some bm) clock (seen ++ [born]) clock)
      rw [hfl] at hfs hrow2
      have hg1 := fam_getx [.iter (some bm) clock (seen ++ [born]) clock] hF1
      have hdl := fb_del (num nx (g p)) nx (num_nodup nx (g p))
      have hst := fam_setx (A := dl nx (num nx (g p))) [.iter (some bm) clock (seen ++ [born]) clock] hkl
      have hg2 := fam_getx (F := F'.set k (dl nx (num nx (g p)))) (k := k) (A := dl nx (num nx (g p))) [.iter (some bm) clock (seen ++ [born]) clock] (by simp [hkl])
      have hkn : ((tzv Z).map (·.1)).Nodup := hT.nk.sublist ((hz.sub.map _).map _)
      have hdec : unsT (tzb (nxtZ nx (num nx (g p)) Z j)) (seen ++ [born]) < unsT (tzb Z) seen := Nat.lt_of_le_of_lt (unsT_sub (nxtZ_sub _ _ _ _)) (unsT_dec hmem h3)
      generalize hA0 : num nx (g p) = A at *
      skip
      refine run_ok 4000 _ _ _ _ ?_
      simp (maxSteps := 10000000) only [go_sem, fam_len, hfl, hfs]
      refine sem_ent (i := F.length + 1 + 1) (b := 1) (j := j) rfl rfl hrow2 rfl h1 h2 ?_
      by_cases e : (dl nx A).length = 0
      · have e1 : ((((dl nx A).length : Nat) : Int) == 0) = true := by rw [e]; rfl
        have hnz : nxtZ nx A Z j = Z.eraseIdx j := by unfold nxtZ; rw [if_pos e]
        skip
        refine run_ok 4000 _ _ _ _ ?_
        simp (maxSteps := 10000000) only [go_sem, fam_len, hfl, hfs, hg1, hg2, hdl, hst, fb_len, e1]
        refine sem_mdelb (b := 1) rfl rfl rfl rfl rfl (ob_ok _ _) ?_
        rw [tz_del hkn hj]
        refine run_ok 4000 _ _ _ _ ?_
        simp (maxSteps := 10000000) only [go_sem, fam_len, hfl, hfs, hg1, hg2, hdl, hst, fb_len, e1]
        refine ⟨(nxtZ nx A Z j, F'.set k (dl nx A), seen ++ [born]), hdec, hz2, [], ?_⟩
        simp [hnz]
      · have e1 : ((((dl nx A).length : Nat) : Int) == 0) = false := by simpa using e
        have hnz : nxtZ nx A Z j = Z := by unfold nxtZ; rw [if_neg e]
        skip
        refine run_ok 4000 _ _ _ _ ?_
        simp (maxSteps := 10000000) only [go_sem, fam_len, hfl, hfs, hg1, hg2, hdl, hst, fb_len, e1]
        refine ⟨(nxtZ nx A Z j, F'.set k (dl nx A), seen ++ [born]), hdec, hz2, [], ?_⟩
        simp [hnz]
end Go.AEX
