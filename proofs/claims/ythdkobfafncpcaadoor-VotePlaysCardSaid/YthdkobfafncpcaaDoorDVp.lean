/- DFew, DVo, DVp. -/
import Derived.Test.YthdkobfafncpcaaDoorDFr
import Derived.Test.YthdkobfafncpcaaDoorDPm
import Derived.Test.YthdkobfafncpcaaDoorDMo
import Derived.Test.YthdkobfafncpcaaDoorDIz
/- Door seat: Few; awake. -/
namespace Go.AEX
open Go Go.AE Go.Proofs
set_option maxRecDepth 100000
set_option linter.unusedVariables false
set_option linter.unusedSimpArgs false

theorem fewC_take (l : List Chg) {i : Nat} (h : i < l.length) (h10 : i < 10) : fewC (l.take (i + 1)) = fewC (l.take i) ++ [(l[i].1, l[i].2.1, l[i].2.2.take 34)] := by
  unfold fewC
  rw [List.take_take, List.take_take, show min 10 (i + 1) = i + 1 by omega, show min 10 i = i by omega, List.take_succ_eq_append_getElem h, List.map_append]; rfl
theorem few_spec (l : List Chg) (tight : Bool) : Tri Tryd.prog 15 [.vsl 3 (crows l) tight] [] (fun v m => v = .vsl 3 (crows (fewC l)) false ∧ m = []) := by
  refine Tri.post ?_
  skip
  refine (Tri.enter (rl := r15) (code := c15) (by kernel_rfl) Tryd.func15 rfl c15_ok (by kernel_rfl) (by kernel_rfl) ?_)
  refine run_ok 4000 _ _ _ _ ?_
  simp (maxSteps := 10000000) only [go_sem, c15, r15, crows_len]
  refine sem_virt 3 3 rfl ?_
  simp (maxSteps := 10000000) only [go_sem, crows_len]
  refine sem_rounds (fun i : Nat => i ≤ l.length ∧ i ≤ 10) (fun i => [(0, .vsl 3 (crows l) tight), (3, .sl 0 0 (fewC (l.take i)).length (fewC (l.take i)).length false), (4, .int .i64 (i : Nat))])
    (fun i => [.row 3 (crows (fewC (l.take i)))]) (fun i => l.length - i) 0 [0] ⟨Nat.zero_le _, Nat.zero_le _⟩ ?_ ?_
  · simp [Emb, go_sem, fewC, crows]
  rintro i ⟨hi, h10⟩
  by_cases c : i < l.length
  · have hin : (i : Int) < (l.length : Int) := by omega
    by_cases c2 : i < 10
    · have hin2 : (i : Int) < 10 := by omega
      have r0 := crows_r0 c; have r1 := crows_r1 c; have r2 := crows_r2 c
      have h0 := crows_h0 c; have h1 := crows_h1 c; have h2 := crows_h2 c
      have w1 := inc64 (show i < 1000000000000 by omega)
      have hnx := fewC_take l c c2
      have hfl := fewC_len (l.take i)
      have hsm : small ((fewC (l.take i)).length + 1) := by unfold small; omega
      generalize l[i] = ch at *
      obtain ⟨k, p, vs⟩ := ch
      simp only at r0 r1 r2 hnx
      by_cases c3 : vs.length > 34
      · have g1 : (vs.length : Int) > 34 := by omega
        have g2 : (34 : Int) ≤ (vs.length : Int) := by omega
        have g3 : sub (iv .i64 vs) 0 34 = iv .i64 (vs.take 34) := by rw [iv_sub]; simp
        skip
        refine run_ok 4000 _ _ _ _ ?_
        simp (maxSteps := 10000000) only [go_sem, hin, hin2, r0, r1, r2, h0, h1, h2, w1, hsm, g1, g2, g3, iv_len, crows_len, Int.natCast_nonneg, Nat.le_refl]
        refine ⟨i + 1, by omega, ⟨c, by omega⟩, [2], ?_⟩
        simp only [Emb, go_sem, hnx, crows_one, crows_app, crows_all, List.length_append, List.length_singleton]
      · have g1 : ¬ (vs.length : Int) > 34 := by omega
        rw [show vs.take 34 = vs from List.take_of_length_le (by omega)] at hnx
        skip
        refine run_ok 4000 _ _ _ _ ?_
        simp (maxSteps := 10000000) only [go_sem, hin, hin2, r0, r1, r2, h0, h1, h2, w1, hsm, g1, iv_len, crows_len, Int.natCast_nonneg, Nat.le_refl]
        refine ⟨i + 1, by omega, ⟨c, by omega⟩, [2], ?_⟩
        simp only [Emb, go_sem, hnx, crows_one, crows_app, crows_all, List.length_append, List.length_singleton]
    · have hin2 : ¬ (i : Int) < 10 := by omega
      have e : fewC (l.take i) = fewC l := by unfold fewC; rw [List.take_take, show min 10 i = 10 by omega]
      rw [e]
      skip
      refine run_ok 4000 _ _ _ _ ?_
      simp (maxSteps := 10000000) only [go_sem, hin, hin2, crows_len]
      refine run_ok 4000 _ _ _ _ ?_
      simp (maxSteps := 10000000) only [go_sem, hin, hin2, crows_len]
      refine ⟨_, _, .fz 0 rfl (by simp only [go_sem, crows_len, Nat.le_refl]) (.sub [] ?_ .done), rfl, rfl⟩
      simp only [EmbV, go_sem, crows_all]
  · have hin : ¬ (i : Int) < (l.length : Int) := by omega
    have e : fewC (l.take i) = fewC l := by rw [List.take_of_length_le (by omega)]
    rw [e]
    skip
    refine run_ok 4000 _ _ _ _ ?_
    simp (maxSteps := 10000000) only [go_sem, hin, crows_len]
    refine run_ok 4000 _ _ _ _ ?_
    simp (maxSteps := 10000000) only [go_sem, hin, crows_len]
    refine ⟨_, _, .fz 0 rfl (by simp only [go_sem, crows_len, Nat.le_refl]) (.sub [] ?_ .done), rfl, rfl⟩
    simp only [EmbV, go_sem, crows_all]
theorem of3 : Tri Tryd.prog 6 [.vsl 1 [[.int .i64 0], [.int .i64 1], [.int .i64 2]] true] [] (fun v m => v = ros 7 0 ∧ m = []) :=
  r_of_spec [0, 1, 2] true (by simp)
theorem sort_of {l : List Int} (h : l.Pairwise (fun a b => decide (a ≤ b) = true)) : sortI l = l := List.mergeSort_of_pairwise h
theorem pc7 : pc 7 = 3 := by decide +kernel
theorem awake_spec : Tri Tryd.prog 4 [] [] (fun v m => v = .bool true ∧ m = []) := by
  refine Tri.post ?_
  have hS : (7 : Nat) < 4294967296 := by decide
  have hk : VOk 7 2 [(0, true), (1, true)] := ⟨by decide, by decide⟩
  have hc : cntV [(0, true), (1, true)] true = [0, 1] := by unfold cntV; rw [sort_of (by decide)]; decide
  have hw := won_spec 7 hS 0 2 _ hk (by rw [hc, pc7]; decide)
  rw [hc] at hw
  simp only [iv, List.map_cons, List.map_nil] at hw
  have ha := ask_spec 7 hS 0 2 (by decide) (by decide)
  have h0 := Go.AEX.Tri.word (vote_spec 7 hS 0 2 0 [] true (by decide) (by decide) rfl)
  have h1 := Go.AEX.Tri.word (vote_spec 7 hS 0 2 1 [(0, true)] true (by decide) (by decide) rfl)
  have hn := vnew_spec 7 0
  refine (Tri.asB (Tri.enter (rl := r4) (code := c4) (by kernel_rfl) Tryd.func4 rfl c4_ok (by kernel_rfl) (by kernel_rfl) ?_))
  refine run_ok 4000 _ _ _ _ ?_
  simp (maxSteps := 10000000) only [go_sem, c4, r4]
  refine sem_call rfl rfl (((of3).embed [] rfl trivial rfl rfl rfl (by simp)).mono ?_)
  rintro _ _ ⟨_, _, ⟨rfl, rfl⟩, rfl, rfl⟩
  refine run_ok 4000 _ _ _ _ ?_
  simp (maxSteps := 10000000) only [go_sem]
  refine sem_call rfl rfl (((hn).embed [] rfl trivial rfl rfl rfl (by simp)).mono ?_)
  rintro _ _ ⟨_, _, ⟨rfl, rfl⟩, rfl, rfl⟩
  refine run_ok 4000 _ _ _ _ ?_
  simp (maxSteps := 10000000) only [go_sem]
  refine sem_call rfl rfl (((ha).embed [0, 1] rfl (by repeat' first | exact trivial | rfl | (simp only [go_sem]; done) | constructor) rfl (by first | rfl | simp only [go_sem]) rfl (by simp)).mono ?_)
  rintro _ _ ⟨_, _, ⟨rfl, rfl⟩, rfl, rfl⟩
  refine run_ok 4000 _ _ _ _ ?_
  simp (maxSteps := 10000000) only [go_sem]
  refine sem_call rfl rfl (((h0).embed [0, 1, 2] rfl (by repeat' first | exact trivial | rfl | (simp only [go_sem]; done) | constructor) rfl (by first | rfl | simp only [go_sem]) rfl (by simp)).mono ?_)
  rintro _ _ ⟨_, _, ⟨rfl, rfl⟩, rfl, rfl⟩
  refine run_ok 4000 _ _ _ _ ?_
  simp (maxSteps := 10000000) only [go_sem]
  refine sem_call rfl rfl (((h1).embed [0, 1, 2] rfl (by repeat' first | exact trivial | rfl | (simp only [go_sem]; done) | constructor) rfl (by first | rfl | simp only [go_sem]) rfl (by simp)).mono ?_)
  rintro _ _ ⟨_, _, ⟨rfl, rfl⟩, rfl, rfl⟩
  refine run_ok 4000 _ _ _ _ ?_
  simp (maxSteps := 10000000) only [go_sem]
  refine sem_call rfl rfl (((hw).embed [0, 1, 2] rfl (by repeat' first | exact trivial | rfl | (simp only [go_sem]; done) | constructor) rfl (by first | rfl | simp only [go_sem]) rfl (by simp)).mono ?_)
  rintro _ _ ⟨_, _, ⟨rfl, rfl⟩, rfl, rfl⟩
  refine run_ok 4000 _ _ _ _ ?_
  simp (maxSteps := 10000000) only [go_sem]
  refine ⟨_, _, .sub [] ?_ .done, rfl, rfl⟩
  simp only [EmbV, go_sem]
end Go.AEX

/- Door seat: VotePlays: boxes in front of more memory; a question more. -/
namespace Go.AEX
open Go Go.AE Go.Proofs
set_option maxRecDepth 100000
set_option linter.unusedVariables false
set_option linter.unusedSimpArgs false

def bN (S : Nat) (ep : Int) (O : Outr) (F : List Vts) : Mem := bM S ep O F
theorem bN_len (S : Nat) (ep : Int) (O : Outr) (F : List Vts) : (bN S ep O F).length = F.length + 1 + 1 := bM_len S ep O F
theorem bN_ids (S : Nat) (ep : Int) (O : Outr) (F : List Vts) (h : OkO O F) : idsM (bN S ep O F).length (bN S ep O F) = true := bM_ids S ep O F h
theorem bFront {f : FuncId} {args : List AV} {r : AV} {S S' : Nat} {ep ep' : Int} {O O' : Outr} {F F' : List Vts} (spec : Tri Tryd.prog f args (bM S ep O F) fun v m => v = r ∧ m = bM S' ep' O' F') (h : OkO O F) (h' : OkO O' F') (hl : F'.length = F.length)
    (ha : idss (F.length + 1 + 1) args = true) (hr : ids (F.length + 1 + 1) r = true) (ex : Mem) : Tri Tryd.prog f args (bN S ep O F ++ ex) fun v m => v = r ∧ m = bN S' ep' O' F' ++ ex :=
  spec.front ex (by rw [bM_len]; exact ha) (bM_ids S ep O F h) (bM_gone S ep O F) (by rw [bM_len, bM_len, hl]) (bM_idsn S' ep' O' F' h' _ (by rw [bM_len, hl]; exact Nat.le_refl _)) (by rw [bM_len]; exact hr)
theorem ob_setg : ∀ (O : Outr) (v : Int) (w : AV), og O v = none → mset (ob O) (.int .i64 v) w = ob O ++ [(.int .i64 v, w)]
  | [], v, w, _ => rfl
  | e :: O, v, w, h => by
    have h0 : kd IntKind.i64 IntKind.i64 = true := rfl
    simp only [og] at h
    by_cases c : v = e.1
    · rw [if_pos c] at h; cases h
    · rw [if_neg c] at h
      have : (v == e.1) = false := by simpa using c
      have ih := ob_setg O v w h
      unfold ob at ih
      simp only [ob, List.map_cons, List.cons_append, mset, keq, h0, Bool.true_and, this, cond_false, ih]
def bQ (S : Nat) (ep : Int) (O : Outr) (F : List Vts) (p : Int) (X Y : Blk) : Mem := vBox S ep :: .map (ob O ++ [(.int .i64 p, .map (F.length + 1 + 1 + 2))]) :: (vfam F ++ [X, Y, .map []])
theorem bask_newx (S : Nat) (hS : S < 4294967296) (ep : Int) (O : Outr) (F : List Vts) (hO : OkO O F) (p : Int) (h0 : p ≠ 0) (h : hasN S p = true) (ho : og O p = none) (X Y : Blk) :
    Tri Tryd.prog 8 [.pbox 0 0, .int .i64 p] (bN S ep O F ++ [X, Y]) (fun v m => v = .int .i64 0 ∧ m = bQ S ep O F p X Y) := by
  show Tri Tryd.prog 8 [.pbox 0 0, .int .i64 p] (vBox S ep :: .map (ob O) :: (vfam F ++ [X, Y])) _
  refine Tri.post ?_
  have e : (p == 0) = false := by simpa using h0
  have hh := r_has_spec S hS ep p
  rw [h] at hh
  have hb : Tri Tryd.prog 25 [.pbox 0 0, .int .i64 p] (vBox S ep :: .map (ob O) :: (vfam F ++ [X, Y])) (fun v m => v = .bool (og O p).isSome ∧ m = vBox S ep :: .map (ob O) :: (vfam F ++ [X, Y])) := (bopen_spec S ep O F p).front [X, Y] rfl (bM_ids S ep O F hO) (bM_gone S ep O F) rfl (bM_ids S ep O F hO) rfl
  rw [ho] at hb
  have hos := ob_setg O p (.map (F.length + 1 + 1 + 2)) ho
  have h5 := app_len (vfam F)
  have hn : F.length + 2 + 1 + 1 = F.length + 1 + 1 + 2 := rfl
  skip
  refine (Tri.enter (rl := r8) (code := c8) (by kernel_rfl) Tryd.func8 rfl c8_ok (by kernel_rfl) (by kernel_rfl) ?_)
  refine run_ok 4000 _ _ _ _ ?_
  simp (maxSteps := 10000000) only [go_sem, c8, r8, e, Option.isSome_none, h5, vfam_len, hn, hos, List.append_assoc, List.cons_append, List.nil_append]
  refine sem_call rfl rfl (((hh).embed [] rfl trivial rfl rfl rfl (by simp)).mono ?_)
  rintro _ _ ⟨_, _, ⟨rfl, rfl⟩, rfl, rfl⟩
  refine run_ok 4000 _ _ _ _ ?_
  simp (maxSteps := 10000000) only [go_sem, e, Option.isSome_none, h5, vfam_len, hn, hos, List.append_assoc, List.cons_append, List.nil_append]
  refine sem_call rfl rfl ((hb).mono ?_)
  rintro _ _ ⟨rfl, rfl⟩
  refine run_ok 4000 _ _ _ _ ?_
  simp (maxSteps := 10000000) only [go_sem, e, Option.isSome_none, h5, vfam_len, hn, hos, List.append_assoc, List.cons_append, List.nil_append]
  exact ⟨_, _, .done, rfl, rfl⟩
theorem mg_vfam (F : List Vts) (ex : Mem) {k : Nat} (h : k < F.length) : mg (vfam F ++ ex) k = .map (vb F[k]) := mg_front (vfam_get (List.getElem?_eq_getElem h)) rfl ex
theorem emb_ask {S : Nat} {ep : Int} {O : Outr} {F : List Vts} (hO : OkO O F) {p : Int} {X Y : Blk} (hX : ∀ n π N, idsB n X = true ∧ renB π N X = X) (hY : ∀ n π N, idsB n Y = true ∧ renB π N Y = Y) {t : Tr} {sl : List (Nat × AV)}
    (hs : idsT (F.length + 1 + 1 + 3) sl = true) (hT : embT (idl (F.length + 1 + 1) 0 ++ [F.length + 1 + 1 + 2, F.length + 1 + 1, F.length + 1 + 1 + 1]) (F.length + 1 + 1 + 3) t sl) :
    Emb 0 (idl (F.length + 1 + 1) 0 ++ [F.length + 1 + 1 + 2, F.length + 1 + 1, F.length + 1 + 1 + 1]) t (bQ S ep O F p X Y) sl (bN S ep (O ++ [(p, F.length)]) (F ++ [[]]) ++ [X, Y]) := by
  generalize hπ : idl (F.length + 1 + 1) 0 ++ [F.length + 1 + 1 + 2, F.length + 1 + 1, F.length + 1 + 1 + 1] = π at *
  have hlen : (bQ S ep O F p X Y).length = F.length + 1 + 1 + 3 := by simp [bQ, vfam_len]
  have r0 : ∀ N b, b < F.length + 1 + 1 → rid π N b = b := fun N b h => by rw [← hπ]; exact rid_pre h
  have r1 : ∀ N, rid π N (F.length + 1 + 1) = F.length + 1 + 1 + 2 := fun N => by rw [← hπ]; exact rid_post0
  have hO2 : OkO (O ++ [(p, F.length)]) (F ++ [[]]) := fun e he => by
    rw [List.length_append]
    rcases List.mem_append.1 he with he | he
    · have := hO e he; simp; omega
    · rw [List.mem_singleton.1 he]; simp
  have hl2 : (bN S ep (O ++ [(p, F.length)]) (F ++ [[]]) ++ [X, Y]).length = F.length + 1 + 1 + 3 := by
    rw [List.length_append, bN_len]; simp
  refine ⟨?_, by rw [hlen]; exact hT, ?_⟩
  · have h1 : idsM (F.length + 1 + 1 + 3) (bN S ep (O ++ [(p, F.length)]) (F ++ [[]]) ++ [X, Y]) = true := by
      rw [idsM_appE]
      have := bM_idsn S ep (O ++ [(p, F.length)]) (F ++ [[]]) hO2 (F.length + 1 + 1 + 3) (by simp)
      rw [show bN S ep (O ++ [(p, F.length)]) (F ++ [[]]) = bM S ep (O ++ [(p, F.length)]) (F ++ [[]]) from rfl, this]
      simp only [idsM, (hX _ [] 0).1, (hY _ [] 0).1, Bool.and_true]
    have h2 : nodupN π = true := by
      rw [← hπ]
      refine nodup_app _ _ ?_ ?_
      · simp [nodupN]
      · intro q hq; simp at hq; omega
    have h3 : below (F.length + 1 + 1 + 3) π = true := by
      rw [← hπ]
      refine below_app _ _ (by omega) ?_
      simp only [below, Bool.and_true, Bool.and_eq_true]
      exact ⟨Nat.blt_eq.mpr (by omega), Nat.blt_eq.mpr (by omega), Nat.blt_eq.mpr (by omega)⟩
    simp only [chk, hl2, hlen, hs, h1, h2, h3, fixed, Bool.and_self]
  · rw [hlen]
    have hob : ∀ O' : Outr, (∀ e ∈ O', e.2 < F.length) → renP π (F.length + 1 + 1 + 3) (ob O') = ob O' := by
      intro O'
      induction O' with
      | nil => intro _; rfl
      | cons e O' ih =>
        intro h
        have := ih fun x hx => h x (by simp [hx])
        unfold ob at this ⊢
        simp only [List.map_cons, renP, ren, this]
        rw [r0 _ _ (by have := h e (by simp); omega)]
    have hrP : renP π (F.length + 1 + 1 + 3) (ob (O ++ [(p, F.length)])) = ob O ++ [(.int .i64 p, .map (F.length + 1 + 1 + 2))] := by
      have e : ob (O ++ [(p, F.length)]) = ob O ++ [(.int .i64 p, .map (F.length + 1 + 1))] := by simp [ob]
      rw [e]
      have : ∀ (a b : List (AV × AV)), renP π (F.length + 1 + 1 + 3) (a ++ b) = renP π (F.length + 1 + 1 + 3) a ++ renP π (F.length + 1 + 1 + 3) b := by
        intro a b
        induction a with
        | nil => rfl
        | cons x a ih => simp only [List.cons_append, renP, ih]
      rw [this, hob O hO]
      simp only [renP, ren, r1]
    have hvf : ∀ (k i : Nat), i + k = F.length → embM π (F.length + 1 + 1 + 3) (bQ S ep O F p X Y) (idl k (i + 1 + 1)) (vfam (F.drop i)) := by
      intro k
      induction k with
      | zero => intro i hi; rw [List.drop_eq_nil_of_le (by omega)]; exact trivial
      | succ k ih =>
        intro i hi
        rw [List.drop_eq_getElem_cons (show i < F.length by omega)]
        simp only [idl, vfam, List.map_cons]
        refine ⟨?_, ih (i + 1) (by omega)⟩
        show mg (vfam F ++ _) i = _
        rw [mg_vfam F _ (by omega)]
        simp only [renB, vb_ren]
    have key : π = 0 :: 1 :: (idl F.length (0 + 1 + 1) ++ [F.length + 1 + 1 + 2, F.length + 1 + 1, F.length + 1 + 1 + 1]) := by rw [← hπ]; rfl
    have hmem : bN S ep (O ++ [(p, F.length)]) (F ++ [[]]) ++ [X, Y] = vBox S ep :: .map (ob (O ++ [(p, F.length)])) :: (vfam (F.drop 0) ++ [.map [], X, Y]) := by
      simp [bN, vfam, vb]
    have hbk : ∀ j, mg (bQ S ep O F p X Y) (F.length + 1 + 1 + j) = mg [X, Y, .map []] j := fun j => by
      rw [show F.length + 1 + 1 + j = (F.length + j) + 1 + 1 by omega]
      show mg (vfam F ++ _) (F.length + j) = _
      rw [← vfam_len F, mg_app]
    have hfin : embM π (F.length + 1 + 1 + 3) (bQ S ep O F p X Y) [F.length + 1 + 1 + 2, F.length + 1 + 1, F.length + 1 + 1 + 1] [.map [], X, Y] := by
      refine ⟨by rw [hbk]; rfl, ?_⟩
      have hx : mg (bQ S ep O F p X Y) (F.length + 1 + 1) = renB π (F.length + 1 + 1 + 3) X := by rw [(hX 0 _ _).2]; exact hbk 0
      have hy : mg (bQ S ep O F p X Y) (F.length + 1 + 1 + 1) = renB π (F.length + 1 + 1 + 3) Y := by rw [(hY 0 _ _).2]; exact hbk 1
      have h2 : embM π (F.length + 1 + 1 + 3) (bQ S ep O F p X Y) [F.length + 1 + 1 + 1] [Y] := by
        cases Y <;> first | exact trivial | exact ⟨hy, trivial⟩
      cases X <;> first | exact h2 | exact ⟨hx, h2⟩
    rw [hmem]
    have hπ2 := key
    have goal2 : embM π (F.length + 1 + 1 + 3) (bQ S ep O F p X Y) (0 :: 1 :: (idl F.length (0 + 1 + 1) ++ [F.length + 1 + 1 + 2, F.length + 1 + 1, F.length + 1 + 1 + 1])) (vBox S ep :: .map (ob (O ++ [(p, F.length)])) :: (vfam (F.drop 0) ++ [.map [], X, Y])) := by
      refine ⟨?_, ?_, ?_⟩
      · simp only [renB, rens, ren, r0 _ 1 (by omega)]; rfl
      · simp only [renB, hrP]; rfl
      · exact embM_app (by rw [idl_len, vfam_len]; simp) (hvf F.length 0 (by omega)) hfin
    rw [← key] at goal2
    exact goal2
end Go.AEX

/- Door seat: VotePlays: the state of its loop; its tail. -/
namespace Go.AEX
open Go Go.AE Go.Proofs
set_option maxRecDepth 100000
set_option linter.unusedVariables false
set_option linter.unusedSimpArgs false

abbrev Ac := Int × Int × Int × Bool × Int × Int × List Int
def arow (a : Ac) : List AV := [.int .i64 a.1, .int .i64 a.2.1, .int .i64 a.2.2.1, .bsym a.2.2.2.1, .int .i64 a.2.2.2.2.1, .int .i64 a.2.2.2.2.2.1, .vsl 1 (iv .i64 a.2.2.2.2.2.2) false]
def arows (l : List Ac) : List (List AV) := l.map arow
theorem arows_len (l : List Ac) : (arows l).length = l.length := by simp [arows]
theorem arows_get {l : List Ac} {i : Nat} (h : i < l.length) : (arows l)[i]? = some (arow l[i]) := by simp [arows, h]
theorem arows_facts {l : List Ac} {i : Nat} (h : i < l.length) : (hasI .i64 (arows l) i 0 ∧ hasI .i64 (arows l) i 1 ∧ hasI .i64 (arows l) i 2 ∧ hasB (arows l) i 3 ∧ hasI .i64 (arows l) i 4 ∧ hasI .i64 (arows l) i 5 ∧ hasA (arows l) i 6) ∧
    rint (arows l) i 0 = l[i].1 ∧ rint (arows l) i 1 = l[i].2.1 ∧ rint (arows l) i 2 = l[i].2.2.1 ∧ rbool (arows l) i 3 = l[i].2.2.2.1 ∧ rint (arows l) i 4 = l[i].2.2.2.2.1 ∧ rint (arows l) i 5 = l[i].2.2.2.2.2.1 ∧ rany (arows l) i 6 = .vsl 1 (iv .i64 l[i].2.2.2.2.2.2) false := by
  have g := arows_get h
  refine ⟨⟨⟨_, _, g, rfl⟩, ⟨_, _, g, rfl⟩, ⟨_, _, g, rfl⟩, ⟨_, _, g, .inr rfl⟩, ⟨_, _, g, rfl⟩, ⟨_, _, g, rfl⟩, ⟨_, _, g, rfl⟩⟩, ?_⟩
  refine ⟨?_, ?_, ?_, ?_, ?_, ?_, ?_⟩ <;> simp [rint, rbool, rany, List.getD_eq_getElem?_getD, g, arow]
abbrev PX := Nat × Int × Outr × List Vts × List Int × List Wd
structure PJ (i : Nat) (x : PX) : Prop where
  hS : x.1 < 4294967296
  he : 0 ≤ x.2.1 ∧ x.2.1 ≤ 10 * i
  vi : VI x.1 x.2.2.2.2.1 x.2.2.2.2.2
  vf : VF x.2.2.1 x.2.2.2.1 x.2.2.2.2.1 x.2.2.2.2.2
  hL : x.2.2.2.2.2.length ≤ i
abbrev pM (x : PX) : Mem := bN x.1 x.2.1 x.2.2.1 x.2.2.2.1 ++ [xBox (allN x.1 32) x.2.1 x.2.2.2.2.1 x.2.2.2.2.2]
theorem PJ.op {i : Nat} {x : PX} (h : PJ i x) : x.2.2.2.2.1.length ≤ 32 := r_pigeon 32 _ (-1) h.vi.nd fun v hv => by have := hasN_rg (h.vi.op v hv).1; omega
theorem PJ.ids {i : Nat} {x : PX} (h : PJ i x) : idsM (pM x).length (pM x) = true := idsM_front (bN_ids _ _ _ _ h.vf.okO) (by simp only [idsM, idsB, idss, Go.AE.ids, Bool.and_true, Bool.true_and])
theorem pM_len (x : PX) : (pM x).length = x.2.2.2.1.length + 1 + 1 + 1 := by simp [pM, bN_len]
theorem cutT {P : Program} {n k0 : Nat} {α : Type} (J : α → Prop) (sl : α → List (Nat × AV)) (mm : α → Mem) {k : List C} {Q : Exit → Tr → Mem → Prop} {S : Prop} (h : (∀ x, J x → SemW P n k0 k (mkP (sl x)) (mm x) Q) → S)
    (ht : ∀ x, J x → SemW P n k0 k (mkP (sl x)) (mm x) Q) : S := h ht
theorem withF_ok : ∀ (l : List Chg) (S : Nat) (ep : Int), S < 4294967296 → ∀ x, (withF S ep l).1 = some x → x.1 < 4294967296 ∧ x.2 = ep + l.length
  | [], S, ep, h, x, e => by
    simp only [withF, Option.some.injEq] at e
    subst e
    exact ⟨h, by simp⟩
  | c :: l, S, ep, h, x, e => by
    simp only [withF] at e
    by_cases z : chkF S c = 0
    · rw [if_neg (by simp [z])] at e
      obtain ⟨h1, h2⟩ := withF_ok l _ _ (flipS_lt h (chkF_rg z)) x e
      refine ⟨h1, ?_⟩
      rw [h2]; simp only [List.length_cons]; omega
    · rw [if_pos z] at e; cases e
theorem with_out (S : Nat) (hS : S < 4294967296) (ep : Int) (l : List Chg) : ∃ (S2 : Nat) (ep2 E : Int), withR S ep l = .tup [ros S2 ep2, .int .i64 E] ∧ refR S ep l = .tup [rr (allN S2 32) false ep2, .int .i64 E] ∧ S2 < 4294967296 ∧ (ep ≤ ep2 ∧ ep2 ≤ ep + l.length) := by
  have h := withF_ok l S ep hS
  unfold withR refR
  generalize withF S ep l = w at *
  obtain ⟨r, E⟩ := w
  cases r with
  | none => exact ⟨S, ep, E, rfl, rfl, hS, by omega, by omega⟩
  | some x => exact ⟨x.1, x.2, E, rfl, rfl, (h x rfl).1, by have := (h x rfl).2; omega, by have := (h x rfl).2; omega⟩
def endS (acs : List Ac) (i : Nat) (y : PX) : List (Nat × AV) := [(1, .vsl 7 (arows acs) false), (5, .pbox 0 0), (6, .pbox (y.2.2.2.1.length + 1 + 1) 0), (7, .int .i64 (i : Nat)), (135, .bool false), (136, .pbox 0 0), (137, rbox (allN y.1 32) y.2.1 y.2.2.2.2.1 y.2.2.2.2.2)]
theorem sem_end {P : Program} {n : Nat} {k : List C} {t : Tr} {Q : Exit → Tr → Mem → Prop} {acs : List Ac} {i : Nat} (hX : ∀ y : PX, PJ (i + 1) y → SemW P n 0 k (mkP (endS acs i y)) (pM y) Q) (S : Nat) (ep : Int) (O : Outr) (F : List Vts) (Open : List Int) (L : List Wd)
    (hy : PJ (i + 1) (S, ep, O, F, Open, L)) (ex : Mem) (he : embT0 t (endS acs i (S, ep, O, F, Open, L))) : SemW P n 0 k t (bN S ep O F ++ (xBox (allN S 32) ep Open L :: ex)) Q := by
  have := sem_sub1 (m := pM (S, ep, O, F, Open, L)) ex (endS acs i (S, ep, O, F, Open, L)) hy.ids (Nat.zero_le _) (by simp [endS, idsT, Go.AE.ids, idss, pM_len, bN_len]) he (hX _ hy)
  simp only [pM, List.append_assoc, List.cons_append, List.nil_append] at this
  exact this
theorem fr0 {A : Mem} {n : Nat} (h : A.length = n) (x : Blk) (ex : Mem) : mg (A ++ x :: ex) n = mg (x :: ex) 0 := by subst h; exact mg_app0 A _
theorem fr1 {A : Mem} {n : Nat} (h : A.length = n) (x : Blk) (ex : Mem) (j : Nat) : mg (A ++ x :: ex) (n + j) = mg (x :: ex) j := by subst h; exact mg_app A _ j
theorem fr2 {A : Mem} {n : Nat} (h : A.length = n) (x : Blk) (ex : Mem) (y : Blk) : ms (A ++ x :: ex) n y = A ++ ms (x :: ex) 0 y := by subst h; exact ms_app0 A _ y
theorem fr3 {A : Mem} {n : Nat} (h : A.length = n) (x : Blk) (ex : Mem) (j : Nat) (y : Blk) : ms (A ++ x :: ex) (n + j) y = A ++ ms (x :: ex) j y := by subst h; exact ms_app A _ j y
theorem fr4 {A : Mem} {n : Nat} (h : A.length = n) (x : Blk) (ex : Mem) : (A ++ x :: ex).length = n + (x :: ex).length := by subst h; exact List.length_append
theorem hasN_in {S : Nat} {q : Int} (h : 0 ≤ q ∧ q < 32) : hasN S q = S.testBit q.toNat := by unfold hasN; simp [h.1, h.2]
theorem hasN_ofN : ∀ (ps : List Int) (S : Nat) (q : Int), 0 ≤ q ∧ q < 32 → hasN (ofN ps S) q = (hasN S q || decide (q ∈ ps))
  | [], S, q, _ => by simp [ofN]
  | p :: ps, S, q, h => by
    simp only [ofN]
    rw [hasN_ofN ps _ q h]
    by_cases c : 0 ≤ p ∧ p < 32
    · rw [if_pos c, hasN_in h, hasN_in h, Nat.testBit_or, Nat.testBit_two_pow, Bool.or_assoc]
      congr 1
      rw [Bool.eq_iff_iff]
      simp only [Bool.or_eq_true, decide_eq_true_eq, List.mem_cons]
      constructor
      · rintro (e | e)
        · left; omega
        · exact .inr e
      · rintro (e | e)
        · left; rw [e]
        · exact .inr e
    · rw [if_neg c]
      congr 1
      rw [Bool.eq_iff_iff]
      simp only [decide_eq_true_eq, List.mem_cons]
      constructor
      · exact .inr
      · rintro (e | e)
        · exact absurd (e ▸ h) c
        · exact e
theorem ofL_ofN (ps : List Int) : ofL ps 32 = allN (ofN ps 0) 32 := by
  unfold ofL allN
  refine List.filter_congr fun q hq => ?_
  obtain ⟨k, hk, rfl⟩ := List.mem_map.1 hq
  have := List.mem_range.1 hk
  have h0 : (0 : Int) ≤ Int.ofNat k ∧ Int.ofNat k < 32 := by simp only [Int.ofNat_eq_natCast]; omega
  rw [hasN_ofN ps 0 _ h0, hasN_in h0]
  simp
theorem ofN_lt : ∀ (ps : List Int) (S : Nat), S < 4294967296 → ofN ps S < 4294967296
  | [], S, h => h
  | p :: ps, S, h => by
    simp only [ofN]
    refine ofN_lt ps _ ?_
    split
    · exact or_lt h (by omega)
    · exact h
end Go.AEX
