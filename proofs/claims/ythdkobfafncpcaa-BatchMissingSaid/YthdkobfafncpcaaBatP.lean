/- BatO, BatQ, BatP in one. -/
import Derived.Test.YthdkobfafncpcaaBatN
import Derived.Test.YthdkobfafncpcaaAEzp
import Derived.Test.YthdkobfafncpcaaVoteS
/- Batch: a table behind other blocks; who hasn't given is told. -/
namespace Go.AEX
open Go Go.AE Go.Proofs
set_option maxRecDepth 100000
set_option linter.unusedVariables false
set_option linter.unusedSimpArgs false

def tS (d : Nat) (nx : Int) (O : Outr) (F : List Inn) : Mem := renM [] d (tM nx O F)
theorem tS_len (d : Nat) (nx : Int) (O : Outr) (F : List Inn) : (tS d nx O F).length = F.length + 1 + 1 := by unfold tS; rw [renM_len, tM_len]
theorem tS_ids {d : Nat} {nx : Int} {O : Outr} {F : List Inn} (h : OkO O F) (n : Nat) (hn : d + (F.length + 1 + 1) ≤ n) : idsM n (tS d nx O F) = true :=
  idsM_mono hn (idsM_sh (tM_ids nx O F h _ (Nat.le_refl _)))
theorem tS_new (d : Nat) (nx : Int) : tS d nx [] [] = [.box [.int .i64 nx, .map (d + 1)], .map []] := rfl
theorem tBeh {f : FuncId} {args : List AV} {nx nx' : Int} {O : Outr} {F : List Inn} {g g' : Int → List (List Ord)} {r : AV} (pre : Mem) (h : TOk nx O F g)
    (spec : Tri Try.prog f args (tM nx O F) fun v m => v = r ∧ ∃ O' F', TOk nx' O' F' g' ∧ m = tM nx' O' F') (ha : idss 1 args = true) (hr : ren [] pre.length r = r) :
    Tri Try.prog f (rens [] pre.length args) (pre ++ tS pre.length nx O F) fun v m => v = r ∧ ∃ O' F', TOk nx' O' F' g' ∧ m = pre ++ tS pre.length nx' O' F' := by
  refine (spec.behind pre (idss_mono (by rw [tM_len]; omega) ha) (tM_ids nx O F h.okO _ (by rw [tM_len]; exact Nat.le_refl _)) (tM_gone nx O F)).mono ?_
  rintro _ _ ⟨_, _, ⟨rfl, O', F', h', rfl⟩, rfl, rfl⟩
  exact ⟨hr, O', F', h', rfl⟩
theorem tBehS {f : FuncId} {args : List AV} {nx : Int} {O : Outr} {F : List Inn} {g : Int → List (List Ord)} {r : AV} (pre : Mem) (h : TOk nx O F g)
    (spec : Tri Try.prog f args (tM nx O F) fun v m => v = r ∧ m = tM nx O F) (ha : idss 1 args = true) (hr : ren [] pre.length r = r) :
    Tri Try.prog f (rens [] pre.length args) (pre ++ tS pre.length nx O F) fun v m => v = r ∧ m = pre ++ tS pre.length nx O F := by
  refine (spec.behind pre (idss_mono (by rw [tM_len]; omega) ha) (tM_ids nx O F h.okO _ (by rw [tM_len]; exact Nat.le_refl _)) (tM_gone nx O F)).mono ?_
  rintro _ _ ⟨_, _, ⟨rfl, rfl⟩, rfl, rfl⟩
  exact ⟨hr, rfl⟩
def hb (G : List Int) : List (AV × AV) := G.map fun p => (.int .i64 p, .int .i64 1)
theorem hb_ok (G : List Int) (v : Int) : keysOk (hb G) (.int .i64 v) := by
  induction G with
  | nil => trivial
  | cons p M ih => exact ⟨rfl, ih⟩
theorem hb_find : ∀ (G : List Int) (v : Int), mfind (hb G) (.int .i64 v) = if v ∈ G then some (.int .i64 1) else none
  | [], v => rfl
  | p :: G, v => by
    have e : kd IntKind.i64 IntKind.i64 = true := rfl
    have ih := hb_find G v
    unfold hb at ih
    simp only [hb, List.map_cons, mfind, keq, e, Bool.true_and, ih, List.mem_cons]
    by_cases c : v = p
    · simp [c]
    · have : (v == p) = false := by simpa using c
      simp [this, c]
theorem hb_val (G : List Int) (v : Int) : valI .i64 (hb G) (.int .i64 v) := by
  intro u hu
  rw [hb_find] at hu
  split at hu
  · cases hu; exact ⟨1, rfl⟩
  · cases hu
theorem hb_int (G : List Int) (v : Int) : mint (hb G) (.int .i64 v) = if v ∈ G then 1 else 0 := by
  unfold mint; rw [hb_find]
  by_cases h : v ∈ G
  · simp only [if_pos h]
  · simp only [if_neg h]
theorem hb_set : ∀ (G : List Int) (v : Int), v ∉ G → mset (hb G) (.int .i64 v) (.int .i64 1) = hb (G ++ [v])
  | [], v, _ => rfl
  | p :: G, v, h => by
    have e : kd IntKind.i64 IntKind.i64 = true := rfl
    simp only [List.mem_cons, not_or] at h
    have ih := hb_set G v h.2
    unfold hb at ih
    have : (v == p) = false := by simpa using h.1
    simp only [hb, List.map_cons, List.cons_append, mset, keq, e, Bool.true_and, this, cond_false, ih]
theorem hb_ids (n : Nat) : ∀ (G : List Int), idsP n (hb G) = true
  | [] => rfl
  | p :: G => by have := hb_ids n G; unfold hb at this; simp only [hb, List.map_cons, idsP, ids, this, Bool.and_self]
end Go.AEX

/- Batch: the players of a table to which nobody has given anything. -/
namespace Go.AEX
open Go Go.AE Go.Proofs
set_option maxRecDepth 100000
set_option linter.unusedVariables false
set_option linter.unusedSimpArgs false

/-! nobody has given anything -/
theorem pkeys_spec (es : List (AV × AV)) : Tri Try.prog 45 [.map 0] [.map es] (fun v m => v = .fn 58 [] [.pbox 1 0] ∧ m = [.map es, .box [.map 0]]) := by
  refine Tri.post ?_
  refine (Tri.enter (rl := r45) (code := c45) (by kernel_rfl) Try.func45 rfl c45_ok (by kernel_rfl) (by kernel_rfl) ?_)
  refine run_ok 4000 _ _ _ _ ?_
  simp (maxSteps := 10000000) only [go_sem, c45, r45]
  exact ⟨_, _, .done, rfl, rfl⟩
theorem psorted_spec : Tri Try.prog 44 [.fn 58 [] [.pbox 0 0]] [.box [.map 1], .map []]
    (fun v m => v = .sl 2 0 0 0 false ∧ m = [.box [.map 1], .map [], .row 1 []]) := by
  have h := tri_sorted (P := Try.prog) (es := []) (by kernel_rfl) TryL.says45 Try.underlying3 [] rfl (by simp) (by simp) (by simp)
  rw [show sortI [] = [] from List.mergeSort_of_pairwise (by simp)] at h
  exact h
theorem players0_spec (nx : Int) : Tri Try.prog 30 [.pbox 0 0] [.box [.int .i64 nx, .map 1], .map []] (fun v m => v = .vsl 1 [] false ∧ m = [.box [.int .i64 nx, .map 1], .map []]) := by
  refine Tri.post ?_
  have h1 := pkeys_spec []
  have h2 := psorted_spec
  refine (Tri.enter (rl := r30) (code := c30) (by kernel_rfl) Try.func30 rfl c30_ok (by kernel_rfl) (by kernel_rfl) ?_)
  refine run_ok 4000 _ _ _ _ ?_
  simp (maxSteps := 10000000) only [go_sem, c30, r30]
  refine sem_call rfl rfl (((h1).embed [1] rfl (by repeat' first | exact trivial | rfl | (simp only [go_sem]; done) | constructor) rfl (by first | rfl | simp only [go_sem]) rfl (by simp)).mono ?_)
  rintro _ _ ⟨_, _, ⟨rfl, rfl⟩, rfl, rfl⟩
  refine run_ok 4000 _ _ _ _ ?_
  simp (maxSteps := 10000000) only [go_sem]
  refine sem_call rfl rfl (((h2).embed [2, 1] rfl (by repeat' first | exact trivial | rfl | (simp only [go_sem]; done) | constructor) rfl (by first | rfl | simp only [go_sem]) rfl (by simp)).mono ?_)
  rintro _ _ ⟨_, _, ⟨rfl, rfl⟩, rfl, rfl⟩
  refine run_ok 4000 _ _ _ _ ?_
  simp (maxSteps := 10000000) only [go_sem]
  refine ⟨_, _, .fz 3 rfl (by simp [go_sem]) (.sub [0, 1] ?_ .done), rfl, rfl⟩
  simp only [EmbV, go_sem]
  try rfl
theorem playersT {nx : Int} {O : Outr} {F : List Inn} {g : Int → List (List Ord)} (h : TOk nx O F g) (hg : ∀ p, g p = []) : Tri Try.prog 30 [.pbox 0 0] (tM nx O F) (fun v m => v = .vsl 1 [] false ∧ m = tM nx O F) := by
  obtain rfl : O = [] := by
    cases O with
    | nil => rfl
    | cons e O => exact absurd (hg e.1) (h.ok e.1 e.2 (by simp)).2
  exact (players0_spec nx).front (fam F) rfl rfl (by simp) rfl rfl rfl
end Go.AEX

/- Batch: who hasn't given is told (BatchMissing). -/
namespace Go.AEX
open Go Go.AE Go.Proofs
set_option maxRecDepth 100000
set_option linter.unusedVariables false
set_option linter.unusedSimpArgs false

def gL (G : List Int) : Int → List (List Ord) := fun q => if q ∈ G then [[]] else []
theorem gL_push {G : List Int} {p : Int} (h : p ∉ G) : upd (gL G) p (gL G p ++ [[]]) = gL (G ++ [p]) := by
  funext q
  by_cases e : q = p
  · subst e; simp [upd, gL, h]
  · simp [upd, gL, e]
theorem gL_has (G : List Int) (x : Int) : hasB' (gL G) x = decide (x ∈ G) := by
  unfold hasB' gL; by_cases h : x ∈ G <;> simp [h]
theorem gL_len {G : List Int} {p : Int} (h : p ∉ G) : (gL G p).length = 0 := by simp [gL, h]
theorem filt_at {α : Type} (P : α → Bool) {l : List α} {k : Nat} (h : k < l.length) (hp : P l[k] = true) : (l.filter P)[((l.take k).filter P).length]? = some l[k] := by
  have e : l = l.take k ++ l[k] :: l.drop (k + 1) := by rw [List.getElem_cons_drop, List.take_append_drop]
  conv => lhs; rw [e]
  rw [List.filter_append, List.filter_cons, if_pos hp]
  rw [List.getElem?_append_right (by simp [List.take_append_of_le_length, Nat.min_eq_left (Nat.le_of_lt h)])]
  simp [Nat.min_eq_left (Nat.le_of_lt h)]
theorem filt_succ {α : Type} (P : α → Bool) {l : List α} {k : Nat} (h : k < l.length) : (l.take (k + 1)).filter P = (l.take k).filter P ++ if P l[k] = true then [l[k]] else [] := by
  rw [List.take_succ_eq_append_getElem h, List.filter_append, List.filter_cons, List.filter_nil]
abbrev mS (G : List Int) (nx : Int) (O : Outr) (F : List Inn) : Mem := [.map (hb G)] ++ tS 1 nx O F
theorem mS_len (G : List Int) (nx : Int) (O : Outr) (F : List Inn) : (mS G nx O F).length = F.length + 1 + 1 + 1 := by simp [tS_len]
theorem mS_ids {G : List Int} {nx : Int} {O : Outr} {F : List Inn} (h : OkO O F) : idsM (mS G nx O F).length (mS G nx O F) = true := by
  rw [mS_len]
  show (idsP _ (hb G) && idsM _ (tS 1 nx O F)) = true
  rw [hb_ids, tS_ids h _ (by omega)]; rfl
theorem mBeh {f : FuncId} {args args' : List AV} {nx nx' : Int} {O : Outr} {F : List Inn} {g g' : Int → List (List Ord)} {r : AV} (G : List Int) (h : TOk nx O F g)
    (spec : Tri Try.prog f args (tM nx O F) fun v m => v = r ∧ ∃ O' F', TOk nx' O' F' g' ∧ m = tM nx' O' F') (hargs : rens [] 1 args = args') (ha : idss 1 args = true) (hr : ren [] 1 r = r) :
    Tri Try.prog f args' (mS G nx O F) fun v m => v = r ∧ ∃ O' F', TOk nx' O' F' g' ∧ m = mS G nx' O' F' := by
  subst hargs
  exact tBeh [.map (hb G)] h spec ha hr
theorem mBehS {f : FuncId} {args args' : List AV} {nx : Int} {O : Outr} {F : List Inn} {g : Int → List (List Ord)} {r : AV} (G : List Int) (h : TOk nx O F g)
    (spec : Tri Try.prog f args (tM nx O F) fun v m => v = r ∧ m = tM nx O F) (hargs : rens [] 1 args = args') (ha : idss 1 args = true) (hr : ren [] 1 r = r) :
    Tri Try.prog f args' (mS G nx O F) fun v m => v = r ∧ m = mS G nx O F := by
  subst hargs
  exact tBehS [.map (hb G)] h spec ha hr
theorem take_succ_mem {R : List Int} (hn : R.Nodup) {i : Nat} (h : i < R.length) : R[i] ∉ R.take i := by
  intro hm
  obtain ⟨j, hj, e⟩ := List.getElem_of_mem hm
  rw [List.length_take] at hj
  rw [List.getElem_take] at e
  have := (List.getElem_inj hn).1 e
  omega
theorem missing_core (l1 l2 : List Int) : Tri Try.prog 6 [.vsl 1 (iv .i64 l1) false, .vsl 1 (iv .i64 l2) false] [] (fun v m => v = .bool true) := by
  refine Tri.post ?_
  refine (Tri.enter (rl := r6) (code := c6) (by kernel_rfl) Try.func6 rfl c6_ok (by kernel_rfl) (by kernel_rfl) ?_)
  refine run_ok 4000 _ _ _ _ ?_
  simp (maxSteps := 10000000) only [go_sem, c6, r6]
  refine sem_call rfl rfl (((awake16_spec).embed [] rfl trivial rfl rfl rfl (by simp)).mono ?_)
  rintro _ _ ⟨_, _, ⟨rfl, rfl⟩, rfl, rfl⟩
  refine run_ok 4000 _ _ _ _ ?_
  simp (maxSteps := 10000000) only [go_sem]
  refine sem_call rfl rfl ((tnew_spec 0).mono ?_)
  rintro _ _ ⟨rfl, rfl⟩
  refine run_ok 4000 _ _ _ _ ?_
  simp (maxSteps := 10000000) only [go_sem]
  refine sem_sub (sl := [(0, .vsl 1 (iv .i64 l1) false), (1, .vsl 1 (iv .i64 l2) false), (5, .pbox 1 0), (6, .map 0), (24, .vsl 1 (iv .i64 l1) false)]) (m2 := mS [] 0 [] []) [2, 0, 1] ?_ ?_
  · simp only [Emb, go_sem, mS, tS_new, hb, List.map_nil, ob, fam]
  simp (maxSteps := 10000000) only [go_sem]
  refine sem_call rfl rfl (((rising_spec l1 false).embed [] rfl (by repeat' first | exact trivial | rfl | (simp only [go_sem]; done) | constructor) rfl (by first | rfl | simp only [go_sem]) rfl (by simp)).mono ?_)
  rintro _ _ ⟨_, _, ⟨R, hR, rfl, rfl⟩, rfl, rfl⟩
  refine run_ok 4000 _ _ _ _ ?_
  simp (maxSteps := 10000000) only [go_sem]
  have hRl := hR.len
  refine sem_roundsJ (fun x : Nat × Outr × List Inn => x.1 ≤ R.length ∧ TOk 0 x.2.1 x.2.2 (gL (R.take x.1)))
    (fun x => [(1, .vsl 1 (iv .i64 l2) false), (5, .pbox 1 0), (6, .map 0), (25, .vsl 1 (iv .i64 R) false), (26, .int .i64 R.length), (27, .int .i64 (x.1 : Nat))])
    (fun x => mS (R.take x.1) 0 x.2.1 x.2.2) (fun x => R.length - x.1) (0, [], []) ?_ ?_ ?_ ⟨Nat.zero_le _, ?_⟩ ?_ ?_
  · intro x hx; exact mS_ids hx.2.okO
  · intro x hx; rw [mS_len]; omega
  · intro x hx; simp [idsT, ids, tS_len]
  · have := TOk.new 0; rwa [show (fun _ => []) = gL (R.take 0) by funext p; simp [gL]] at this
  · simp [go_sem, iv_len]
  rintro ⟨i, O, F⟩ ⟨hi, hT⟩
  simp only at hi hT ⊢
  by_cases c : i < R.length
  · have hin : (i : Int) < (R.length : Int) := by omega
    have w4 := inc64 (show i < 1000000000000 by omega)
    have w5 : iwrap .i64 (0 + 1) = 1 := rfl
    have w6 : iwrap .i64 1 = 1 := rfl
    have hpn := take_succ_mem hR.nd c
    have hr := hR.lt R[i] (List.getElem_mem c)
    have r0 := iv_rint (k := .i64) c
    have h0 := iv_hasI (k := .i64) c
    have hnext : R.take (i + 1) = R.take i ++ [R[i]] := List.take_succ_eq_append_getElem c
    generalize R[i] = p at *
    generalize hG : R.take i = G at *
    have hp := mBeh G hT (putN hT p 0 (by rw [gL_len hpn]; rfl) (by omega) (by rw [gL_len hpn]; omega) (by omega)) rfl rfl rfl
    rw [gL_push hpn] at hp
    have m0 : mint (hb G) (.int .i64 p) = 0 := by rw [hb_int, if_neg hpn]
    have m1 := hb_set G p hpn
    skip
    refine run_ok 4000 _ _ _ _ ?_
    simp (maxSteps := 10000000) only [go_sem, hin, w4, w5, w6, r0, h0, m0, m1, hb_ok, hb_val, iv_len, Int.natCast_nonneg]
    refine sem_call rfl rfl ((hp).mono ?_)
    rintro _ _ ⟨rfl, O1, F1, h1, rfl⟩
    refine run_ok 4000 _ _ _ _ ?_
    simp (maxSteps := 10000000) only [go_sem, hin, w4, w5, w6, r0, h0, m0, m1, hb_ok, hb_val, iv_len, Int.natCast_nonneg]
    refine ⟨(i + 1, O1, F1), by simp only; omega, ⟨by simp only; omega, ?_⟩, rfl, [], ?_⟩
    · simp only [hnext]; exact h1
    · simp [hnext]
  have hin : ¬ (i : Int) < (R.length : Int) := by omega
  obtain rfl : i = R.length := by omega
  rw [List.take_length] at hT ⊢
  skip
  refine run_ok 4000 _ _ _ _ ?_
  simp (maxSteps := 10000000) only [go_sem, hin]
  refine run_ok 4000 _ _ _ _ ?_
  simp (maxSteps := 10000000) only [go_sem, hin]
  refine sem_call rfl rfl (((rising_spec l2 false).embed [] rfl (by repeat' first | exact trivial | rfl | (simp only [go_sem]; done) | constructor) rfl (by first | rfl | simp only [go_sem]) rfl (by simp)).mono ?_)
  rintro _ _ ⟨_, _, ⟨R2, hR2, rfl, rfl⟩, rfl, rfl⟩
  refine run_ok 4000 _ _ _ _ ?_
  simp (maxSteps := 10000000) only [go_sem, hin]
  have hRl2 := hR2.len
  have hms := mBehS R hT (missT hT R2 false (by omega)) rfl rfl rfl
  simp only [gL_has] at hms
  refine sem_call rfl rfl ((hms).mono ?_)
  rintro _ _ ⟨rfl, rfl⟩
  refine run_ok 4000 _ _ _ _ ?_
  simp (maxSteps := 10000000) only [go_sem, hin]
  generalize hMs : R2.filter (fun x => !decide (x ∈ R)) = Ms at *
  have hMl : Ms.length ≤ 8 := by rw [← hMs]; have := List.length_filter_le (fun x => !decide (x ∈ R)) R2; omega
  refine sem_rounds0 (m := mS R 0 O F) (fun k : Nat => k ≤ R2.length)
    (fun k => [(5, .pbox 1 0), (6, .map 0), (9, .vsl 1 (iv .i64 R2) false), (10, .vsl 1 (iv .i64 Ms) false), (11, .int .i64 (((R2.take k).filter fun x => !decide (x ∈ R)).length : Nat)), (45, .vsl 1 (iv .i64 R2) false), (46, .int .i64 R2.length), (47, .int .i64 (k : Nat))])
    (fun k => R2.length - k) 0 (mS_ids hT.okO) (by omega) (by intro k _; simp [idsT, ids, tS_len]) (Nat.zero_le _) ?_ ?_
  · simp [go_sem, iv_len]
  intro k hk
  have hnl : ((R2.take k).filter fun x => !decide (x ∈ R)).length ≤ 8 := by
    have := List.length_filter_le (fun x => !decide (x ∈ R)) (R2.take k); rw [List.length_take] at this; omega
  by_cases c : k < R2.length
  · have hin : (k : Int) < (R2.length : Int) := by omega
    have w4 := inc64 (show k < 1000000000000 by omega)
    have r0 := iv_rint (k := .i64) c
    have h0 := iv_hasI (k := .i64) c
    have hs := filt_succ (fun x => !decide (x ∈ R)) c
    by_cases e : R2[k] ∈ R
    · have m0 : mint (hb R) (.int .i64 R2[k]) = 1 := by rw [hb_int, if_pos e]
      have hs2 : ((R2.take (k + 1)).filter fun x => !decide (x ∈ R)).length = ((R2.take k).filter fun x => !decide (x ∈ R)).length := by rw [hs]; simp [e]
      generalize ((R2.take k).filter fun x => !decide (x ∈ R)).length = n at *
      generalize R2[k] = p at *
      have g1 : (1 : Int) > 0 := by omega
      skip
      refine run_ok 4000 _ _ _ _ ?_
      simp (maxSteps := 10000000) only [go_sem, hin, w4, r0, h0, m0, g1, hb_ok, hb_val, iv_len, Int.natCast_nonneg]
      refine ⟨k + 1, by omega, c, ?_, [], ?_⟩
      · simp [hs2]
      · simp
    · have m0 : mint (hb R) (.int .i64 R2[k]) = 0 := by rw [hb_int, if_neg e]
      have hs2 : (R2.take (k + 1)).filter (fun x => !decide (x ∈ R)) = (R2.take k).filter (fun x => !decide (x ∈ R)) ++ [R2[k]] := by rw [hs]; simp [e]
      have hat := filt_at (fun x => !decide (x ∈ R)) c (by simp [e])
      rw [hMs] at hat
      have hs3 : ((R2.take (k + 1)).filter fun x => !decide (x ∈ R)).length = ((R2.take k).filter fun x => !decide (x ∈ R)).length + 1 := by rw [hs2]; simp
      generalize ((R2.take k).filter fun x => !decide (x ∈ R)).length = n at *
      obtain ⟨hn1, hn2⟩ := List.getElem?_eq_some_iff.1 hat
      have q0 := iv_rint (k := .i64) hn1
      have q1 := iv_hasI (k := .i64) hn1
      rw [hn2] at q0
      have g1 : ¬ (0 : Int) > 0 := by omega
      have g2 : ¬ (n : Int) ≥ (Ms.length : Int) := by omega
      have g3 : (n : Int) < (Ms.length : Int) := by omega
      have w5 := inc64 (show n < 1000000000000 by omega)
      generalize R2[k] = p at *
      have g4 : (p != p) = false := by simp
      skip
      refine run_ok 4000 _ _ _ _ ?_
      simp (maxSteps := 10000000) only [go_sem, hin, w4, w5, r0, h0, m0, g1, g2, g3, g4, q0, q1, hb_ok, hb_val, iv_len, Int.natCast_nonneg]
      refine ⟨k + 1, by omega, c, ?_, [], ?_⟩
      · simp [hs3]
      · simp
  have hin : ¬ (k : Int) < (R2.length : Int) := by omega
  obtain rfl : k = R2.length := by omega
  rw [List.take_length, hMs]
  have b0 : ((Ms.length : Int) != (Ms.length : Int)) = false := by simp
  by_cases hall : ∀ p ∈ R2, p ∈ R
  · have hM0 : Ms = [] := by rw [← hMs, List.filter_eq_nil_iff]; intro p hp; simp [hall p hp]
    subst hM0
    have hty := mBeh R hT (takeYes hT R2 false (by omega) (by omega) (by intro p hp; simp [gL, hall p hp])) rfl rfl rfl
    skip
    refine run_ok 4000 _ _ _ _ ?_
    simp (maxSteps := 10000000) only [go_sem, hin, b0, iv_len]
    refine run_ok 4000 _ _ _ _ ?_
    simp (maxSteps := 10000000) only [go_sem, hin, b0, iv_len]
    refine sem_call rfl rfl ((hty).mono ?_)
    rintro _ _ ⟨rfl, O1, F1, h1, rfl⟩
    refine run_ok 4000 _ _ _ _ ?_
    simp (maxSteps := 10000000) only [go_sem, hin, b0, iv_len]
    have h1 : TOk 1 O1 F1 (fun p => (gL R p).tail) := h1
    have hg0 : ∀ p, (gL R p).tail = [] := fun p => by unfold gL; split <;> rfl
    have hnx := mBehS R h1 (nextT 1 O1 F1) rfl rfl rfl
    have hpl := mBehS R h1 (playersT h1 hg0) rfl rfl rfl
    refine sem_rounds0 (m := mS R 1 O1 F1) (fun _ : Unit => True) (fun _ => [(5, .pbox 1 0), (15, .bool true), (87, .int .i64 0), (88, .int .i64 0)]) (fun _ => 0) ()
      (mS_ids h1.okO) (by omega) (by intro k _; simp [idsT, ids, tS_len]) trivial ?_ ?_
    · simp [go_sem]
    intro _ _
    skip
    refine run_ok 4000 _ _ _ _ ?_
    simp (maxSteps := 10000000) only [go_sem]
    refine run_ok 4000 _ _ _ _ ?_
    simp (maxSteps := 10000000) only [go_sem]
    refine sem_call rfl rfl ((hnx).mono ?_)
    rintro _ _ ⟨rfl, rfl⟩
    refine run_ok 4000 _ _ _ _ ?_
    simp (maxSteps := 10000000) only [go_sem]
    refine sem_call rfl rfl ((hpl).mono ?_)
    rintro _ _ ⟨rfl, rfl⟩
    refine run_ok 4000 _ _ _ _ ?_
    simp (maxSteps := 10000000) only [go_sem]
    refine ⟨_, [], .like (Like.bool true) (.sub [] ?_ .done), rfl⟩
    simp only [EmbV, go_sem]
  · have hex : ∃ p ∈ R2, gL R p = [] := by
      simp only [Classical.not_forall] at hall
      obtain ⟨p, hp, hn⟩ := hall
      exact ⟨p, hp, by simp [gL, hn]⟩
    have hMpos : 0 < Ms.length := by
      obtain ⟨p, hp, hn⟩ := hex
      rw [← hMs]
      refine List.length_pos_of_mem (List.mem_filter.2 ⟨hp, ?_⟩)
      by_cases h : p ∈ R
      · simp [gL, h] at hn
      · simp [h]
    have htn := mBehS R hT (takeNo hT R2 false (by omega) hex) rfl rfl rfl
    have z0 : ((Ms.length : Int) == 0) = false := by rw [beq_eq_false_iff_ne]; omega
    skip
    refine run_ok 4000 _ _ _ _ ?_
    simp (maxSteps := 10000000) only [go_sem, hin, b0, iv_len, z0]
    refine run_ok 4000 _ _ _ _ ?_
    simp (maxSteps := 10000000) only [go_sem, hin, b0, iv_len, z0]
    refine sem_call rfl rfl ((htn).mono ?_)
    rintro _ _ ⟨rfl, rfl⟩
    refine run_ok 4000 _ _ _ _ ?_
    simp (maxSteps := 10000000) only [go_sem, hin, b0, iv_len, z0]
    have hnd : (R ++ Ms).Nodup := by
      rw [List.nodup_append]
      refine ⟨hR.nd, by rw [← hMs]; exact hR2.nd.sublist List.filter_sublist, fun a ha b hb => ?_⟩
      rintro rfl
      rw [← hMs] at hb
      have := (List.mem_filter.1 hb).2
      simp [ha] at this
    have hrg : ∀ p ∈ Ms, 0 ≤ p ∧ p < 8 := fun p hp => by
      rw [← hMs] at hp
      exact hR2.lt p (List.mem_filter.1 hp).1
    refine sem_roundsJ (fun x : Nat × Outr × List Inn => x.1 ≤ Ms.length ∧ TOk 0 x.2.1 x.2.2 (gL (R ++ Ms.take x.1)))
      (fun x => [(5, .pbox 1 0), (9, .vsl 1 (iv .i64 R2) false), (15, .bool false), (86, .vsl 1 (iv .i64 Ms) false), (87, .int .i64 Ms.length), (88, .int .i64 (x.1 : Nat))])
      (fun x => mS R 0 x.2.1 x.2.2) (fun x => Ms.length - x.1) (0, O, F) ?_ ?_ ?_ ⟨Nat.zero_le _, ?_⟩ ?_ ?_
    · intro x hx; exact mS_ids hx.2.okO
    · intro x hx; rw [mS_len]; omega
    · intro x hx; simp [idsT, ids, tS_len]
    · simpa using hT
    · simp [go_sem, iv_len]
    clear hT htn hms hi
    rintro ⟨i, O, F⟩ ⟨hi, hT⟩
    simp only at hi hT ⊢
    by_cases c : i < Ms.length
    · have hin : (i : Int) < (Ms.length : Int) := by omega
      have w4 := inc64 (show i < 1000000000000 by omega)
      have r0 := iv_rint (k := .i64) c
      have h0 := iv_hasI (k := .i64) c
      have hnext : R ++ Ms.take (i + 1) = (R ++ Ms.take i) ++ [Ms[i]] := by rw [List.take_succ_eq_append_getElem c, List.append_assoc]
      have hpn : Ms[i] ∉ R ++ Ms.take i := by
        intro hm
        rw [List.nodup_append] at hnd
        rcases List.mem_append.1 hm with h | h
        · exact hnd.2.2 _ h _ (List.getElem_mem c) rfl
        · exact take_succ_mem hnd.2.1 c h
      have hr := hrg Ms[i] (List.getElem_mem c)
      generalize Ms[i] = p at *
      generalize R ++ Ms.take i = G at *
      have hp := mBeh R hT (putN hT p 0 (by rw [gL_len hpn]; rfl) (by omega) (by rw [gL_len hpn]; omega) (by omega)) rfl rfl rfl
      rw [gL_push hpn] at hp
      skip
      refine run_ok 4000 _ _ _ _ ?_
      simp (maxSteps := 10000000) only [go_sem, hin, w4, r0, h0, iv_len, Int.natCast_nonneg]
      refine sem_call rfl rfl ((hp).mono ?_)
      rintro _ _ ⟨rfl, O1, F1, h1, rfl⟩
      refine run_ok 4000 _ _ _ _ ?_
      simp (maxSteps := 10000000) only [go_sem, hin, w4, r0, h0, iv_len, Int.natCast_nonneg]
      refine ⟨(i + 1, O1, F1), by simp only; omega, ⟨by simp only; omega, ?_⟩, rfl, [], ?_⟩
      · simp only [hnext]; exact h1
      · simp
    have hin : ¬ (i : Int) < (Ms.length : Int) := by omega
    obtain rfl : i = Ms.length := by omega
    rw [List.take_length] at hT
    have hne : ∀ p ∈ R2, gL (R ++ Ms) p ≠ [] := by
      intro p hp
      have : p ∈ R ++ Ms := by
        by_cases h : p ∈ R
        · simp [h]
        · rw [← hMs]; simp [hp, h]
      simp only [gL, if_pos this]; simp
    have hty := mBeh R hT (takeYes hT R2 false (by omega) (by omega) hne) rfl rfl rfl
    have b1 : ((R2.length : Int) == (R2.length : Int)) = true := by simp
    skip
    refine run_ok 4000 _ _ _ _ ?_
    simp (maxSteps := 10000000) only [go_sem, hin, iv_len, pws_len, b1]
    refine run_ok 4000 _ _ _ _ ?_
    simp (maxSteps := 10000000) only [go_sem, hin, iv_len, pws_len, b1]
    refine sem_call rfl rfl ((hty).mono ?_)
    rintro _ _ ⟨rfl, O1, F1, h1, rfl⟩
    refine run_ok 4000 _ _ _ _ ?_
    simp (maxSteps := 10000000) only [go_sem, hin, iv_len, pws_len, b1]
    have h1 : TOk 1 O1 F1 (fun p => (gL (R ++ Ms) p).tail) := h1
    have hnx := mBehS R h1 (nextT 1 O1 F1) rfl rfl rfl
    refine sem_call rfl rfl ((hnx).mono ?_)
    rintro _ _ ⟨rfl, rfl⟩
    refine run_ok 4000 _ _ _ _ ?_
    simp (maxSteps := 10000000) only [go_sem, hin, iv_len, pws_len, b1]
    refine ⟨_, [], .like (Like.bool true) (.sub [] ?_ .done), rfl⟩
    simp only [EmbV, go_sem]
theorem batchMissing_spec (l1 : List Int) (h1 : ∀ x ∈ l1, (Lit.int .i64 x).wf = true) (l2 : List Int) (h2 : ∀ x ∈ l2, (Lit.int .i64 x).wf = true) : Tri Try.prog 6 [.vsl 1 (iv .i64 l1) false, .vsl 1 (iv .i64 l2) false] [] (fun v m => v = .bool true) :=
  missing_core l1 l2
end Go.AEX
