/- Turned to this seat by turn.py: Tim.lean TimS.lean TimE.lean TimD.lean TimO.lean. -/
import Derived.Test.YthpfmahafgfbeaaHWin
import Derived.Test.YthpfmahafgfbeaaAEzh
import Derived.Test.YthpfmahafgfbeaaAEzj
import Derived.Test.YthpfmahafgfbeaaAEzg
namespace Go.AEX
open Go Go.AE Go.Proofs
set_option maxRecDepth 100000
set_option linter.unusedVariables false
set_option linter.unusedSimpArgs false

attribute [go_sem] Int.reduceGE Int.reduceGT
structure TE where
  n : Int
  due : Int
  wait : Int
  times : Int
def terow (e : TE) : List AV := [.int .u32 e.n, .int .i64 e.due, .int .i64 e.wait, .int .i64 e.times]
def terows (l : List TE) : List (List AV) := l.map terow
theorem te_len (l : List TE) : (terows l).length = l.length := by simp [terows]
theorem te_get {l : List TE} {i : Nat} (h : i < l.length) : (terows l)[i]? = some (terow l[i]) := by simp [terows, h]
theorem te_h0 {l : List TE} {i : Nat} (h : i < l.length) : hasI .u32 (terows l) i 0 := ⟨_, _, te_get h, rfl⟩
theorem te_h1 {l : List TE} {i : Nat} (h : i < l.length) : hasI .i64 (terows l) i 1 := ⟨_, _, te_get h, rfl⟩
theorem te_h2 {l : List TE} {i : Nat} (h : i < l.length) : hasI .i64 (terows l) i 2 := ⟨_, _, te_get h, rfl⟩
theorem te_h3 {l : List TE} {i : Nat} (h : i < l.length) : hasI .i64 (terows l) i 3 := ⟨_, _, te_get h, rfl⟩
theorem te_r0 {l : List TE} {i : Nat} (h : i < l.length) : rint (terows l) i 0 = l[i].n := by simp [rint, List.getD_eq_getElem?_getD, te_get h, terow]
theorem te_r1 {l : List TE} {i : Nat} (h : i < l.length) : rint (terows l) i 1 = l[i].due := by simp [rint, List.getD_eq_getElem?_getD, te_get h, terow]
theorem te_r2 {l : List TE} {i : Nat} (h : i < l.length) : rint (terows l) i 2 = l[i].wait := by simp [rint, List.getD_eq_getElem?_getD, te_get h, terow]
theorem te_r3 {l : List TE} {i : Nat} (h : i < l.length) : rint (terows l) i 3 = l[i].times := by simp [rint, List.getD_eq_getElem?_getD, te_get h, terow]
theorem te_app (a b : List TE) : terows a ++ terows b = terows (a ++ b) := by simp [terows]
theorem te_all (l : List TE) : sub (terows l) 0 l.length = terows l := by
  simp only [sub, List.drop_zero]; exact List.take_of_length_le (by simp [terows])
theorem te_inR {l : List TE} {i : Nat} (h : i < l.length) : inR (terows l) i 0 4 := ⟨_, te_get h, by simp [terow]⟩
theorem te_rput {l : List TE} {i : Nat} (h : i < l.length) (e : TE) : rput (terows l) i 0 [.int .u32 e.n, .int .i64 e.due, .int .i64 e.wait, .int .i64 e.times] = terows (l.set i e) := by
  unfold rput terows
  apply List.ext_getElem?
  intro j
  rw [List.getElem?_modify, List.getElem?_map, List.getElem?_map, List.getElem?_set]
  by_cases hj : i = j
  · subst hj; simp [h, terow]
  · simp [hj]
def tmM (f m : Int) (l : List TE) : Mem := [.box [.int .i64 f, .int .i64 m, .sl 1 0 l.length l.length false], .row 4 (terows l)]
def tmM2 (f m : Int) (l : List TE) : Mem := [.box [.int .i64 f, .int .i64 m, .sl 2 0 l.length l.length false], .gone, .row 4 (terows l)]
def mayF (f m : Int) : Bool := decide (1 ≤ f ∧ f ≤ m ∧ m ≤ 1048576)
theorem tcheck_spec (f m : Int) : Tri Try.prog 65 [.agg [.int .i64 f, .int .i64 m]] [] (fun v q => v = .int .i64 (if mayF f m then 0 else 4) ∧ q = []) := by
  refine Tri.post ?_
  by_cases c1 : f < 1
  · have h : mayF f m = false := by simp [mayF]; omega
    skip
    refine (Tri.enter (rl := r65) (code := c65) (by kernel_rfl) Try.func65 rfl c65_ok (by kernel_rfl) (by kernel_rfl) ?_)
    refine run_ok 4000 _ _ _ _ ?_
    simp (maxSteps := 10000000) only [go_sem, c65, r65, c1]
    refine ⟨_, _, .sub [] ?_ .done, rfl, rfl⟩
    simp [EmbV, go_sem, h]
  by_cases c2 : m < f
  · have h : mayF f m = false := by simp [mayF]; omega
    skip
    refine (Tri.enter (rl := r65) (code := c65) (by kernel_rfl) Try.func65 rfl c65_ok (by kernel_rfl) (by kernel_rfl) ?_)
    refine run_ok 4000 _ _ _ _ ?_
    simp (maxSteps := 10000000) only [go_sem, c65, r65, c1, c2]
    refine ⟨_, _, .sub [] ?_ .done, rfl, rfl⟩
    simp [EmbV, go_sem, h]
  by_cases c3 : m > 1048576
  · have h : mayF f m = false := by simp [mayF]; omega
    skip
    refine (Tri.enter (rl := r65) (code := c65) (by kernel_rfl) Try.func65 rfl c65_ok (by kernel_rfl) (by kernel_rfl) ?_)
    refine run_ok 4000 _ _ _ _ ?_
    simp (maxSteps := 10000000) only [go_sem, c65, r65, c1, c2, c3]
    refine ⟨_, _, .sub [] ?_ .done, rfl, rfl⟩
    simp [EmbV, go_sem, h]
  · have h : mayF f m = true := by simp [mayF]; omega
    skip
    refine (Tri.enter (rl := r65) (code := c65) (by kernel_rfl) Try.func65 rfl c65_ok (by kernel_rfl) (by kernel_rfl) ?_)
    refine run_ok 4000 _ _ _ _ ?_
    simp (maxSteps := 10000000) only [go_sem, c65, r65, c1, c2, c3]
    refine ⟨_, _, .sub [] ?_ .done, rfl, rfl⟩
    simp [EmbV, go_sem, h]
theorem tnew_spec (f m : Int) (h : mayF f m = true) : Tri Try.prog 37 [.agg [.int .i64 f, .int .i64 m]] [] (fun v q => v = .tup [.pbox 0 0, .int .i64 0] ∧ q = [.box [.int .i64 f, .int .i64 m, .nilsl]]) := by
  refine Tri.post ?_
  have hc := tcheck_spec f m
  rw [h] at hc
  refine (Tri.enter (rl := r37) (code := c37) (by kernel_rfl) Try.func37 rfl c37_ok (by kernel_rfl) (by kernel_rfl) ?_)
  refine run_ok 4000 _ _ _ _ ?_
  simp (maxSteps := 10000000) only [go_sem, c37, r37]
  refine sem_call rfl rfl (((hc).embed [] rfl trivial rfl rfl rfl (by simp)).mono ?_)
  rintro _ _ ⟨_, _, ⟨rfl, rfl⟩, rfl, rfl⟩
  refine run_ok 4000 _ _ _ _ ?_
  simp (maxSteps := 10000000) only [go_sem]
  refine ⟨_, _, .sub [1] ?_ .done, rfl, rfl⟩
  simp only [EmbV, go_sem]
def idxH (H : TE → Bool) (l : List TE) : Int := if l.any H then ((l.findIdx H : Nat) : Int) else -1
def capV : Int ⊕ (List Int × Bool) → AV
  | .inl n => .int .u32 n
  | .inr l => .vsl 1 (uv l.1) l.2
theorem capV_ids (k : Nat) (c : Int ⊕ (List Int × Bool)) : ids k (capV c) = true := by cases c <;> rfl
theorem capV_ren (π : List Nat) (N : Nat) (c : Int ⊕ (List Int × Bool)) : ren π N (capV c) = capV c := by cases c <;> rfl
attribute [go_sem] capV_ids capV_ren
theorem tindex_spec (fid : FuncId) (v : Int ⊕ (List Int × Bool)) (H : TE → Bool)
    (hc : ∀ e : TE, Tri Try.prog fid [.agg [.int .u32 e.n, .int .i64 e.due, .int .i64 e.wait, .int .i64 e.times], .pbox 0 0] [.box [capV v]] (fun r m => r = .bsym (H e) ∧ m = [.box [capV v]])) (L : List TE) (hL : L.length ≤ 100000) :
    Tri Try.prog 84 [.sl 0 0 L.length L.length false, .fn fid [] [.pbox 1 0]] [.row 4 (terows L), .box [capV v]] (fun r m => r = .int .i64 (idxH H L) ∧ m = [.row 4 (terows L), .box [capV v]]) := by
  refine Tri.post ?_
  refine (Tri.enter (rl := r84) (code := c84) (by kernel_rfl) Try.func84 rfl c84_ok (by kernel_rfl) (by kernel_rfl) ?_)
  refine run_ok 4000 _ _ _ _ ?_
  simp (maxSteps := 10000000) only [go_sem, c84, r84]
  refine sem_rounds (fun i => i ≤ L.length ∧ ∀ j, (h : j < i) → ∀ h2 : j < L.length, H L[j] = false)
    (fun i => [(0, .sl 0 0 L.length L.length false), (1, .fn fid [] [.pbox 1 0]), (7, .int .i64 L.length), (8, .int .i64 (i : Nat))])
    (fun i => [.row 4 (terows L), .box [capV v]]) (fun i => L.length - i) 0 [0, 1] ⟨by simp, by intro j h; omega⟩ ?_ ?_
  · simp only [Emb, go_sem]
  rintro i ⟨h1, h2⟩
  by_cases hlt : i < L.length
  · have hin : (i : Int) < (L.length : Int) := by omega
    have hci := hc L[i]
    have r0 := te_r0 hlt; have r1 := te_r1 hlt; have r2 := te_r2 hlt; have r3 := te_r3 hlt
    cases hb : H L[i] with
    | true =>
      rw [hb] at hci
      have ha : L.any H = true := by rw [List.any_eq_true]; exact ⟨L[i], List.getElem_mem hlt, hb⟩
      have hf : L.findIdx H = i := by
        rw [List.findIdx_eq hlt]
        exact ⟨hb, fun j hj => h2 j hj (by omega)⟩
      have hix : idxH H L = (i : Int) := by unfold idxH; rw [if_pos ha, hf]
      generalize L[i] = e at *
      skip
      refine run_ok 4000 _ _ _ _ ?_
      simp (maxSteps := 10000000) only [go_sem, te_h0 hlt, te_h1 hlt, te_h2 hlt, te_h3 hlt, r0, r1, r2, r3, hin, Int.natCast_nonneg, te_len]
      refine sem_callv rfl rfl rfl (((hci).embed [1] rfl (by repeat' first | exact trivial | rfl | (simp only [go_sem]; done) | constructor) rfl (by first | rfl | simp only [go_sem]) rfl (by simp)).mono ?_)
      rintro _ _ ⟨_, _, ⟨rfl, rfl⟩, rfl, rfl⟩
      refine run_ok 4000 _ _ _ _ ?_
      simp (maxSteps := 10000000) only [go_sem, te_h0 hlt, te_h1 hlt, te_h2 hlt, te_h3 hlt, r0, r1, r2, r3, hin, Int.natCast_nonneg, te_len]
      refine ⟨_, _, .sub [0, 1] ?_ .done, rfl, rfl⟩
      simp only [EmbV, go_sem, hix]
    | false =>
      rw [hb] at hci
      have hn : ∀ j, (h : j < i + 1) → ∀ h2 : j < L.length, H L[j] = false := fun j hj hj2 => by
        by_cases e : j = i
        · subst e; exact hb
        · exact h2 j (by omega) hj2
      generalize L[i] = e at *
      skip
      refine run_ok 4000 _ _ _ _ ?_
      simp (maxSteps := 10000000) only [go_sem, te_h0 hlt, te_h1 hlt, te_h2 hlt, te_h3 hlt, r0, r1, r2, r3, hin, Int.natCast_nonneg, te_len, inc64 (show i < 1000000000000 by omega)]
      refine sem_callv rfl rfl rfl (((hci).embed [1] rfl (by repeat' first | exact trivial | rfl | (simp only [go_sem]; done) | constructor) rfl (by first | rfl | simp only [go_sem]) rfl (by simp)).mono ?_)
      rintro _ _ ⟨_, _, ⟨rfl, rfl⟩, rfl, rfl⟩
      refine run_ok 4000 _ _ _ _ ?_
      simp (maxSteps := 10000000) only [go_sem, te_h0 hlt, te_h1 hlt, te_h2 hlt, te_h3 hlt, r0, r1, r2, r3, hin, Int.natCast_nonneg, te_len, inc64 (show i < 1000000000000 by omega)]
      refine ⟨i + 1, by omega, ⟨by omega, hn⟩, [0, 1], ?_⟩
      simp only [Emb, go_sem]
  · have hge : ¬ (i : Int) < (L.length : Int) := by omega
    have ha : L.any H = false := by
      rw [List.any_eq_false]
      intro x hx
      obtain ⟨j, hj, rfl⟩ := List.getElem_of_mem hx
      rw [h2 j (by omega) hj]; simp
    have hix : idxH H L = -1 := by unfold idxH; rw [ha]; rfl
    skip
    refine run_ok 4000 _ _ _ _ ?_
    simp (maxSteps := 10000000) only [go_sem, hge]
    refine run_ok 4000 _ _ _ _ ?_
    simp (maxSteps := 10000000) only [go_sem, hge]
    refine ⟨_, _, .sub [0, 1] ?_ .done, rfl, rfl⟩
    simp only [EmbV, go_sem, hix]
theorem tfind1_spec (n : Int) (e : TE) : Tri Try.prog 95 [.agg [.int .u32 e.n, .int .i64 e.due, .int .i64 e.wait, .int .i64 e.times], .pbox 0 0] [.box [.int .u32 n]] (fun r m => r = .bsym (e.n == n) ∧ m = [.box [.int .u32 n]]) := by
  refine Tri.post ?_
  refine (Tri.enter (rl := r95) (code := c95) (by kernel_rfl) Try.func95 rfl c95_ok (by kernel_rfl) (by kernel_rfl) ?_)
  refine run_ok 4000 _ _ _ _ ?_
  simp (maxSteps := 10000000) only [go_sem, c95, r95]
  refine ⟨_, _, .sub [0] ?_ .done, rfl, rfl⟩
  simp only [EmbV, go_sem]
def fdT (l : List TE) (n : Int) : Int := idxH (fun e => e.n == n) l
theorem tfind_spec (f m : Int) (l : List TE) (n : Int) (hl : l.length ≤ 100000) : Tri Try.prog 91 [.pbox 0 0, .int .u32 n] (tmM f m l) (fun v q => v = .int .i64 (fdT l n) ∧ q = tmM f m l) := by
  refine Tri.post ?_
  have hi := tindex_spec 95 (.inl n) (fun e => e.n == n) (fun e => tfind1_spec n e) l hl
  unfold capV at hi
  unfold tmM
  refine (Tri.enter (rl := r91) (code := c91) (by kernel_rfl) Try.func91 rfl c91_ok (by kernel_rfl) (by kernel_rfl) ?_)
  refine run_ok 4000 _ _ _ _ ?_
  simp (maxSteps := 10000000) only [go_sem, c91, r91]
  refine sem_call rfl rfl (((hi).embed [1, 2] rfl (by repeat' first | exact trivial | rfl | (simp only [go_sem]; done) | constructor) rfl (by first | rfl | simp only [go_sem]) rfl (by simp)).mono ?_)
  rintro _ _ ⟨_, _, ⟨rfl, rfl⟩, rfl, rfl⟩
  refine run_ok 4000 _ _ _ _ ?_
  simp (maxSteps := 10000000) only [go_sem]
  refine ⟨_, _, .sub [0, 1] ?_ .done, rfl, rfl⟩
  simp only [EmbV, go_sem, fdT]
theorem tstart_new (f m : Int) (l : List TE) (n now : Int) (hl : l.length ≤ 100000) (h : fdT l n < 0) (hb : 0 ≤ now ∧ now ≤ 10000000 ∧ 0 ≤ f ∧ f ≤ 10000000) : Tri Try.prog 77 [.pbox 0 0, .int .u32 n, .int .i64 now] (tmM f m l)
    (fun v q => v = .bool true ∧ q = tmM2 f m (l ++ [⟨n, now + f, f, 0⟩])) := by
  refine Tri.post ?_
  have hf := tfind_spec f m l n hl
  have h2 : ¬ fdT l n ≥ 0 := by omega
  have w1 : iwrap .i64 (now + f) = now + f := iwrap_i64_in (by omega)
  have hone : [[AV.int .u32 n, AV.int .i64 (now + f), AV.int .i64 f, AV.int .i64 0]] = terows [⟨n, now + f, f, 0⟩] := rfl
  unfold tmM at *
  unfold tmM2
  skip
  refine (Tri.enter (rl := r77) (code := c77) (by kernel_rfl) Try.func77 rfl c77_ok (by kernel_rfl) (by kernel_rfl) ?_)
  refine run_ok 4000 _ _ _ _ ?_
  simp (maxSteps := 10000000) only [go_sem, c77, r77, h2, w1, te_all, te_len]
  refine sem_move 1 rfl ?_
  simp (maxSteps := 10000000) only [go_sem, h2, w1, te_all, te_len]
  refine sem_call rfl rfl (((hf).embed [0, 2] rfl (by repeat' first | exact trivial | rfl | (simp only [go_sem]; done) | constructor) rfl (by first | rfl | simp only [go_sem]) rfl (by simp)).mono ?_)
  rintro _ _ ⟨_, _, ⟨rfl, rfl⟩, rfl, rfl⟩
  refine run_ok 4000 _ _ _ _ ?_
  simp (maxSteps := 10000000) only [go_sem, h2, w1, te_all, te_len]
  refine sem_drawG l77_0_ok (by kernel_rfl) ?_
  intro KK hKK
  simp (maxSteps := 10000000) only [go_sem, l77_0, h2, w1, te_all, te_len]
  subst hKK
  simp (maxSteps := 10000000) only [go_sem, h2, w1, te_all, te_len]
  rw [hone, te_app]
  refine ⟨by unfold small; omega, _, _, .sub [0, 1, 3] ?_ .done, rfl, rfl⟩
  simp only [EmbV, go_sem, List.length_append, List.length_cons, List.length_nil]
theorem tstart_old (f m : Int) (l : List TE) (n now : Int) (hl : l.length ≤ 100000) (h : 0 ≤ fdT l n) : Tri Try.prog 77 [.pbox 0 0, .int .u32 n, .int .i64 now] (tmM f m l)
    (fun v q => v = .bool false ∧ q = tmM2 f m l) := by
  refine Tri.post ?_
  have hf := tfind_spec f m l n hl
  have h2 : fdT l n ≥ 0 := by omega
  unfold tmM at *
  unfold tmM2
  skip
  refine (Tri.enter (rl := r77) (code := c77) (by kernel_rfl) Try.func77 rfl c77_ok (by kernel_rfl) (by kernel_rfl) ?_)
  refine run_ok 4000 _ _ _ _ ?_
  simp (maxSteps := 10000000) only [go_sem, c77, r77, h2]
  refine sem_move 1 rfl ?_
  simp (maxSteps := 10000000) only [go_sem, h2]
  refine sem_call rfl rfl (((hf).embed [0, 2] rfl (by repeat' first | exact trivial | rfl | (simp only [go_sem]; done) | constructor) rfl (by first | rfl | simp only [go_sem]) rfl (by simp)).mono ?_)
  rintro _ _ ⟨_, _, ⟨rfl, rfl⟩, rfl, rfl⟩
  refine run_ok 4000 _ _ _ _ ?_
  simp (maxSteps := 10000000) only [go_sem, h2]
  refine ⟨_, _, .sub [0, 1, 2] ?_ .done, rfl, rfl⟩
  simp only [EmbV, go_sem]
def cmpI (x y : Int) : Int := if x < y then -1 else if x > y then 1 else 0
theorem isNaN_spec (x : Int) : Tri Try.prog 89 [.int .i64 x] [] (fun v m => v = .bsym false ∧ m = []) := by
  refine Tri.post ?_
  have h : (x != x) = false := by simp
  skip
  refine (Tri.enter (rl := r89) (code := c89) (by kernel_rfl) Try.func89 rfl c89_ok (by kernel_rfl) (by kernel_rfl) ?_)
  refine run_ok 4000 _ _ _ _ ?_
  simp (maxSteps := 10000000) only [go_sem, c89, r89, h]
  refine ⟨_, _, .sub [] ?_ .done, rfl, rfl⟩
  simp only [EmbV, go_sem]
theorem compare_spec (x y : Int) : Tri Try.prog 68 [.int .i64 x, .int .i64 y] [] (fun v m => v = .int .i64 (cmpI x y) ∧ m = []) := by
  refine Tri.post ?_
  by_cases c1 : x < y
  · have h : cmpI x y = -1 := by unfold cmpI; rw [if_pos c1]
    skip
    refine (Tri.enter (rl := r68) (code := c68) (by kernel_rfl) Try.func68 rfl c68_ok (by kernel_rfl) (by kernel_rfl) ?_)
    refine run_ok 4000 _ _ _ _ ?_
    simp (maxSteps := 10000000) only [go_sem, c68, r68, c1]
    refine sem_call rfl rfl (((isNaN_spec x).embed [] rfl trivial rfl rfl rfl (by simp)).mono ?_)
    rintro _ _ ⟨_, _, ⟨rfl, rfl⟩, rfl, rfl⟩
    refine run_ok 4000 _ _ _ _ ?_
    simp (maxSteps := 10000000) only [go_sem, c1]
    refine sem_call rfl rfl (((isNaN_spec y).embed [] rfl trivial rfl rfl rfl (by simp)).mono ?_)
    rintro _ _ ⟨_, _, ⟨rfl, rfl⟩, rfl, rfl⟩
    refine run_ok 4000 _ _ _ _ ?_
    simp (maxSteps := 10000000) only [go_sem, c1]
    refine ⟨_, _, .sub [] ?_ .done, rfl, rfl⟩
    simp only [EmbV, go_sem, h]
  by_cases c2 : x > y
  · have h : cmpI x y = 1 := by unfold cmpI; rw [if_neg c1, if_pos c2]
    skip
    refine (Tri.enter (rl := r68) (code := c68) (by kernel_rfl) Try.func68 rfl c68_ok (by kernel_rfl) (by kernel_rfl) ?_)
    refine run_ok 4000 _ _ _ _ ?_
    simp (maxSteps := 10000000) only [go_sem, c68, r68, c1, c2]
    refine sem_call rfl rfl (((isNaN_spec x).embed [] rfl trivial rfl rfl rfl (by simp)).mono ?_)
    rintro _ _ ⟨_, _, ⟨rfl, rfl⟩, rfl, rfl⟩
    refine run_ok 4000 _ _ _ _ ?_
    simp (maxSteps := 10000000) only [go_sem, c1, c2]
    refine sem_call rfl rfl (((isNaN_spec y).embed [] rfl trivial rfl rfl rfl (by simp)).mono ?_)
    rintro _ _ ⟨_, _, ⟨rfl, rfl⟩, rfl, rfl⟩
    refine run_ok 4000 _ _ _ _ ?_
    simp (maxSteps := 10000000) only [go_sem, c1, c2]
    refine ⟨_, _, .sub [] ?_ .done, rfl, rfl⟩
    simp only [EmbV, go_sem, h]
  · have h : cmpI x y = 0 := by unfold cmpI; rw [if_neg c1, if_neg c2]
    skip
    refine (Tri.enter (rl := r68) (code := c68) (by kernel_rfl) Try.func68 rfl c68_ok (by kernel_rfl) (by kernel_rfl) ?_)
    refine run_ok 4000 _ _ _ _ ?_
    simp (maxSteps := 10000000) only [go_sem, c68, r68, c1, c2]
    refine sem_call rfl rfl (((isNaN_spec x).embed [] rfl trivial rfl rfl rfl (by simp)).mono ?_)
    rintro _ _ ⟨_, _, ⟨rfl, rfl⟩, rfl, rfl⟩
    refine run_ok 4000 _ _ _ _ ?_
    simp (maxSteps := 10000000) only [go_sem, c1, c2]
    refine sem_call rfl rfl (((isNaN_spec y).embed [] rfl trivial rfl rfl rfl (by simp)).mono ?_)
    rintro _ _ ⟨_, _, ⟨rfl, rfl⟩, rfl, rfl⟩
    refine run_ok 4000 _ _ _ _ ?_
    simp (maxSteps := 10000000) only [go_sem, c1, c2]
    refine ⟨_, _, .sub [] ?_ .done, rfl, rfl⟩
    simp only [EmbV, go_sem, h]
theorem due1_spec (a b : TE) : Tri Try.prog 67 [.agg [.int .u32 a.n, .int .i64 a.due, .int .i64 a.wait, .int .i64 a.times], .agg [.int .u32 b.n, .int .i64 b.due, .int .i64 b.wait, .int .i64 b.times]] [] (fun v m => v = .int .i64 (cmpI a.due b.due) ∧ m = []) := by
  refine Tri.post ?_
  refine (Tri.enter (rl := r67) (code := c67) (by kernel_rfl) Try.func67 rfl c67_ok (by kernel_rfl) (by kernel_rfl) ?_)
  refine run_ok 4000 _ _ _ _ ?_
  simp (maxSteps := 10000000) only [go_sem, c67, r67]
  refine sem_call rfl rfl (((compare_spec a.due b.due).embed [] rfl trivial rfl rfl rfl (by simp)).mono ?_)
  rintro _ _ ⟨_, _, ⟨rfl, rfl⟩, rfl, rfl⟩
  refine run_ok 4000 _ _ _ _ ?_
  simp (maxSteps := 10000000) only [go_sem]
  refine ⟨_, _, .sub [] ?_ .done, rfl, rfl⟩
  simp only [EmbV, go_sem]
theorem cmpI_lt (x y : Int) : (cmpI x y < 0) = (x < y) := by
  unfold cmpI
  by_cases c : x < y
  · simp [c]
  · by_cases d : x > y <;> simp [c, d]
def swp {α : Type} (L : List α) (p q : Nat) : List α := match L[p]?, L[q]? with
  | some x, some y => (L.set p y).set q x
  | _, _ => L
theorem swp_len {α : Type} (L : List α) (p q : Nat) : (swp L p q).length = L.length := by unfold swp; split <;> simp
theorem swp_eq {α : Type} {L : List α} {p q : Nat} (hp : p < L.length) (hq : q < L.length) : swp L p q = (L.set p L[q]).set q L[p] := by
  unfold swp; rw [List.getElem?_eq_getElem hp, List.getElem?_eq_getElem hq]
def insJ {α : Type} (key : α → Int) : Nat → List α → Nat → List α
  | 0, L, _ => L
  | k + 1, L, j => match L[j]?, L[j - 1]? with
    | some x, some y => if key x < key y then insJ key k (swp L j (j - 1)) (j - 1) else L
    | _, _ => L
def insI {α : Type} (key : α → Int) (a : Nat) : Nat → List α → Nat → List α
  | 0, L, _ => L
  | k + 1, L, i => insI key a k (insJ key (i - a) L i) (i + 1)
theorem swp_map {α β : Type} (f : α → β) (L : List α) (p q : Nat) : (swp L p q).map f = swp (L.map f) p q := by
  unfold swp
  rw [List.getElem?_map, List.getElem?_map]
  cases L[p]? with
  | none => rfl
  | some x => cases L[q]? with
    | none => rfl
    | some y => simp [List.map_set]
theorem insJ_map {α β : Type} (f : α → β) (key : β → Int) : ∀ (k : Nat) (L : List α) (j : Nat), (insJ (fun x => key (f x)) k L j).map f = insJ key k (L.map f) j
  | 0, L, j => rfl
  | k + 1, L, j => by
    unfold insJ
    rw [List.getElem?_map, List.getElem?_map]
    cases L[j]? with
    | none => rfl
    | some x => cases L[j - 1]? with
      | none => rfl
      | some y =>
        simp only [Option.map_some]
        split
        · rw [insJ_map f key k, swp_map]
        · rfl
theorem insI_map {α β : Type} (f : α → β) (key : β → Int) (a : Nat) : ∀ (k : Nat) (L : List α) (i : Nat), (insI (fun x => key (f x)) a k L i).map f = insI key a k (L.map f) i
  | 0, L, i => rfl
  | k + 1, L, i => by
    unfold insI
    rw [insI_map f key a k, insJ_map]
theorem insJ_at {α : Type} (key : α → Int) (x : α) (A : List α) : ∀ (k : Nat) (S : List α), S.length = k → ∀ (B : List α), ∃ P Q, S = P ++ Q ∧ (∀ q ∈ Q, key x < key q) ∧ (∀ p, P.getLast? = some p → key p ≤ key x) ∧
    insJ key k (A ++ S ++ x :: B) (A.length + k) = A ++ (P ++ x :: Q) ++ B
  | 0, S, h, B => by
    have : S = [] := List.length_eq_zero_iff.1 h
    subst this
    exact ⟨[], [], rfl, by simp, by simp, by simp [insJ]⟩
  | k + 1, S, h, B => by
    obtain ⟨S', y, rfl⟩ : ∃ S' y, S = S' ++ [y] := ⟨S.dropLast, S.getLast (by intro e; rw [e] at h; simp at h), (List.dropLast_concat_getLast _).symm⟩
    have hk : S'.length = k := by simpa using h
    have e1 : (A ++ (S' ++ [y]) ++ x :: B)[A.length + (k + 1)]? = some x := by
      rw [List.getElem?_append_right (by simp; omega)]; simp [hk]
    have e2 : (A ++ (S' ++ [y]) ++ x :: B)[A.length + (k + 1) - 1]? = some y := by
      rw [List.getElem?_append_left (by simp; omega), List.getElem?_append_right (by omega), List.getElem?_append_right (by omega)]
      rw [show A.length + (k + 1) - 1 - A.length - S'.length = 0 by omega]; rfl
    unfold insJ
    rw [e1, e2]
    simp only
    by_cases c : key x < key y
    · rw [if_pos c]
      have es : swp (A ++ (S' ++ [y]) ++ x :: B) (A.length + (k + 1)) (A.length + (k + 1) - 1) = A ++ S' ++ x :: (y :: B) := by
        unfold swp
        rw [e1, e2]
        simp only
        have f1 : (A ++ (S' ++ [y]) ++ x :: B).set (A.length + (k + 1)) y = A ++ (S' ++ [y]) ++ y :: B := by
          rw [List.set_append_right _ _ (by simp; omega)]; simp [hk]
        rw [f1]
        have f2 : A ++ (S' ++ [y]) ++ y :: B = (A ++ S') ++ y :: (y :: B) := by simp
        rw [f2, List.set_append_right _ _ (by simp; omega)]
        rw [List.length_append, show A.length + (k + 1) - 1 - (A.length + S'.length) = 0 by omega]; simp
      rw [es, show A.length + (k + 1) - 1 = A.length + k by omega]
      obtain ⟨P, Q, g1, g2, g3, g4⟩ := insJ_at key x A k S' hk (y :: B)
      refine ⟨P, Q ++ [y], by rw [g1]; simp, ?_, g3, by rw [g4]; simp⟩
      intro q hq
      rcases List.mem_append.1 hq with hq | hq
      · exact g2 q hq
      · simp at hq; rw [hq]; exact c
    · rw [if_neg c]
      refine ⟨S' ++ [y], [], by simp, by simp, ?_, by simp⟩
      intro p hp
      simp at hp
      subst hp
      omega
abbrev TG := TE × Nat
def R (x y : TG) : Prop := x.1.due < y.1.due ∨ (x.1.due = y.1.due ∧ x.2 < y.2)
abbrev kd1 (x : TG) : Int := x.1.due
theorem R.trans {x y z : TG} (h : R x y) (g : R y z) : R x z := by unfold R at *; omega
theorem ins_sorted {S : List TG} {x : TG} (hs : S.Pairwise R) (ht : ∀ s ∈ S, s.2 < x.2) {P Q : List TG} (e : S = P ++ Q) (hq : ∀ q ∈ Q, kd1 x < kd1 q) (hp : ∀ p, P.getLast? = some p → kd1 p ≤ kd1 x) : (P ++ x :: Q).Pairwise R := by
  subst e
  rw [List.pairwise_append] at hs
  obtain ⟨h1, h2, h3⟩ := hs
  have hpx : ∀ p ∈ P, R p x := by
    intro p hp1
    have hne : P ≠ [] := fun e => by rw [e] at hp1; simp at hp1
    have hl := hp (P.getLast hne) (List.getLast?_eq_some_getLast hne)
    have htx := ht p (by simp [hp1])
    have htl := ht (P.getLast hne) (by simp)
    by_cases e : p = P.getLast hne
    · rw [← e] at hl; unfold R; unfold kd1 at hl; omega
    · have : R p (P.getLast hne) := by
        have e2 := List.dropLast_concat_getLast hne
        rw [← e2, List.pairwise_append] at h1
        refine h1.2.2 p ?_ _ (by simp)
        rw [← e2] at hp1
        rcases List.mem_append.1 hp1 with h | h
        · exact h
        · simp at h; exact absurd h e
      unfold R kd1 at *; omega
  rw [List.pairwise_append]
  refine ⟨h1, ?_, ?_⟩
  · rw [List.pairwise_cons]
    exact ⟨fun q h => .inl (hq q h), h2⟩
  · intro p hp1 q hq1
    rcases List.mem_cons.1 hq1 with rfl | hq1
    · exact hpx p hp1
    · exact h3 p hp1 q hq1
theorem insI_at (A : List TG) : ∀ (T S B : List TG), S.Pairwise R → (S ++ T).Pairwise (fun x y => True) → (∀ s ∈ S, ∀ t ∈ T, s.2 < t.2) → T.Pairwise (fun x y => x.2 < y.2) →
    ∃ W, insI kd1 A.length T.length (A ++ S ++ (T ++ B)) (A.length + S.length) = A ++ W ++ B ∧ W.Perm (S ++ T) ∧ W.Pairwise R
  | [], S, B, hs, _, _, _ => ⟨S, by simp [insI], by simp, hs⟩
  | x :: T, S, B, hs, h0, hst, ht => by
    rw [List.pairwise_cons] at ht
    obtain ⟨P, Q, g1, g2, g3, g4⟩ := insJ_at kd1 x A S.length S rfl (T ++ B)
    have hn := ins_sorted hs (fun s h => hst s h x (by simp)) g1 g2 g3
    have hlen : (P ++ x :: Q).length = S.length + 1 := by rw [g1]; simp; omega
    obtain ⟨W, w1, w2, w3⟩ := insI_at A T (P ++ x :: Q) B hn (by simp [List.pairwise_iff_forall_sublist]) (fun s h t h2 => by
      have : s ∈ x :: S := by
        rw [g1]
        rcases List.mem_append.1 h with h | h
        · simp [h]
        · rcases List.mem_cons.1 h with rfl | h
          · simp
          · simp [h]
      rcases List.mem_cons.1 this with rfl | h'
      · exact ht.1 t h2
      · exact hst s h' t (by simp [h2])) ht.2
    refine ⟨W, ?_, ?_, w3⟩
    · rw [List.length_cons, insI, show A.length + S.length - A.length = S.length by omega]
      have e1 : A ++ S ++ (x :: T ++ B) = A ++ S ++ x :: (T ++ B) := by simp
      rw [e1, g4]
      have e2 : A ++ (P ++ x :: Q) ++ (T ++ B) = A ++ (P ++ x :: Q) ++ (T ++ B) := rfl
      rw [hlen] at w1
      rw [show A.length + S.length + 1 = A.length + (S.length + 1) by omega]
      exact w1
    · refine w2.trans ?_
      rw [g1]
      have : (P ++ x :: Q ++ T).Perm (P ++ (Q ++ x :: T)) := by
        rw [List.append_assoc]
        refine List.Perm.append_left P ?_
        rw [List.cons_append]
        exact List.perm_middle.symm
      simpa using this
set_option maxHeartbeats 1000000 in
theorem insertion_spec (L : List TE) (N a b : Nat) (hN : N = L.length) (haN : a ≤ N) (hab : b ≤ N) (hL : N ≤ 100000) : Tri Try.prog 93 [.sl 0 0 N N false, .int .i64 a, .int .i64 b, .fn 67 [] []] [.row 4 (terows L)]
    (fun v m => v = .tup [] ∧ m = [.row 4 (terows (insI TE.due a (b - (a + 1)) L (a + 1)))]) := by
  refine Tri.post ?_
  generalize hR : insI TE.due a (b - (a + 1)) L (a + 1) = R
  skip
  refine (Tri.enter (rl := r93) (code := c93) (by kernel_rfl) Try.func93 rfl c93_ok (by kernel_rfl) (by kernel_rfl) ?_)
  refine run_ok 4000 _ _ _ _ ?_
  simp (maxSteps := 10000000) only [go_sem, c93, r93, inc64 (show a < 1000000000000 by omega)]
  refine sem_rounds (fun x : Nat × List TE => a + 1 ≤ x.1 ∧ x.2.length = N ∧ insI TE.due a (b - x.1) x.2 x.1 = R)
    (fun x => [(0, .sl 0 0 N N false), (1, .int .i64 a), (2, .int .i64 b), (3, .fn 67 [] []), (8, .int .i64 (x.1 : Nat))])
    (fun x => [.row 4 (terows x.2)]) (fun x => b - x.1) (a + 1, L) [0] ⟨Nat.le_refl _, hN.symm, hR⟩ ?_ ?_
  · simp only [Emb, go_sem]
  clear hR
  rintro ⟨i, L⟩ ⟨hi, hl, hR⟩
  simp only at hi hl hR
  by_cases hlt : i < b
  · have hib : (i : Int) < (b : Int) := by omega
    obtain ⟨d, hd⟩ : ∃ d, b - i = d + 1 := ⟨b - i - 1, by omega⟩
    rw [hd, insI] at hR
    generalize hR2 : insJ TE.due (i - a) L i = R2 at *
    skip
    refine run_ok 4000 _ _ _ _ ?_
    simp (maxSteps := 10000000) only [go_sem, hib]
    refine sem_rounds (fun x : Nat × List TE => a + x.1 ≤ i ∧ x.2.length = N ∧ insJ TE.due x.1 x.2 (a + x.1) = R2)
      (fun x => [(0, .sl 0 0 N N false), (1, .int .i64 a), (2, .int .i64 b), (3, .fn 67 [] []), (8, .int .i64 (i : Nat)), (9, .int .i64 (a + x.1 : Nat))])
      (fun x => [.row 4 (terows x.2)]) (fun x => x.1) (i - a, L) [0] ⟨by simp only; omega, hl, by simp only; rw [show a + (i - a) = i by omega]; exact hR2⟩ ?_ ?_
    · have e0 : a + (i - a) = i := by omega
      simp only [Emb, go_sem, e0]
    clear hR2 hl
    rintro ⟨k, L⟩ ⟨hk, hl, hR2⟩
    simp only at hk hl hR2
    cases k with
    | zero =>
      have c0 : ¬ ((a + 0 : Nat) : Int) > (a : Int) := by omega
      have hR2 : L = R2 := hR2
      subst hR2
      skip
      refine run_ok 4000 _ _ _ _ ?_
      simp (maxSteps := 10000000) only [go_sem, c0, inc64 (show i < 1000000000000 by omega)]
      refine sem_drawG l93_0_ok (by kernel_rfl) ?_
      intro KK hKK
      simp (maxSteps := 10000000) only [go_sem, l93_0, c0, inc64 (show i < 1000000000000 by omega)]
      subst hKK
      simp (maxSteps := 10000000) only [go_sem, c0, inc64 (show i < 1000000000000 by omega)]
      refine run_ok 4000 _ _ _ _ ?_
      simp (maxSteps := 10000000) only [go_sem, c0, inc64 (show i < 1000000000000 by omega)]
      refine ⟨(i + 1, L), by simp only; omega, ⟨by omega, hl, by simp only; rw [show b - (i + 1) = d by omega]; exact hR⟩, [0], ?_⟩
      simp only [Emb, go_sem]
    | succ k =>
      have c0 : ((a + (k + 1) : Nat) : Int) > (a : Int) := by omega
      have h1 : a + (k + 1) < L.length := by omega
      have h2 : a + k < L.length := by omega
      have w1 : iwrap .i64 (((a + (k + 1) : Nat) : Int) - 1) = ((a + k : Nat) : Int) := by rw [iwrap_i64_in (by omega)]; omega
      have c1 : ((a + (k + 1) : Nat) : Int) < (N : Int) := by omega
      have c2 : ((a + k : Nat) : Int) < (N : Int) := by omega
      rw [insJ, List.getElem?_eq_getElem h1, show a + (k + 1) - 1 = a + k by omega, List.getElem?_eq_getElem h2] at hR2
      simp only at hR2
      have q0 := te_r0 h1; have q1 := te_r1 h1; have q2 := te_r2 h1; have q3 := te_r3 h1
      have p0 := te_r0 h2; have p1 := te_r1 h2; have p2 := te_r2 h2; have p3 := te_r3 h2
      have hcm := due1_spec L[a + (k + 1)] L[a + k]
      have hcl := cmpI_lt L[a + (k + 1)].due L[a + k].due
      have hsw := swp_eq h1 h2
      have hput1 := te_rput h1 L[a + k]
      have h2' : a + k < (L.set (a + (k + 1)) L[a + k]).length := by rw [List.length_set]; exact h2
      have hput2 := te_rput h2' L[a + (k + 1)]
      have hin1 := te_inR h1
      have hin2 := te_inR h2'
      rw [← hsw] at hput2
      have hsl := swp_len L (a + (k + 1)) (a + k)
      by_cases c : L[a + (k + 1)].due < L[a + k].due
      · rw [if_pos c] at hR2
        have c3 : cmpI L[a + (k + 1)].due L[a + k].due < 0 := by rw [hcl]; exact c
        generalize L.set (a + (k + 1)) L[a + k] = L1 at *
        generalize swp L (a + (k + 1)) (a + k) = L2 at *
        generalize L[a + (k + 1)] = x at *
        generalize L[a + k] = y at *
        skip
        refine run_ok 4000 _ _ _ _ ?_
        simp (maxSteps := 10000000) only [go_sem, c0, c1, c2, w1, te_h0 h1, te_h1 h1, te_h2 h1, te_h3 h1, te_h0 h2, te_h1 h2, te_h2 h2, te_h3 h2, q0, q1, q2, q3, p0, p1, p2, p3, c3, hput1, hput2, hin1, hin2, te_len, Int.natCast_nonneg, Nat.zero_add]
        refine sem_drawG l93_0_ok (by kernel_rfl) ?_
        intro KK hKK
        simp (maxSteps := 10000000) only [go_sem, l93_0, c0, c1, c2, w1, te_h0 h1, te_h1 h1, te_h2 h1, te_h3 h1, te_h0 h2, te_h1 h2, te_h2 h2, te_h3 h2, q0, q1, q2, q3, p0, p1, p2, p3, c3, hput1, hput2, hin1, hin2, te_len, Int.natCast_nonneg, Nat.zero_add]
        subst hKK
        simp (maxSteps := 10000000) only [go_sem, c0, c1, c2, w1, te_h0 h1, te_h1 h1, te_h2 h1, te_h3 h1, te_h0 h2, te_h1 h2, te_h2 h2, te_h3 h2, q0, q1, q2, q3, p0, p1, p2, p3, c3, hput1, hput2, hin1, hin2, te_len, Int.natCast_nonneg, Nat.zero_add]
        refine TriZ.of (((hcm).embed [] rfl (by repeat' first | exact trivial | rfl | (simp only [go_sem]; done) | constructor) rfl (by first | rfl | simp only [go_sem]) rfl (by simp)).mono ?_)
        rintro _ _ ⟨_, _, ⟨rfl, rfl⟩, rfl, rfl⟩
        simp (maxSteps := 10000000) only [go_sem, c0, c1, c2, w1, te_h0 h1, te_h1 h1, te_h2 h1, te_h3 h1, te_h0 h2, te_h1 h2, te_h2 h2, te_h3 h2, q0, q1, q2, q3, p0, p1, p2, p3, c3, hput1, hput2, hin1, hin2, te_len, Int.natCast_nonneg, Nat.zero_add]
        refine sem_drawG l93_1_ok (by kernel_rfl) ?_
        intro KK hKK
        simp (maxSteps := 10000000) only [go_sem, l93_1, c0, c1, c2, w1, te_h0 h1, te_h1 h1, te_h2 h1, te_h3 h1, te_h0 h2, te_h1 h2, te_h2 h2, te_h3 h2, q0, q1, q2, q3, p0, p1, p2, p3, c3, hput1, hput2, hin1, hin2, te_len, Int.natCast_nonneg, Nat.zero_add]
        subst hKK
        simp (maxSteps := 10000000) only [go_sem, c0, c1, c2, w1, te_h0 h1, te_h1 h1, te_h2 h1, te_h3 h1, te_h0 h2, te_h1 h2, te_h2 h2, te_h3 h2, q0, q1, q2, q3, p0, p1, p2, p3, c3, hput1, hput2, hin1, hin2, te_len, Int.natCast_nonneg, Nat.zero_add]
        refine ⟨(k, L2), by simp only; omega, ⟨by simp only; omega, by simp only; omega, hR2⟩, [0], ?_⟩
        simp only [Emb, go_sem]
      · rw [if_neg c] at hR2
        subst hR2
        have c3 : ¬ cmpI L[a + (k + 1)].due L[a + k].due < 0 := by rw [hcl]; exact c
        generalize L[a + (k + 1)] = x at *
        generalize L[a + k] = y at *
        skip
        refine run_ok 4000 _ _ _ _ ?_
        simp (maxSteps := 10000000) only [go_sem, c0, c1, c2, w1, te_h0 h1, te_h1 h1, te_h2 h1, te_h3 h1, te_h0 h2, te_h1 h2, te_h2 h2, te_h3 h2, q0, q1, q2, q3, p0, p1, p2, p3, c3, te_len, Int.natCast_nonneg, Nat.zero_add, inc64 (show i < 1000000000000 by omega)]
        refine sem_drawG l93_0_ok (by kernel_rfl) ?_
        intro KK hKK
        simp (maxSteps := 10000000) only [go_sem, l93_0, c0, c1, c2, w1, te_h0 h1, te_h1 h1, te_h2 h1, te_h3 h1, te_h0 h2, te_h1 h2, te_h2 h2, te_h3 h2, q0, q1, q2, q3, p0, p1, p2, p3, c3, te_len, Int.natCast_nonneg, Nat.zero_add, inc64 (show i < 1000000000000 by omega)]
        subst hKK
        simp (maxSteps := 10000000) only [go_sem, c0, c1, c2, w1, te_h0 h1, te_h1 h1, te_h2 h1, te_h3 h1, te_h0 h2, te_h1 h2, te_h2 h2, te_h3 h2, q0, q1, q2, q3, p0, p1, p2, p3, c3, te_len, Int.natCast_nonneg, Nat.zero_add, inc64 (show i < 1000000000000 by omega)]
        refine TriZ.of (((hcm).embed [] rfl (by repeat' first | exact trivial | rfl | (simp only [go_sem]; done) | constructor) rfl (by first | rfl | simp only [go_sem]) rfl (by simp)).mono ?_)
        rintro _ _ ⟨_, _, ⟨rfl, rfl⟩, rfl, rfl⟩
        simp (maxSteps := 10000000) only [go_sem, c0, c1, c2, w1, te_h0 h1, te_h1 h1, te_h2 h1, te_h3 h1, te_h0 h2, te_h1 h2, te_h2 h2, te_h3 h2, q0, q1, q2, q3, p0, p1, p2, p3, c3, te_len, Int.natCast_nonneg, Nat.zero_add, inc64 (show i < 1000000000000 by omega)]
        refine run_ok 4000 _ _ _ _ ?_
        simp (maxSteps := 10000000) only [go_sem, c0, c1, c2, w1, te_h0 h1, te_h1 h1, te_h2 h1, te_h3 h1, te_h0 h2, te_h1 h2, te_h2 h2, te_h3 h2, q0, q1, q2, q3, p0, p1, p2, p3, c3, te_len, Int.natCast_nonneg, Nat.zero_add, inc64 (show i < 1000000000000 by omega)]
        refine ⟨(i + 1, L), by simp only; omega, ⟨by omega, hl, by simp only; rw [show b - (i + 1) = d by omega]; exact hR⟩, [0], ?_⟩
        simp only [Emb, go_sem]
  · have hib : ¬ (i : Int) < (b : Int) := by omega
    rw [show b - i = 0 by omega] at hR
    have hR : L = R := hR
    subst hR
    skip
    refine run_ok 4000 _ _ _ _ ?_
    simp (maxSteps := 10000000) only [go_sem, hib]
    refine run_ok 4000 _ _ _ _ ?_
    simp (maxSteps := 10000000) only [go_sem, hib]
    refine ⟨_, _, .sub [0] ?_ .done, rfl, rfl⟩
    simp only [EmbV, go_sem]
def leT (a b : TE) : Bool := decide (a.due ≤ b.due)
def stab (L : List TE) : List TE := L.mergeSort leT
theorem stab_len (L : List TE) : (stab L).length = L.length := List.length_mergeSort _
theorem stab_of {L : List TE} {W : List TG} (hp : W.Perm L.zipIdx) (hr : W.Pairwise R) : W.map (·.1) = stab L := by
  have hz : ∀ {a b : TG}, List.zipIdxLE leT a b = true ↔ (a.1.due < b.1.due ∨ (a.1.due = b.1.due ∧ a.2 ≤ b.2)) := by
    intro a b
    unfold List.zipIdxLE leT
    by_cases c1 : a.1.due ≤ b.1.due
    · by_cases c2 : b.1.due ≤ a.1.due
      · simp [c1, c2]; omega
      · simp [c1, c2]; omega
    · simp [c1]; omega
  have e : W = List.mergeSort L.zipIdx (List.zipIdxLE leT) := by
    apply List.Perm.eq_of_pairwise (le := fun a b => List.zipIdxLE leT a b = true)
    · intro a b ha hb h1 h2
      rw [hz] at h1 h2
      have hi : a.2 = b.2 := by omega
      have ha' := hp.subset ha
      have hb' := (List.mergeSort_perm _ _).subset hb
      have ga := List.mem_zipIdx ha'
      have gb := List.mem_zipIdx hb'
      obtain ⟨x, i⟩ := a
      obtain ⟨y, j⟩ := b
      simp only at hi
      subst hi
      obtain ⟨_, _, g1⟩ := ga
      obtain ⟨_, _, g2⟩ := gb
      simp only at g1 g2
      rw [g1, g2]
    · exact hr.imp fun h => by rw [hz]; unfold R at h; omega
    · exact List.pairwise_mergeSort (fun a b c h1 h2 => by rw [hz] at *; omega) (fun a b => by
        rw [Bool.or_eq_true, hz, hz]; omega) _
    · exact hp.trans (List.mergeSort_perm _ _).symm
  rw [e]
  exact List.mergeSort_zipIdx
theorem zip_tags (L : List TE) : L.zipIdx.Pairwise (fun x y => x.2 < y.2) := by
  rw [List.pairwise_iff_getElem]
  intro i j hi hj hij
  simp; omega
theorem insI_none (key : TE → Int) (a : Nat) (L : List TE) (i : Nat) : insI key a 0 L i = L := rfl
theorem sortStable_of (L : List TE) (h : Tri Try.prog 88 [.sl 0 0 L.length L.length false, .int .i64 L.length, .fn 67 [] []] [.row 4 (terows L)] (fun v m => v = .tup [] ∧ m = [.row 4 (terows (stab L))])) :
    Tri Try.prog 66 [.sl 0 0 L.length L.length false, .fn 67 [] []] [.row 4 (terows L)] (fun v m => v = .tup [] ∧ m = [.row 4 (terows (stab L))]) := by
  refine Tri.post ?_
  refine (Tri.enter (rl := r66) (code := c66) (by kernel_rfl) Try.func66 rfl c66_ok (by kernel_rfl) (by kernel_rfl) ?_)
  refine run_ok 4000 _ _ _ _ ?_
  simp (maxSteps := 10000000) only [go_sem, c66, r66]
  refine sem_call rfl rfl (((h).embed [0] rfl (by repeat' first | exact trivial | rfl | (simp only [go_sem]; done) | constructor) rfl (by first | rfl | simp only [go_sem]) rfl (by simp)).mono ?_)
  rintro _ _ ⟨_, _, ⟨rfl, rfl⟩, rfl, rfl⟩
  refine run_ok 4000 _ _ _ _ ?_
  simp (maxSteps := 10000000) only [go_sem]
  refine ⟨_, _, .sub [0] ?_ .done, rfl, rfl⟩
  simp only [EmbV, go_sem]
def dueL (now : Int) (l : List TE) : List TE := l.filter fun e => decide (e.due ≤ now)
def updE (most now : Int) (e : TE) : TE := if e.due ≤ now then ⟨e.n, now + min (2 * e.wait) most, min (2 * e.wait) most, e.times + 1⟩ else e
def TmOk (l : List TE) : Prop := ∀ e ∈ l, (-100000000 ≤ e.due ∧ e.due ≤ 100000000) ∧ (0 ≤ e.wait ∧ e.wait ≤ 10000000) ∧ (0 ≤ e.times ∧ e.times ≤ 1000000000)
def numsT (l : List TE) : List Int := l.map (·.n)
theorem updm_len (l : List TE) (k : Nat) (g : TE → TE) (h : k ≤ l.length) : ((l.take k).map g ++ l.drop k).length = l.length := by simp; omega
theorem updm_at (l : List TE) (k : Nat) (g : TE → TE) (h : k < l.length) : ((l.take k).map g ++ l.drop k)[k]'(by rw [updm_len l k g (by omega)]; exact h) = l[k] := by
  rw [List.getElem_append_right (by simp; omega)]
  simp [show min k l.length = k by omega]
theorem updm_set (l : List TE) (k : Nat) (g : TE → TE) (h : k < l.length) : ((l.take k).map g ++ l.drop k).set k (g l[k]) = (l.take (k + 1)).map g ++ l.drop (k + 1) := by
  rw [List.set_append_right _ _ (by simp; omega)]
  simp only [List.length_map, List.length_take, show k - min k l.length = 0 by omega]
  rw [List.drop_eq_getElem_cons h, List.set_cons_zero, List.take_succ_eq_append_getElem h, List.map_append, List.append_assoc]
  rfl
theorem updm_same (l : List TE) (k : Nat) (g : TE → TE) (h : k < l.length) (hg : g l[k] = l[k]) : (l.take k).map g ++ l.drop k = (l.take (k + 1)).map g ++ l.drop (k + 1) := by
  have hs := updm_set l k g h
  rw [hg] at hs
  have hk : k < ((l.take k).map g ++ l.drop k).length := by rw [updm_len l k g (by omega)]; exact h
  have ha := updm_at l k g h
  rw [← hs]
  have : ((l.take k).map g ++ l.drop k).set k (((l.take k).map g ++ l.drop k)[k]) = (l.take k).map g ++ l.drop k := List.set_getElem_self hk
  rw [ha] at this
  exact this.symm
theorem due_take {now : Int} {l : List TE} {k : Nat} (h : k < l.length) : dueL now (l.take (k + 1)) = if l[k].due ≤ now then dueL now (l.take k) ++ [l[k]] else dueL now (l.take k) := by
  unfold dueL
  rw [List.take_succ_eq_append_getElem h, List.filter_append]
  by_cases c : l[k].due ≤ now <;> simp [c]
set_option maxHeartbeats 1000000 in
theorem due_spec (f m now : Int) (l : List TE) (hl : l.length ≤ 10000) (hok : TmOk l) (hm : 0 ≤ m ∧ m ≤ 10000000) (hnow : 0 ≤ now ∧ now ≤ 10000000)
    (hs : Tri Try.prog 66 [.sl 0 0 (dueL now l).length (dueL now l).length false, .fn 67 [] []] [.row 4 (terows (dueL now l))] (fun v q => v = .tup [] ∧ q = [.row 4 (terows (stab (dueL now l)))])) :
    Tri Try.prog 40 [.pbox 0 0, .int .i64 now] (tmM f m l) (fun v q => v = .vsl 1 (uv (numsT (stab (dueL now l)))) false ∧ q = tmM f m (l.map (updE m now))) := by
  refine Tri.post ?_
  unfold tmM
  refine (Tri.enter (rl := r40) (code := c40) (by kernel_rfl) Try.func40 rfl c40_ok (by kernel_rfl) (by kernel_rfl) ?_)
  refine run_ok 4000 _ _ _ _ ?_
  simp (maxSteps := 10000000) only [go_sem, c40, r40]
  refine sem_virt 5 4 rfl ?_
  refine sem_rounds (fun k : Nat => k ≤ l.length)
    (fun k => [(0, .pbox 0 0), (1, .int .i64 now), (5, .sl 2 0 (dueL now (l.take k)).length (dueL now (l.take k)).length false), (14, .sl 1 0 l.length l.length false), (15, .int .i64 l.length), (16, .int .i64 (k : Nat))])
    (fun k => [.box [.int .i64 f, .int .i64 m, .sl 1 0 l.length l.length false], .row 4 (terows ((l.take k).map (updE m now) ++ l.drop k)), .row 4 (terows (dueL now (l.take k)))]) (fun k => l.length - k) 0 [0, 1, 2] (Nat.zero_le _) ?_ ?_
  · simp [Emb, go_sem, dueL, terows]
  intro k hk
  by_cases hlt : k < l.length
  · have hin : (k : Int) < (l.length : Int) := by omega
    have hkl : k < ((l.take k).map (updE m now) ++ l.drop k).length := by rw [updm_len l k _ (by omega)]; exact hlt
    have r0 := te_r0 hkl; have r1 := te_r1 hkl; have r2 := te_r2 hkl; have r3 := te_r3 hkl
    rw [updm_at l k _ hlt] at r0 r1 r2 r3
    have hdt := due_take (now := now) hlt
    have hset := updm_set l k (updE m now) hlt
    have hsame := updm_same l k (updE m now) hlt
    have hput := fun e => te_rput hkl e
    obtain ⟨o1, o2, o3⟩ := hok _ (List.getElem_mem hlt)
    have hall := te_all (dueL now (l.take k))
    have hdl : (dueL now (l.take k)).length ≤ l.length := by
      unfold dueL
      have := List.length_filter_le (fun e : TE => decide (e.due ≤ now)) (l.take k)
      rw [List.length_take] at this; omega
    by_cases c : l[k].due ≤ now
    · have c' : ¬ l[k].due > now := by omega
      rw [if_pos c] at hdt
      have hue : updE m now l[k] = ⟨l[k].n, now + min (2 * l[k].wait) m, min (2 * l[k].wait) m, l[k].times + 1⟩ := by unfold updE; rw [if_pos c]
      rw [hue] at hset
      have hp := hput ⟨l[k].n, now + min (2 * l[k].wait) m, min (2 * l[k].wait) m, l[k].times + 1⟩
      rw [hset] at hp
      simp only at hp
      have w1 : iwrap .i64 (2 * l[k].wait) = 2 * l[k].wait := iwrap_i64_in (by omega)
      have w2 : iwrap .i64 (now + min (2 * l[k].wait) m) = now + min (2 * l[k].wait) m := iwrap_i64_in (by omega)
      have w3 : iwrap .i64 (l[k].times + 1) = l[k].times + 1 := iwrap_i64_in (by omega)
      generalize l[k] = e at *
      have hone : [[AV.int .u32 e.n, AV.int .i64 e.due, AV.int .i64 e.wait, AV.int .i64 e.times]] = terows [e] := rfl
      skip
      refine run_ok 4000 _ _ _ _ ?_
      simp (maxSteps := 10000000) only [go_sem, hin, r0, r1, r2, r3, te_h0 hkl, te_h1 hkl, te_h2 hkl, te_h3 hkl, te_inR hkl, hall, te_len, c', w1, w2, w3, Int.natCast_nonneg, Nat.zero_add, inc64 (show k < 1000000000000 by omega)]
      rw [hone, te_app, ← hdt]
      have hmn : (if m < 2 * e.wait then m else 2 * e.wait) = min (2 * e.wait) m := by omega
      refine ⟨by unfold small; omega, ?_⟩
      skip
      refine sem_drawG l40_0_ok (by kernel_rfl) ?_
      intro KK hKK
      simp (maxSteps := 10000000) only [go_sem, l40_0, hin, w1, w2, w3, hmn, hp, te_inR hkl, te_len, Int.natCast_nonneg, Nat.zero_add, inc64 (show k < 1000000000000 by omega)]
      subst hKK
      simp (maxSteps := 10000000) only [go_sem, hin, w1, w2, w3, hmn, hp, te_inR hkl, te_len, Int.natCast_nonneg, Nat.zero_add, inc64 (show k < 1000000000000 by omega)]
      refine sem_drawG l40_1_ok (by kernel_rfl) ?_
      intro KK hKK
      simp (maxSteps := 10000000) only [go_sem, l40_1, hin, w1, w2, w3, hmn, hp, te_inR hkl, te_len, Int.natCast_nonneg, Nat.zero_add, inc64 (show k < 1000000000000 by omega)]
      subst hKK
      simp (maxSteps := 10000000) only [go_sem, hin, w1, w2, w3, hmn, hp, te_inR hkl, te_len, Int.natCast_nonneg, Nat.zero_add, inc64 (show k < 1000000000000 by omega)]
      refine ⟨k + 1, by omega, hlt, [0, 1, 4], ?_⟩
      have hln : (dueL now (l.take (k + 1))).length = (dueL now (l.take k)).length + 1 := by rw [hdt]; simp
      simp only [Emb, go_sem, hln]
    · have c' : l[k].due > now := by omega
      rw [if_neg c] at hdt
      have hue : updE m now l[k] = l[k] := by unfold updE; rw [if_neg c]
      have hsm := hsame hue
      generalize l[k] = e at *
      skip
      refine run_ok 4000 _ _ _ _ ?_
      simp (maxSteps := 10000000) only [go_sem, hin, r0, r1, r2, r3, te_h0 hkl, te_h1 hkl, te_h2 hkl, te_h3 hkl, te_len, c', Int.natCast_nonneg, Nat.zero_add, inc64 (show k < 1000000000000 by omega)]
      refine ⟨k + 1, by omega, hlt, [0, 1, 2], ?_⟩
      simp only [Emb, go_sem, hdt, hsm]
  · have hge : ¬ (k : Int) < (l.length : Int) := by omega
    have hk : k = l.length := by omega
    subst hk
    have e1 : (l.take l.length).map (updE m now) ++ l.drop l.length = l.map (updE m now) := by simp
    have e2 : l.take l.length = l := List.take_length
    rw [e1, e2]
    have hsl := stab_len (dueL now l)
    have hdl : (dueL now l).length ≤ l.length := List.length_filter_le _ _
    generalize stab (dueL now l) = S at *
    generalize dueL now l = D at *
    skip
    refine run_ok 4000 _ _ _ _ ?_
    simp (maxSteps := 10000000) only [go_sem, hge]
    refine run_ok 4000 _ _ _ _ ?_
    simp (maxSteps := 10000000) only [go_sem, hge]
    refine sem_call rfl rfl (((hs).embed [2] rfl (by repeat' first | exact trivial | rfl | (simp only [go_sem]; done) | constructor) rfl (by first | rfl | simp only [go_sem]) rfl (by simp)).mono ?_)
    rintro _ _ ⟨_, _, ⟨rfl, rfl⟩, rfl, rfl⟩
    refine run_ok 4000 _ _ _ _ ?_
    simp (maxSteps := 10000000) only [go_sem, hge]
    rw [← hsl]
    refine sem_virt 8 1 rfl ?_
    refine sem_rounds (fun j : Nat => j ≤ S.length)
      (fun j => [(0, .pbox 0 0), (8, .sl 3 0 j j false), (58, .sl 2 0 S.length S.length false), (59, .int .i64 S.length), (60, .int .i64 (j : Nat))])
      (fun j => [.box [.int .i64 f, .int .i64 m, .sl 1 0 l.length l.length false], .row 4 (terows (l.map (updE m now))), .row 4 (terows S), .row 1 (uv (numsT (S.take j)))]) (fun j => S.length - j) 0 [0, 1, 2, 3] (Nat.zero_le _) ?_ ?_
    · simp [Emb, go_sem, numsT, iv]
    intro j hj
    by_cases hlj : j < S.length
    · have hjn : (j : Int) < (S.length : Int) := by omega
      have r0 := te_r0 hlj; have r1 := te_r1 hlj; have r2 := te_r2 hlj; have r3 := te_r3 hlj
      have hnx : uv (numsT (S.take j)) ++ uv [S[j].n] = uv (numsT (S.take (j + 1))) := by rw [uv_app]; congr 1; unfold numsT; rw [List.take_succ_eq_append_getElem hlj, List.map_append]; rfl
      have hln : (numsT (S.take j)).length = j := by unfold numsT; rw [List.length_map, List.length_take]; omega
      have hal : sub (uv (numsT (S.take j))) 0 j = uv (numsT (S.take j)) := by have := uv_all (numsT (S.take j)); rwa [hln] at this
      generalize S[j] = e at *
      have hone : [[AV.int .u32 e.n]] = uv [e.n] := rfl
      skip
      refine run_ok 4000 _ _ _ _ ?_
      simp (maxSteps := 10000000) only [go_sem, hjn, r0, r1, r2, r3, te_h0 hlj, te_h1 hlj, te_h2 hlj, te_h3 hlj, te_len, iv_len, hln, hal, Nat.le_refl, Int.natCast_nonneg, Nat.zero_add, inc64 (show j < 1000000000000 by omega)]
      rw [hone, hnx]
      refine ⟨by unfold small; omega, j + 1, by omega, hlj, [0, 1, 2, 5], ?_⟩
      simp only [Emb, go_sem]
    · have hgj : ¬ (j : Int) < (S.length : Int) := by omega
      have hjj : j = S.length := by omega
      subst hjj
      rw [List.take_length]
      have hnl : (numsT S).length = S.length := by simp [numsT]
      have hal := uv_all (numsT S)
      rw [hnl] at hal
      skip
      refine run_ok 4000 _ _ _ _ ?_
      simp (maxSteps := 10000000) only [go_sem, hgj]
      refine run_ok 4000 _ _ _ _ ?_
      simp (maxSteps := 10000000) only [go_sem, hgj]
      refine ⟨_, _, .fz 3 rfl (by simp only [go_sem, iv_len, hnl, Nat.le_refl]) (.sub [0, 1] ?_ .done), rfl, rfl⟩
      simp only [EmbV, go_sem, hal, List.length_map]
theorem tindexOf_spec (ns : List Int) (n : Int) (tight : Bool) (hl : ns.length ≤ 1000000) : Tri Try.prog 85 [.vsl 1 (uv ns) tight, .int .u32 n] [] (fun v m => (∃ k : Int, v = .int .i64 k ∧ (0 ≤ k ↔ n ∈ ns)) ∧ m = []) := by
  refine Tri.post ?_
  skip
  refine (Tri.enter (rl := r85) (code := c85) (by kernel_rfl) Try.func85 rfl c85_ok (by kernel_rfl) (by kernel_rfl) ?_)
  refine run_ok 4000 _ _ _ _ ?_
  simp (maxSteps := 10000000) only [go_sem, c85, r85, iv_len]
  refine sem_rounds (fun i : Nat => i ≤ ns.length ∧ ∀ j, j < i → ∀ h : j < ns.length, n ≠ ns[j]) (fun i => [(0, .vsl 1 (uv ns) tight), (1, .int .u32 n), (7, .int .i64 ns.length), (8, .int .i64 (i : Nat))]) (fun i => []) (fun i => ns.length - i) 0 [] ⟨Nat.zero_le _, fun j h => by omega⟩ ?_ ?_
  · simp only [Emb, go_sem]
  rintro i ⟨hi, hne⟩
  by_cases hlt : i < ns.length
  · have hin : (i : Int) < (ns.length : Int) := by omega
    have r0 := iv_rint (k := .u32) hlt
    by_cases c : n = ns[i]
    · have q : (n == ns[i]) = true := by simpa using c
      skip
      refine run_ok 4000 _ _ _ _ ?_
      simp (maxSteps := 10000000) only [go_sem, hin, r0, iv_hasI hlt, q, iv_len, Int.natCast_nonneg]
      refine ⟨_, _, .sub [] ?_ .done, ⟨(i : Int), rfl, ⟨fun _ => by rw [c]; exact List.getElem_mem hlt, fun _ => by omega⟩⟩, rfl⟩
      simp only [EmbV, go_sem]
    · have q : (n == ns[i]) = false := by simpa using c
      skip
      refine run_ok 4000 _ _ _ _ ?_
      simp (maxSteps := 10000000) only [go_sem, hin, r0, iv_hasI hlt, q, iv_len, Int.natCast_nonneg, inc64 (show i < 1000000000000 by omega)]
      refine ⟨i + 1, by omega, ⟨hlt, fun j hj h => ?_⟩, [], ?_⟩
      · by_cases e : j = i
        · subst e; exact c
        · exact hne j (by omega) h
      · simp only [Emb, go_sem]
  · have hge : ¬ (i : Int) < (ns.length : Int) := by omega
    skip
    refine run_ok 4000 _ _ _ _ ?_
    simp (maxSteps := 10000000) only [go_sem, hge]
    refine run_ok 4000 _ _ _ _ ?_
    simp (maxSteps := 10000000) only [go_sem, hge]
    refine ⟨_, _, .sub [] ?_ .done, ⟨-1, rfl, ⟨fun h => by omega, fun h => ?_⟩⟩, rfl⟩
    · simp only [EmbV, go_sem]
    · obtain ⟨j, hj, e⟩ := List.getElem_of_mem h
      exact absurd e.symm (hne j (by omega) hj)
theorem contains_spec (ns : List Int) (n : Int) (tight : Bool) (hl : ns.length ≤ 1000000) : Tri Try.prog 56 [.vsl 1 (uv ns) tight, .int .u32 n] [] (fun v m => v = .bsym (decide (n ∈ ns)) ∧ m = []) := by
  refine Tri.post ?_
  have hi := tindexOf_spec ns n tight hl
  refine (Tri.enter (rl := r56) (code := c56) (by kernel_rfl) Try.func56 rfl c56_ok (by kernel_rfl) (by kernel_rfl) ?_)
  refine run_ok 4000 _ _ _ _ ?_
  simp (maxSteps := 10000000) only [go_sem, c56, r56]
  refine sem_call rfl rfl (((hi).embed [] rfl (by repeat' first | exact trivial | rfl | (simp only [go_sem]; done) | constructor) rfl (by first | rfl | simp only [go_sem]) rfl (by simp)).mono ?_)
  rintro _ _ ⟨_, _, ⟨⟨k, rfl, hk⟩, rfl⟩, rfl, rfl⟩
  refine run_ok 4000 _ _ _ _ ?_
  simp (maxSteps := 10000000) only [go_sem]
  refine ⟨_, _, .sub [] ?_ .done, rfl, rfl⟩
  have : decide (k ≥ 0) = decide (n ∈ ns) := by rw [decide_eq_decide]; exact hk
  simp only [EmbV, go_sem, this]
theorem stop1_spec (ns : List Int) (e : TE) (tight : Bool) (hl : ns.length ≤ 1000000) : Tri Try.prog 55 [.agg [.int .u32 e.n, .int .i64 e.due, .int .i64 e.wait, .int .i64 e.times], .pbox 0 0] [.box [.vsl 1 (uv ns) tight]] (fun r m => r = .bsym (decide (e.n ∈ ns)) ∧ m = [.box [.vsl 1 (uv ns) tight]]) := by
  refine Tri.post ?_
  refine (Tri.enter (rl := r55) (code := c55) (by kernel_rfl) Try.func55 rfl c55_ok (by kernel_rfl) (by kernel_rfl) ?_)
  refine run_ok 4000 _ _ _ _ ?_
  simp (maxSteps := 10000000) only [go_sem, c55, r55]
  refine sem_call rfl rfl (((contains_spec ns e.n tight hl).embed [] rfl trivial rfl rfl rfl (by simp)).mono ?_)
  rintro _ _ ⟨_, _, ⟨rfl, rfl⟩, rfl, rfl⟩
  refine run_ok 4000 _ _ _ _ ?_
  simp (maxSteps := 10000000) only [go_sem]
  refine ⟨_, _, .sub [0] ?_ .done, rfl, rfl⟩
  simp only [EmbV, go_sem]
theorem tclone_spec (L : List TE) (hL : L.length ≤ 100000) : Tri Try.prog 54 [.sl 0 0 L.length L.length false] [.row 4 (terows L)] (fun v m => v = .sl 1 0 L.length L.length false ∧ m = [.row 4 (terows L), .row 4 (terows L)]) := by
  refine Tri.post ?_
  refine (Tri.enter (rl := r54) (code := c54) (by kernel_rfl) Try.func54 rfl c54_ok (by kernel_rfl) (by kernel_rfl) ?_)
  refine run_ok 4000 _ _ _ _ ?_
  simp (maxSteps := 10000000) only [go_sem, c54, r54]
  refine sem_eqn rfl rfl rfl fun b hb => ?_
  cases b with
  | false =>
    skip
    refine run_ok 4000 _ _ _ _ ?_
    simp (maxSteps := 10000000) only [go_sem, te_all, te_len]
    refine ⟨by unfold small; omega, _, _, .sub [0, 1] ?_ .done, rfl, rfl⟩
    simp only [EmbV, go_sem]
  | true =>
    have h0 : L.length = 0 := by
      by_cases h : L.length = 0
      · exact h
      · exact absurd (hb h) (by simp)
    have : L = [] := List.length_eq_zero_iff.1 h0
    subst this
    skip
    refine run_ok 2 _ _ _ _ ?_
    simp (maxSteps := 10000000) only [go_sem, te_all, te_len]
    skip
    refine sem_virt 2 4 rfl ?_
    refine run_ok 4000 _ _ _ _ ?_
    simp (maxSteps := 10000000) only [go_sem, te_all, te_len]
    refine ⟨_, _, .sub [0, 1] ?_ .done, rfl, rfl⟩
    simp only [EmbV, go_sem, terows, List.map_nil]
theorem tfilt_yes {α : Type} {L : List α} {p : Nat} (hp : p < L.length) {H : α → Bool} (h : H L[p] = true) : (L.take (p + 1)).filter (fun x => !H x) = (L.take p).filter (fun x => !H x) := by
  rw [List.take_succ_eq_append_getElem hp, List.filter_append]
  simp [h]
theorem tfilt_no {α : Type} {L : List α} {p : Nat} (hp : p < L.length) {H : α → Bool} (h : H L[p] = false) : (L.take (p + 1)).filter (fun x => !H x) = (L.take p).filter (fun x => !H x) ++ [L[p]] := by
  rw [List.take_succ_eq_append_getElem hp, List.filter_append]
  simp [h]
theorem tdrop_get {α : Type} {L M : List α} {j : Nat} (h : j < L.length) (hl : M.length = L.length) (hd : M.drop j = L.drop j) : M[j]'(by omega) = L[j] := by
  have h1 : M.drop j = M[j]'(by omega) :: M.drop (j + 1) := List.drop_eq_getElem_cons (by omega)
  have h2 : L.drop j = L[j] :: L.drop (j + 1) := List.drop_eq_getElem_cons h
  rw [h1, h2] at hd
  injection hd
theorem tdrop_next {α : Type} {L M : List α} {j : Nat} (hd : M.drop j = L.drop j) : M.drop (j + 1) = L.drop (j + 1) := by
  rw [← List.drop_drop, ← List.drop_drop, hd]
set_option maxHeartbeats 4000000 in
theorem tdelete_spec (fid : FuncId) (v : Int ⊕ (List Int × Bool)) (H : TE → Bool)
    (hc : ∀ e : TE, Tri Try.prog fid [.agg [.int .u32 e.n, .int .i64 e.due, .int .i64 e.wait, .int .i64 e.times], .pbox 0 0] [.box [capV v]] (fun r m => r = .bsym (H e) ∧ m = [.box [capV v]])) (L : List TE) (hL : L.length ≤ 10000) :
    Tri Try.prog 53 [.sl 0 0 L.length L.length false, .fn fid [] [.pbox 1 0]] [.row 4 (terows L), .box [capV v]]
    (fun r m => r = .sl 0 0 (L.filter fun e => !H e).length (L.filter fun e => !H e).length false ∧ m = [.row 4 (terows (L.filter fun e => !H e)), .box [capV v]]) := by
  refine Tri.post ?_
  have hx := tindex_spec fid v H hc L (by omega)
  unfold idxH at hx
  by_cases ha : L.any H = true
  case neg =>
    have ha : L.any H = false := by simpa using ha
    have hf : (L.filter fun x => !H x) = L := by
      rw [List.filter_eq_self]; intro x hx; rw [List.any_eq_false] at ha; simpa using ha x hx
    rw [hf]
    rw [ha] at hx
    simp only [Bool.false_eq_true, if_false] at hx
    refine (Tri.enter (rl := r53) (code := c53) (by kernel_rfl) Try.func53 rfl c53_ok (by kernel_rfl) (by kernel_rfl) ?_)
    refine run_ok 4000 _ _ _ _ ?_
    simp (maxSteps := 10000000) only [go_sem, c53, r53]
    refine sem_call rfl rfl (((hx).embed [0, 1] rfl (by repeat' first | exact trivial | rfl | (simp only [go_sem]; done) | constructor) rfl (by first | rfl | simp only [go_sem]) rfl (by simp)).mono ?_)
    rintro _ _ ⟨_, _, ⟨rfl, rfl⟩, rfl, rfl⟩
    refine run_ok 4000 _ _ _ _ ?_
    simp (maxSteps := 10000000) only [go_sem]
    refine ⟨_, _, .sub [0, 1] ?_ .done, rfl, rfl⟩
    simp only [EmbV, go_sem]
  rw [ha, if_pos rfl] at hx
  have hp : L.findIdx H < L.length := by rw [List.findIdx_lt_length]; simpa using ha
  have hpre : (L.take (L.findIdx H)).filter (fun x => !H x) = L.take (L.findIdx H) := by
    rw [List.filter_eq_self]
    intro x hx
    obtain ⟨j, hj, rfl⟩ := List.getElem_of_mem hx
    rw [List.length_take] at hj
    rw [List.getElem_take]
    have := List.not_of_lt_findIdx (xs := L) (p := H) (i := j) (by omega)
    simp only [this]; rfl
  have hhit : H (L[L.findIdx H]) = true := List.findIdx_getElem (xs := L) (p := H) (w := hp)
  generalize L.findIdx H = p at *
  have hne : ((p : Int) == (-1)) = false := by rw [beq_eq_false_iff_ne]; omega
  have hf0 := tfilt_yes (H := H) hp hhit
  skip
  refine (Tri.enter (rl := r53) (code := c53) (by kernel_rfl) Try.func53 rfl c53_ok (by kernel_rfl) (by kernel_rfl) ?_)
  refine run_ok 4000 _ _ _ _ ?_
  simp (maxSteps := 10000000) only [go_sem, c53, r53, hne, inc64 (show p < 1000000000000 by omega)]
  refine sem_call rfl rfl (((hx).embed [0, 1] rfl (by repeat' first | exact trivial | rfl | (simp only [go_sem]; done) | constructor) rfl (by first | rfl | simp only [go_sem]) rfl (by simp)).mono ?_)
  rintro _ _ ⟨_, _, ⟨rfl, rfl⟩, rfl, rfl⟩
  refine run_ok 4000 _ _ _ _ ?_
  simp (maxSteps := 10000000) only [go_sem, hne, inc64 (show p < 1000000000000 by omega)]
  refine sem_rounds (fun x : Nat × Nat × List TE => x.1 ≤ L.length ∧ x.2.1 < x.1 ∧ x.2.2.length = L.length ∧ x.2.2.take x.2.1 = (L.take x.1).filter (fun x => !H x) ∧ x.2.2.drop x.1 = L.drop x.1)
    (fun x => [(0, .sl 0 0 L.length L.length false), (1, .fn fid [] [.pbox 1 0]), (5, .int .i64 (x.2.1 : Nat)), (6, .int .i64 (x.1 : Nat))])
    (fun x => [.row 4 (terows x.2.2), .box [capV v]]) (fun x => L.length - x.1) (p + 1, p, L) [0, 1]
    ⟨by simp only; omega, by simp only; omega, rfl, by simp only; rw [hf0, hpre], rfl⟩ ?_ ?_
  · simp only [Emb, go_sem]
  rintro ⟨j, i, M⟩ ⟨h1, h2, h3, h4, h5⟩
  simp only at h1 h2 h3 h4 h5
  by_cases hlt : j < L.length
  · have hltM : j < M.length := by omega
    have hin : (j : Int) < (L.length : Int) := by omega
    have hii : (i : Int) < (L.length : Int) := by omega
    have hiM : i < M.length := by omega
    have hga := tdrop_get hlt h3 h5
    have hdn := tdrop_next h5
    have hcl := hc M[j]
    have r0 := te_r0 hltM; have r1 := te_r1 hltM; have r2 := te_r2 hltM; have r3 := te_r3 hltM
    have hput := te_rput hiM M[j]
    have hinR := te_inR hiM
    cases hh : H M[j] with
    | false =>
      have hLj : H L[j] = false := by rw [← hga]; exact hh
      have hf := tfilt_no (H := H) hlt hLj
      rw [hh] at hcl
      have hMl : (M.set i M[j]).length = L.length := by rw [List.length_set]; exact h3
      have k4 : (M.set i M[j]).take (i + 1) = (L.take (j + 1)).filter (fun x => !H x) := by
        rw [hf, ← h4, List.take_succ_eq_append_getElem (by rw [List.length_set]; exact hiM), List.getElem_set_self, hga, List.take_set_of_le (Nat.le_refl _)]
      have k5 : (M.set i M[j]).drop (j + 1) = L.drop (j + 1) := by rw [List.drop_set_of_lt (by omega)]; exact hdn
      generalize M.set i M[j] = M2 at *
      generalize M[j] = e at *
      skip
      refine run_ok 4000 _ _ _ _ ?_
      simp (maxSteps := 10000000) only [go_sem, te_h0 hltM, te_h1 hltM, te_h2 hltM, te_h3 hltM, r0, r1, r2, r3, hput, hinR, hin, hii, te_len, Int.natCast_nonneg, inc64 (show j < 1000000000000 by omega), inc64 (show i < 1000000000000 by omega)]
      refine sem_callv rfl rfl rfl (((hcl).embed [1] rfl (by repeat' first | exact trivial | rfl | (simp only [go_sem]; done) | constructor) rfl (by first | rfl | simp only [go_sem]) rfl (by simp)).mono ?_)
      rintro _ _ ⟨_, _, ⟨rfl, rfl⟩, rfl, rfl⟩
      refine run_ok 4000 _ _ _ _ ?_
      simp (maxSteps := 10000000) only [go_sem, te_h0 hltM, te_h1 hltM, te_h2 hltM, te_h3 hltM, r0, r1, r2, r3, hput, hinR, hin, hii, te_len, Int.natCast_nonneg, inc64 (show j < 1000000000000 by omega), inc64 (show i < 1000000000000 by omega)]
      refine ⟨(j + 1, i + 1, M2), by simp only; omega, ⟨by simp only; omega, by simp only; omega, hMl, k4, k5⟩, [0, 1], ?_⟩
      simp only [Emb, go_sem]
    | true =>
      have hLj : H L[j] = true := by rw [← hga]; exact hh
      have hf := tfilt_yes (H := H) hlt hLj
      rw [hh] at hcl
      have k4 : M.take i = (L.take (j + 1)).filter (fun x => !H x) := by rw [hf]; exact h4
      generalize M[j] = e at *
      skip
      refine run_ok 4000 _ _ _ _ ?_
      simp (maxSteps := 10000000) only [go_sem, te_h0 hltM, te_h1 hltM, te_h2 hltM, te_h3 hltM, r0, r1, r2, r3, hin, hii, te_len, Int.natCast_nonneg, inc64 (show j < 1000000000000 by omega)]
      refine sem_callv rfl rfl rfl (((hcl).embed [1] rfl (by repeat' first | exact trivial | rfl | (simp only [go_sem]; done) | constructor) rfl (by first | rfl | simp only [go_sem]) rfl (by simp)).mono ?_)
      rintro _ _ ⟨_, _, ⟨rfl, rfl⟩, rfl, rfl⟩
      refine run_ok 4000 _ _ _ _ ?_
      simp (maxSteps := 10000000) only [go_sem, te_h0 hltM, te_h1 hltM, te_h2 hltM, te_h3 hltM, r0, r1, r2, r3, hin, hii, te_len, Int.natCast_nonneg, inc64 (show j < 1000000000000 by omega)]
      refine ⟨(j + 1, i, M), by simp only; omega, ⟨by simp only; omega, by simp only; omega, h3, k4, hdn⟩, [0, 1], ?_⟩
      simp only [Emb, go_sem]
  · have hj : j = L.length := by omega
    subst hj
    rw [List.take_length] at h4
    have hge : ¬ (L.length : Int) < (L.length : Int) := by omega
    have hk : (L.filter fun x => !H x).length = i := by rw [← h4, List.length_take]; omega
    have hbk : (terows M).take i = terows (L.filter fun x => !H x) := by rw [← h4, terows, terows, List.map_take]
    have hbl : ((terows M).take i).length = i := by rw [List.length_take, te_len]; omega
    have f1 : (i : Int) ≤ (L.length : Int) := by omega
    skip
    refine run_ok 4000 _ _ _ _ ?_
    simp (maxSteps := 10000000) only [go_sem, hge]
    refine sem_tell 0 i rfl ?_
    skip
    skip
    refine run_ok 3 _ _ _ _ ?_
    simp (maxSteps := 10000000) only [go_sem, f1, Int.natCast_nonneg]
    skip
    refine sem_clrT rfl rfl rfl (by rw [hbl]; exact Nat.le_refl _) ?_
    skip
    refine run_ok 4000 _ _ _ _ ?_
    simp (maxSteps := 10000000) only [go_sem, f1, Int.natCast_nonneg, Nat.sub_zero]
    refine ⟨_, _, .like Like.cap (.sub [0, 1] ?_ .done), rfl, rfl⟩
    simp only [EmbV, go_sem, hk, hbk]
def outL (ns : List Int) (l : List TE) : List TE := l.filter fun e => !decide (e.n ∈ ns)
theorem outL_len (ns : List Int) (l : List TE) : (outL ns l).length ≤ l.length := List.length_filter_le _ _
theorem tstop_spec (f m : Int) (l : List TE) (ns : List Int) (tight : Bool) (hl : l.length ≤ 10000) (hn : ns.length ≤ 1000000) :
    Tri Try.prog 30 [.pbox 0 0, .vsl 1 (uv ns) tight] (tmM f m l) (fun v q => v = .int .i64 ((l.length : Int) - (outL ns l).length) ∧ q = tmM2 f m (outL ns l)) := by
  refine Tri.post ?_
  have hc := tclone_spec l (by omega)
  have hd := tdelete_spec 55 (.inr (ns, tight)) (fun e => decide (e.n ∈ ns)) (fun e => stop1_spec ns e tight hn) l hl
  have h1 := outL_len ns l
  simp only [capV] at hd
  have w1 : iwrap .i64 ((l.length : Int) - ((outL ns l).length : Int)) = (l.length : Int) - (outL ns l).length := iwrap_i64_in (by omega)
  change Tri Try.prog _ _ _ (fun r q => r = .sl 0 0 (outL ns l).length (outL ns l).length false ∧ q = [.row 4 (terows (outL ns l)), .box [.vsl 1 (uv ns) tight]]) at hd
  unfold tmM tmM2
  skip
  refine (Tri.enter (rl := r30) (code := c30) (by kernel_rfl) Try.func30 rfl c30_ok (by kernel_rfl) (by kernel_rfl) ?_)
  refine run_ok 4000 _ _ _ _ ?_
  simp (maxSteps := 10000000) only [go_sem, c30, r30, w1]
  refine sem_call rfl rfl (((hc).embed [1] rfl (by repeat' first | exact trivial | rfl | (simp only [go_sem]; done) | constructor) rfl (by first | rfl | simp only [go_sem]) rfl (by simp)).mono ?_)
  rintro _ _ ⟨_, _, ⟨rfl, rfl⟩, rfl, rfl⟩
  refine run_ok 4000 _ _ _ _ ?_
  simp (maxSteps := 10000000) only [go_sem, w1]
  refine sem_call rfl rfl (((hd).embed [3, 2] rfl (by repeat' first | exact trivial | rfl | (simp only [go_sem]; done) | constructor) rfl (by first | rfl | simp only [go_sem]) rfl (by simp)).mono ?_)
  rintro _ _ ⟨_, _, ⟨rfl, rfl⟩, rfl, rfl⟩
  refine run_ok 4000 _ _ _ _ ?_
  simp (maxSteps := 10000000) only [go_sem, w1]
  refine ⟨_, _, .sub [0, 1, 3] ?_ .done, rfl, rfl⟩
  simp only [EmbV, go_sem]
end Go.AEX
