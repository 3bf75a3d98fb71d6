/- Timers: contracts of what is simple. -/
import Derived.Test.YtleggkkbdmnfkaaCom
import Derived.Test.YtleggkkbdmnfkaaCF
import Derived.Test.YtleggkkbdmnfkaaAEzh
import Derived.Test.YtleggkkbdmnfkaaAEzi
import Derived.Test.YtleggkkbdmnfkaaAEzj
import Derived.Test.YtleggkkbdmnfkaaAEze
import Derived.Test.YtleggkkbdmnfkaaAEzf
import Derived.KernelRfl
namespace Go.AEX
open Go Go.AE Go.Proofs
set_option maxRecDepth 100000
set_option linter.unusedVariables false
set_option linter.unusedSimpArgs false

attribute [go_sem] Int.reduceGE Int.reduceGT
structure TE where
  n : Int
  due : Int
  wait : Int
  times : Int
def terow (e : TE) : List AV := [.int .u32 e.n, .int .i64 e.due, .int .i64 e.wait, .int .i64 e.times]
def terows (l : List TE) : List (List AV) := l.map terow
theorem te_len (l : List TE) : (terows l).length = l.length := by simp [terows]
theorem te_get {l : List TE} {i : Nat} (h : i < l.length) : (terows l)[i]? = some (terow l[i]) := by simp [terows, h]
theorem te_h0 {l : List TE} {i : Nat} (h : i < l.length) : hasI .u32 (terows l) i 0 := ⟨_, _, te_get h, rfl⟩
theorem te_h1 {l : List TE} {i : Nat} (h : i < l.length) : hasI .i64 (terows l) i 1 := ⟨_, _, te_get h, rfl⟩
theorem te_h2 {l : List TE} {i : Nat} (h : i < l.length) : hasI .i64 (terows l) i 2 := ⟨_, _, te_get h, rfl⟩
theorem te_h3 {l : List TE} {i : Nat} (h : i < l.length) : hasI .i64 (terows l) i 3 := ⟨_, _, te_get h, rfl⟩
theorem te_r0 {l : List TE} {i : Nat} (h : i < l.length) : rint (terows l) i 0 = l[i].n := by simp [rint, List.getD_eq_getElem?_getD, te_get h, terow]
theorem te_r1 {l : List TE} {i : Nat} (h : i < l.length) : rint (terows l) i 1 = l[i].due := by simp [rint, List.getD_eq_getElem?_getD, te_get h, terow]
theorem te_r2 {l : List TE} {i : Nat} (h : i < l.length) : rint (terows l) i 2 = l[i].wait := by simp [rint, List.getD_eq_getElem?_getD, te_get h, terow]
theorem te_r3 {l : List TE} {i : Nat} (h : i < l.length) : rint (terows l) i 3 = l[i].times := by simp [rint, List.getD_eq_getElem?_getD, te_get h, terow]
theorem te_app (a b : List TE) : terows a ++ terows b = terows (a ++ b) := by simp [terows]
theorem te_all (l : List TE) : sub (terows l) 0 l.length = terows l := by
  simp only [sub, List.drop_zero]; exact List.take_of_length_le (by simp [terows])
theorem te_inR {l : List TE} {i : Nat} (h : i < l.length) : inR (terows l) i 0 4 := ⟨_, te_get h, by simp [terow]⟩
theorem te_rput {l : List TE} {i : Nat} (h : i < l.length) (e : TE) : rput (terows l) i 0 [.int .u32 e.n, .int .i64 e.due, .int .i64 e.wait, .int .i64 e.times] = terows (l.set i e) := by
  unfold rput terows
  apply List.ext_getElem?
  intro j
  rw [List.getElem?_modify, List.getElem?_map, List.getElem?_map, List.getElem?_set]
  by_cases hj : i = j
  · subst hj; simp [h, terow]
  · simp [hj]
abbrev uv (l : List Int) : List (List AV) := iv .u32 l
theorem uv_app (a b : List Int) : uv a ++ uv b = uv (a ++ b) := by simp [iv]
theorem uv_all (l : List Int) : sub (uv l) 0 l.length = uv l := by rw [iv_sub]; simp
def tmM (f m : Int) (l : List TE) : Mem := [.box [.int .i64 f, .int .i64 m, .sl 1 0 l.length l.length false], .row 4 (terows l)]
def tmM2 (f m : Int) (l : List TE) : Mem := [.box [.int .i64 f, .int .i64 m, .sl 2 0 l.length l.length false], .gone, .row 4 (terows l)]
/-! ### which may be -/
def mayF (f m : Int) : Bool := decide (1 ≤ f ∧ f ≤ m ∧ m ≤ 1048576)
theorem tcheck_spec (f m : Int) : Tri Try.prog 20 [.agg [.int .i64 f, .int .i64 m]] [] (fun v q => v = .int .i64 (if mayF f m then 0 else 4) ∧ q = []) := by
  refine Tri.post ?_
  by_cases c1 : f < 1
  · have h : mayF f m = false := by simp [mayF]; omega
    skip
    refine (Tri.enter (rl := r20) (code := c20) (by kernel_rfl) Try.func20 rfl c20_ok (by kernel_rfl) (by kernel_rfl) ?_)
    refine run_ok 4000 _ _ _ _ ?_
    simp (maxSteps := 10000000) only [go_sem, c20, r20, c1]
    refine ⟨_, _, .sub [] ?_ .done, rfl, rfl⟩
    simp [EmbV, go_sem, h]
  by_cases c2 : m < f
  · have h : mayF f m = false := by simp [mayF]; omega
    skip
    refine (Tri.enter (rl := r20) (code := c20) (by kernel_rfl) Try.func20 rfl c20_ok (by kernel_rfl) (by kernel_rfl) ?_)
    refine run_ok 4000 _ _ _ _ ?_
    simp (maxSteps := 10000000) only [go_sem, c20, r20, c1, c2]
    refine ⟨_, _, .sub [] ?_ .done, rfl, rfl⟩
    simp [EmbV, go_sem, h]
  by_cases c3 : m > 1048576
  · have h : mayF f m = false := by simp [mayF]; omega
    skip
    refine (Tri.enter (rl := r20) (code := c20) (by kernel_rfl) Try.func20 rfl c20_ok (by kernel_rfl) (by kernel_rfl) ?_)
    refine run_ok 4000 _ _ _ _ ?_
    simp (maxSteps := 10000000) only [go_sem, c20, r20, c1, c2, c3]
    refine ⟨_, _, .sub [] ?_ .done, rfl, rfl⟩
    simp [EmbV, go_sem, h]
  · have h : mayF f m = true := by simp [mayF]; omega
    skip
    refine (Tri.enter (rl := r20) (code := c20) (by kernel_rfl) Try.func20 rfl c20_ok (by kernel_rfl) (by kernel_rfl) ?_)
    refine run_ok 4000 _ _ _ _ ?_
    simp (maxSteps := 10000000) only [go_sem, c20, r20, c1, c2, c3]
    refine ⟨_, _, .sub [] ?_ .done, rfl, rfl⟩
    simp [EmbV, go_sem, h]
theorem tnew_spec (f m : Int) (h : mayF f m = true) : Tri Try.prog 8 [.agg [.int .i64 f, .int .i64 m]] [] (fun v q => v = .tup [.pbox 0 0, .int .i64 0] ∧ q = [.box [.int .i64 f, .int .i64 m, .nilsl]]) := by
  refine Tri.post ?_
  have hc := tcheck_spec f m
  rw [h] at hc
  refine (Tri.enter (rl := r8) (code := c8) (by kernel_rfl) Try.func8 rfl c8_ok (by kernel_rfl) (by kernel_rfl) ?_)
  refine run_ok 4000 _ _ _ _ ?_
  simp (maxSteps := 10000000) only [go_sem, c8, r8]
  refine sem_call rfl rfl (((hc).embed [] rfl trivial rfl rfl rfl (by simp)).mono ?_)
  rintro _ _ ⟨_, _, ⟨rfl, rfl⟩, rfl, rfl⟩
  refine run_ok 4000 _ _ _ _ ?_
  simp (maxSteps := 10000000) only [go_sem]
  refine ⟨_, _, .sub [1] ?_ .done, rfl, rfl⟩
  simp only [EmbV, go_sem]
theorem tnew_no (f m : Int) (h : mayF f m = false) : Tri Try.prog 8 [.agg [.int .i64 f, .int .i64 m]] [] (fun v q => v = .tup [.nilptr, .int .i64 4] ∧ q = []) := by
  refine Tri.post ?_
  have hc := tcheck_spec f m
  rw [h] at hc
  refine (Tri.enter (rl := r8) (code := c8) (by kernel_rfl) Try.func8 rfl c8_ok (by kernel_rfl) (by kernel_rfl) ?_)
  refine run_ok 4000 _ _ _ _ ?_
  simp (maxSteps := 10000000) only [go_sem, c8, r8]
  refine sem_call rfl rfl (((hc).embed [] rfl trivial rfl rfl rfl (by simp)).mono ?_)
  rintro _ _ ⟨_, _, ⟨rfl, rfl⟩, rfl, rfl⟩
  refine run_ok 4000 _ _ _ _ ?_
  simp (maxSteps := 10000000) only [go_sem]
  refine ⟨_, _, .sub [] ?_ .done, rfl, rfl⟩
  simp only [EmbV, go_sem]
/-! ### where one is -/
def idxH (H : TE → Bool) (l : List TE) : Int := if l.any H then ((l.findIdx H : Nat) : Int) else -1
/-- What a predicate captures: a number, or some. -/
def capV : Int ⊕ (List Int × Bool) → AV
  | .inl n => .int .u32 n
  | .inr l => .vsl 1 (uv l.1) l.2
theorem capV_ids (k : Nat) (c : Int ⊕ (List Int × Bool)) : ids k (capV c) = true := by cases c <;> rfl
theorem capV_ren (π : List Nat) (N : Nat) (c : Int ⊕ (List Int × Bool)) : ren π N (capV c) = capV c := by cases c <;> rfl
attribute [go_sem] capV_ids capV_ren
theorem tindex_spec (fid : FuncId) (v : Int ⊕ (List Int × Bool)) (H : TE → Bool)
    (hc : ∀ e : TE, Tri Try.prog fid [.agg [.int .u32 e.n, .int .i64 e.due, .int .i64 e.wait, .int .i64 e.times], .pbox 0 0] [.box [capV v]] (fun r m => r = .bsym (H e) ∧ m = [.box [capV v]])) (L : List TE) (hL : L.length ≤ 100000) :
    Tri Try.prog 31 [.sl 0 0 L.length L.length false, .fn fid [] [.pbox 1 0]] [.row 4 (terows L), .box [capV v]] (fun r m => r = .int .i64 (idxH H L) ∧ m = [.row 4 (terows L), .box [capV v]]) := by
  refine Tri.post ?_
  refine (Tri.enter (rl := r31) (code := c31) (by kernel_rfl) Try.func31 rfl c31_ok (by kernel_rfl) (by kernel_rfl) ?_)
  refine run_ok 4000 _ _ _ _ ?_
  simp (maxSteps := 10000000) only [go_sem, c31, r31]
  refine sem_rounds (fun i => i ≤ L.length ∧ ∀ j, (h : j < i) → ∀ h2 : j < L.length, H L[j] = false)
    (fun i => [(0, .sl 0 0 L.length L.length false), (1, .fn fid [] [.pbox 1 0]), (7, .int .i64 L.length), (8, .int .i64 (i : Nat))])
    (fun i => [.row 4 (terows L), .box [capV v]]) (fun i => L.length - i) 0 [0, 1] ⟨by simp, by intro j h; omega⟩ ?_ ?_
  · simp only [Emb, go_sem]
  rintro i ⟨h1, h2⟩
  by_cases hlt : i < L.length
  · have hin : (i : Int) < (L.length : Int) := by omega
    have hci := hc L[i]
    have r0 := te_r0 hlt; have r1 := te_r1 hlt; have r2 := te_r2 hlt; have r3 := te_r3 hlt
    cases hb : H L[i] with
    | true =>
      rw [hb] at hci
      have ha : L.any H = true := by rw [List.any_eq_true]; exact ⟨L[i], List.getElem_mem hlt, hb⟩
      have hf : L.findIdx H = i := by
        rw [List.findIdx_eq hlt]
        exact ⟨hb, fun j hj => h2 j hj (by omega)⟩
      have hix : idxH H L = (i : Int) := by unfold idxH; rw [if_pos ha, hf]
      generalize L[i] = e at *
      skip
      refine run_ok 4000 _ _ _ _ ?_
      simp (maxSteps := 10000000) only [go_sem, te_h0 hlt, te_h1 hlt, te_h2 hlt, te_h3 hlt, r0, r1, r2, r3, hin, Int.natCast_nonneg, te_len]
      refine sem_callv rfl rfl rfl (((hci).embed [1] rfl (by repeat' first | exact trivial | rfl | (simp only [go_sem]; done) | constructor) rfl (by first | rfl | simp only [go_sem]) rfl (by simp)).mono ?_)
      rintro _ _ ⟨_, _, ⟨rfl, rfl⟩, rfl, rfl⟩
      refine run_ok 4000 _ _ _ _ ?_
      simp (maxSteps := 10000000) only [go_sem, te_h0 hlt, te_h1 hlt, te_h2 hlt, te_h3 hlt, r0, r1, r2, r3, hin, Int.natCast_nonneg, te_len]
      refine ⟨_, _, .sub [0, 1] ?_ .done, rfl, rfl⟩
      simp only [EmbV, go_sem, hix]
    | false =>
      rw [hb] at hci
      have hn : ∀ j, (h : j < i + 1) → ∀ h2 : j < L.length, H L[j] = false := fun j hj hj2 => by
        by_cases e : j = i
        · subst e; exact hb
        · exact h2 j (by omega) hj2
      generalize L[i] = e at *
      skip
      refine run_ok 4000 _ _ _ _ ?_
      simp (maxSteps := 10000000) only [go_sem, te_h0 hlt, te_h1 hlt, te_h2 hlt, te_h3 hlt, r0, r1, r2, r3, hin, Int.natCast_nonneg, te_len, inc64 (show i < 1000000000000 by omega)]
      refine sem_callv rfl rfl rfl (((hci).embed [1] rfl (by repeat' first | exact trivial | rfl | (simp only [go_sem]; done) | constructor) rfl (by first | rfl | simp only [go_sem]) rfl (by simp)).mono ?_)
      rintro _ _ ⟨_, _, ⟨rfl, rfl⟩, rfl, rfl⟩
      refine run_ok 4000 _ _ _ _ ?_
      simp (maxSteps := 10000000) only [go_sem, te_h0 hlt, te_h1 hlt, te_h2 hlt, te_h3 hlt, r0, r1, r2, r3, hin, Int.natCast_nonneg, te_len, inc64 (show i < 1000000000000 by omega)]
      refine ⟨i + 1, by omega, ⟨by omega, hn⟩, [0, 1], ?_⟩
      simp only [Emb, go_sem]
  · have hge : ¬ (i : Int) < (L.length : Int) := by omega
    have ha : L.any H = false := by
      rw [List.any_eq_false]
      intro x hx
      obtain ⟨j, hj, rfl⟩ := List.getElem_of_mem hx
      rw [h2 j (by omega) hj]; simp
    have hix : idxH H L = -1 := by unfold idxH; rw [ha]; rfl
    skip
    refine run_ok 4000 _ _ _ _ ?_
    simp (maxSteps := 10000000) only [go_sem, hge]
    refine run_ok 4000 _ _ _ _ ?_
    simp (maxSteps := 10000000) only [go_sem, hge]
    refine ⟨_, _, .sub [0, 1] ?_ .done, rfl, rfl⟩
    simp only [EmbV, go_sem, hix]
theorem tfind1_spec (n : Int) (e : TE) : Tri Try.prog 32 [.agg [.int .u32 e.n, .int .i64 e.due, .int .i64 e.wait, .int .i64 e.times], .pbox 0 0] [.box [.int .u32 n]] (fun r m => r = .bsym (e.n == n) ∧ m = [.box [.int .u32 n]]) := by
  refine Tri.post ?_
  refine (Tri.enter (rl := r32) (code := c32) (by kernel_rfl) Try.func32 rfl c32_ok (by kernel_rfl) (by kernel_rfl) ?_)
  refine run_ok 4000 _ _ _ _ ?_
  simp (maxSteps := 10000000) only [go_sem, c32, r32]
  refine ⟨_, _, .sub [0] ?_ .done, rfl, rfl⟩
  simp only [EmbV, go_sem]
def fdT (l : List TE) (n : Int) : Int := idxH (fun e => e.n == n) l
theorem tfind_spec (f m : Int) (l : List TE) (n : Int) (hl : l.length ≤ 100000) : Tri Try.prog 21 [.pbox 0 0, .int .u32 n] (tmM f m l) (fun v q => v = .int .i64 (fdT l n) ∧ q = tmM f m l) := by
  refine Tri.post ?_
  have hi := tindex_spec 32 (.inl n) (fun e => e.n == n) (fun e => tfind1_spec n e) l hl
  unfold capV at hi
  unfold tmM
  refine (Tri.enter (rl := r21) (code := c21) (by kernel_rfl) Try.func21 rfl c21_ok (by kernel_rfl) (by kernel_rfl) ?_)
  refine run_ok 4000 _ _ _ _ ?_
  simp (maxSteps := 10000000) only [go_sem, c21, r21]
  refine sem_call rfl rfl (((hi).embed [1, 2] rfl (by repeat' first | exact trivial | rfl | (simp only [go_sem]; done) | constructor) rfl (by first | rfl | simp only [go_sem]) rfl (by simp)).mono ?_)
  rintro _ _ ⟨_, _, ⟨rfl, rfl⟩, rfl, rfl⟩
  refine run_ok 4000 _ _ _ _ ?_
  simp (maxSteps := 10000000) only [go_sem]
  refine ⟨_, _, .sub [0, 1] ?_ .done, rfl, rfl⟩
  simp only [EmbV, go_sem, fdT]
theorem tlen_spec (f m : Int) (l : List TE) : Tri Try.prog 14 [.pbox 0 0] (tmM f m l) (fun v q => v = .int .i64 l.length ∧ q = tmM f m l) := by
  refine Tri.post ?_
  unfold tmM
  refine (Tri.enter (rl := r14) (code := c14) (by kernel_rfl) Try.func14 rfl c14_ok (by kernel_rfl) (by kernel_rfl) ?_)
  refine run_ok 4000 _ _ _ _ ?_
  simp (maxSteps := 10000000) only [go_sem, c14, r14]
  refine ⟨_, _, .sub [0, 1] ?_ .done, rfl, rfl⟩
  simp only [EmbV, go_sem]
theorem fdT_lt {l : List TE} {n : Int} (h : fdT l n < 0) : ∀ e ∈ l, e.n ≠ n := by
  unfold fdT idxH at h
  split at h
  · omega
  · rename_i ha
    intro e he hn
    exact ha (List.any_eq_true.2 ⟨e, he, by simpa using hn⟩)
theorem fdT_ge {l : List TE} {n : Int} (h : 0 ≤ fdT l n) : ∃ (i : Nat) (hi : i < l.length), fdT l n = i ∧ l[i].n = n := by
  unfold fdT idxH at h ⊢
  split at h
  · rename_i ha
    rw [if_pos ha]
    have hi : l.findIdx (fun e => e.n == n) < l.length := by rw [List.findIdx_lt_length]; simpa using ha
    exact ⟨_, hi, rfl, by simpa using List.findIdx_getElem (xs := l) (p := fun e => e.n == n) (w := hi)⟩
  · omega
theorem ttimes_spec (f m : Int) (l : List TE) (n : Int) (hl : l.length ≤ 100000) : Tri Try.prog 12 [.pbox 0 0, .int .u32 n] (tmM f m l)
    (fun v q => v = .tup [.int .i64 (if fdT l n < 0 then 0 else (l.getD (fdT l n).toNat ⟨0, 0, 0, 0⟩).times), .bool (decide (0 ≤ fdT l n))] ∧ q = tmM f m l) := by
  refine Tri.post ?_
  have hf := tfind_spec f m l n hl
  unfold tmM at *
  by_cases c : fdT l n < 0
  · have c2 : ¬ 0 ≤ fdT l n := by omega
    simp only [c, c2, if_true, decide_false]
    skip
    refine (Tri.enter (rl := r12) (code := c12) (by kernel_rfl) Try.func12 rfl c12_ok (by kernel_rfl) (by kernel_rfl) ?_)
    refine run_ok 4000 _ _ _ _ ?_
    simp (maxSteps := 10000000) only [go_sem, c12, r12, c]
    refine sem_call rfl rfl (((hf).embed [0, 1] rfl (by repeat' first | exact trivial | rfl | (simp only [go_sem]; done) | constructor) rfl (by first | rfl | simp only [go_sem]) rfl (by simp)).mono ?_)
    rintro _ _ ⟨_, _, ⟨rfl, rfl⟩, rfl, rfl⟩
    refine run_ok 4000 _ _ _ _ ?_
    simp (maxSteps := 10000000) only [go_sem, c]
    refine ⟨_, _, .sub [0, 1] ?_ .done, rfl, rfl⟩
    simp only [EmbV, go_sem]
  · have c2 : 0 ≤ fdT l n := by omega
    obtain ⟨i, hi, h1, h2⟩ := fdT_ge c2
    rw [h1] at hf c c2
    have hg : l.getD i ⟨0, 0, 0, 0⟩ = l[i] := by rw [List.getD_eq_getElem?_getD, List.getElem?_eq_getElem hi]; rfl
    have r3 := te_r3 hi
    have hin : (i : Int) < (l.length : Int) := by omega
    simp only [h1, c, c2, if_false, decide_true, Int.toNat_natCast, hg]
    skip
    refine (Tri.enter (rl := r12) (code := c12) (by kernel_rfl) Try.func12 rfl c12_ok (by kernel_rfl) (by kernel_rfl) ?_)
    refine run_ok 4000 _ _ _ _ ?_
    simp (maxSteps := 10000000) only [go_sem, c12, r12, c, hin, te_h3 hi, r3, te_len, Int.natCast_nonneg, Nat.zero_add]
    refine sem_call rfl rfl (((hf).embed [0, 1] rfl (by repeat' first | exact trivial | rfl | (simp only [go_sem]; done) | constructor) rfl (by first | rfl | simp only [go_sem]) rfl (by simp)).mono ?_)
    rintro _ _ ⟨_, _, ⟨rfl, rfl⟩, rfl, rfl⟩
    refine run_ok 4000 _ _ _ _ ?_
    simp (maxSteps := 10000000) only [go_sem, c, hin, te_h3 hi, r3, te_len, Int.natCast_nonneg, Nat.zero_add]
    refine ⟨_, _, .sub [0, 1] ?_ .done, rfl, rfl⟩
    simp only [EmbV, go_sem]
/-- One more. -/
theorem tstart_new (f m : Int) (l : List TE) (n now : Int) (hl : l.length ≤ 100000) (h : fdT l n < 0) (hb : 0 ≤ now ∧ now ≤ 10000000 ∧ 0 ≤ f ∧ f ≤ 10000000) : Tri Try.prog 10 [.pbox 0 0, .int .u32 n, .int .i64 now] (tmM f m l)
    (fun v q => v = .bool true ∧ q = tmM2 f m (l ++ [⟨n, now + f, f, 0⟩])) := by
  refine Tri.post ?_
  have hf := tfind_spec f m l n hl
  have h2 : ¬ fdT l n ≥ 0 := by omega
  have w1 : iwrap .i64 (now + f) = now + f := iwrap_i64_in (by omega)
  have hone : [[AV.int .u32 n, AV.int .i64 (now + f), AV.int .i64 f, AV.int .i64 0]] = terows [⟨n, now + f, f, 0⟩] := rfl
  unfold tmM at *
  unfold tmM2
  skip
  refine (Tri.enter (rl := r10) (code := c10) (by kernel_rfl) Try.func10 rfl c10_ok (by kernel_rfl) (by kernel_rfl) ?_)
  refine run_ok 4000 _ _ _ _ ?_
  simp (maxSteps := 10000000) only [go_sem, c10, r10, h2, w1, te_all, te_len]
  refine sem_move 1 rfl ?_
  simp (maxSteps := 10000000) only [go_sem, h2, w1, te_all, te_len]
  refine sem_call rfl rfl (((hf).embed [0, 2] rfl (by repeat' first | exact trivial | rfl | (simp only [go_sem]; done) | constructor) rfl (by first | rfl | simp only [go_sem]) rfl (by simp)).mono ?_)
  rintro _ _ ⟨_, _, ⟨rfl, rfl⟩, rfl, rfl⟩
  refine run_ok 4000 _ _ _ _ ?_
  simp (maxSteps := 10000000) only [go_sem, h2, w1, te_all, te_len]
  refine sem_drawG l10_0_ok (by kernel_rfl) ?_
  intro KK hKK
  simp (maxSteps := 10000000) only [go_sem, l10_0, h2, w1, te_all, te_len]
  subst hKK
  simp (maxSteps := 10000000) only [go_sem, h2, w1, te_all, te_len]
  rw [hone, te_app]
  refine ⟨by unfold small; omega, _, _, .sub [0, 1, 3] ?_ .done, rfl, rfl⟩
  simp only [EmbV, go_sem, List.length_append, List.length_cons, List.length_nil]
theorem tstart_old (f m : Int) (l : List TE) (n now : Int) (hl : l.length ≤ 100000) (h : 0 ≤ fdT l n) : Tri Try.prog 10 [.pbox 0 0, .int .u32 n, .int .i64 now] (tmM f m l)
    (fun v q => v = .bool false ∧ q = tmM2 f m l) := by
  refine Tri.post ?_
  have hf := tfind_spec f m l n hl
  have h2 : fdT l n ≥ 0 := by omega
  unfold tmM at *
  unfold tmM2
  skip
  refine (Tri.enter (rl := r10) (code := c10) (by kernel_rfl) Try.func10 rfl c10_ok (by kernel_rfl) (by kernel_rfl) ?_)
  refine run_ok 4000 _ _ _ _ ?_
  simp (maxSteps := 10000000) only [go_sem, c10, r10, h2]
  refine sem_move 1 rfl ?_
  simp (maxSteps := 10000000) only [go_sem, h2]
  refine sem_call rfl rfl (((hf).embed [0, 2] rfl (by repeat' first | exact trivial | rfl | (simp only [go_sem]; done) | constructor) rfl (by first | rfl | simp only [go_sem]) rfl (by simp)).mono ?_)
  rintro _ _ ⟨_, _, ⟨rfl, rfl⟩, rfl, rfl⟩
  refine run_ok 4000 _ _ _ _ ?_
  simp (maxSteps := 10000000) only [go_sem, h2]
  refine ⟨_, _, .sub [0, 1, 2] ?_ .done, rfl, rfl⟩
  simp only [EmbV, go_sem]
end Go.AEX
