/- Bag: contracts. -/
import Derived.Test.YtcenagdeejbmgaaCom
import Derived.Test.YtcenagdeejbmgaaCC
import Derived.Test.YtcenagdeejbmgaaAEzi
import Derived.Test.YtcenagdeejbmgaaAEsa
import Derived.KernelRfl
namespace Go.AEX
open Go Go.AE Go.Proofs
set_option maxRecDepth 100000
set_option linter.unusedVariables false
set_option linter.unusedSimpArgs false

structure Itm where
  src : Int
  dst : Int
  text : List UInt8
def brow (x : Itm) : List AV := [.int .i64 x.src, .int .i64 x.dst, .str x.text]
def brows (l : List Itm) : List (List AV) := l.map brow
theorem brows_len (l : List Itm) : (brows l).length = l.length := by simp [brows]
theorem brows_get {l : List Itm} {i : Nat} (h : i < l.length) : (brows l)[i]? = some (brow l[i]) := by simp [brows, h]
theorem brows_h0 {l : List Itm} {i : Nat} (h : i < l.length) : hasI .i64 (brows l) i 0 := ⟨_, _, brows_get h, rfl⟩
theorem brows_h1 {l : List Itm} {i : Nat} (h : i < l.length) : hasI .i64 (brows l) i 1 := ⟨_, _, brows_get h, rfl⟩
theorem brows_h2 {l : List Itm} {i : Nat} (h : i < l.length) : hasS (brows l) i 2 := ⟨_, _, brows_get h, rfl⟩
theorem brows_r0 {l : List Itm} {i : Nat} (h : i < l.length) : rint (brows l) i 0 = l[i].src := by simp [rint, List.getD_eq_getElem?_getD, brows_get h, brow]
theorem brows_r1 {l : List Itm} {i : Nat} (h : i < l.length) : rint (brows l) i 1 = l[i].dst := by simp [rint, List.getD_eq_getElem?_getD, brows_get h, brow]
theorem brows_r2 {l : List Itm} {i : Nat} (h : i < l.length) : rstr (brows l) i 2 = l[i].text := by simp [rstr, List.getD_eq_getElem?_getD, brows_get h, brow]
theorem brows_app (a b : List Itm) : brows a ++ brows b = brows (a ++ b) := by simp [brows]
theorem brows_sub (l : List Itm) (i n : Nat) : sub (brows l) i n = brows ((l.drop i).take n) := by simp [sub, brows, List.map_take, List.map_drop]
theorem brows_all (l : List Itm) : sub (brows l) 0 l.length = brows l := by rw [brows_sub]; simp
theorem brow_one (x : Itm) : [[AV.int .i64 x.src, AV.int .i64 x.dst, AV.str x.text]] = brows [x] := rfl
/-- A bag; one that has changed. -/
def bagM (L : List Itm) (lost : Int) : Mem := [.box [.sl 1 0 L.length L.length false, .int .i64 lost], .row 3 (brows L)]
def bagG (L : List Itm) (lost : Int) : Mem := [.box [.sl 2 0 L.length L.length false, .int .i64 lost], .gone, .row 3 (brows L)]
theorem blen_spec (L : List Itm) (k : Int) : Tri Try.prog 15 [.pbox 0 0] (bagM L k) (fun v m => v = .int .i64 L.length ∧ m = bagM L k) := by
  unfold bagM
  refine Tri.post ?_
  refine (Tri.enter (rl := r15) (code := c15) (by kernel_rfl) Try.func15 rfl c15_ok (by kernel_rfl) (by kernel_rfl) ?_)
  refine run_ok 4000 _ _ _ _ ?_
  simp (maxSteps := 10000000) only [go_sem, c15, r15]
  exact ⟨_, _, .sub [0, 1] (by simp only [EmbV, go_sem]) .done, rfl, rfl⟩
theorem blost_spec (L : List Itm) (k : Int) : Tri Try.prog 17 [.pbox 0 0] (bagM L k) (fun v m => v = .int .i64 k ∧ m = bagM L k) := by
  unfold bagM
  refine Tri.post ?_
  refine (Tri.enter (rl := r17) (code := c17) (by kernel_rfl) Try.func17 rfl c17_ok (by kernel_rfl) (by kernel_rfl) ?_)
  refine run_ok 4000 _ _ _ _ ?_
  simp (maxSteps := 10000000) only [go_sem, c17, r17]
  exact ⟨_, _, .sub [0, 1] (by simp only [EmbV, go_sem]) .done, rfl, rfl⟩
/-- What is put, one by one. -/
def put1 (L : List Itm) (k : Int) (x : Itm) : List Itm × Int := if 400 ≤ L.length then (L, k + 1) else (L ++ [x], k)
def putN (a b : Int) : List (List UInt8) → List Itm × Int → (List Itm × Int) × Nat
  | [], s => (s, 0)
  | t :: l, s => if 400 ≤ s.1.length then putN a b l (s.1, s.2 + 1) else ((putN a b l (s.1 ++ [⟨a, b, t⟩], s.2)).1, (putN a b l (s.1 ++ [⟨a, b, t⟩], s.2)).2 + 1)
theorem put_spec (L : List Itm) (k a b : Int) (l : List (List UInt8)) (tight : Bool) (hL : L.length ≤ 400) (hk : 0 ≤ k ∧ k + l.length ≤ 1000000) (hl : l.length ≤ 100000) :
    Tri Try.prog 14 [.pbox 0 0, .int .i64 a, .int .i64 b, .vsl 1 (sv l) tight] (bagM L k) (fun v m => v = .int .i64 ((putN a b l (L, k)).2 : Nat) ∧ m = bagG (putN a b l (L, k)).1.1 (putN a b l (L, k)).1.2) := by
  unfold bagM bagG
  refine Tri.post ?_
  refine (Tri.enter (rl := r14) (code := c14) (by kernel_rfl) Try.func14 rfl c14_ok (by kernel_rfl) (by kernel_rfl) ?_)
  refine run_ok 4000 _ _ _ _ ?_
  simp (maxSteps := 10000000) only [go_sem, c14, r14]
  refine sem_move 1 rfl ?_
  simp (maxSteps := 10000000) only [go_sem]
  refine sem_rounds (fun x : Nat × Nat × List Itm × Int => x.1 ≤ l.length ∧ x.2.1 ≤ x.1 ∧ x.2.2.1.length ≤ 400 ∧ 0 ≤ x.2.2.2 ∧ x.2.2.2 ≤ k + x.1 ∧ (putN a b l (L, k)).1 = (putN a b (l.drop x.1) x.2.2).1 ∧ (putN a b l (L, k)).2 = x.2.1 + (putN a b (l.drop x.1) x.2.2).2)
    (fun x => [(0, .pbox 0 0), (1, .int .i64 a), (2, .int .i64 b), (9, .int .i64 (x.2.1 : Nat)), (12, .vsl 1 (sv l) tight), (13, .int .i64 l.length), (14, .int .i64 (x.1 : Nat))])
    (fun x => [.box [.sl 2 0 x.2.2.1.length x.2.2.1.length false, .int .i64 x.2.2.2], .gone, .row 3 (brows x.2.2.1)]) (fun x => l.length - x.1) (0, 0, L, k) [0, 1, 2] ⟨by simp, by simp, hL, hk.1, by simp, by simp, by simp⟩ ?_ ?_
  · simp only [Emb, go_sem]
  rintro ⟨i, c, M, q⟩ ⟨h1, h2, h3, h4, h5, h6, h7⟩
  simp only at h1 h2 h3 h4 h5 h6 h7
  refine run_ok 4000 _ _ _ _ ?_
  simp (maxSteps := 10000000) only [go_sem]
  refine ⟨fun hlt => ?_, fun hge => ?_⟩
  · have hlt : i < l.length := by omega
    have hin : (i : Int) < (l.length : Int) := by omega
    have hd : l.drop i = l[i] :: l.drop (i + 1) := List.drop_eq_getElem_cons hlt
    rw [hd, putN] at h6 h7
    by_cases hf : 400 ≤ M.length
    · rw [if_pos hf] at h6 h7
      have hf' : (M.length : Int) ≥ 400 := by omega
      have hw : iwrap .i64 (q + 1) = q + 1 := iwrap_i64_in (by omega)
      skip
      simp (maxSteps := 10000000) only [go_sem, svl_hasS hlt, svl_rstr hlt, hin, hf', hw, Int.natCast_nonneg, inc64 (show i < 1000000000000 by omega)]
      refine ⟨(i + 1, c, M, q + 1), by simp only; omega, ⟨by simp only; omega, by simp only; omega, h3, by simp only; omega, by simp only; omega, h6, h7⟩, [0, 1, 2], ?_⟩
      simp only [Emb, go_sem]
    · rw [if_neg hf] at h6 h7
      have hf' : ¬ (M.length : Int) ≥ 400 := by omega
      have hb : [[AV.int .i64 a, AV.int .i64 b, AV.str l[i]]] = brows [⟨a, b, l[i]⟩] := rfl
      skip
      simp (maxSteps := 10000000) only [go_sem, svl_hasS hlt, svl_rstr hlt, hin, hf', brows_all, Int.natCast_nonneg, inc64 (show i < 1000000000000 by omega), inc64 (show c < 1000000000000 by omega)]
      refine ⟨⟨by rw [brows_len]; omega, by unfold small; omega⟩, (i + 1, c + 1, M ++ [⟨a, b, l[i]⟩], q), by simp only; omega, ⟨by simp only; omega, by simp only; omega, by simp; omega, by simp only; omega, by simp only; omega, h6, by simp only at h7 ⊢; omega⟩, [0, 1, 3], ?_⟩
      rw [hb, brows_app]
      simp only [Emb, go_sem, List.length_append]
  · have hi : l.drop i = [] := List.drop_eq_nil_of_le (by omega)
    rw [hi, putN] at h6 h7
    skip
    refine run_ok 4000 _ _ _ _ ?_
    simp (maxSteps := 10000000) only [go_sem]
    refine ⟨_, _, .sub [0, 1, 2] ?_ .done, rfl, rfl⟩
    simp only [EmbV, go_sem, h6, h7, Nat.add_zero]
end Go.AEX
