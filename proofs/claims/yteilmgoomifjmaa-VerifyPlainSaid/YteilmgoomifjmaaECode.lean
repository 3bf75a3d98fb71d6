/- Turned to this seat by turn.py: Code.lean. -/
import Derived.Test.YteilmgoomifjmaaEWire
namespace Go.AEX
open Go Go.AE Go.Proofs
set_option maxRecDepth 100000
set_option linter.unusedVariables false
set_option linter.unusedSimpArgs false

def hasArg (o : Int) : Bool := decide (o = 1 ∨ o = 13 ∨ o = 14 ∨ o = 15 ∨ o = 17 ∨ o = 18 ∨ o = 22)
theorem hasArg_spec (o : Int) : Tri Try.prog 60 [.int .u8 o] [] (fun v m => v = .bsym (hasArg o) ∧ m = []) := by
  refine Tri.post ?_
  by_cases h : o = 1 ∨ o = 13 ∨ o = 14 ∨ o = 15 ∨ o = 17 ∨ o = 18 ∨ o = 22
  · have hh : hasArg o = true := decide_eq_true h
    rcases h with rfl | rfl | rfl | rfl | rfl | rfl | rfl
    all_goals
      refine (Tri.enter (rl := r60) (code := c60) (by kernel_rfl) Try.func60 rfl c60_ok (by kernel_rfl) (by kernel_rfl) ?_)
      refine run_ok 4000 _ _ _ _ ?_
      simp (maxSteps := 10000000) only [go_sem, c60, r60]
      refine ⟨_, _, .like (Like.bsym _) (.sub [] ?_ .done), rfl, rfl⟩
      simp only [EmbV, go_sem, hh]
  · have hh : hasArg o = false := decide_eq_false h
    have q1 : (o == 1) = false := by simp; omega
    have q2 : (o == 13) = false := by simp; omega
    have q3 : (o == 14) = false := by simp; omega
    have q4 : (o == 15) = false := by simp; omega
    have q5 : (o == 17) = false := by simp; omega
    have q6 : (o == 18) = false := by simp; omega
    have q7 : (o == 22) = false := by simp; omega
    skip
    refine (Tri.enter (rl := r60) (code := c60) (by kernel_rfl) Try.func60 rfl c60_ok (by kernel_rfl) (by kernel_rfl) ?_)
    refine run_ok 4000 _ _ _ _ ?_
    simp (maxSteps := 10000000) only [go_sem, c60, r60, q1, q2, q3, q4, q5, q6, q7]
    refine ⟨_, _, .like (Like.bsym _) (.sub [] ?_ .done), rfl, rfl⟩
    simp only [EmbV, go_sem, hh]
theorem rhasArg_spec (o : Int) : Tri Try.prog 58 [.int .i64 o] [] (fun v m => v = .bsym (hasArg o) ∧ m = []) := by
  refine Tri.post ?_
  by_cases h : o = 1 ∨ o = 13 ∨ o = 14 ∨ o = 15 ∨ o = 17 ∨ o = 18 ∨ o = 22
  · have hh : hasArg o = true := decide_eq_true h
    rcases h with rfl | rfl | rfl | rfl | rfl | rfl | rfl
    all_goals
      refine (Tri.enter (rl := r58) (code := c58) (by kernel_rfl) Try.func58 rfl c58_ok (by kernel_rfl) (by kernel_rfl) ?_)
      refine run_ok 4000 _ _ _ _ ?_
      simp (maxSteps := 10000000) only [go_sem, c58, r58]
      first
        | (refine ⟨_, _, .sub [] ?_ .done, rfl, rfl⟩
           simp only [EmbV, go_sem, hh]
           done)
        | (refine ⟨_, _, .like (Like.bsym _) (.sub [] ?_ .done), rfl, rfl⟩
           simp only [EmbV, go_sem, hh])
  · have hh : hasArg o = false := decide_eq_false h
    have q1 : (o == 1) = false := by simp; omega
    have q2 : (o == 13) = false := by simp; omega
    have q3 : (o == 14) = false := by simp; omega
    have q4 : (o == 15) = false := by simp; omega
    have q5 : (o == 17) = false := by simp; omega
    have q6 : (o == 18) = false := by simp; omega
    have q7 : (o == 22) = false := by simp; omega
    skip
    refine (Tri.enter (rl := r58) (code := c58) (by kernel_rfl) Try.func58 rfl c58_ok (by kernel_rfl) (by kernel_rfl) ?_)
    refine run_ok 4000 _ _ _ _ ?_
    simp (maxSteps := 10000000) only [go_sem, c58, r58, q1, q2, q3, q4, q5, q6, q7]
    refine ⟨_, _, .sub [] ?_ .done, rfl, rfl⟩
    simp only [EmbV, go_sem, hh]
def names : List (List UInt8) := [[63], [112, 117, 115, 104], [112, 111, 112], [100, 117, 112], [115, 119, 97, 112], [97, 100, 100], [115, 117, 98], [109, 117, 108], [100, 105, 118], [109, 111, 100], [101, 113], [108, 101, 115, 115], [110, 111, 116], [106, 117, 109, 112], [98, 114, 97, 110, 99, 104], [99, 97, 108, 108], [114, 101, 116], [108, 111, 97, 100], [115, 116, 111, 114, 101], [103, 101, 116], [112, 117, 116], [114, 97, 110, 100], [104, 111, 115, 116]]
def nameF (o : Nat) : List UInt8 := if 23 ≤ o then [63] else names.getD o []
abbrev Ins := Int × Int
def irow (x : Ins) : List AV := [.int .u8 x.1, .int .i64 x.2]
def irows (l : List Ins) : List (List AV) := l.map irow
theorem irows_len (l : List Ins) : (irows l).length = l.length := by simp [irows]
theorem irows_get {l : List Ins} {i : Nat} (h : i < l.length) : (irows l)[i]? = some (irow l[i]) := by simp [irows, h]
theorem irows_h0 {l : List Ins} {i : Nat} (h : i < l.length) : hasI .u8 (irows l) i 0 := ⟨_, _, irows_get h, rfl⟩
theorem irows_h1 {l : List Ins} {i : Nat} (h : i < l.length) : hasI .i64 (irows l) i 1 := ⟨_, _, irows_get h, rfl⟩
theorem irows_r0 {l : List Ins} {i : Nat} (h : i < l.length) : rint (irows l) i 0 = l[i].1 := by simp [rint, List.getD_eq_getElem?_getD, irows_get h, irow]
theorem irows_r1 {l : List Ins} {i : Nat} (h : i < l.length) : rint (irows l) i 1 = l[i].2 := by simp [rint, List.getD_eq_getElem?_getD, irows_get h, irow]
theorem irows_app (a b : List Ins) : irows a ++ irows b = irows (a ++ b) := by simp [irows]
theorem irows_all (l : List Ins) : sub (irows l) 0 l.length = irows l := by
  simp only [sub, List.drop_zero]; exact List.take_of_length_le (by simp [irows])
theorem irow_one (x : Ins) : [[AV.int .u8 x.1, AV.int .i64 x.2]] = irows [x] := rfl
structure Fn where
  args : Int
  locals : Int
  code : List Ins
def frow (f : Fn) : List AV := [.int .i64 f.args, .int .i64 f.locals, .vsl 2 (irows f.code) false]
def frows (l : List Fn) : List (List AV) := l.map frow
theorem frows_len (l : List Fn) : (frows l).length = l.length := by simp [frows]
theorem frows_get {l : List Fn} {i : Nat} (h : i < l.length) : (frows l)[i]? = some (frow l[i]) := by simp [frows, h]
theorem frows_h0 {l : List Fn} {i : Nat} (h : i < l.length) : hasI .i64 (frows l) i 0 := ⟨_, _, frows_get h, rfl⟩
theorem frows_h1 {l : List Fn} {i : Nat} (h : i < l.length) : hasI .i64 (frows l) i 1 := ⟨_, _, frows_get h, rfl⟩
theorem frows_h2 {l : List Fn} {i : Nat} (h : i < l.length) : hasA (frows l) i 2 := ⟨_, _, frows_get h, rfl⟩
theorem frows_r0 {l : List Fn} {i : Nat} (h : i < l.length) : rint (frows l) i 0 = l[i].args := by simp [rint, List.getD_eq_getElem?_getD, frows_get h, frow]
theorem frows_r1 {l : List Fn} {i : Nat} (h : i < l.length) : rint (frows l) i 1 = l[i].locals := by simp [rint, List.getD_eq_getElem?_getD, frows_get h, frow]
theorem frows_r2 {l : List Fn} {i : Nat} (h : i < l.length) : rany (frows l) i 2 = .vsl 2 (irows l[i].code) false := by simp [rany, List.getD_eq_getElem?_getD, frows_get h, frow]
theorem frows_app (a b : List Fn) : frows a ++ frows b = frows (a ++ b) := by simp [frows]
theorem frows_all (l : List Fn) : sub (frows l) 0 l.length = frows l := by
  simp only [sub, List.drop_zero]; exact List.take_of_length_le (by simp [frows])
def ofF (o : Int) (l : List Int) : Int := if 0 < l.length ∧ hasArg o = true then l.getD 0 0 else 0
theorem of_spec (o : Int) (l : List Int) (tight : Bool) : Tri Try.prog 29 [.int .u8 o, .vsl 1 (iv .i64 l) tight] [] (fun v m => v = .agg [.int .u8 o, .int .i64 (ofF o l)] ∧ m = []) := by
  refine Tri.post ?_
  by_cases h0 : 0 < l.length
  · have h1 : (l.length : Int) > 0 := by omega
    have h2 : (0 : Int) < (l.length : Int) := by omega
    cases hh : hasArg o
    · have hf : ofF o l = 0 := by simp [ofF, hh]
      rw [hf]
      skip
      refine (Tri.enter (rl := r29) (code := c29) (by kernel_rfl) Try.func29 rfl c29_ok (by kernel_rfl) (by kernel_rfl) ?_)
      refine run_ok 4000 _ _ _ _ ?_
      simp (maxSteps := 10000000) only [go_sem, c29, r29, iv_len, h1, hh]
      refine sem_call rfl rfl (((hasArg_spec o).embed [] rfl trivial rfl rfl rfl (by simp)).mono ?_)
      rintro _ _ ⟨_, _, ⟨rfl, rfl⟩, rfl, rfl⟩
      refine run_ok 4000 _ _ _ _ ?_
      simp (maxSteps := 10000000) only [go_sem, iv_len, h1, hh]
      refine ⟨_, _, .sub [] ?_ .done, rfl, rfl⟩
      simp only [EmbV, go_sem]
    · have hf : ofF o l = l[0] := by simp [ofF, hh, h0, List.getD_eq_getElem?_getD]
      rw [hf]
      skip
      refine (Tri.enter (rl := r29) (code := c29) (by kernel_rfl) Try.func29 rfl c29_ok (by kernel_rfl) (by kernel_rfl) ?_)
      refine run_ok 4000 _ _ _ _ ?_
      simp (maxSteps := 10000000) only [go_sem, c29, r29, iv_len, h1, h2, hh, iv_rint h0, iv_hasI h0]
      refine sem_call rfl rfl (((hasArg_spec o).embed [] rfl trivial rfl rfl rfl (by simp)).mono ?_)
      rintro _ _ ⟨_, _, ⟨rfl, rfl⟩, rfl, rfl⟩
      refine run_ok 4000 _ _ _ _ ?_
      simp (maxSteps := 10000000) only [go_sem, iv_len, h1, h2, hh, iv_rint h0, iv_hasI h0]
      refine ⟨_, _, .sub [] ?_ .done, rfl, rfl⟩
      simp only [EmbV, go_sem]
  · have h1 : ¬ (l.length : Int) > 0 := by omega
    have hf : ofF o l = 0 := by simp [ofF, h0]
    rw [hf]
    skip
    refine (Tri.enter (rl := r29) (code := c29) (by kernel_rfl) Try.func29 rfl c29_ok (by kernel_rfl) (by kernel_rfl) ?_)
    refine run_ok 4000 _ _ _ _ ?_
    simp (maxSteps := 10000000) only [go_sem, c29, r29, iv_len, h1]
    refine ⟨_, _, .sub [] ?_ .done, rfl, rfl⟩
    simp only [EmbV, go_sem]
theorem make_spec (a b : Int) (l : List Ins) (tight : Bool) (hl : l.length ≤ 1000000) : Tri Try.prog 31 [.int .i64 a, .int .i64 b, .vsl 2 (irows l) tight] [] (fun v m => v = .agg [.int .i64 a, .int .i64 b, .vsl 2 (irows l) false] ∧ m = []) := by
  refine Tri.post ?_
  skip
  refine (Tri.enter (rl := r31) (code := c31) (by kernel_rfl) Try.func31 rfl c31_ok (by kernel_rfl) (by kernel_rfl) ?_)
  refine run_ok 4000 _ _ _ _ ?_
  simp (maxSteps := 10000000) only [go_sem, c31, r31, irows_len, irows_all]
  refine ⟨by unfold small; omega, _, _, .fz 1 rfl (by simp [go_sem, irows_len]) (.sub [] ?_ .done), rfl, rfl⟩
  simp only [EmbV, go_sem, irows_all]
theorem make_own (a b : Int) (l : List Ins) (hl : l.length ≤ 1000000) : Tri Try.prog 31 [.int .i64 a, .int .i64 b, .sl 0 0 l.length l.length false] [.row 2 (irows l)] (fun v m => v = .agg [.int .i64 a, .int .i64 b, .sl 1 0 l.length l.length false] ∧ m = [.row 2 (irows l), .row 2 (irows l)]) := by
  refine Tri.post ?_
  skip
  refine (Tri.enter (rl := r31) (code := c31) (by kernel_rfl) Try.func31 rfl c31_ok (by kernel_rfl) (by kernel_rfl) ?_)
  refine run_ok 4000 _ _ _ _ ?_
  simp (maxSteps := 10000000) only [go_sem, c31, r31, irows_len, irows_all]
  refine ⟨by unfold small; omega, _, _, .sub [0, 2] ?_ .done, rfl, rfl⟩
  simp only [EmbV, go_sem]
def insB (x : Ins) : List UInt8 := numB x.1.toNat ++ if hasArg x.1 then numB (zg x.2) else []
def codeB (l : List Ins) : List UInt8 := (l.map insB).flatten
def fnB (f : Fn) : List UInt8 := numB (posN f.args) ++ (numB (posN f.locals) ++ (numB f.code.length ++ codeB f.code))
def fnsB (l : List Fn) : List UInt8 := (l.map fnB).flatten
def imgB (l : List Fn) : List UInt8 := numB l.length ++ fnsB l
theorem codeB_take {l : List Ins} {i : Nat} (h : i < l.length) : codeB (l.take (i + 1)) = codeB (l.take i) ++ insB l[i] := by
  unfold codeB; rw [List.take_succ_eq_append_getElem h, List.map_append, List.flatten_append]; simp
theorem fnsB_take {l : List Fn} {i : Nat} (h : i < l.length) : fnsB (l.take (i + 1)) = fnsB (l.take i) ++ fnB l[i] := by
  unfold fnsB; rw [List.take_succ_eq_append_getElem h, List.map_append, List.flatten_append]; simp
theorem codeB_le (l : List Ins) (i : Nat) : (codeB (l.take i)).length ≤ (codeB l).length := by
  have : codeB l = codeB (l.take i) ++ codeB (l.drop i) := by
    unfold codeB; rw [← List.flatten_append, ← List.map_append, List.take_append_drop]
  rw [this, List.length_append]; omega
theorem fnsB_le (l : List Fn) (i : Nat) : (fnsB (l.take i)).length ≤ (fnsB l).length := by
  have : fnsB l = fnsB (l.take i) ++ fnsB (l.drop i) := by
    unfold fnsB; rw [← List.flatten_append, ← List.map_append, List.take_append_drop]
  rw [this, List.length_append]; omega
/-- What numbers of an image may be. -/
def InsOk (x : Ins) : Prop := 0 ≤ x.1 ∧ x.1 < 256 ∧ I64 x.2
def FnOk (f : Fn) : Prop := I64 f.args ∧ I64 f.locals ∧ ∀ x ∈ f.code, InsOk x
end Go.AEX
