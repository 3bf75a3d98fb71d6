/- Code: contracts of ops, instructions and images. -/
import Derived.Test.YtgmhndlebndlcaaWireT
namespace Go.AEX
open Go Go.AE Go.Proofs
set_option maxRecDepth 100000
set_option linter.unusedVariables false
set_option linter.unusedSimpArgs false

def hasArg (o : Int) : Bool := decide (o = 1 ∨ o = 13 ∨ o = 14 ∨ o = 15 ∨ o = 17 ∨ o = 18 ∨ o = 22)
theorem hasArg_spec (o : Int) : Tri Try.prog 15 [.int .u8 o] [] (fun v m => v = .bsym (hasArg o) ∧ m = []) := by
  refine Tri.post ?_
  by_cases h : o = 1 ∨ o = 13 ∨ o = 14 ∨ o = 15 ∨ o = 17 ∨ o = 18 ∨ o = 22
  · have hh : hasArg o = true := decide_eq_true h
    rcases h with rfl | rfl | rfl | rfl | rfl | rfl | rfl
    all_goals
      refine (Tri.enter (rl := r15) (code := c15) (by kernel_rfl) Try.func15 rfl c15_ok (by kernel_rfl) (by kernel_rfl) ?_)
      refine run_ok 4000 _ _ _ _ ?_
      simp (maxSteps := 10000000) only [go_sem, c15, r15]
      refine ⟨_, _, .like (Like.bsym _) (.sub [] ?_ .done), rfl, rfl⟩
      simp only [EmbV, go_sem, hh]
  · have hh : hasArg o = false := decide_eq_false h
    have q1 : (o == 1) = false := by simp; omega
    have q2 : (o == 13) = false := by simp; omega
    have q3 : (o == 14) = false := by simp; omega
    have q4 : (o == 15) = false := by simp; omega
    have q5 : (o == 17) = false := by simp; omega
    have q6 : (o == 18) = false := by simp; omega
    have q7 : (o == 22) = false := by simp; omega
    skip
    refine (Tri.enter (rl := r15) (code := c15) (by kernel_rfl) Try.func15 rfl c15_ok (by kernel_rfl) (by kernel_rfl) ?_)
    refine run_ok 4000 _ _ _ _ ?_
    simp (maxSteps := 10000000) only [go_sem, c15, r15, q1, q2, q3, q4, q5, q6, q7]
    refine ⟨_, _, .like (Like.bsym _) (.sub [] ?_ .done), rfl, rfl⟩
    simp only [EmbV, go_sem, hh]
theorem rhasArg_spec (o : Int) : Tri Try.prog 16 [.int .i64 o] [] (fun v m => v = .bsym (hasArg o) ∧ m = []) := by
  refine Tri.post ?_
  by_cases h : o = 1 ∨ o = 13 ∨ o = 14 ∨ o = 15 ∨ o = 17 ∨ o = 18 ∨ o = 22
  · have hh : hasArg o = true := decide_eq_true h
    rcases h with rfl | rfl | rfl | rfl | rfl | rfl | rfl
    all_goals
      refine (Tri.enter (rl := r16) (code := c16) (by kernel_rfl) Try.func16 rfl c16_ok (by kernel_rfl) (by kernel_rfl) ?_)
      refine run_ok 4000 _ _ _ _ ?_
      simp (maxSteps := 10000000) only [go_sem, c16, r16]
      first
        | (refine ⟨_, _, .sub [] ?_ .done, rfl, rfl⟩
           simp only [EmbV, go_sem, hh]
           done)
        | (refine ⟨_, _, .like (Like.bsym _) (.sub [] ?_ .done), rfl, rfl⟩
           simp only [EmbV, go_sem, hh])
  · have hh : hasArg o = false := decide_eq_false h
    have q1 : (o == 1) = false := by simp; omega
    have q2 : (o == 13) = false := by simp; omega
    have q3 : (o == 14) = false := by simp; omega
    have q4 : (o == 15) = false := by simp; omega
    have q5 : (o == 17) = false := by simp; omega
    have q6 : (o == 18) = false := by simp; omega
    have q7 : (o == 22) = false := by simp; omega
    skip
    refine (Tri.enter (rl := r16) (code := c16) (by kernel_rfl) Try.func16 rfl c16_ok (by kernel_rfl) (by kernel_rfl) ?_)
    refine run_ok 4000 _ _ _ _ ?_
    simp (maxSteps := 10000000) only [go_sem, c16, r16, q1, q2, q3, q4, q5, q6, q7]
    refine ⟨_, _, .sub [] ?_ .done, rfl, rfl⟩
    simp only [EmbV, go_sem, hh]
def names : List (List UInt8) := [[63], [112, 117, 115, 104], [112, 111, 112], [100, 117, 112], [115, 119, 97, 112], [97, 100, 100], [115, 117, 98], [109, 117, 108], [100, 105, 118], [109, 111, 100], [101, 113], [108, 101, 115, 115], [110, 111, 116], [106, 117, 109, 112], [98, 114, 97, 110, 99, 104], [99, 97, 108, 108], [114, 101, 116], [108, 111, 97, 100], [115, 116, 111, 114, 101], [103, 101, 116], [112, 117, 116], [114, 97, 110, 100], [104, 111, 115, 116]]
def nameF (o : Nat) : List UInt8 := if 23 ≤ o then [63] else names.getD o []
theorem name_spec (o : Nat) (h : o < 256) : Tri Try.prog 14 [.int .u8 (o : Nat)] [] (fun v m => v = .str (nameF o) ∧ m = []) := by
  have hw : iwrap .i64 (o : Int) = (o : Int) := iwrap_i64_in (by omega)
  by_cases h23 : 23 ≤ o
  · have hb : (o : Int) ≥ 23 := by omega
    have hn : nameF o = [63] := by unfold nameF; rw [if_pos h23]
    skip
    refine (Tri.enter (rl := r14) (code := c14) (by kernel_rfl) Try.func14 rfl c14_ok (by kernel_rfl) (by kernel_rfl) ?_)
    refine run_ok 4000 _ _ _ _ ?_
    simp (maxSteps := 10000000) only [go_sem, c14, r14, hw, hb, hn]
  · have hb : ¬ (o : Int) ≥ 23 := by omega
    have hlt : (o : Int) < 23 := by omega
    have hl : o < names.length := by show o < 23; omega
    have hn : nameF o = names[o] := by unfold nameF; rw [if_neg h23, List.getD_eq_getElem?_getD, List.getElem?_eq_getElem hl]; rfl
    have hr := svl_rstr hl
    have hs := svl_hasS hl
    skip
    refine (Tri.enter (rl := r14) (code := c14) (by kernel_rfl) Try.func14 rfl c14_ok (by kernel_rfl) (by kernel_rfl) ?_)
    refine run_ok 4000 _ _ _ _ ?_
    simp (maxSteps := 10000000) only [go_sem, c14, r14, hw, hb, hlt, Int.natCast_nonneg]
    rw [hn, ← hr]
    exact ⟨hs, rfl⟩
abbrev Ins := Int × Int
def irow (x : Ins) : List AV := [.int .u8 x.1, .int .i64 x.2]
def irows (l : List Ins) : List (List AV) := l.map irow
theorem irows_len (l : List Ins) : (irows l).length = l.length := by simp [irows]
theorem irows_get {l : List Ins} {i : Nat} (h : i < l.length) : (irows l)[i]? = some (irow l[i]) := by simp [irows, h]
theorem irows_h0 {l : List Ins} {i : Nat} (h : i < l.length) : hasI .u8 (irows l) i 0 := ⟨_, _, irows_get h, rfl⟩
theorem irows_h1 {l : List Ins} {i : Nat} (h : i < l.length) : hasI .i64 (irows l) i 1 := ⟨_, _, irows_get h, rfl⟩
theorem irows_r0 {l : List Ins} {i : Nat} (h : i < l.length) : rint (irows l) i 0 = l[i].1 := by simp [rint, List.getD_eq_getElem?_getD, irows_get h, irow]
theorem irows_r1 {l : List Ins} {i : Nat} (h : i < l.length) : rint (irows l) i 1 = l[i].2 := by simp [rint, List.getD_eq_getElem?_getD, irows_get h, irow]
theorem irows_app (a b : List Ins) : irows a ++ irows b = irows (a ++ b) := by simp [irows]
theorem irows_all (l : List Ins) : sub (irows l) 0 l.length = irows l := by
  simp only [sub, List.drop_zero]; exact List.take_of_length_le (by simp [irows])
theorem irow_one (x : Ins) : [[AV.int .u8 x.1, AV.int .i64 x.2]] = irows [x] := rfl
structure Fn where
  args : Int
  locals : Int
  code : List Ins
def frow (f : Fn) : List AV := [.int .i64 f.args, .int .i64 f.locals, .vsl 2 (irows f.code) false]
def frows (l : List Fn) : List (List AV) := l.map frow
theorem frows_len (l : List Fn) : (frows l).length = l.length := by simp [frows]
theorem frows_get {l : List Fn} {i : Nat} (h : i < l.length) : (frows l)[i]? = some (frow l[i]) := by simp [frows, h]
theorem frows_h0 {l : List Fn} {i : Nat} (h : i < l.length) : hasI .i64 (frows l) i 0 := ⟨_, _, frows_get h, rfl⟩
theorem frows_h1 {l : List Fn} {i : Nat} (h : i < l.length) : hasI .i64 (frows l) i 1 := ⟨_, _, frows_get h, rfl⟩
theorem frows_h2 {l : List Fn} {i : Nat} (h : i < l.length) : hasA (frows l) i 2 := ⟨_, _, frows_get h, rfl⟩
theorem frows_r0 {l : List Fn} {i : Nat} (h : i < l.length) : rint (frows l) i 0 = l[i].args := by simp [rint, List.getD_eq_getElem?_getD, frows_get h, frow]
theorem frows_r1 {l : List Fn} {i : Nat} (h : i < l.length) : rint (frows l) i 1 = l[i].locals := by simp [rint, List.getD_eq_getElem?_getD, frows_get h, frow]
theorem frows_r2 {l : List Fn} {i : Nat} (h : i < l.length) : rany (frows l) i 2 = .vsl 2 (irows l[i].code) false := by simp [rany, List.getD_eq_getElem?_getD, frows_get h, frow]
theorem frows_app (a b : List Fn) : frows a ++ frows b = frows (a ++ b) := by simp [frows]
theorem frows_all (l : List Fn) : sub (frows l) 0 l.length = frows l := by
  simp only [sub, List.drop_zero]; exact List.take_of_length_le (by simp [frows])
/-! an instruction, a function -/
def ofF (o : Int) (l : List Int) : Int := if 0 < l.length ∧ hasArg o = true then l.getD 0 0 else 0
theorem of_spec (o : Int) (l : List Int) (tight : Bool) : Tri Try.prog 17 [.int .u8 o, .vsl 1 (iv .i64 l) tight] [] (fun v m => v = .agg [.int .u8 o, .int .i64 (ofF o l)] ∧ m = []) := by
  refine Tri.post ?_
  by_cases h0 : 0 < l.length
  · have h1 : (l.length : Int) > 0 := by omega
    have h2 : (0 : Int) < (l.length : Int) := by omega
    cases hh : hasArg o
    · have hf : ofF o l = 0 := by simp [ofF, hh]
      rw [hf]
      skip
      refine (Tri.enter (rl := r17) (code := c17) (by kernel_rfl) Try.func17 rfl c17_ok (by kernel_rfl) (by kernel_rfl) ?_)
      refine run_ok 4000 _ _ _ _ ?_
      simp (maxSteps := 10000000) only [go_sem, c17, r17, iv_len, h1, hh]
      refine sem_call rfl rfl (((hasArg_spec o).embed [] rfl trivial rfl rfl rfl (by simp)).mono ?_)
      rintro _ _ ⟨_, _, ⟨rfl, rfl⟩, rfl, rfl⟩
      refine run_ok 4000 _ _ _ _ ?_
      simp (maxSteps := 10000000) only [go_sem, iv_len, h1, hh]
      refine ⟨_, _, .sub [] ?_ .done, rfl, rfl⟩
      simp only [EmbV, go_sem]
    · have hf : ofF o l = l[0] := by simp [ofF, hh, h0, List.getD_eq_getElem?_getD]
      rw [hf]
      skip
      refine (Tri.enter (rl := r17) (code := c17) (by kernel_rfl) Try.func17 rfl c17_ok (by kernel_rfl) (by kernel_rfl) ?_)
      refine run_ok 4000 _ _ _ _ ?_
      simp (maxSteps := 10000000) only [go_sem, c17, r17, iv_len, h1, h2, hh, iv_rint h0, iv_hasI h0]
      refine sem_call rfl rfl (((hasArg_spec o).embed [] rfl trivial rfl rfl rfl (by simp)).mono ?_)
      rintro _ _ ⟨_, _, ⟨rfl, rfl⟩, rfl, rfl⟩
      refine run_ok 4000 _ _ _ _ ?_
      simp (maxSteps := 10000000) only [go_sem, iv_len, h1, h2, hh, iv_rint h0, iv_hasI h0]
      refine ⟨_, _, .sub [] ?_ .done, rfl, rfl⟩
      simp only [EmbV, go_sem]
  · have h1 : ¬ (l.length : Int) > 0 := by omega
    have hf : ofF o l = 0 := by simp [ofF, h0]
    rw [hf]
    skip
    refine (Tri.enter (rl := r17) (code := c17) (by kernel_rfl) Try.func17 rfl c17_ok (by kernel_rfl) (by kernel_rfl) ?_)
    refine run_ok 4000 _ _ _ _ ?_
    simp (maxSteps := 10000000) only [go_sem, c17, r17, iv_len, h1]
    refine ⟨_, _, .sub [] ?_ .done, rfl, rfl⟩
    simp only [EmbV, go_sem]
theorem make_spec (a b : Int) (l : List Ins) (tight : Bool) (hl : l.length ≤ 1000000) : Tri Try.prog 18 [.int .i64 a, .int .i64 b, .vsl 2 (irows l) tight] [] (fun v m => v = .agg [.int .i64 a, .int .i64 b, .vsl 2 (irows l) false] ∧ m = []) := by
  refine Tri.post ?_
  skip
  refine (Tri.enter (rl := r18) (code := c18) (by kernel_rfl) Try.func18 rfl c18_ok (by kernel_rfl) (by kernel_rfl) ?_)
  refine run_ok 4000 _ _ _ _ ?_
  simp (maxSteps := 10000000) only [go_sem, c18, r18, irows_len, irows_all]
  refine ⟨by unfold small; omega, _, _, .fz 1 rfl (by simp [go_sem, irows_len]) (.sub [] ?_ .done), rfl, rfl⟩
  simp only [EmbV, go_sem, irows_all]
theorem make_own (a b : Int) (l : List Ins) (hl : l.length ≤ 1000000) : Tri Try.prog 18 [.int .i64 a, .int .i64 b, .sl 0 0 l.length l.length false] [.row 2 (irows l)] (fun v m => v = .agg [.int .i64 a, .int .i64 b, .sl 1 0 l.length l.length false] ∧ m = [.row 2 (irows l), .row 2 (irows l)]) := by
  refine Tri.post ?_
  skip
  refine (Tri.enter (rl := r18) (code := c18) (by kernel_rfl) Try.func18 rfl c18_ok (by kernel_rfl) (by kernel_rfl) ?_)
  refine run_ok 4000 _ _ _ _ ?_
  simp (maxSteps := 10000000) only [go_sem, c18, r18, irows_len, irows_all]
  refine ⟨by unfold small; omega, _, _, .sub [0, 2] ?_ .done, rfl, rfl⟩
  simp only [EmbV, go_sem]
/-! bytes -/
def insB (x : Ins) : List UInt8 := numB x.1.toNat ++ if hasArg x.1 then numB (zg x.2) else []
def codeB (l : List Ins) : List UInt8 := (l.map insB).flatten
def fnB (f : Fn) : List UInt8 := numB (posN f.args) ++ (numB (posN f.locals) ++ (numB f.code.length ++ codeB f.code))
def fnsB (l : List Fn) : List UInt8 := (l.map fnB).flatten
def imgB (l : List Fn) : List UInt8 := numB l.length ++ fnsB l
theorem codeB_take {l : List Ins} {i : Nat} (h : i < l.length) : codeB (l.take (i + 1)) = codeB (l.take i) ++ insB l[i] := by
  unfold codeB; rw [List.take_succ_eq_append_getElem h, List.map_append, List.flatten_append]; simp
theorem fnsB_take {l : List Fn} {i : Nat} (h : i < l.length) : fnsB (l.take (i + 1)) = fnsB (l.take i) ++ fnB l[i] := by
  unfold fnsB; rw [List.take_succ_eq_append_getElem h, List.map_append, List.flatten_append]; simp
theorem codeB_le (l : List Ins) (i : Nat) : (codeB (l.take i)).length ≤ (codeB l).length := by
  have : codeB l = codeB (l.take i) ++ codeB (l.drop i) := by
    unfold codeB; rw [← List.flatten_append, ← List.map_append, List.take_append_drop]
  rw [this, List.length_append]; omega
theorem fnsB_le (l : List Fn) (i : Nat) : (fnsB (l.take i)).length ≤ (fnsB l).length := by
  have : fnsB l = fnsB (l.take i) ++ fnsB (l.drop i) := by
    unfold fnsB; rw [← List.flatten_append, ← List.map_append, List.take_append_drop]
  rw [this, List.length_append]; omega
/-- What numbers of an image may be. -/
def InsOk (x : Ins) : Prop := 0 ≤ x.1 ∧ x.1 < 256 ∧ I64 x.2
def FnOk (f : Fn) : Prop := I64 f.args ∧ I64 f.locals ∧ ∀ x ∈ f.code, InsOk x
theorem text_spec (l : List Fn) (hl : l.length ≤ 10000) (hok : ∀ f ∈ l, FnOk f) (hb : (imgB l).length ≤ 100000) (hc : ∀ f ∈ l, f.code.length ≤ 10000) :
    Tri Try.prog 47 [.agg [.vsl 3 (frows l) false]] [] (fun v m => v = .str (imgB l) ∧ m = []) := by
  refine Tri.post ?_
  have hb' : (imgB l).length = (numB l.length).length + (fnsB l).length := by simp [imgB]
  skip
  refine (Tri.enter (rl := r47) (code := c47) (by kernel_rfl) Try.func47 rfl c47_ok (by kernel_rfl) (by kernel_rfl) ?_)
  refine run_ok 4000 _ _ _ _ ?_
  simp (maxSteps := 10000000) only [go_sem, c47, r47, frows_len]
  refine sem_nilbox 1 0 1 rfl rfl ?_
  simp (maxSteps := 10000000) only [go_sem, frows_len]
  have hc0 := ocount_spec [(l.length : Int)] true [] (by intro n hn; simp at hn; rw [hn]; unfold I64; omega) (by simp)
  have hp0 : numsB (List.map posN [(l.length : Int)]) = numB l.length := by simp [numsB, posN]
  rw [List.nil_append, hp0] at hc0
  refine sem_call rfl rfl (((hc0).embed [1, 2] rfl (by repeat' first | exact trivial | rfl | (simp only [go_sem]; done) | constructor) rfl (by first | rfl | simp only [go_sem]) rfl (by simp)).mono ?_)
  rintro _ _ ⟨_, _, ⟨rfl, rfl⟩, rfl, rfl⟩
  refine run_ok 4000 _ _ _ _ ?_
  simp (maxSteps := 10000000) only [go_sem, frows_len]
  refine sem_rounds (fun i : Nat => i ≤ l.length) (fun i => [(3, .pbox 1 0), (14, .vsl 3 (frows l) false), (15, .int .i64 l.length), (16, .int .i64 (i : Nat))])
    (fun i => [.box [.vsl 3 (frows l) false], .box [.sl 2 0 (numB l.length ++ fnsB (l.take i)).length (numB l.length ++ fnsB (l.take i)).length false], .row 1 (AE.bytes (numB l.length ++ fnsB (l.take i)))])
    (fun i => l.length - i) 0 [0, 1, 3] (Nat.zero_le _) ?_ ?_
  · simp only [Emb, go_sem]; simp [fnsB]
  intro i hi
  refine run_ok 4000 _ _ _ _ ?_
  simp (maxSteps := 10000000) only [go_sem, frows_len]
  refine ⟨fun hlt => ?_, fun hge => ?_⟩
  · have hlt : i < l.length := by omega
    have hin : (i : Int) < (l.length : Int) := by omega
    have hfo := hok _ (List.getElem_mem hlt)
    have hcl := hc _ (List.getElem_mem hlt)
    have hnx := fnsB_take hlt
    have hle := fnsB_le l (i + 1)
    have e0 := frows_r0 hlt; have e1 := frows_r1 hlt; have e2 := frows_r2 hlt
    rw [hnx, List.length_append] at hle
    generalize hf : l[i] = f at *
    obtain ⟨fa, fl, fc⟩ := f
    obtain ⟨o1, o2, o3⟩ := hfo
    simp only at o1 o2 o3 hcl e0 e1 e2
    have hfb : fnB ⟨fa, fl, fc⟩ = numB (posN fa) ++ (numB (posN fl) ++ (numB fc.length ++ codeB fc)) := rfl
    rw [hfb] at hnx hle
    simp only [List.length_append] at hle
    have hc1 := ocount_spec [fa, fl, (fc.length : Int)] true (numB l.length ++ fnsB (l.take i)) (by
      intro n hn; simp at hn; rcases hn with rfl | rfl | rfl
      · exact o1
      · exact o2
      · unfold I64; omega) (by rw [List.length_append]; simp only [List.length_cons, List.length_nil]; omega)
    have hp1 : numB l.length ++ fnsB (l.take i) ++ numsB (List.map posN [fa, fl, (fc.length : Int)]) = numB l.length ++ fnsB (l.take i) ++ (numB (posN fa) ++ (numB (posN fl) ++ numB fc.length)) := by
      have : posN (fc.length : Int) = fc.length := by unfold posN; omega
      simp [numsB, this]
    rw [hp1] at hc1
    have hnx2 : numB l.length ++ fnsB (l.take (i + 1)) = numB l.length ++ fnsB (l.take i) ++ (numB (posN fa) ++ (numB (posN fl) ++ numB fc.length)) ++ codeB fc := by rw [hnx]; simp
    have hlen3 : (numB l.length ++ fnsB (l.take i) ++ (numB (posN fa) ++ (numB (posN fl) ++ numB fc.length))).length + (codeB fc).length ≤ 100000 := by
      simp only [List.length_append]; omega
    generalize hB3 : numB l.length ++ fnsB (l.take i) ++ (numB (posN fa) ++ (numB (posN fl) ++ numB fc.length)) = B3 at *
    skip
    simp (maxSteps := 10000000) only [go_sem, frows_len, irows_len, frows_h0 hlt, frows_h1 hlt, frows_h2 hlt, e0, e1, e2, hin, Int.natCast_nonneg]
    refine sem_call rfl rfl (((hc1).embed [1, 2] rfl (by repeat' first | exact trivial | rfl | (simp only [go_sem]; done) | constructor) rfl (by first | rfl | simp only [go_sem]) rfl (by simp)).mono ?_)
    rintro _ _ ⟨_, _, ⟨rfl, rfl⟩, rfl, rfl⟩
    refine run_ok 4000 _ _ _ _ ?_
    simp (maxSteps := 10000000) only [go_sem, frows_len, irows_len, frows_h0 hlt, frows_h1 hlt, frows_h2 hlt, e0, e1, e2, hin, Int.natCast_nonneg]
    refine sem_rounds (fun k : Nat => k ≤ fc.length) (fun k => [(3, .pbox 1 0), (14, .vsl 3 (frows l) false), (15, .int .i64 l.length), (16, .int .i64 (i : Nat)), (30, .vsl 2 (irows fc) false), (31, .int .i64 fc.length), (32, .int .i64 (k : Nat))])
      (fun k => [.box [.vsl 3 (frows l) false], .box [.sl 2 0 (B3 ++ codeB (fc.take k)).length (B3 ++ codeB (fc.take k)).length false], .row 1 (AE.bytes (B3 ++ codeB (fc.take k)))])
      (fun k => fc.length - k) 0 [0, 1, 4] (Nat.zero_le _) ?_ ?_
    · simp only [Emb, go_sem]; simp [codeB]
    intro k hk
    refine run_ok 4000 _ _ _ _ ?_
    simp (maxSteps := 10000000) only [go_sem, frows_len, irows_len, frows_h0 hlt, frows_h1 hlt, frows_h2 hlt, e0, e1, e2, hin, Int.natCast_nonneg]
    refine ⟨fun hlk => ?_, fun hgk => ?_⟩
    · have hlk : k < fc.length := by omega
      have hink : (k : Int) < (fc.length : Int) := by omega
      have hxo := o3 _ (List.getElem_mem hlk)
      have hcx := codeB_take hlk
      have hle2 := codeB_le fc (k + 1)
      have g0 := irows_r0 hlk; have g1 := irows_r1 hlk
      rw [hcx, List.length_append] at hle2
      generalize hx : fc[k] = x at *
      obtain ⟨op, arg⟩ := x
      obtain ⟨x1, x2, x3⟩ := hxo
      simp only at x1 x2 x3 g0 g1
      have hxb : insB (op, arg) = numB op.toNat ++ if hasArg op then numB (zg arg) else [] := rfl
      rw [hxb, List.length_append] at hle2
      rw [hxb] at hcx
      have hcv : iwrap .u64 op = ((op.toNat : Nat) : Int) := by rw [iwrap_u64]; omega
      have hn1 := wNum_spec [op.toNat] true (B3 ++ codeB (fc.take k)) (by intro n hn; simp at hn; rw [hn]; omega) (by rw [List.length_append]; simp only [List.length_cons, List.length_nil]; omega)
      rw [numsB_one] at hn1
      have hk1 := inc64 (show k < 1000000000000 by omega)
      cases hh : hasArg op
      · rw [hh] at hcx hle2
        have hnk : B3 ++ codeB (fc.take k) ++ numB op.toNat = B3 ++ codeB (fc.take (k + 1)) := by rw [hcx]; simp
        rw [hnk] at hn1
        skip
        simp (maxSteps := 10000000) only [go_sem, frows_len, irows_len, irows_h0 hlk, irows_h1 hlk, g0, g1, hink, hcv, hh, hk1, Int.natCast_nonneg]
        refine sem_call rfl rfl (((hn1).embed [1, 2] rfl (by repeat' first | exact trivial | rfl | (simp only [go_sem]; done) | constructor) rfl (by first | rfl | simp only [go_sem]) rfl (by simp)).mono ?_)
        rintro _ _ ⟨_, _, ⟨rfl, rfl⟩, rfl, rfl⟩
        refine run_ok 4000 _ _ _ _ ?_
        simp (maxSteps := 10000000) only [go_sem, frows_len, irows_len, irows_h0 hlk, irows_h1 hlk, g0, g1, hink, hcv, hh, hk1, Int.natCast_nonneg]
        refine sem_call rfl rfl (((hasArg_spec op).embed [] rfl trivial rfl rfl rfl (by simp)).mono ?_)
        rintro _ _ ⟨_, _, ⟨rfl, rfl⟩, rfl, rfl⟩
        refine run_ok 4000 _ _ _ _ ?_
        simp (maxSteps := 10000000) only [go_sem, frows_len, irows_len, irows_h0 hlk, irows_h1 hlk, g0, g1, hink, hcv, hh, hk1, Int.natCast_nonneg]
        refine ⟨k + 1, by omega, hlk, [0, 1, 4], ?_⟩
        simp only [Emb, go_sem]
      · rw [hh] at hcx hle2
        simp only [if_true] at hcx hle2
        have hi1 := oint_spec [arg] true (B3 ++ codeB (fc.take k) ++ numB op.toNat) (by intro n hn; simp at hn; rw [hn]; exact x3) (by simp only [List.length_append, List.length_cons, List.length_nil]; omega)
        have hnk : B3 ++ codeB (fc.take k) ++ numB op.toNat ++ numsB (List.map zg [arg]) = B3 ++ codeB (fc.take (k + 1)) := by rw [hcx]; simp [numsB]
        rw [hnk] at hi1
        skip
        simp (maxSteps := 10000000) only [go_sem, frows_len, irows_len, irows_h0 hlk, irows_h1 hlk, g0, g1, hink, hcv, hh, hk1, Int.natCast_nonneg]
        refine sem_call rfl rfl (((hn1).embed [1, 2] rfl (by repeat' first | exact trivial | rfl | (simp only [go_sem]; done) | constructor) rfl (by first | rfl | simp only [go_sem]) rfl (by simp)).mono ?_)
        rintro _ _ ⟨_, _, ⟨rfl, rfl⟩, rfl, rfl⟩
        refine run_ok 4000 _ _ _ _ ?_
        simp (maxSteps := 10000000) only [go_sem, frows_len, irows_len, irows_h0 hlk, irows_h1 hlk, g0, g1, hink, hcv, hh, hk1, Int.natCast_nonneg]
        refine sem_call rfl rfl (((hasArg_spec op).embed [] rfl trivial rfl rfl rfl (by simp)).mono ?_)
        rintro _ _ ⟨_, _, ⟨rfl, rfl⟩, rfl, rfl⟩
        refine run_ok 4000 _ _ _ _ ?_
        simp (maxSteps := 10000000) only [go_sem, frows_len, irows_len, irows_h0 hlk, irows_h1 hlk, g0, g1, hink, hcv, hh, hk1, Int.natCast_nonneg]
        refine sem_call rfl rfl (((hi1).embed [1, 4] rfl (by repeat' first | exact trivial | rfl | (simp only [go_sem]; done) | constructor) rfl (by first | rfl | simp only [go_sem]) rfl (by simp)).mono ?_)
        rintro _ _ ⟨_, _, ⟨rfl, rfl⟩, rfl, rfl⟩
        refine run_ok 4000 _ _ _ _ ?_
        simp (maxSteps := 10000000) only [go_sem, frows_len, irows_len, irows_h0 hlk, irows_h1 hlk, g0, g1, hink, hcv, hh, hk1, Int.natCast_nonneg]
        refine ⟨k + 1, by omega, hlk, [0, 1, 5], ?_⟩
        simp only [Emb, go_sem]
    · have htk : fc.take k = fc := List.take_of_length_le (by omega)
      rw [htk, ← hnx2]
      skip
      refine run_ok 4000 _ _ _ _ ?_
      simp (maxSteps := 10000000) only [go_sem, inc64 (show i < 1000000000000 by omega)]
      refine ⟨i + 1, by omega, hlt, [0, 1, 2], ?_⟩
      simp only [Emb, go_sem]
  · have ht : l.take i = l := List.take_of_length_le (by omega)
    have ct := otext_spec (imgB l)
    unfold imgB at ct
    rw [ht]
    skip
    refine run_ok 4000 _ _ _ _ ?_
    simp (maxSteps := 10000000) only [go_sem]
    refine sem_call rfl rfl (((ct).embed [1, 2] rfl (by repeat' first | exact trivial | rfl | (simp only [go_sem]; done) | constructor) rfl (by first | rfl | simp only [go_sem]) rfl (by simp)).mono ?_)
    rintro _ _ ⟨_, _, ⟨rfl, rfl⟩, rfl, rfl⟩
    refine run_ok 4000 _ _ _ _ ?_
    simp (maxSteps := 10000000) only [go_sem]
    refine ⟨_, _, .sub [] ?_ .done, rfl, rfl⟩
    simp only [EmbV, go_sem, imgB]
end Go.AEX
