/- Code, CodeO, CodeP, CodeR, CodeS, CodeT, CodeL in one. -/
import Derived.Test.YtgmhndlebndlcaaWireT
/- Code: contracts of ops, instructions and images. -/
namespace Go.AEX
open Go Go.AE Go.Proofs
set_option maxRecDepth 100000
set_option linter.unusedVariables false
set_option linter.unusedSimpArgs false

def hasArg (o : Int) : Bool := decide (o = 1 ∨ o = 13 ∨ o = 14 ∨ o = 15 ∨ o = 17 ∨ o = 18 ∨ o = 22)
theorem hasArg_spec (o : Int) : Tri Try.prog 15 [.int .u8 o] [] (fun v m => v = .bsym (hasArg o) ∧ m = []) := by
  refine Tri.post ?_
  by_cases h : o = 1 ∨ o = 13 ∨ o = 14 ∨ o = 15 ∨ o = 17 ∨ o = 18 ∨ o = 22
  · have hh : hasArg o = true := decide_eq_true h
    rcases h with rfl | rfl | rfl | rfl | rfl | rfl | rfl
    all_goals
      refine (Tri.enter (rl := r15) (code := c15) (by kernel_rfl) Try.func15 rfl c15_ok (by kernel_rfl) (by kernel_rfl) ?_)
      refine run_ok 4000 _ _ _ _ ?_
      simp (maxSteps := 10000000) only [go_sem, c15, r15]
      refine ⟨_, _, .like (Like.bsym _) (.sub [] ?_ .done), rfl, rfl⟩
      simp only [EmbV, go_sem, hh]
  · have hh : hasArg o = false := decide_eq_false h
    have q1 : (o == 1) = false := by simp; omega
    have q2 : (o == 13) = false := by simp; omega
    have q3 : (o == 14) = false := by simp; omega
    have q4 : (o == 15) = false := by simp; omega
    have q5 : (o == 17) = false := by simp; omega
    have q6 : (o == 18) = false := by simp; omega
    have q7 : (o == 22) = false := by simp; omega
    skip
    refine (Tri.enter (rl := r15) (code := c15) (by kernel_rfl) Try.func15 rfl c15_ok (by kernel_rfl) (by kernel_rfl) ?_)
    refine run_ok 4000 _ _ _ _ ?_
    simp (maxSteps := 10000000) only [go_sem, c15, r15, q1, q2, q3, q4, q5, q6, q7]
    refine ⟨_, _, .like (Like.bsym _) (.sub [] ?_ .done), rfl, rfl⟩
    simp only [EmbV, go_sem, hh]
theorem rhasArg_spec (o : Int) : Tri Try.prog 16 [.int .i64 o] [] (fun v m => v = .bsym (hasArg o) ∧ m = []) := by
  refine Tri.post ?_
  by_cases h : o = 1 ∨ o = 13 ∨ o = 14 ∨ o = 15 ∨ o = 17 ∨ o = 18 ∨ o = 22
  · have hh : hasArg o = true := decide_eq_true h
    rcases h with rfl | rfl | rfl | rfl | rfl | rfl | rfl
    all_goals
      refine (Tri.enter (rl := r16) (code := c16) (by kernel_rfl) Try.func16 rfl c16_ok (by kernel_rfl) (by kernel_rfl) ?_)
      refine run_ok 4000 _ _ _ _ ?_
      simp (maxSteps := 10000000) only [go_sem, c16, r16]
      first
        | (refine ⟨_, _, .sub [] ?_ .done, rfl, rfl⟩
           simp only [EmbV, go_sem, hh]
           done)
        | (refine ⟨_, _, .like (Like.bsym _) (.sub [] ?_ .done), rfl, rfl⟩
           simp only [EmbV, go_sem, hh])
  · have hh : hasArg o = false := decide_eq_false h
    have q1 : (o == 1) = false := by simp; omega
    have q2 : (o == 13) = false := by simp; omega
    have q3 : (o == 14) = false := by simp; omega
    have q4 : (o == 15) = false := by simp; omega
    have q5 : (o == 17) = false := by simp; omega
    have q6 : (o == 18) = false := by simp; omega
    have q7 : (o == 22) = false := by simp; omega
    skip
    refine (Tri.enter (rl := r16) (code := c16) (by kernel_rfl) Try.func16 rfl c16_ok (by kernel_rfl) (by kernel_rfl) ?_)
    refine run_ok 4000 _ _ _ _ ?_
    simp (maxSteps := 10000000) only [go_sem, c16, r16, q1, q2, q3, q4, q5, q6, q7]
    refine ⟨_, _, .sub [] ?_ .done, rfl, rfl⟩
    simp only [EmbV, go_sem, hh]
def names : List (List UInt8) := [[63], [112, 117, 115, 104], [112, 111, 112], [100, 117, 112], [115, 119, 97, 112], [97, 100, 100], [115, 117, 98], [109, 117, 108], [100, 105, 118], [109, 111, 100], [101, 113], [108, 101, 115, 115], [110, 111, 116], [106, 117, 109, 112], [98, 114, 97, 110, 99, 104], [99, 97, 108, 108], [114, 101, 116], [108, 111, 97, 100], [115, 116, 111, 114, 101], [103, 101, 116], [112, 117, 116], [114, 97, 110, 100], [104, 111, 115, 116]]
def nameF (o : Nat) : List UInt8 := if 23 ≤ o then [63] else names.getD o []
theorem name_spec (o : Nat) (h : o < 256) : Tri Try.prog 14 [.int .u8 (o : Nat)] [] (fun v m => v = .str (nameF o) ∧ m = []) := by
  have hw : iwrap .i64 (o : Int) = (o : Int) := iwrap_i64_in (by omega)
  by_cases h23 : 23 ≤ o
  · have hb : (o : Int) ≥ 23 := by omega
    have hn : nameF o = [63] := by unfold nameF; rw [if_pos h23]
    skip
    refine (Tri.enter (rl := r14) (code := c14) (by kernel_rfl) Try.func14 rfl c14_ok (by kernel_rfl) (by kernel_rfl) ?_)
    refine run_ok 4000 _ _ _ _ ?_
    simp (maxSteps := 10000000) only [go_sem, c14, r14, hw, hb, hn]
  · have hb : ¬ (o : Int) ≥ 23 := by omega
    have hlt : (o : Int) < 23 := by omega
    have hl : o < names.length := by show o < 23; omega
    have hn : nameF o = names[o] := by unfold nameF; rw [if_neg h23, List.getD_eq_getElem?_getD, List.getElem?_eq_getElem hl]; rfl
    have hr := svl_rstr hl
    have hs := svl_hasS hl
    skip
    refine (Tri.enter (rl := r14) (code := c14) (by kernel_rfl) Try.func14 rfl c14_ok (by kernel_rfl) (by kernel_rfl) ?_)
    refine run_ok 4000 _ _ _ _ ?_
    simp (maxSteps := 10000000) only [go_sem, c14, r14, hw, hb, hlt, Int.natCast_nonneg]
    rw [hn, ← hr]
    exact ⟨hs, rfl⟩
abbrev Ins := Int × Int
def irow (x : Ins) : List AV := [.int .u8 x.1, .int .i64 x.2]
def irows (l : List Ins) : List (List AV) := l.map irow
theorem irows_len (l : List Ins) : (irows l).length = l.length := by simp [irows]
theorem irows_get {l : List Ins} {i : Nat} (h : i < l.length) : (irows l)[i]? = some (irow l[i]) := by simp [irows, h]
theorem irows_h0 {l : List Ins} {i : Nat} (h : i < l.length) : hasI .u8 (irows l) i 0 := ⟨_, _, irows_get h, rfl⟩
theorem irows_h1 {l : List Ins} {i : Nat} (h : i < l.length) : hasI .i64 (irows l) i 1 := ⟨_, _, irows_get h, rfl⟩
theorem irows_r0 {l : List Ins} {i : Nat} (h : i < l.length) : rint (irows l) i 0 = l[i].1 := by simp [rint, List.getD_eq_getElem?_getD, irows_get h, irow]
theorem irows_r1 {l : List Ins} {i : Nat} (h : i < l.length) : rint (irows l) i 1 = l[i].2 := by simp [rint, List.getD_eq_getElem?_getD, irows_get h, irow]
theorem irows_app (a b : List Ins) : irows a ++ irows b = irows (a ++ b) := by simp [irows]
theorem irows_all (l : List Ins) : sub (irows l) 0 l.length = irows l := by
  simp only [sub, List.drop_zero]; exact List.take_of_length_le (by simp [irows])
theorem irow_one (x : Ins) : [[AV.int .u8 x.1, AV.int .i64 x.2]] = irows [x] := rfl
structure Fn where
  args : Int
  locals : Int
  code : List Ins
def frow (f : Fn) : List AV := [.int .i64 f.args, .int .i64 f.locals, .vsl 2 (irows f.code) false]
def frows (l : List Fn) : List (List AV) := l.map frow
theorem frows_len (l : List Fn) : (frows l).length = l.length := by simp [frows]
theorem frows_get {l : List Fn} {i : Nat} (h : i < l.length) : (frows l)[i]? = some (frow l[i]) := by simp [frows, h]
theorem frows_h0 {l : List Fn} {i : Nat} (h : i < l.length) : hasI .i64 (frows l) i 0 := ⟨_, _, frows_get h, rfl⟩
theorem frows_h1 {l : List Fn} {i : Nat} (h : i < l.length) : hasI .i64 (frows l) i 1 := ⟨_, _, frows_get h, rfl⟩
theorem frows_h2 {l : List Fn} {i : Nat} (h : i < l.length) : hasA (frows l) i 2 := ⟨_, _, frows_get h, rfl⟩
theorem frows_r0 {l : List Fn} {i : Nat} (h : i < l.length) : rint (frows l) i 0 = l[i].args := by simp [rint, List.getD_eq_getElem?_getD, frows_get h, frow]
theorem frows_r1 {l : List Fn} {i : Nat} (h : i < l.length) : rint (frows l) i 1 = l[i].locals := by simp [rint, List.getD_eq_getElem?_getD, frows_get h, frow]
theorem frows_r2 {l : List Fn} {i : Nat} (h : i < l.length) : rany (frows l) i 2 = .vsl 2 (irows l[i].code) false := by simp [rany, List.getD_eq_getElem?_getD, frows_get h, frow]
theorem frows_app (a b : List Fn) : frows a ++ frows b = frows (a ++ b) := by simp [frows]
theorem frows_all (l : List Fn) : sub (frows l) 0 l.length = frows l := by
  simp only [sub, List.drop_zero]; exact List.take_of_length_le (by simp [frows])
/-! an instruction, a function -/
def ofF (o : Int) (l : List Int) : Int := if 0 < l.length ∧ hasArg o = true then l.getD 0 0 else 0
theorem of_spec (o : Int) (l : List Int) (tight : Bool) : Tri Try.prog 17 [.int .u8 o, .vsl 1 (iv .i64 l) tight] [] (fun v m => v = .agg [.int .u8 o, .int .i64 (ofF o l)] ∧ m = []) := by
  refine Tri.post ?_
  by_cases h0 : 0 < l.length
  · have h1 : (l.length : Int) > 0 := by omega
    have h2 : (0 : Int) < (l.length : Int) := by omega
    cases hh : hasArg o
    · have hf : ofF o l = 0 := by simp [ofF, hh]
      rw [hf]
      skip
      refine (Tri.enter (rl := r17) (code := c17) (by kernel_rfl) Try.func17 rfl c17_ok (by kernel_rfl) (by kernel_rfl) ?_)
      refine run_ok 4000 _ _ _ _ ?_
      simp (maxSteps := 10000000) only [go_sem, c17, r17, iv_len, h1, hh]
      refine sem_call rfl rfl (((hasArg_spec o).embed [] rfl trivial rfl rfl rfl (by simp)).mono ?_)
      rintro _ _ ⟨_, _, ⟨rfl, rfl⟩, rfl, rfl⟩
      refine run_ok 4000 _ _ _ _ ?_
      simp (maxSteps := 10000000) only [go_sem, iv_len, h1, hh]
      refine ⟨_, _, .sub [] ?_ .done, rfl, rfl⟩
      simp only [EmbV, go_sem]
    · have hf : ofF o l = l[0] := by simp [ofF, hh, h0, List.getD_eq_getElem?_getD]
      rw [hf]
      skip
      refine (Tri.enter (rl := r17) (code := c17) (by kernel_rfl) Try.func17 rfl c17_ok (by kernel_rfl) (by kernel_rfl) ?_)
      refine run_ok 4000 _ _ _ _ ?_
      simp (maxSteps := 10000000) only [go_sem, c17, r17, iv_len, h1, h2, hh, iv_rint h0, iv_hasI h0]
      refine sem_call rfl rfl (((hasArg_spec o).embed [] rfl trivial rfl rfl rfl (by simp)).mono ?_)
      rintro _ _ ⟨_, _, ⟨rfl, rfl⟩, rfl, rfl⟩
      refine run_ok 4000 _ _ _ _ ?_
      simp (maxSteps := 10000000) only [go_sem, iv_len, h1, h2, hh, iv_rint h0, iv_hasI h0]
      refine ⟨_, _, .sub [] ?_ .done, rfl, rfl⟩
      simp only [EmbV, go_sem]
  · have h1 : ¬ (l.length : Int) > 0 := by omega
    have hf : ofF o l = 0 := by simp [ofF, h0]
    rw [hf]
    skip
    refine (Tri.enter (rl := r17) (code := c17) (by kernel_rfl) Try.func17 rfl c17_ok (by kernel_rfl) (by kernel_rfl) ?_)
    refine run_ok 4000 _ _ _ _ ?_
    simp (maxSteps := 10000000) only [go_sem, c17, r17, iv_len, h1]
    refine ⟨_, _, .sub [] ?_ .done, rfl, rfl⟩
    simp only [EmbV, go_sem]
theorem make_spec (a b : Int) (l : List Ins) (tight : Bool) (hl : l.length ≤ 1000000) : Tri Try.prog 18 [.int .i64 a, .int .i64 b, .vsl 2 (irows l) tight] [] (fun v m => v = .agg [.int .i64 a, .int .i64 b, .vsl 2 (irows l) false] ∧ m = []) := by
  refine Tri.post ?_
  skip
  refine (Tri.enter (rl := r18) (code := c18) (by kernel_rfl) Try.func18 rfl c18_ok (by kernel_rfl) (by kernel_rfl) ?_)
  refine run_ok 4000 _ _ _ _ ?_
  simp (maxSteps := 10000000) only [go_sem, c18, r18, irows_len, irows_all]
  refine ⟨by unfold small; omega, _, _, .fz 1 rfl (by simp [go_sem, irows_len]) (.sub [] ?_ .done), rfl, rfl⟩
  simp only [EmbV, go_sem, irows_all]
theorem make_own (a b : Int) (l : List Ins) (hl : l.length ≤ 1000000) : Tri Try.prog 18 [.int .i64 a, .int .i64 b, .sl 0 0 l.length l.length false] [.row 2 (irows l)] (fun v m => v = .agg [.int .i64 a, .int .i64 b, .sl 1 0 l.length l.length false] ∧ m = [.row 2 (irows l), .row 2 (irows l)]) := by
  refine Tri.post ?_
  skip
  refine (Tri.enter (rl := r18) (code := c18) (by kernel_rfl) Try.func18 rfl c18_ok (by kernel_rfl) (by kernel_rfl) ?_)
  refine run_ok 4000 _ _ _ _ ?_
  simp (maxSteps := 10000000) only [go_sem, c18, r18, irows_len, irows_all]
  refine ⟨by unfold small; omega, _, _, .sub [0, 2] ?_ .done, rfl, rfl⟩
  simp only [EmbV, go_sem]
/-! bytes -/
def insB (x : Ins) : List UInt8 := numB x.1.toNat ++ if hasArg x.1 then numB (zg x.2) else []
def codeB (l : List Ins) : List UInt8 := (l.map insB).flatten
def fnB (f : Fn) : List UInt8 := numB (posN f.args) ++ (numB (posN f.locals) ++ (numB f.code.length ++ codeB f.code))
def fnsB (l : List Fn) : List UInt8 := (l.map fnB).flatten
def imgB (l : List Fn) : List UInt8 := numB l.length ++ fnsB l
theorem codeB_take {l : List Ins} {i : Nat} (h : i < l.length) : codeB (l.take (i + 1)) = codeB (l.take i) ++ insB l[i] := by
  unfold codeB; rw [List.take_succ_eq_append_getElem h, List.map_append, List.flatten_append]; simp
theorem fnsB_take {l : List Fn} {i : Nat} (h : i < l.length) : fnsB (l.take (i + 1)) = fnsB (l.take i) ++ fnB l[i] := by
  unfold fnsB; rw [List.take_succ_eq_append_getElem h, List.map_append, List.flatten_append]; simp
theorem codeB_le (l : List Ins) (i : Nat) : (codeB (l.take i)).length ≤ (codeB l).length := by
  have : codeB l = codeB (l.take i) ++ codeB (l.drop i) := by
    unfold codeB; rw [← List.flatten_append, ← List.map_append, List.take_append_drop]
  rw [this, List.length_append]; omega
theorem fnsB_le (l : List Fn) (i : Nat) : (fnsB (l.take i)).length ≤ (fnsB l).length := by
  have : fnsB l = fnsB (l.take i) ++ fnsB (l.drop i) := by
    unfold fnsB; rw [← List.flatten_append, ← List.map_append, List.take_append_drop]
  rw [this, List.length_append]; omega
/-- What numbers of an image may be. -/
def InsOk (x : Ins) : Prop := 0 ≤ x.1 ∧ x.1 < 256 ∧ I64 x.2
def FnOk (f : Fn) : Prop := I64 f.args ∧ I64 f.locals ∧ ∀ x ∈ f.code, InsOk x
theorem text_spec (l : List Fn) (hl : l.length ≤ 10000) (hok : ∀ f ∈ l, FnOk f) (hb : (imgB l).length ≤ 100000) (hc : ∀ f ∈ l, f.code.length ≤ 10000) :
    Tri Try.prog 47 [.agg [.vsl 3 (frows l) false]] [] (fun v m => v = .str (imgB l) ∧ m = []) := by
  refine Tri.post ?_
  have hb' : (imgB l).length = (numB l.length).length + (fnsB l).length := by simp [imgB]
  skip
  refine (Tri.enter (rl := r47) (code := c47) (by kernel_rfl) Try.func47 rfl c47_ok (by kernel_rfl) (by kernel_rfl) ?_)
  refine run_ok 4000 _ _ _ _ ?_
  simp (maxSteps := 10000000) only [go_sem, c47, r47, frows_len]
  refine sem_nilbox 1 0 1 rfl rfl ?_
  simp (maxSteps := 10000000) only [go_sem, frows_len]
  have hc0 := ocount_spec [(l.length : Int)] true [] (by intro n hn; simp at hn; rw [hn]; unfold I64; omega) (by simp)
  have hp0 : numsB (List.map posN [(l.length : Int)]) = numB l.length := by simp [numsB, posN]
  rw [List.nil_append, hp0] at hc0
  refine sem_call rfl rfl (((hc0).embed [1, 2] rfl (by repeat' first | exact trivial | rfl | (simp only [go_sem]; done) | constructor) rfl (by first | rfl | simp only [go_sem]) rfl (by simp)).mono ?_)
  rintro _ _ ⟨_, _, ⟨rfl, rfl⟩, rfl, rfl⟩
  refine run_ok 4000 _ _ _ _ ?_
  simp (maxSteps := 10000000) only [go_sem, frows_len]
  refine sem_rounds (fun i : Nat => i ≤ l.length) (fun i => [(3, .pbox 1 0), (14, .vsl 3 (frows l) false), (15, .int .i64 l.length), (16, .int .i64 (i : Nat))])
    (fun i => [.box [.vsl 3 (frows l) false], .box [.sl 2 0 (numB l.length ++ fnsB (l.take i)).length (numB l.length ++ fnsB (l.take i)).length false], .row 1 (AE.bytes (numB l.length ++ fnsB (l.take i)))])
    (fun i => l.length - i) 0 [0, 1, 3] (Nat.zero_le _) ?_ ?_
  · simp only [Emb, go_sem]; simp [fnsB]
  intro i hi
  refine run_ok 4000 _ _ _ _ ?_
  simp (maxSteps := 10000000) only [go_sem, frows_len]
  refine ⟨fun hlt => ?_, fun hge => ?_⟩
  · have hlt : i < l.length := by omega
    have hin : (i : Int) < (l.length : Int) := by omega
    have hfo := hok _ (List.getElem_mem hlt)
    have hcl := hc _ (List.getElem_mem hlt)
    have hnx := fnsB_take hlt
    have hle := fnsB_le l (i + 1)
    have e0 := frows_r0 hlt; have e1 := frows_r1 hlt; have e2 := frows_r2 hlt
    rw [hnx, List.length_append] at hle
    generalize hf : l[i] = f at *
    obtain ⟨fa, fl, fc⟩ := f
    obtain ⟨o1, o2, o3⟩ := hfo
    simp only at o1 o2 o3 hcl e0 e1 e2
    have hfb : fnB ⟨fa, fl, fc⟩ = numB (posN fa) ++ (numB (posN fl) ++ (numB fc.length ++ codeB fc)) := rfl
    rw [hfb] at hnx hle
    simp only [List.length_append] at hle
    have hc1 := ocount_spec [fa, fl, (fc.length : Int)] true (numB l.length ++ fnsB (l.take i)) (by
      intro n hn; simp at hn; rcases hn with rfl | rfl | rfl
      · exact o1
      · exact o2
      · unfold I64; omega) (by rw [List.length_append]; simp only [List.length_cons, List.length_nil]; omega)
    have hp1 : numB l.length ++ fnsB (l.take i) ++ numsB (List.map posN [fa, fl, (fc.length : Int)]) = numB l.length ++ fnsB (l.take i) ++ (numB (posN fa) ++ (numB (posN fl) ++ numB fc.length)) := by
      have : posN (fc.length : Int) = fc.length := by unfold posN; omega
      simp [numsB, this]
    rw [hp1] at hc1
    have hnx2 : numB l.length ++ fnsB (l.take (i + 1)) = numB l.length ++ fnsB (l.take i) ++ (numB (posN fa) ++ (numB (posN fl) ++ numB fc.length)) ++ codeB fc := by rw [hnx]; simp
    have hlen3 : (numB l.length ++ fnsB (l.take i) ++ (numB (posN fa) ++ (numB (posN fl) ++ numB fc.length))).length + (codeB fc).length ≤ 100000 := by
      simp only [List.length_append]; omega
    generalize hB3 : numB l.length ++ fnsB (l.take i) ++ (numB (posN fa) ++ (numB (posN fl) ++ numB fc.length)) = B3 at *
    skip
    simp (maxSteps := 10000000) only [go_sem, frows_len, irows_len, frows_h0 hlt, frows_h1 hlt, frows_h2 hlt, e0, e1, e2, hin, Int.natCast_nonneg]
    refine sem_call rfl rfl (((hc1).embed [1, 2] rfl (by repeat' first | exact trivial | rfl | (simp only [go_sem]; done) | constructor) rfl (by first | rfl | simp only [go_sem]) rfl (by simp)).mono ?_)
    rintro _ _ ⟨_, _, ⟨rfl, rfl⟩, rfl, rfl⟩
    refine run_ok 4000 _ _ _ _ ?_
    simp (maxSteps := 10000000) only [go_sem, frows_len, irows_len, frows_h0 hlt, frows_h1 hlt, frows_h2 hlt, e0, e1, e2, hin, Int.natCast_nonneg]
    refine sem_rounds (fun k : Nat => k ≤ fc.length) (fun k => [(3, .pbox 1 0), (14, .vsl 3 (frows l) false), (15, .int .i64 l.length), (16, .int .i64 (i : Nat)), (30, .vsl 2 (irows fc) false), (31, .int .i64 fc.length), (32, .int .i64 (k : Nat))])
      (fun k => [.box [.vsl 3 (frows l) false], .box [.sl 2 0 (B3 ++ codeB (fc.take k)).length (B3 ++ codeB (fc.take k)).length false], .row 1 (AE.bytes (B3 ++ codeB (fc.take k)))])
      (fun k => fc.length - k) 0 [0, 1, 4] (Nat.zero_le _) ?_ ?_
    · simp only [Emb, go_sem]; simp [codeB]
    intro k hk
    refine run_ok 4000 _ _ _ _ ?_
    simp (maxSteps := 10000000) only [go_sem, frows_len, irows_len, frows_h0 hlt, frows_h1 hlt, frows_h2 hlt, e0, e1, e2, hin, Int.natCast_nonneg]
    refine ⟨fun hlk => ?_, fun hgk => ?_⟩
    · have hlk : k < fc.length := by omega
      have hink : (k : Int) < (fc.length : Int) := by omega
      have hxo := o3 _ (List.getElem_mem hlk)
      have hcx := codeB_take hlk
      have hle2 := codeB_le fc (k + 1)
      have g0 := irows_r0 hlk; have g1 := irows_r1 hlk
      rw [hcx, List.length_append] at hle2
      generalize hx : fc[k] = x at *
      obtain ⟨op, arg⟩ := x
      obtain ⟨x1, x2, x3⟩ := hxo
      simp only at x1 x2 x3 g0 g1
      have hxb : insB (op, arg) = numB op.toNat ++ if hasArg op then numB (zg arg) else [] := rfl
      rw [hxb, List.length_append] at hle2
      rw [hxb] at hcx
      have hcv : iwrap .u64 op = ((op.toNat : Nat) : Int) := by rw [iwrap_u64]; omega
      have hn1 := wNum_spec [op.toNat] true (B3 ++ codeB (fc.take k)) (by intro n hn; simp at hn; rw [hn]; omega) (by rw [List.length_append]; simp only [List.length_cons, List.length_nil]; omega)
      rw [numsB_one] at hn1
      have hk1 := inc64 (show k < 1000000000000 by omega)
      cases hh : hasArg op
      · rw [hh] at hcx hle2
        have hnk : B3 ++ codeB (fc.take k) ++ numB op.toNat = B3 ++ codeB (fc.take (k + 1)) := by rw [hcx]; simp
        rw [hnk] at hn1
        skip
        simp (maxSteps := 10000000) only [go_sem, frows_len, irows_len, irows_h0 hlk, irows_h1 hlk, g0, g1, hink, hcv, hh, hk1, Int.natCast_nonneg]
        refine sem_call rfl rfl (((hn1).embed [1, 2] rfl (by repeat' first | exact trivial | rfl | (simp only [go_sem]; done) | constructor) rfl (by first | rfl | simp only [go_sem]) rfl (by simp)).mono ?_)
        rintro _ _ ⟨_, _, ⟨rfl, rfl⟩, rfl, rfl⟩
        refine run_ok 4000 _ _ _ _ ?_
        simp (maxSteps := 10000000) only [go_sem, frows_len, irows_len, irows_h0 hlk, irows_h1 hlk, g0, g1, hink, hcv, hh, hk1, Int.natCast_nonneg]
        refine sem_call rfl rfl (((hasArg_spec op).embed [] rfl trivial rfl rfl rfl (by simp)).mono ?_)
        rintro _ _ ⟨_, _, ⟨rfl, rfl⟩, rfl, rfl⟩
        refine run_ok 4000 _ _ _ _ ?_
        simp (maxSteps := 10000000) only [go_sem, frows_len, irows_len, irows_h0 hlk, irows_h1 hlk, g0, g1, hink, hcv, hh, hk1, Int.natCast_nonneg]
        refine ⟨k + 1, by omega, hlk, [0, 1, 4], ?_⟩
        simp only [Emb, go_sem]
      · rw [hh] at hcx hle2
        simp only [if_true] at hcx hle2
        have hi1 := oint_spec [arg] true (B3 ++ codeB (fc.take k) ++ numB op.toNat) (by intro n hn; simp at hn; rw [hn]; exact x3) (by simp only [List.length_append, List.length_cons, List.length_nil]; omega)
        have hnk : B3 ++ codeB (fc.take k) ++ numB op.toNat ++ numsB (List.map zg [arg]) = B3 ++ codeB (fc.take (k + 1)) := by rw [hcx]; simp [numsB]
        rw [hnk] at hi1
        skip
        simp (maxSteps := 10000000) only [go_sem, frows_len, irows_len, irows_h0 hlk, irows_h1 hlk, g0, g1, hink, hcv, hh, hk1, Int.natCast_nonneg]
        refine sem_call rfl rfl (((hn1).embed [1, 2] rfl (by repeat' first | exact trivial | rfl | (simp only [go_sem]; done) | constructor) rfl (by first | rfl | simp only [go_sem]) rfl (by simp)).mono ?_)
        rintro _ _ ⟨_, _, ⟨rfl, rfl⟩, rfl, rfl⟩
        refine run_ok 4000 _ _ _ _ ?_
        simp (maxSteps := 10000000) only [go_sem, frows_len, irows_len, irows_h0 hlk, irows_h1 hlk, g0, g1, hink, hcv, hh, hk1, Int.natCast_nonneg]
        refine sem_call rfl rfl (((hasArg_spec op).embed [] rfl trivial rfl rfl rfl (by simp)).mono ?_)
        rintro _ _ ⟨_, _, ⟨rfl, rfl⟩, rfl, rfl⟩
        refine run_ok 4000 _ _ _ _ ?_
        simp (maxSteps := 10000000) only [go_sem, frows_len, irows_len, irows_h0 hlk, irows_h1 hlk, g0, g1, hink, hcv, hh, hk1, Int.natCast_nonneg]
        refine sem_call rfl rfl (((hi1).embed [1, 4] rfl (by repeat' first | exact trivial | rfl | (simp only [go_sem]; done) | constructor) rfl (by first | rfl | simp only [go_sem]) rfl (by simp)).mono ?_)
        rintro _ _ ⟨_, _, ⟨rfl, rfl⟩, rfl, rfl⟩
        refine run_ok 4000 _ _ _ _ ?_
        simp (maxSteps := 10000000) only [go_sem, frows_len, irows_len, irows_h0 hlk, irows_h1 hlk, g0, g1, hink, hcv, hh, hk1, Int.natCast_nonneg]
        refine ⟨k + 1, by omega, hlk, [0, 1, 5], ?_⟩
        simp only [Emb, go_sem]
    · have htk : fc.take k = fc := List.take_of_length_le (by omega)
      rw [htk, ← hnx2]
      skip
      refine run_ok 4000 _ _ _ _ ?_
      simp (maxSteps := 10000000) only [go_sem, inc64 (show i < 1000000000000 by omega)]
      refine ⟨i + 1, by omega, hlt, [0, 1, 2], ?_⟩
      simp only [Emb, go_sem]
  · have ht : l.take i = l := List.take_of_length_le (by omega)
    have ct := otext_spec (imgB l)
    unfold imgB at ct
    rw [ht]
    skip
    refine run_ok 4000 _ _ _ _ ?_
    simp (maxSteps := 10000000) only [go_sem]
    refine sem_call rfl rfl (((ct).embed [1, 2] rfl (by repeat' first | exact trivial | rfl | (simp only [go_sem]; done) | constructor) rfl (by first | rfl | simp only [go_sem]) rfl (by simp)).mono ?_)
    rintro _ _ ⟨_, _, ⟨rfl, rfl⟩, rfl, rfl⟩
    refine run_ok 4000 _ _ _ _ ?_
    simp (maxSteps := 10000000) only [go_sem]
    refine ⟨_, _, .sub [] ?_ .done, rfl, rfl⟩
    simp only [EmbV, go_sem, imgB]
end Go.AEX

/- CodeOps, CodeMakes: the laws' evaluations. -/
namespace Go.AEX
open Go Go.AE Go.Proofs
set_option maxRecDepth 100000
set_option linter.unusedVariables false
set_option linter.unusedSimpArgs false

theorem bb_ft : (false == true) = false := rfl
theorem bb_tf : (true == false) = false := rfl
theorem bb_tt : (true == true) = true := rfl
theorem bb_ff : (false == false) = true := rfl
theorem bn_ft : (false != true) = true := rfl
theorem bn_tf : (true != false) = true := rfl
attribute [go_sem] bb_ft bb_tf bb_tt bb_ff bn_ft bn_tf
theorem Like.agg1 {a a' : AV} (h : Like a a') : Like (.agg [a]) (.agg [a']) := fun φ σ x hx => by
  cases hx with | agg hx => cases hx with | cons g1 hx => cases hx; exact .agg (.cons (h _ _ _ g1) .nil)
def sizeF (l : List Fn) : Nat := (l.map fun f => f.code.length).sum
theorem size_spec (l : List Fn) (hl : l.length ≤ 10000) (hc : ∀ f ∈ l, f.code.length ≤ 10000) : Tri Try.prog 51 [.agg [.vsl 3 (frows l) false]] [] (fun v m => v = .int .i64 (sizeF l : Nat) ∧ m = []) := by
  refine Tri.post ?_
  skip
  refine (Tri.enter (rl := r51) (code := c51) (by kernel_rfl) Try.func51 rfl c51_ok (by kernel_rfl) (by kernel_rfl) ?_)
  refine run_ok 4000 _ _ _ _ ?_
  simp (maxSteps := 10000000) only [go_sem, c51, r51, frows_len]
  refine sem_rounds (fun i : Nat => i ≤ l.length ∧ sizeF (l.take i) ≤ 10000 * i) (fun i => [(3, .int .i64 (sizeF (l.take i) : Nat)), (7, .vsl 3 (frows l) false), (8, .int .i64 l.length), (9, .int .i64 (i : Nat))])
    (fun i => []) (fun i => l.length - i) 0 [] ⟨Nat.zero_le _, by simp [sizeF]⟩ ?_ ?_
  · simp only [Emb, go_sem]; simp [sizeF]
  rintro i ⟨hi, hi2⟩
  refine run_ok 4000 _ _ _ _ ?_
  simp (maxSteps := 10000000) only [go_sem, frows_len]
  refine ⟨fun hlt => ?_, fun hge => ?_⟩
  · have hlt : i < l.length := by omega
    have hin : (i : Int) < (l.length : Int) := by omega
    have e0 := frows_r0 hlt; have e1 := frows_r1 hlt; have e2 := frows_r2 hlt
    have hcl := hc _ (List.getElem_mem hlt)
    have hnx : sizeF (l.take (i + 1)) = sizeF (l.take i) + l[i].code.length := by
      unfold sizeF; rw [List.take_succ_eq_append_getElem hlt, List.map_append, List.sum_append]; simp
    have hw : iwrap .i64 ((sizeF (l.take i) : Nat) + (l[i].code.length : Nat) : Int) = ((sizeF (l.take (i + 1)) : Nat) : Int) := by rw [iwrap_i64_in (by omega), hnx]; omega
    skip
    simp (maxSteps := 10000000) only [go_sem, frows_len, irows_len, frows_h0 hlt, frows_h1 hlt, frows_h2 hlt, e0, e1, e2, hin, Int.natCast_nonneg, hw, inc64 (show i < 1000000000000 by omega)]
    refine ⟨i + 1, by omega, ⟨hlt, by omega⟩, [], ?_⟩
    simp only [Emb, go_sem]
  · have ht : l.take i = l := List.take_of_length_le (by omega)
    skip
    refine run_ok 4000 _ _ _ _ ?_
    simp (maxSteps := 10000000) only [go_sem]
    rw [ht]
    refine ⟨_, _, .sub [] ?_ .done, rfl, rfl⟩
    simp only [EmbV, go_sem]
theorem awake03_spec : Tri Try.prog 13 [] [] (fun v m => v = .bool true ∧ m = []) := by
  refine Tri.post ?_
  have o1 : ofF 1 [5] = 5 := by decide
  have o2 : ofF 16 [] = 0 := by decide
  have hA1 : hasArg 1 = true := by decide
  have hA16 : hasArg 16 = false := by decide
  have hi : imgB [⟨0, 0, [(1, 5), (16, 0)]⟩] = [1, 0, 0, 2, 1, 10, 16] := by
    simp [imgB, fnsB, fnB, codeB, insB, numB_last, posN, hA1, hA16, zg]
  have hz : sizeF [⟨0, 0, [(1, 5), (16, 0)]⟩] = 2 := by decide
  have hn : nameF 22 = [104, 111, 115, 116] := by decide
  skip
  refine (Tri.enter (rl := r13) (code := c13) (by kernel_rfl) Try.func13 rfl c13_ok (by kernel_rfl) (by kernel_rfl) ?_)
  refine run_ok 4000 _ _ _ _ ?_
  simp (maxSteps := 10000000) only [go_sem, c13, r13, o1, o2]
  refine sem_call rfl rfl (((of_spec 1 [5] true).embed [] rfl trivial rfl rfl rfl (by simp)).mono ?_)
  rintro _ _ ⟨_, _, ⟨rfl, rfl⟩, rfl, rfl⟩
  refine run_ok 4000 _ _ _ _ ?_
  simp (maxSteps := 10000000) only [go_sem, o1, o2]
  refine sem_call rfl rfl (((Tri.arg2 (Like.nilv 1 false) (of_spec 16 [] false)).embed [] rfl trivial rfl rfl rfl (by simp)).mono ?_)
  rintro _ _ ⟨_, _, ⟨rfl, rfl⟩, rfl, rfl⟩
  refine run_ok 4000 _ _ _ _ ?_
  simp (maxSteps := 10000000) only [go_sem, o1, o2]
  refine sem_call rfl rfl (((make_spec 0 0 [(1, 5), (16, 0)] true (by simp)).embed [] rfl trivial rfl rfl rfl (by simp)).mono ?_)
  rintro _ _ ⟨_, _, ⟨rfl, rfl⟩, rfl, rfl⟩
  refine run_ok 4000 _ _ _ _ ?_
  simp (maxSteps := 10000000) only [go_sem, o1, o2]
  have ht := text_spec [⟨0, 0, [(1, 5), (16, 0)]⟩] (by simp) (by
    intro f hf; simp at hf; subst hf
    refine ⟨by unfold I64; simp, by unfold I64; simp, ?_⟩
    intro x hx; simp at hx; rcases hx with rfl | rfl <;> (unfold InsOk I64; simp)) (by rw [hi]; simp) (by intro f hf; simp at hf; subst hf; simp)
  have hs := size_spec [⟨0, 0, [(1, 5), (16, 0)]⟩] (by simp) (by intro f hf; simp at hf; subst hf; simp)
  rw [hi] at ht
  rw [hz] at hs
  have hl : Like (.agg [.vsl 3 [[.int .i64 0, .int .i64 0, .vsl 2 (irows [(1, 5), (16, 0)]) false]] true]) (.agg [.vsl 3 (frows [⟨0, 0, [(1, 5), (16, 0)]⟩]) false]) := Like.agg1 (Like.vslf _ _)
  skip
  refine sem_call rfl rfl (((Tri.arg1 hl ht).embed [] rfl trivial rfl rfl rfl (by simp)).mono ?_)
  rintro _ _ ⟨_, _, ⟨rfl, rfl⟩, rfl, rfl⟩
  refine run_ok 4000 _ _ _ _ ?_
  simp (maxSteps := 10000000) only [go_sem, hn, hA1]
  refine sem_call rfl rfl (((Tri.arg1 hl hs).embed [] rfl trivial rfl rfl rfl (by simp)).mono ?_)
  rintro _ _ ⟨_, _, ⟨rfl, rfl⟩, rfl, rfl⟩
  refine run_ok 4000 _ _ _ _ ?_
  simp (maxSteps := 10000000) only [go_sem, hn, hA1]
  refine sem_call rfl rfl (((name_spec 22 (by decide)).embed [] rfl trivial rfl rfl rfl (by simp)).mono ?_)
  rintro _ _ ⟨_, _, ⟨rfl, rfl⟩, rfl, rfl⟩
  refine run_ok 4000 _ _ _ _ ?_
  simp (maxSteps := 10000000) only [go_sem, hn, hA1]
  refine sem_call rfl rfl (((hasArg_spec 1).embed [] rfl trivial rfl rfl rfl (by simp)).mono ?_)
  rintro _ _ ⟨_, _, ⟨rfl, rfl⟩, rfl, rfl⟩
  refine run_ok 4000 _ _ _ _ ?_
  simp (maxSteps := 10000000) only [go_sem, hn, hA1]
  refine ⟨_, _, .like (Like.bool true) (.sub [] ?_ .done), rfl, rfl⟩
  simp only [EmbV, go_sem]
theorem names_none : ∀ o : Nat, o < 256 → (seqb (nameF o) [63] = true ↔ ¬ (1 ≤ o ∧ o ≤ 22)) := by decide +kernel
theorem names_two : ∀ o : Nat, o < 23 → ∀ p : Nat, p < 23 → (seqb (nameF o) (nameF p) = true ↔ o = p) := by decide +kernel
theorem u8_nat {n : Int} (h : (Lit.int .u8 n).wf = true) : ∃ k : Nat, n = (k : Int) ∧ k < 256 := by
  simp [Lit.wf, IntKind.min, IntKind.max, IntKind.bits, IntKind.signed] at h
  exact ⟨n.toNat, by omega, by omega⟩
theorem codeOps_spec (o : Int) (ho : (Lit.int .u8 o).wf = true) (p : Int) (hp : (Lit.int .u8 p).wf = true) (arg : Int) (ha : (Lit.int .i64 arg).wf = true) :
    Tri Try.prog 3 [.int .u8 o, .int .u8 p, .int .i64 arg] [] (fun v m => v = .bool true) := by
  obtain ⟨o, rfl, ho'⟩ := u8_nat ho
  obtain ⟨p, rfl, hp'⟩ := u8_nat hp
  have hcv : iwrap .i64 (o : Int) = (o : Int) := iwrap_i64_in (by omega)
  have hno := names_none o ho'
  have hof0 : ofF (o : Int) [] = 0 := by simp [ofF]
  by_cases hi : 1 ≤ o ∧ o ≤ 22
  · have g1 : (o : Int) ≥ 1 := by omega
    have g2 : (o : Int) ≤ 22 := by omega
    have g3 : seqb (nameF o) [63] = false := by
      cases h : seqb (nameF o) [63]
      · rfl
      · exact absurd hi (hno.1 h)
    cases hh : hasArg (o : Int)
    · have hof : ofF (o : Int) [arg] = 0 := by simp [ofF, hh]
      by_cases hi2 : 1 ≤ p ∧ p ≤ 22
      · have g4 : (p : Int) ≥ 1 := by omega
        have g5 : (p : Int) ≤ 22 := by omega
        have g6 : seqb (nameF o) (nameF p) = ((o : Int) == (p : Int)) := by rw [Bool.eq_iff_iff, names_two o (by omega) p (by omega)]; simp; omega
        skip
        refine (Tri.asB (Tri.enter (rl := r3) (code := c3) (by kernel_rfl) Try.func3 rfl c3_ok (by kernel_rfl) (by kernel_rfl) ?_))
        refine run_ok 4000 _ _ _ _ ?_
        simp (maxSteps := 10000000) only [go_sem, c3, r3, g1, g2, g3, g4, g5, g6, hcv, hof0, hof, hh]
        refine sem_call rfl rfl (((awake03_spec).embed [] rfl trivial rfl rfl rfl (by simp)).mono ?_)
        rintro _ _ ⟨_, _, ⟨rfl, rfl⟩, rfl, rfl⟩
        refine run_ok 4000 _ _ _ _ ?_
        simp (maxSteps := 10000000) only [go_sem, g1, g2, g3, g4, g5, g6, hcv, hof0, hof, hh]
        refine sem_call rfl rfl (((name_spec o ho').embed [] rfl trivial rfl rfl rfl (by simp)).mono ?_)
        rintro _ _ ⟨_, _, ⟨rfl, rfl⟩, rfl, rfl⟩
        refine run_ok 4000 _ _ _ _ ?_
        simp (maxSteps := 10000000) only [go_sem, g1, g2, g3, g4, g5, g6, hcv, hof0, hof, hh]
        refine sem_call rfl rfl (((hasArg_spec o).embed [] rfl trivial rfl rfl rfl (by simp)).mono ?_)
        rintro _ _ ⟨_, _, ⟨rfl, rfl⟩, rfl, rfl⟩
        refine run_ok 4000 _ _ _ _ ?_
        simp (maxSteps := 10000000) only [go_sem, g1, g2, g3, g4, g5, g6, hcv, hof0, hof, hh]
        refine sem_call rfl rfl (((rhasArg_spec o).embed [] rfl trivial rfl rfl rfl (by simp)).mono ?_)
        rintro _ _ ⟨_, _, ⟨rfl, rfl⟩, rfl, rfl⟩
        refine run_ok 4000 _ _ _ _ ?_
        simp (maxSteps := 10000000) only [go_sem, g1, g2, g3, g4, g5, g6, hcv, hof0, hof, hh]
        refine sem_call rfl rfl (((name_spec o ho').embed [] rfl trivial rfl rfl rfl (by simp)).mono ?_)
        rintro _ _ ⟨_, _, ⟨rfl, rfl⟩, rfl, rfl⟩
        refine run_ok 4000 _ _ _ _ ?_
        simp (maxSteps := 10000000) only [go_sem, g1, g2, g3, g4, g5, g6, hcv, hof0, hof, hh]
        refine sem_call rfl rfl (((name_spec p hp').embed [] rfl trivial rfl rfl rfl (by simp)).mono ?_)
        rintro _ _ ⟨_, _, ⟨rfl, rfl⟩, rfl, rfl⟩
        refine run_ok 4000 _ _ _ _ ?_
        simp (maxSteps := 10000000) only [go_sem, g1, g2, g3, g4, g5, g6, hcv, hof0, hof, hh]
        refine sem_call rfl rfl (((of_spec o [arg] true).embed [] rfl trivial rfl rfl rfl (by simp)).mono ?_)
        rintro _ _ ⟨_, _, ⟨rfl, rfl⟩, rfl, rfl⟩
        refine run_ok 4000 _ _ _ _ ?_
        simp (maxSteps := 10000000) only [go_sem, g1, g2, g3, g4, g5, g6, hcv, hof0, hof, hh]
        refine sem_call rfl rfl (((Tri.arg2 (Like.nilv 1 false) (of_spec o [] false)).embed [] rfl trivial rfl rfl rfl (by simp)).mono ?_)
        rintro _ _ ⟨_, _, ⟨rfl, rfl⟩, rfl, rfl⟩
        refine run_ok 4000 _ _ _ _ ?_
        simp (maxSteps := 10000000) only [go_sem, g1, g2, g3, g4, g5, g6, hcv, hof0, hof, hh]
        all_goals
          intro hq
          refine sem_call rfl rfl (((hasArg_spec o).embed [] rfl trivial rfl rfl rfl (by simp)).mono ?_)
          rintro _ _ ⟨_, _, ⟨rfl, rfl⟩, rfl, rfl⟩
          refine run_ok 4000 _ _ _ _ ?_
          simp (maxSteps := 10000000) only [go_sem, g1, g2, g3, g4, g5, g6, hcv, hof0, hof, hh]
      · by_cases g4 : (p : Int) ≥ 1
        · have g5 : ¬ (p : Int) ≤ 22 := by omega
          skip
          refine (Tri.asB (Tri.enter (rl := r3) (code := c3) (by kernel_rfl) Try.func3 rfl c3_ok (by kernel_rfl) (by kernel_rfl) ?_))
          refine run_ok 4000 _ _ _ _ ?_
          simp (maxSteps := 10000000) only [go_sem, c3, r3, g1, g2, g3, g4, g5, hcv, hof0, hof, hh]
          refine sem_call rfl rfl (((awake03_spec).embed [] rfl trivial rfl rfl rfl (by simp)).mono ?_)
          rintro _ _ ⟨_, _, ⟨rfl, rfl⟩, rfl, rfl⟩
          refine run_ok 4000 _ _ _ _ ?_
          simp (maxSteps := 10000000) only [go_sem, g1, g2, g3, g4, g5, hcv, hof0, hof, hh]
          refine sem_call rfl rfl (((name_spec o ho').embed [] rfl trivial rfl rfl rfl (by simp)).mono ?_)
          rintro _ _ ⟨_, _, ⟨rfl, rfl⟩, rfl, rfl⟩
          refine run_ok 4000 _ _ _ _ ?_
          simp (maxSteps := 10000000) only [go_sem, g1, g2, g3, g4, g5, hcv, hof0, hof, hh]
          refine sem_call rfl rfl (((hasArg_spec o).embed [] rfl trivial rfl rfl rfl (by simp)).mono ?_)
          rintro _ _ ⟨_, _, ⟨rfl, rfl⟩, rfl, rfl⟩
          refine run_ok 4000 _ _ _ _ ?_
          simp (maxSteps := 10000000) only [go_sem, g1, g2, g3, g4, g5, hcv, hof0, hof, hh]
          refine sem_call rfl rfl (((rhasArg_spec o).embed [] rfl trivial rfl rfl rfl (by simp)).mono ?_)
          rintro _ _ ⟨_, _, ⟨rfl, rfl⟩, rfl, rfl⟩
          refine run_ok 4000 _ _ _ _ ?_
          simp (maxSteps := 10000000) only [go_sem, g1, g2, g3, g4, g5, hcv, hof0, hof, hh]
          refine sem_call rfl rfl (((of_spec o [arg] true).embed [] rfl trivial rfl rfl rfl (by simp)).mono ?_)
          rintro _ _ ⟨_, _, ⟨rfl, rfl⟩, rfl, rfl⟩
          refine run_ok 4000 _ _ _ _ ?_
          simp (maxSteps := 10000000) only [go_sem, g1, g2, g3, g4, g5, hcv, hof0, hof, hh]
          refine sem_call rfl rfl (((Tri.arg2 (Like.nilv 1 false) (of_spec o [] false)).embed [] rfl trivial rfl rfl rfl (by simp)).mono ?_)
          rintro _ _ ⟨_, _, ⟨rfl, rfl⟩, rfl, rfl⟩
          refine run_ok 4000 _ _ _ _ ?_
          simp (maxSteps := 10000000) only [go_sem, g1, g2, g3, g4, g5, hcv, hof0, hof, hh]
          all_goals
            intro hq
            refine sem_call rfl rfl (((hasArg_spec o).embed [] rfl trivial rfl rfl rfl (by simp)).mono ?_)
            rintro _ _ ⟨_, _, ⟨rfl, rfl⟩, rfl, rfl⟩
            refine run_ok 4000 _ _ _ _ ?_
            simp (maxSteps := 10000000) only [go_sem, g1, g2, g3, g4, g5, hcv, hof0, hof, hh]
        · skip
          refine (Tri.asB (Tri.enter (rl := r3) (code := c3) (by kernel_rfl) Try.func3 rfl c3_ok (by kernel_rfl) (by kernel_rfl) ?_))
          refine run_ok 4000 _ _ _ _ ?_
          simp (maxSteps := 10000000) only [go_sem, c3, r3, g1, g2, g3, g4, hcv, hof0, hof, hh]
          refine sem_call rfl rfl (((awake03_spec).embed [] rfl trivial rfl rfl rfl (by simp)).mono ?_)
          rintro _ _ ⟨_, _, ⟨rfl, rfl⟩, rfl, rfl⟩
          refine run_ok 4000 _ _ _ _ ?_
          simp (maxSteps := 10000000) only [go_sem, g1, g2, g3, g4, hcv, hof0, hof, hh]
          refine sem_call rfl rfl (((name_spec o ho').embed [] rfl trivial rfl rfl rfl (by simp)).mono ?_)
          rintro _ _ ⟨_, _, ⟨rfl, rfl⟩, rfl, rfl⟩
          refine run_ok 4000 _ _ _ _ ?_
          simp (maxSteps := 10000000) only [go_sem, g1, g2, g3, g4, hcv, hof0, hof, hh]
          refine sem_call rfl rfl (((hasArg_spec o).embed [] rfl trivial rfl rfl rfl (by simp)).mono ?_)
          rintro _ _ ⟨_, _, ⟨rfl, rfl⟩, rfl, rfl⟩
          refine run_ok 4000 _ _ _ _ ?_
          simp (maxSteps := 10000000) only [go_sem, g1, g2, g3, g4, hcv, hof0, hof, hh]
          refine sem_call rfl rfl (((rhasArg_spec o).embed [] rfl trivial rfl rfl rfl (by simp)).mono ?_)
          rintro _ _ ⟨_, _, ⟨rfl, rfl⟩, rfl, rfl⟩
          refine run_ok 4000 _ _ _ _ ?_
          simp (maxSteps := 10000000) only [go_sem, g1, g2, g3, g4, hcv, hof0, hof, hh]
          refine sem_call rfl rfl (((of_spec o [arg] true).embed [] rfl trivial rfl rfl rfl (by simp)).mono ?_)
          rintro _ _ ⟨_, _, ⟨rfl, rfl⟩, rfl, rfl⟩
          refine run_ok 4000 _ _ _ _ ?_
          simp (maxSteps := 10000000) only [go_sem, g1, g2, g3, g4, hcv, hof0, hof, hh]
          refine sem_call rfl rfl (((Tri.arg2 (Like.nilv 1 false) (of_spec o [] false)).embed [] rfl trivial rfl rfl rfl (by simp)).mono ?_)
          rintro _ _ ⟨_, _, ⟨rfl, rfl⟩, rfl, rfl⟩
          refine run_ok 4000 _ _ _ _ ?_
          simp (maxSteps := 10000000) only [go_sem, g1, g2, g3, g4, hcv, hof0, hof, hh]
          all_goals
            intro hq
            refine sem_call rfl rfl (((hasArg_spec o).embed [] rfl trivial rfl rfl rfl (by simp)).mono ?_)
            rintro _ _ ⟨_, _, ⟨rfl, rfl⟩, rfl, rfl⟩
            refine run_ok 4000 _ _ _ _ ?_
            simp (maxSteps := 10000000) only [go_sem, g1, g2, g3, g4, hcv, hof0, hof, hh]
    · have hof : ofF (o : Int) [arg] = arg := by simp [ofF, hh]
      by_cases hi2 : 1 ≤ p ∧ p ≤ 22
      · have g4 : (p : Int) ≥ 1 := by omega
        have g5 : (p : Int) ≤ 22 := by omega
        have g6 : seqb (nameF o) (nameF p) = ((o : Int) == (p : Int)) := by rw [Bool.eq_iff_iff, names_two o (by omega) p (by omega)]; simp; omega
        skip
        refine (Tri.asB (Tri.enter (rl := r3) (code := c3) (by kernel_rfl) Try.func3 rfl c3_ok (by kernel_rfl) (by kernel_rfl) ?_))
        refine run_ok 4000 _ _ _ _ ?_
        simp (maxSteps := 10000000) only [go_sem, c3, r3, g1, g2, g3, g4, g5, g6, hcv, hof0, hof, hh]
        refine sem_call rfl rfl (((awake03_spec).embed [] rfl trivial rfl rfl rfl (by simp)).mono ?_)
        rintro _ _ ⟨_, _, ⟨rfl, rfl⟩, rfl, rfl⟩
        refine run_ok 4000 _ _ _ _ ?_
        simp (maxSteps := 10000000) only [go_sem, g1, g2, g3, g4, g5, g6, hcv, hof0, hof, hh]
        refine sem_call rfl rfl (((name_spec o ho').embed [] rfl trivial rfl rfl rfl (by simp)).mono ?_)
        rintro _ _ ⟨_, _, ⟨rfl, rfl⟩, rfl, rfl⟩
        refine run_ok 4000 _ _ _ _ ?_
        simp (maxSteps := 10000000) only [go_sem, g1, g2, g3, g4, g5, g6, hcv, hof0, hof, hh]
        refine sem_call rfl rfl (((hasArg_spec o).embed [] rfl trivial rfl rfl rfl (by simp)).mono ?_)
        rintro _ _ ⟨_, _, ⟨rfl, rfl⟩, rfl, rfl⟩
        refine run_ok 4000 _ _ _ _ ?_
        simp (maxSteps := 10000000) only [go_sem, g1, g2, g3, g4, g5, g6, hcv, hof0, hof, hh]
        refine sem_call rfl rfl (((rhasArg_spec o).embed [] rfl trivial rfl rfl rfl (by simp)).mono ?_)
        rintro _ _ ⟨_, _, ⟨rfl, rfl⟩, rfl, rfl⟩
        refine run_ok 4000 _ _ _ _ ?_
        simp (maxSteps := 10000000) only [go_sem, g1, g2, g3, g4, g5, g6, hcv, hof0, hof, hh]
        refine sem_call rfl rfl (((name_spec o ho').embed [] rfl trivial rfl rfl rfl (by simp)).mono ?_)
        rintro _ _ ⟨_, _, ⟨rfl, rfl⟩, rfl, rfl⟩
        refine run_ok 4000 _ _ _ _ ?_
        simp (maxSteps := 10000000) only [go_sem, g1, g2, g3, g4, g5, g6, hcv, hof0, hof, hh]
        refine sem_call rfl rfl (((name_spec p hp').embed [] rfl trivial rfl rfl rfl (by simp)).mono ?_)
        rintro _ _ ⟨_, _, ⟨rfl, rfl⟩, rfl, rfl⟩
        refine run_ok 4000 _ _ _ _ ?_
        simp (maxSteps := 10000000) only [go_sem, g1, g2, g3, g4, g5, g6, hcv, hof0, hof, hh]
        refine sem_call rfl rfl (((of_spec o [arg] true).embed [] rfl trivial rfl rfl rfl (by simp)).mono ?_)
        rintro _ _ ⟨_, _, ⟨rfl, rfl⟩, rfl, rfl⟩
        refine run_ok 4000 _ _ _ _ ?_
        simp (maxSteps := 10000000) only [go_sem, g1, g2, g3, g4, g5, g6, hcv, hof0, hof, hh]
        refine sem_call rfl rfl (((Tri.arg2 (Like.nilv 1 false) (of_spec o [] false)).embed [] rfl trivial rfl rfl rfl (by simp)).mono ?_)
        rintro _ _ ⟨_, _, ⟨rfl, rfl⟩, rfl, rfl⟩
        refine run_ok 4000 _ _ _ _ ?_
        simp (maxSteps := 10000000) only [go_sem, g1, g2, g3, g4, g5, g6, hcv, hof0, hof, hh]
        all_goals
          intro hq
          refine sem_call rfl rfl (((hasArg_spec o).embed [] rfl trivial rfl rfl rfl (by simp)).mono ?_)
          rintro _ _ ⟨_, _, ⟨rfl, rfl⟩, rfl, rfl⟩
          refine run_ok 4000 _ _ _ _ ?_
          simp (maxSteps := 10000000) only [go_sem, g1, g2, g3, g4, g5, g6, hcv, hof0, hof, hh]
      · by_cases g4 : (p : Int) ≥ 1
        · have g5 : ¬ (p : Int) ≤ 22 := by omega
          skip
          refine (Tri.asB (Tri.enter (rl := r3) (code := c3) (by kernel_rfl) Try.func3 rfl c3_ok (by kernel_rfl) (by kernel_rfl) ?_))
          refine run_ok 4000 _ _ _ _ ?_
          simp (maxSteps := 10000000) only [go_sem, c3, r3, g1, g2, g3, g4, g5, hcv, hof0, hof, hh]
          refine sem_call rfl rfl (((awake03_spec).embed [] rfl trivial rfl rfl rfl (by simp)).mono ?_)
          rintro _ _ ⟨_, _, ⟨rfl, rfl⟩, rfl, rfl⟩
          refine run_ok 4000 _ _ _ _ ?_
          simp (maxSteps := 10000000) only [go_sem, g1, g2, g3, g4, g5, hcv, hof0, hof, hh]
          refine sem_call rfl rfl (((name_spec o ho').embed [] rfl trivial rfl rfl rfl (by simp)).mono ?_)
          rintro _ _ ⟨_, _, ⟨rfl, rfl⟩, rfl, rfl⟩
          refine run_ok 4000 _ _ _ _ ?_
          simp (maxSteps := 10000000) only [go_sem, g1, g2, g3, g4, g5, hcv, hof0, hof, hh]
          refine sem_call rfl rfl (((hasArg_spec o).embed [] rfl trivial rfl rfl rfl (by simp)).mono ?_)
          rintro _ _ ⟨_, _, ⟨rfl, rfl⟩, rfl, rfl⟩
          refine run_ok 4000 _ _ _ _ ?_
          simp (maxSteps := 10000000) only [go_sem, g1, g2, g3, g4, g5, hcv, hof0, hof, hh]
          refine sem_call rfl rfl (((rhasArg_spec o).embed [] rfl trivial rfl rfl rfl (by simp)).mono ?_)
          rintro _ _ ⟨_, _, ⟨rfl, rfl⟩, rfl, rfl⟩
          refine run_ok 4000 _ _ _ _ ?_
          simp (maxSteps := 10000000) only [go_sem, g1, g2, g3, g4, g5, hcv, hof0, hof, hh]
          refine sem_call rfl rfl (((of_spec o [arg] true).embed [] rfl trivial rfl rfl rfl (by simp)).mono ?_)
          rintro _ _ ⟨_, _, ⟨rfl, rfl⟩, rfl, rfl⟩
          refine run_ok 4000 _ _ _ _ ?_
          simp (maxSteps := 10000000) only [go_sem, g1, g2, g3, g4, g5, hcv, hof0, hof, hh]
          refine sem_call rfl rfl (((Tri.arg2 (Like.nilv 1 false) (of_spec o [] false)).embed [] rfl trivial rfl rfl rfl (by simp)).mono ?_)
          rintro _ _ ⟨_, _, ⟨rfl, rfl⟩, rfl, rfl⟩
          refine run_ok 4000 _ _ _ _ ?_
          simp (maxSteps := 10000000) only [go_sem, g1, g2, g3, g4, g5, hcv, hof0, hof, hh]
          all_goals
            intro hq
            refine sem_call rfl rfl (((hasArg_spec o).embed [] rfl trivial rfl rfl rfl (by simp)).mono ?_)
            rintro _ _ ⟨_, _, ⟨rfl, rfl⟩, rfl, rfl⟩
            refine run_ok 4000 _ _ _ _ ?_
            simp (maxSteps := 10000000) only [go_sem, g1, g2, g3, g4, g5, hcv, hof0, hof, hh]
        · skip
          refine (Tri.asB (Tri.enter (rl := r3) (code := c3) (by kernel_rfl) Try.func3 rfl c3_ok (by kernel_rfl) (by kernel_rfl) ?_))
          refine run_ok 4000 _ _ _ _ ?_
          simp (maxSteps := 10000000) only [go_sem, c3, r3, g1, g2, g3, g4, hcv, hof0, hof, hh]
          refine sem_call rfl rfl (((awake03_spec).embed [] rfl trivial rfl rfl rfl (by simp)).mono ?_)
          rintro _ _ ⟨_, _, ⟨rfl, rfl⟩, rfl, rfl⟩
          refine run_ok 4000 _ _ _ _ ?_
          simp (maxSteps := 10000000) only [go_sem, g1, g2, g3, g4, hcv, hof0, hof, hh]
          refine sem_call rfl rfl (((name_spec o ho').embed [] rfl trivial rfl rfl rfl (by simp)).mono ?_)
          rintro _ _ ⟨_, _, ⟨rfl, rfl⟩, rfl, rfl⟩
          refine run_ok 4000 _ _ _ _ ?_
          simp (maxSteps := 10000000) only [go_sem, g1, g2, g3, g4, hcv, hof0, hof, hh]
          refine sem_call rfl rfl (((hasArg_spec o).embed [] rfl trivial rfl rfl rfl (by simp)).mono ?_)
          rintro _ _ ⟨_, _, ⟨rfl, rfl⟩, rfl, rfl⟩
          refine run_ok 4000 _ _ _ _ ?_
          simp (maxSteps := 10000000) only [go_sem, g1, g2, g3, g4, hcv, hof0, hof, hh]
          refine sem_call rfl rfl (((rhasArg_spec o).embed [] rfl trivial rfl rfl rfl (by simp)).mono ?_)
          rintro _ _ ⟨_, _, ⟨rfl, rfl⟩, rfl, rfl⟩
          refine run_ok 4000 _ _ _ _ ?_
          simp (maxSteps := 10000000) only [go_sem, g1, g2, g3, g4, hcv, hof0, hof, hh]
          refine sem_call rfl rfl (((of_spec o [arg] true).embed [] rfl trivial rfl rfl rfl (by simp)).mono ?_)
          rintro _ _ ⟨_, _, ⟨rfl, rfl⟩, rfl, rfl⟩
          refine run_ok 4000 _ _ _ _ ?_
          simp (maxSteps := 10000000) only [go_sem, g1, g2, g3, g4, hcv, hof0, hof, hh]
          refine sem_call rfl rfl (((Tri.arg2 (Like.nilv 1 false) (of_spec o [] false)).embed [] rfl trivial rfl rfl rfl (by simp)).mono ?_)
          rintro _ _ ⟨_, _, ⟨rfl, rfl⟩, rfl, rfl⟩
          refine run_ok 4000 _ _ _ _ ?_
          simp (maxSteps := 10000000) only [go_sem, g1, g2, g3, g4, hcv, hof0, hof, hh]
          all_goals
            intro hq
            refine sem_call rfl rfl (((hasArg_spec o).embed [] rfl trivial rfl rfl rfl (by simp)).mono ?_)
            rintro _ _ ⟨_, _, ⟨rfl, rfl⟩, rfl, rfl⟩
            refine run_ok 4000 _ _ _ _ ?_
            simp (maxSteps := 10000000) only [go_sem, g1, g2, g3, g4, hcv, hof0, hof, hh]
  · have g3 : seqb (nameF o) [63] = true := hno.2 hi
    by_cases g1 : (o : Int) ≥ 1
    · have g2 : ¬ (o : Int) ≤ 22 := by omega
      cases hh : hasArg (o : Int)
      · have hof : ofF (o : Int) [arg] = 0 := by simp [ofF, hh]
        skip
        refine (Tri.asB (Tri.enter (rl := r3) (code := c3) (by kernel_rfl) Try.func3 rfl c3_ok (by kernel_rfl) (by kernel_rfl) ?_))
        refine run_ok 4000 _ _ _ _ ?_
        simp (maxSteps := 10000000) only [go_sem, c3, r3, g1, g2, g3, hcv, hof0, hof, hh]
        refine sem_call rfl rfl (((awake03_spec).embed [] rfl trivial rfl rfl rfl (by simp)).mono ?_)
        rintro _ _ ⟨_, _, ⟨rfl, rfl⟩, rfl, rfl⟩
        refine run_ok 4000 _ _ _ _ ?_
        simp (maxSteps := 10000000) only [go_sem, g1, g2, g3, hcv, hof0, hof, hh]
        refine sem_call rfl rfl (((name_spec o ho').embed [] rfl trivial rfl rfl rfl (by simp)).mono ?_)
        rintro _ _ ⟨_, _, ⟨rfl, rfl⟩, rfl, rfl⟩
        refine run_ok 4000 _ _ _ _ ?_
        simp (maxSteps := 10000000) only [go_sem, g1, g2, g3, hcv, hof0, hof, hh]
        refine sem_call rfl rfl (((hasArg_spec o).embed [] rfl trivial rfl rfl rfl (by simp)).mono ?_)
        rintro _ _ ⟨_, _, ⟨rfl, rfl⟩, rfl, rfl⟩
        refine run_ok 4000 _ _ _ _ ?_
        simp (maxSteps := 10000000) only [go_sem, g1, g2, g3, hcv, hof0, hof, hh]
        refine sem_call rfl rfl (((rhasArg_spec o).embed [] rfl trivial rfl rfl rfl (by simp)).mono ?_)
        rintro _ _ ⟨_, _, ⟨rfl, rfl⟩, rfl, rfl⟩
        refine run_ok 4000 _ _ _ _ ?_
        simp (maxSteps := 10000000) only [go_sem, g1, g2, g3, hcv, hof0, hof, hh]
        refine sem_call rfl rfl (((of_spec o [arg] true).embed [] rfl trivial rfl rfl rfl (by simp)).mono ?_)
        rintro _ _ ⟨_, _, ⟨rfl, rfl⟩, rfl, rfl⟩
        refine run_ok 4000 _ _ _ _ ?_
        simp (maxSteps := 10000000) only [go_sem, g1, g2, g3, hcv, hof0, hof, hh]
        refine sem_call rfl rfl (((Tri.arg2 (Like.nilv 1 false) (of_spec o [] false)).embed [] rfl trivial rfl rfl rfl (by simp)).mono ?_)
        rintro _ _ ⟨_, _, ⟨rfl, rfl⟩, rfl, rfl⟩
        refine run_ok 4000 _ _ _ _ ?_
        simp (maxSteps := 10000000) only [go_sem, g1, g2, g3, hcv, hof0, hof, hh]
        all_goals
          intro hq
          refine sem_call rfl rfl (((hasArg_spec o).embed [] rfl trivial rfl rfl rfl (by simp)).mono ?_)
          rintro _ _ ⟨_, _, ⟨rfl, rfl⟩, rfl, rfl⟩
          refine run_ok 4000 _ _ _ _ ?_
          simp (maxSteps := 10000000) only [go_sem, g1, g2, g3, hcv, hof0, hof, hh]
      · have hof : ofF (o : Int) [arg] = arg := by simp [ofF, hh]
        skip
        refine (Tri.asB (Tri.enter (rl := r3) (code := c3) (by kernel_rfl) Try.func3 rfl c3_ok (by kernel_rfl) (by kernel_rfl) ?_))
        refine run_ok 4000 _ _ _ _ ?_
        simp (maxSteps := 10000000) only [go_sem, c3, r3, g1, g2, g3, hcv, hof0, hof, hh]
        refine sem_call rfl rfl (((awake03_spec).embed [] rfl trivial rfl rfl rfl (by simp)).mono ?_)
        rintro _ _ ⟨_, _, ⟨rfl, rfl⟩, rfl, rfl⟩
        refine run_ok 4000 _ _ _ _ ?_
        simp (maxSteps := 10000000) only [go_sem, g1, g2, g3, hcv, hof0, hof, hh]
        refine sem_call rfl rfl (((name_spec o ho').embed [] rfl trivial rfl rfl rfl (by simp)).mono ?_)
        rintro _ _ ⟨_, _, ⟨rfl, rfl⟩, rfl, rfl⟩
        refine run_ok 4000 _ _ _ _ ?_
        simp (maxSteps := 10000000) only [go_sem, g1, g2, g3, hcv, hof0, hof, hh]
        refine sem_call rfl rfl (((hasArg_spec o).embed [] rfl trivial rfl rfl rfl (by simp)).mono ?_)
        rintro _ _ ⟨_, _, ⟨rfl, rfl⟩, rfl, rfl⟩
        refine run_ok 4000 _ _ _ _ ?_
        simp (maxSteps := 10000000) only [go_sem, g1, g2, g3, hcv, hof0, hof, hh]
        refine sem_call rfl rfl (((rhasArg_spec o).embed [] rfl trivial rfl rfl rfl (by simp)).mono ?_)
        rintro _ _ ⟨_, _, ⟨rfl, rfl⟩, rfl, rfl⟩
        refine run_ok 4000 _ _ _ _ ?_
        simp (maxSteps := 10000000) only [go_sem, g1, g2, g3, hcv, hof0, hof, hh]
        refine sem_call rfl rfl (((of_spec o [arg] true).embed [] rfl trivial rfl rfl rfl (by simp)).mono ?_)
        rintro _ _ ⟨_, _, ⟨rfl, rfl⟩, rfl, rfl⟩
        refine run_ok 4000 _ _ _ _ ?_
        simp (maxSteps := 10000000) only [go_sem, g1, g2, g3, hcv, hof0, hof, hh]
        refine sem_call rfl rfl (((Tri.arg2 (Like.nilv 1 false) (of_spec o [] false)).embed [] rfl trivial rfl rfl rfl (by simp)).mono ?_)
        rintro _ _ ⟨_, _, ⟨rfl, rfl⟩, rfl, rfl⟩
        refine run_ok 4000 _ _ _ _ ?_
        simp (maxSteps := 10000000) only [go_sem, g1, g2, g3, hcv, hof0, hof, hh]
        all_goals
          intro hq
          refine sem_call rfl rfl (((hasArg_spec o).embed [] rfl trivial rfl rfl rfl (by simp)).mono ?_)
          rintro _ _ ⟨_, _, ⟨rfl, rfl⟩, rfl, rfl⟩
          refine run_ok 4000 _ _ _ _ ?_
          simp (maxSteps := 10000000) only [go_sem, g1, g2, g3, hcv, hof0, hof, hh]
    · cases hh : hasArg (o : Int)
      · have hof : ofF (o : Int) [arg] = 0 := by simp [ofF, hh]
        skip
        refine (Tri.asB (Tri.enter (rl := r3) (code := c3) (by kernel_rfl) Try.func3 rfl c3_ok (by kernel_rfl) (by kernel_rfl) ?_))
        refine run_ok 4000 _ _ _ _ ?_
        simp (maxSteps := 10000000) only [go_sem, c3, r3, g1, g3, hcv, hof0, hof, hh]
        refine sem_call rfl rfl (((awake03_spec).embed [] rfl trivial rfl rfl rfl (by simp)).mono ?_)
        rintro _ _ ⟨_, _, ⟨rfl, rfl⟩, rfl, rfl⟩
        refine run_ok 4000 _ _ _ _ ?_
        simp (maxSteps := 10000000) only [go_sem, g1, g3, hcv, hof0, hof, hh]
        refine sem_call rfl rfl (((name_spec o ho').embed [] rfl trivial rfl rfl rfl (by simp)).mono ?_)
        rintro _ _ ⟨_, _, ⟨rfl, rfl⟩, rfl, rfl⟩
        refine run_ok 4000 _ _ _ _ ?_
        simp (maxSteps := 10000000) only [go_sem, g1, g3, hcv, hof0, hof, hh]
        refine sem_call rfl rfl (((hasArg_spec o).embed [] rfl trivial rfl rfl rfl (by simp)).mono ?_)
        rintro _ _ ⟨_, _, ⟨rfl, rfl⟩, rfl, rfl⟩
        refine run_ok 4000 _ _ _ _ ?_
        simp (maxSteps := 10000000) only [go_sem, g1, g3, hcv, hof0, hof, hh]
        refine sem_call rfl rfl (((rhasArg_spec o).embed [] rfl trivial rfl rfl rfl (by simp)).mono ?_)
        rintro _ _ ⟨_, _, ⟨rfl, rfl⟩, rfl, rfl⟩
        refine run_ok 4000 _ _ _ _ ?_
        simp (maxSteps := 10000000) only [go_sem, g1, g3, hcv, hof0, hof, hh]
        refine sem_call rfl rfl (((of_spec o [arg] true).embed [] rfl trivial rfl rfl rfl (by simp)).mono ?_)
        rintro _ _ ⟨_, _, ⟨rfl, rfl⟩, rfl, rfl⟩
        refine run_ok 4000 _ _ _ _ ?_
        simp (maxSteps := 10000000) only [go_sem, g1, g3, hcv, hof0, hof, hh]
        refine sem_call rfl rfl (((Tri.arg2 (Like.nilv 1 false) (of_spec o [] false)).embed [] rfl trivial rfl rfl rfl (by simp)).mono ?_)
        rintro _ _ ⟨_, _, ⟨rfl, rfl⟩, rfl, rfl⟩
        refine run_ok 4000 _ _ _ _ ?_
        simp (maxSteps := 10000000) only [go_sem, g1, g3, hcv, hof0, hof, hh]
        all_goals
          intro hq
          refine sem_call rfl rfl (((hasArg_spec o).embed [] rfl trivial rfl rfl rfl (by simp)).mono ?_)
          rintro _ _ ⟨_, _, ⟨rfl, rfl⟩, rfl, rfl⟩
          refine run_ok 4000 _ _ _ _ ?_
          simp (maxSteps := 10000000) only [go_sem, g1, g3, hcv, hof0, hof, hh]
      · have hof : ofF (o : Int) [arg] = arg := by simp [ofF, hh]
        skip
        refine (Tri.asB (Tri.enter (rl := r3) (code := c3) (by kernel_rfl) Try.func3 rfl c3_ok (by kernel_rfl) (by kernel_rfl) ?_))
        refine run_ok 4000 _ _ _ _ ?_
        simp (maxSteps := 10000000) only [go_sem, c3, r3, g1, g3, hcv, hof0, hof, hh]
        refine sem_call rfl rfl (((awake03_spec).embed [] rfl trivial rfl rfl rfl (by simp)).mono ?_)
        rintro _ _ ⟨_, _, ⟨rfl, rfl⟩, rfl, rfl⟩
        refine run_ok 4000 _ _ _ _ ?_
        simp (maxSteps := 10000000) only [go_sem, g1, g3, hcv, hof0, hof, hh]
        refine sem_call rfl rfl (((name_spec o ho').embed [] rfl trivial rfl rfl rfl (by simp)).mono ?_)
        rintro _ _ ⟨_, _, ⟨rfl, rfl⟩, rfl, rfl⟩
        refine run_ok 4000 _ _ _ _ ?_
        simp (maxSteps := 10000000) only [go_sem, g1, g3, hcv, hof0, hof, hh]
        refine sem_call rfl rfl (((hasArg_spec o).embed [] rfl trivial rfl rfl rfl (by simp)).mono ?_)
        rintro _ _ ⟨_, _, ⟨rfl, rfl⟩, rfl, rfl⟩
        refine run_ok 4000 _ _ _ _ ?_
        simp (maxSteps := 10000000) only [go_sem, g1, g3, hcv, hof0, hof, hh]
        refine sem_call rfl rfl (((rhasArg_spec o).embed [] rfl trivial rfl rfl rfl (by simp)).mono ?_)
        rintro _ _ ⟨_, _, ⟨rfl, rfl⟩, rfl, rfl⟩
        refine run_ok 4000 _ _ _ _ ?_
        simp (maxSteps := 10000000) only [go_sem, g1, g3, hcv, hof0, hof, hh]
        refine sem_call rfl rfl (((of_spec o [arg] true).embed [] rfl trivial rfl rfl rfl (by simp)).mono ?_)
        rintro _ _ ⟨_, _, ⟨rfl, rfl⟩, rfl, rfl⟩
        refine run_ok 4000 _ _ _ _ ?_
        simp (maxSteps := 10000000) only [go_sem, g1, g3, hcv, hof0, hof, hh]
        refine sem_call rfl rfl (((Tri.arg2 (Like.nilv 1 false) (of_spec o [] false)).embed [] rfl trivial rfl rfl rfl (by simp)).mono ?_)
        rintro _ _ ⟨_, _, ⟨rfl, rfl⟩, rfl, rfl⟩
        refine run_ok 4000 _ _ _ _ ?_
        simp (maxSteps := 10000000) only [go_sem, g1, g3, hcv, hof0, hof, hh]
        all_goals
          intro hq
          refine sem_call rfl rfl (((hasArg_spec o).embed [] rfl trivial rfl rfl rfl (by simp)).mono ?_)
          rintro _ _ ⟨_, _, ⟨rfl, rfl⟩, rfl, rfl⟩
          refine run_ok 4000 _ _ _ _ ?_
          simp (maxSteps := 10000000) only [go_sem, g1, g3, hcv, hof0, hof, hh]
end Go.AEX

/- Code: what reading an image comes to: contracts of the readers. -/
namespace Go.AEX
open Go Go.AE Go.Proofs
set_option maxRecDepth 100000
set_option linter.unusedVariables false
set_option linter.unusedSimpArgs false

attribute [go_sem] Int.reduceGE Int.reduceGT
abbrev RS := List UInt8 × Int
def insF (x : RS) : RS × Ins :=
  if (countF x 22).1.2 = 0 ∧ (countF x 22).2 = 0 then (failF (countF x 22).1 14, (0, 0))
  else if hasArg (countF x 22).2 = true then ((numI (countF x 22).1).2, ((countF x 22).2, sg (numI (countF x 22).1).1)) else ((countF x 22).1, ((countF x 22).2, 0))
theorem countF_le (x : RS) {most : Int} (hm : 0 ≤ most) : 0 ≤ (countF x most).2 ∧ (countF x most).2 ≤ most := by
  unfold countF
  split
  · simp only; omega
  · rename_i h
    have : (posN most : Int) = most := by unfold posN; omega
    simp only; omega
theorem numI_err (x : RS) (h : x.2 ≠ 0) : numI x = (0, x) := by unfold numI; rw [if_pos h]
theorem countF_err (x : RS) (h : x.2 ≠ 0) (most : Int) : countF x most = (x, 0) := by
  unfold countF
  rw [numI_err x h, if_neg (by unfold posN; omega)]; rfl
theorem instr_spec (s : List UInt8) (e : Int) : Tri Try.prog 64 [.pbox 0 0] (inM s e)
    (fun v m => v = .agg [.int .u8 (insF (s, e)).2.1, .int .i64 (insF (s, e)).2.2] ∧ m = inM (insF (s, e)).1.1 (insF (s, e)).1.2) := by
  refine Tri.post ?_
  have hc := icount_spec s e 22 (by unfold I64; omega)
  have hl := countF_le (s, e) (show (0 : Int) ≤ 22 by omega)
  unfold insF
  generalize countF (s, e) 22 = c at *
  obtain ⟨⟨r, f⟩, n⟩ := c
  simp only at hc hl ⊢
  have w1 : iwrap .u8 n = n := by rw [iwrap_u8]; omega
  have he := err_spec r f
  have hf := fail_spec r f 14
  have hi := iint_spec r f
  have hh := hasArg_spec n
  unfold inM at *
  by_cases c1 : f = 0
  · subst c1
    by_cases c2 : n = 0
    · subst c2
      rw [if_pos ⟨rfl, rfl⟩]
      have h0 := hasArg_spec 0
      have e0 : hasArg 0 = false := by decide
      rw [e0] at h0
      skip
      refine (Tri.enter (rl := r64) (code := c64) (by kernel_rfl) Try.func64 rfl c64_ok (by kernel_rfl) (by kernel_rfl) ?_)
      refine run_ok 4000 _ _ _ _ ?_
      simp (maxSteps := 10000000) only [go_sem, c64, r64, w1]
      refine sem_call rfl rfl (((hc).embed [0] rfl (by repeat' first | exact trivial | rfl | (simp only [go_sem]; done) | constructor) rfl (by first | rfl | simp only [go_sem]) rfl (by simp)).mono ?_)
      rintro _ _ ⟨_, _, ⟨rfl, rfl⟩, rfl, rfl⟩
      refine run_ok 4000 _ _ _ _ ?_
      simp (maxSteps := 10000000) only [go_sem, w1]
      refine sem_call rfl rfl (((he).embed [0] rfl (by repeat' first | exact trivial | rfl | (simp only [go_sem]; done) | constructor) rfl (by first | rfl | simp only [go_sem]) rfl (by simp)).mono ?_)
      rintro _ _ ⟨_, _, ⟨rfl, rfl⟩, rfl, rfl⟩
      refine run_ok 4000 _ _ _ _ ?_
      simp (maxSteps := 10000000) only [go_sem, w1]
      refine sem_call rfl rfl (((hf).embed [0] rfl (by repeat' first | exact trivial | rfl | (simp only [go_sem]; done) | constructor) rfl (by first | rfl | simp only [go_sem]) rfl (by simp)).mono ?_)
      rintro _ _ ⟨_, _, ⟨rfl, rfl⟩, rfl, rfl⟩
      refine run_ok 4000 _ _ _ _ ?_
      simp (maxSteps := 10000000) only [go_sem, w1]
      refine sem_call rfl rfl (((h0).embed [] rfl trivial rfl rfl rfl (by simp)).mono ?_)
      rintro _ _ ⟨_, _, ⟨rfl, rfl⟩, rfl, rfl⟩
      refine run_ok 4000 _ _ _ _ ?_
      simp (maxSteps := 10000000) only [go_sem, w1]
      refine ⟨_, _, .sub [0] ?_ .done, rfl, rfl⟩
      simp only [EmbV, go_sem]
    · have q2 : (n == 0) = false := by simpa using c2
      rw [if_neg (fun h => c2 h.2)]
      cases ha : hasArg n
      · rw [if_neg (by simp)]
        rw [ha] at hh
        skip
        refine (Tri.enter (rl := r64) (code := c64) (by kernel_rfl) Try.func64 rfl c64_ok (by kernel_rfl) (by kernel_rfl) ?_)
        refine run_ok 4000 _ _ _ _ ?_
        simp (maxSteps := 10000000) only [go_sem, c64, r64, w1, q2]
        refine sem_call rfl rfl (((hc).embed [0] rfl (by repeat' first | exact trivial | rfl | (simp only [go_sem]; done) | constructor) rfl (by first | rfl | simp only [go_sem]) rfl (by simp)).mono ?_)
        rintro _ _ ⟨_, _, ⟨rfl, rfl⟩, rfl, rfl⟩
        refine run_ok 4000 _ _ _ _ ?_
        simp (maxSteps := 10000000) only [go_sem, w1, q2]
        refine sem_call rfl rfl (((he).embed [0] rfl (by repeat' first | exact trivial | rfl | (simp only [go_sem]; done) | constructor) rfl (by first | rfl | simp only [go_sem]) rfl (by simp)).mono ?_)
        rintro _ _ ⟨_, _, ⟨rfl, rfl⟩, rfl, rfl⟩
        refine run_ok 4000 _ _ _ _ ?_
        simp (maxSteps := 10000000) only [go_sem, w1, q2]
        refine sem_call rfl rfl (((hh).embed [] rfl trivial rfl rfl rfl (by simp)).mono ?_)
        rintro _ _ ⟨_, _, ⟨rfl, rfl⟩, rfl, rfl⟩
        refine run_ok 4000 _ _ _ _ ?_
        simp (maxSteps := 10000000) only [go_sem, w1, q2]
        refine ⟨_, _, .sub [0] ?_ .done, rfl, rfl⟩
        simp only [EmbV, go_sem]
      · rw [if_pos rfl]
        rw [ha] at hh
        skip
        refine (Tri.enter (rl := r64) (code := c64) (by kernel_rfl) Try.func64 rfl c64_ok (by kernel_rfl) (by kernel_rfl) ?_)
        refine run_ok 4000 _ _ _ _ ?_
        simp (maxSteps := 10000000) only [go_sem, c64, r64, w1, q2]
        refine sem_call rfl rfl (((hc).embed [0] rfl (by repeat' first | exact trivial | rfl | (simp only [go_sem]; done) | constructor) rfl (by first | rfl | simp only [go_sem]) rfl (by simp)).mono ?_)
        rintro _ _ ⟨_, _, ⟨rfl, rfl⟩, rfl, rfl⟩
        refine run_ok 4000 _ _ _ _ ?_
        simp (maxSteps := 10000000) only [go_sem, w1, q2]
        refine sem_call rfl rfl (((he).embed [0] rfl (by repeat' first | exact trivial | rfl | (simp only [go_sem]; done) | constructor) rfl (by first | rfl | simp only [go_sem]) rfl (by simp)).mono ?_)
        rintro _ _ ⟨_, _, ⟨rfl, rfl⟩, rfl, rfl⟩
        refine run_ok 4000 _ _ _ _ ?_
        simp (maxSteps := 10000000) only [go_sem, w1, q2]
        refine sem_call rfl rfl (((hh).embed [] rfl trivial rfl rfl rfl (by simp)).mono ?_)
        rintro _ _ ⟨_, _, ⟨rfl, rfl⟩, rfl, rfl⟩
        refine run_ok 4000 _ _ _ _ ?_
        simp (maxSteps := 10000000) only [go_sem, w1, q2]
        refine sem_call rfl rfl (((hi).embed [0] rfl (by repeat' first | exact trivial | rfl | (simp only [go_sem]; done) | constructor) rfl (by first | rfl | simp only [go_sem]) rfl (by simp)).mono ?_)
        rintro _ _ ⟨_, _, ⟨rfl, rfl⟩, rfl, rfl⟩
        refine run_ok 4000 _ _ _ _ ?_
        simp (maxSteps := 10000000) only [go_sem, w1, q2]
        refine ⟨_, _, .sub [0] ?_ .done, rfl, rfl⟩
        simp only [EmbV, go_sem]
  · have q1 : (f == 0) = false := by simpa using c1
    rw [if_neg (fun h => c1 h.1)]
    cases ha : hasArg n
    · rw [if_neg (by simp)]
      rw [ha] at hh
      skip
      refine (Tri.enter (rl := r64) (code := c64) (by kernel_rfl) Try.func64 rfl c64_ok (by kernel_rfl) (by kernel_rfl) ?_)
      refine run_ok 4000 _ _ _ _ ?_
      simp (maxSteps := 10000000) only [go_sem, c64, r64, w1, q1]
      refine sem_call rfl rfl (((hc).embed [0] rfl (by repeat' first | exact trivial | rfl | (simp only [go_sem]; done) | constructor) rfl (by first | rfl | simp only [go_sem]) rfl (by simp)).mono ?_)
      rintro _ _ ⟨_, _, ⟨rfl, rfl⟩, rfl, rfl⟩
      refine run_ok 4000 _ _ _ _ ?_
      simp (maxSteps := 10000000) only [go_sem, w1, q1]
      refine sem_call rfl rfl (((he).embed [0] rfl (by repeat' first | exact trivial | rfl | (simp only [go_sem]; done) | constructor) rfl (by first | rfl | simp only [go_sem]) rfl (by simp)).mono ?_)
      rintro _ _ ⟨_, _, ⟨rfl, rfl⟩, rfl, rfl⟩
      refine run_ok 4000 _ _ _ _ ?_
      simp (maxSteps := 10000000) only [go_sem, w1, q1]
      refine sem_call rfl rfl (((hh).embed [] rfl trivial rfl rfl rfl (by simp)).mono ?_)
      rintro _ _ ⟨_, _, ⟨rfl, rfl⟩, rfl, rfl⟩
      refine run_ok 4000 _ _ _ _ ?_
      simp (maxSteps := 10000000) only [go_sem, w1, q1]
      refine ⟨_, _, .sub [0] ?_ .done, rfl, rfl⟩
      simp only [EmbV, go_sem]
    · rw [if_pos rfl]
      rw [ha] at hh
      skip
      refine (Tri.enter (rl := r64) (code := c64) (by kernel_rfl) Try.func64 rfl c64_ok (by kernel_rfl) (by kernel_rfl) ?_)
      refine run_ok 4000 _ _ _ _ ?_
      simp (maxSteps := 10000000) only [go_sem, c64, r64, w1, q1]
      refine sem_call rfl rfl (((hc).embed [0] rfl (by repeat' first | exact trivial | rfl | (simp only [go_sem]; done) | constructor) rfl (by first | rfl | simp only [go_sem]) rfl (by simp)).mono ?_)
      rintro _ _ ⟨_, _, ⟨rfl, rfl⟩, rfl, rfl⟩
      refine run_ok 4000 _ _ _ _ ?_
      simp (maxSteps := 10000000) only [go_sem, w1, q1]
      refine sem_call rfl rfl (((he).embed [0] rfl (by repeat' first | exact trivial | rfl | (simp only [go_sem]; done) | constructor) rfl (by first | rfl | simp only [go_sem]) rfl (by simp)).mono ?_)
      rintro _ _ ⟨_, _, ⟨rfl, rfl⟩, rfl, rfl⟩
      refine run_ok 4000 _ _ _ _ ?_
      simp (maxSteps := 10000000) only [go_sem, w1, q1]
      refine sem_call rfl rfl (((hh).embed [] rfl trivial rfl rfl rfl (by simp)).mono ?_)
      rintro _ _ ⟨_, _, ⟨rfl, rfl⟩, rfl, rfl⟩
      refine run_ok 4000 _ _ _ _ ?_
      simp (maxSteps := 10000000) only [go_sem, w1, q1]
      refine sem_call rfl rfl (((hi).embed [0] rfl (by repeat' first | exact trivial | rfl | (simp only [go_sem]; done) | constructor) rfl (by first | rfl | simp only [go_sem]) rfl (by simp)).mono ?_)
      rintro _ _ ⟨_, _, ⟨rfl, rfl⟩, rfl, rfl⟩
      refine run_ok 4000 _ _ _ _ ?_
      simp (maxSteps := 10000000) only [go_sem, w1, q1]
      refine ⟨_, _, .sub [0] ?_ .done, rfl, rfl⟩
      simp only [EmbV, go_sem]
abbrev rsV (x : RS) : AV := .agg [.str x.1, .int .i64 x.2]
theorem rinstr_spec (s : List UInt8) (e : Int) : Tri Try.prog 68 [.agg [.str s, .int .i64 e]] []
    (fun v m => v = .tup [.agg [.str (insF (s, e)).1.1, .int .i64 (insF (s, e)).1.2], .agg [.int .i64 (insF (s, e)).2.1, .int .i64 (insF (s, e)).2.2]] ∧ m = []) := by
  refine Tri.post ?_
  have hc := rtakeCount_spec s e 22 (by unfold I64; omega)
  have hl := countF_le (s, e) (show (0 : Int) ≤ 22 by omega)
  unfold insF
  generalize countF (s, e) 22 = c at *
  obtain ⟨⟨r, f⟩, n⟩ := c
  simp only at hc hl ⊢
  have hf := rfail_spec r f 14
  have hi := rtakeInt_spec r f
  have hh := rhasArg_spec n
  by_cases c1 : f = 0
  · subst c1
    by_cases c2 : n = 0
    · subst c2
      rw [if_pos ⟨rfl, rfl⟩]
      skip
      refine (Tri.enter (rl := r68) (code := c68) (by kernel_rfl) Try.func68 rfl c68_ok (by kernel_rfl) (by kernel_rfl) ?_)
      refine run_ok 4000 _ _ _ _ ?_
      simp (maxSteps := 10000000) only [go_sem, c68, r68]
      refine sem_call rfl rfl (((hc).embed [] rfl trivial rfl rfl rfl (by simp)).mono ?_)
      rintro _ _ ⟨_, _, ⟨rfl, rfl⟩, rfl, rfl⟩
      refine run_ok 4000 _ _ _ _ ?_
      simp (maxSteps := 10000000) only [go_sem]
      refine sem_call rfl rfl (((hf).embed [] rfl trivial rfl rfl rfl (by simp)).mono ?_)
      rintro _ _ ⟨_, _, ⟨rfl, rfl⟩, rfl, rfl⟩
      refine run_ok 4000 _ _ _ _ ?_
      simp (maxSteps := 10000000) only [go_sem]
      refine ⟨_, _, .sub [] ?_ .done, rfl, rfl⟩
      simp only [EmbV, go_sem]
    · have q2 : (n == 0) = false := by simpa using c2
      rw [if_neg (fun h => c2 h.2)]
      cases ha : hasArg n
      · rw [if_neg (by simp)]
        rw [ha] at hh
        skip
        refine (Tri.enter (rl := r68) (code := c68) (by kernel_rfl) Try.func68 rfl c68_ok (by kernel_rfl) (by kernel_rfl) ?_)
        refine run_ok 4000 _ _ _ _ ?_
        simp (maxSteps := 10000000) only [go_sem, c68, r68, q2]
        refine sem_call rfl rfl (((hc).embed [] rfl trivial rfl rfl rfl (by simp)).mono ?_)
        rintro _ _ ⟨_, _, ⟨rfl, rfl⟩, rfl, rfl⟩
        refine run_ok 4000 _ _ _ _ ?_
        simp (maxSteps := 10000000) only [go_sem, q2]
        refine sem_call rfl rfl (((hh).embed [] rfl trivial rfl rfl rfl (by simp)).mono ?_)
        rintro _ _ ⟨_, _, ⟨rfl, rfl⟩, rfl, rfl⟩
        refine run_ok 4000 _ _ _ _ ?_
        simp (maxSteps := 10000000) only [go_sem, q2]
        refine sem_drawG l68_1_ok (by kernel_rfl) ?_
        intro KK hKK
        simp (maxSteps := 10000000) only [go_sem, l68_1, q2]
        subst hKK
        simp (maxSteps := 10000000) only [go_sem, q2]
        refine ⟨_, _, .sub [] ?_ .done, rfl, rfl⟩
        simp only [EmbV, go_sem]
      · rw [if_pos rfl]
        rw [ha] at hh
        skip
        refine (Tri.enter (rl := r68) (code := c68) (by kernel_rfl) Try.func68 rfl c68_ok (by kernel_rfl) (by kernel_rfl) ?_)
        refine run_ok 4000 _ _ _ _ ?_
        simp (maxSteps := 10000000) only [go_sem, c68, r68, q2]
        refine sem_call rfl rfl (((hc).embed [] rfl trivial rfl rfl rfl (by simp)).mono ?_)
        rintro _ _ ⟨_, _, ⟨rfl, rfl⟩, rfl, rfl⟩
        refine run_ok 4000 _ _ _ _ ?_
        simp (maxSteps := 10000000) only [go_sem, q2]
        refine sem_call rfl rfl (((hh).embed [] rfl trivial rfl rfl rfl (by simp)).mono ?_)
        rintro _ _ ⟨_, _, ⟨rfl, rfl⟩, rfl, rfl⟩
        refine run_ok 4000 _ _ _ _ ?_
        simp (maxSteps := 10000000) only [go_sem, q2]
        refine sem_call rfl rfl (((hi).embed [] rfl trivial rfl rfl rfl (by simp)).mono ?_)
        rintro _ _ ⟨_, _, ⟨rfl, rfl⟩, rfl, rfl⟩
        refine run_ok 4000 _ _ _ _ ?_
        simp (maxSteps := 10000000) only [go_sem, q2]
        refine sem_drawG l68_0_ok (by kernel_rfl) ?_
        intro KK hKK
        simp (maxSteps := 10000000) only [go_sem, l68_0, q2]
        subst hKK
        simp (maxSteps := 10000000) only [go_sem, q2]
        refine ⟨_, _, .sub [] ?_ .done, rfl, rfl⟩
        simp only [EmbV, go_sem]
  · have q1 : (f == 0) = false := by simpa using c1
    rw [if_neg (fun h => c1 h.1)]
    cases ha : hasArg n
    · rw [if_neg (by simp)]
      rw [ha] at hh
      skip
      refine (Tri.enter (rl := r68) (code := c68) (by kernel_rfl) Try.func68 rfl c68_ok (by kernel_rfl) (by kernel_rfl) ?_)
      refine run_ok 4000 _ _ _ _ ?_
      simp (maxSteps := 10000000) only [go_sem, c68, r68, q1]
      refine sem_call rfl rfl (((hc).embed [] rfl trivial rfl rfl rfl (by simp)).mono ?_)
      rintro _ _ ⟨_, _, ⟨rfl, rfl⟩, rfl, rfl⟩
      refine run_ok 4000 _ _ _ _ ?_
      simp (maxSteps := 10000000) only [go_sem, q1]
      refine sem_call rfl rfl (((hh).embed [] rfl trivial rfl rfl rfl (by simp)).mono ?_)
      rintro _ _ ⟨_, _, ⟨rfl, rfl⟩, rfl, rfl⟩
      refine run_ok 4000 _ _ _ _ ?_
      simp (maxSteps := 10000000) only [go_sem, q1]
      refine sem_drawG l68_1_ok (by kernel_rfl) ?_
      intro KK hKK
      simp (maxSteps := 10000000) only [go_sem, l68_1, q1]
      subst hKK
      simp (maxSteps := 10000000) only [go_sem, q1]
      refine ⟨_, _, .sub [] ?_ .done, rfl, rfl⟩
      simp only [EmbV, go_sem]
    · rw [if_pos rfl]
      rw [ha] at hh
      skip
      refine (Tri.enter (rl := r68) (code := c68) (by kernel_rfl) Try.func68 rfl c68_ok (by kernel_rfl) (by kernel_rfl) ?_)
      refine run_ok 4000 _ _ _ _ ?_
      simp (maxSteps := 10000000) only [go_sem, c68, r68, q1]
      refine sem_call rfl rfl (((hc).embed [] rfl trivial rfl rfl rfl (by simp)).mono ?_)
      rintro _ _ ⟨_, _, ⟨rfl, rfl⟩, rfl, rfl⟩
      refine run_ok 4000 _ _ _ _ ?_
      simp (maxSteps := 10000000) only [go_sem, q1]
      refine sem_call rfl rfl (((hh).embed [] rfl trivial rfl rfl rfl (by simp)).mono ?_)
      rintro _ _ ⟨_, _, ⟨rfl, rfl⟩, rfl, rfl⟩
      refine run_ok 4000 _ _ _ _ ?_
      simp (maxSteps := 10000000) only [go_sem, q1]
      refine sem_call rfl rfl (((hi).embed [] rfl trivial rfl rfl rfl (by simp)).mono ?_)
      rintro _ _ ⟨_, _, ⟨rfl, rfl⟩, rfl, rfl⟩
      refine run_ok 4000 _ _ _ _ ?_
      simp (maxSteps := 10000000) only [go_sem, q1]
      refine sem_drawG l68_0_ok (by kernel_rfl) ?_
      intro KK hKK
      simp (maxSteps := 10000000) only [go_sem, l68_0, q1]
      subst hKK
      simp (maxSteps := 10000000) only [go_sem, q1]
      refine ⟨_, _, .sub [] ?_ .done, rfl, rfl⟩
      simp only [EmbV, go_sem]
def codeF : Nat → RS → List Ins → RS × List Ins
  | 0, x, l => (x, l)
  | k + 1, x, l => if x.2 ≠ 0 then (x, l) else codeF k (insF x).1 (l ++ [(insF x).2])
def fnF (x : RS) : RS × Fn :=
  let a := countF x 16
  let b := countF a.1 16
  let n := countF b.1 128
  let c := codeF n.2.toNat n.1 []
  (c.1, ⟨a.2, b.2, c.2⟩)
def fnsF : Nat → RS → List Fn → RS × List Fn
  | 0, x, l => (x, l)
  | k + 1, x, l => if x.2 ≠ 0 then (x, l) else fnsF k (fnF x).1 (l ++ [(fnF x).2])
def parseF (s : List UInt8) : List Fn × Int :=
  let n := countF (s, 0) 16
  let r := fnsF n.2.toNat n.1 []
  if (endF r.1).2 ≠ 0 then ([], (endF r.1).2) else (r.2, 0)
theorem codeF_stop (k : Nat) (x : RS) (l : List Ins) (h : x.2 ≠ 0) : codeF k x l = (x, l) := by cases k <;> simp [codeF, h]
theorem fnsF_stop (k : Nat) (x : RS) (l : List Fn) (h : x.2 ≠ 0) : fnsF k x l = (x, l) := by cases k <;> simp [fnsF, h]
theorem Like.agg1v {sz : Nat} : Like (.agg [.nilsl]) (.agg [.vsl sz [] false]) := Like.agg1 (Like.nilv sz false)
set_option maxHeartbeats 1000000 in
theorem parse_spec (s : List UInt8) : Tri Try.prog 46 [.str s] [] (fun v m => v = .tup [.agg [.vsl 3 (frows (parseF s).1) false], .int .i64 (parseF s).2] ∧ m = []) := by
  refine Tri.post ?_
  have hc := icount_spec s 0 16 (by unfold I64; omega)
  have hl := countF_le (s, 0) (show (0 : Int) ≤ 16 by omega)
  unfold parseF
  simp only
  generalize countF (s, 0) 16 = c at *
  obtain ⟨x0, n⟩ := c
  simp only at hc hl ⊢
  obtain ⟨k, rfl⟩ : ∃ k : Nat, n = (k : Int) := ⟨n.toNat, by omega⟩
  rw [Int.toNat_natCast]
  generalize hR : fnsF k x0 [] = R
  have hop := open_spec s
  unfold inM at *
  refine (Tri.enter (rl := r46) (code := c46) (by kernel_rfl) Try.func46 rfl c46_ok (by kernel_rfl) (by kernel_rfl) ?_)
  refine run_ok 4000 _ _ _ _ ?_
  simp (maxSteps := 10000000) only [go_sem, c46, r46]
  refine sem_call rfl rfl (((hop).embed [] rfl trivial rfl rfl rfl (by simp)).mono ?_)
  rintro _ _ ⟨_, _, ⟨rfl, rfl⟩, rfl, rfl⟩
  refine run_ok 4000 _ _ _ _ ?_
  simp (maxSteps := 10000000) only [go_sem]
  refine sem_call rfl rfl (((hc).embed [1] rfl (by repeat' first | exact trivial | rfl | (simp only [go_sem]; done) | constructor) rfl (by first | rfl | simp only [go_sem]) rfl (by simp)).mono ?_)
  rintro _ _ ⟨_, _, ⟨rfl, rfl⟩, rfl, rfl⟩
  refine run_ok 4000 _ _ _ _ ?_
  simp (maxSteps := 10000000) only [go_sem]
  refine sem_nilbox 2 0 3 rfl rfl ?_
  refine sem_rounds (fun x : Nat × RS × List Fn => x.1 + x.2.2.length ≤ 16 ∧ fnsF x.1 x.2.1 x.2.2 = R)
    (fun x => [(2, .pbox 0 0), (4, .pbox 1 0), (5, .pbox 2 0), (6, .int .i64 (x.1 : Nat))])
    (fun x => [.box [.nilsl], .box [.str x.2.1.1, .int .i64 x.2.1.2], .box [.sl 3 0 x.2.2.length x.2.2.length false], .row 3 (frows x.2.2)]) (fun x => x.1) (k, x0, []) [0, 1, 2, 3] ⟨by simp only [List.length_nil]; omega, hR⟩ ?_ ?_
  · simp only [Emb, go_sem, List.length_nil, frows, List.map_nil]
  clear hR hc hl hop
  rintro ⟨k, ⟨r, e⟩, l⟩ ⟨hk, hR⟩
  simp only at hk hR
  have he := err_spec r e
  have hen := iend_spec r e
  unfold inM at he hen
  cases k with
  | zero =>
    have hR : R = ((r, e), l) := by rw [← hR]; rfl
    subst hR
    simp only
    skip
    refine run_ok 4000 _ _ _ _ ?_
    simp (maxSteps := 10000000) only [go_sem]
    refine run_ok 4000 _ _ _ _ ?_
    simp (maxSteps := 10000000) only [go_sem]
    by_cases hE : (endF (r, e)).2 = 0
    · rw [if_neg (fun h => h hE)]
      have qE : ((endF (r, e)).2 != 0) = false := by simp [hE]
      skip
      refine sem_call rfl rfl (((hen).embed [1] rfl (by repeat' first | exact trivial | rfl | (simp only [go_sem]; done) | constructor) rfl (by first | rfl | simp only [go_sem]) rfl (by simp)).mono ?_)
      rintro _ _ ⟨_, _, ⟨rfl, rfl⟩, rfl, rfl⟩
      refine run_ok 4000 _ _ _ _ ?_
      simp (maxSteps := 10000000) only [go_sem, qE]
      refine ⟨_, _, .fz 3 rfl (by simp only [go_sem, frows_len, Nat.le_refl]) (.sub [] ?_ .done), rfl, rfl⟩
      simp only [EmbV, go_sem, frows_all]
    · rw [if_pos hE]
      have qE : ((endF (r, e)).2 != 0) = true := by simp [hE]
      skip
      refine sem_call rfl rfl (((hen).embed [1] rfl (by repeat' first | exact trivial | rfl | (simp only [go_sem]; done) | constructor) rfl (by first | rfl | simp only [go_sem]) rfl (by simp)).mono ?_)
      rintro _ _ ⟨_, _, ⟨rfl, rfl⟩, rfl, rfl⟩
      refine run_ok 4000 _ _ _ _ ?_
      simp (maxSteps := 10000000) only [go_sem, qE]
      refine ⟨_, _, .like (Like.tup2 (Like.agg1v (sz := 3)) (Like.refl _)) (.sub [] ?_ .done), rfl, rfl⟩
      simp only [EmbV, go_sem, frows, List.map_nil]
  | succ k =>
    have f0 : ((k + 1 : Nat) : Int) > 0 := by omega
    have dec : iwrap .i64 (((k + 1 : Nat) : Int) - 1) = (k : Int) := by rw [iwrap_i64_in (by omega)]; omega
    rw [fnsF] at hR
    by_cases ce : e = 0
    · subst ce
      rw [if_neg (by simp)] at hR
      clear hen
      simp only [fnF] at hR
      have hA := icount_spec r 0 16 (by unfold I64; omega)
      generalize countF (r, 0) 16 = A at *
      obtain ⟨⟨r1, e1⟩, a⟩ := A
      simp only at hA hR
      have hB := icount_spec r1 e1 16 (by unfold I64; omega)
      generalize countF (r1, e1) 16 = B at *
      obtain ⟨⟨r2, e2⟩, b⟩ := B
      simp only at hB hR
      have hN := icount_spec r2 e2 128 (by unfold I64; omega)
      have hl := countF_le (r2, e2) (show (0 : Int) ≤ 128 by omega)
      generalize countF (r2, e2) 128 = N at *
      obtain ⟨⟨r3, e3⟩, n⟩ := N
      simp only at hN hR hl
      obtain ⟨k2, rfl⟩ : ∃ k : Nat, n = (k : Int) := ⟨n.toNat, by omega⟩
      rw [Int.toNat_natCast] at hR
      generalize hR2 : codeF k2 (r3, e3) [] = R2 at *
      unfold inM at hA hB hN
      skip
      refine run_ok 4000 _ _ _ _ ?_
      simp (maxSteps := 10000000) only [go_sem, f0]
      refine sem_call rfl rfl (((he).embed [1] rfl (by repeat' first | exact trivial | rfl | (simp only [go_sem]; done) | constructor) rfl (by first | rfl | simp only [go_sem]) rfl (by simp)).mono ?_)
      rintro _ _ ⟨_, _, ⟨rfl, rfl⟩, rfl, rfl⟩
      refine run_ok 4000 _ _ _ _ ?_
      simp (maxSteps := 10000000) only [go_sem, f0]
      refine sem_call rfl rfl (((hA).embed [1] rfl (by repeat' first | exact trivial | rfl | (simp only [go_sem]; done) | constructor) rfl (by first | rfl | simp only [go_sem]) rfl (by simp)).mono ?_)
      rintro _ _ ⟨_, _, ⟨rfl, rfl⟩, rfl, rfl⟩
      refine run_ok 4000 _ _ _ _ ?_
      simp (maxSteps := 10000000) only [go_sem, f0]
      refine sem_call rfl rfl (((hB).embed [1] rfl (by repeat' first | exact trivial | rfl | (simp only [go_sem]; done) | constructor) rfl (by first | rfl | simp only [go_sem]) rfl (by simp)).mono ?_)
      rintro _ _ ⟨_, _, ⟨rfl, rfl⟩, rfl, rfl⟩
      refine run_ok 4000 _ _ _ _ ?_
      simp (maxSteps := 10000000) only [go_sem, f0]
      refine sem_call rfl rfl (((hN).embed [1] rfl (by repeat' first | exact trivial | rfl | (simp only [go_sem]; done) | constructor) rfl (by first | rfl | simp only [go_sem]) rfl (by simp)).mono ?_)
      rintro _ _ ⟨_, _, ⟨rfl, rfl⟩, rfl, rfl⟩
      refine run_ok 4000 _ _ _ _ ?_
      simp (maxSteps := 10000000) only [go_sem, f0]
      refine sem_nilbox 4 2 2 rfl rfl ?_
      refine sem_rounds (fun x : Nat × RS × List Ins => x.1 + x.2.2.length ≤ 128 ∧ codeF x.1 x.2.1 x.2.2 = R2)
        (fun x => [(2, .pbox 0 0), (4, .pbox 1 0), (5, .pbox 2 0), (6, .int .i64 (k + 1 : Nat)), (7, .pbox 4 0), (8, .int .i64 (x.1 : Nat))])
        (fun x => [.box [.nilsl], .box [.str x.2.1.1, .int .i64 x.2.1.2], .box [.sl 3 0 l.length l.length false], .row 3 (frows l), .box [.int .i64 a, .int .i64 b, .sl 5 0 x.2.2.length x.2.2.length false], .row 2 (irows x.2.2)]) (fun x => x.1) (k2, (r3, e3), []) [0, 1, 2, 3, 4, 5] ⟨by simp only [List.length_nil]; omega, hR2⟩ ?_ ?_
      · simp only [Emb, go_sem, List.length_nil, irows, List.map_nil]
      clear hR2 hl hA hB hN he
      rintro ⟨k2, ⟨r2, e2⟩, l2⟩ ⟨hk2, hR2⟩
      simp only at hk2 hR2
      have he := err_spec r2 e2
      have hin := instr_spec r2 e2
      unfold inM at he hin
      cases k2 with
      | zero =>
        skip
        refine run_ok 4000 _ _ _ _ ?_
        simp (maxSteps := 10000000) only [go_sem]
        refine run_ok 4000 _ _ _ _ ?_
        simp (maxSteps := 10000000) only [go_sem]
        have hkR : codeF (0) (r2, e2) l2 = ((r2, e2), l2) := rfl
        rw [hkR] at hR2
        rw [← hR2] at hR
        simp only at hR
        have hone : [[AV.int .i64 a, AV.int .i64 b, .vsl 2 (irows l2) false]] = frows [⟨a, b, l2⟩] := rfl
        refine sem_freeze 5 rfl (by simp only [go_sem, irows_len, Nat.le_refl]) ?_
        skip
        refine run_ok 4000 _ _ _ _ ?_
        simp (maxSteps := 10000000) only [go_sem, frows_len, frows_all, irows_all, dec]
        rw [hone, frows_app]
        refine ⟨by unfold small; omega, (k, (r2, e2), l ++ [⟨a, b, l2⟩]), by simp only; omega, ⟨by simp only [List.length_append, List.length_cons, List.length_nil]; omega, hR⟩, [0, 1, 2, 6], ?_⟩
        simp only [Emb, go_sem, List.length_append, List.length_cons, List.length_nil]
      | succ k2 =>
        have f1 : ((k2 + 1 : Nat) : Int) > 0 := by omega
        have dec2 : iwrap .i64 (((k2 + 1 : Nat) : Int) - 1) = (k2 : Int) := by rw [iwrap_i64_in (by omega)]; omega
        by_cases ce : e2 = 0
        · subst ce
          rw [codeF, if_neg (by simp)] at hR2
          generalize insF (r2, 0) = I at *
          obtain ⟨⟨r3, e3⟩, o, ar⟩ := I
          simp only at hin hR2
          have hone : [[AV.int .u8 o, AV.int .i64 ar]] = irows [(o, ar)] := rfl
          skip
          refine run_ok 4000 _ _ _ _ ?_
          simp (maxSteps := 10000000) only [go_sem, f1, irows_len, irows_all, dec2]
          refine sem_call rfl rfl (((he).embed [1] rfl (by repeat' first | exact trivial | rfl | (simp only [go_sem]; done) | constructor) rfl (by first | rfl | simp only [go_sem]) rfl (by simp)).mono ?_)
          rintro _ _ ⟨_, _, ⟨rfl, rfl⟩, rfl, rfl⟩
          refine run_ok 4000 _ _ _ _ ?_
          simp (maxSteps := 10000000) only [go_sem, f1, irows_len, irows_all, dec2]
          refine sem_drawG l46_0_ok (by kernel_rfl) ?_
          intro KK hKK
          simp (maxSteps := 10000000) only [go_sem, l46_0, f1, irows_len, irows_all, dec2]
          subst hKK
          simp (maxSteps := 10000000) only [go_sem, f1, irows_len, irows_all, dec2]
          refine TriZ.of (((hin).embed [1] rfl (by repeat' first | exact trivial | rfl | (simp only [go_sem]; done) | constructor) rfl (by first | rfl | simp only [go_sem]) rfl (by simp)).mono ?_)
          rintro _ _ ⟨_, _, ⟨rfl, rfl⟩, rfl, rfl⟩
          simp (maxSteps := 10000000) only [go_sem, f1, irows_len, irows_all, dec2]
          rw [hone, irows_app]
          refine ⟨by unfold small; omega, (k2, (r3, e3), l2 ++ [(o, ar)]), by simp only; omega, ⟨by simp only [List.length_append, List.length_cons, List.length_nil]; omega, hR2⟩, [0, 1, 2, 3, 4, 6], ?_⟩
          simp only [Emb, go_sem, List.length_append, List.length_cons, List.length_nil]
        · have qe : (e2 == 0) = false := by simpa using ce
          skip
          refine run_ok 4000 _ _ _ _ ?_
          simp (maxSteps := 10000000) only [go_sem, f1, qe]
          refine sem_call rfl rfl (((he).embed [1] rfl (by repeat' first | exact trivial | rfl | (simp only [go_sem]; done) | constructor) rfl (by first | rfl | simp only [go_sem]) rfl (by simp)).mono ?_)
          rintro _ _ ⟨_, _, ⟨rfl, rfl⟩, rfl, rfl⟩
          refine run_ok 4000 _ _ _ _ ?_
          simp (maxSteps := 10000000) only [go_sem, f1, qe]
          have hkR : codeF (k2 + 1) (r2, e2) l2 = ((r2, e2), l2) := codeF_stop _ _ _ ce
          rw [hkR] at hR2
          rw [← hR2] at hR
          simp only at hR
          have hone : [[AV.int .i64 a, AV.int .i64 b, .vsl 2 (irows l2) false]] = frows [⟨a, b, l2⟩] := rfl
          refine sem_freeze 5 rfl (by simp only [go_sem, irows_len, Nat.le_refl]) ?_
          skip
          refine run_ok 4000 _ _ _ _ ?_
          simp (maxSteps := 10000000) only [go_sem, frows_len, frows_all, irows_all, dec]
          rw [hone, frows_app]
          refine ⟨by unfold small; omega, (k, (r2, e2), l ++ [⟨a, b, l2⟩]), by simp only; omega, ⟨by simp only [List.length_append, List.length_cons, List.length_nil]; omega, hR⟩, [0, 1, 2, 6], ?_⟩
          simp only [Emb, go_sem, List.length_append, List.length_cons, List.length_nil]
    · rw [if_pos (by simpa using ce)] at hR
      subst hR
      simp only
      have qe : (e == 0) = false := by simpa using ce
      skip
      refine run_ok 4000 _ _ _ _ ?_
      simp (maxSteps := 10000000) only [go_sem, f0, qe]
      refine sem_call rfl rfl (((he).embed [1] rfl (by repeat' first | exact trivial | rfl | (simp only [go_sem]; done) | constructor) rfl (by first | rfl | simp only [go_sem]) rfl (by simp)).mono ?_)
      rintro _ _ ⟨_, _, ⟨rfl, rfl⟩, rfl, rfl⟩
      refine run_ok 4000 _ _ _ _ ?_
      simp (maxSteps := 10000000) only [go_sem, f0, qe]
      refine run_ok 4000 _ _ _ _ ?_
      simp (maxSteps := 10000000) only [go_sem, f0, qe]
      by_cases hE : (endF (r, e)).2 = 0
      · rw [if_neg (fun h => h hE)]
        have qE : ((endF (r, e)).2 != 0) = false := by simp [hE]
        skip
        refine sem_call rfl rfl (((hen).embed [1] rfl (by repeat' first | exact trivial | rfl | (simp only [go_sem]; done) | constructor) rfl (by first | rfl | simp only [go_sem]) rfl (by simp)).mono ?_)
        rintro _ _ ⟨_, _, ⟨rfl, rfl⟩, rfl, rfl⟩
        refine run_ok 4000 _ _ _ _ ?_
        simp (maxSteps := 10000000) only [go_sem, qE]
        refine ⟨_, _, .fz 3 rfl (by simp only [go_sem, frows_len, Nat.le_refl]) (.sub [] ?_ .done), rfl, rfl⟩
        simp only [EmbV, go_sem, frows_all]
      · rw [if_pos hE]
        have qE : ((endF (r, e)).2 != 0) = true := by simp [hE]
        skip
        refine sem_call rfl rfl (((hen).embed [1] rfl (by repeat' first | exact trivial | rfl | (simp only [go_sem]; done) | constructor) rfl (by first | rfl | simp only [go_sem]) rfl (by simp)).mono ?_)
        rintro _ _ ⟨_, _, ⟨rfl, rfl⟩, rfl, rfl⟩
        refine run_ok 4000 _ _ _ _ ?_
        simp (maxSteps := 10000000) only [go_sem, qE]
        refine ⟨_, _, .like (Like.tup2 (Like.agg1v (sz := 3)) (Like.refl _)) (.sub [] ?_ .done), rfl, rfl⟩
        simp only [EmbV, go_sem, frows, List.map_nil]
end Go.AEX

/- Code: the reference's reader of images. -/
namespace Go.AEX
open Go Go.AE Go.Proofs
set_option maxRecDepth 100000
set_option linter.unusedVariables false
set_option linter.unusedSimpArgs false

def rirow (x : Ins) : List AV := [.int .i64 x.1, .int .i64 x.2]
def rirows (l : List Ins) : List (List AV) := l.map rirow
theorem rirows_len (l : List Ins) : (rirows l).length = l.length := by simp [rirows]
theorem rirows_get {l : List Ins} {i : Nat} (h : i < l.length) : (rirows l)[i]? = some (rirow l[i]) := by simp [rirows, h]
theorem rirows_h0 {l : List Ins} {i : Nat} (h : i < l.length) : hasI .i64 (rirows l) i 0 := ⟨_, _, rirows_get h, rfl⟩
theorem rirows_h1 {l : List Ins} {i : Nat} (h : i < l.length) : hasI .i64 (rirows l) i 1 := ⟨_, _, rirows_get h, rfl⟩
theorem rirows_r0 {l : List Ins} {i : Nat} (h : i < l.length) : rint (rirows l) i 0 = l[i].1 := by simp [rint, List.getD_eq_getElem?_getD, rirows_get h, rirow]
theorem rirows_r1 {l : List Ins} {i : Nat} (h : i < l.length) : rint (rirows l) i 1 = l[i].2 := by simp [rint, List.getD_eq_getElem?_getD, rirows_get h, rirow]
theorem rirows_app (a b : List Ins) : rirows a ++ rirows b = rirows (a ++ b) := by simp [rirows]
theorem rirows_all (l : List Ins) : sub (rirows l) 0 l.length = rirows l := by
  simp only [sub, List.drop_zero]; exact List.take_of_length_le (by simp [rirows])
def rfrow (f : Fn) : List AV := [.int .i64 f.args, .int .i64 f.locals, .vsl 2 (rirows f.code) false]
def rfrows (l : List Fn) : List (List AV) := l.map rfrow
theorem rfrows_len (l : List Fn) : (rfrows l).length = l.length := by simp [rfrows]
theorem rfrows_get {l : List Fn} {i : Nat} (h : i < l.length) : (rfrows l)[i]? = some (rfrow l[i]) := by simp [rfrows, h]
theorem rfrows_h0 {l : List Fn} {i : Nat} (h : i < l.length) : hasI .i64 (rfrows l) i 0 := ⟨_, _, rfrows_get h, rfl⟩
theorem rfrows_h1 {l : List Fn} {i : Nat} (h : i < l.length) : hasI .i64 (rfrows l) i 1 := ⟨_, _, rfrows_get h, rfl⟩
theorem rfrows_h2 {l : List Fn} {i : Nat} (h : i < l.length) : hasA (rfrows l) i 2 := ⟨_, _, rfrows_get h, rfl⟩
theorem rfrows_r0 {l : List Fn} {i : Nat} (h : i < l.length) : rint (rfrows l) i 0 = l[i].args := by simp [rint, List.getD_eq_getElem?_getD, rfrows_get h, rfrow]
theorem rfrows_r1 {l : List Fn} {i : Nat} (h : i < l.length) : rint (rfrows l) i 1 = l[i].locals := by simp [rint, List.getD_eq_getElem?_getD, rfrows_get h, rfrow]
theorem rfrows_r2 {l : List Fn} {i : Nat} (h : i < l.length) : rany (rfrows l) i 2 = .vsl 2 (rirows l[i].code) false := by simp [rany, List.getD_eq_getElem?_getD, rfrows_get h, rfrow]
theorem rfrows_app (a b : List Fn) : rfrows a ++ rfrows b = rfrows (a ++ b) := by simp [rfrows]
theorem rfrows_all (l : List Fn) : sub (rfrows l) 0 l.length = rfrows l := by
  simp only [sub, List.drop_zero]; exact List.take_of_length_le (by simp [rfrows])
set_option maxHeartbeats 1000000 in
theorem rfun_spec (s : List UInt8) (e : Int) : Tri Try.prog 65 [.agg [.str s, .int .i64 e]] []
    (fun v m => v = .tup [.agg [.str (fnF (s, e)).1.1, .int .i64 (fnF (s, e)).1.2], .agg [.int .i64 (fnF (s, e)).2.args, .int .i64 (fnF (s, e)).2.locals, .vsl 2 (rirows (fnF (s, e)).2.code) false]] ∧ m = []) := by
  refine Tri.post ?_
  simp only [fnF]
  have hA := rtakeCount_spec s e 16 (by unfold I64; omega)
  generalize countF (s, e) 16 = A at *
  obtain ⟨⟨r1, e1⟩, a⟩ := A
  simp only at hA ⊢
  have hB := rtakeCount_spec r1 e1 16 (by unfold I64; omega)
  generalize countF (r1, e1) 16 = B at *
  obtain ⟨⟨r2, e2⟩, b⟩ := B
  simp only at hB ⊢
  have hN := rtakeCount_spec r2 e2 128 (by unfold I64; omega)
  have hl := countF_le (r2, e2) (show (0 : Int) ≤ 128 by omega)
  generalize countF (r2, e2) 128 = N at *
  obtain ⟨⟨r3, e3⟩, n⟩ := N
  simp only at hN hl ⊢
  obtain ⟨n, rfl⟩ : ∃ k : Nat, n = (k : Int) := ⟨n.toNat, by omega⟩
  rw [Int.toNat_natCast]
  generalize hR : codeF n (r3, e3) [] = R at *
  refine (Tri.enter (rl := r65) (code := c65) (by kernel_rfl) Try.func65 rfl c65_ok (by kernel_rfl) (by kernel_rfl) ?_)
  refine run_ok 4000 _ _ _ _ ?_
  simp (maxSteps := 10000000) only [go_sem, c65, r65]
  refine sem_call rfl rfl (((hA).embed [] rfl trivial rfl rfl rfl (by simp)).mono ?_)
  rintro _ _ ⟨_, _, ⟨rfl, rfl⟩, rfl, rfl⟩
  refine run_ok 4000 _ _ _ _ ?_
  simp (maxSteps := 10000000) only [go_sem]
  refine sem_call rfl rfl (((hB).embed [] rfl trivial rfl rfl rfl (by simp)).mono ?_)
  rintro _ _ ⟨_, _, ⟨rfl, rfl⟩, rfl, rfl⟩
  refine run_ok 4000 _ _ _ _ ?_
  simp (maxSteps := 10000000) only [go_sem]
  refine sem_call rfl rfl (((hN).embed [] rfl trivial rfl rfl rfl (by simp)).mono ?_)
  rintro _ _ ⟨_, _, ⟨rfl, rfl⟩, rfl, rfl⟩
  refine run_ok 4000 _ _ _ _ ?_
  simp (maxSteps := 10000000) only [go_sem]
  refine sem_nilbox 3 2 2 rfl rfl ?_
  refine sem_rounds (fun x : Nat × RS × List Ins => x.1 ≤ n ∧ x.2.2.length ≤ x.1 ∧ codeF (n - x.1) x.2.1 x.2.2 = R)
    (fun x => [(1, .pbox 0 0), (2, .pbox 1 0), (3, .pbox 2 0), (6, .int .i64 n), (7, .pbox 3 0), (8, .int .i64 (x.1 : Nat))])
    (fun x => [.box [.str x.2.1.1, .int .i64 x.2.1.2], .box [.str [], .int .i64 0], .box [.int .i64 0, .int .i64 0, .nilsl], .box [.int .i64 a, .int .i64 b, .sl 4 0 x.2.2.length x.2.2.length false], .row 2 (rirows x.2.2)]) (fun x => n - x.1) (0, (r3, e3), []) [0, 1, 2, 3, 4]
    ⟨Nat.zero_le _, Nat.le_refl _, hR⟩ ?_ ?_
  · simp only [Emb, go_sem, List.length_nil, rirows, List.map_nil]
  clear hR hA hB hN
  rintro ⟨i, ⟨r, f⟩, l⟩ ⟨hi, hli, hR⟩
  simp only at hi hli hR
  by_cases hin : i < n
  · have f0 : (i : Int) < (n : Int) := by omega
    by_cases ce : f = 0
    · subst ce
      obtain ⟨d, hd⟩ : ∃ d, n - i = d + 1 := ⟨n - i - 1, by omega⟩
      rw [hd, codeF, if_neg (by simp)] at hR
      have hi1 := rinstr_spec r 0
      generalize insF (r, 0) = I at *
      obtain ⟨⟨r3, e3⟩, o, ar⟩ := I
      simp only at hi1 hR
      have hone : [[AV.int .i64 o, AV.int .i64 ar]] = rirows [(o, ar)] := rfl
      skip
      refine run_ok 4000 _ _ _ _ ?_
      simp (maxSteps := 10000000) only [go_sem, f0, rirows_len, rirows_all, inc64 (show i < 1000000000000 by omega)]
      refine sem_call rfl rfl (((hi1).embed [] rfl trivial rfl rfl rfl (by simp)).mono ?_)
      rintro _ _ ⟨_, _, ⟨rfl, rfl⟩, rfl, rfl⟩
      refine run_ok 4000 _ _ _ _ ?_
      simp (maxSteps := 10000000) only [go_sem, f0, rirows_len, rirows_all, inc64 (show i < 1000000000000 by omega)]
      rw [hone, rirows_app]
      refine ⟨by unfold small; omega, (i + 1, (r3, e3), l ++ [(o, ar)]), by simp only; omega, ⟨hin, by simp only [List.length_append, List.length_cons, List.length_nil]; omega, by simp only; rw [show n - (i + 1) = d by omega]; exact hR⟩, [0, 1, 2, 3, 7], ?_⟩
      simp only [Emb, go_sem, List.length_append, List.length_cons, List.length_nil]
    · have qe : (f == 0) = false := by simpa using ce
      rw [codeF_stop _ _ _ ce] at hR
      subst hR
      skip
      refine run_ok 4000 _ _ _ _ ?_
      simp (maxSteps := 10000000) only [go_sem, f0, qe]
      refine run_ok 4000 _ _ _ _ ?_
      simp (maxSteps := 10000000) only [go_sem, f0, qe]
      refine sem_freeze 4 rfl (by simp only [go_sem, rirows_len, Nat.le_refl]) ?_
      skip
      refine run_ok 4000 _ _ _ _ ?_
      simp (maxSteps := 10000000) only [go_sem, rirows_len, rirows_all]
      refine sem_drawG l65_0_ok (by kernel_rfl) ?_
      intro KK hKK
      simp (maxSteps := 10000000) only [go_sem, l65_0, rirows_len, rirows_all]
      subst hKK
      simp (maxSteps := 10000000) only [go_sem, rirows_len, rirows_all]
      refine ⟨_, _, .sub [] ?_ .done, rfl, rfl⟩
      simp only [EmbV, go_sem]
  · have f0 : ¬ (i : Int) < (n : Int) := by omega
    rw [show n - i = 0 by omega] at hR
    have hR : ((r, f), l) = R := hR
    subst hR
    skip
    refine run_ok 4000 _ _ _ _ ?_
    simp (maxSteps := 10000000) only [go_sem, f0]
    refine run_ok 4000 _ _ _ _ ?_
    simp (maxSteps := 10000000) only [go_sem, f0]
    refine sem_freeze 4 rfl (by simp only [go_sem, rirows_len, Nat.le_refl]) ?_
    skip
    refine run_ok 4000 _ _ _ _ ?_
    simp (maxSteps := 10000000) only [go_sem, rirows_len, rirows_all]
    refine sem_drawG l65_0_ok (by kernel_rfl) ?_
    intro KK hKK
    simp (maxSteps := 10000000) only [go_sem, l65_0, rirows_len, rirows_all]
    subst hKK
    simp (maxSteps := 10000000) only [go_sem, rirows_len, rirows_all]
    refine ⟨_, _, .sub [] ?_ .done, rfl, rfl⟩
    simp only [EmbV, go_sem]
set_option maxHeartbeats 1000000 in
theorem rparse_spec (s : List UInt8) : Tri Try.prog 52 [.str s] [] (fun v m => v = .tup [.vsl 3 (rfrows (parseF s).1) false, .int .i64 (parseF s).2] ∧ m = []) := by
  refine Tri.post ?_
  have hc := rtakeCount_spec s 0 16 (by unfold I64; omega)
  have hl := countF_le (s, 0) (show (0 : Int) ≤ 16 by omega)
  unfold parseF
  simp only
  generalize countF (s, 0) 16 = c at *
  obtain ⟨⟨r3, e3⟩, n⟩ := c
  simp only at hc hl ⊢
  obtain ⟨n, rfl⟩ : ∃ k : Nat, n = (k : Int) := ⟨n.toNat, by omega⟩
  rw [Int.toNat_natCast]
  generalize hR : fnsF n (r3, e3) [] = R
  refine (Tri.enter (rl := r52) (code := c52) (by kernel_rfl) Try.func52 rfl c52_ok (by kernel_rfl) (by kernel_rfl) ?_)
  refine run_ok 4000 _ _ _ _ ?_
  simp (maxSteps := 10000000) only [go_sem, c52, r52]
  refine sem_call rfl rfl (((hc).embed [] rfl trivial rfl rfl rfl (by simp)).mono ?_)
  rintro _ _ ⟨_, _, ⟨rfl, rfl⟩, rfl, rfl⟩
  refine run_ok 4000 _ _ _ _ ?_
  simp (maxSteps := 10000000) only [go_sem]
  refine sem_virt 6 3 rfl ?_
  refine sem_rounds (fun x : Nat × RS × List Fn => x.1 ≤ n ∧ x.2.2.length ≤ x.1 ∧ fnsF (n - x.1) x.2.1 x.2.2 = R)
    (fun x => [(4, .pbox 0 0), (5, .int .i64 n), (6, .sl 1 0 x.2.2.length x.2.2.length false), (7, .int .i64 (x.1 : Nat))])
    (fun x => [.box [.str x.2.1.1, .int .i64 x.2.1.2], .row 3 (rfrows x.2.2)]) (fun x => n - x.1) (0, (r3, e3), []) [0, 1]
    ⟨Nat.zero_le _, Nat.le_refl _, hR⟩ ?_ ?_
  · simp only [Emb, go_sem, List.length_nil, rfrows, List.map_nil]
  clear hR hc
  rintro ⟨i, ⟨r, f⟩, l⟩ ⟨hi, hli, hR⟩
  simp only at hi hli hR
  have hen := rend_spec r f
  by_cases hin : i < n
  · have f0 : (i : Int) < (n : Int) := by omega
    by_cases ce : f = 0
    · subst ce
      obtain ⟨d, hd⟩ : ∃ d, n - i = d + 1 := ⟨n - i - 1, by omega⟩
      rw [hd, fnsF, if_neg (by simp)] at hR
      have hi1 := rfun_spec r 0
      generalize fnF (r, 0) = I at *
      obtain ⟨⟨r3, e3⟩, a, b, c⟩ := I
      simp only at hi1 hR
      have hone : [[AV.int .i64 a, AV.int .i64 b, .vsl 2 (rirows c) false]] = rfrows [⟨a, b, c⟩] := rfl
      skip
      refine run_ok 4000 _ _ _ _ ?_
      simp (maxSteps := 10000000) only [go_sem, f0, rfrows_len, rfrows_all, inc64 (show i < 1000000000000 by omega)]
      refine sem_call rfl rfl (((hi1).embed [] rfl trivial rfl rfl rfl (by simp)).mono ?_)
      rintro _ _ ⟨_, _, ⟨rfl, rfl⟩, rfl, rfl⟩
      refine run_ok 4000 _ _ _ _ ?_
      simp (maxSteps := 10000000) only [go_sem, f0, rfrows_len, rfrows_all, inc64 (show i < 1000000000000 by omega)]
      rw [hone, rfrows_app]
      refine ⟨by unfold small; omega, (i + 1, (r3, e3), l ++ [⟨a, b, c⟩]), by simp only; omega, ⟨hin, by simp only [List.length_append, List.length_cons, List.length_nil]; omega, by simp only; rw [show n - (i + 1) = d by omega]; exact hR⟩, [0, 4], ?_⟩
      simp only [Emb, go_sem, List.length_append, List.length_cons, List.length_nil]
    · have qe : (f == 0) = false := by simpa using ce
      rw [fnsF_stop _ _ _ ce] at hR
      subst hR
      simp only
      skip
      refine run_ok 4000 _ _ _ _ ?_
      simp (maxSteps := 10000000) only [go_sem, f0, qe]
      refine run_ok 4000 _ _ _ _ ?_
      simp (maxSteps := 10000000) only [go_sem, f0, qe]
      by_cases hE : (endF (r, f)).2 = 0
      · rw [if_neg (fun h => h hE)]
        have qE : ((endF (r, f)).2 != 0) = false := by simp [hE]
        skip
        refine sem_call rfl rfl (((hen).embed [] rfl trivial rfl rfl rfl (by simp)).mono ?_)
        rintro _ _ ⟨_, _, ⟨rfl, rfl⟩, rfl, rfl⟩
        refine run_ok 4000 _ _ _ _ ?_
        simp (maxSteps := 10000000) only [go_sem, qE]
        refine ⟨_, _, .fz 1 rfl (by simp only [go_sem, rfrows_len, Nat.le_refl]) (.sub [] ?_ .done), rfl, rfl⟩
        simp only [EmbV, go_sem, rfrows_all]
      · rw [if_pos hE]
        have qE : ((endF (r, f)).2 != 0) = true := by simp [hE]
        skip
        refine sem_call rfl rfl (((hen).embed [] rfl trivial rfl rfl rfl (by simp)).mono ?_)
        rintro _ _ ⟨_, _, ⟨rfl, rfl⟩, rfl, rfl⟩
        refine run_ok 4000 _ _ _ _ ?_
        simp (maxSteps := 10000000) only [go_sem, qE]
        refine sem_call rfl rfl (((hen).embed [] rfl trivial rfl rfl rfl (by simp)).mono ?_)
        rintro _ _ ⟨_, _, ⟨rfl, rfl⟩, rfl, rfl⟩
        refine run_ok 4000 _ _ _ _ ?_
        simp (maxSteps := 10000000) only [go_sem, qE]
        refine ⟨_, _, .like (Like.tup2 (Like.nilv 3 false) (Like.refl _)) (.sub [] ?_ .done), rfl, rfl⟩
        simp only [EmbV, go_sem, rfrows, List.map_nil]
  · have f0 : ¬ (i : Int) < (n : Int) := by omega
    rw [show n - i = 0 by omega] at hR
    have hR : ((r, f), l) = R := hR
    subst hR
    simp only
    skip
    refine run_ok 4000 _ _ _ _ ?_
    simp (maxSteps := 10000000) only [go_sem, f0]
    refine run_ok 4000 _ _ _ _ ?_
    simp (maxSteps := 10000000) only [go_sem, f0]
    by_cases hE : (endF (r, f)).2 = 0
    · rw [if_neg (fun h => h hE)]
      have qE : ((endF (r, f)).2 != 0) = false := by simp [hE]
      skip
      refine sem_call rfl rfl (((hen).embed [] rfl trivial rfl rfl rfl (by simp)).mono ?_)
      rintro _ _ ⟨_, _, ⟨rfl, rfl⟩, rfl, rfl⟩
      refine run_ok 4000 _ _ _ _ ?_
      simp (maxSteps := 10000000) only [go_sem, qE]
      refine ⟨_, _, .fz 1 rfl (by simp only [go_sem, rfrows_len, Nat.le_refl]) (.sub [] ?_ .done), rfl, rfl⟩
      simp only [EmbV, go_sem, rfrows_all]
    · rw [if_pos hE]
      have qE : ((endF (r, f)).2 != 0) = true := by simp [hE]
      skip
      refine sem_call rfl rfl (((hen).embed [] rfl trivial rfl rfl rfl (by simp)).mono ?_)
      rintro _ _ ⟨_, _, ⟨rfl, rfl⟩, rfl, rfl⟩
      refine run_ok 4000 _ _ _ _ ?_
      simp (maxSteps := 10000000) only [go_sem, qE]
      refine sem_call rfl rfl (((hen).embed [] rfl trivial rfl rfl rfl (by simp)).mono ?_)
      rintro _ _ ⟨_, _, ⟨rfl, rfl⟩, rfl, rfl⟩
      refine run_ok 4000 _ _ _ _ ?_
      simp (maxSteps := 10000000) only [go_sem, qE]
      refine ⟨_, _, .like (Like.tup2 (Like.nilv 3 false) (Like.refl _)) (.sub [] ?_ .done), rfl, rfl⟩
      simp only [EmbV, go_sem, rfrows, List.map_nil]
end Go.AEX

/- Code: images made tidy, told to the reference, held against its. -/
namespace Go.AEX
open Go Go.AE Go.Proofs
set_option maxRecDepth 100000
set_option linter.unusedVariables false
set_option linter.unusedSimpArgs false

theorem take_snoc {α : Type} {l : List α} {i : Nat} (h : i < l.length) : l.take (i + 1) = l.take i ++ [l[i]] := List.take_succ_eq_append_getElem h
theorem told_spec (l : List Fn) (hl : l.length ≤ 10000) (hok : ∀ f ∈ l, ∀ x ∈ f.code, 0 ≤ x.1 ∧ x.1 < 256) (hc : ∀ f ∈ l, f.code.length ≤ 10000) :
    Tri Try.prog 49 [.agg [.vsl 3 (frows l) false]] [] (fun v m => v = .vsl 3 (rfrows l) false ∧ m = []) := by
  refine Tri.post ?_
  skip
  refine (Tri.enter (rl := r49) (code := c49) (by kernel_rfl) Try.func49 rfl c49_ok (by kernel_rfl) (by kernel_rfl) ?_)
  refine run_ok 4000 _ _ _ _ ?_
  simp (maxSteps := 10000000) only [go_sem, c49, r49, frows_len]
  refine sem_virt 3 3 rfl ?_
  refine sem_rounds (fun i : Nat => i ≤ l.length) (fun i => [(3, .sl 0 0 i i false), (11, .vsl 3 (frows l) false), (12, .int .i64 l.length), (13, .int .i64 (i : Nat))])
    (fun i => [.row 3 (rfrows (l.take i))]) (fun i => l.length - i) 0 [1] (Nat.zero_le _) ?_ ?_
  · simp only [Emb, go_sem, List.take_zero, rfrows, List.map_nil]
  intro i hi
  skip
  refine run_ok 4000 _ _ _ _ ?_
  simp (maxSteps := 10000000) only [go_sem, frows_len]
  refine ⟨fun hlt => ?_, fun hge => ?_⟩
  · have hlt : i < l.length := by omega
    have hin : (i : Int) < (l.length : Int) := by omega
    have h0 := frows_h0 hlt; have h1 := frows_h1 hlt; have h2 := frows_h2 hlt
    have r0 := frows_r0 hlt; have r1 := frows_r1 hlt; have r2 := frows_r2 hlt
    have hcl := hc _ (List.getElem_mem hlt)
    have hof := hok _ (List.getElem_mem hlt)
    have hnx : rfrows (l.take i) ++ rfrows [l[i]] = rfrows (l.take (i + 1)) := by rw [rfrows_app, take_snoc hlt]
    have hln : (rfrows (l.take i)).length = i := by rw [rfrows_len, List.length_take]; omega
    generalize l[i] = f at *
    obtain ⟨a, b, c⟩ := f
    simp only at r0 r1 r2 hcl hof
    skip
    simp (maxSteps := 10000000) only [go_sem, h0, h1, h2, r0, r1, r2, hin, Int.natCast_nonneg, irows_len]
    refine sem_nilbox 2 2 2 rfl rfl ?_
    refine sem_rounds (fun k : Nat => k ≤ c.length) (fun k => [(3, .sl 0 0 i i false), (11, .vsl 3 (frows l) false), (12, .int .i64 l.length), (13, .int .i64 (i : Nat)), (6, .pbox 1 0), (23, .vsl 2 (irows c) false), (24, .int .i64 c.length), (25, .int .i64 (k : Nat))])
      (fun k => [.row 3 (rfrows (l.take i)), .box [.int .i64 a, .int .i64 b, .sl 2 0 k k false], .row 2 (rirows (c.take k))]) (fun k => c.length - k) 0 [0, 2, 3] (Nat.zero_le _) ?_ ?_
    · simp only [Emb, go_sem, List.take_zero, rirows, List.map_nil]
    intro k hk
    skip
    refine run_ok 4000 _ _ _ _ ?_
    simp (maxSteps := 10000000) only [go_sem, irows_len]
    refine ⟨fun hlk => ?_, fun hgk => ?_⟩
    · have hlk : k < c.length := by omega
      have hink : (k : Int) < (c.length : Int) := by omega
      have g0 := irows_r0 hlk; have g1 := irows_r1 hlk
      have hox := hof _ (List.getElem_mem hlk)
      have hnk : rirows (c.take k) ++ rirows [c[k]] = rirows (c.take (k + 1)) := by rw [rirows_app, take_snoc hlk]
      have hlen : (rirows (c.take k)).length = k := by rw [rirows_len, List.length_take]; omega
      have hall : sub (rirows (c.take k)) 0 k = rirows (c.take k) := by have := rirows_all (c.take k); rwa [List.length_take, Nat.min_eq_left hk] at this
      have hgh0 := irows_h0 hlk; have hgh1 := irows_h1 hlk
      generalize c[k] = x at *
      obtain ⟨o, ar⟩ := x
      simp only at g0 g1 hox
      have w1 : iwrap .i64 o = o := iwrap_i64_in (by omega)
      have hone : [[AV.int .i64 o, AV.int .i64 ar]] = rirows [(o, ar)] := rfl
      skip
      simp (maxSteps := 10000000) only [go_sem, g0, g1, hgh0, hgh1, hink, w1, hlen, hall, Int.natCast_nonneg, Nat.le_refl, inc64 (show k < 1000000000000 by omega)]
      rw [hone, hnk]
      refine ⟨by unfold small; omega, k + 1, by omega, hlk, [0, 1, 4], ?_⟩
      simp only [Emb, go_sem]
    · have hk : k = c.length := by omega
      subst hk
      rw [List.take_length]
      have hone : [[AV.int .i64 a, AV.int .i64 b, .vsl 2 (rirows c) false]] = rfrows [⟨a, b, c⟩] := rfl
      have hall : sub (rfrows (l.take i)) 0 i = rfrows (l.take i) := by have := rfrows_all (l.take i); rwa [List.length_take, Nat.min_eq_left (by omega)] at this
      refine sem_freeze 2 rfl (by simp only [go_sem, rirows_len, Nat.le_refl]) ?_
      skip
      refine run_ok 4000 _ _ _ _ ?_
      simp (maxSteps := 10000000) only [go_sem, rirows_len, rirows_all, hln, hall, Nat.le_refl, inc64 (show i < 1000000000000 by omega)]
      rw [hone, hnx]
      refine ⟨by unfold small; omega, i + 1, by omega, hlt, [3], ?_⟩
      simp only [Emb, go_sem]
  · have hi : i = l.length := by omega
    subst hi
    rw [List.take_length]
    skip
    refine run_ok 4000 _ _ _ _ ?_
    simp (maxSteps := 10000000) only [go_sem]
    refine ⟨_, _, .fz 0 rfl (by simp only [go_sem, rfrows_len, Nat.le_refl]) (.sub [] ?_ .done), rfl, rfl⟩
    simp only [EmbV, go_sem, rfrows_all]
set_option maxHeartbeats 4000000 in
theorem same_spec (l : List Fn) (hl : l.length ≤ 10000) (hok : ∀ f ∈ l, ∀ x ∈ f.code, 0 ≤ x.1 ∧ x.1 < 256) (hc : ∀ f ∈ l, f.code.length ≤ 10000) :
    Tri Try.prog 50 [.agg [.vsl 3 (frows l) false], .vsl 3 (rfrows l) false] [] (fun v m => v = .int .i64 0 ∧ m = []) := by
  refine Tri.post ?_
  have q0 : ((l.length : Int) != (l.length : Int)) = false := by simp
  skip
  refine (Tri.enter (rl := r50) (code := c50) (by kernel_rfl) Try.func50 rfl c50_ok (by kernel_rfl) (by kernel_rfl) ?_)
  refine run_ok 4000 _ _ _ _ ?_
  simp (maxSteps := 10000000) only [go_sem, c50, r50, frows_len, rfrows_len, q0]
  refine sem_rounds (fun i : Nat => i ≤ l.length) (fun i => [(2, .pbox 0 0), (16, .vsl 3 (rfrows l) false), (17, .int .i64 l.length), (18, .int .i64 (i : Nat))])
    (fun i => [.box [.vsl 3 (frows l) false]]) (fun i => l.length - i) 0 [0] (Nat.zero_le _) ?_ ?_
  · simp only [Emb, go_sem]
  intro i hi
  by_cases hlt : i < l.length
  · have hin : (i : Int) < (l.length : Int) := by omega
    have h0 := frows_h0 hlt; have h1 := frows_h1 hlt; have h2 := frows_h2 hlt
    have r0 := frows_r0 hlt; have r1 := frows_r1 hlt; have r2 := frows_r2 hlt
    have k0 := rfrows_h0 hlt; have k1 := rfrows_h1 hlt; have k2 := rfrows_h2 hlt
    have s0 := rfrows_r0 hlt; have s1 := rfrows_r1 hlt; have s2 := rfrows_r2 hlt
    have hcl := hc _ (List.getElem_mem hlt)
    have hof := hok _ (List.getElem_mem hlt)
    generalize l[i] = f at *
    obtain ⟨a, b, c⟩ := f
    simp only at r0 r1 r2 s0 s1 s2 hcl hof
    have q1 : (a != a) = false := by simp
    have q2 : (b != b) = false := by simp
    have q3 : ((c.length : Int) != (c.length : Int)) = false := by simp
    skip
    refine run_ok 4000 _ _ _ _ ?_
    simp (maxSteps := 10000000) only [go_sem, h0, h1, h2, r0, r1, r2, k0, k1, k2, s0, s1, s2, q1, q2, q3, hin, Int.natCast_nonneg, irows_len, rirows_len, frows_len, rfrows_len]
    refine sem_rounds (fun k : Nat => k ≤ c.length) (fun k => [(2, .pbox 0 0), (16, .vsl 3 (rfrows l) false), (17, .int .i64 l.length), (18, .int .i64 (i : Nat)), (7, .pbox 1 0), (50, .vsl 2 (rirows c) false), (51, .int .i64 c.length), (52, .int .i64 (k : Nat))])
      (fun k => [.box [.vsl 3 (frows l) false], .box [.int .i64 a, .int .i64 b, .vsl 2 (irows c) false]]) (fun k => c.length - k) 0 [0, 2] (Nat.zero_le _) ?_ ?_
    · simp only [Emb, go_sem]
    intro k hk
    by_cases hlk : k < c.length
    · have hink : (k : Int) < (c.length : Int) := by omega
      have g0 := irows_r0 hlk; have g1 := irows_r1 hlk
      have t0 := rirows_r0 hlk; have t1 := rirows_r1 hlk
      have hox := hof _ (List.getElem_mem hlk)
      have e0 := irows_h0 hlk; have e1 := irows_h1 hlk; have e2 := rirows_h0 hlk; have e3 := rirows_h1 hlk
      generalize c[k] = x at *
      obtain ⟨o, ar⟩ := x
      simp only at g0 g1 t0 t1 hox
      have w1 : iwrap .i64 o = o := iwrap_i64_in (by omega)
      have q4 : (o != o) = false := by simp
      have q5 : (ar != ar) = false := by simp
      skip
      refine run_ok 4000 _ _ _ _ ?_
      simp (maxSteps := 10000000) only [go_sem, g0, g1, t0, t1, e0, e1, e2, e3, hink, w1, q4, q5, rirows_len, irows_len, Int.natCast_nonneg, inc64 (show k < 1000000000000 by omega)]
      refine sem_drawG l50_0_ok (by kernel_rfl) ?_
      intro KK hKK
      simp (maxSteps := 10000000) only [go_sem, l50_0, g0, g1, t0, t1, e0, e1, e2, e3, hink, w1, q4, q5, rirows_len, irows_len, Int.natCast_nonneg, inc64 (show k < 1000000000000 by omega)]
      subst hKK
      simp (maxSteps := 10000000) only [go_sem, g0, g1, t0, t1, e0, e1, e2, e3, hink, w1, q4, q5, rirows_len, irows_len, Int.natCast_nonneg, inc64 (show k < 1000000000000 by omega)]
      refine ⟨k + 1, by omega, hlk, [0, 1], ?_⟩
      simp only [Emb, go_sem]
    · have hgk : ¬ (k : Int) < (c.length : Int) := by omega
      skip
      refine run_ok 4000 _ _ _ _ ?_
      simp (maxSteps := 10000000) only [go_sem, hgk, inc64 (show i < 1000000000000 by omega)]
      refine run_ok 4000 _ _ _ _ ?_
      simp (maxSteps := 10000000) only [go_sem, hgk, inc64 (show i < 1000000000000 by omega)]
      refine ⟨i + 1, by omega, hlt, [0], ?_⟩
      simp only [Emb, go_sem]
  · have hge : ¬ (i : Int) < (l.length : Int) := by omega
    skip
    refine run_ok 4000 _ _ _ _ ?_
    simp (maxSteps := 10000000) only [go_sem, hge]
    refine run_ok 4000 _ _ _ _ ?_
    simp (maxSteps := 10000000) only [go_sem, hge]
    refine ⟨_, _, .sub [] ?_ .done, rfl, rfl⟩
    simp only [EmbV, go_sem]
end Go.AEX

/- Code: images made tidy; the reference's bytes. -/
namespace Go.AEX
open Go Go.AE Go.Proofs
set_option maxRecDepth 100000
set_option linter.unusedVariables false
set_option linter.unusedSimpArgs false

def tidyI (x : Ins) : Ins := (1 + x.1 % 22, if hasArg (1 + x.1 % 22) = true then x.2 else 0)
def tidyN (f : Fn) : Fn := ⟨ibits .and .i64 f.args 15, ibits .and .i64 f.locals 15, (f.code.take 40).map tidyI⟩
def tidyL (l : List Fn) : List Fn := (l.take 6).map tidyN
theorem map_take_snoc {α β : Type} (g : α → β) {l : List α} {i : Nat} (h : i < l.length) : (l.take i).map g ++ [g l[i]] = (l.take (i + 1)).map g := by
  rw [List.take_succ_eq_append_getElem h, List.map_append]; rfl
set_option maxHeartbeats 1000000 in
theorem tidy_spec (l : List Fn) (hl : l.length ≤ 9223372036854775807) (hok : ∀ f ∈ l, ∀ x ∈ f.code, 0 ≤ x.1 ∧ x.1 < 256) :
    Tri Try.prog 45 [.agg [.vsl 3 (frows l) false]] [] (fun v m => v = .agg [.vsl 3 (frows (tidyL l)) false] ∧ m = []) := by
  refine Tri.post ?_
  skip
  refine (Tri.enter (rl := r45) (code := c45) (by kernel_rfl) Try.func45 rfl c45_ok (by kernel_rfl) (by kernel_rfl) ?_)
  refine run_ok 4000 _ _ _ _ ?_
  simp (maxSteps := 10000000) only [go_sem, c45, r45, frows_len]
  refine sem_nilbox 2 0 3 rfl rfl ?_
  refine sem_rounds (fun i : Nat => i ≤ 6 ∧ i ≤ l.length) (fun i => [(1, .pbox 0 0), (2, .pbox 1 0), (3, .pbox 2 0), (4, .int .i64 (i : Nat))])
    (fun i => [.box [.vsl 3 (frows l) false], .box [.nilsl], .box [.sl 3 0 i i false], .row 3 (frows ((l.take i).map tidyN))]) (fun i => 6 - i) 0 [0, 1, 2, 3] ⟨Nat.zero_le _, Nat.zero_le _⟩ ?_ ?_
  · simp only [Emb, go_sem, List.take_zero, List.map_nil, frows]
  rintro i ⟨h6, hil⟩
  by_cases hlt : i < l.length ∧ i < 6
  · have hin : (i : Int) < (l.length : Int) := by omega
    have hi6 : (i : Int) < 6 := by omega
    have h0 := frows_h0 hlt.1; have h1 := frows_h1 hlt.1; have h2 := frows_h2 hlt.1
    have r0 := frows_r0 hlt.1; have r1 := frows_r1 hlt.1; have r2 := frows_r2 hlt.1
    have hof := hok _ (List.getElem_mem hlt.1)
    have hnx : frows ((l.take i).map tidyN) ++ frows [tidyN l[i]] = frows ((l.take (i + 1)).map tidyN) := by rw [frows_app]; congr 1; exact map_take_snoc tidyN hlt.1
    have hln : (frows ((l.take i).map tidyN)).length = i := by rw [frows_len, List.length_map, List.length_take]; omega
    have hal : sub (frows ((l.take i).map tidyN)) 0 i = frows ((l.take i).map tidyN) := by have := frows_all ((l.take i).map tidyN); rwa [List.length_map, List.length_take, Nat.min_eq_left hil] at this
    generalize l[i] = f at *
    obtain ⟨a, b, c⟩ := f
    simp only at r0 r1 r2 hof
    skip
    refine run_ok 4000 _ _ _ _ ?_
    simp (maxSteps := 10000000) only [go_sem, h0, h1, h2, r0, r1, r2, hin, hi6, Int.natCast_nonneg, irows_len, frows_len]
    refine sem_drawG l45_0_ok (by kernel_rfl) ?_
    intro KK hKK
    simp (maxSteps := 10000000) only [go_sem, l45_0, h0, h1, h2, r0, r1, r2, hin, hi6, Int.natCast_nonneg, irows_len, frows_len]
    subst hKK
    simp (maxSteps := 10000000) only [go_sem, h0, h1, h2, r0, r1, r2, hin, hi6, Int.natCast_nonneg, irows_len, frows_len]
    refine sem_nilbox 4 2 2 rfl rfl ?_
    refine sem_rounds (fun k : Nat => k ≤ 40 ∧ k ≤ c.length) (fun k => [(1, .pbox 0 0), (2, .pbox 1 0), (3, .pbox 2 0), (4, .int .i64 (i : Nat)), (5, .pbox 3 0), (6, .int .i64 (k : Nat))])
      (fun k => [.box [.vsl 3 (frows l) false], .box [.nilsl], .box [.sl 5 0 i i false], .box [.int .i64 (ibits .and .i64 a 15), .int .i64 (ibits .and .i64 b 15), .sl 4 0 k k false], .row 2 (irows ((c.take k).map tidyI)), .row 3 (frows ((l.take i).map tidyN))]) (fun k => 40 - k) 0 [0, 1, 2, 4, 5, 3] ⟨Nat.zero_le _, Nat.zero_le _⟩ ?_ ?_
    · simp only [Emb, go_sem, List.take_zero, irows, List.map_nil]
    rintro k ⟨h40, hk⟩
    by_cases hlk : k < c.length ∧ k < 40
    · have hink : (k : Int) < (c.length : Int) := by omega
      have hk40 : (k : Int) < 40 := by omega
      have g0 := irows_r0 hlk.1; have g1 := irows_r1 hlk.1
      have e0 := irows_h0 hlk.1; have e1 := irows_h1 hlk.1
      have hox := hof _ (List.getElem_mem hlk.1)
      have hnk : irows ((c.take k).map tidyI) ++ irows [tidyI c[k]] = irows ((c.take (k + 1)).map tidyI) := by rw [irows_app]; congr 1; exact map_take_snoc tidyI hlk.1
      have hlo : (irows ((c.take k).map tidyI)).length = k := by rw [irows_len, List.length_map, List.length_take]; omega
      have hao : sub (irows ((c.take k).map tidyI)) 0 k = irows ((c.take k).map tidyI) := by have := irows_all ((c.take k).map tidyI); rwa [List.length_map, List.length_take, Nat.min_eq_left hk] at this
      generalize c[k] = x at *
      obtain ⟨o, ar⟩ := x
      simp only at g0 g1 hox
      have w1 : o.tmod 22 = o % 22 := Int.tmod_eq_emod_of_nonneg hox.1
      have w2 : iwrap .u8 (o % 22) = o % 22 := by rw [iwrap_u8]; omega
      have w3 : iwrap .u8 (1 + o % 22) = 1 + o % 22 := by rw [iwrap_u8]; omega
      have w4 : iwrap .i64 (1 + o % 22) = 1 + o % 22 := iwrap_i64_in (by omega)
      have hha := rhasArg_spec (1 + o % 22)
      have hti : tidyI (o, ar) = (1 + o % 22, if hasArg (1 + o % 22) = true then ar else 0) := rfl
      rw [hti] at hnk
      cases hh : hasArg (1 + o % 22)
      · rw [hh] at hha
        rw [hh, if_neg (by simp)] at hnk
        have hone : [[AV.int .u8 (1 + o % 22), AV.int .i64 0]] = irows [(1 + o % 22, 0)] := rfl
        skip
        refine run_ok 4000 _ _ _ _ ?_
        simp (maxSteps := 10000000) only [go_sem, h0, h1, h2, r0, r1, r2, hin, hink, hk40, g0, g1, e0, e1, w1, w2, w3, w4, hlo, hao, Int.natCast_nonneg, irows_len, frows_len, Nat.le_refl, inc64 (show k < 1000000000000 by omega)]
        refine sem_call rfl rfl (((hha).embed [] rfl trivial rfl rfl rfl (by simp)).mono ?_)
        rintro _ _ ⟨_, _, ⟨rfl, rfl⟩, rfl, rfl⟩
        refine run_ok 4000 _ _ _ _ ?_
        simp (maxSteps := 10000000) only [go_sem, h0, h1, h2, r0, r1, r2, hin, hink, hk40, g0, g1, e0, e1, w1, w2, w3, w4, hlo, hao, Int.natCast_nonneg, irows_len, frows_len, Nat.le_refl, inc64 (show k < 1000000000000 by omega)]
        rw [hone, hnk]
        refine ⟨by unfold small; omega, k + 1, by omega, ⟨by omega, hlk.1⟩, [0, 1, 2, 3, 7, 5], ?_⟩
        simp only [Emb, go_sem]
      · rw [hh] at hha
        rw [hh, if_pos rfl] at hnk
        have hone : [[AV.int .u8 (1 + o % 22), AV.int .i64 ar]] = irows [(1 + o % 22, ar)] := rfl
        skip
        refine run_ok 4000 _ _ _ _ ?_
        simp (maxSteps := 10000000) only [go_sem, h0, h1, h2, r0, r1, r2, hin, hink, hk40, g0, g1, e0, e1, w1, w2, w3, w4, hlo, hao, Int.natCast_nonneg, irows_len, frows_len, Nat.le_refl, inc64 (show k < 1000000000000 by omega)]
        refine sem_call rfl rfl (((hha).embed [] rfl trivial rfl rfl rfl (by simp)).mono ?_)
        rintro _ _ ⟨_, _, ⟨rfl, rfl⟩, rfl, rfl⟩
        refine run_ok 4000 _ _ _ _ ?_
        simp (maxSteps := 10000000) only [go_sem, h0, h1, h2, r0, r1, r2, hin, hink, hk40, g0, g1, e0, e1, w1, w2, w3, w4, hlo, hao, Int.natCast_nonneg, irows_len, frows_len, Nat.le_refl, inc64 (show k < 1000000000000 by omega)]
        rw [hone, hnk]
        refine ⟨by unfold small; omega, k + 1, by omega, ⟨by omega, hlk.1⟩, [0, 1, 2, 3, 7, 5], ?_⟩
        simp only [Emb, go_sem]
    · by_cases hl1 : k < c.length
      · have x1 : (k : Int) < (c.length : Int) := by omega
        have x2 : ¬ (k : Int) < 40 := by omega
        have hcl : (c.take k).map tidyI = (c.take 40).map tidyI := by
          congr 1
          rw [show k = 40 by omega]
        have hone : [[AV.int .i64 (ibits .and .i64 a 15), AV.int .i64 (ibits .and .i64 b 15), .vsl 2 (irows ((c.take 40).map tidyI)) false]] = frows [tidyN ⟨a, b, c⟩] := rfl
        have hlo : (irows ((c.take k).map tidyI)).length = k := by rw [irows_len, List.length_map, List.length_take]; omega
        have hao : sub (irows ((c.take k).map tidyI)) 0 k = irows ((c.take k).map tidyI) := by have := irows_all ((c.take k).map tidyI); rwa [List.length_map, List.length_take, Nat.min_eq_left hk] at this
        rw [hcl] at hlo hao
        skip
        refine run_ok 4000 _ _ _ _ ?_
        simp (maxSteps := 10000000) only [go_sem, x1, x2, Int.natCast_nonneg, hlo, hao, hcl, irows_len, frows_len, h0, h1, h2, r0, r1, r2, hin, hln, hal, Nat.le_refl, inc64 (show i < 1000000000000 by omega)]
        refine sem_freeze 4 rfl (by simp only [go_sem, hlo, Nat.le_refl]) ?_
        refine run_ok 4000 _ _ _ _ ?_
        simp (maxSteps := 10000000) only [go_sem, x1, x2, Int.natCast_nonneg, hlo, hao, hcl, irows_len, frows_len, h0, h1, h2, r0, r1, r2, hin, hln, hal, Nat.le_refl, inc64 (show i < 1000000000000 by omega)]
        rw [hone, hnx]
        refine ⟨by unfold small; omega, i + 1, by omega, ⟨by omega, hlt.1⟩, [0, 1, 2, 6], ?_⟩
        simp only [Emb, go_sem]
      · have x1 : ¬ (k : Int) < (c.length : Int) := by omega
        have hcl : (c.take k).map tidyI = (c.take 40).map tidyI := by
          congr 1
          rw [List.take_of_length_le (by omega), List.take_of_length_le (by omega)]
        have hone : [[AV.int .i64 (ibits .and .i64 a 15), AV.int .i64 (ibits .and .i64 b 15), .vsl 2 (irows ((c.take 40).map tidyI)) false]] = frows [tidyN ⟨a, b, c⟩] := rfl
        have hlo : (irows ((c.take k).map tidyI)).length = k := by rw [irows_len, List.length_map, List.length_take]; omega
        have hao : sub (irows ((c.take k).map tidyI)) 0 k = irows ((c.take k).map tidyI) := by have := irows_all ((c.take k).map tidyI); rwa [List.length_map, List.length_take, Nat.min_eq_left hk] at this
        rw [hcl] at hlo hao
        skip
        refine run_ok 4000 _ _ _ _ ?_
        simp (maxSteps := 10000000) only [go_sem, x1, Int.natCast_nonneg, hlo, hao, hcl, irows_len, frows_len, h0, h1, h2, r0, r1, r2, hin, hln, hal, Nat.le_refl, inc64 (show i < 1000000000000 by omega)]
        refine sem_freeze 4 rfl (by simp only [go_sem, hlo, Nat.le_refl]) ?_
        refine run_ok 4000 _ _ _ _ ?_
        simp (maxSteps := 10000000) only [go_sem, x1, Int.natCast_nonneg, hlo, hao, hcl, irows_len, frows_len, h0, h1, h2, r0, r1, r2, hin, hln, hal, Nat.le_refl, inc64 (show i < 1000000000000 by omega)]
        rw [hone, hnx]
        refine ⟨by unfold small; omega, i + 1, by omega, ⟨by omega, hlt.1⟩, [0, 1, 2, 6], ?_⟩
        simp only [Emb, go_sem]
  · by_cases hl1 : i < l.length
    · have x1 : (i : Int) < (l.length : Int) := by omega
      have x2 : ¬ (i : Int) < 6 := by omega
      have ht : (l.take i).map tidyN = tidyL l := by
        unfold tidyL
        congr 1
        rw [show i = 6 by omega]
      skip
      refine run_ok 4000 _ _ _ _ ?_
      simp (maxSteps := 10000000) only [go_sem, frows_len, x1, x2]
      refine run_ok 4000 _ _ _ _ ?_
      simp (maxSteps := 10000000) only [go_sem, frows_len, x1, x2]
      refine ⟨_, _, .fz 3 rfl (by simp only [go_sem, frows_len, List.length_map, List.length_take]; omega) (.sub [] ?_ .done), rfl, rfl⟩
      have hal := frows_all (tidyL l)
      have hln : (tidyL l).length = i := by rw [← ht, List.length_map, List.length_take]; omega
      rw [hln] at hal
      simp only [EmbV, go_sem, ht, hal]
    · have x1 : ¬ (i : Int) < (l.length : Int) := by omega
      have ht : (l.take i).map tidyN = tidyL l := by
        unfold tidyL
        congr 1
        rw [List.take_of_length_le (by omega), List.take_of_length_le (by omega)]
      skip
      refine run_ok 4000 _ _ _ _ ?_
      simp (maxSteps := 10000000) only [go_sem, frows_len, x1]
      refine run_ok 4000 _ _ _ _ ?_
      simp (maxSteps := 10000000) only [go_sem, frows_len, x1]
      refine ⟨_, _, .fz 3 rfl (by simp only [go_sem, frows_len, List.length_map, List.length_take]; omega) (.sub [] ?_ .done), rfl, rfl⟩
      have hal := frows_all (tidyL l)
      have hln : (tidyL l).length = i := by rw [← ht, List.length_map, List.length_take]; omega
      rw [hln] at hal
      simp only [EmbV, go_sem, ht, hal]
end Go.AEX

/- Code: reading what was written, and what was cut, in plain words. -/
namespace Go.AEX
open Go Go.AE Go.Proofs
set_option maxRecDepth 100000
set_option linter.unusedVariables false
set_option linter.unusedSimpArgs false

/-- An instruction, a function, that may be read. -/
def InsR (x : Ins) : Prop := 1 ≤ x.1 ∧ x.1 ≤ 22 ∧ I64 x.2 ∧ (hasArg x.1 = false → x.2 = 0)
def FnR (f : Fn) : Prop := (0 ≤ f.args ∧ f.args ≤ 16) ∧ (0 ≤ f.locals ∧ f.locals ≤ 16) ∧ f.code.length ≤ 128 ∧ ∀ x ∈ f.code, InsR x
def ImgR (l : List Fn) : Prop := l.length ≤ 16 ∧ ∀ f ∈ l, FnR f
/-! what was written -/
theorem countF_put {n : Int} {most : Int} (hn : 0 ≤ n ∧ n ≤ most) (hm : most ≤ 1000000) (r : List UInt8) : countF (numB n.toNat ++ r, 0) most = ((r, 0), n) := by
  unfold countF
  rw [numI_put n.toNat r (by omega)]
  simp only
  rw [if_neg (by unfold posN; omega)]
  simp only [Prod.mk.injEq, true_and]; omega
theorem insF_put {x : Ins} (hx : InsR x) (r : List UInt8) : insF (insB x ++ r, 0) = ((r, 0), x) := by
  obtain ⟨o, a⟩ := x
  obtain ⟨h1, h2, h3, h4⟩ := hx
  simp only at h1 h2 h3 h4
  unfold insF insB
  simp only [List.append_assoc]
  rw [countF_put (by omega) (by omega)]
  simp only
  rw [if_neg (by omega)]
  cases hh : hasArg o
  · simp only [Bool.false_eq_true, if_false, List.nil_append, h4 hh]
  · simp only [if_true]
    rw [numI_put (zg a) r (zg_lt h3), sg_zg h3]
theorem codeF_put : ∀ (c : List Ins), (∀ x ∈ c, InsR x) → ∀ (r : List UInt8) (acc : List Ins), codeF c.length (codeB c ++ r, 0) acc = ((r, 0), acc ++ c)
  | [], _, r, acc => by simp [codeF, codeB]
  | x :: c, h, r, acc => by
    have ih := codeF_put c (fun y hy => h y (by simp [hy])) r (acc ++ [x])
    have e : codeB (x :: c) ++ r = insB x ++ (codeB c ++ r) := by simp [codeB]
    rw [List.length_cons, codeF, if_neg (by simp), e, insF_put (h x (by simp))]
    simp only
    rw [ih, List.append_assoc]; rfl
theorem posN_toNat {n : Int} (h : 0 ≤ n) : posN n = n.toNat := by unfold posN; omega
theorem fnF_put {f : Fn} (hf : FnR f) (r : List UInt8) : fnF (fnB f ++ r, 0) = ((r, 0), f) := by
  obtain ⟨a, b, c⟩ := f
  obtain ⟨h1, h2, h3, h4⟩ := hf
  simp only at h1 h2 h3 h4
  unfold fnF fnB
  simp only [List.append_assoc, posN_toNat h1.1, posN_toNat h2.1]
  rw [countF_put h1 (by omega)]
  simp only
  rw [countF_put h2 (by omega)]
  simp only
  have hc : numB c.length = numB (c.length : Int).toNat := by rw [Int.toNat_natCast]
  rw [hc, countF_put (by omega) (by omega)]
  simp only [Int.toNat_natCast]
  rw [codeF_put c h4]
  rfl
theorem fnsF_put : ∀ (l : List Fn), (∀ f ∈ l, FnR f) → ∀ (r : List UInt8) (acc : List Fn), fnsF l.length (fnsB l ++ r, 0) acc = ((r, 0), acc ++ l)
  | [], _, r, acc => by simp [fnsF, fnsB]
  | f :: l, h, r, acc => by
    have ih := fnsF_put l (fun y hy => h y (by simp [hy])) r (acc ++ [f])
    have e : fnsB (f :: l) ++ r = fnB f ++ (fnsB l ++ r) := by simp [fnsB]
    rw [List.length_cons, fnsF, if_neg (by simp), e, fnF_put (h f (by simp))]
    simp only
    rw [ih, List.append_assoc]; rfl
theorem parseF_put {l : List Fn} (h : ImgR l) (r : List UInt8) : parseF (imgB l ++ r) = if r = [] then (l, 0) else ([], 2) := by
  unfold parseF imgB
  have hc : numB l.length = numB (l.length : Int).toNat := by rw [Int.toNat_natCast]
  have h1 := h.1
  rw [List.append_assoc, hc, countF_put (by omega) (by omega)]
  simp only [Int.toNat_natCast]
  rw [fnsF_put l h.2]
  simp only [endF, failF]
  by_cases hr : r = []
  · subst hr; simp
  · simp [hr]
/-! what was read -/
theorem numI_get {s : List UInt8} {n : Nat} {r : List UInt8} (h : numI (s, 0) = (n, r, 0)) : s = numB n ++ r := by
  unfold numI at h
  rw [if_neg (by simp)] at h
  obtain ⟨m, h1, h2, _⟩ := tk_num s 0 0 n r h
  have : n = m := by omega
  rw [this]; exact h1
theorem failF_ne (x : RS) {e : Int} (he : e ≠ 0) : (failF x e).2 ≠ 0 := by
  unfold failF; split
  · exact he
  · rename_i h; intro h2; exact h ⟨h2, he⟩
theorem numI_ok {x : RS} (h : (numI x).2.2 = 0) : x.2 = 0 := by
  by_cases hx : x.2 = 0
  · exact hx
  · rw [numI_err x hx] at h; exact absurd h hx
theorem countF_ok {x : RS} {most : Int} (h : (countF x most).1.2 = 0) : x.2 = 0 := by
  by_cases hx : x.2 = 0
  · exact hx
  · rw [countF_err x hx] at h; exact absurd h hx
theorem countF_get {s : List UInt8} {most : Int} {r : List UInt8} {n : Int} (h : countF (s, 0) most = ((r, 0), n)) : s = numB n.toNat ++ r ∧ 0 ≤ n := by
  unfold countF at h
  split at h
  · exact absurd (by rw [Prod.mk.injEq] at h; rw [h.1] : (failF (numI (s, 0)).2 3).2 = 0) (failF_ne _ (by decide))
  · rw [Prod.mk.injEq] at h
    obtain ⟨h1, h2⟩ := h
    have : numI (s, 0) = (n.toNat, r, 0) := by
      rw [← h1, ← h2]
      rfl
    exact ⟨numI_get this, by omega⟩
theorem tk_lt64 (x : RS) : (numI x).1 < 18446744073709551616 := numI_lt x
theorem sg_I64 {n : Nat} (h : n < 18446744073709551616) : I64 (sg n) := by unfold sg I64; split <;> omega
theorem zg_sg (n : Nat) : zg (sg n) = n := by unfold sg zg; split <;> split <;> omega
theorem insF_get {s : List UInt8} {r : List UInt8} {x : Ins} (h : insF (s, 0) = ((r, 0), x)) : s = insB x ++ r ∧ InsR x := by
  unfold insF at h
  have hl := countF_le (s, 0) (show (0 : Int) ≤ 22 by omega)
  cases hc : countF (s, 0) 22 with
  | mk y n =>
    obtain ⟨r1, e1⟩ := y
    rw [hc] at h hl
    simp only at h hl
    split at h
    · rw [Prod.mk.injEq] at h
      exact absurd (by rw [h.1]) (failF_ne (r1, e1) (show (14 : Int) ≠ 0 by decide))
    · rename_i hne
      split at h
      · rename_i hh
        rw [Prod.mk.injEq] at h
        obtain ⟨h1, h2⟩ := h
        have he : e1 = 0 := numI_ok (x := (r1, e1)) (by rw [h1])
        subst he
        obtain ⟨g1, g2⟩ := countF_get hc
        have hn : numI (r1, 0) = ((numI (r1, 0)).1, r, 0) := by
          conv => lhs; rw [← Prod.eta (numI (r1, 0)), h1]
        have g3 := numI_get hn
        subst h2
        refine ⟨?_, ?_, ?_, sg_I64 (numI_lt _), ?_⟩
        · unfold insB
          simp only [hh, if_true, List.append_assoc, zg_sg]
          rw [g1]
          congr 1
        · simp only; simp only [true_and] at hne; omega
        · simp only; omega
        · intro h0; simp only at h0; rw [hh] at h0; cases h0
      · rename_i hh
        rw [Prod.mk.injEq] at h
        obtain ⟨h1, h2⟩ := h
        rw [Prod.mk.injEq] at h1
        obtain ⟨h1, h3⟩ := h1
        subst h1 h3
        obtain ⟨g1, g2⟩ := countF_get hc
        subst h2
        have hh' : hasArg n = false := by simpa using hh
        refine ⟨?_, ?_, ?_, by unfold I64; simp, fun _ => rfl⟩
        · unfold insB
          simp only [hh', Bool.false_eq_true, if_false, List.append_nil]
          exact g1
        · simp only; simp only [true_and] at hne; omega
        · simp only; omega
theorem codeF_get : ∀ (k : Nat) (s : List UInt8) (acc : List Ins) (r : List UInt8) (acc' : List Ins), codeF k (s, 0) acc = ((r, 0), acc') → ∃ c, acc' = acc ++ c ∧ c.length = k ∧ s = codeB c ++ r ∧ ∀ x ∈ c, InsR x
  | 0, s, acc, r, acc', h => by
    simp only [codeF, Prod.mk.injEq] at h
    obtain ⟨⟨rfl, _⟩, rfl⟩ := h
    exact ⟨[], by simp, rfl, by simp [codeB], by simp⟩
  | k + 1, s, acc, r, acc', h => by
    rw [codeF, if_neg (by simp)] at h
    cases hi : insF (s, 0) with
    | mk y x =>
      obtain ⟨r1, e1⟩ := y
      rw [hi] at h
      simp only at h
      by_cases he : e1 = 0
      · subst he
        obtain ⟨g1, g2⟩ := insF_get hi
        obtain ⟨c, c1, c2, c3, c4⟩ := codeF_get k r1 _ r acc' h
        refine ⟨x :: c, by rw [c1]; simp, by simp [c2], by rw [g1, c3]; simp [codeB], ?_⟩
        intro z hz
        rcases List.mem_cons.1 hz with rfl | hz
        · exact g2
        · exact c4 z hz
      · rw [codeF_stop _ _ _ he] at h
        simp only [Prod.mk.injEq] at h
        exact absurd h.1.2 he
theorem codeF_ok {k : Nat} {x : RS} {acc : List Ins} (h : (codeF k x acc).1.2 = 0) : x.2 = 0 := by
  by_cases hx : x.2 = 0
  · exact hx
  · rw [codeF_stop _ _ _ hx] at h; exact absurd h hx
theorem fnF_get {s : List UInt8} {r : List UInt8} {f : Fn} (h : fnF (s, 0) = ((r, 0), f)) : s = fnB f ++ r ∧ FnR f := by
  unfold fnF at h
  simp only at h
  have hl1 := countF_le (s, 0) (show (0 : Int) ≤ 16 by omega)
  cases hA : countF (s, 0) 16 with
  | mk y a =>
  obtain ⟨r1, e1⟩ := y
  rw [hA] at h hl1
  simp only at h hl1
  have hl2 := countF_le (r1, e1) (show (0 : Int) ≤ 16 by omega)
  cases hB : countF (r1, e1) 16 with
  | mk y b =>
  obtain ⟨r2, e2⟩ := y
  rw [hB] at h hl2
  simp only at h hl2
  have hl3 := countF_le (r2, e2) (show (0 : Int) ≤ 128 by omega)
  cases hN : countF (r2, e2) 128 with
  | mk y n =>
  obtain ⟨r3, e3⟩ := y
  rw [hN] at h hl3
  simp only at h hl3
  rw [Prod.mk.injEq] at h
  obtain ⟨h1, h2⟩ := h
  have z3 : e3 = 0 := codeF_ok (x := (r3, e3)) (by rw [h1])
  subst z3
  have z2 : e2 = 0 := countF_ok (x := (r2, e2)) (by rw [hN])
  subst z2
  have z1 : e1 = 0 := countF_ok (x := (r1, e1)) (by rw [hB])
  subst z1
  obtain ⟨a1, a2⟩ := countF_get hA
  obtain ⟨b1, b2⟩ := countF_get hB
  obtain ⟨n1, n2⟩ := countF_get hN
  have hcc : codeF n.toNat (r3, 0) [] = ((r, 0), (codeF n.toNat (r3, 0) []).2) := by
    conv => lhs; rw [← Prod.eta (codeF n.toNat (r3, 0) []), h1]
  obtain ⟨c, c1, c2, c3, c4⟩ := codeF_get _ _ _ _ _ hcc
  rw [List.nil_append] at c1
  subst h2
  rw [c1]
  refine ⟨?_, ⟨by simp only; omega, by simp only; omega⟩, ⟨by simp only; omega, by simp only; omega⟩, by simp only; omega, c4⟩
  unfold fnB
  simp only [List.append_assoc, posN_toNat a2, posN_toNat b2, c2]
  rw [a1, b1, n1, c3]
theorem fnsF_get : ∀ (k : Nat) (s : List UInt8) (acc : List Fn) (r : List UInt8) (acc' : List Fn), fnsF k (s, 0) acc = ((r, 0), acc') → ∃ c, acc' = acc ++ c ∧ c.length = k ∧ s = fnsB c ++ r ∧ ∀ f ∈ c, FnR f
  | 0, s, acc, r, acc', h => by
    simp only [fnsF, Prod.mk.injEq] at h
    obtain ⟨⟨rfl, _⟩, rfl⟩ := h
    exact ⟨[], by simp, rfl, by simp [fnsB], by simp⟩
  | k + 1, s, acc, r, acc', h => by
    rw [fnsF, if_neg (by simp)] at h
    cases hi : fnF (s, 0) with
    | mk y x =>
      obtain ⟨r1, e1⟩ := y
      rw [hi] at h
      simp only at h
      by_cases he : e1 = 0
      · subst he
        obtain ⟨g1, g2⟩ := fnF_get hi
        obtain ⟨c, c1, c2, c3, c4⟩ := fnsF_get k r1 _ r acc' h
        refine ⟨x :: c, by rw [c1]; simp, by simp [c2], by rw [g1, c3]; simp [fnsB], ?_⟩
        intro z hz
        rcases List.mem_cons.1 hz with rfl | hz
        · exact g2
        · exact c4 z hz
      · rw [fnsF_stop _ _ _ he] at h
        simp only [Prod.mk.injEq] at h
        exact absurd h.1.2 he
theorem fnsF_ok {k : Nat} {x : RS} {acc : List Fn} (h : (fnsF k x acc).1.2 = 0) : x.2 = 0 := by
  by_cases hx : x.2 = 0
  · exact hx
  · rw [fnsF_stop _ _ _ hx] at h; exact absurd h hx
theorem endF_ok {x : RS} (h : (endF x).2 = 0) : x = ([], 0) := by
  obtain ⟨r, e⟩ := x
  unfold endF at h
  split at h
  · exact absurd h (failF_ne _ (by decide))
  · rename_i hr
    simp only [ne_eq, Decidable.not_not] at hr h
    rw [hr, h]
theorem parseF_get {s : List UInt8} (h : (parseF s).2 = 0) : s = imgB (parseF s).1 ∧ ImgR (parseF s).1 := by
  unfold parseF at h ⊢
  simp only at h ⊢
  have hl := countF_le (s, 0) (show (0 : Int) ≤ 16 by omega)
  cases hN : countF (s, 0) 16 with
  | mk y n =>
  obtain ⟨r3, e3⟩ := y
  rw [hN] at h hl
  simp only at h hl ⊢
  split at h
  · rename_i hc; exact absurd h hc
  · rename_i hc
    rw [if_neg hc]
    have hend := endF_ok (by simpa using hc)
    have z3 : e3 = 0 := fnsF_ok (x := (r3, e3)) (by rw [hend])
    subst z3
    obtain ⟨n1, n2⟩ := countF_get hN
    have hcc : fnsF n.toNat (r3, 0) [] = (([], 0), (fnsF n.toNat (r3, 0) []).2) := by
      conv => lhs; rw [← Prod.eta (fnsF n.toNat (r3, 0) []), hend]
    obtain ⟨c, c1, c2, c3, c4⟩ := fnsF_get _ _ _ _ _ hcc
    rw [List.nil_append] at c1
    simp only
    rw [c1]
    refine ⟨?_, by omega, c4⟩
    unfold imgB
    rw [n1, c3, c2, List.append_nil]
theorem parseF_bad {s : List UInt8} (h : (parseF s).2 ≠ 0) : (parseF s).1 = [] := by
  unfold parseF at h ⊢
  simp only at h ⊢
  split
  · rfl
  · rename_i hc
    rw [if_neg hc] at h
    exact absurd rfl h
/-! what was cut -/
def Pre (p s : List UInt8) : Prop := ∃ t, t ≠ [] ∧ s = p ++ t
theorem pre_nil {p : List UInt8} : ¬ Pre p [] := by
  rintro ⟨t, ht, h⟩
  have := List.append_eq_nil_iff.1 h.symm
  exact ht this.2
theorem tk_cut : ∀ (p : List UInt8) (m k n : Nat) (t : List UInt8), t ≠ [] → numB m = p ++ t → k ≤ 9 → m * 128 ^ k < 18446744073709551616 → tk k n p = (0, [], 1)
  | [], m, k, n, t, _, _, _, _ => rfl
  | c :: p, m, k, n, t, ht, h, hk, hm => by
    by_cases h1 : 127 < m
    · rw [numB_more h1] at h
      injection h with hc hp
      have hc : c.toNat = 128 + m % 128 := by rw [← hc]; simp; omega
      have h9 : k ≠ 9 := by
        rintro rfl
        have : 128 * 128 ^ 9 ≤ m * 128 ^ 9 := Nat.mul_le_mul_right _ (by omega)
        omega
      have hd : m / 128 * 128 ^ (k + 1) < 18446744073709551616 := by
        have e : m / 128 * 128 ^ (k + 1) = m / 128 * 128 * 128 ^ k := by rw [Nat.pow_succ, Nat.mul_assoc, Nat.mul_comm (128 ^ k)]
        rw [e]
        exact Nat.lt_of_le_of_lt (Nat.mul_le_mul_right _ (Nat.div_mul_le_self _ _)) hm
      have ih := tk_cut p (m / 128) (k + 1) (n + c.toNat % 128 * 128 ^ k) t ht hp (by omega) hd
      rw [tk, if_neg (by omega), if_neg (by omega)]
      exact ih
    · rw [numB_last (by omega)] at h
      injection h with _ hp
      exact absurd (List.append_eq_nil_iff.1 hp.symm).2 ht
theorem num_pre {p : List UInt8} {m : Nat} {r : List UInt8} (h : Pre p (numB m ++ r)) (hm : m < 18446744073709551616) :
    (∃ p', p = numB m ++ p' ∧ Pre p' r) ∨ numI (p, 0) = (0, [], 1) := by
  obtain ⟨t, ht, h⟩ := h
  rcases List.append_eq_append_iff.1 h with ⟨a, h1, h2⟩ | ⟨a, h1, h2⟩
  · exact .inl ⟨a, h1, t, ht, h2⟩
  · by_cases ha : a = []
    · subst ha
      refine .inl ⟨[], by simpa using h1.symm, t, ht, ?_⟩
      simpa using h2.symm
    · right
      unfold numI
      rw [if_neg (by simp)]
      exact tk_cut p m 0 0 a ha h1 (by omega) (by simpa using hm)
theorem count_pre {p : List UInt8} {n : Int} {most : Int} {r : List UInt8} (hn : 0 ≤ n ∧ n ≤ most) (hm : most ≤ 1000000) (h : Pre p (numB n.toNat ++ r)) :
    (∃ p', countF (p, 0) most = ((p', 0), n) ∧ Pre p' r) ∨ countF (p, 0) most = (([], 1), 0) := by
  rcases num_pre h (by omega) with ⟨p', rfl, hp⟩ | he
  · exact .inl ⟨p', countF_put hn hm p', hp⟩
  · right
    unfold countF
    rw [he, if_neg (by unfold posN; omega)]
    rfl
theorem hasArg_0 : hasArg 0 = false := by decide
theorem ins_pre {p : List UInt8} {x : Ins} {r : List UInt8} (hx : InsR x) (h : Pre p (insB x ++ r)) : (∃ p', insF (p, 0) = ((p', 0), x) ∧ Pre p' r) ∨ (insF (p, 0)).1 = ([], 1) := by
  obtain ⟨o, a⟩ := x
  have hx0 := hx
  obtain ⟨h1, h2, h3, h4⟩ := hx
  simp only at h1 h2 h3 h4
  unfold insB at h
  simp only [List.append_assoc] at h
  rcases count_pre (n := o) (most := 22) (by omega) (by omega) h with ⟨p1, e1, q1⟩ | e1
  · cases hh : hasArg o
    · left
      rw [hh] at q1
      simp only [Bool.false_eq_true, if_false, List.nil_append] at q1
      refine ⟨p1, ?_, q1⟩
      unfold insF
      rw [e1]
      simp only
      rw [if_neg (by omega), if_neg (by simp [hh]), h4 hh]
    · rw [hh] at q1
      simp only [if_true] at q1
      rcases num_pre q1 (zg_lt h3) with ⟨p2, rfl, q2⟩ | e2
      · left
        refine ⟨p2, ?_, q2⟩
        unfold insF
        rw [e1]
        simp only
        rw [if_neg (by omega), if_pos hh, numI_put (zg a) p2 (zg_lt h3), sg_zg h3]
      · right
        unfold insF
        rw [e1]
        simp only
        rw [if_neg (by omega), if_pos hh, e2]
  · right
    unfold insF
    rw [e1]
    simp [hasArg_0]
theorem code_pre : ∀ (c : List Ins), (∀ x ∈ c, InsR x) → ∀ (p r : List UInt8) (acc : List Ins), Pre p (codeB c ++ r) → (∃ p', codeF c.length (p, 0) acc = ((p', 0), acc ++ c) ∧ Pre p' r) ∨ (codeF c.length (p, 0) acc).1 = ([], 1)
  | [], _, p, r, acc, h => .inl ⟨p, by simp [codeF], by simpa [codeB] using h⟩
  | x :: c, hx, p, r, acc, h => by
    have e : codeB (x :: c) ++ r = insB x ++ (codeB c ++ r) := by simp [codeB]
    rw [e] at h
    rw [List.length_cons, codeF, if_neg (by simp)]
    rcases ins_pre (hx x (by simp)) h with ⟨p1, e1, q1⟩ | e1
    · rw [e1]
      simp only
      rcases code_pre c (fun y hy => hx y (by simp [hy])) p1 r (acc ++ [x]) q1 with ⟨p2, e2, q2⟩ | e2
      · exact .inl ⟨p2, by rw [e2, List.append_assoc]; rfl, q2⟩
      · exact .inr e2
    · right
      rw [e1, codeF_stop _ _ _ (by simp)]
theorem fn_pre {p : List UInt8} {f : Fn} {r : List UInt8} (hf : FnR f) (h : Pre p (fnB f ++ r)) : (∃ p', fnF (p, 0) = ((p', 0), f) ∧ Pre p' r) ∨ (fnF (p, 0)).1 = ([], 1) := by
  obtain ⟨a, b, c⟩ := f
  obtain ⟨h1, h2, h3, h4⟩ := hf
  simp only at h1 h2 h3 h4
  have hbad : ∀ m, countF (([], 1) : RS) m = (([], 1), 0) := fun m => countF_err _ (by simp) m
  unfold fnB at h
  simp only [List.append_assoc, posN_toNat h1.1, posN_toNat h2.1] at h
  have hc : numB c.length = numB (c.length : Int).toNat := by rw [Int.toNat_natCast]
  unfold fnF
  simp only
  rcases count_pre (n := a) (most := 16) h1 (by omega) h with ⟨p1, e1, q1⟩ | e1
  · rcases count_pre (n := b) (most := 16) h2 (by omega) q1 with ⟨p2, e2, q2⟩ | e2
    · rw [hc] at q2
      rcases count_pre (n := (c.length : Int)) (most := 128) (by omega) (by omega) q2 with ⟨p3, e3, q3⟩ | e3
      · simp only [e1, e2, e3, Int.toNat_natCast]
        rcases code_pre c h4 p3 r [] q3 with ⟨p4, e4, q4⟩ | e4
        · exact .inl ⟨p4, by rw [e4]; simp, q4⟩
        · exact .inr e4
      · right; simp [e1, e2, e3, codeF]
    · right; simp [e1, e2, hbad, codeF]
  · right; simp [e1, hbad, codeF]
theorem fns_pre : ∀ (l : List Fn), (∀ f ∈ l, FnR f) → ∀ (p r : List UInt8) (acc : List Fn), Pre p (fnsB l ++ r) → (∃ p', fnsF l.length (p, 0) acc = ((p', 0), acc ++ l) ∧ Pre p' r) ∨ (fnsF l.length (p, 0) acc).1 = ([], 1)
  | [], _, p, r, acc, h => .inl ⟨p, by simp [fnsF], by simpa [fnsB] using h⟩
  | f :: l, hx, p, r, acc, h => by
    have e : fnsB (f :: l) ++ r = fnB f ++ (fnsB l ++ r) := by simp [fnsB]
    rw [e] at h
    rw [List.length_cons, fnsF, if_neg (by simp)]
    rcases fn_pre (hx f (by simp)) h with ⟨p1, e1, q1⟩ | e1
    · rw [e1]
      simp only
      rcases fns_pre l (fun y hy => hx y (by simp [hy])) p1 r (acc ++ [f]) q1 with ⟨p2, e2, q2⟩ | e2
      · exact .inl ⟨p2, by rw [e2, List.append_assoc]; rfl, q2⟩
      · exact .inr e2
    · right
      rw [e1, fnsF_stop _ _ _ (by simp)]
/-- A beginning is none. -/
theorem parseF_cut {l : List Fn} (h : ImgR l) {p : List UInt8} (hp : Pre p (imgB l)) : (parseF p).2 = 1 := by
  have hc : numB l.length = numB (l.length : Int).toNat := by rw [Int.toNat_natCast]
  have h1 := h.1
  unfold imgB at hp
  rw [hc] at hp
  unfold parseF
  simp only
  have hend : (endF (([], 1) : RS)).2 = 1 := by simp [endF]
  rcases count_pre (n := (l.length : Int)) (most := 16) (by omega) (by omega) hp with ⟨p1, e1, q1⟩ | e1
  · simp only [e1, Int.toNat_natCast]
    have q1' : Pre p1 (fnsB l ++ []) := by rwa [List.append_nil]
    rcases fns_pre l h.2 p1 [] [] q1' with ⟨p2, _, q2⟩ | e2
    · exact absurd q2 pre_nil
    · simp only [e2, hend]; simp
  · simp [e1, fnsF, hend]
end Go.AEX
