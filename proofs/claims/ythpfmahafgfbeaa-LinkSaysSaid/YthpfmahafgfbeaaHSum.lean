/- Turned to this seat by turn.py: WSums.lean WCrc.lean. -/
import Derived.Test.YthpfmahafgfbeaaNum
import Derived.Test.YthpfmahafgfbeaaCH
import Derived.Test.YthpfmahafgfbeaaAEzg
import Derived.KernelRfl
namespace Go.AEX
open Go Go.AE Go.Proofs
set_option maxRecDepth 100000
set_option linter.unusedVariables false
set_option linter.unusedSimpArgs false

theorem sget_at {s : List UInt8} {i : Nat} (h : i < s.length) : sget s (i : Int) = (s[i].toNat : Int) := by
  simp [sget, List.getD_eq_getElem?_getD, h]
theorem sv_len (l : List (List UInt8)) : (sv l).length = l.length := by simp [sv]
theorem sv_hasS {l : List (List UInt8)} {i : Nat} (h : i < l.length) : hasS (sv l) i 0 := ⟨[.str l[i]], l[i], by simp [sv, h], by simp⟩
theorem sv_rstr {l : List (List UInt8)} {i : Nat} (h : i < l.length) : rstr (sv l) i 0 = l[i] := by
  simp [rstr, List.getD_eq_getElem?_getD, sv, h]
theorem cut_spec (s : List UInt8) (n : Int) (hn : 0 ≤ n) : Tri Try.prog 16 [.str s, .int .i64 n] [] (fun v m => v = .str (s.take n.toNat) ∧ m = []) := by
  refine (Tri.enter (rl := r16) (code := c16) (by kernel_rfl) Try.func16 rfl c16_ok (by kernel_rfl) (by kernel_rfl) ?_)
  refine run_ok 4000 _ _ _ _ ?_
  simp (maxSteps := 10000000) only [go_sem, c16, r16]
  refine ⟨fun h => ⟨by omega, ?_⟩, fun h => ?_⟩
  · simp [ssub]
  · rw [List.take_of_length_le (by omega)]
def rowS (x : Int) : Int := if ibits .and .u32 x 1 = 1 then ibits .xor .u32 (ishr .u32 x 1) 3988292384 else ishr .u32 x 1
def rowN : Nat → Int → Int
  | 0, x => x
  | n + 1, x => rowS (rowN n x)
theorem row_spec (x : Int) : Tri Try.prog 96 [.int .u32 x] [] (fun v m => v = .int .u32 (rowN 8 x) ∧ m = []) := by
  refine (Tri.enter (rl := r96) (code := c96) (by kernel_rfl) Try.func96 rfl c96_ok (by kernel_rfl) (by kernel_rfl) ?_)
  refine run_ok 4000 _ _ _ _ ?_
  simp (maxSteps := 10000000) only [go_sem, c96, r96]
  refine sem_rounds (fun i => i ≤ 8) (fun i => [(0, .int .u32 (rowN i x)), (3, .int .i64 (i : Nat))]) (fun i => []) (fun i => 8 - i) 0 [] (Nat.zero_le _) ?_ ?_
  · simp only [Emb, go_sem]; simp; rfl
  intro i hi
  refine run_ok 4000 _ _ _ _ ?_
  simp (maxSteps := 10000000) only [go_sem]
  refine ⟨fun hlt => ⟨fun hb => ?_, fun hb => ?_⟩, fun hge => ?_⟩
  · refine ⟨i + 1, by omega, by omega, [], ?_⟩
    simp only [Emb, go_sem]
    rw [iwrap_i64_in (by omega)]
    simp [rowN, rowS]
    intro h; exact absurd (by simpa using hb) h
  · refine ⟨i + 1, by omega, by omega, [], ?_⟩
    simp only [Emb, go_sem]
    rw [iwrap_i64_in (by omega)]
    simp [rowN, rowS]
    intro h; rw [h] at hb; exact absurd hb (by decide)
  · refine run_ok 4000 _ _ _ _ ?_
    simp (maxSteps := 10000000) only [go_sem]
    rw [show i = 8 by omega]
def crcS (f : Int) (b : UInt8) : Int := ibits .xor .u32 (ishr .u32 f 8) (rowN 8 (ibits .and .u32 (ibits .xor .u32 f (iwrap .u32 b.toNat)) 255))
def crcF (f : Int) (s : List UInt8) : Int := s.foldl crcS f
theorem crcF_take (f : Int) (s : List UInt8) (i : Nat) (h : i < s.length) : crcF f (s.take (i + 1)) = crcS (crcF f (s.take i)) s[i] := by
  unfold crcF; rw [List.take_succ_eq_append_getElem h, List.foldl_append]; rfl
def crcL (f : Int) (l : List (List UInt8)) : Int := l.foldl crcF f
theorem crcL_take (f : Int) (l : List (List UInt8)) (i : Nat) (h : i < l.length) : crcL f (l.take (i + 1)) = crcF (crcL f (l.take i)) l[i] := by
  unfold crcL; rw [List.take_succ_eq_append_getElem h, List.foldl_append]; rfl
def inv32 (x : Int) : Int := ibits .xor .u32 4294967295 x
theorem max32 : (bif IntKind.u32.signed then -1 else IntKind.u32.max) = 4294967295 := by decide
theorem more_spec (f : Int) (l : List (List UInt8)) (tight : Bool) (hl : l.length ≤ 1000000) (hs : ∀ s ∈ l, s.length ≤ 1000000) :
    Tri Try.prog 92 [.int .u32 f, .vsl 1 (sv l) tight] [] (fun v m => v = .int .u32 (inv32 (crcL (inv32 f) l)) ∧ m = []) := by
  refine (Tri.enter (rl := r92) (code := c92) (by kernel_rfl) Try.func92 rfl c92_ok (by kernel_rfl) (by kernel_rfl) ?_)
  refine run_ok 4000 _ _ _ _ ?_
  simp (maxSteps := 10000000) only [go_sem, c92, r92]
  simp only [max32]
  refine sem_rounds (fun i => i ≤ l.length) (fun i => [(10, .vsl 1 (sv l) tight), (11, .int .i64 l.length), (0, .int .u32 (crcL (inv32 f) (l.take i))), (12, .int .i64 (i : Nat))]) (fun i => []) (fun i => l.length - i) 0 [] (Nat.zero_le _) ?_ ?_
  · simp only [Emb, go_sem, sv_len]; simp; rfl
  intro i hi
  refine run_ok 4000 _ _ _ _ ?_
  simp (maxSteps := 10000000) only [go_sem]
  refine ⟨fun hlt => ?_, fun hge => ?_⟩
  · have hlt : i < l.length := by omega
    have e : addi 0 (i : Int) = i := by simp [addi]
    rw [e, sv_rstr hlt, sv_len]
    have hs := hs _ (List.getElem_mem hlt)
    generalize hS : l[i] = s at hs
    refine ⟨by omega, sv_hasS hlt, ?_⟩
    refine sem_rounds (fun j => j ≤ s.length) (fun j => [(10, .vsl 1 (sv l) tight), (11, .int .i64 l.length), (0, .int .u32 (crcF (crcL (inv32 f) (l.take i)) (s.take j))), (12, .int .i64 (i : Nat)), (6, .str s), (17, .int .i64 s.length), (18, .int .i64 (j : Nat))]) (fun j => []) (fun j => s.length - j) 0 [] (Nat.zero_le _) ?_ ?_
    · simp only [Emb, go_sem, sv_len]; simp; rfl
    intro j hj
    refine run_ok 4000 _ _ _ _ ?_
    simp (maxSteps := 10000000) only [go_sem]
    refine ⟨fun hlj => ?_, fun hge => ?_⟩
    · have hlj : j < s.length := by omega
      refine ⟨by omega, ?_⟩
      refine sem_call rfl rfl ((row_spec _).mono ?_)
      rintro _ _ ⟨rfl, rfl⟩
      refine run_ok 4000 _ _ _ _ ?_
      simp (maxSteps := 10000000) only [go_sem]
      refine ⟨j + 1, by omega, by omega, [], ?_⟩
      simp only [Emb, go_sem, crcF_take _ s j hlj, sget_at hlj]
      rw [iwrap_i64_in (by omega)]
      simp [crcS]
    · refine run_ok 4000 _ _ _ _ ?_
      simp (maxSteps := 10000000) only [go_sem]
      refine ⟨i + 1, by omega, by omega, [], ?_⟩
      simp only [Emb, go_sem, crcL_take _ l i hlt]
      rw [iwrap_i64_in (by omega), List.take_of_length_le (show s.length ≤ j by omega), hS]
      simp
  · refine run_ok 4000 _ _ _ _ ?_
    simp (maxSteps := 10000000) only [go_sem]
    rw [List.take_of_length_le (by omega), max32]
    rfl
theorem crc_spec (l : List (List UInt8)) (tight : Bool) (hl : l.length ≤ 1000000) (hs : ∀ s ∈ l, s.length ≤ 1000000) :
    Tri Try.prog 80 [.vsl 1 (sv l) tight] [] (fun v m => v = .int .u32 (inv32 (crcL (inv32 0) l)) ∧ m = []) := by
  refine (Tri.enter (rl := r80) (code := c80) (by kernel_rfl) Try.func80 rfl c80_ok (by kernel_rfl) (by kernel_rfl) ?_)
  refine run_ok 4000 _ _ _ _ ?_
  simp (maxSteps := 10000000) only [go_sem, c80, r80]
  refine sem_call rfl rfl ((more_spec _ l tight hl hs).mono ?_)
  rintro _ _ ⟨rfl, rfl⟩
  refine run_ok 4000 _ _ _ _ ?_
  simp (maxSteps := 10000000) only [go_sem]
def refR (x : Int × Int) : Int × Int :=
  let s := iwrap .u32 (x.1.tdiv 2)
  (if (iwrap .u32 (x.1 + x.2)).tmod 2 = 1 then ibits .xor .u32 s 3988292384 else s, iwrap .u32 (x.2.tdiv 2))
def refN : Nat → Int × Int → Int × Int
  | 0, x => x
  | n + 1, x => refR (refN n x)
def refS (f : Int) (b : UInt8) : Int := (refN 8 (f, iwrap .u32 b.toNat)).1
def refF (f : Int) (s : List UInt8) : Int := s.foldl refS f
theorem refF_take (f : Int) (s : List UInt8) (i : Nat) (h : i < s.length) : refF f (s.take (i + 1)) = refS (refF f (s.take i)) s[i] := by
  unfold refF; rw [List.take_succ_eq_append_getElem h, List.foldl_append]; rfl
theorem rCrc_spec (s : List UInt8) (hs : s.length ≤ 1000000) : Tri Try.prog 64 [.str s] [] (fun v m => v = .int .u32 (iwrap .u32 (4294967295 - refF 4294967295 s)) ∧ m = []) := by
  refine (Tri.enter (rl := r64) (code := c64) (by kernel_rfl) Try.func64 rfl c64_ok (by kernel_rfl) (by kernel_rfl) ?_)
  refine run_ok 4000 _ _ _ _ ?_
  simp (maxSteps := 10000000) only [go_sem, c64, r64]
  refine sem_rounds (fun i => i ≤ s.length) (fun i => [(0, .str s), (3, .int .u32 (refF 4294967295 (s.take i))), (4, .int .i64 (i : Nat))]) (fun i => []) (fun i => s.length - i) 0 [] (Nat.zero_le _) ?_ ?_
  · simp only [Emb, go_sem]; simp; rfl
  intro i hi
  refine run_ok 4000 _ _ _ _ ?_
  simp (maxSteps := 10000000) only [go_sem]
  refine ⟨fun hlt => ?_, fun hge => ?_⟩
  · have hlt : i < s.length := by omega
    refine ⟨by omega, ?_⟩
    rw [sget_at hlt]
    generalize hF : refF 4294967295 (s.take i) = F
    generalize hB : iwrap .u32 (s[i].toNat : Int) = B
    refine sem_rounds (fun j => j ≤ 8) (fun j => [(0, .str s), (3, .int .u32 (refN j (F, B)).1), (5, .int .u32 (refN j (F, B)).2), (4, .int .i64 (i : Nat)), (6, .int .i64 (j : Nat))]) (fun j => []) (fun j => 8 - j) 0 [] (Nat.zero_le _) ?_ ?_
    · simp only [Emb, go_sem]; simp; exact ⟨rfl, rfl⟩
    intro j hj
    refine run_ok 4000 _ _ _ _ ?_
    simp (maxSteps := 10000000) only [go_sem]
    refine ⟨fun hlj => ⟨fun hb => ?_, fun hb => ?_⟩, fun hge => ?_⟩
    · refine ⟨j + 1, by omega, by omega, [], ?_⟩
      simp only [Emb, go_sem]
      rw [iwrap_i64_in (by omega)]
      simp [refN, refR]
      intro h; exact absurd (by simpa using hb) h
    · refine ⟨j + 1, by omega, by omega, [], ?_⟩
      simp only [Emb, go_sem]
      rw [iwrap_i64_in (by omega)]
      simp [refN, refR]
      intro h; rw [h] at hb; exact absurd hb (by decide)
    · refine run_ok 4000 _ _ _ _ ?_
      simp (maxSteps := 10000000) only [go_sem]
      refine ⟨i + 1, by omega, by omega, [], ?_⟩
      simp only [Emb, go_sem, refF_take _ s i hlt]
      rw [iwrap_i64_in (by omega), show j = 8 by omega]
      simp [refS, hF, hB]
  · refine run_ok 4000 _ _ _ _ ?_
    simp (maxSteps := 10000000) only [go_sem]
    rw [List.take_of_length_le (by omega)]
def w32 (x : BitVec 32) : Int := (x.toNat : Int)
theorem w32_ofInt (x : BitVec 32) : BitVec.ofInt 32 (w32 x) = x := by
  unfold w32; rw [BitVec.ofInt_natCast]; simp
theorem iwrap_w32 (x : BitVec 32) : iwrap .u32 (w32 x) = w32 x := by
  have := x.isLt; rw [iwrap_u32]; unfold w32; omega
theorem xor_w32 (x y : BitVec 32) : ibits .xor .u32 (w32 x) (w32 y) = w32 (x ^^^ y) := by
  show IntKind.wrap .u32 ((BitVec.ofInt 32 (w32 x) ^^^ BitVec.ofInt 32 (w32 y)).toNat : Int) = _
  rw [w32_ofInt, w32_ofInt]; exact iwrap_w32 _
theorem and_w32 (x y : BitVec 32) : ibits .and .u32 (w32 x) (w32 y) = w32 (x &&& y) := by
  show IntKind.wrap .u32 ((BitVec.ofInt 32 (w32 x) &&& BitVec.ofInt 32 (w32 y)).toNat : Int) = _
  rw [w32_ofInt, w32_ofInt]; exact iwrap_w32 _
theorem shr_w32 (x : BitVec 32) (k : Nat) (h : k ≤ 32) : ishr .u32 (w32 x) (k : Int) = w32 (x >>> k) := by
  show (w32 x).fdiv (2 ^ min ((k : Int).toNat) 32) = _
  rw [Int.toNat_natCast, Nat.min_eq_left h]
  unfold w32
  rw [Int.fdiv_eq_ediv_of_nonneg _ (Int.le_of_lt (Int.pow_pos (by decide))), BitVec.toNat_ushiftRight, Nat.shiftRight_eq_div_pow]
  simp
def gS (y : BitVec 32) : BitVec 32 := if y.getLsbD 0 then (y >>> 1) ^^^ 3988292384#32 else y >>> 1
def gN : Nat → BitVec 32 → BitVec 32
  | 0, y => y
  | n + 1, y => gS (gN n y)
theorem one_w32 (y : BitVec 32) : (w32 (y &&& 1#32) = 1) = (y.getLsbD 0 = true) := by
  have : (y &&& 1#32) = if y.getLsbD 0 then 1#32 else 0#32 := by
    apply BitVec.eq_of_getLsbD_eq
    intro i hi
    by_cases h0 : i = 0
    · subst h0; cases h : y.getLsbD 0 <;> simp only [BitVec.getLsbD_and, h] <;> decide
    · cases h : y.getLsbD 0 <;> simp [BitVec.getLsbD_one, h0]
  rw [this]
  cases y.getLsbD 0 <;> simp [w32]
theorem rowS_w32 (y : BitVec 32) : rowS (w32 y) = w32 (gS y) := by
  unfold rowS gS
  have e1 : (1 : Int) = w32 1#32 := by decide
  have e2 : (3988292384 : Int) = w32 3988292384#32 := by decide
  have e3 : ishr .u32 (w32 y) 1 = w32 (y >>> 1) := shr_w32 y 1 (by decide)
  rw [e3, e2, xor_w32]
  rw [show ibits .and .u32 (w32 y) 1 = w32 (y &&& 1#32) from by rw [← and_w32]; rfl]
  simp only [one_w32]
  split <;> simp_all
theorem rowN_w32 (y : BitVec 32) : ∀ n, rowN n (w32 y) = w32 (gN n y)
  | 0 => rfl
  | n + 1 => by show rowS (rowN n (w32 y)) = _; rw [rowN_w32 y n, rowS_w32]; rfl
theorem shr_one (x : BitVec 32) : iwrap .u32 ((w32 x).tdiv 2) = w32 (x >>> 1) := by
  rw [show (w32 x).tdiv 2 = w32 (x >>> 1) from by
    unfold w32
    rw [Int.tdiv_eq_ediv_of_nonneg (by omega), BitVec.toNat_ushiftRight, Nat.shiftRight_eq_div_pow]; simp]
  exact iwrap_w32 _
theorem odd_w32 (x y : BitVec 32) : ((iwrap .u32 (w32 x + w32 y)).tmod 2 = 1) = ((x ^^^ y).getLsbD 0 = true) := by
  have hx : x.getLsbD 0 = decide (x.toNat % 2 = 1) := by rw [BitVec.getLsbD, Nat.testBit_zero]
  have hy : y.getLsbD 0 = decide (y.toNat % 2 = 1) := by rw [BitVec.getLsbD, Nat.testBit_zero]
  rw [BitVec.getLsbD_xor, hx, hy, iwrap_u32]
  unfold w32
  rw [Int.tmod_eq_emod_of_nonneg (by omega)]
  rcases Nat.mod_two_eq_zero_or_one x.toNat with h1 | h1 <;> rcases Nat.mod_two_eq_zero_or_one y.toNat with h2 | h2 <;> rw [h1, h2] <;> simp <;> omega
theorem refR_w32 (x y : BitVec 32) : ∃ x' : BitVec 32, refR (w32 x, w32 y) = (w32 x', w32 (y >>> 1)) ∧ x' ^^^ (y >>> 1) = gS (x ^^^ y) := by
  unfold refR
  simp only [shr_one, odd_w32]
  have e2 : (3988292384 : Int) = w32 3988292384#32 := by decide
  rw [e2, xor_w32]
  unfold gS
  by_cases h : (x ^^^ y).getLsbD 0 = true
  · rw [if_pos h, if_pos h]
    refine ⟨_, rfl, ?_⟩
    rw [BitVec.ushiftRight_xor_distrib]; ac_rfl
  · rw [if_neg h, if_neg h]
    exact ⟨_, rfl, by rw [BitVec.ushiftRight_xor_distrib]⟩
theorem refN_w32 (x y : BitVec 32) : ∀ n, ∃ x' : BitVec 32, refN n (w32 x, w32 y) = (w32 x', w32 (y >>> n)) ∧ x' ^^^ (y >>> n) = gN n (x ^^^ y)
  | 0 => ⟨x, by simp [refN], by simp [gN]⟩
  | n + 1 => by
    obtain ⟨x', h1, h2⟩ := refN_w32 x y n
    obtain ⟨x'', h3, h4⟩ := refR_w32 x' (y >>> n)
    refine ⟨x'', ?_, ?_⟩
    · show refR (refN n _) = _
      rw [h1, h3, ← BitVec.shiftRight_add]
    · rw [BitVec.shiftRight_add, h4, h2]; rfl
theorem gS_shl (z a : BitVec 32) (k : Nat) (hk : k + 1 ≤ 8) (hz : ∀ i, 24 ≤ i → z.getLsbD i = false) : gS ((z <<< (k + 1)) ^^^ a) = (z <<< k) ^^^ gS a := by
  have h0 : ((z <<< (k + 1)) ^^^ a).getLsbD 0 = a.getLsbD 0 := by simp
  have h1 : ((z <<< (k + 1)) ^^^ a) >>> 1 = (z <<< k) ^^^ (a >>> 1) := by
    rw [BitVec.ushiftRight_xor_distrib]
    congr 1
    apply BitVec.eq_of_getLsbD_eq
    intro i hi
    simp only [BitVec.getLsbD_ushiftRight, BitVec.getLsbD_shiftLeft]
    by_cases h31 : 1 + i < 32
    · simp only [h31, decide_true, Bool.true_and, show i < 32 by omega]
      by_cases hik : i < k
      · simp [hik, show 1 + i < k + 1 by omega]
      · simp [hik, show ¬ 1 + i < k + 1 by omega, show 1 + i - (k + 1) = i - k by omega]
    · have := hz (i - k) (by omega)
      simp [h31, this]
  unfold gS
  rw [h0, h1]
  split
  · rw [BitVec.xor_assoc]
  · rfl
theorem gN_lin (y : BitVec 32) : ∀ n, n ≤ 8 → gN n y = ((y >>> 8) <<< (8 - n)) ^^^ gN n (y &&& 255#32)
  | 0, _ => by
    apply BitVec.eq_of_getLsbD_eq
    intro i hi
    simp only [gN, BitVec.getLsbD_xor, BitVec.getLsbD_shiftLeft, BitVec.getLsbD_ushiftRight, BitVec.getLsbD_and]
    have h255 : (255#32).getLsbD i = decide (i < 8) := by
      have : ∀ i : Fin 32, (255#32).getLsbD i.1 = decide (i.1 < 8) := by decide
      exact this ⟨i, hi⟩
    rw [h255]
    by_cases h8 : i < 8
    · simp [h8]
    · simp [h8, hi, show 8 + (i - 8) = i by omega]
  | n + 1, h => by
    show gS (gN n y) = _
    rw [gN_lin y n (by omega)]
    rw [show 8 - n = (8 - (n + 1)) + 1 by omega, gS_shl _ _ _ (by omega) fun i hi => by
      rw [BitVec.getLsbD_ushiftRight]; exact BitVec.getLsbD_of_ge _ _ (by omega)]
    rfl
theorem crc_step (x : BitVec 32) (b : UInt8) : refS (w32 x) b = crcS (w32 x) b := by
  have hb : iwrap .u32 (b.toNat : Int) = w32 (BitVec.ofNat 32 b.toNat) := by
    have := b.toNat_lt
    rw [iwrap_u32]; unfold w32; rw [BitVec.toNat_ofNat]; omega
  unfold refS crcS
  rw [hb]
  generalize hc : BitVec.ofNat 32 b.toNat = c
  have hc8 : c >>> 8 = 0#32 := by
    apply BitVec.eq_of_toNat_eq
    have := b.toNat_lt
    rw [BitVec.toNat_ushiftRight, ← hc, BitVec.toNat_ofNat, Nat.shiftRight_eq_div_pow]
    simp; omega
  obtain ⟨x', h1, h2⟩ := refN_w32 x c 8
  rw [h1]
  rw [hc8, BitVec.xor_zero] at h2
  rw [xor_w32, show (255 : Int) = w32 255#32 by decide, and_w32, rowN_w32, show ishr .u32 (w32 x) 8 = w32 (x >>> 8) from shr_w32 x 8 (by decide), xor_w32]
  show w32 x' = _
  rw [h2, gN_lin _ 8 (by decide), BitVec.ushiftRight_xor_distrib, hc8]
  simp
theorem crcS_w32 (x : BitVec 32) (b : UInt8) : ∃ y : BitVec 32, crcS (w32 x) b = w32 y := by
  rw [← crc_step]
  have hb : iwrap .u32 (b.toNat : Int) = w32 (BitVec.ofNat 32 b.toNat) := by
    have := b.toNat_lt
    rw [iwrap_u32]; unfold w32; rw [BitVec.toNat_ofNat]; omega
  unfold refS
  rw [hb]
  obtain ⟨x', h1, _⟩ := refN_w32 x (BitVec.ofNat 32 b.toNat) 8
  exact ⟨x', by rw [h1]⟩
theorem crc_w32 : ∀ (s : List UInt8) (x : BitVec 32), ∃ y : BitVec 32, crcF (w32 x) s = w32 y ∧ refF (w32 x) s = w32 y
  | [], x => ⟨x, rfl, rfl⟩
  | b :: s, x => by
    obtain ⟨y, h⟩ := crcS_w32 x b
    obtain ⟨z, h1, h2⟩ := crc_w32 s y
    refine ⟨z, ?_, ?_⟩
    · show crcF (crcS (w32 x) b) s = _; rw [h, h1]
    · show refF (refS (w32 x) b) s = _; rw [crc_step, h, h2]
theorem inv_w32 (y : BitVec 32) : iwrap .u32 (4294967295 - w32 y) = inv32 (w32 y) := by
  unfold inv32
  rw [show (4294967295 : Int) = w32 4294967295#32 by decide, xor_w32]
  have : w32 4294967295#32 - w32 y = w32 (4294967295#32 ^^^ y) := by
    have e : (4294967295#32 ^^^ y) = ~~~ y := by rw [show 4294967295#32 = BitVec.allOnes 32 by decide, BitVec.allOnes_xor]
    have := y.isLt
    rw [e]; unfold w32; rw [BitVec.toNat_not]; simp; omega
  rw [this]; exact iwrap_w32 _
theorem crc_whole (s : List UInt8) : inv32 (crcF (inv32 0) s) = iwrap .u32 (4294967295 - refF 4294967295 s) := by
  obtain ⟨y, h1, h2⟩ := crc_w32 s 4294967295#32
  rw [show inv32 0 = w32 4294967295#32 by decide, h1, show (4294967295 : Int) = w32 4294967295#32 by decide, h2, show w32 4294967295#32 = (4294967295 : Int) by decide, inv_w32]
theorem gS_inj {x y : BitVec 32} (h : gS x = gS y) : x = y := by
  have top : ∀ z : BitVec 32, (gS z).getLsbD 31 = z.getLsbD 0 := by
    intro z; unfold gS
    have e : (z >>> 1).getLsbD 31 = false := by rw [BitVec.getLsbD_ushiftRight]; exact BitVec.getLsbD_of_ge _ _ (by omega)
    split
    · rename_i h0; rw [BitVec.getLsbD_xor, e, h0]; decide
    · rename_i h0; rw [e]; simp at h0; simp [h0]
  have h0 : x.getLsbD 0 = y.getLsbD 0 := by rw [← top x, ← top y, h]
  have h1 : x >>> 1 = y >>> 1 := by
    unfold gS at h
    rw [h0] at h
    split at h
    · exact (BitVec.xor_left_inj _).1 h
    · exact h
  apply BitVec.eq_of_getLsbD_eq
  intro i hi
  cases i with
  | zero => exact h0
  | succ i =>
    have := congrArg (fun b => b.getLsbD i) h1
    simp only [BitVec.getLsbD_ushiftRight] at this
    rw [Nat.add_comm i 1]; exact this
theorem gN_inj {x y : BitVec 32} : ∀ n, gN n x = gN n y → x = y
  | 0, h => h
  | n + 1, h => gN_inj n (gS_inj h)
theorem w32_inj {x y : BitVec 32} (h : w32 x = w32 y) : x = y := by
  unfold w32 at h; exact BitVec.eq_of_toNat_eq (by omega)
theorem crcS_g (x : BitVec 32) (b : UInt8) : crcS (w32 x) b = w32 (gN 8 (x ^^^ BitVec.ofNat 32 b.toNat)) := by
  rw [← crc_step]
  have hb : iwrap .u32 (b.toNat : Int) = w32 (BitVec.ofNat 32 b.toNat) := by
    have := b.toNat_lt
    rw [iwrap_u32]; unfold w32; rw [BitVec.toNat_ofNat]; omega
  unfold refS
  rw [hb]
  obtain ⟨x', h1, h2⟩ := refN_w32 x (BitVec.ofNat 32 b.toNat) 8
  rw [h1, ← h2]
  have hc8 : BitVec.ofNat 32 b.toNat >>> 8 = 0#32 := by
    apply BitVec.eq_of_toNat_eq
    have := b.toNat_lt
    rw [BitVec.toNat_ushiftRight, BitVec.toNat_ofNat, Nat.shiftRight_eq_div_pow]
    simp; omega
  rw [hc8, BitVec.xor_zero]
theorem crcF_g : ∀ (s : List UInt8) (x : BitVec 32), ∃ y, crcF (w32 x) s = w32 y
  | s, x => by obtain ⟨y, h, _⟩ := crc_w32 s x; exact ⟨y, h⟩
theorem crcF_inj : ∀ (s : List UInt8) {x y : BitVec 32}, crcF (w32 x) s = crcF (w32 y) s → x = y
  | [], x, y, h => w32_inj h
  | b :: s, x, y, h => by
    have h : crcF (crcS (w32 x) b) s = crcF (crcS (w32 y) b) s := h
    rw [crcS_g, crcS_g] at h
    exact (BitVec.xor_left_inj _).1 (gN_inj 8 (crcF_inj s h))
theorem crc_tell (s : List UInt8) (i : Nat) (hi : i < s.length) (b : UInt8) (hb : b ≠ s[i]) (x : BitVec 32) : crcF (w32 x) (s.set i b) ≠ crcF (w32 x) s := by
  intro h
  have e1 : s.set i b = s.take i ++ b :: s.drop (i + 1) := List.set_eq_take_append_cons_drop .. |>.trans (by simp [hi])
  have e2 : s = s.take i ++ s[i] :: s.drop (i + 1) := by rw [List.getElem_cons_drop, List.take_append_drop]
  rw [e1] at h
  conv at h => rhs; rw [e2]
  unfold crcF at h
  rw [List.foldl_append, List.foldl_append] at h
  obtain ⟨y, hy⟩ := crcF_g (s.take i) x
  unfold crcF at hy
  rw [hy] at h
  have h : crcF (crcS (w32 y) b) (s.drop (i + 1)) = crcF (crcS (w32 y) s[i]) (s.drop (i + 1)) := h
  rw [crcS_g, crcS_g] at h
  have h2 := (BitVec.xor_right_inj _).1 (gN_inj 8 (crcF_inj _ h))
  apply hb
  have h3 := congrArg BitVec.toNat h2
  have := b.toNat_lt
  have := s[i].toNat_lt
  rw [BitVec.toNat_ofNat, BitVec.toNat_ofNat, Nat.mod_eq_of_lt (by omega), Nat.mod_eq_of_lt (by omega)] at h3
  exact UInt8.toNat_inj.1 h3
theorem inv32_inj {x y : BitVec 32} (h : inv32 (w32 x) = inv32 (w32 y)) : x = y := by
  unfold inv32 at h
  rw [show (4294967295 : Int) = w32 4294967295#32 by decide, xor_w32, xor_w32] at h
  exact (BitVec.xor_right_inj _).1 (w32_inj h)
end Go.AEX
