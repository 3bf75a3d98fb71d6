/- Turned to this seat by turn.py: WSums.lean WCrc.lean WWire.lean Wire2.lean Wire3.lean WireS.lean Wire4.lean WireP.lean WireT.lean. -/
import Derived.Test.YteilmgoomifjmaaCom
import Derived.Test.YteilmgoomifjmaaCE
import Derived.Test.YteilmgoomifjmaaAEzj
import Derived.Test.YteilmgoomifjmaaAEsa
import Derived.KernelRfl
namespace Go.AEX
open Go Go.AE Go.Proofs
set_option maxRecDepth 100000
set_option linter.unusedVariables false
set_option linter.unusedSimpArgs false

def fnvS (f : Int) (b : UInt8) : Int := iwrap .u64 (ibits .xor .u64 f (iwrap .u64 b.toNat) * 1099511628211)
def fnvF (f : Int) (s : List UInt8) : Int := s.foldl fnvS f
theorem fnvF_take (f : Int) (s : List UInt8) (i : Nat) (h : i < s.length) : fnvF f (s.take (i + 1)) = fnvS (fnvF f (s.take i)) s[i] := by
  unfold fnvF; rw [List.take_succ_eq_append_getElem h, List.foldl_append]; rfl
theorem sget_at {s : List UInt8} {i : Nat} (h : i < s.length) : sget s (i : Int) = (s[i].toNat : Int) := by
  simp [sget, List.getD_eq_getElem?_getD, h]
theorem sv_len (l : List (List UInt8)) : (sv l).length = l.length := by simp [sv]
theorem sv_hasS {l : List (List UInt8)} {i : Nat} (h : i < l.length) : hasS (sv l) i 0 := ⟨[.str l[i]], l[i], by simp [sv, h], by simp⟩
theorem sv_rstr {l : List (List UInt8)} {i : Nat} (h : i < l.length) : rstr (sv l) i 0 = l[i] := by
  simp [rstr, List.getD_eq_getElem?_getD, sv, h]
def fnvL (f : Int) (l : List (List UInt8)) : Int := l.foldl fnvF f
theorem fnvL_take (f : Int) (l : List (List UInt8)) (i : Nat) (h : i < l.length) : fnvL f (l.take (i + 1)) = fnvF (fnvL f (l.take i)) l[i] := by
  unfold fnvL; rw [List.take_succ_eq_append_getElem h, List.foldl_append]; rfl
theorem cut_spec (s : List UInt8) (n : Int) (hn : 0 ≤ n) : Tri Try.prog 38 [.str s, .int .i64 n] [] (fun v m => v = .str (s.take n.toNat) ∧ m = []) := by
  refine (Tri.enter (rl := r38) (code := c38) (by kernel_rfl) Try.func38 rfl c38_ok (by kernel_rfl) (by kernel_rfl) ?_)
  refine run_ok 4000 _ _ _ _ ?_
  simp (maxSteps := 10000000) only [go_sem, c38, r38]
  refine ⟨fun h => ⟨by omega, ?_⟩, fun h => ?_⟩
  · omega
  · rw [List.take_of_length_le (by omega)]
def rowS (x : Int) : Int := if ibits .and .u32 x 1 = 1 then ibits .xor .u32 (ishr .u32 x 1) 3988292384 else ishr .u32 x 1
def rowN : Nat → Int → Int
  | 0, x => x
  | n + 1, x => rowS (rowN n x)
def crcS (f : Int) (b : UInt8) : Int := ibits .xor .u32 (ishr .u32 f 8) (rowN 8 (ibits .and .u32 (ibits .xor .u32 f (iwrap .u32 b.toNat)) 255))
def crcF (f : Int) (s : List UInt8) : Int := s.foldl crcS f
theorem crcF_take (f : Int) (s : List UInt8) (i : Nat) (h : i < s.length) : crcF f (s.take (i + 1)) = crcS (crcF f (s.take i)) s[i] := by
  unfold crcF; rw [List.take_succ_eq_append_getElem h, List.foldl_append]; rfl
def crcL (f : Int) (l : List (List UInt8)) : Int := l.foldl crcF f
theorem crcL_take (f : Int) (l : List (List UInt8)) (i : Nat) (h : i < l.length) : crcL f (l.take (i + 1)) = crcF (crcL f (l.take i)) l[i] := by
  unfold crcL; rw [List.take_succ_eq_append_getElem h, List.foldl_append]; rfl
def inv32 (x : Int) : Int := ibits .xor .u32 4294967295 x
theorem max32 : (bif IntKind.u32.signed then -1 else IntKind.u32.max) = 4294967295 := by decide
/-- A byte more, as the document's reference reckons it. -/
def refR (x : Int × Int) : Int × Int :=
  let s := iwrap .u32 (x.1.tdiv 2)
  (if (iwrap .u32 (x.1 + x.2)).tmod 2 = 1 then ibits .xor .u32 s 3988292384 else s, iwrap .u32 (x.2.tdiv 2))
def refN : Nat → Int × Int → Int × Int
  | 0, x => x
  | n + 1, x => refR (refN n x)
def refS (f : Int) (b : UInt8) : Int := (refN 8 (f, iwrap .u32 b.toNat)).1
def refF (f : Int) (s : List UInt8) : Int := s.foldl refS f
theorem refF_take (f : Int) (s : List UInt8) (i : Nat) (h : i < s.length) : refF f (s.take (i + 1)) = refS (refF f (s.take i)) s[i] := by
  unfold refF; rw [List.take_succ_eq_append_getElem h, List.foldl_append]; rfl
def w32 (x : BitVec 32) : Int := (x.toNat : Int)
theorem w32_ofInt (x : BitVec 32) : BitVec.ofInt 32 (w32 x) = x := by
  unfold w32; rw [BitVec.ofInt_natCast]; simp
theorem iwrap_w32 (x : BitVec 32) : iwrap .u32 (w32 x) = w32 x := by
  have := x.isLt; rw [iwrap_u32]; unfold w32; omega
theorem xor_w32 (x y : BitVec 32) : ibits .xor .u32 (w32 x) (w32 y) = w32 (x ^^^ y) := by
  show IntKind.wrap .u32 ((BitVec.ofInt 32 (w32 x) ^^^ BitVec.ofInt 32 (w32 y)).toNat : Int) = _
  rw [w32_ofInt, w32_ofInt]; exact iwrap_w32 _
theorem and_w32 (x y : BitVec 32) : ibits .and .u32 (w32 x) (w32 y) = w32 (x &&& y) := by
  show IntKind.wrap .u32 ((BitVec.ofInt 32 (w32 x) &&& BitVec.ofInt 32 (w32 y)).toNat : Int) = _
  rw [w32_ofInt, w32_ofInt]; exact iwrap_w32 _
theorem shr_w32 (x : BitVec 32) (k : Nat) (h : k ≤ 32) : ishr .u32 (w32 x) (k : Int) = w32 (x >>> k) := by
  show (w32 x).fdiv (2 ^ min ((k : Int).toNat) 32) = _
  rw [Int.toNat_natCast, Nat.min_eq_left h]
  unfold w32
  rw [Int.fdiv_eq_ediv_of_nonneg _ (Int.le_of_lt (Int.pow_pos (by decide))), BitVec.toNat_ushiftRight, Nat.shiftRight_eq_div_pow]
  simp
def gS (y : BitVec 32) : BitVec 32 := if y.getLsbD 0 then (y >>> 1) ^^^ 3988292384#32 else y >>> 1
def gN : Nat → BitVec 32 → BitVec 32
  | 0, y => y
  | n + 1, y => gS (gN n y)
theorem one_w32 (y : BitVec 32) : (w32 (y &&& 1#32) = 1) = (y.getLsbD 0 = true) := by
  have : (y &&& 1#32) = if y.getLsbD 0 then 1#32 else 0#32 := by
    apply BitVec.eq_of_getLsbD_eq
    intro i hi
    by_cases h0 : i = 0
    · subst h0; cases h : y.getLsbD 0 <;> simp only [BitVec.getLsbD_and, h] <;> decide
    · cases h : y.getLsbD 0 <;> simp [BitVec.getLsbD_one, h0]
  rw [this]
  cases y.getLsbD 0 <;> simp [w32]
theorem rowS_w32 (y : BitVec 32) : rowS (w32 y) = w32 (gS y) := by
  unfold rowS gS
  have e1 : (1 : Int) = w32 1#32 := by decide
  have e2 : (3988292384 : Int) = w32 3988292384#32 := by decide
  have e3 : ishr .u32 (w32 y) 1 = w32 (y >>> 1) := shr_w32 y 1 (by decide)
  rw [e3, e2, xor_w32]
  rw [show ibits .and .u32 (w32 y) 1 = w32 (y &&& 1#32) from by rw [← and_w32]; rfl]
  simp only [one_w32]
  split <;> simp_all
theorem rowN_w32 (y : BitVec 32) : ∀ n, rowN n (w32 y) = w32 (gN n y)
  | 0 => rfl
  | n + 1 => by show rowS (rowN n (w32 y)) = _; rw [rowN_w32 y n, rowS_w32]; rfl
theorem shr_one (x : BitVec 32) : iwrap .u32 ((w32 x).tdiv 2) = w32 (x >>> 1) := by
  rw [show (w32 x).tdiv 2 = w32 (x >>> 1) from by
    unfold w32
    rw [Int.tdiv_eq_ediv_of_nonneg (by omega), BitVec.toNat_ushiftRight, Nat.shiftRight_eq_div_pow]; simp]
  exact iwrap_w32 _
theorem odd_w32 (x y : BitVec 32) : ((iwrap .u32 (w32 x + w32 y)).tmod 2 = 1) = ((x ^^^ y).getLsbD 0 = true) := by
  have hx : x.getLsbD 0 = decide (x.toNat % 2 = 1) := by rw [BitVec.getLsbD, Nat.testBit_zero]
  have hy : y.getLsbD 0 = decide (y.toNat % 2 = 1) := by rw [BitVec.getLsbD, Nat.testBit_zero]
  rw [BitVec.getLsbD_xor, hx, hy, iwrap_u32]
  unfold w32
  rw [Int.tmod_eq_emod_of_nonneg (by omega)]
  rcases Nat.mod_two_eq_zero_or_one x.toNat with h1 | h1 <;> rcases Nat.mod_two_eq_zero_or_one y.toNat with h2 | h2 <;> rw [h1, h2] <;> simp <;> omega
theorem refR_w32 (x y : BitVec 32) : ∃ x' : BitVec 32, refR (w32 x, w32 y) = (w32 x', w32 (y >>> 1)) ∧ x' ^^^ (y >>> 1) = gS (x ^^^ y) := by
  unfold refR
  simp only [shr_one, odd_w32]
  have e2 : (3988292384 : Int) = w32 3988292384#32 := by decide
  rw [e2, xor_w32]
  unfold gS
  by_cases h : (x ^^^ y).getLsbD 0 = true
  · rw [if_pos h, if_pos h]
    refine ⟨_, rfl, ?_⟩
    rw [BitVec.ushiftRight_xor_distrib]; ac_rfl
  · rw [if_neg h, if_neg h]
    exact ⟨_, rfl, by rw [BitVec.ushiftRight_xor_distrib]⟩
theorem refN_w32 (x y : BitVec 32) : ∀ n, ∃ x' : BitVec 32, refN n (w32 x, w32 y) = (w32 x', w32 (y >>> n)) ∧ x' ^^^ (y >>> n) = gN n (x ^^^ y)
  | 0 => ⟨x, by simp [refN], by simp [gN]⟩
  | n + 1 => by
    obtain ⟨x', h1, h2⟩ := refN_w32 x y n
    obtain ⟨x'', h3, h4⟩ := refR_w32 x' (y >>> n)
    refine ⟨x'', ?_, ?_⟩
    · show refR (refN n _) = _
      rw [h1, h3, ← BitVec.shiftRight_add]
    · rw [BitVec.shiftRight_add, h4, h2]; rfl
theorem gS_shl (z a : BitVec 32) (k : Nat) (hk : k + 1 ≤ 8) (hz : ∀ i, 24 ≤ i → z.getLsbD i = false) : gS ((z <<< (k + 1)) ^^^ a) = (z <<< k) ^^^ gS a := by
  have h0 : ((z <<< (k + 1)) ^^^ a).getLsbD 0 = a.getLsbD 0 := by simp
  have h1 : ((z <<< (k + 1)) ^^^ a) >>> 1 = (z <<< k) ^^^ (a >>> 1) := by
    rw [BitVec.ushiftRight_xor_distrib]
    congr 1
    apply BitVec.eq_of_getLsbD_eq
    intro i hi
    simp only [BitVec.getLsbD_ushiftRight, BitVec.getLsbD_shiftLeft]
    by_cases h31 : 1 + i < 32
    · simp only [h31, decide_true, Bool.true_and, show i < 32 by omega]
      by_cases hik : i < k
      · simp [hik, show 1 + i < k + 1 by omega]
      · simp [hik, show ¬ 1 + i < k + 1 by omega, show 1 + i - (k + 1) = i - k by omega]
    · have := hz (i - k) (by omega)
      simp [h31, this]
  unfold gS
  rw [h0, h1]
  split
  · rw [BitVec.xor_assoc]
  · rfl
theorem gN_lin (y : BitVec 32) : ∀ n, n ≤ 8 → gN n y = ((y >>> 8) <<< (8 - n)) ^^^ gN n (y &&& 255#32)
  | 0, _ => by
    apply BitVec.eq_of_getLsbD_eq
    intro i hi
    simp only [gN, BitVec.getLsbD_xor, BitVec.getLsbD_shiftLeft, BitVec.getLsbD_ushiftRight, BitVec.getLsbD_and]
    have h255 : (255#32).getLsbD i = decide (i < 8) := by
      have : ∀ i : Fin 32, (255#32).getLsbD i.1 = decide (i.1 < 8) := by decide
      exact this ⟨i, hi⟩
    rw [h255]
    by_cases h8 : i < 8
    · simp [h8]
    · simp [h8, hi, show 8 + (i - 8) = i by omega]
  | n + 1, h => by
    show gS (gN n y) = _
    rw [gN_lin y n (by omega)]
    rw [show 8 - n = (8 - (n + 1)) + 1 by omega, gS_shl _ _ _ (by omega) fun i hi => by
      rw [BitVec.getLsbD_ushiftRight]; exact BitVec.getLsbD_of_ge _ _ (by omega)]
    rfl
theorem crc_step (x : BitVec 32) (b : UInt8) : refS (w32 x) b = crcS (w32 x) b := by
  have hb : iwrap .u32 (b.toNat : Int) = w32 (BitVec.ofNat 32 b.toNat) := by
    have := b.toNat_lt
    rw [iwrap_u32]; unfold w32; rw [BitVec.toNat_ofNat]; omega
  unfold refS crcS
  rw [hb]
  generalize hc : BitVec.ofNat 32 b.toNat = c
  have hc8 : c >>> 8 = 0#32 := by
    apply BitVec.eq_of_toNat_eq
    have := b.toNat_lt
    rw [BitVec.toNat_ushiftRight, ← hc, BitVec.toNat_ofNat, Nat.shiftRight_eq_div_pow]
    simp; omega
  obtain ⟨x', h1, h2⟩ := refN_w32 x c 8
  rw [h1]
  rw [hc8, BitVec.xor_zero] at h2
  rw [xor_w32, show (255 : Int) = w32 255#32 by decide, and_w32, rowN_w32, show ishr .u32 (w32 x) 8 = w32 (x >>> 8) from shr_w32 x 8 (by decide), xor_w32]
  show w32 x' = _
  rw [h2, gN_lin _ 8 (by decide), BitVec.ushiftRight_xor_distrib, hc8]
  simp
theorem crcS_w32 (x : BitVec 32) (b : UInt8) : ∃ y : BitVec 32, crcS (w32 x) b = w32 y := by
  rw [← crc_step]
  have hb : iwrap .u32 (b.toNat : Int) = w32 (BitVec.ofNat 32 b.toNat) := by
    have := b.toNat_lt
    rw [iwrap_u32]; unfold w32; rw [BitVec.toNat_ofNat]; omega
  unfold refS
  rw [hb]
  obtain ⟨x', h1, _⟩ := refN_w32 x (BitVec.ofNat 32 b.toNat) 8
  exact ⟨x', by rw [h1]⟩
theorem crc_w32 : ∀ (s : List UInt8) (x : BitVec 32), ∃ y : BitVec 32, crcF (w32 x) s = w32 y ∧ refF (w32 x) s = w32 y
  | [], x => ⟨x, rfl, rfl⟩
  | b :: s, x => by
    obtain ⟨y, h⟩ := crcS_w32 x b
    obtain ⟨z, h1, h2⟩ := crc_w32 s y
    refine ⟨z, ?_, ?_⟩
    · show crcF (crcS (w32 x) b) s = _; rw [h, h1]
    · show refF (refS (w32 x) b) s = _; rw [crc_step, h, h2]
theorem inv_w32 (y : BitVec 32) : iwrap .u32 (4294967295 - w32 y) = inv32 (w32 y) := by
  unfold inv32
  rw [show (4294967295 : Int) = w32 4294967295#32 by decide, xor_w32]
  have : w32 4294967295#32 - w32 y = w32 (4294967295#32 ^^^ y) := by
    have e : (4294967295#32 ^^^ y) = ~~~ y := by rw [show 4294967295#32 = BitVec.allOnes 32 by decide, BitVec.allOnes_xor]
    have := y.isLt
    rw [e]; unfold w32; rw [BitVec.toNat_not]; simp; omega
  rw [this]; exact iwrap_w32 _
/-- The whole sum. -/
theorem crc_whole (s : List UInt8) : inv32 (crcF (inv32 0) s) = iwrap .u32 (4294967295 - refF 4294967295 s) := by
  obtain ⟨y, h1, h2⟩ := crc_w32 s 4294967295#32
  rw [show inv32 0 = w32 4294967295#32 by decide, h1, show (4294967295 : Int) = w32 4294967295#32 by decide, h2, show w32 4294967295#32 = (4294967295 : Int) by decide, inv_w32]
theorem gS_inj {x y : BitVec 32} (h : gS x = gS y) : x = y := by
  have top : ∀ z : BitVec 32, (gS z).getLsbD 31 = z.getLsbD 0 := by
    intro z; unfold gS
    have e : (z >>> 1).getLsbD 31 = false := by rw [BitVec.getLsbD_ushiftRight]; exact BitVec.getLsbD_of_ge _ _ (by omega)
    split
    · rename_i h0; rw [BitVec.getLsbD_xor, e, h0]; decide
    · rename_i h0; rw [e]; simp at h0; simp [h0]
  have h0 : x.getLsbD 0 = y.getLsbD 0 := by rw [← top x, ← top y, h]
  have h1 : x >>> 1 = y >>> 1 := by
    unfold gS at h
    rw [h0] at h
    split at h
    · exact (BitVec.xor_left_inj _).1 h
    · exact h
  apply BitVec.eq_of_getLsbD_eq
  intro i hi
  cases i with
  | zero => exact h0
  | succ i =>
    have := congrArg (fun b => b.getLsbD i) h1
    simp only [BitVec.getLsbD_ushiftRight] at this
    rw [Nat.add_comm i 1]; exact this
theorem gN_inj {x y : BitVec 32} : ∀ n, gN n x = gN n y → x = y
  | 0, h => h
  | n + 1, h => gN_inj n (gS_inj h)
theorem w32_inj {x y : BitVec 32} (h : w32 x = w32 y) : x = y := by
  unfold w32 at h; exact BitVec.eq_of_toNat_eq (by omega)
theorem crcS_g (x : BitVec 32) (b : UInt8) : crcS (w32 x) b = w32 (gN 8 (x ^^^ BitVec.ofNat 32 b.toNat)) := by
  rw [← crc_step]
  have hb : iwrap .u32 (b.toNat : Int) = w32 (BitVec.ofNat 32 b.toNat) := by
    have := b.toNat_lt
    rw [iwrap_u32]; unfold w32; rw [BitVec.toNat_ofNat]; omega
  unfold refS
  rw [hb]
  obtain ⟨x', h1, h2⟩ := refN_w32 x (BitVec.ofNat 32 b.toNat) 8
  rw [h1, ← h2]
  have hc8 : BitVec.ofNat 32 b.toNat >>> 8 = 0#32 := by
    apply BitVec.eq_of_toNat_eq
    have := b.toNat_lt
    rw [BitVec.toNat_ushiftRight, BitVec.toNat_ofNat, Nat.shiftRight_eq_div_pow]
    simp; omega
  rw [hc8, BitVec.xor_zero]
theorem crcF_g : ∀ (s : List UInt8) (x : BitVec 32), ∃ y, crcF (w32 x) s = w32 y
  | s, x => by obtain ⟨y, h, _⟩ := crc_w32 s x; exact ⟨y, h⟩
theorem crcF_inj : ∀ (s : List UInt8) {x y : BitVec 32}, crcF (w32 x) s = crcF (w32 y) s → x = y
  | [], x, y, h => w32_inj h
  | b :: s, x, y, h => by
    have h : crcF (crcS (w32 x) b) s = crcF (crcS (w32 y) b) s := h
    rw [crcS_g, crcS_g] at h
    exact (BitVec.xor_left_inj _).1 (gN_inj 8 (crcF_inj s h))
/-- Texts that are unlike in one byte alone have unlike sums. -/
theorem crc_tell (s : List UInt8) (i : Nat) (hi : i < s.length) (b : UInt8) (hb : b ≠ s[i]) (x : BitVec 32) : crcF (w32 x) (s.set i b) ≠ crcF (w32 x) s := by
  intro h
  have e1 : s.set i b = s.take i ++ b :: s.drop (i + 1) := List.set_eq_take_append_cons_drop .. |>.trans (by simp [hi])
  have e2 : s = s.take i ++ s[i] :: s.drop (i + 1) := by rw [List.getElem_cons_drop, List.take_append_drop]
  rw [e1] at h
  conv at h => rhs; rw [e2]
  unfold crcF at h
  rw [List.foldl_append, List.foldl_append] at h
  obtain ⟨y, hy⟩ := crcF_g (s.take i) x
  unfold crcF at hy
  rw [hy] at h
  have h : crcF (crcS (w32 y) b) (s.drop (i + 1)) = crcF (crcS (w32 y) s[i]) (s.drop (i + 1)) := h
  rw [crcS_g, crcS_g] at h
  have h2 := (BitVec.xor_right_inj _).1 (gN_inj 8 (crcF_inj _ h))
  apply hb
  have h3 := congrArg BitVec.toNat h2
  have := b.toNat_lt
  have := s[i].toNat_lt
  rw [BitVec.toNat_ofNat, BitVec.toNat_ofNat, Nat.mod_eq_of_lt (by omega), Nat.mod_eq_of_lt (by omega)] at h3
  exact UInt8.toNat_inj.1 h3
theorem inv32_inj {x y : BitVec 32} (h : inv32 (w32 x) = inv32 (w32 y)) : x = y := by
  unfold inv32 at h
  rw [show (4294967295 : Int) = w32 4294967295#32 by decide, xor_w32, xor_w32] at h
  exact (BitVec.xor_right_inj _).1 (w32_inj h)
/-- A number's bytes: seven bits in each, the lowest first. -/
def numB (n : Nat) : List UInt8 := if 127 < n then UInt8.ofNat (128 + n % 128) :: numB (n / 128) else [UInt8.ofNat n]
termination_by n
theorem numB_more {n : Nat} (h : 127 < n) : numB n = UInt8.ofNat (128 + n % 128) :: numB (n / 128) := by rw [numB, if_pos h]
theorem numB_last {n : Nat} (h : n ≤ 127) : numB n = [UInt8.ofNat n] := by rw [numB, if_neg (by omega)]
theorem numB_len : ∀ (k n : Nat), n < 128 ^ (k + 1) → (numB n).length ≤ k + 1
  | 0, n, h => by rw [numB_last (by simp at h; omega)]; simp
  | k + 1, n, h => by
    by_cases h1 : 127 < n
    · rw [numB_more h1]
      have := numB_len k (n / 128) (by rw [Nat.pow_succ] at h; exact Nat.div_lt_of_lt_mul (by rw [Nat.mul_comm]; exact h))
      simp; exact this
    · rw [numB_last (by omega)]; simp
theorem numB_len10 {n : Nat} (h : n < 18446744073709551616) : (numB n).length ≤ 10 := numB_len 9 n (Nat.lt_of_lt_of_le h (by decide))
theorem toBytes_one (k : IntKind) (n : Int) : toBytes [[.int k n]] = [UInt8.ofNat n.toNat] := rfl
theorem all_one (n : Int) : allU8 [[.int .u8 n]] := by intro x hx; simp at hx; exact ⟨n, hx⟩
theorem rlow (n : Nat) (h : n < 18446744073709551616) : UInt8.ofNat (iwrap .u8 (iwrap .u64 (128 + (n : Int).tmod 128))).toNat = UInt8.ofNat (128 + n % 128) := by
  rw [iwrap_u64, iwrap_u8, Int.tmod_eq_emod_of_nonneg (by omega)]
  congr 1; omega
theorem rdiv (n : Nat) (h : n < 18446744073709551616) : iwrap .u64 ((n : Int).tdiv 128) = ((n / 128 : Nat) : Int) := by
  rw [iwrap_u64, Int.tdiv_eq_ediv_of_nonneg (by omega)]; omega
theorem rlast (n : Nat) (h : n ≤ 127) : UInt8.ofNat (iwrap .u8 (n : Int)).toNat = UInt8.ofNat n := by
  rw [iwrap_u8]; congr 1; omega
theorem rNum_spec (N : Nat) (hN : N < 18446744073709551616) : Tri Try.prog 57 [.int .u64 (N : Nat)] [] (fun v m => v = .str (numB N) ∧ m = []) := by
  refine (Tri.enter (rl := r57) (code := c57) (by kernel_rfl) Try.func57 rfl c57_ok (by kernel_rfl) (by kernel_rfl) ?_)
  refine run_ok 4000 _ _ _ _ ?_
  simp (maxSteps := 10000000) only [go_sem, c57, r57]
  refine sem_rounds (fun x : Nat × Nat × List UInt8 => x.1 ≤ 10 ∧ x.2.1 * 128 ^ x.1 ≤ N ∧ x.2.2 ++ numB x.2.1 = numB N ∧ x.2.2.length = x.1) (fun x => [(0, .int .u64 (x.2.1 : Nat)), (3, .str x.2.2), (4, .int .i64 (x.1 : Nat))]) (fun x => []) (fun x => 10 - x.1) (0, N, []) [] ⟨by simp, by simp, by simp, rfl⟩ ?_ ?_
  · simp only [Emb, go_sem]
  rintro ⟨i, n, s⟩ ⟨h1, h2, h3, h4⟩
  simp only at h1 h2 h3 h4
  have hn : n < 18446744073709551616 := Nat.lt_of_le_of_lt (Nat.le_trans (Nat.le_mul_of_pos_right _ (Nat.pow_pos (by decide))) h2) hN
  refine run_ok 4000 _ _ _ _ ?_
  simp (maxSteps := 10000000) only [go_sem]
  refine ⟨fun hi => ⟨fun hm => ?_, fun hm => ?_⟩, fun hi => ?_⟩
  · have hm : 127 < n := by omega
    rw [toBytes_one, rlow n hn, rdiv n hn]
    refine ⟨all_one _, by simp; omega, (i + 1, n / 128, s ++ [UInt8.ofNat (128 + n % 128)]), by simp only; omega, ⟨by simp only; omega, ?_, ?_, by simp [h4]⟩, [], ?_⟩
    · simp only
      refine Nat.le_trans ?_ h2
      rw [Nat.pow_succ, Nat.mul_comm (128 ^ i) 128, ← Nat.mul_assoc]
      exact Nat.mul_le_mul_right _ (Nat.div_mul_le_self _ _)
    · simp only; rw [← h3, numB_more hm]; simp
    · simp only [Emb, go_sem]
      rw [iwrap_i64_in (by omega)]
      simp
  · refine run_ok 4000 _ _ _ _ ?_
    simp (maxSteps := 10000000) only [go_sem]
    rw [toBytes_one, rlast n (by omega)]
    refine ⟨all_one _, by simp; omega, ?_⟩
    rw [← h3, numB_last (by omega)]
  · refine run_ok 4000 _ _ _ _ ?_
    simp (maxSteps := 10000000) only [go_sem]
    have : i = 10 := by omega
    subst this
    have : n ≤ 127 := by
      have : n * 128 ^ 10 < 18446744073709551616 := Nat.lt_of_le_of_lt h2 hN
      have : n * 1180591620717411303424 < 18446744073709551616 := this
      omega
    rw [toBytes_one, rlast n (by omega)]
    refine ⟨all_one _, by simp; omega, ?_⟩
    rw [← h3, numB_last (by omega)]
theorem or128 (n : Nat) : ibits .or .u8 (iwrap .u8 (n : Int)) 128 = ((UInt8.ofNat (128 + n % 128)).toNat : Int) := by
  have e : iwrap .u8 (n : Int) = ((n % 256 : Nat) : Int) := by rw [iwrap_u8]; omega
  have key : ∀ x : Nat, x < 256 → ibits .or .u8 (x : Int) 128 = ((128 + x % 128 : Nat) : Int) := by decide +kernel
  rw [e, key _ (by omega), UInt8.toNat_ofNat']; omega
theorem byte_last (n : Nat) (h : n ≤ 127) : iwrap .u8 (n : Int) = ((UInt8.ofNat n).toNat : Int) := by
  rw [iwrap_u8, UInt8.toNat_ofNat']; omega
theorem shr7 (n : Nat) (h : n < 18446744073709551616) : ishr .u64 (n : Int) 7 = ((n / 128 : Nat) : Int) := by
  show (n : Int).fdiv (2 ^ min (Int.toNat 7) 64) = _
  rw [show (2 : Int) ^ min (Int.toNat 7) 64 = 128 by decide, Int.fdiv_eq_ediv_of_nonneg _ (by omega)]; omega
/-- Bytes that grow. -/
def outM (s : List UInt8) : Mem := [.box [.sl 1 0 s.length s.length false], .row 1 (AE.bytes s)]
def outM2 (s : List UInt8) : Mem := [.box [.sl 2 0 s.length s.length false], .gone, .row 1 (AE.bytes s)]
attribute [go_sem] outM outM2
def numsB (l : List Nat) : List UInt8 := (l.map numB).flatten
theorem numsB_one (n : Nat) : numsB [n] = numB n := by simp [numsB]
def nv (l : List Nat) : List (List AV) := l.map fun (n : Nat) => [AV.int .u64 (n : Int)]
theorem nv_len (l : List Nat) : (nv l).length = l.length := by simp [nv]
theorem nv_get {l : List Nat} {i : Nat} (h : i < l.length) : (nv l)[i]? = some [.int .u64 (l[i] : Nat)] := by simp [nv, h]
theorem nv_hasI {l : List Nat} {i : Nat} (h : i < l.length) : hasI .u64 (nv l) i 0 := ⟨_, _, nv_get h, by simp; rfl⟩
theorem nv_rint {l : List Nat} {i : Nat} (h : i < l.length) : rint (nv l) i 0 = (l[i] : Nat) := by simp [rint, List.getD_eq_getElem?_getD, nv_get h]
theorem numsB_take (l : List Nat) (i : Nat) (h : i < l.length) : numsB (l.take (i + 1)) = numsB (l.take i) ++ numB l[i] := by
  unfold numsB; rw [List.take_succ_eq_append_getElem h, List.map_append, List.flatten_append]; simp
theorem numsB_len (l : List Nat) (h : ∀ n ∈ l, n < 18446744073709551616) : (numsB l).length ≤ 10 * l.length := by
  induction l with
  | nil => simp [numsB]
  | cons n l ih =>
    have := ih fun m hm => h m (by simp [hm])
    have := numB_len10 (h n (by simp))
    simp only [numsB, List.map_cons, List.flatten_cons, List.length_append, List.length_cons] at *
    omega
theorem wNum_spec (l : List Nat) (tight : Bool) (s : List UInt8) (hl : ∀ n ∈ l, n < 18446744073709551616) (hs : s.length + 10 * l.length ≤ 1000000) :
    Tri Try.prog 69 [.pbox 0 0, .vsl 1 (nv l) tight] (outM s) (fun v m => v = .pbox 0 0 ∧ m = outM2 (s ++ numsB l)) := by
  unfold outM outM2
  refine (Tri.enter (rl := r69) (code := c69) (by kernel_rfl) Try.func69 rfl c69_ok (by kernel_rfl) (by kernel_rfl) ?_)
  refine run_ok 4000 _ _ _ _ ?_
  simp (maxSteps := 10000000) only [go_sem, c69, r69]
  refine sem_move 1 rfl ?_
  simp only [go_sem]
  refine sem_rounds (fun i : Nat => i ≤ l.length) (fun i => [(0, .pbox 0 0), (7, .vsl 1 (nv l) tight), (8, .int .i64 l.length), (9, .int .i64 i)]) (fun i => [.box [.sl 2 0 (s ++ numsB (l.take i)).length (s ++ numsB (l.take i)).length false], .gone, .row 1 (AE.bytes (s ++ numsB (l.take i)))]) (fun i => l.length - i) 0 [0, 1, 2] (Nat.zero_le _) ?_ ?_
  · simp only [Emb, go_sem]; simp [nv_len, numsB]
  intro i hi
  refine run_ok 4000 _ _ _ _ ?_
  simp (maxSteps := 10000000) only [go_sem]
  refine ⟨fun hlt => ?_, fun hge => ?_⟩
  · have hlt : i < l.length := by omega
    rw [nv_rint hlt, nv_len]
    refine ⟨by constructor <;> omega, nv_hasI hlt, ?_⟩
    have hN := hl _ (List.getElem_mem hlt)
    have hT := numsB_len (l.take i) fun n hn => hl n (List.mem_of_mem_take hn)
    have hT2 : (l.take i).length ≤ l.length - 1 := by simp; omega
    have hB := numB_len10 hN
    generalize hS : s ++ numsB (l.take i) = S
    have hSl : S.length + 10 ≤ 1000000 := by rw [← hS, List.length_append]; omega
    refine sem_rounds (fun x : Nat × List UInt8 => x.1 ≤ l[i] ∧ x.2 ++ numB x.1 = S ++ numB l[i]) (fun x => [(0, .pbox 0 0), (7, .vsl 1 (nv l) tight), (8, .int .i64 l.length), (9, .int .i64 i), (6, .int .u64 (x.1 : Nat))]) (fun x => [.box [.sl 2 0 x.2.length x.2.length false], .gone, .row 1 (AE.bytes x.2)]) (fun x => x.1) (l[i], S) [0, 1, 2] ⟨Nat.le_refl _, rfl⟩ ?_ ?_
    · simp only [Emb, go_sem]
    rintro ⟨n, x⟩ ⟨h1, h2⟩
    simp only at h1 h2
    have hx : x.length + (numB n).length ≤ 1000000 := by have := congrArg List.length h2; simp only [List.length_append] at this; omega
    refine run_ok 4000 _ _ _ _ ?_
    simp (maxSteps := 10000000) only [go_sem]
    refine ⟨fun hm => ?_, fun hm => ?_⟩
    · have hm : 127 < n := by omega
      rw [numB_more hm] at hx
      simp only [List.length_cons] at hx
      refine ⟨by unfold small; omega, (n / 128, x ++ [UInt8.ofNat (128 + n % 128)]), by simp only; omega, ⟨by simp only; omega, by simp only; rw [← h2, numB_more hm]; simp⟩, [0, 1, 3], ?_⟩
      simp only [Emb, go_sem, or128, byte_one, shr7 n (by omega)]
      simp
    · refine run_ok 4000 _ _ _ _ ?_
      simp (maxSteps := 10000000) only [go_sem]
      refine ⟨by unfold small; omega, i + 1, by omega, by omega, [0, 1, 3], ?_⟩
      rw [numB_last (by omega)] at h2
      simp only [Emb, go_sem, byte_last n (by omega), byte_one, inc64 (show i < 1000000000000 by omega), numsB_take l i hlt]
      rw [h2, ← hS]
      have := congrArg List.length h2
      simp at this
      simp [this, ← hS, Nat.add_assoc]
  · refine run_ok 4000 _ _ _ _ ?_
    simp (maxSteps := 10000000) only [go_sem]
    rw [List.take_of_length_le (by omega)]
/-- What is left, the error. -/
def inM (s : List UInt8) (e : Int) : Mem := [.box [.str s, .int .i64 e]]
attribute [go_sem] inM
theorem open_spec (s : List UInt8) : Tri Try.prog 39 [.str s] [] (fun v m => v = .pbox 0 0 ∧ m = inM s 0) := by
  refine (Tri.enter (rl := r39) (code := c39) (by kernel_rfl) Try.func39 rfl c39_ok (by kernel_rfl) (by kernel_rfl) ?_)
  refine run_ok 4000 _ _ _ _ ?_
  simp (maxSteps := 10000000) only [go_sem, c39, r39]
theorem err_spec (s : List UInt8) (e : Int) : Tri Try.prog 42 [.pbox 0 0] (inM s e) (fun v m => v = .int .i64 e ∧ m = inM s e) := by
  refine (Tri.enter (rl := r42) (code := c42) (by kernel_rfl) Try.func42 rfl c42_ok (by kernel_rfl) (by kernel_rfl) ?_)
  refine run_ok 4000 _ _ _ _ ?_
  simp (maxSteps := 10000000) only [go_sem, c42, r42]
theorem ilen_spec (s : List UInt8) (e : Int) : Tri Try.prog 44 [.pbox 0 0] (inM s e) (fun v m => v = .int .i64 s.length ∧ m = inM s e) := by
  refine (Tri.enter (rl := r44) (code := c44) (by kernel_rfl) Try.func44 rfl c44_ok (by kernel_rfl) (by kernel_rfl) ?_)
  refine run_ok 4000 _ _ _ _ ?_
  simp (maxSteps := 10000000) only [go_sem, c44, r44]
def failF (x : List UInt8 × Int) (e : Int) : List UInt8 × Int := if x.2 = 0 ∧ e ≠ 0 then ([], e) else x
theorem fail_spec (s : List UInt8) (e f : Int) : Tri Try.prog 65 [.pbox 0 0, .int .i64 f] (inM s e) (fun v m => v = .tup [] ∧ m = inM (failF (s, e) f).1 (failF (s, e) f).2) := by
  refine (Tri.enter (rl := r65) (code := c65) (by kernel_rfl) Try.func65 rfl c65_ok (by kernel_rfl) (by kernel_rfl) ?_)
  refine run_ok 4000 _ _ _ _ ?_
  simp (maxSteps := 10000000) only [go_sem, c65, r65]
  refine ⟨fun h1 => ⟨fun h2 => ?_, fun h2 => ?_⟩, fun h1 => ?_⟩
  · have h1 : e = 0 := by simpa using h1
    have h2 : f ≠ 0 := by simpa using h2
    simp [failF, h1, h2]
  · have h2 : f = 0 := by simpa using h2
    simp [failF, h2]
  · have h1 : e ≠ 0 := by simpa using h1
    simp [failF, h1]
def rawF (x : List UInt8 × Int) (n : Int) : (List UInt8 × Int) × List UInt8 := if x.2 ≠ 0 ∨ n ≤ 0 then (x, []) else if n > (x.1.length : Int) then (([], 1), []) else ((x.1.drop n.toNat, 0), x.1.take n.toNat)
theorem raw_spec (s : List UInt8) (e n : Int) : Tri Try.prog 75 [.pbox 0 0, .int .i64 n] (inM s e) (fun v m => v = .str (rawF (s, e) n).2 ∧ m = inM (rawF (s, e) n).1.1 (rawF (s, e) n).1.2) := by
  refine (Tri.enter (rl := r75) (code := c75) (by kernel_rfl) Try.func75 rfl c75_ok (by kernel_rfl) (by kernel_rfl) ?_)
  refine run_ok 4000 _ _ _ _ ?_
  simp (maxSteps := 10000000) only [go_sem, c75, r75]
  refine ⟨fun h1 => ?_, fun h1 => ⟨fun h2 => ?_, fun h2 => ⟨fun h3 => ?_, fun h3 => ⟨⟨by omega, by omega⟩, ⟨by omega, by omega⟩, ?_⟩⟩⟩⟩
  · have h1 : e ≠ 0 := by simpa using h1
    simp [rawF, h1]
  · simp [rawF, h2]
  · have h1 : e = 0 := by simpa using h1
    subst h1
    refine sem_call rfl rfl (((fail_spec s 0 1).embed [0] rfl (by repeat' first | exact trivial | rfl | (simp only [go_sem]; done) | constructor) rfl (by first | rfl | simp only [go_sem]) rfl (by simp)).mono ?_)
    rintro _ _ ⟨_, _, ⟨rfl, rfl⟩, rfl, rfl⟩
    refine run_ok 4000 _ _ _ _ ?_
    simp (maxSteps := 10000000) only [go_sem]
    simp [failF, rawF, h2]
    rw [if_pos (by omega)]
    simp
  · have h1 : e = 0 := by simpa using h1
    subst h1
    simp [rawF, h2]
    rw [if_neg (by omega)]
    simp
/-- A number that is taken: its value, what is left, the error. -/
def tk : Nat → Nat → List UInt8 → Nat × List UInt8 × Int
  | _, _, [] => (0, [], 1)
  | k, n, c :: s => if (c.toNat = 0 ∧ 0 < k) ∨ (k = 9 ∧ 1 < c.toNat) then (0, [], 2) else
      if c.toNat < 128 then (n + c.toNat % 128 * 128 ^ k, s, 0) else tk (k + 1) (n + c.toNat % 128 * 128 ^ k) s
def numI (x : List UInt8 × Int) : Nat × List UInt8 × Int := if x.2 ≠ 0 then (0, x.1, x.2) else tk 0 0 x.1
theorem rfl_len1 : (0 : Int) < 1 := by decide
theorem pow128 (k : Nat) : 128 ^ k = 2 ^ (7 * k) := by rw [Nat.pow_mul]
theorem num_bits {n C k : Nat} (hn : n < 128 ^ k) (hk : k ≤ 9) (hC : C < 256) (h9 : k = 9 → C ≤ 1) : n + C % 128 * 128 ^ k < 18446744073709551616 ∧
    ibits .or .u64 (n : Int) (ishl .u64 (iwrap .u64 (ibits .and .u8 (C : Int) 127)) ((7 * k : Nat) : Int)) = ((n + C % 128 * 128 ^ k : Nat) : Int) := by
  have e1 : ibits .and .u8 (C : Int) 127 = ((C % 128 : Nat) : Int) := by
    have key : ∀ x : Nat, x < 256 → ibits .and .u8 (x : Int) 127 = ((x % 128 : Nat) : Int) := by decide +kernel
    exact key C hC
  have hx : C % 128 * 128 ^ k + 128 ^ k ≤ 18446744073709551616 := by
    by_cases h : k = 9
    · have hc1 : C % 128 ≤ 1 := by have := h9 h; omega
      subst h
      have e : (128 : Nat) ^ 9 = 9223372036854775808 := by decide
      rw [e]
      have h3 : C % 128 * 9223372036854775808 ≤ 1 * 9223372036854775808 := Nat.mul_le_mul_right _ hc1
      exact Nat.le_trans (Nat.add_le_add_right h3 _) (by decide)
    · have h2 : 128 ^ k ≤ 72057594037927936 := Nat.le_trans (Nat.pow_le_pow_right (by decide) (show k ≤ 8 by omega)) (by decide)
      have h3 : C % 128 * 128 ^ k ≤ 127 * 72057594037927936 := Nat.mul_le_mul (by omega) h2
      omega
  have hp : 0 < 128 ^ k := Nat.pow_pos (by decide)
  refine ⟨by omega, ?_⟩
  have e2 : iwrap .u64 ((C % 128 : Nat) : Int) = ((C % 128 : Nat) : Int) := by rw [iwrap_u64]; omega
  have e3 : ishl .u64 ((C % 128 : Nat) : Int) ((7 * k : Nat) : Int) = ((C % 128 * 128 ^ k : Nat) : Int) := by
    show iwrap .u64 (((C % 128 : Nat) : Int) * 2 ^ min (((7 * k : Nat) : Int).toNat) 64) = _
    rw [Int.toNat_natCast, Nat.min_eq_left (by omega), pow128, iwrap_u64]
    rw [pow128] at hx
    push_cast at hx ⊢
    exact Int.emod_eq_of_lt (Int.mul_nonneg (by omega) (Int.le_of_lt (Int.pow_pos (by decide)))) (by
      have : ((C % 128 * 2 ^ (7 * k) : Nat) : Int) < 18446744073709551616 := by have : 0 < 2 ^ (7 * k) := Nat.pow_pos (by decide); omega
      push_cast at this; exact this)
  rw [e1, e2, e3]
  show iwrap .u64 ((BitVec.ofInt 64 (n : Int) ||| BitVec.ofInt 64 ((C % 128 * 128 ^ k : Nat) : Int)).toNat : Int) = _
  rw [BitVec.ofInt_natCast, BitVec.ofInt_natCast, BitVec.toNat_or, BitVec.toNat_ofNat, BitVec.toNat_ofNat, Nat.mod_eq_of_lt (show n < 2 ^ 64 by omega), Nat.mod_eq_of_lt (show C % 128 * 128 ^ k < 2 ^ 64 by omega)]
  rw [pow128] at hn ⊢
  have h5 := Nat.two_pow_add_eq_or_of_lt hn (C % 128)
  rw [Nat.mul_comm (C % 128), Nat.or_comm, ← h5, iwrap_u64]
  rw [pow128] at hx
  rw [Nat.mul_comm (C % 128)] at hx
  omega
theorem inum_spec (s : List UInt8) (e : Int) : Tri Try.prog 73 [.pbox 0 0] (inM s e) (fun v m => v = .int .u64 ((numI (s, e)).1 : Nat) ∧ m = inM (numI (s, e)).2.1 (numI (s, e)).2.2) := by
  by_cases he : e = 0
  · subst he
    have hnum : numI (s, 0) = tk 0 0 s := by simp [numI]
    rw [hnum]
    refine Tri.post ?_
    refine (Tri.enter (rl := r73) (code := c73) (by kernel_rfl) Try.func73 rfl c73_ok (by kernel_rfl) (by kernel_rfl) ?_)
    refine run_ok 4000 _ _ _ _ ?_
    simp (maxSteps := 10000000) only [go_sem, c73, r73]
    refine sem_rounds (fun x : Nat × Nat × List UInt8 => x.1 ≤ 9 ∧ x.2.1 < 128 ^ x.1 ∧ tk x.1 x.2.1 x.2.2 = tk 0 0 s) (fun x => [(0, .pbox 0 0), (3, .int .u64 (x.2.1 : Nat)), (4, .int .i64 (7 * x.1 : Nat))])
      (fun x => [.box [.str x.2.2, .int .i64 0]]) (fun x => 10 - x.1) (0, 0, s) [0] ⟨by simp, by simp, rfl⟩ ?_ ?_
    · simp only [Emb, go_sem, Nat.mul_zero]
    rintro ⟨k, n, r⟩ ⟨h1, h2, h3⟩
    simp only at h1 h2 h3
    refine run_ok 4000 _ _ _ _ ?_
    simp (maxSteps := 10000000) only [go_sem]
    cases r with
    | nil =>
      have htk : tk 0 0 s = (0, [], 1) := by rw [← h3]; rfl
      have hr : rawF ([], 0) 1 = (([], 1), []) := by decide
      skip
      refine sem_call rfl rfl (((raw_spec [] 0 1).embed [0] rfl (by repeat' first | exact trivial | rfl | (simp only [go_sem]; done) | constructor) rfl (by first | rfl | simp only [go_sem]) rfl (by simp)).mono ?_)
      rintro _ _ ⟨_, _, ⟨rfl, rfl⟩, rfl, rfl⟩
      refine run_ok 4000 _ _ _ _ ?_
      simp (maxSteps := 10000000) only [go_sem, hr]
      refine ⟨_, _, .sub [0] ?_ .done, rfl, rfl⟩
      simp only [EmbV, go_sem, htk, Int.natCast_zero]
    | cons c r =>
      have hr : rawF (c :: r, 0) 1 = ((r, 0), [c]) := by simp [rawF]; omega
      have hs : sget [c] 0 = (c.toNat : Int) := by simp [sget]
      have hc256 := c.toNat_lt
      generalize hc : c.toNat = C at *
      simp only [tk, hc] at h3
      have hw : iwrap .i64 (((7 * k : Nat) : Int) + 7) = ((7 * (k + 1) : Nat) : Int) := by rw [iwrap_i64_in (by omega)]; omega
      by_cases c0 : C = 0
      · have f1 : ((C : Int) == 0) = true := by simp [c0]
        by_cases k0 : 0 < k
        · have f2 : ((7 * k : Nat) : Int) > 0 := by omega
          rw [if_pos (.inl ⟨c0, k0⟩)] at h3
          skip
          refine sem_call rfl rfl (((raw_spec (c :: r) 0 1).embed [0] rfl (by repeat' first | exact trivial | rfl | (simp only [go_sem]; done) | constructor) rfl (by first | rfl | simp only [go_sem]) rfl (by simp)).mono ?_)
          rintro _ _ ⟨_, _, ⟨rfl, rfl⟩, rfl, rfl⟩
          refine run_ok 4000 _ _ _ _ ?_
          simp (maxSteps := 10000000) only [go_sem, hr, hs, f1, f2, rfl_len1]
          refine sem_call rfl rfl (((fail_spec r 0 2).embed [0] rfl (by repeat' first | exact trivial | rfl | (simp only [go_sem]; done) | constructor) rfl (by first | rfl | simp only [go_sem]) rfl (by simp)).mono ?_)
          rintro _ _ ⟨_, _, ⟨rfl, rfl⟩, rfl, rfl⟩
          refine run_ok 4000 _ _ _ _ ?_
          simp (maxSteps := 10000000) only [go_sem, hr, hs, f1, f2, rfl_len1]
          refine ⟨_, _, .sub [0] ?_ .done, rfl, rfl⟩
          simp only [EmbV, go_sem, ← h3, failF, Int.natCast_zero]
          all_goals simp
        · have f2 : ¬ ((7 * k : Nat) : Int) > 0 := by omega
          have f3 : (((7 * k : Nat) : Int) == 63) = false := by simp; omega
          rw [if_neg (by omega)] at h3
          obtain ⟨hb, hor⟩ := num_bits (C := C) h2 h1 (by omega) (by omega)
          skip
          refine sem_call rfl rfl (((raw_spec (c :: r) 0 1).embed [0] rfl (by repeat' first | exact trivial | rfl | (simp only [go_sem]; done) | constructor) rfl (by first | rfl | simp only [go_sem]) rfl (by simp)).mono ?_)
          rintro _ _ ⟨_, _, ⟨rfl, rfl⟩, rfl, rfl⟩
          refine run_ok 4000 _ _ _ _ ?_
          simp (maxSteps := 10000000) only [go_sem, hr, hs, f1, f2, f3, hor, hw, rfl_len1]
          refine ⟨by omega, fun hlt => ?_, fun hge => ?_⟩
          · rw [if_pos (by omega)] at h3
            refine ⟨_, _, .sub [0] ?_ .done, rfl, rfl⟩
            simp only [EmbV, go_sem, ← h3]
          · rw [if_neg (by omega)] at h3
            refine ⟨(k + 1, n + C % 128 * 128 ^ k, r), by simp only; omega, ⟨by simp only; omega, ?_, h3⟩, [0], ?_⟩
            · simp only
              rw [Nat.pow_succ]
              have hp : 0 < 128 ^ k := Nat.pow_pos (by decide)
              have : C % 128 * 128 ^ k ≤ 127 * 128 ^ k := Nat.mul_le_mul_right _ (by omega)
              omega
            · simp only [Emb, go_sem]
      · have f1 : ((C : Int) == 0) = false := by simp [c0]
        by_cases k9 : k = 9
        · have f3 : (((7 * k : Nat) : Int) == 63) = true := by simp [k9]
          by_cases c1 : 1 < C
          · have f4 : (C : Int) > 1 := by omega
            rw [if_pos (.inr ⟨k9, c1⟩)] at h3
            skip
            refine sem_call rfl rfl (((raw_spec (c :: r) 0 1).embed [0] rfl (by repeat' first | exact trivial | rfl | (simp only [go_sem]; done) | constructor) rfl (by first | rfl | simp only [go_sem]) rfl (by simp)).mono ?_)
            rintro _ _ ⟨_, _, ⟨rfl, rfl⟩, rfl, rfl⟩
            refine run_ok 4000 _ _ _ _ ?_
            simp (maxSteps := 10000000) only [go_sem, hr, hs, f1, f3, f4, rfl_len1]
            refine sem_call rfl rfl (((fail_spec r 0 2).embed [0] rfl (by repeat' first | exact trivial | rfl | (simp only [go_sem]; done) | constructor) rfl (by first | rfl | simp only [go_sem]) rfl (by simp)).mono ?_)
            rintro _ _ ⟨_, _, ⟨rfl, rfl⟩, rfl, rfl⟩
            refine run_ok 4000 _ _ _ _ ?_
            simp (maxSteps := 10000000) only [go_sem, hr, hs, f1, f3, f4, rfl_len1]
            refine ⟨_, _, .sub [0] ?_ .done, rfl, rfl⟩
            simp only [EmbV, go_sem, ← h3, failF, Int.natCast_zero]
            all_goals simp
          · have f4 : ¬ (C : Int) > 1 := by omega
            rw [if_neg (by omega)] at h3
            obtain ⟨hb, hor⟩ := num_bits (C := C) h2 h1 (by omega) (by omega)
            skip
            refine sem_call rfl rfl (((raw_spec (c :: r) 0 1).embed [0] rfl (by repeat' first | exact trivial | rfl | (simp only [go_sem]; done) | constructor) rfl (by first | rfl | simp only [go_sem]) rfl (by simp)).mono ?_)
            rintro _ _ ⟨_, _, ⟨rfl, rfl⟩, rfl, rfl⟩
            refine run_ok 4000 _ _ _ _ ?_
            simp (maxSteps := 10000000) only [go_sem, hr, hs, f1, f3, f4, hor, hw, rfl_len1]
            refine ⟨by omega, fun hlt => ?_, fun hge => ?_⟩
            · rw [if_pos (by omega)] at h3
              refine ⟨_, _, .sub [0] ?_ .done, rfl, rfl⟩
              simp only [EmbV, go_sem, ← h3]
            · rw [if_neg (by omega)] at h3
              refine ⟨(k + 1, n + C % 128 * 128 ^ k, r), by simp only; omega, ⟨by simp only; omega, ?_, h3⟩, [0], ?_⟩
              · simp only
                rw [Nat.pow_succ]
                have hp : 0 < 128 ^ k := Nat.pow_pos (by decide)
                have : C % 128 * 128 ^ k ≤ 127 * 128 ^ k := Nat.mul_le_mul_right _ (by omega)
                omega
              · simp only [Emb, go_sem]
        · have f3 : (((7 * k : Nat) : Int) == 63) = false := by simp; omega
          rw [if_neg (by omega)] at h3
          obtain ⟨hb, hor⟩ := num_bits (C := C) h2 h1 (by omega) (by omega)
          skip
          refine sem_call rfl rfl (((raw_spec (c :: r) 0 1).embed [0] rfl (by repeat' first | exact trivial | rfl | (simp only [go_sem]; done) | constructor) rfl (by first | rfl | simp only [go_sem]) rfl (by simp)).mono ?_)
          rintro _ _ ⟨_, _, ⟨rfl, rfl⟩, rfl, rfl⟩
          refine run_ok 4000 _ _ _ _ ?_
          simp (maxSteps := 10000000) only [go_sem, hr, hs, f1, f3, hor, hw, rfl_len1]
          refine ⟨by omega, fun hlt => ?_, fun hge => ?_⟩
          · rw [if_pos (by omega)] at h3
            refine ⟨_, _, .sub [0] ?_ .done, rfl, rfl⟩
            simp only [EmbV, go_sem, ← h3]
          · rw [if_neg (by omega)] at h3
            refine ⟨(k + 1, n + C % 128 * 128 ^ k, r), by simp only; omega, ⟨by simp only; omega, ?_, h3⟩, [0], ?_⟩
            · simp only
              rw [Nat.pow_succ]
              have hp : 0 < 128 ^ k := Nat.pow_pos (by decide)
              have : C % 128 * 128 ^ k ≤ 127 * 128 ^ k := Nat.mul_le_mul_right _ (by omega)
              omega
            · simp only [Emb, go_sem]
  · skip
    have hnum : numI (s, e) = (0, s, e) := by simp [numI, he]
    rw [hnum]
    have he' : (e != 0) = true := by simp [he]
    have hr : rawF (s, e) 1 = ((s, e), []) := by simp [rawF, he]
    refine Tri.post ?_
    refine (Tri.enter (rl := r73) (code := c73) (by kernel_rfl) Try.func73 rfl c73_ok (by kernel_rfl) (by kernel_rfl) ?_)
    refine run_ok 4000 _ _ _ _ ?_
    simp (maxSteps := 10000000) only [go_sem, c73, r73]
    refine sem_rounds (fun x : Unit => True) (fun x => [(0, .pbox 0 0), (3, .int .u64 0), (4, .int .i64 0)])
      (fun x => [.box [.str s, .int .i64 e]]) (fun x => 0) () [0] trivial ?_ ?_
    · simp only [Emb, go_sem]
    rintro _ _
    skip
    refine run_ok 4000 _ _ _ _ ?_
    simp (maxSteps := 10000000) only [go_sem, he', hr]
    refine sem_call rfl rfl (((raw_spec s e 1).embed [0] rfl (by repeat' first | exact trivial | rfl | (simp only [go_sem]; done) | constructor) rfl (by first | rfl | simp only [go_sem]) rfl (by simp)).mono ?_)
    rintro _ _ ⟨_, _, ⟨rfl, rfl⟩, rfl, rfl⟩
    refine run_ok 4000 _ _ _ _ ?_
    simp (maxSteps := 10000000) only [go_sem, he', hr]
    refine ⟨_, _, .sub [0] ?_ .done, rfl, rfl⟩
    simp only [EmbV, go_sem, Int.natCast_zero]
theorem tk_lt : ∀ (s : List UInt8) (k n : Nat), k ≤ 9 → n < 128 ^ k → (tk k n s).1 < 18446744073709551616
  | [], k, n, _, _ => by simp [tk]
  | c :: s, k, n, hk, hn => by
    simp only [tk]
    split
    · simp
    · rename_i hb
      have hC := c.toNat_lt
      obtain ⟨h1, _⟩ := num_bits (C := c.toNat) hn hk hC (by omega)
      split
      · exact h1
      · refine tk_lt s (k + 1) _ (by omega) ?_
        rw [Nat.pow_succ]
        have hp : 0 < 128 ^ k := Nat.pow_pos (by decide)
        have : c.toNat % 128 * 128 ^ k ≤ 127 * 128 ^ k := Nat.mul_le_mul_right _ (by omega)
        omega
theorem numI_lt (x : List UInt8 × Int) : (numI x).1 < 18446744073709551616 := by
  unfold numI
  split
  · simp
  · exact tk_lt _ _ _ (by omega) (by simp)
/-- A whole number of the one that stands for it. -/
def sg (n : Nat) : Int := if n % 2 = 0 then (n / 2 : Nat) else -((n / 2 : Nat) : Int) - 1
theorem sg_bits {n : Nat} (h : n < 18446744073709551616) : ibits .xor .i64 (iwrap .i64 (ishr .u64 (n : Int) 1)) (iwrap .i64 (-(iwrap .i64 (ibits .and .u64 (n : Int) 1)))) = sg n := by
  have e1 : ishr .u64 (n : Int) 1 = ((n / 2 : Nat) : Int) := by
    show (n : Int).fdiv (2 ^ min (Int.toNat 1) 64) = _
    rw [show (2 : Int) ^ min (Int.toNat 1) 64 = 2 by decide, Int.fdiv_eq_ediv_of_nonneg _ (by omega)]; omega
  have e2 : iwrap .i64 ((n / 2 : Nat) : Int) = ((n / 2 : Nat) : Int) := iwrap_i64_in (by omega)
  have e3 : ibits .and .u64 (n : Int) 1 = ((n % 2 : Nat) : Int) := by
    show iwrap .u64 ((BitVec.ofInt 64 (n : Int) &&& BitVec.ofInt 64 ((1 : Nat) : Int)).toNat : Int) = _
    rw [BitVec.ofInt_natCast, BitVec.ofInt_natCast, BitVec.toNat_and, BitVec.toNat_ofNat, BitVec.toNat_ofNat, Nat.mod_eq_of_lt (show n < 2 ^ 64 by omega), Nat.mod_eq_of_lt (show 1 < 2 ^ 64 by omega), Nat.and_one_is_mod, iwrap_u64]
    omega
  have e4 : iwrap .i64 ((n % 2 : Nat) : Int) = ((n % 2 : Nat) : Int) := iwrap_i64_in (by omega)
  have e5 : iwrap .i64 (-((n % 2 : Nat) : Int)) = -((n % 2 : Nat) : Int) := iwrap_i64_in (by omega)
  rw [e1, e2, e3, e4, e5]
  generalize hq : n / 2 = q
  have hq2 : q < 9223372036854775808 := by omega
  unfold sg
  rw [hq]
  split
  · rename_i h0
    rw [h0]
    show iwrap .i64 ((BitVec.ofInt 64 (q : Int) ^^^ BitVec.ofInt 64 (-((0 : Nat) : Int))).toNat : Int) = _
    rw [show (-((0 : Nat) : Int)) = ((0 : Nat) : Int) by decide, BitVec.ofInt_natCast, BitVec.ofInt_natCast, BitVec.toNat_xor, BitVec.toNat_ofNat, BitVec.toNat_ofNat, Nat.mod_eq_of_lt (show q < 2 ^ 64 by omega)]
    simp
    exact iwrap_i64_in (by omega)
  · rename_i h0
    rw [show n % 2 = 1 by omega]
    show iwrap .i64 ((BitVec.ofInt 64 (q : Int) ^^^ BitVec.ofInt 64 (-((1 : Nat) : Int))).toNat : Int) = _
    rw [show BitVec.ofInt 64 (-((1 : Nat) : Int)) = BitVec.allOnes 64 by decide, BitVec.xor_allOnes, BitVec.toNat_not, BitVec.ofInt_natCast, BitVec.toNat_ofNat, Nat.mod_eq_of_lt (show q < 2 ^ 64 by omega), iwrap_i64]
    have : ((2 ^ 64 - 1 - q : Nat) : Int) = 18446744073709551615 - (q : Int) := by omega
    rw [this]
    split <;> omega
theorem iint_spec (s : List UInt8) (e : Int) : Tri Try.prog 64 [.pbox 0 0] (inM s e) (fun v m => v = .int .i64 (sg (numI (s, e)).1) ∧ m = inM (numI (s, e)).2.1 (numI (s, e)).2.2) := by
  have hb := sg_bits (numI_lt (s, e))
  rw [← Int.zero_sub] at hb
  skip
  refine (Tri.enter (rl := r64) (code := c64) (by kernel_rfl) Try.func64 rfl c64_ok (by kernel_rfl) (by kernel_rfl) ?_)
  refine run_ok 4000 _ _ _ _ ?_
  simp (maxSteps := 10000000) only [go_sem, c64, r64, hb]
  refine sem_call rfl rfl (((inum_spec s e).embed [0] rfl (by repeat' first | exact trivial | rfl | (simp only [go_sem]; done) | constructor) rfl (by first | rfl | simp only [go_sem]) rfl (by simp)).mono ?_)
  rintro _ _ ⟨_, _, ⟨rfl, rfl⟩, rfl, rfl⟩
  refine run_ok 4000 _ _ _ _ ?_
  simp (maxSteps := 10000000) only [go_sem, hb]
theorem otext_spec (s : List UInt8) : Tri Try.prog 50 [.pbox 0 0] (outM s) (fun v m => v = .str s ∧ m = outM s) := by
  skip
  refine (Tri.enter (rl := r50) (code := c50) (by kernel_rfl) Try.func50 rfl c50_ok (by kernel_rfl) (by kernel_rfl) ?_)
  refine run_ok 4000 _ _ _ _ ?_
  simp (maxSteps := 10000000) only [go_sem, c50, r50, bytes_to]
  exact bytes_all s
/-- Four bytes, the lowest first. -/
def word4 (n : Int) : List UInt8 := [UInt8.ofNat (n % 256).toNat, UInt8.ofNat (n / 256 % 256).toNat, UInt8.ofNat (n / 65536 % 256).toNat, UInt8.ofNat (n / 16777216 % 256).toNat]
def CRC (s : List UInt8) : Int := inv32 (crcF (inv32 0) s)
theorem crc_u32 (s : List UInt8) : 0 ≤ CRC s ∧ CRC s < 4294967296 := by
  have h : ∀ x, 0 ≤ inv32 x ∧ inv32 x < 4294967296 := fun x => by
    show 0 ≤ iwrap .u32 _ ∧ iwrap .u32 _ < 4294967296
    rw [iwrap_u32]; omega
  exact h _
def sealB (s : List UInt8) : List UInt8 := 7 :: (word4 (CRC (7 :: s)) ++ s)
def unsealF (s : List UInt8) : List UInt8 × Int := if s.length < 5 then ([], 1) else if s.getD 0 0 ≠ 7 then ([], 6) else if sealB (s.drop 5) ≠ s then ([], 5) else (s.drop 5, 0)
theorem five {s : List UInt8} (h : 5 ≤ s.length) : ∃ a b c d f r, s = a :: b :: c :: d :: f :: r := by
  match s, h with
  | a :: b :: c :: d :: f :: r, _ => exact ⟨a, b, c, d, f, r, rfl⟩
theorem seqb_iff (x y : List UInt8) : seqb x y = decide (x = y) := by
  simp only [seqb]; by_cases h : x = y <;> simp [h]
theorem unsealF_long (a b c d f : UInt8) (r : List UInt8) : unsealF (a :: b :: c :: d :: f :: r) = if a ≠ 7 then ([], 6) else if [b, c, d, f] ≠ word4 (CRC (7 :: r)) then ([], 5) else (r, 0) := by
  unfold unsealF
  rw [if_neg (by simp)]
  simp only [List.getD_cons_zero, List.drop_succ_cons, List.drop_zero]
  by_cases ha : a = 7
  · subst ha
    simp only [ne_eq, not_true, if_false]
    have : (sealB r = 7 :: b :: c :: d :: f :: r) ↔ ([b, c, d, f] = word4 (CRC (7 :: r))) := by
      simp only [sealB, word4, List.cons_append, List.nil_append, List.cons.injEq, true_and, and_true]
      constructor
      · rintro ⟨h1, h2, h3, h4⟩; exact ⟨h1.symm, h2.symm, h3.symm, h4.symm⟩
      · rintro ⟨h1, h2, h3, h4⟩; exact ⟨h1.symm, h2.symm, h3.symm, h4.symm⟩
    simp only [this]
  · simp only [ne_eq, ha, not_false_eq_true, if_true]
theorem unseal_seal (s : List UInt8) : unsealF (sealB s) = (s, 0) := by
  obtain ⟨b, c, d, f, hw⟩ : ∃ b c d f, word4 (CRC (7 :: s)) = [b, c, d, f] := ⟨_, _, _, _, rfl⟩
  have : sealB s = 7 :: b :: c :: d :: f :: s := by unfold sealB; rw [hw]; rfl
  rw [this, unsealF_long, hw]
  simp
theorem sealB_len (s : List UInt8) : (sealB s).length = s.length + 5 := by simp [sealB, word4]
theorem tk_num : ∀ (s : List UInt8) (k n v : Nat) (r : List UInt8), tk k n s = (v, r, 0) → ∃ m, s = numB m ++ r ∧ v = n + m * 128 ^ k ∧ (0 < k → 0 < m)
  | [], k, n, v, r, h => by simp [tk] at h
  | c :: s, k, n, v, r, h => by
    simp only [tk] at h
    have hC := c.toNat_lt
    split at h
    · simp at h
    · rename_i hb
      split at h
      · rename_i hlt
        simp only [Prod.mk.injEq] at h
        obtain ⟨rfl, rfl, _⟩ := h
        refine ⟨c.toNat, ?_, by rw [Nat.mod_eq_of_lt hlt], fun hk => by omega⟩
        rw [numB_last (by omega)]
        simp
      · rename_i hge
        obtain ⟨m, h1, h2, h3⟩ := tk_num s (k + 1) _ v r h
        have hm := h3 (by omega)
        refine ⟨c.toNat % 128 + 128 * m, ?_, ?_, fun _ => by omega⟩
        · rw [numB_more (by omega), show (c.toNat % 128 + 128 * m) % 128 = c.toNat % 128 by omega, show (c.toNat % 128 + 128 * m) / 128 = m by omega, show 128 + c.toNat % 128 = c.toNat by omega]
          simp [h1]
        · rw [h2, Nat.pow_succ, Nat.add_mul, Nat.add_assoc]
          congr 2
          rw [Nat.mul_comm 128 m, Nat.mul_assoc, Nat.mul_comm 128]
theorem tk_err : ∀ (s : List UInt8) (k n : Nat), (tk k n s).2.2 ≠ 0 → (tk k n s).1 = 0
  | [], k, n, h => rfl
  | c :: s, k, n, h => by
    simp only [tk] at h ⊢
    split
    · rfl
    · rename_i hb
      rw [if_neg hb] at h
      split
      · rename_i hlt; rw [if_pos hlt] at h; simp at h
      · rename_i hge; rw [if_neg hge] at h; exact tk_err s _ _ h
theorem ofNat_byte {a b : Int} (ha : 0 ≤ a ∧ a < 256) (hb : 0 ≤ b ∧ b < 256) (h : UInt8.ofNat a.toNat = UInt8.ofNat b.toNat) : a = b := by
  have := congrArg UInt8.toNat h
  rw [UInt8.toNat_ofNat', UInt8.toNat_ofNat'] at this
  omega
theorem word4_inj {a b : Int} (ha : 0 ≤ a ∧ a < 4294967296) (hb : 0 ≤ b ∧ b < 4294967296) (h : word4 a = word4 b) : a = b := by
  simp only [word4, List.cons.injEq, and_true] at h
  obtain ⟨h1, h2, h3, h4⟩ := h
  have e1 := ofNat_byte (by omega) (by omega) h1
  have e2 := ofNat_byte (by omega) (by omega) h2
  have e3 := ofNat_byte (by omega) (by omega) h3
  have e4 := ofNat_byte (by omega) (by omega) h4
  omega
theorem CRC_tell (s : List UInt8) (i : Nat) (hi : i < s.length) (b : UInt8) (hb : b ≠ s[i]) : CRC (s.set i b) ≠ CRC s := by
  intro h
  unfold CRC at h
  rw [show inv32 0 = w32 4294967295#32 by decide] at h
  obtain ⟨x, hx⟩ := crcF_g (s.set i b) 4294967295#32
  obtain ⟨y, hy⟩ := crcF_g s 4294967295#32
  rw [hx, hy] at h
  have := inv32_inj h
  subst this
  exact crc_tell s i hi b hb _ (hx.trans hy.symm)
theorem bent (S : List UInt8) (j : Nat) (hj : j < (sealB S).length) (b : UInt8) (hb : b ≠ (sealB S)[j]) :
    (unsealF ((sealB S).set j b)).1 = [] ∧ ((unsealF ((sealB S).set j b)).2 = 5 ∨ (j = 0 ∧ (unsealF ((sealB S).set j b)).2 = 6)) := by
  obtain ⟨a1, a2, a3, a4, hw⟩ : ∃ b c d f, word4 (CRC (7 :: S)) = [b, c, d, f] := ⟨_, _, _, _, rfl⟩
  have hs : sealB S = 7 :: a1 :: a2 :: a3 :: a4 :: S := by unfold sealB; rw [hw]; rfl
  generalize sealB S = D at *
  subst hs
  match j, hj, hb with
  | 0, _, hb =>
    have hb : b ≠ 7 := hb
    simp only [List.set_cons_zero]
    rw [unsealF_long, if_pos hb]
    simp
  | 1, _, hb =>
    have hb : b ≠ a1 := hb
    simp only [List.set_cons_zero, List.set_cons_succ]
    rw [unsealF_long, if_neg (by simp), hw, if_pos (by simp [hb])]
    exact ⟨rfl, .inl rfl⟩
  | 2, _, hb =>
    have hb : b ≠ a2 := hb
    simp only [List.set_cons_zero, List.set_cons_succ]
    rw [unsealF_long, if_neg (by simp), hw, if_pos (by simp [hb])]
    exact ⟨rfl, .inl rfl⟩
  | 3, _, hb =>
    have hb : b ≠ a3 := hb
    simp only [List.set_cons_zero, List.set_cons_succ]
    rw [unsealF_long, if_neg (by simp), hw, if_pos (by simp [hb])]
    exact ⟨rfl, .inl rfl⟩
  | 4, _, hb =>
    have hb : b ≠ a4 := hb
    simp only [List.set_cons_zero, List.set_cons_succ]
    rw [unsealF_long, if_neg (by simp), hw, if_pos (by simp [hb])]
    exact ⟨rfl, .inl rfl⟩
  | j + 5, hj, hb =>
    have hj : j < S.length := by simp only [List.length_cons] at hj; omega
    have hb : b ≠ S[j] := by simpa using hb
    simp only [List.set_cons_succ]
    have ht := CRC_tell (7 :: S) (j + 1) (by simp; omega) b (by simpa using hb)
    rw [List.set_cons_succ] at ht
    have hne : [a1, a2, a3, a4] ≠ word4 (CRC (7 :: S.set j b)) := fun h => ht (word4_inj (crc_u32 _) (crc_u32 _) (by rw [hw, ← h]))
    rw [unsealF_long, if_neg (by simp), if_pos hne]
    exact ⟨rfl, .inl rfl⟩
theorem xor_ne {a b : UInt8} (h : b ≠ 0) : a ^^^ b ≠ a := by
  intro h'
  apply h
  have : a ^^^ (a ^^^ b) = a ^^^ a := by rw [h']
  simpa [← UInt8.xor_assoc] using this
def zg (k : Int) : Nat := if 0 ≤ k then (2 * k).toNat else (-2 * k - 1).toNat
def I64 (k : Int) : Prop := -9223372036854775808 ≤ k ∧ k ≤ 9223372036854775807
theorem zg_lt {k : Int} (h : I64 k) : zg k < 18446744073709551616 := by unfold zg I64 at *; split <;> omega
theorem sg_zg {k : Int} (h : I64 k) : sg (zg k) = k := by
  unfold sg zg I64 at *
  split <;> split <;> omega
theorem zg_bits {k : Int} (h : I64 k) : ibits .xor .u64 (ishl .u64 (iwrap .u64 k) 1) (iwrap .u64 (ishr .i64 k 63)) = (zg k : Int) := by
  have e0 : ishr .i64 k 63 = k / 9223372036854775808 := by
    show k.fdiv (2 ^ min (Int.toNat 63) 64) = _
    rw [show (2 : Int) ^ min (Int.toNat 63) 64 = 9223372036854775808 by decide, Int.fdiv_eq_ediv_of_nonneg _ (by omega)]
  have e1 : ∀ x : Int, ishl .u64 x 1 = (x * 2) % 18446744073709551616 := fun x => by
    show iwrap .u64 (x * 2 ^ min (Int.toNat 1) 64) = _
    rw [show (2 : Int) ^ min (Int.toNat 1) 64 = 2 by decide, iwrap_u64]
  unfold I64 at h
  rw [e0, e1, iwrap_u64, iwrap_u64]
  unfold zg
  by_cases hk : 0 ≤ k
  · rw [if_pos hk]
    obtain ⟨n, rfl⟩ : ∃ n : Nat, k = (n : Int) := ⟨k.toNat, by omega⟩
    rw [show ((n : Int) % 18446744073709551616 * 2 % 18446744073709551616) = ((2 * n : Nat) : Int) by omega, show ((n : Int) / 9223372036854775808 % 18446744073709551616) = ((0 : Nat) : Int) by omega]
    show iwrap .u64 ((BitVec.ofInt 64 ((2 * n : Nat) : Int) ^^^ BitVec.ofInt 64 ((0 : Nat) : Int)).toNat : Int) = _
    rw [BitVec.ofInt_natCast, BitVec.ofInt_natCast, BitVec.toNat_xor, BitVec.toNat_ofNat, BitVec.toNat_ofNat, Nat.mod_eq_of_lt (show 2 * n < 2 ^ 64 by omega), iwrap_u64]
    simp
    omega
  · rw [if_neg hk]
    obtain ⟨n, hn⟩ : ∃ n : Nat, -2 * k - 1 = (n : Int) := ⟨(-2 * k - 1).toNat, by omega⟩
    rw [show (k % 18446744073709551616 * 2 % 18446744073709551616) = ((18446744073709551615 - n : Nat) : Int) by omega, show (k / 9223372036854775808 % 18446744073709551616) = ((18446744073709551615 : Nat) : Int) by omega]
    show iwrap .u64 ((BitVec.ofInt 64 ((18446744073709551615 - n : Nat) : Int) ^^^ BitVec.ofInt 64 ((18446744073709551615 : Nat) : Int)).toNat : Int) = _
    rw [show BitVec.ofInt 64 ((18446744073709551615 : Nat) : Int) = BitVec.allOnes 64 by decide, BitVec.xor_allOnes, BitVec.toNat_not, BitVec.ofInt_natCast, BitVec.toNat_ofNat, Nat.mod_eq_of_lt (show 18446744073709551615 - n < 2 ^ 64 by omega), iwrap_u64, hn]
    omega
theorem tk_put : ∀ (m k n : Nat) (r : List UInt8), k ≤ 9 → (0 < k → 0 < m) → m * 128 ^ k < 18446744073709551616 → tk k n (numB m ++ r) = (n + m * 128 ^ k, r, 0)
  | m, k, n, r, hk, hm, hb => by
    by_cases h : 127 < m
    · have hk9 : k ≠ 9 := by
        rintro rfl
        have : 128 * 128 ^ 9 ≤ m * 128 ^ 9 := Nat.mul_le_mul_right _ h
        have e : (128 : Nat) * 128 ^ 9 = 1180591620717411303424 := by decide
        rw [e] at this
        exact absurd (Nat.lt_of_le_of_lt this hb) (by decide)
      have hc : (UInt8.ofNat (128 + m % 128)).toNat = 128 + m % 128 := by rw [UInt8.toNat_ofNat']; omega
      rw [numB_more h, List.cons_append, tk, hc, if_neg (by omega), if_neg (by omega), tk_put (m / 128) (k + 1) _ r (by omega) (fun _ => by omega) (by
        rw [Nat.pow_succ]
        have : m / 128 * (128 ^ k * 128) = m / 128 * 128 * 128 ^ k := by rw [Nat.mul_comm (128 ^ k), ← Nat.mul_assoc]
        rw [this]
        exact Nat.lt_of_le_of_lt (Nat.mul_le_mul_right _ (Nat.div_mul_le_self m 128)) hb)]
      congr 1
      rw [Nat.pow_succ, Nat.mul_comm (128 ^ k), ← Nat.mul_assoc, Nat.add_assoc, ← Nat.add_mul]
      congr 2
      omega
    · have hc : (UInt8.ofNat m).toNat = m := by rw [UInt8.toNat_ofNat']; omega
      rw [numB_last (by omega), List.cons_append, List.nil_append, tk, hc]
      have h9 : ¬ (k = 9 ∧ 1 < m) := by
        rintro ⟨rfl, h1⟩
        have : 2 * 128 ^ 9 ≤ m * 128 ^ 9 := Nat.mul_le_mul_right _ h1
        have e : (2 : Nat) * 128 ^ 9 = 18446744073709551616 := by decide
        rw [e] at this
        exact absurd (Nat.lt_of_le_of_lt this hb) (by decide)
      rw [if_neg (by omega), if_pos (by omega), Nat.mod_eq_of_lt (by omega)]
termination_by m => m
theorem numI_put (m : Nat) (r : List UInt8) (h : m < 18446744073709551616) : numI (numB m ++ r, 0) = (m, r, 0) := by
  have := tk_put m 0 0 r (by omega) (by omega) (by simpa using h)
  simpa [numI] using this
theorem oint_spec (l : List Int) (tight : Bool) (s : List UInt8) (hl : ∀ n ∈ l, I64 n) (hs : s.length + 10 * l.length ≤ 1000000) :
    Tri Try.prog 49 [.pbox 0 0, .vsl 1 (iv .i64 l) tight] (outM s) (fun v m => v = .pbox 0 0 ∧ m = outM2 (s ++ numsB (l.map zg))) := by
  unfold outM outM2
  refine Tri.post ?_
  refine (Tri.enter (rl := r49) (code := c49) (by kernel_rfl) Try.func49 rfl c49_ok (by kernel_rfl) (by kernel_rfl) ?_)
  refine run_ok 4000 _ _ _ _ ?_
  simp (maxSteps := 10000000) only [go_sem, c49, r49]
  refine sem_move 1 rfl ?_
  simp (maxSteps := 10000000) only [go_sem]
  refine sem_rounds (fun i : Nat => i ≤ l.length) (fun i => [(0, .pbox 0 0), (7, .vsl 1 (iv .i64 l) tight), (8, .int .i64 l.length), (9, .int .i64 (i : Nat))])
    (fun i => [.box [.sl 2 0 (s ++ numsB ((l.take i).map zg)).length (s ++ numsB ((l.take i).map zg)).length false], .gone, .row 1 (AE.bytes (s ++ numsB ((l.take i).map zg)))]) (fun i => l.length - i) 0 [0, 1, 2] (Nat.zero_le _) ?_ ?_
  · simp only [Emb, go_sem, iv_len]; simp [numsB]
  intro i hi
  refine run_ok 4000 _ _ _ _ ?_
  simp (maxSteps := 10000000) only [go_sem]
  refine ⟨fun hlt => ?_, fun hge => ?_⟩
  · have hlt : i < l.length := by omega
    have hin : (i : Int) < (l.length : Int) := by omega
    have h64 := hl _ (List.getElem_mem hlt)
    have hz := zg_bits h64
    have hlen : (numsB ((l.take i).map zg)).length ≤ 10 * i := by
      have := numsB_len ((l.take i).map zg) (by intro n hn; obtain ⟨k, hk, rfl⟩ := List.mem_map.1 hn; exact zg_lt (hl k (List.mem_of_mem_take hk)))
      rw [List.length_map, List.length_take] at this; omega
    have hnext : (s ++ numsB ((l.take i).map zg)) ++ numsB [zg l[i]] = s ++ numsB ((l.take (i + 1)).map zg) := by
      rw [List.take_succ_eq_append_getElem hlt, List.map_append, List.append_assoc]
      simp [numsB]
    have hcall := wNum_spec [zg l[i]] true (s ++ numsB ((l.take i).map zg)) (by intro n hn; simp at hn; rw [hn]; exact zg_lt h64) (by rw [List.length_append]; simp only [List.length_cons, List.length_nil]; omega)
    rw [hnext] at hcall
    skip
    simp (maxSteps := 10000000) only [go_sem, iv_len, iv_rint hlt, iv_hasI hlt, hin, hz, Int.natCast_nonneg, inc64 (show i < 1000000000000 by omega)]
    refine sem_call rfl rfl (((hcall).embed [0, 2] rfl (by repeat' first | exact trivial | rfl | (simp only [go_sem]; done) | constructor) rfl (by first | rfl | simp only [go_sem]) rfl (by simp)).mono ?_)
    rintro _ _ ⟨_, _, ⟨rfl, rfl⟩, rfl, rfl⟩
    refine run_ok 4000 _ _ _ _ ?_
    simp (maxSteps := 10000000) only [go_sem, iv_len, iv_rint hlt, iv_hasI hlt, hin, hz, Int.natCast_nonneg, inc64 (show i < 1000000000000 by omega)]
    refine ⟨i + 1, by omega, hlt, [0, 1, 3], ?_⟩
    simp only [Emb, go_sem]
  · have ht : l.take i = l := List.take_of_length_le (by omega)
    skip
    refine run_ok 4000 _ _ _ _ ?_
    simp (maxSteps := 10000000) only [go_sem, ht]
    refine ⟨_, _, .sub [0, 1, 2] ?_ .done, rfl, rfl⟩
    simp only [EmbV, go_sem, ht]
def posN (n : Int) : Nat := (max n 0).toNat
theorem posN_cvt {n : Int} (h : I64 n) : iwrap .u64 (if 0 > n then 0 else n) = (posN n : Int) := by unfold posN I64 at *; rw [iwrap_u64]; split <;> omega
theorem posN_lt {n : Int} (h : I64 n) : posN n < 18446744073709551616 := by unfold posN I64 at *; omega
theorem ocount_spec (l : List Int) (tight : Bool) (s : List UInt8) (hl : ∀ n ∈ l, I64 n) (hs : s.length + 10 * l.length ≤ 1000000) :
    Tri Try.prog 48 [.pbox 0 0, .vsl 1 (iv .i64 l) tight] (outM s) (fun v m => v = .pbox 0 0 ∧ m = outM2 (s ++ numsB (l.map posN))) := by
  unfold outM outM2
  refine Tri.post ?_
  refine (Tri.enter (rl := r48) (code := c48) (by kernel_rfl) Try.func48 rfl c48_ok (by kernel_rfl) (by kernel_rfl) ?_)
  refine run_ok 4000 _ _ _ _ ?_
  simp (maxSteps := 10000000) only [go_sem, c48, r48]
  refine sem_move 1 rfl ?_
  simp (maxSteps := 10000000) only [go_sem]
  refine sem_rounds (fun i : Nat => i ≤ l.length) (fun i => [(0, .pbox 0 0), (7, .vsl 1 (iv .i64 l) tight), (8, .int .i64 l.length), (9, .int .i64 (i : Nat))])
    (fun i => [.box [.sl 2 0 (s ++ numsB ((l.take i).map posN)).length (s ++ numsB ((l.take i).map posN)).length false], .gone, .row 1 (AE.bytes (s ++ numsB ((l.take i).map posN)))]) (fun i => l.length - i) 0 [0, 1, 2] (Nat.zero_le _) ?_ ?_
  · simp only [Emb, go_sem, iv_len]; simp [numsB]
  intro i hi
  refine run_ok 4000 _ _ _ _ ?_
  simp (maxSteps := 10000000) only [go_sem]
  refine ⟨fun hlt => ?_, fun hge => ?_⟩
  · have hlt : i < l.length := by omega
    have hin : (i : Int) < (l.length : Int) := by omega
    have h64 := hl _ (List.getElem_mem hlt)
    have hz := posN_cvt h64
    have hlen : (numsB ((l.take i).map posN)).length ≤ 10 * i := by
      have := numsB_len ((l.take i).map posN) (by intro n hn; obtain ⟨k, hk, rfl⟩ := List.mem_map.1 hn; exact posN_lt (hl k (List.mem_of_mem_take hk)))
      rw [List.length_map, List.length_take] at this; omega
    have hnext : (s ++ numsB ((l.take i).map posN)) ++ numsB [posN l[i]] = s ++ numsB ((l.take (i + 1)).map posN) := by
      rw [List.take_succ_eq_append_getElem hlt, List.map_append, List.append_assoc]
      simp [numsB]
    have hcall := wNum_spec [posN l[i]] true (s ++ numsB ((l.take i).map posN)) (by intro n hn; simp at hn; rw [hn]; exact posN_lt h64) (by rw [List.length_append]; simp only [List.length_cons, List.length_nil]; omega)
    rw [hnext] at hcall
    skip
    simp (maxSteps := 10000000) only [go_sem, iv_len, iv_rint hlt, iv_hasI hlt, hin, hz, Int.natCast_nonneg, inc64 (show i < 1000000000000 by omega)]
    refine sem_call rfl rfl (((hcall).embed [0, 2] rfl (by repeat' first | exact trivial | rfl | (simp only [go_sem]; done) | constructor) rfl (by first | rfl | simp only [go_sem]) rfl (by simp)).mono ?_)
    rintro _ _ ⟨_, _, ⟨rfl, rfl⟩, rfl, rfl⟩
    refine run_ok 4000 _ _ _ _ ?_
    simp (maxSteps := 10000000) only [go_sem, iv_len, iv_rint hlt, iv_hasI hlt, hin, hz, Int.natCast_nonneg, inc64 (show i < 1000000000000 by omega)]
    refine ⟨i + 1, by omega, hlt, [0, 1, 3], ?_⟩
    simp only [Emb, go_sem]
  · have ht : l.take i = l := List.take_of_length_le (by omega)
    skip
    refine run_ok 4000 _ _ _ _ ?_
    simp (maxSteps := 10000000) only [go_sem, ht]
    refine ⟨_, _, .sub [0, 1, 2] ?_ .done, rfl, rfl⟩
    simp only [EmbV, go_sem, ht]
def strB (s : List UInt8) : List UInt8 := numB s.length ++ s
def strsB (l : List (List UInt8)) : List UInt8 := (l.map strB).flatten
theorem strsB_take {l : List (List UInt8)} {i : Nat} (h : i < l.length) : strsB (l.take (i + 1)) = strsB (l.take i) ++ strB l[i] := by
  unfold strsB; rw [List.take_succ_eq_append_getElem h, List.map_append, List.flatten_append]; simp
theorem strsB_len (l : List (List UInt8)) (i : Nat) : (strsB (l.take i)).length ≤ (strsB l).length := by
  have : strsB l = strsB (l.take i) ++ strsB (l.drop i) := by
    unfold strsB; rw [← List.flatten_append, ← List.map_append, List.take_append_drop]
  rw [this, List.length_append]; omega
def countF (x : List UInt8 × Int) (most : Int) : (List UInt8 × Int) × Int :=
  if ((numI x).1 : Int) > (posN most : Int) then (failF (numI x).2 3, 0) else ((numI x).2, ((numI x).1 : Int))
theorem icount_spec (s : List UInt8) (e most : Int) (hm : I64 most) : Tri Try.prog 63 [.pbox 0 0, .int .i64 most] (inM s e)
    (fun v m => v = .int .i64 (countF (s, e) most).2 ∧ m = inM (countF (s, e) most).1.1 (countF (s, e) most).1.2) := by
  have hz := posN_cvt hm
  skip
  refine (Tri.enter (rl := r63) (code := c63) (by kernel_rfl) Try.func63 rfl c63_ok (by kernel_rfl) (by kernel_rfl) ?_)
  refine run_ok 4000 _ _ _ _ ?_
  simp (maxSteps := 10000000) only [go_sem, c63, r63, hz]
  refine sem_call rfl rfl (((inum_spec s e).embed [0] rfl (by repeat' first | exact trivial | rfl | (simp only [go_sem]; done) | constructor) rfl (by first | rfl | simp only [go_sem]) rfl (by simp)).mono ?_)
  rintro _ _ ⟨_, _, ⟨rfl, rfl⟩, rfl, rfl⟩
  refine run_ok 4000 _ _ _ _ ?_
  simp (maxSteps := 10000000) only [go_sem, hz]
  refine ⟨fun h => ?_, fun h => ?_⟩
  · have hc : countF (s, e) most = (failF (numI (s, e)).2 3, 0) := by unfold countF; rw [if_pos h]
    refine sem_call rfl rfl (((fail_spec (numI (s, e)).2.1 (numI (s, e)).2.2 3).embed [0] rfl (by repeat' first | exact trivial | rfl | (simp only [go_sem]; done) | constructor) rfl (by first | rfl | simp only [go_sem]) rfl (by simp)).mono ?_)
    rintro _ _ ⟨_, _, ⟨rfl, rfl⟩, rfl, rfl⟩
    refine run_ok 4000 _ _ _ _ ?_
    simp (maxSteps := 10000000) only [go_sem, hz]
    rw [hc]
    exact ⟨rfl, rfl⟩
  · have hc : countF (s, e) most = ((numI (s, e)).2, ((numI (s, e)).1 : Int)) := by unfold countF; rw [if_neg h]
    have hp : (posN most : Int) ≤ 9223372036854775807 := by unfold posN I64 at *; omega
    rw [hc, iwrap_i64_in (by omega)]
    exact ⟨rfl, rfl⟩
def strF (x : List UInt8 × Int) (most : Int) : (List UInt8 × Int) × List UInt8 := rawF (countF x most).1 (countF x most).2
def endF (x : List UInt8 × Int) : List UInt8 × Int := if x.1 ≠ [] then failF x 2 else x
theorem iend_spec (s : List UInt8) (e : Int) : Tri Try.prog 46 [.pbox 0 0] (inM s e) (fun v m => v = .int .i64 (endF (s, e)).2 ∧ m = inM (endF (s, e)).1 (endF (s, e)).2) := by
  have hq := seqb_iff s []
  by_cases hs : s = []
  · have h1 : seqb s [] = true := by rw [hq]; exact decide_eq_true hs
    have h2 : endF (s, e) = (s, e) := by simp [endF, hs]
    skip
    refine (Tri.enter (rl := r46) (code := c46) (by kernel_rfl) Try.func46 rfl c46_ok (by kernel_rfl) (by kernel_rfl) ?_)
    refine run_ok 4000 _ _ _ _ ?_
    simp (maxSteps := 10000000) only [go_sem, c46, r46, h1, h2]
  · have h1 : seqb s [] = false := by rw [hq]; exact decide_eq_false hs
    have h2 : endF (s, e) = failF (s, e) 2 := by simp [endF, hs]
    skip
    refine (Tri.enter (rl := r46) (code := c46) (by kernel_rfl) Try.func46 rfl c46_ok (by kernel_rfl) (by kernel_rfl) ?_)
    refine run_ok 4000 _ _ _ _ ?_
    simp (maxSteps := 10000000) only [go_sem, c46, r46, h1, h2]
    refine sem_call rfl rfl (((fail_spec s e 2).embed [0] rfl (by repeat' first | exact trivial | rfl | (simp only [go_sem]; done) | constructor) rfl (by first | rfl | simp only [go_sem]) rfl (by simp)).mono ?_)
    rintro _ _ ⟨_, _, ⟨rfl, rfl⟩, rfl, rfl⟩
    refine run_ok 4000 _ _ _ _ ?_
    simp (maxSteps := 10000000) only [go_sem, h1, h2]
theorem rint_spec (k : Int) (h : I64 k) : Tri Try.prog 59 [.int .i64 k] [] (fun v m => v = .str (numB (zg k)) ∧ m = []) := by
  unfold I64 at h
  by_cases hk : 0 ≤ k
  · have e1 : iwrap .u64 (2 * iwrap .u64 k) = (zg k : Int) := by unfold zg; rw [if_pos hk, iwrap_u64, iwrap_u64]; omega
    have hk' : k ≥ 0 := hk
    skip
    refine (Tri.enter (rl := r59) (code := c59) (by kernel_rfl) Try.func59 rfl c59_ok (by kernel_rfl) (by kernel_rfl) ?_)
    refine run_ok 4000 _ _ _ _ ?_
    simp (maxSteps := 10000000) only [go_sem, c59, r59, e1, hk']
    refine sem_call rfl rfl (((rNum_spec (zg k) (zg_lt h)).embed [] rfl trivial rfl rfl rfl (by simp)).mono ?_)
    rintro _ _ ⟨_, _, ⟨rfl, rfl⟩, rfl, rfl⟩
    refine run_ok 4000 _ _ _ _ ?_
    simp (maxSteps := 10000000) only [go_sem, e1, hk']
  · have e0 : iwrap .i64 (k + 1) = k + 1 := iwrap_i64_in (by omega)
    have e2 : iwrap .i64 (0 - (k + 1)) = 0 - (k + 1) := iwrap_i64_in (by omega)
    have e1 : iwrap .u64 (iwrap .u64 (2 * iwrap .u64 (0 - (k + 1))) + 1) = (zg k : Int) := by unfold zg; rw [if_neg hk, iwrap_u64, iwrap_u64, iwrap_u64]; omega
    have hk' : ¬ k ≥ 0 := hk
    skip
    refine (Tri.enter (rl := r59) (code := c59) (by kernel_rfl) Try.func59 rfl c59_ok (by kernel_rfl) (by kernel_rfl) ?_)
    refine run_ok 4000 _ _ _ _ ?_
    simp (maxSteps := 10000000) only [go_sem, c59, r59, e0, e2, e1, hk']
    refine sem_call rfl rfl (((rNum_spec (zg k) (zg_lt h)).embed [] rfl trivial rfl rfl rfl (by simp)).mono ?_)
    rintro _ _ ⟨_, _, ⟨rfl, rfl⟩, rfl, rfl⟩
    refine run_ok 4000 _ _ _ _ ?_
    simp (maxSteps := 10000000) only [go_sem, e0, e2, e1, hk']
theorem rcount_spec (k : Int) (h : I64 k) : Tri Try.prog 56 [.int .i64 k] [] (fun v m => v = .str (numB (posN k)) ∧ m = []) := by
  have hz := posN_cvt h
  skip
  refine (Tri.enter (rl := r56) (code := c56) (by kernel_rfl) Try.func56 rfl c56_ok (by kernel_rfl) (by kernel_rfl) ?_)
  refine run_ok 4000 _ _ _ _ ?_
  simp (maxSteps := 10000000) only [go_sem, c56, r56, hz]
  refine sem_call rfl rfl (((rNum_spec (posN k) (posN_lt h)).embed [] rfl trivial rfl rfl rfl (by simp)).mono ?_)
  rintro _ _ ⟨_, _, ⟨rfl, rfl⟩, rfl, rfl⟩
  refine run_ok 4000 _ _ _ _ ?_
  simp (maxSteps := 10000000) only [go_sem, hz]
theorem strF_put (t r : List UInt8) (h : t.length ≤ 40) : strF (strB t ++ r, 0) 40 = ((r, 0), t) := by
  have h1 : numI (strB t ++ r, 0) = (t.length, t ++ r, 0) := by
    unfold strB
    rw [List.append_assoc]
    exact numI_put _ _ (by omega)
  have h2 : countF (strB t ++ r, 0) 40 = ((t ++ r, 0), (t.length : Int)) := by
    unfold countF
    rw [h1, if_neg (by unfold posN; omega)]
  unfold strF
  rw [h2]
  unfold rawF
  by_cases h0 : t.length = 0
  · have : t = [] := List.length_eq_zero_iff.1 h0
    subst this
    simp
  · have h3 : ¬ ((0 : Int) ≠ 0 ∨ (t.length : Int) ≤ 0) := by omega
    have h4 : ¬ ((t.length : Int) > ((t ++ r).length : Int)) := by rw [List.length_append]; omega
    rw [if_neg h3, if_neg h4]
    simp
theorem rnum_bits {n C k : Nat} (hn : n < 128 ^ k) (hk : k ≤ 9) (hC : C < 256) (h9 : k = 9 → C ≤ 1) :
    iwrap .u64 ((n : Int) + iwrap .u64 (iwrap .u64 ((C : Int).tmod 128) * ((128 ^ k : Nat) : Int))) = ((n + C % 128 * 128 ^ k : Nat) : Int) := by
  obtain ⟨hb, _⟩ := num_bits (C := C) hn hk hC h9
  have e0 : (C : Int).tmod 128 = ((C % 128 : Nat) : Int) := by rw [Int.tmod_eq_emod_of_nonneg (by omega)]; omega
  have e1 : iwrap .u64 ((C % 128 : Nat) : Int) = ((C % 128 : Nat) : Int) := by rw [iwrap_u64]; omega
  have e2 : ((C % 128 : Nat) : Int) * ((128 ^ k : Nat) : Int) = ((C % 128 * 128 ^ k : Nat) : Int) := by push_cast; rfl
  rw [e0, e1, e2]
  have e3 : iwrap .u64 ((C % 128 * 128 ^ k : Nat) : Int) = ((C % 128 * 128 ^ k : Nat) : Int) := by rw [iwrap_u64]; omega
  rw [e3, iwrap_u64]
  omega
theorem rraw_spec (s : List UInt8) (e n : Int) : Tri Try.prog 76 [.agg [.str s, .int .i64 e], .int .i64 n] []
    (fun v m => v = .tup [.agg [.str (rawF (s, e) n).1.1, .int .i64 (rawF (s, e) n).1.2], .str (rawF (s, e) n).2] ∧ m = []) := by
  refine Tri.post ?_
  refine (Tri.enter (rl := r76) (code := c76) (by kernel_rfl) Try.func76 rfl c76_ok (by kernel_rfl) (by kernel_rfl) ?_)
  refine run_ok 4000 _ _ _ _ ?_
  simp (maxSteps := 10000000) only [go_sem, c76, r76]
  refine ⟨fun h1 => ?_, fun h1 => ⟨fun h2 => ?_, fun h2 => ⟨fun h3 => ?_, fun h3 => ?_⟩⟩⟩
  · have h1 : e ≠ 0 := by simpa using h1
    have hr : rawF (s, e) n = ((s, e), []) := by simp [rawF, h1]
    rw [hr]
    refine ⟨_, _, .sub [] ?_ .done, rfl, rfl⟩
    simp only [EmbV, go_sem]
  · have hr : rawF (s, e) n = ((s, e), []) := by simp [rawF, h2]
    rw [hr]
    refine ⟨_, _, .sub [] ?_ .done, rfl, rfl⟩
    simp only [EmbV, go_sem]
  · have h1 : e = 0 := by simpa using h1
    have hr : rawF (s, e) n = (([], 1), []) := by unfold rawF; rw [if_neg (by simp only; omega), if_pos h3]
    rw [hr]
    refine ⟨_, _, .sub [] ?_ .done, rfl, rfl⟩
    simp only [EmbV, go_sem]
  · have h1 : e = 0 := by simpa using h1
    have hr : rawF (s, e) n = ((s.drop n.toNat, 0), s.take n.toNat) := by unfold rawF; rw [if_neg (by simp only; omega), if_neg h3]
    rw [hr]
    have hb : 0 ≤ n ∧ n ≤ (s.length : Int) := ⟨by omega, by omega⟩
    skip
    refine sem_drawG l76_0_ok (by kernel_rfl) ?_
    intro KK hKK
    simp (maxSteps := 10000000) only [go_sem, l76_0, hb.1, hb.2]
    subst hKK
    simp (maxSteps := 10000000) only [go_sem, hb.1, hb.2]
    refine ⟨_, _, .sub [] ?_ .done, rfl, rfl⟩
    simp only [EmbV, go_sem]
theorem rfail_spec (s : List UInt8) (e f : Int) : Tri Try.prog 68 [.agg [.str s, .int .i64 e], .int .i64 f] []
    (fun v m => v = .agg [.str (failF (s, e) f).1, .int .i64 (failF (s, e) f).2] ∧ m = []) := by
  refine Tri.post ?_
  refine (Tri.enter (rl := r68) (code := c68) (by kernel_rfl) Try.func68 rfl c68_ok (by kernel_rfl) (by kernel_rfl) ?_)
  refine run_ok 4000 _ _ _ _ ?_
  simp (maxSteps := 10000000) only [go_sem, c68, r68]
  refine ⟨fun h1 => ⟨fun h2 => ?_, fun h2 => ?_⟩, fun h1 => ?_⟩
  · have h1 : e = 0 := by simpa using h1
    have h2 : f ≠ 0 := by simpa using h2
    rw [show failF (s, e) f = ([], f) by simp [failF, h1, h2]]
    refine ⟨_, _, .sub [] ?_ .done, rfl, rfl⟩
    simp only [EmbV, go_sem]
  · have h2 : f = 0 := by simpa using h2
    rw [show failF (s, e) f = (s, e) by simp [failF, h2]]
    refine ⟨_, _, .sub [] ?_ .done, rfl, rfl⟩
    simp only [EmbV, go_sem]
  · have h1 : e ≠ 0 := by simpa using h1
    rw [show failF (s, e) f = (s, e) by simp [failF, h1]]
    refine ⟨_, _, .sub [] ?_ .done, rfl, rfl⟩
    simp only [EmbV, go_sem]
theorem pow_spec (k : Nat) (hk : k ≤ 9) : Tri Try.prog 77 [.int .i64 (k : Nat)] [] (fun v m => v = .int .u64 (128 ^ k : Nat) ∧ m = []) := by
  refine Tri.post ?_
  refine (Tri.enter (rl := r77) (code := c77) (by kernel_rfl) Try.func77 rfl c77_ok (by kernel_rfl) (by kernel_rfl) ?_)
  refine run_ok 4000 _ _ _ _ ?_
  simp (maxSteps := 10000000) only [go_sem, c77, r77]
  refine sem_rounds (fun i : Nat => i ≤ k) (fun i => [(0, .int .i64 (k : Nat)), (3, .int .u64 (128 ^ i : Nat)), (4, .int .i64 (i : Nat))]) (fun i => []) (fun i => k - i) 0 [] (Nat.zero_le _) ?_ ?_
  · simp only [Emb, go_sem]; simp
  intro i hi
  refine run_ok 4000 _ _ _ _ ?_
  simp (maxSteps := 10000000) only [go_sem]
  refine ⟨fun hlt => ?_, fun hge => ?_⟩
  · have hlt : i < k := by omega
    have hp : 128 ^ (i + 1) ≤ 128 ^ 9 := Nat.pow_le_pow_right (by decide) (by omega)
    have he : (128 : Nat) ^ 9 = 9223372036854775808 := by decide
    have hw : iwrap .u64 (((128 ^ i : Nat) : Int) * 128) = ((128 ^ (i + 1) : Nat) : Int) := by
      rw [Nat.pow_succ] at hp ⊢
      rw [he] at hp
      generalize 128 ^ i = p at *
      rw [iwrap_u64]; omega
    refine ⟨i + 1, by omega, hlt, [], ?_⟩
    simp only [Emb, go_sem, hw, inc64 (show i < 1000000000000 by omega)]
  · have : i = k := by omega
    subst this
    refine run_ok 4000 _ _ _ _ ?_
    simp (maxSteps := 10000000) only [go_sem]
    refine ⟨_, _, .sub [] ?_ .done, rfl, rfl⟩
    simp only [EmbV, go_sem]
theorem rnum_take (s : List UInt8) (e : Int) : Tri Try.prog 74 [.agg [.str s, .int .i64 e]] []
    (fun v m => v = .tup [.agg [.str (numI (s, e)).2.1, .int .i64 (numI (s, e)).2.2], .int .u64 ((numI (s, e)).1 : Nat)] ∧ m = []) := by
  by_cases he : e = 0
  · subst he
    have hnum : numI (s, 0) = tk 0 0 s := by simp [numI]
    rw [hnum]
    refine Tri.post ?_
    refine (Tri.enter (rl := r74) (code := c74) (by kernel_rfl) Try.func74 rfl c74_ok (by kernel_rfl) (by kernel_rfl) ?_)
    refine run_ok 4000 _ _ _ _ ?_
    simp (maxSteps := 10000000) only [go_sem, c74, r74]
    refine sem_rounds (fun x : Nat × Nat × List UInt8 => x.1 ≤ 9 ∧ x.2.1 < 128 ^ x.1 ∧ tk x.1 x.2.1 x.2.2 = tk 0 0 s) (fun x => [(1, .pbox 0 0), (2, .pbox 1 0), (4, .int .u64 (x.2.1 : Nat)), (5, .int .i64 (x.1 : Nat))])
      (fun x => [.box [.str x.2.2, .int .i64 0], .box [.str [], .int .i64 0]]) (fun x => 10 - x.1) (0, 0, s) [0, 1] ⟨by simp, by simp, rfl⟩ ?_ ?_
    · simp only [Emb, go_sem]
    rintro ⟨k, n, r⟩ ⟨h1, h2, h3⟩
    simp only at h1 h2 h3
    have hk11 : (k : Int) < 11 := by omega
    have hinc := inc64 (show k < 1000000000000 by omega)
    cases r with
    | nil =>
      have htk : tk 0 0 s = (0, [], 1) := by rw [← h3]; rfl
      have hr : rawF ([], 0) 1 = (([], 1), []) := by decide
      skip
      refine run_ok 4000 _ _ _ _ ?_
      simp (maxSteps := 10000000) only [go_sem, hr, hk11]
      refine sem_call rfl rfl (((rraw_spec [] 0 1).embed [] rfl trivial rfl rfl rfl (by simp)).mono ?_)
      rintro _ _ ⟨_, _, ⟨rfl, rfl⟩, rfl, rfl⟩
      refine run_ok 4000 _ _ _ _ ?_
      simp (maxSteps := 10000000) only [go_sem, hr, hk11]
      refine ⟨_, _, .sub [] ?_ .done, rfl, rfl⟩
      simp only [EmbV, go_sem, htk, Int.natCast_zero]
    | cons c r =>
      have hr : rawF (c :: r, 0) 1 = ((r, 0), [c]) := by simp [rawF]; omega
      have hs : sget [c] 0 = (c.toNat : Int) := by simp [sget]
      have hc256 := c.toNat_lt
      generalize hc : c.toNat = C at *
      simp only [tk, hc] at h3
      by_cases k0 : 0 < k
      · have g1 : (k : Int) > 0 := by omega
        by_cases c0 : C = 0
        · have g2 : ((C : Int) == 0) = true := by simp [c0]
          rw [if_pos (.inl ⟨c0, k0⟩)] at h3
          skip
          refine run_ok 4000 _ _ _ _ ?_
          simp (maxSteps := 10000000) only [go_sem, hr, hs, hk11, hinc, g1, g2, rfl_len1]
          refine sem_call rfl rfl (((rraw_spec (c :: r) 0 1).embed [] rfl trivial rfl rfl rfl (by simp)).mono ?_)
          rintro _ _ ⟨_, _, ⟨rfl, rfl⟩, rfl, rfl⟩
          refine run_ok 4000 _ _ _ _ ?_
          simp (maxSteps := 10000000) only [go_sem, hr, hs, hk11, hinc, g1, g2, rfl_len1]
          refine ⟨_, _, .sub [] ?_ .done, rfl, rfl⟩
          simp only [EmbV, go_sem, ← h3, Int.natCast_zero]
        · have g2 : ((C : Int) == 0) = false := by simp [c0]
          by_cases k9 : k = 9
          · have g3 : ((k : Int) == 9) = true := by simp [k9]
            by_cases c1 : 1 < C
            · have g4 : (C : Int) > 1 := by omega
              rw [if_pos (.inr ⟨k9, c1⟩)] at h3
              skip
              refine run_ok 4000 _ _ _ _ ?_
              simp (maxSteps := 10000000) only [go_sem, hr, hs, hk11, hinc, g1, g2, g3, g4, rfl_len1]
              refine sem_call rfl rfl (((rraw_spec (c :: r) 0 1).embed [] rfl trivial rfl rfl rfl (by simp)).mono ?_)
              rintro _ _ ⟨_, _, ⟨rfl, rfl⟩, rfl, rfl⟩
              refine run_ok 4000 _ _ _ _ ?_
              simp (maxSteps := 10000000) only [go_sem, hr, hs, hk11, hinc, g1, g2, g3, g4, rfl_len1]
              refine ⟨_, _, .sub [] ?_ .done, rfl, rfl⟩
              simp only [EmbV, go_sem, ← h3, Int.natCast_zero]
            · have g4 : ¬ (C : Int) > 1 := by omega
              rw [if_neg (by omega)] at h3
              have hor := rnum_bits (C := C) h2 h1 (by omega) (by omega)
              skip
              refine run_ok 4000 _ _ _ _ ?_
              simp (maxSteps := 10000000) only [go_sem, hr, hs, hk11, hinc, g1, g2, g3, g4, hor, rfl_len1]
              refine sem_call rfl rfl (((rraw_spec (c :: r) 0 1).embed [] rfl trivial rfl rfl rfl (by simp)).mono ?_)
              rintro _ _ ⟨_, _, ⟨rfl, rfl⟩, rfl, rfl⟩
              refine run_ok 4000 _ _ _ _ ?_
              simp (maxSteps := 10000000) only [go_sem, hr, hs, hk11, hinc, g1, g2, g3, g4, hor, rfl_len1]
              refine sem_drawG l74_0_ok (by kernel_rfl) ?_
              intro KK hKK
              simp (maxSteps := 10000000) only [go_sem, l74_0, hr, hs, hk11, hinc, g1, g2, g3, g4, hor, rfl_len1]
              refine TriZ.of (((pow_spec k h1).embed [] rfl (by repeat' first | exact trivial | rfl | (simp only [go_sem]; done) | constructor) rfl (by first | rfl | simp only [go_sem]) rfl (by simp)).mono ?_)
              rintro _ _ ⟨_, _, ⟨rfl, rfl⟩, rfl, rfl⟩
              simp (maxSteps := 10000000) only [go_sem, hr, hs, hk11, hinc, g1, g2, g3, g4, hor, rfl_len1]
              subst hKK
              simp (maxSteps := 10000000) only [go_sem, hr, hs, hk11, hinc, g1, g2, g3, g4, hor, rfl_len1]
              refine ⟨fun hlt => ?_, fun hge => ?_⟩
              · rw [if_pos (by omega)] at h3
                refine ⟨_, _, .sub [] ?_ .done, rfl, rfl⟩
                simp only [EmbV, go_sem, ← h3]
              · rw [if_neg (by omega)] at h3
                refine ⟨(k + 1, n + C % 128 * 128 ^ k, r), by simp only; omega, ⟨by simp only; omega, ?_, h3⟩, [0, 1], ?_⟩
                · simp only
                  rw [Nat.pow_succ]
                  have hp : 0 < 128 ^ k := Nat.pow_pos (by decide)
                  have : C % 128 * 128 ^ k ≤ 127 * 128 ^ k := Nat.mul_le_mul_right _ (by omega)
                  omega
                · simp only [Emb, go_sem]
          · have g3 : ((k : Int) == 9) = false := by simp; omega
            rw [if_neg (by omega)] at h3
            have hor := rnum_bits (C := C) h2 h1 (by omega) (by omega)
            skip
            refine run_ok 4000 _ _ _ _ ?_
            simp (maxSteps := 10000000) only [go_sem, hr, hs, hk11, hinc, g1, g2, g3, hor, rfl_len1]
            refine sem_call rfl rfl (((rraw_spec (c :: r) 0 1).embed [] rfl trivial rfl rfl rfl (by simp)).mono ?_)
            rintro _ _ ⟨_, _, ⟨rfl, rfl⟩, rfl, rfl⟩
            refine run_ok 4000 _ _ _ _ ?_
            simp (maxSteps := 10000000) only [go_sem, hr, hs, hk11, hinc, g1, g2, g3, hor, rfl_len1]
            refine sem_drawG l74_0_ok (by kernel_rfl) ?_
            intro KK hKK
            simp (maxSteps := 10000000) only [go_sem, l74_0, hr, hs, hk11, hinc, g1, g2, g3, hor, rfl_len1]
            refine TriZ.of (((pow_spec k h1).embed [] rfl (by repeat' first | exact trivial | rfl | (simp only [go_sem]; done) | constructor) rfl (by first | rfl | simp only [go_sem]) rfl (by simp)).mono ?_)
            rintro _ _ ⟨_, _, ⟨rfl, rfl⟩, rfl, rfl⟩
            simp (maxSteps := 10000000) only [go_sem, hr, hs, hk11, hinc, g1, g2, g3, hor, rfl_len1]
            subst hKK
            simp (maxSteps := 10000000) only [go_sem, hr, hs, hk11, hinc, g1, g2, g3, hor, rfl_len1]
            refine ⟨fun hlt => ?_, fun hge => ?_⟩
            · rw [if_pos (by omega)] at h3
              refine ⟨_, _, .sub [] ?_ .done, rfl, rfl⟩
              simp only [EmbV, go_sem, ← h3]
            · rw [if_neg (by omega)] at h3
              refine ⟨(k + 1, n + C % 128 * 128 ^ k, r), by simp only; omega, ⟨by simp only; omega, ?_, h3⟩, [0, 1], ?_⟩
              · simp only
                rw [Nat.pow_succ]
                have hp : 0 < 128 ^ k := Nat.pow_pos (by decide)
                have : C % 128 * 128 ^ k ≤ 127 * 128 ^ k := Nat.mul_le_mul_right _ (by omega)
                omega
              · simp only [Emb, go_sem]
      · have g1 : ¬ (k : Int) > 0 := by omega
        have g3 : ((k : Int) == 9) = false := by simp; omega
        rw [if_neg (by omega)] at h3
        have hor := rnum_bits (C := C) h2 h1 (by omega) (by omega)
        skip
        refine run_ok 4000 _ _ _ _ ?_
        simp (maxSteps := 10000000) only [go_sem, hr, hs, hk11, hinc, g1, g3, hor, rfl_len1]
        refine sem_call rfl rfl (((rraw_spec (c :: r) 0 1).embed [] rfl trivial rfl rfl rfl (by simp)).mono ?_)
        rintro _ _ ⟨_, _, ⟨rfl, rfl⟩, rfl, rfl⟩
        refine run_ok 4000 _ _ _ _ ?_
        simp (maxSteps := 10000000) only [go_sem, hr, hs, hk11, hinc, g1, g3, hor, rfl_len1]
        refine sem_drawG l74_0_ok (by kernel_rfl) ?_
        intro KK hKK
        simp (maxSteps := 10000000) only [go_sem, l74_0, hr, hs, hk11, hinc, g1, g3, hor, rfl_len1]
        refine TriZ.of (((pow_spec k h1).embed [] rfl (by repeat' first | exact trivial | rfl | (simp only [go_sem]; done) | constructor) rfl (by first | rfl | simp only [go_sem]) rfl (by simp)).mono ?_)
        rintro _ _ ⟨_, _, ⟨rfl, rfl⟩, rfl, rfl⟩
        simp (maxSteps := 10000000) only [go_sem, hr, hs, hk11, hinc, g1, g3, hor, rfl_len1]
        subst hKK
        simp (maxSteps := 10000000) only [go_sem, hr, hs, hk11, hinc, g1, g3, hor, rfl_len1]
        refine ⟨fun hlt => ?_, fun hge => ?_⟩
        · rw [if_pos (by omega)] at h3
          refine ⟨_, _, .sub [] ?_ .done, rfl, rfl⟩
          simp only [EmbV, go_sem, ← h3]
        · rw [if_neg (by omega)] at h3
          refine ⟨(k + 1, n + C % 128 * 128 ^ k, r), by simp only; omega, ⟨by simp only; omega, ?_, h3⟩, [0, 1], ?_⟩
          · simp only
            rw [Nat.pow_succ]
            have hp : 0 < 128 ^ k := Nat.pow_pos (by decide)
            have : C % 128 * 128 ^ k ≤ 127 * 128 ^ k := Nat.mul_le_mul_right _ (by omega)
            omega
          · simp only [Emb, go_sem]
  · skip
    have hnum : numI (s, e) = (0, s, e) := by simp [numI, he]
    rw [hnum]
    have he' : (e != 0) = true := by simp [he]
    have hr : rawF (s, e) 1 = ((s, e), []) := by simp [rawF, he]
    refine Tri.post ?_
    refine (Tri.enter (rl := r74) (code := c74) (by kernel_rfl) Try.func74 rfl c74_ok (by kernel_rfl) (by kernel_rfl) ?_)
    refine run_ok 4000 _ _ _ _ ?_
    simp (maxSteps := 10000000) only [go_sem, c74, r74]
    refine sem_rounds (fun x : Unit => True) (fun x => [(1, .pbox 0 0), (2, .pbox 1 0), (4, .int .u64 0), (5, .int .i64 0)])
      (fun x => [.box [.str s, .int .i64 e], .box [.str [], .int .i64 0]]) (fun x => 0) () [0, 1] trivial ?_ ?_
    · simp only [Emb, go_sem]
    rintro _ _
    skip
    refine run_ok 4000 _ _ _ _ ?_
    simp (maxSteps := 10000000) only [go_sem, he', hr]
    refine sem_call rfl rfl (((rraw_spec s e 1).embed [] rfl trivial rfl rfl rfl (by simp)).mono ?_)
    rintro _ _ ⟨_, _, ⟨rfl, rfl⟩, rfl, rfl⟩
    refine run_ok 4000 _ _ _ _ ?_
    simp (maxSteps := 10000000) only [go_sem, he', hr]
    refine ⟨_, _, .sub [] ?_ .done, rfl, rfl⟩
    simp only [EmbV, go_sem, Int.natCast_zero]
theorem rtakeInt_spec (s : List UInt8) (e : Int) : Tri Try.prog 67 [.agg [.str s, .int .i64 e]] []
    (fun v m => v = .tup [.agg [.str (numI (s, e)).2.1, .int .i64 (numI (s, e)).2.2], .int .i64 (sg (numI (s, e)).1)] ∧ m = []) := by
  refine Tri.post ?_
  have hlt := numI_lt (s, e)
  have hnt := rnum_take s e
  generalize numI (s, e) = R at *
  obtain ⟨n, r, f⟩ := R
  simp only at hlt hnt
  have q1 : ((n : Int).tmod 2 == 1) = decide (n % 2 = 1) := by
    rw [Int.tmod_eq_emod_of_nonneg (by omega), Bool.eq_iff_iff]; simp; omega
  have q2 : iwrap .i64 (iwrap .u64 ((n : Int).tdiv 2)) = ((n / 2 : Nat) : Int) := by
    rw [Int.tdiv_eq_ediv_of_nonneg (by omega), iwrap_u64, iwrap_i64_in (by omega)]; omega
  have q3 : iwrap .i64 (iwrap .i64 (0 - ((n / 2 : Nat) : Int)) - 1) = -((n / 2 : Nat) : Int) - 1 := by
    rw [iwrap_i64_in (n := 0 - ((n / 2 : Nat) : Int)) (by omega), iwrap_i64_in (by omega)]; omega
  by_cases ho : n % 2 = 1
  · have q1' : ((n : Int).tmod 2 == 1) = true := by rw [q1]; exact decide_eq_true ho
    have hsg : sg n = -((n / 2 : Nat) : Int) - 1 := by unfold sg; rw [if_neg (by omega)]
    skip
    refine (Tri.enter (rl := r67) (code := c67) (by kernel_rfl) Try.func67 rfl c67_ok (by kernel_rfl) (by kernel_rfl) ?_)
    refine run_ok 4000 _ _ _ _ ?_
    simp (maxSteps := 10000000) only [go_sem, c67, r67, q1', q2, q3]
    refine sem_call rfl rfl (((hnt).embed [] rfl trivial rfl rfl rfl (by simp)).mono ?_)
    rintro _ _ ⟨_, _, ⟨rfl, rfl⟩, rfl, rfl⟩
    refine run_ok 4000 _ _ _ _ ?_
    simp (maxSteps := 10000000) only [go_sem, q1', q2, q3]
    refine ⟨_, _, .sub [] ?_ .done, rfl, rfl⟩
    simp only [EmbV, go_sem, hsg]
  · have q1' : ((n : Int).tmod 2 == 1) = false := by rw [q1]; exact decide_eq_false ho
    have hsg : sg n = ((n / 2 : Nat) : Int) := by unfold sg; rw [if_pos (by omega)]
    skip
    refine (Tri.enter (rl := r67) (code := c67) (by kernel_rfl) Try.func67 rfl c67_ok (by kernel_rfl) (by kernel_rfl) ?_)
    refine run_ok 4000 _ _ _ _ ?_
    simp (maxSteps := 10000000) only [go_sem, c67, r67, q1', q2]
    refine sem_call rfl rfl (((hnt).embed [] rfl trivial rfl rfl rfl (by simp)).mono ?_)
    rintro _ _ ⟨_, _, ⟨rfl, rfl⟩, rfl, rfl⟩
    refine run_ok 4000 _ _ _ _ ?_
    simp (maxSteps := 10000000) only [go_sem, q1', q2]
    refine ⟨_, _, .sub [] ?_ .done, rfl, rfl⟩
    simp only [EmbV, go_sem, hsg]
theorem rtakeCount_spec (s : List UInt8) (e most : Int) (hm : I64 most) : Tri Try.prog 66 [.agg [.str s, .int .i64 e], .int .i64 most] []
    (fun v m => v = .tup [.agg [.str (countF (s, e) most).1.1, .int .i64 (countF (s, e) most).1.2], .int .i64 (countF (s, e) most).2] ∧ m = []) := by
  refine Tri.post ?_
  have hz := posN_cvt hm
  have hnt := rnum_take s e
  have hc : countF (s, e) most = if ((numI (s, e)).1 : Int) > (posN most : Int) then (failF (numI (s, e)).2 3, 0) else ((numI (s, e)).2, ((numI (s, e)).1 : Int)) := rfl
  rw [hc]
  generalize numI (s, e) = R at *
  obtain ⟨n, r, f⟩ := R
  simp only at hnt
  have hp : (posN most : Int) ≤ 9223372036854775807 := by unfold posN I64 at *; omega
  by_cases h : (n : Int) > (posN most : Int)
  · rw [if_pos h]
    skip
    refine (Tri.enter (rl := r66) (code := c66) (by kernel_rfl) Try.func66 rfl c66_ok (by kernel_rfl) (by kernel_rfl) ?_)
    refine run_ok 4000 _ _ _ _ ?_
    simp (maxSteps := 10000000) only [go_sem, c66, r66, hz, h]
    refine sem_call rfl rfl (((hnt).embed [] rfl trivial rfl rfl rfl (by simp)).mono ?_)
    rintro _ _ ⟨_, _, ⟨rfl, rfl⟩, rfl, rfl⟩
    refine run_ok 4000 _ _ _ _ ?_
    simp (maxSteps := 10000000) only [go_sem, hz, h]
    refine sem_call rfl rfl (((rfail_spec r f 3).embed [] rfl trivial rfl rfl rfl (by simp)).mono ?_)
    rintro _ _ ⟨_, _, ⟨rfl, rfl⟩, rfl, rfl⟩
    refine run_ok 4000 _ _ _ _ ?_
    simp (maxSteps := 10000000) only [go_sem, hz, h]
    refine ⟨_, _, .sub [] ?_ .done, rfl, rfl⟩
    simp only [EmbV, go_sem]
  · have hw : iwrap .i64 (n : Int) = (n : Int) := iwrap_i64_in (by omega)
    rw [if_neg h]
    skip
    refine (Tri.enter (rl := r66) (code := c66) (by kernel_rfl) Try.func66 rfl c66_ok (by kernel_rfl) (by kernel_rfl) ?_)
    refine run_ok 4000 _ _ _ _ ?_
    simp (maxSteps := 10000000) only [go_sem, c66, r66, hz, h, hw]
    refine sem_call rfl rfl (((hnt).embed [] rfl trivial rfl rfl rfl (by simp)).mono ?_)
    rintro _ _ ⟨_, _, ⟨rfl, rfl⟩, rfl, rfl⟩
    refine run_ok 4000 _ _ _ _ ?_
    simp (maxSteps := 10000000) only [go_sem, hz, h, hw]
    refine ⟨_, _, .sub [] ?_ .done, rfl, rfl⟩
    simp only [EmbV, go_sem]
def takeS (x : List UInt8 × Int) (k n : Int) : List UInt8 × Int :=
  if k = 1 then (numI x).2 else if k = 2 then (numI x).2 else if k = 3 then (countF x n).1 else if k = 4 then (strF x n).1 else if k = 5 then (rawF x n).1 else if k = 6 then failF x (ibits .and .i64 n 7) else x
theorem tk_row {x : List AV} (h : HasL [.int .i64, .int .i64] x) : ∃ a b, x = [.int .i64 a, .int .i64 b] ∧ I64 b := by
  simp only [HasL, Has] at h
  obtain ⟨_, _, rfl, ⟨a, rfl, _⟩, _, _, rfl, ⟨b, rfl, hb⟩, rfl⟩ := h
  exact ⟨a, b, rfl, by simp [Lit.wf, IntKind.min, IntKind.max, IntKind.bits, IntKind.signed] at hb; unfold I64; omega⟩
end Go.AEX
