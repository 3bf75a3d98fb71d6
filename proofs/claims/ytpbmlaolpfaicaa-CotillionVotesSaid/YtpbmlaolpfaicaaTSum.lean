/- Turned to this seat by turn.py: WSums.lean WCrc.lean. -/
import Derived.Test.YtpbmlaolpfaicaaNum
import Derived.Test.YtpbmlaolpfaicaaCG
import Derived.Test.YtpbmlaolpfaicaaAEzg
import Derived.KernelRfl
namespace Go.AEX
open Go Go.AE Go.Proofs
set_option maxRecDepth 100000
set_option linter.unusedVariables false
set_option linter.unusedSimpArgs false

theorem sget_at {s : List UInt8} {i : Nat} (h : i < s.length) : sget s (i : Int) = (s[i].toNat : Int) := by
  simp [sget, List.getD_eq_getElem?_getD, h]
theorem sv_len (l : List (List UInt8)) : (sv l).length = l.length := by simp [sv]
theorem sv_hasS {l : List (List UInt8)} {i : Nat} (h : i < l.length) : hasS (sv l) i 0 := ⟨[.str l[i]], l[i], by simp [sv, h], by simp⟩
theorem sv_rstr {l : List (List UInt8)} {i : Nat} (h : i < l.length) : rstr (sv l) i 0 = l[i] := by
  simp [rstr, List.getD_eq_getElem?_getD, sv, h]
def rowS (x : Int) : Int := if ibits .and .u32 x 1 = 1 then ibits .xor .u32 (ishr .u32 x 1) 3988292384 else ishr .u32 x 1
def rowN : Nat → Int → Int
  | 0, x => x
  | n + 1, x => rowS (rowN n x)
theorem row_spec (x : Int) : Tri Try.prog 126 [.int .u32 x] [] (fun v m => v = .int .u32 (rowN 8 x) ∧ m = []) := by
  refine (Tri.enter (rl := r126) (code := c126) (by kernel_rfl) Try.func126 rfl c126_ok (by kernel_rfl) (by kernel_rfl) ?_)
  refine run_ok 4000 _ _ _ _ ?_
  simp (maxSteps := 10000000) only [go_sem, c126, r126]
  refine sem_rounds (fun i => i ≤ 8) (fun i => [(0, .int .u32 (rowN i x)), (3, .int .i64 (i : Nat))]) (fun i => []) (fun i => 8 - i) 0 [] (Nat.zero_le _) ?_ ?_
  · simp only [Emb, go_sem]; simp; rfl
  intro i hi
  refine run_ok 4000 _ _ _ _ ?_
  simp (maxSteps := 10000000) only [go_sem]
  refine ⟨fun hlt => ⟨fun hb => ?_, fun hb => ?_⟩, fun hge => ?_⟩
  · refine ⟨i + 1, by omega, by omega, [], ?_⟩
    simp only [Emb, go_sem]
    rw [iwrap_i64_in (by omega)]
    simp [rowN, rowS]
    intro h; exact absurd (by simpa using hb) h
  · refine ⟨i + 1, by omega, by omega, [], ?_⟩
    simp only [Emb, go_sem]
    rw [iwrap_i64_in (by omega)]
    simp [rowN, rowS]
    intro h; rw [h] at hb; exact absurd hb (by decide)
  · refine run_ok 4000 _ _ _ _ ?_
    simp (maxSteps := 10000000) only [go_sem]
    rw [show i = 8 by omega]
def crcS (f : Int) (b : UInt8) : Int := ibits .xor .u32 (ishr .u32 f 8) (rowN 8 (ibits .and .u32 (ibits .xor .u32 f (iwrap .u32 b.toNat)) 255))
def crcF (f : Int) (s : List UInt8) : Int := s.foldl crcS f
theorem crcF_take (f : Int) (s : List UInt8) (i : Nat) (h : i < s.length) : crcF f (s.take (i + 1)) = crcS (crcF f (s.take i)) s[i] := by
  unfold crcF; rw [List.take_succ_eq_append_getElem h, List.foldl_append]; rfl
def crcL (f : Int) (l : List (List UInt8)) : Int := l.foldl crcF f
theorem crcL_take (f : Int) (l : List (List UInt8)) (i : Nat) (h : i < l.length) : crcL f (l.take (i + 1)) = crcF (crcL f (l.take i)) l[i] := by
  unfold crcL; rw [List.take_succ_eq_append_getElem h, List.foldl_append]; rfl
def inv32 (x : Int) : Int := ibits .xor .u32 4294967295 x
theorem max32 : (bif IntKind.u32.signed then -1 else IntKind.u32.max) = 4294967295 := by decide
theorem more_spec (f : Int) (l : List (List UInt8)) (tight : Bool) (hl : l.length ≤ 1000000) (hs : ∀ s ∈ l, s.length ≤ 1000000) :
    Tri Try.prog 100 [.int .u32 f, .vsl 1 (sv l) tight] [] (fun v m => v = .int .u32 (inv32 (crcL (inv32 f) l)) ∧ m = []) := by
  refine (Tri.enter (rl := r100) (code := c100) (by kernel_rfl) Try.func100 rfl c100_ok (by kernel_rfl) (by kernel_rfl) ?_)
  refine run_ok 4000 _ _ _ _ ?_
  simp (maxSteps := 10000000) only [go_sem, c100, r100]
  simp only [max32]
  refine sem_rounds (fun i => i ≤ l.length) (fun i => [(10, .vsl 1 (sv l) tight), (11, .int .i64 l.length), (0, .int .u32 (crcL (inv32 f) (l.take i))), (12, .int .i64 (i : Nat))]) (fun i => []) (fun i => l.length - i) 0 [] (Nat.zero_le _) ?_ ?_
  · simp only [Emb, go_sem, sv_len]; simp; rfl
  intro i hi
  refine run_ok 4000 _ _ _ _ ?_
  simp (maxSteps := 10000000) only [go_sem]
  refine ⟨fun hlt => ?_, fun hge => ?_⟩
  · have hlt : i < l.length := by omega
    have e : addi 0 (i : Int) = i := by simp [addi]
    rw [e, sv_rstr hlt, sv_len]
    have hs := hs _ (List.getElem_mem hlt)
    generalize hS : l[i] = s at hs
    refine ⟨by omega, sv_hasS hlt, ?_⟩
    refine sem_rounds (fun j => j ≤ s.length) (fun j => [(10, .vsl 1 (sv l) tight), (11, .int .i64 l.length), (0, .int .u32 (crcF (crcL (inv32 f) (l.take i)) (s.take j))), (12, .int .i64 (i : Nat)), (6, .str s), (17, .int .i64 s.length), (18, .int .i64 (j : Nat))]) (fun j => []) (fun j => s.length - j) 0 [] (Nat.zero_le _) ?_ ?_
    · simp only [Emb, go_sem, sv_len]; simp; rfl
    intro j hj
    refine run_ok 4000 _ _ _ _ ?_
    simp (maxSteps := 10000000) only [go_sem]
    refine ⟨fun hlj => ?_, fun hge => ?_⟩
    · have hlj : j < s.length := by omega
      refine ⟨by omega, ?_⟩
      refine sem_call rfl rfl ((row_spec _).mono ?_)
      rintro _ _ ⟨rfl, rfl⟩
      refine run_ok 4000 _ _ _ _ ?_
      simp (maxSteps := 10000000) only [go_sem]
      refine ⟨j + 1, by omega, by omega, [], ?_⟩
      simp only [Emb, go_sem, crcF_take _ s j hlj, sget_at hlj]
      rw [iwrap_i64_in (by omega)]
      simp [crcS]
    · refine run_ok 4000 _ _ _ _ ?_
      simp (maxSteps := 10000000) only [go_sem]
      refine ⟨i + 1, by omega, by omega, [], ?_⟩
      simp only [Emb, go_sem, crcL_take _ l i hlt]
      rw [iwrap_i64_in (by omega), List.take_of_length_le (show s.length ≤ j by omega), hS]
      simp
  · refine run_ok 4000 _ _ _ _ ?_
    simp (maxSteps := 10000000) only [go_sem]
    rw [List.take_of_length_le (by omega), max32]
    rfl
theorem crc_spec (l : List (List UInt8)) (tight : Bool) (hl : l.length ≤ 1000000) (hs : ∀ s ∈ l, s.length ≤ 1000000) :
    Tri Try.prog 52 [.vsl 1 (sv l) tight] [] (fun v m => v = .int .u32 (inv32 (crcL (inv32 0) l)) ∧ m = []) := by
  refine (Tri.enter (rl := r52) (code := c52) (by kernel_rfl) Try.func52 rfl c52_ok (by kernel_rfl) (by kernel_rfl) ?_)
  refine run_ok 4000 _ _ _ _ ?_
  simp (maxSteps := 10000000) only [go_sem, c52, r52]
  refine sem_call rfl rfl ((more_spec _ l tight hl hs).mono ?_)
  rintro _ _ ⟨rfl, rfl⟩
  refine run_ok 4000 _ _ _ _ ?_
  simp (maxSteps := 10000000) only [go_sem]
end Go.AEX
