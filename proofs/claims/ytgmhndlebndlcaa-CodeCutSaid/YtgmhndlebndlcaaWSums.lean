/- Sums: contracts of the package sums and of its reference. -/
import Derived.Test.YtgmhndlebndlcaaNum
import Derived.Test.YtgmhndlebndlcaaCD
import Derived.Test.YtgmhndlebndlcaaAEzg
import Derived.KernelRfl
namespace Go.AEX
open Go Go.AE Go.Proofs
set_option maxRecDepth 100000
set_option linter.unusedVariables false
set_option linter.unusedSimpArgs false

def fnvS (f : Int) (b : UInt8) : Int := iwrap .u64 (ibits .xor .u64 f (iwrap .u64 b.toNat) * 1099511628211)
def fnvF (f : Int) (s : List UInt8) : Int := s.foldl fnvS f
theorem fnvF_take (f : Int) (s : List UInt8) (i : Nat) (h : i < s.length) : fnvF f (s.take (i + 1)) = fnvS (fnvF f (s.take i)) s[i] := by
  unfold fnvF; rw [List.take_succ_eq_append_getElem h, List.foldl_append]; rfl
theorem sget_at {s : List UInt8} {i : Nat} (h : i < s.length) : sget s (i : Int) = (s[i].toNat : Int) := by
  simp [sget, List.getD_eq_getElem?_getD, h]

theorem sv_len (l : List (List UInt8)) : (sv l).length = l.length := by simp [sv]
theorem sv_hasS {l : List (List UInt8)} {i : Nat} (h : i < l.length) : hasS (sv l) i 0 := ⟨[.str l[i]], l[i], by simp [sv, h], by simp⟩
theorem sv_rstr {l : List (List UInt8)} {i : Nat} (h : i < l.length) : rstr (sv l) i 0 = l[i] := by
  simp [rstr, List.getD_eq_getElem?_getD, sv, h]
def fnvL (f : Int) (l : List (List UInt8)) : Int := l.foldl fnvF f
theorem fnvL_take (f : Int) (l : List (List UInt8)) (i : Nat) (h : i < l.length) : fnvL f (l.take (i + 1)) = fnvF (fnvL f (l.take i)) l[i] := by
  unfold fnvL; rw [List.take_succ_eq_append_getElem h, List.foldl_append]; rfl
theorem cut_spec (s : List UInt8) (n : Int) (hn : 0 ≤ n) : Tri Try.prog 19 [.str s, .int .i64 n] [] (fun v m => v = .str (s.take n.toNat) ∧ m = []) := by
  refine (Tri.enter (rl := r19) (code := c19) (by kernel_rfl) Try.func19 rfl c19_ok (by kernel_rfl) (by kernel_rfl) ?_)
  refine run_ok 4000 _ _ _ _ ?_
  simp (maxSteps := 10000000) only [go_sem, c19, r19]
  refine ⟨fun h => ⟨by omega, ?_⟩, fun h => ?_⟩
  · simp [ssub]
  · rw [List.take_of_length_le (by omega)]
def rowS (x : Int) : Int := if ibits .and .u32 x 1 = 1 then ibits .xor .u32 (ishr .u32 x 1) 3988292384 else ishr .u32 x 1
def rowN : Nat → Int → Int
  | 0, x => x
  | n + 1, x => rowS (rowN n x)
theorem row_spec (x : Int) : Tri Try.prog 69 [.int .u32 x] [] (fun v m => v = .int .u32 (rowN 8 x) ∧ m = []) := by
  refine (Tri.enter (rl := r69) (code := c69) (by kernel_rfl) Try.func69 rfl c69_ok (by kernel_rfl) (by kernel_rfl) ?_)
  refine run_ok 4000 _ _ _ _ ?_
  simp (maxSteps := 10000000) only [go_sem, c69, r69]
  refine sem_rounds (fun i => i ≤ 8) (fun i => [(0, .int .u32 (rowN i x)), (3, .int .i64 (i : Nat))]) (fun i => []) (fun i => 8 - i) 0 [] (Nat.zero_le _) ?_ ?_
  · simp only [Emb, go_sem]; simp; rfl
  intro i hi
  refine run_ok 4000 _ _ _ _ ?_
  simp (maxSteps := 10000000) only [go_sem]
  refine ⟨fun hlt => ⟨fun hb => ?_, fun hb => ?_⟩, fun hge => ?_⟩
  · refine ⟨i + 1, by omega, by omega, [], ?_⟩
    simp only [Emb, go_sem]
    rw [iwrap_i64_in (by omega)]
    simp [rowN, rowS]
    intro h; exact absurd (by simpa using hb) h
  · refine ⟨i + 1, by omega, by omega, [], ?_⟩
    simp only [Emb, go_sem]
    rw [iwrap_i64_in (by omega)]
    simp [rowN, rowS]
    intro h; rw [h] at hb; exact absurd hb (by decide)
  · refine run_ok 4000 _ _ _ _ ?_
    simp (maxSteps := 10000000) only [go_sem]
    rw [show i = 8 by omega]
def crcS (f : Int) (b : UInt8) : Int := ibits .xor .u32 (ishr .u32 f 8) (rowN 8 (ibits .and .u32 (ibits .xor .u32 f (iwrap .u32 b.toNat)) 255))
def crcF (f : Int) (s : List UInt8) : Int := s.foldl crcS f
theorem crcF_take (f : Int) (s : List UInt8) (i : Nat) (h : i < s.length) : crcF f (s.take (i + 1)) = crcS (crcF f (s.take i)) s[i] := by
  unfold crcF; rw [List.take_succ_eq_append_getElem h, List.foldl_append]; rfl
def crcL (f : Int) (l : List (List UInt8)) : Int := l.foldl crcF f
theorem crcL_take (f : Int) (l : List (List UInt8)) (i : Nat) (h : i < l.length) : crcL f (l.take (i + 1)) = crcF (crcL f (l.take i)) l[i] := by
  unfold crcL; rw [List.take_succ_eq_append_getElem h, List.foldl_append]; rfl
def inv32 (x : Int) : Int := ibits .xor .u32 4294967295 x
theorem max32 : (bif IntKind.u32.signed then -1 else IntKind.u32.max) = 4294967295 := by decide
theorem more_spec (f : Int) (l : List (List UInt8)) (tight : Bool) (hl : l.length ≤ 1000000) (hs : ∀ s ∈ l, s.length ≤ 1000000) :
    Tri Try.prog 66 [.int .u32 f, .vsl 1 (sv l) tight] [] (fun v m => v = .int .u32 (inv32 (crcL (inv32 f) l)) ∧ m = []) := by
  refine (Tri.enter (rl := r66) (code := c66) (by kernel_rfl) Try.func66 rfl c66_ok (by kernel_rfl) (by kernel_rfl) ?_)
  refine run_ok 4000 _ _ _ _ ?_
  simp (maxSteps := 10000000) only [go_sem, c66, r66]
  simp only [max32]
  refine sem_rounds (fun i => i ≤ l.length) (fun i => [(10, .vsl 1 (sv l) tight), (11, .int .i64 l.length), (0, .int .u32 (crcL (inv32 f) (l.take i))), (12, .int .i64 (i : Nat))]) (fun i => []) (fun i => l.length - i) 0 [] (Nat.zero_le _) ?_ ?_
  · simp only [Emb, go_sem, sv_len]; simp; rfl
  intro i hi
  refine run_ok 4000 _ _ _ _ ?_
  simp (maxSteps := 10000000) only [go_sem]
  refine ⟨fun hlt => ?_, fun hge => ?_⟩
  · have hlt : i < l.length := by omega
    have e : addi 0 (i : Int) = i := by simp [addi]
    rw [e, sv_rstr hlt, sv_len]
    have hs := hs _ (List.getElem_mem hlt)
    generalize hS : l[i] = s at hs
    refine ⟨by omega, sv_hasS hlt, ?_⟩
    refine sem_rounds (fun j => j ≤ s.length) (fun j => [(10, .vsl 1 (sv l) tight), (11, .int .i64 l.length), (0, .int .u32 (crcF (crcL (inv32 f) (l.take i)) (s.take j))), (12, .int .i64 (i : Nat)), (6, .str s), (17, .int .i64 s.length), (18, .int .i64 (j : Nat))]) (fun j => []) (fun j => s.length - j) 0 [] (Nat.zero_le _) ?_ ?_
    · simp only [Emb, go_sem, sv_len]; simp; rfl
    intro j hj
    refine run_ok 4000 _ _ _ _ ?_
    simp (maxSteps := 10000000) only [go_sem]
    refine ⟨fun hlj => ?_, fun hge => ?_⟩
    · have hlj : j < s.length := by omega
      refine ⟨by omega, ?_⟩
      refine sem_call rfl rfl ((row_spec _).mono ?_)
      rintro _ _ ⟨rfl, rfl⟩
      refine run_ok 4000 _ _ _ _ ?_
      simp (maxSteps := 10000000) only [go_sem]
      refine ⟨j + 1, by omega, by omega, [], ?_⟩
      simp only [Emb, go_sem, crcF_take _ s j hlj, sget_at hlj]
      rw [iwrap_i64_in (by omega)]
      simp [crcS]
    · refine run_ok 4000 _ _ _ _ ?_
      simp (maxSteps := 10000000) only [go_sem]
      refine ⟨i + 1, by omega, by omega, [], ?_⟩
      simp only [Emb, go_sem, crcL_take _ l i hlt]
      rw [iwrap_i64_in (by omega), List.take_of_length_le (show s.length ≤ j by omega), hS]
      simp
  · refine run_ok 4000 _ _ _ _ ?_
    simp (maxSteps := 10000000) only [go_sem]
    rw [List.take_of_length_le (by omega), max32]
    rfl
theorem crc_spec (l : List (List UInt8)) (tight : Bool) (hl : l.length ≤ 1000000) (hs : ∀ s ∈ l, s.length ≤ 1000000) :
    Tri Try.prog 54 [.vsl 1 (sv l) tight] [] (fun v m => v = .int .u32 (inv32 (crcL (inv32 0) l)) ∧ m = []) := by
  refine (Tri.enter (rl := r54) (code := c54) (by kernel_rfl) Try.func54 rfl c54_ok (by kernel_rfl) (by kernel_rfl) ?_)
  refine run_ok 4000 _ _ _ _ ?_
  simp (maxSteps := 10000000) only [go_sem, c54, r54]
  refine sem_call rfl rfl ((more_spec _ l tight hl hs).mono ?_)
  rintro _ _ ⟨rfl, rfl⟩
  refine run_ok 4000 _ _ _ _ ?_
  simp (maxSteps := 10000000) only [go_sem]
/-- A byte more, as the document's reference reckons it. -/
def refR (x : Int × Int) : Int × Int :=
  let s := iwrap .u32 (x.1.tdiv 2)
  (if (iwrap .u32 (x.1 + x.2)).tmod 2 = 1 then ibits .xor .u32 s 3988292384 else s, iwrap .u32 (x.2.tdiv 2))
def refN : Nat → Int × Int → Int × Int
  | 0, x => x
  | n + 1, x => refR (refN n x)
def refS (f : Int) (b : UInt8) : Int := (refN 8 (f, iwrap .u32 b.toNat)).1
def refF (f : Int) (s : List UInt8) : Int := s.foldl refS f
theorem refF_take (f : Int) (s : List UInt8) (i : Nat) (h : i < s.length) : refF f (s.take (i + 1)) = refS (refF f (s.take i)) s[i] := by
  unfold refF; rw [List.take_succ_eq_append_getElem h, List.foldl_append]; rfl
theorem rCrc_spec (s : List UInt8) (hs : s.length ≤ 1000000) : Tri Try.prog 55 [.str s] [] (fun v m => v = .int .u32 (iwrap .u32 (4294967295 - refF 4294967295 s)) ∧ m = []) := by
  refine (Tri.enter (rl := r55) (code := c55) (by kernel_rfl) Try.func55 rfl c55_ok (by kernel_rfl) (by kernel_rfl) ?_)
  refine run_ok 4000 _ _ _ _ ?_
  simp (maxSteps := 10000000) only [go_sem, c55, r55]
  refine sem_rounds (fun i => i ≤ s.length) (fun i => [(0, .str s), (3, .int .u32 (refF 4294967295 (s.take i))), (4, .int .i64 (i : Nat))]) (fun i => []) (fun i => s.length - i) 0 [] (Nat.zero_le _) ?_ ?_
  · simp only [Emb, go_sem]; simp; rfl
  intro i hi
  refine run_ok 4000 _ _ _ _ ?_
  simp (maxSteps := 10000000) only [go_sem]
  refine ⟨fun hlt => ?_, fun hge => ?_⟩
  · have hlt : i < s.length := by omega
    refine ⟨by omega, ?_⟩
    rw [sget_at hlt]
    generalize hF : refF 4294967295 (s.take i) = F
    generalize hB : iwrap .u32 (s[i].toNat : Int) = B
    refine sem_rounds (fun j => j ≤ 8) (fun j => [(0, .str s), (3, .int .u32 (refN j (F, B)).1), (5, .int .u32 (refN j (F, B)).2), (4, .int .i64 (i : Nat)), (6, .int .i64 (j : Nat))]) (fun j => []) (fun j => 8 - j) 0 [] (Nat.zero_le _) ?_ ?_
    · simp only [Emb, go_sem]; simp; exact ⟨rfl, rfl⟩
    intro j hj
    refine run_ok 4000 _ _ _ _ ?_
    simp (maxSteps := 10000000) only [go_sem]
    refine ⟨fun hlj => ⟨fun hb => ?_, fun hb => ?_⟩, fun hge => ?_⟩
    · refine ⟨j + 1, by omega, by omega, [], ?_⟩
      simp only [Emb, go_sem]
      rw [iwrap_i64_in (by omega)]
      simp [refN, refR]
      intro h; exact absurd (by simpa using hb) h
    · refine ⟨j + 1, by omega, by omega, [], ?_⟩
      simp only [Emb, go_sem]
      rw [iwrap_i64_in (by omega)]
      simp [refN, refR]
      intro h; rw [h] at hb; exact absurd hb (by decide)
    · refine run_ok 4000 _ _ _ _ ?_
      simp (maxSteps := 10000000) only [go_sem]
      refine ⟨i + 1, by omega, by omega, [], ?_⟩
      simp only [Emb, go_sem, refF_take _ s i hlt]
      rw [iwrap_i64_in (by omega), show j = 8 by omega]
      simp [refS, hF, hB]
  · refine run_ok 4000 _ _ _ _ ?_
    simp (maxSteps := 10000000) only [go_sem]
    rw [List.take_of_length_le (by omega)]
end Go.AEX
