/- Turned to this seat by turn.py: WWire.lean Wire2.lean Wire3.lean WireS.lean Wire4.lean WireP.lean WireT.lean. -/
import Derived.Test.YtpbmlaolpfaicaaCom
import Derived.Test.YtpbmlaolpfaicaaTSum
import Derived.Test.YtpbmlaolpfaicaaAEzj
import Derived.Test.YtpbmlaolpfaicaaAEsa
namespace Go.AEX
open Go Go.AE Go.Proofs
set_option maxRecDepth 100000
set_option linter.unusedVariables false
set_option linter.unusedSimpArgs false

theorem all_one (n : Int) : allU8 [[.int .u8 n]] := by intro x hx; simp at hx; exact ⟨n, hx⟩
def outM (s : List UInt8) : Mem := [.box [.sl 1 0 s.length s.length false], .row 1 (AE.bytes s)]
def outM2 (s : List UInt8) : Mem := [.box [.sl 2 0 s.length s.length false], .gone, .row 1 (AE.bytes s)]
attribute [go_sem] outM outM2
def inM (s : List UInt8) (e : Int) : Mem := [.box [.str s, .int .i64 e]]
attribute [go_sem] inM
def tk : Nat → Nat → List UInt8 → Nat × List UInt8 × Int
  | _, _, [] => (0, [], 1)
  | k, n, c :: s => if (c.toNat = 0 ∧ 0 < k) ∨ (k = 9 ∧ 1 < c.toNat) then (0, [], 2) else
      if c.toNat < 128 then (n + c.toNat % 128 * 128 ^ k, s, 0) else tk (k + 1) (n + c.toNat % 128 * 128 ^ k) s
def sg (n : Nat) : Int := if n % 2 = 0 then (n / 2 : Nat) else -((n / 2 : Nat) : Int) - 1
def word4 (n : Int) : List UInt8 := [UInt8.ofNat (n % 256).toNat, UInt8.ofNat (n / 256 % 256).toNat, UInt8.ofNat (n / 65536 % 256).toNat, UInt8.ofNat (n / 16777216 % 256).toNat]
theorem word_spec (n : Int) (h : 0 ≤ n ∧ n < 4294967296) : Tri Try.prog 99 [.int .u32 n] [] (fun v m => v = .str (word4 n) ∧ m = []) := by
  have h8 : ishr .u32 n 8 = n / 256 := by
    show n.fdiv (2 ^ min (Int.toNat 8) 32) = _
    rw [show (2 : Int) ^ min (Int.toNat 8) 32 = 256 by decide, Int.fdiv_eq_ediv_of_nonneg _ (by omega)]
  have h16 : ishr .u32 n 16 = n / 65536 := by
    show n.fdiv (2 ^ min (Int.toNat 16) 32) = _
    rw [show (2 : Int) ^ min (Int.toNat 16) 32 = 65536 by decide, Int.fdiv_eq_ediv_of_nonneg _ (by omega)]
  have h24 : ishr .u32 n 24 = n / 16777216 := by
    show n.fdiv (2 ^ min (Int.toNat 24) 32) = _
    rw [show (2 : Int) ^ min (Int.toNat 24) 32 = 16777216 by decide, Int.fdiv_eq_ediv_of_nonneg _ (by omega)]
  have hb : ∀ x : Int, UInt8.ofNat (iwrap .u8 x).toNat = UInt8.ofNat (x % 256).toNat := fun x => by rw [iwrap_u8]
  skip
  refine (Tri.enter (rl := r99) (code := c99) (by kernel_rfl) Try.func99 rfl c99_ok (by kernel_rfl) (by kernel_rfl) ?_)
  refine run_ok 4000 _ _ _ _ ?_
  simp (maxSteps := 10000000) only [go_sem, c99, r99, h8, h16, h24]
  refine ⟨fun x hx => ?_, ?_⟩
  · simp only [List.mem_cons, List.not_mem_nil, or_false] at hx
    rcases hx with rfl | rfl | rfl | rfl <;> exact ⟨_, rfl⟩
  · simp [toBytes, word4, hb]
def CRC (s : List UInt8) : Int := inv32 (crcF (inv32 0) s)
theorem crc_u32 (s : List UInt8) : 0 ≤ CRC s ∧ CRC s < 4294967296 := by
  have h : ∀ x, 0 ≤ inv32 x ∧ inv32 x < 4294967296 := fun x => by
    show 0 ≤ iwrap .u32 _ ∧ iwrap .u32 _ < 4294967296
    rw [iwrap_u32]; omega
  exact h _
theorem crc2_spec (v s : List UInt8) (tight : Bool) (hv : v.length ≤ 1000000) (hs : s.length ≤ 1000000) : Tri Try.prog 52 [.vsl 1 [[.str v], [.str s]] tight] [] (fun x m => x = .int .u32 (CRC (v ++ s)) ∧ m = []) := by
  have h := crc_spec [v, s] tight (by simp) (by intro x hx; simp at hx; rcases hx with rfl | rfl <;> assumption)
  have e : crcL (inv32 0) [v, s] = crcF (inv32 0) (v ++ s) := by simp [crcL, crcF]
  rw [e] at h
  exact h
def sealB (s : List UInt8) : List UInt8 := 7 :: (word4 (CRC (7 :: s)) ++ s)
theorem seal_spec (s : List UInt8) (hs : s.length ≤ 1000000) : Tri Try.prog 51 [.str s] [] (fun v m => v = .str (sealB s) ∧ m = []) := by
  have h7 : toBytes [[AV.int .u8 7]] = [7] := rfl
  skip
  refine (Tri.enter (rl := r51) (code := c51) (by kernel_rfl) Try.func51 rfl c51_ok (by kernel_rfl) (by kernel_rfl) ?_)
  refine run_ok 4000 _ _ _ _ ?_
  simp (maxSteps := 10000000) only [go_sem, c51, r51, h7]
  refine ⟨all_one 7, ?_⟩
  refine sem_call rfl rfl (((crc2_spec [7] s true (by simp) hs).embed [] rfl trivial rfl rfl rfl (by simp)).mono ?_)
  rintro _ _ ⟨_, _, ⟨rfl, rfl⟩, rfl, rfl⟩
  refine run_ok 4000 _ _ _ _ ?_
  simp (maxSteps := 10000000) only [go_sem, h7]
  have hc := crc_u32 (7 :: s)
  refine sem_call rfl rfl (((word_spec (CRC (7 :: s)) hc).embed [] rfl trivial rfl rfl rfl (by simp)).mono ?_)
  rintro _ _ ⟨_, _, ⟨rfl, rfl⟩, rfl, rfl⟩
  refine run_ok 4000 _ _ _ _ ?_
  simp (maxSteps := 10000000) only [go_sem, h7]
  have hl : (word4 (CRC (7 :: s))).length = 4 := rfl
  exact ⟨by omega, by omega, rfl⟩
def unsealF (s : List UInt8) : List UInt8 × Int := if s.length < 5 then ([], 1) else if s.getD 0 0 ≠ 7 then ([], 6) else if sealB (s.drop 5) ≠ s then ([], 5) else (s.drop 5, 0)
theorem five {s : List UInt8} (h : 5 ≤ s.length) : ∃ a b c d f r, s = a :: b :: c :: d :: f :: r := by
  match s, h with
  | a :: b :: c :: d :: f :: r, _ => exact ⟨a, b, c, d, f, r, rfl⟩
theorem seqb_iff (x y : List UInt8) : seqb x y = decide (x = y) := by
  simp only [seqb]; by_cases h : x = y <;> simp [h]
theorem unsealF_long (a b c d f : UInt8) (r : List UInt8) : unsealF (a :: b :: c :: d :: f :: r) = if a ≠ 7 then ([], 6) else if [b, c, d, f] ≠ word4 (CRC (7 :: r)) then ([], 5) else (r, 0) := by
  unfold unsealF
  rw [if_neg (by simp)]
  simp only [List.getD_cons_zero, List.drop_succ_cons, List.drop_zero]
  by_cases ha : a = 7
  · subst ha
    simp only [ne_eq, not_true, if_false]
    have : (sealB r = 7 :: b :: c :: d :: f :: r) ↔ ([b, c, d, f] = word4 (CRC (7 :: r))) := by
      simp only [sealB, word4, List.cons_append, List.nil_append, List.cons.injEq, true_and, and_true]
      constructor
      · rintro ⟨h1, h2, h3, h4⟩; exact ⟨h1.symm, h2.symm, h3.symm, h4.symm⟩
      · rintro ⟨h1, h2, h3, h4⟩; exact ⟨h1.symm, h2.symm, h3.symm, h4.symm⟩
    simp only [this]
  · simp only [ne_eq, ha, not_false_eq_true, if_true]
theorem unseal_spec (s : List UInt8) (hs : s.length ≤ 1000000) : Tri Try.prog 50 [.str s] [] (fun v m => v = .tup [.str (unsealF s).1, .int .i64 (unsealF s).2] ∧ m = []) := by
  by_cases h5 : s.length < 5
  · have h5' : (s.length : Int) < 5 := by omega
    have hu : unsealF s = ([], 1) := by unfold unsealF; rw [if_pos h5]
    skip
    refine (Tri.enter (rl := r50) (code := c50) (by kernel_rfl) Try.func50 rfl c50_ok (by kernel_rfl) (by kernel_rfl) ?_)
    refine run_ok 4000 _ _ _ _ ?_
    simp (maxSteps := 10000000) only [go_sem, c50, r50, h5', hu]
  · obtain ⟨a, b, c, d, f, r, rfl⟩ := five (show 5 ≤ s.length by omega)
    have hlen : ((a :: b :: c :: d :: f :: r).length : Int) = r.length + 5 := by simp only [List.length_cons]; omega
    have hsg : sget (a :: b :: c :: d :: f :: r) 0 = (a.toNat : Int) := rfl
    have h15 : ssub (a :: b :: c :: d :: f :: r) 1 5 = [b, c, d, f] := rfl
    have h01 : List.take 1 (a :: b :: c :: d :: f :: r) = [a] := rfl
    have h5r : List.drop 5 (a :: b :: c :: d :: f :: r) = r := rfl
    have hu := unsealF_long a b c d f r
    simp only [List.length_cons] at hs
    generalize hS : a :: b :: c :: d :: f :: r = S at *
    have h5' : ¬ (S.length : Int) < 5 := by omega
    have h0' : (0 : Int) < (S.length : Int) := by omega
    have h1' : (1 : Int) ≤ (S.length : Int) := by omega
    have h5'' : (5 : Int) ≤ (S.length : Int) := by omega
    by_cases ha : a = 7
    · subst ha
      have hne : ((((7 : UInt8).toNat : Nat) : Int) != 7) = false := rfl
      have hc := crc_u32 (7 :: r)
      rw [if_neg (by simp)] at hu
      skip
      refine (Tri.enter (rl := r50) (code := c50) (by kernel_rfl) Try.func50 rfl c50_ok (by kernel_rfl) (by kernel_rfl) ?_)
      refine run_ok 4000 _ _ _ _ ?_
      simp (maxSteps := 10000000) only [go_sem, c50, r50, h5', h0', h1', h5'', hsg, hne, h15, h01, h5r]
      refine sem_drawG l50_0_ok (by kernel_rfl) ?_
      intro KK hKK
      simp (maxSteps := 10000000) only [go_sem, l50_0, h5', h0', h1', h5'', hsg, hne, h15, h01, h5r]
      refine TriZ.of (((crc2_spec [7] r true (by simp) (by omega)).embed [] rfl (by repeat' first | exact trivial | rfl | (simp only [go_sem]; done) | constructor) rfl (by first | rfl | simp only [go_sem]) rfl (by simp)).mono ?_)
      rintro _ _ ⟨_, _, ⟨rfl, rfl⟩, rfl, rfl⟩
      simp (maxSteps := 10000000) only [go_sem, h5', h0', h1', h5'', hsg, hne, h15, h01, h5r]
      have hwd : seqb [b, c, d, f] (word4 (CRC (7 :: r))) = decide ([b, c, d, f] = word4 (CRC (7 :: r))) := seqb_iff _ _
      by_cases hq : [b, c, d, f] = word4 (CRC (7 :: r))
      · rw [if_neg (by simp [hq])] at hu
        have hse : seqb [b, c, d, f] (word4 (CRC (7 :: r))) = true := by rw [hwd]; exact decide_eq_true hq
        skip
        refine TriZ.of (((word_spec (CRC (7 :: r)) hc).embed [] rfl (by repeat' first | exact trivial | rfl | (simp only [go_sem]; done) | constructor) rfl (by first | rfl | simp only [go_sem]) rfl (by simp)).mono ?_)
        rintro _ _ ⟨_, _, ⟨rfl, rfl⟩, rfl, rfl⟩
        simp (maxSteps := 10000000) only [go_sem, h5', h0', h1', h5'', hsg, hne, h15, h01, h5r, hse, hu]
        subst hKK
        simp (maxSteps := 10000000) only [go_sem, h5', h0', h1', h5'', hsg, hne, h15, h01, h5r, hse, hu]
      · rw [if_pos hq] at hu
        have hse : seqb [b, c, d, f] (word4 (CRC (7 :: r))) = false := by rw [hwd]; exact decide_eq_false hq
        skip
        refine TriZ.of (((word_spec (CRC (7 :: r)) hc).embed [] rfl (by repeat' first | exact trivial | rfl | (simp only [go_sem]; done) | constructor) rfl (by first | rfl | simp only [go_sem]) rfl (by simp)).mono ?_)
        rintro _ _ ⟨_, _, ⟨rfl, rfl⟩, rfl, rfl⟩
        simp (maxSteps := 10000000) only [go_sem, h5', h0', h1', h5'', hsg, hne, h15, h01, h5r, hse, hu]
        subst hKK
        simp (maxSteps := 10000000) only [go_sem, h5', h0', h1', h5'', hsg, hne, h15, h01, h5r, hse, hu]
    · have hne : ((a.toNat : Int) != 7) = true := by
        have : a.toNat ≠ 7 := fun h => ha (UInt8.toNat_inj.1 h)
        simp; omega
      rw [if_pos ha] at hu
      skip
      refine (Tri.enter (rl := r50) (code := c50) (by kernel_rfl) Try.func50 rfl c50_ok (by kernel_rfl) (by kernel_rfl) ?_)
      refine run_ok 4000 _ _ _ _ ?_
      simp (maxSteps := 10000000) only [go_sem, c50, r50, h5', h0', hsg, hne, hu]
theorem unseal_seal (s : List UInt8) : unsealF (sealB s) = (s, 0) := by
  obtain ⟨b, c, d, f, hw⟩ : ∃ b c d f, word4 (CRC (7 :: s)) = [b, c, d, f] := ⟨_, _, _, _, rfl⟩
  have : sealB s = 7 :: b :: c :: d :: f :: s := by unfold sealB; rw [hw]; rfl
  rw [this, unsealF_long, hw]
  simp
theorem sealB_len (s : List UInt8) : (sealB s).length = s.length + 5 := by simp [sealB, word4]
def zg (k : Int) : Nat := if 0 ≤ k then (2 * k).toNat else (-2 * k - 1).toNat
end Go.AEX
