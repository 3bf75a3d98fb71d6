/- WireSeals, WireBent: the laws' evaluations. -/
import Derived.Test.YtgmhndlebndlcaaWire3
namespace Go.AEX
open Go Go.AE Go.Proofs
set_option maxRecDepth 100000
set_option linter.unusedVariables false
set_option linter.unusedSimpArgs false

theorem rseal_spec (s : List UInt8) (hs : s.length ≤ 1000) : Tri Try.prog 24 [.str s] [] (fun v m => v = .str (sealB s) ∧ m = []) := by
  have hc := crc_u32 (7 :: s)
  have hcr : iwrap .u32 (4294967295 - refF 4294967295 (7 :: s)) = CRC (7 :: s) := (crc_whole (7 :: s)).symm
  skip
  refine (Tri.enter (rl := r24) (code := c24) (by kernel_rfl) Try.func24 rfl c24_ok (by kernel_rfl) (by kernel_rfl) ?_)
  refine run_ok 4000 _ _ _ _ ?_
  simp (maxSteps := 10000000) only [go_sem, c24, r24, hcr]
  refine ⟨by simp; omega, ?_⟩
  refine sem_call rfl rfl (((rCrc_spec (7 :: s) (by simp; omega)).embed [] rfl trivial rfl rfl rfl (by simp)).mono ?_)
  rintro _ _ ⟨_, _, ⟨rfl, rfl⟩, rfl, rfl⟩
  refine run_ok 4000 _ _ _ _ ?_
  simp (maxSteps := 10000000) only [go_sem, hcr]
  have hsb : sealB s = 7 :: (word4 (CRC (7 :: s)) ++ s) := rfl
  rw [hsb]
  generalize CRC (7 :: s) = n at *
  have d : ∀ z : Int, n.tdiv z = n / z := fun z => Int.tdiv_eq_ediv_of_nonneg hc.1
  have e1 : iwrap .u8 (n.tmod 256) = n % 256 := by rw [Int.tmod_eq_emod_of_nonneg hc.1, iwrap_u8]; omega
  have e2 : iwrap .u8 ((iwrap .u32 (n.tdiv 256)).tmod 256) = n / 256 % 256 := by rw [d, iwrap_u32, Int.tmod_eq_emod_of_nonneg (by omega), iwrap_u8]; omega
  have e3 : iwrap .u8 ((iwrap .u32 (n.tdiv 65536)).tmod 256) = n / 65536 % 256 := by rw [d, iwrap_u32, Int.tmod_eq_emod_of_nonneg (by omega), iwrap_u8]; omega
  have e4 : iwrap .u8 (iwrap .u32 (n.tdiv 16777216)) = n / 16777216 % 256 := by rw [d, iwrap_u32, iwrap_u8]; omega
  rw [e1, e2, e3, e4]
  have hw : toBytes [[.int .u8 (n % 256)], [.int .u8 (n / 256 % 256)], [.int .u8 (n / 65536 % 256)], [.int .u8 (n / 16777216 % 256)]] = word4 n := rfl
  have hl : (word4 n).length = 4 := rfl
  rw [hw, hl]
  refine ⟨fun x hx => ?_, by omega, by omega, rfl⟩
  simp only [List.mem_cons, List.not_mem_nil, or_false] at hx
  rcases hx with rfl | rfl | rfl | rfl <;> exact ⟨_, rfl⟩
theorem runseal_spec (s : List UInt8) (hs : s.length ≤ 1000) : Tri Try.prog 21 [.str s] [] (fun v m => v = .tup [.str (unsealF s).1, .int .i64 (unsealF s).2] ∧ m = []) := by
  by_cases h5 : s.length < 5
  · have h5' : (s.length : Int) < 5 := by omega
    have hu : unsealF s = ([], 1) := by unfold unsealF; rw [if_pos h5]
    skip
    refine (Tri.enter (rl := r21) (code := c21) (by kernel_rfl) Try.func21 rfl c21_ok (by kernel_rfl) (by kernel_rfl) ?_)
    refine run_ok 4000 _ _ _ _ ?_
    simp (maxSteps := 10000000) only [go_sem, c21, r21, h5', hu]
  · obtain ⟨a, b, c, d, f, r, hS⟩ := five (show 5 ≤ s.length by omega)
    have hsg : sget s 0 = (a.toNat : Int) := by rw [hS]; rfl
    have hg0 : s.getD 0 0 = a := by rw [hS]; rfl
    have h5' : ¬ (s.length : Int) < 5 := by omega
    have h0' : (0 : Int) < (s.length : Int) := by omega
    have h5'' : (5 : Int) ≤ (s.length : Int) := by omega
    by_cases ha : a = 7
    · have hne : ((a.toNat : Int) != 7) = false := by rw [ha]; rfl
      have hsq := seqb_iff (sealB (s.drop 5)) s
      by_cases hq : sealB (s.drop 5) = s
      · have hu : unsealF s = (s.drop 5, 0) := by unfold unsealF; rw [if_neg h5, hg0, if_neg (by simp [ha]), if_neg (by simp [hq])]
        have hse : seqb (sealB (s.drop 5)) s = true := by rw [hsq]; exact decide_eq_true hq
        skip
        refine (Tri.enter (rl := r21) (code := c21) (by kernel_rfl) Try.func21 rfl c21_ok (by kernel_rfl) (by kernel_rfl) ?_)
        refine run_ok 4000 _ _ _ _ ?_
        simp (maxSteps := 10000000) only [go_sem, c21, r21, h5', h0', h5'', hsg, hne, hu, hse]
        refine sem_call rfl rfl (((rseal_spec (s.drop 5) (by simp; omega)).embed [] rfl trivial rfl rfl rfl (by simp)).mono ?_)
        rintro _ _ ⟨_, _, ⟨rfl, rfl⟩, rfl, rfl⟩
        refine run_ok 4000 _ _ _ _ ?_
        simp (maxSteps := 10000000) only [go_sem, h5', h0', h5'', hsg, hne, hu, hse]
      · have hu : unsealF s = ([], 5) := by unfold unsealF; rw [if_neg h5, hg0, if_neg (by simp [ha]), if_pos hq]
        have hse : seqb (sealB (s.drop 5)) s = false := by rw [hsq]; exact decide_eq_false hq
        skip
        refine (Tri.enter (rl := r21) (code := c21) (by kernel_rfl) Try.func21 rfl c21_ok (by kernel_rfl) (by kernel_rfl) ?_)
        refine run_ok 4000 _ _ _ _ ?_
        simp (maxSteps := 10000000) only [go_sem, c21, r21, h5', h0', h5'', hsg, hne, hu, hse]
        refine sem_call rfl rfl (((rseal_spec (s.drop 5) (by simp; omega)).embed [] rfl trivial rfl rfl rfl (by simp)).mono ?_)
        rintro _ _ ⟨_, _, ⟨rfl, rfl⟩, rfl, rfl⟩
        refine run_ok 4000 _ _ _ _ ?_
        simp (maxSteps := 10000000) only [go_sem, h5', h0', h5'', hsg, hne, hu, hse]
    · have hne : ((a.toNat : Int) != 7) = true := by
        have : a.toNat ≠ 7 := fun h => ha (UInt8.toNat_inj.1 h)
        simp; omega
      have hu : unsealF s = ([], 6) := by unfold unsealF; rw [if_neg h5, hg0, if_pos ha]
      skip
      refine (Tri.enter (rl := r21) (code := c21) (by kernel_rfl) Try.func21 rfl c21_ok (by kernel_rfl) (by kernel_rfl) ?_)
      refine run_ok 4000 _ _ _ _ ?_
      simp (maxSteps := 10000000) only [go_sem, c21, r21, h5', h0', hsg, hne, hu]
theorem wireSeals_spec (s : List UInt8) (hs : s.length ≤ 140737488351232) (o : List UInt8) (ho : o.length ≤ 140737488351232) : Tri Try.prog 5 [.str s, .str o] [] (fun v m => v = .bool true) := by
  have h1 : (List.take 100 s).length ≤ 100 := by simp; omega
  have h2 : (List.take 100 o).length ≤ 100 := by simp; omega
  refine (Tri.asB (Tri.enter (rl := r5) (code := c5) (by kernel_rfl) Try.func5 rfl c5_ok (by kernel_rfl) (by kernel_rfl) ?_))
  refine run_ok 4000 _ _ _ _ ?_
  simp (maxSteps := 10000000) only [go_sem, c5, r5]
  refine sem_call rfl rfl (((cut_spec s 100 (by decide)).embed [] rfl trivial rfl rfl rfl (by simp)).mono ?_)
  rintro _ _ ⟨_, _, ⟨rfl, rfl⟩, rfl, rfl⟩
  refine run_ok 4000 _ _ _ _ ?_
  simp (maxSteps := 10000000) only [go_sem]
  refine sem_call rfl rfl (((cut_spec o 100 (by decide)).embed [] rfl trivial rfl rfl rfl (by simp)).mono ?_)
  rintro _ _ ⟨_, _, ⟨rfl, rfl⟩, rfl, rfl⟩
  refine run_ok 4000 _ _ _ _ ?_
  simp (maxSteps := 10000000) only [go_sem]
  generalize List.take 100 s = S at *
  generalize List.take 100 o = O at *
  skip
  refine sem_call rfl rfl (((unseal_spec O (by omega)).embed [] rfl trivial rfl rfl rfl (by simp)).mono ?_)
  rintro _ _ ⟨_, _, ⟨rfl, rfl⟩, rfl, rfl⟩
  refine run_ok 4000 _ _ _ _ ?_
  simp (maxSteps := 10000000) only [go_sem, unseal_seal]
  refine sem_call rfl rfl (((runseal_spec O (by omega)).embed [] rfl trivial rfl rfl rfl (by simp)).mono ?_)
  rintro _ _ ⟨_, _, ⟨rfl, rfl⟩, rfl, rfl⟩
  refine run_ok 4000 _ _ _ _ ?_
  simp (maxSteps := 10000000) only [go_sem, unseal_seal]
  refine sem_call rfl rfl (((seal_spec S (by omega)).embed [] rfl trivial rfl rfl rfl (by simp)).mono ?_)
  rintro _ _ ⟨_, _, ⟨rfl, rfl⟩, rfl, rfl⟩
  refine run_ok 4000 _ _ _ _ ?_
  simp (maxSteps := 10000000) only [go_sem, unseal_seal]
  refine sem_call rfl rfl (((unseal_spec (sealB S) (by rw [sealB_len]; omega)).embed [] rfl trivial rfl rfl rfl (by simp)).mono ?_)
  rintro _ _ ⟨_, _, ⟨rfl, rfl⟩, rfl, rfl⟩
  refine run_ok 4000 _ _ _ _ ?_
  simp (maxSteps := 10000000) only [go_sem, unseal_seal]
  refine sem_call rfl rfl (((awake02_spec).embed [] rfl trivial rfl rfl rfl (by simp)).mono ?_)
  rintro _ _ ⟨_, _, ⟨rfl, rfl⟩, rfl, rfl⟩
  refine run_ok 4000 _ _ _ _ ?_
  simp (maxSteps := 10000000) only [go_sem, unseal_seal]
  refine sem_call rfl rfl (((seal_spec S (by omega)).embed [] rfl trivial rfl rfl rfl (by simp)).mono ?_)
  rintro _ _ ⟨_, _, ⟨rfl, rfl⟩, rfl, rfl⟩
  refine run_ok 4000 _ _ _ _ ?_
  simp (maxSteps := 10000000) only [go_sem, unseal_seal]
  refine sem_call rfl rfl (((rseal_spec S (by omega)).embed [] rfl trivial rfl rfl rfl (by simp)).mono ?_)
  rintro _ _ ⟨_, _, ⟨rfl, rfl⟩, rfl, rfl⟩
  refine run_ok 4000 _ _ _ _ ?_
  simp (maxSteps := 10000000) only [go_sem, unseal_seal]
theorem ofNat_byte {a b : Int} (ha : 0 ≤ a ∧ a < 256) (hb : 0 ≤ b ∧ b < 256) (h : UInt8.ofNat a.toNat = UInt8.ofNat b.toNat) : a = b := by
  have := congrArg UInt8.toNat h
  rw [UInt8.toNat_ofNat', UInt8.toNat_ofNat'] at this
  omega
theorem word4_inj {a b : Int} (ha : 0 ≤ a ∧ a < 4294967296) (hb : 0 ≤ b ∧ b < 4294967296) (h : word4 a = word4 b) : a = b := by
  simp only [word4, List.cons.injEq, and_true] at h
  obtain ⟨h1, h2, h3, h4⟩ := h
  have e1 := ofNat_byte (by omega) (by omega) h1
  have e2 := ofNat_byte (by omega) (by omega) h2
  have e3 := ofNat_byte (by omega) (by omega) h3
  have e4 := ofNat_byte (by omega) (by omega) h4
  omega
theorem CRC_tell (s : List UInt8) (i : Nat) (hi : i < s.length) (b : UInt8) (hb : b ≠ s[i]) : CRC (s.set i b) ≠ CRC s := by
  intro h
  unfold CRC at h
  rw [show inv32 0 = w32 4294967295#32 by decide] at h
  obtain ⟨x, hx⟩ := crcF_g (s.set i b) 4294967295#32
  obtain ⟨y, hy⟩ := crcF_g s 4294967295#32
  rw [hx, hy] at h
  have := inv32_inj h
  subst this
  exact crc_tell s i hi b hb _ (hx.trans hy.symm)
theorem bent (S : List UInt8) (j : Nat) (hj : j < (sealB S).length) (b : UInt8) (hb : b ≠ (sealB S)[j]) :
    (unsealF ((sealB S).set j b)).1 = [] ∧ ((unsealF ((sealB S).set j b)).2 = 5 ∨ (j = 0 ∧ (unsealF ((sealB S).set j b)).2 = 6)) := by
  obtain ⟨a1, a2, a3, a4, hw⟩ : ∃ b c d f, word4 (CRC (7 :: S)) = [b, c, d, f] := ⟨_, _, _, _, rfl⟩
  have hs : sealB S = 7 :: a1 :: a2 :: a3 :: a4 :: S := by unfold sealB; rw [hw]; rfl
  generalize sealB S = D at *
  subst hs
  match j, hj, hb with
  | 0, _, hb =>
    have hb : b ≠ 7 := hb
    simp only [List.set_cons_zero]
    rw [unsealF_long, if_pos hb]
    simp
  | 1, _, hb =>
    have hb : b ≠ a1 := hb
    simp only [List.set_cons_zero, List.set_cons_succ]
    rw [unsealF_long, if_neg (by simp), hw, if_pos (by simp [hb])]
    exact ⟨rfl, .inl rfl⟩
  | 2, _, hb =>
    have hb : b ≠ a2 := hb
    simp only [List.set_cons_zero, List.set_cons_succ]
    rw [unsealF_long, if_neg (by simp), hw, if_pos (by simp [hb])]
    exact ⟨rfl, .inl rfl⟩
  | 3, _, hb =>
    have hb : b ≠ a3 := hb
    simp only [List.set_cons_zero, List.set_cons_succ]
    rw [unsealF_long, if_neg (by simp), hw, if_pos (by simp [hb])]
    exact ⟨rfl, .inl rfl⟩
  | 4, _, hb =>
    have hb : b ≠ a4 := hb
    simp only [List.set_cons_zero, List.set_cons_succ]
    rw [unsealF_long, if_neg (by simp), hw, if_pos (by simp [hb])]
    exact ⟨rfl, .inl rfl⟩
  | j + 5, hj, hb =>
    have hj : j < S.length := by simp only [List.length_cons] at hj; omega
    have hb : b ≠ S[j] := by simpa using hb
    simp only [List.set_cons_succ]
    have ht := CRC_tell (7 :: S) (j + 1) (by simp; omega) b (by simpa using hb)
    rw [List.set_cons_succ] at ht
    have hne : [a1, a2, a3, a4] ≠ word4 (CRC (7 :: S.set j b)) := fun h => ht (word4_inj (crc_u32 _) (crc_u32 _) (by rw [hw, ← h]))
    rw [unsealF_long, if_neg (by simp), if_pos hne]
    exact ⟨rfl, .inl rfl⟩
theorem xor_ne {a b : UInt8} (h : b ≠ 0) : a ^^^ b ≠ a := by
  intro h'
  apply h
  have : a ^^^ (a ^^^ b) = a ^^^ a := by rw [h']
  simpa [← UInt8.xor_assoc] using this
theorem wireBent_spec (s : List UInt8) (hs : s.length ≤ 140737488351232) (at_ : Int) (ha : (Lit.int .i64 at_).wf = true) (by_ : Int) (hb : (Lit.int .u8 by_).wf = true) : Tri Try.prog 6 [.str s, .int .i64 at_, .int .u8 by_] [] (fun v m => v = .bool true) := by
  have h1 : (List.take 100 s).length ≤ 100 := by simp; omega
  obtain ⟨y, rfl⟩ := wf_u8 hb
  refine (Tri.asB (Tri.enter (rl := r6) (code := c6) (by kernel_rfl) Try.func6 rfl c6_ok (by kernel_rfl) (by kernel_rfl) ?_))
  refine run_ok 4000 _ _ _ _ ?_
  simp (maxSteps := 10000000) only [go_sem, c6, r6]
  refine sem_call rfl rfl (((cut_spec s 100 (by decide)).embed [] rfl trivial rfl rfl rfl (by simp)).mono ?_)
  rintro _ _ ⟨_, _, ⟨rfl, rfl⟩, rfl, rfl⟩
  refine run_ok 4000 _ _ _ _ ?_
  simp (maxSteps := 10000000) only [go_sem]
  generalize List.take 100 s = S at *
  refine sem_call rfl rfl (((seal_spec S (by omega)).embed [] rfl trivial rfl rfl rfl (by simp)).mono ?_)
  rintro _ _ ⟨_, _, ⟨rfl, rfl⟩, rfl, rfl⟩
  refine run_ok 4000 _ _ _ _ ?_
  simp (maxSteps := 10000000) only [go_sem]
  have hl := sealB_len S
  refine ⟨by unfold small; omega, ?_⟩
  refine sem_call rfl rfl (((awake02_spec).embed [] rfl trivial rfl rfl rfl (by simp)).mono ?_)
  rintro _ _ ⟨_, _, ⟨rfl, rfl⟩, rfl, rfl⟩
  refine run_ok 4000 _ _ _ _ ?_
  simp (maxSteps := 10000000) only [go_sem]
  refine ⟨fun h => ?_, fun h => ⟨fun h2 => ?_, fun h2 => ⟨fun h3 => ?_, fun h3 => ?_⟩⟩⟩
  · refine sem_call rfl rfl (((awake02_spec).embed [] rfl trivial rfl rfl rfl (by simp)).mono ?_)
    rintro _ _ ⟨_, _, ⟨rfl, rfl⟩, rfl, rfl⟩
    refine run_ok 4000 _ _ _ _ ?_
    simp (maxSteps := 10000000) only [go_sem]
  · refine sem_call rfl rfl (((awake02_spec).embed [] rfl trivial rfl rfl rfl (by simp)).mono ?_)
    rintro _ _ ⟨_, _, ⟨rfl, rfl⟩, rfl, rfl⟩
    refine run_ok 4000 _ _ _ _ ?_
    simp (maxSteps := 10000000) only [go_sem]
  · refine sem_call rfl rfl (((awake02_spec).embed [] rfl trivial rfl rfl rfl (by simp)).mono ?_)
    rintro _ _ ⟨_, _, ⟨rfl, rfl⟩, rfl, rfl⟩
    refine run_ok 4000 _ _ _ _ ?_
    simp (maxSteps := 10000000) only [go_sem]
  · obtain ⟨j, rfl⟩ : ∃ j : Nat, at_ = (j : Int) := ⟨at_.toNat, by omega⟩
    have hj : j < (sealB S).length := by omega
    have hy : y ≠ 0 := by rintro rfl; simp at h3
    have hin : (j : Int) < ((sealB S).length : Int) := by omega
    have e1 := bytes_rput hj ((sealB S)[j] ^^^ y)
    have e2 : sub (AE.bytes ((sealB S).set j ((sealB S)[j] ^^^ y))) 0 (sealB S).length = AE.bytes ((sealB S).set j ((sealB S)[j] ^^^ y)) := by
      have := sub_bytes_all ((sealB S).set j ((sealB S)[j] ^^^ y)); rwa [List.length_set] at this
    obtain ⟨q1, q2⟩ := bent S j hj ((sealB S)[j] ^^^ y) (xor_ne hy)
    have hlen : ((sealB S).set j ((sealB S)[j] ^^^ y)).length = S.length + 5 := by rw [List.length_set, hl]
    generalize (sealB S).set j ((sealB S)[j] ^^^ y) = D at *
    have hall := bytes_all D
    have hto := bytes_to D
    skip
    simp (maxSteps := 10000000) only [go_sem, Int.toNat_natCast, bytes_rint hj, bytes_hasI hj, bytes_inR hj, xor_u8, e1, e2, hall, hto, hin, Int.natCast_nonneg, bytes_len]
    rcases q2 with q2 | ⟨q2, q3⟩
    · skip
      refine ⟨by omega, ?_⟩
      refine sem_call rfl rfl (((unseal_spec D (by omega)).embed [] rfl trivial rfl rfl rfl (by simp)).mono ?_)
      rintro _ _ ⟨_, _, ⟨rfl, rfl⟩, rfl, rfl⟩
      refine run_ok 4000 _ _ _ _ ?_
      simp (maxSteps := 10000000) only [go_sem, q1, q2]
    · subst q2
      skip
      refine ⟨by omega, ?_⟩
      refine sem_call rfl rfl (((unseal_spec D (by omega)).embed [] rfl trivial rfl rfl rfl (by simp)).mono ?_)
      rintro _ _ ⟨_, _, ⟨rfl, rfl⟩, rfl, rfl⟩
      refine run_ok 4000 _ _ _ _ ?_
      simp (maxSteps := 10000000) only [go_sem, q1, q3]
end Go.AEX
