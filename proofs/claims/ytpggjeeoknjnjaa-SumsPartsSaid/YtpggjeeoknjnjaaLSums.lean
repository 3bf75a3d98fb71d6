/- The laws of sums: contracts. -/
import Derived.Test.YtpggjeeoknjnjaaCrc
namespace Go.AEX
open Go Go.AE Go.Proofs
set_option maxRecDepth 100000
set_option linter.unusedVariables false
set_option linter.unusedSimpArgs false

theorem small1 {s : List UInt8} (h : s.length ≤ 1000000) : ∀ x ∈ [s], x.length ≤ 1000000 := by
  intro x hx; simp at hx; rw [hx]; exact h
theorem sv_one (s : List UInt8) : [[AV.str s]] = sv [s] := rfl
theorem awake01_spec : Tri Try.prog 15 [] [] (fun v m => v = .bool true ∧ m = []) := by
  refine (Tri.asB (Tri.enter (rl := r15) (code := c15) (by kernel_rfl) Try.func15 rfl c15_ok (by kernel_rfl) (by kernel_rfl) ?_))
  refine run_ok 4000 _ _ _ _ ?_
  simp only [go_sem, c15, r15]
  simp only [sv_one]
  refine sem_call rfl rfl ((of_spec _ _ (by decide) (by decide)).mono ?_)
  rintro _ _ ⟨rfl, rfl⟩
  refine run_ok 4000 _ _ _ _ ?_
  simp only [go_sem]
  rw [show (fnvL 14695981039346656037 [[97]] == 12638187200555641996) = true by decide +kernel]
  simp only [go_sem, sv_one]
  refine sem_call rfl rfl ((crc_spec _ _ (by decide) (by decide)).mono ?_)
  rintro _ _ ⟨rfl, rfl⟩
  refine run_ok 4000 _ _ _ _ ?_
  simp only [go_sem]
  rw [show (inv32 (crcL (inv32 0) [[49, 50, 51, 52, 53, 54, 55, 56, 57]]) == 3421780262) = true by decide +kernel]
theorem sumsOf_spec (s0 : List UInt8) (hs : s0.length ≤ 140737488351232) : Tri Try.prog 4 [.str s0] [] (fun v m => v = .bool true) := by
  refine (Tri.asB (Tri.enter (rl := r4) (code := c4) (by kernel_rfl) Try.func4 rfl c4_ok (by kernel_rfl) (by kernel_rfl) ?_))
  refine run_ok 4000 _ _ _ _ ?_
  simp only [go_sem, c4, r4]
  refine sem_call rfl rfl ((cut_spec _ _ (by decide)).mono ?_)
  rintro _ _ ⟨rfl, rfl⟩
  refine run_ok 4000 _ _ _ _ ?_
  simp only [go_sem]
  refine sem_call rfl rfl ((awake01_spec).mono ?_)
  rintro _ _ ⟨rfl, rfl⟩
  refine run_ok 4000 _ _ _ _ ?_
  simp only [go_sem]
  generalize hS : List.take 200 s0 = s
  have hs : s.length ≤ 1000000 := by rw [← hS]; simp; omega
  simp only [sv_one]
  refine sem_call rfl rfl ((of_spec [s] _ (by simp) (small1 hs)).mono ?_)
  rintro _ _ ⟨rfl, rfl⟩
  refine run_ok 4000 _ _ _ _ ?_
  simp only [go_sem]
  refine sem_call rfl rfl ((rOf_spec _ hs).mono ?_)
  rintro _ _ ⟨rfl, rfl⟩
  refine run_ok 4000 _ _ _ _ ?_
  simp only [go_sem]
  rw [show fnvL 14695981039346656037 [s] = fnvF 14695981039346656037 s from rfl, beq_self_eq_true]
  simp only [go_sem, sv_one]
  refine sem_call rfl rfl ((crc_spec [s] _ (by simp) (small1 hs)).mono ?_)
  rintro _ _ ⟨rfl, rfl⟩
  refine run_ok 4000 _ _ _ _ ?_
  simp only [go_sem]
  refine sem_call rfl rfl ((rCrc_spec _ hs).mono ?_)
  rintro _ _ ⟨rfl, rfl⟩
  refine run_ok 4000 _ _ _ _ ?_
  simp only [go_sem]
  rw [show crcL (inv32 0) [s] = crcF (inv32 0) s from rfl, crc_whole, beq_self_eq_true]
theorem empties (k : Nat) : List.replicate k [AV.str []] = sv (List.replicate k []) := by simp [sv]
theorem fnvL_empties (f : Int) (k : Nat) : fnvL f (List.replicate k []) = f := by
  induction k with
  | zero => rfl
  | succ k ih => exact ih
theorem crcL_empties (f : Int) (k : Nat) : crcL f (List.replicate k []) = f := by
  induction k with
  | zero => rfl
  | succ k ih => exact ih
theorem wf_u32 {c : Int} (hc : (Lit.int .u32 c).wf = true) : 0 ≤ c ∧ c < 4294967296 := by
  simp [Lit.wf, IntKind.min, IntKind.max, IntKind.bits, IntKind.signed] at hc; omega
theorem inv_inv {c : Int} (hc : (Lit.int .u32 c).wf = true) : inv32 (inv32 c) = c := by
  have h := wf_u32 hc
  have e : c = w32 (BitVec.ofNat 32 c.toNat) := by unfold w32; rw [BitVec.toNat_ofNat]; omega
  rw [e]
  unfold inv32
  rw [show (4294967295 : Int) = w32 4294967295#32 by decide, xor_w32, xor_w32, ← BitVec.xor_assoc, BitVec.xor_self, BitVec.zero_xor]
theorem sumsNone_spec (n : Int) (hn : (Lit.int .i64 n).wf = true) (c : Int) (hc : (Lit.int .u32 c).wf = true) : Tri Try.prog 7 [.int .i64 n, .int .u32 c] [] (fun v m => v = .bool true) := by
  obtain ⟨x, hx, hx15⟩ := and_i64 n (k := 15) (by decide)
  refine (Tri.asB (Tri.enter (rl := r7) (code := c7) (by kernel_rfl) Try.func7 rfl c7_ok (by kernel_rfl) (by kernel_rfl) ?_))
  refine run_ok 4000 _ _ _ _ ?_
  simp only [go_sem, c7, r7]
  rw [show (15 : Int) = ((15 : Nat) : Int) from rfl, hx]
  refine ⟨⟨by omega, by unfold small; omega⟩, ?_⟩
  refine sem_freeze 0 rfl (by simp only [go_sem]; simp) ?_
  rw [show sub (List.replicate (x : Int).toNat [AV.str []]) 0 (x : Int).toNat = sv (List.replicate x []) from by simp [sub, sv]]
  generalize hR : List.replicate x [] = R
  have h1 : R.length ≤ 1000000 := by rw [← hR]; simp; omega
  have h2 : ∀ s ∈ R, s.length ≤ 1000000 := by rw [← hR]; intro s hs; rw [List.eq_of_mem_replicate hs]; simp
  have h3 : ∀ f, fnvL f R = f := by rw [← hR]; exact fun f => fnvL_empties f x
  have h4 : ∀ f, crcL f R = f := by rw [← hR]; exact fun f => crcL_empties f x
  refine sem_call rfl rfl (((awake01_spec).embed [] rfl trivial rfl rfl rfl (by simp)).mono ?_)
  rintro _ _ ⟨_, _, ⟨rfl, rfl⟩, rfl, rfl⟩
  refine run_ok 4000 _ _ _ _ ?_
  simp only [go_sem]
  refine sem_call rfl rfl (((of_spec R _ h1 h2).embed [] rfl trivial rfl rfl rfl (by simp)).mono ?_)
  rintro _ _ ⟨_, _, ⟨rfl, rfl⟩, rfl, rfl⟩
  refine run_ok 4000 _ _ _ _ ?_
  simp only [go_sem]
  rw [h3, beq_self_eq_true]
  simp only [go_sem]
  refine sem_call rfl rfl (((crc_spec R _ h1 h2).embed [] rfl trivial rfl rfl rfl (by simp)).mono ?_)
  rintro _ _ ⟨_, _, ⟨rfl, rfl⟩, rfl, rfl⟩
  refine run_ok 4000 _ _ _ _ ?_
  simp only [go_sem]
  rw [h4, show (inv32 (inv32 0) == 0) = true by decide]
  simp only [go_sem]
  refine sem_call rfl rfl (((more_spec c R _ h1 h2).embed [] rfl trivial rfl rfl rfl (by simp)).mono ?_)
  rintro _ _ ⟨_, _, ⟨rfl, rfl⟩, rfl, rfl⟩
  refine run_ok 4000 _ _ _ _ ?_
  simp only [go_sem]
  rw [h4, inv_inv hc, beq_self_eq_true]
  simp only [go_sem]
  refine sem_call rfl rfl (((add_spec 14695981039346656037 R _ h1 h2).embed [] rfl trivial rfl rfl rfl (by simp)).mono ?_)
  rintro _ _ ⟨_, _, ⟨rfl, rfl⟩, rfl, rfl⟩
  refine run_ok 4000 _ _ _ _ ?_
  simp only [go_sem]
  rw [h3, beq_self_eq_true]
end Go.AEX
