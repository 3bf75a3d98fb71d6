/- The laws of sums: contracts. -/
import Derived.Test.YtpggjeeoknjnjaaCrc
namespace Go.AEX
open Go Go.AE Go.Proofs
set_option maxRecDepth 100000
set_option linter.unusedVariables false
set_option linter.unusedSimpArgs false

theorem small1 {s : List UInt8} (h : s.length ≤ 1000000) : ∀ x ∈ [s], x.length ≤ 1000000 := by
  intro x hx; simp at hx; rw [hx]; exact h
theorem sv_one (s : List UInt8) : [[AV.str s]] = sv [s] := rfl
theorem awake01_spec : Tri Try.prog 15 [] [] (fun v m => v = .bool true ∧ m = []) := by
  refine (Tri.asB (Tri.enter (rl := r15) (code := c15) (by kernel_rfl) Try.func15 rfl c15_ok (by kernel_rfl) (by kernel_rfl) ?_))
  refine run_ok 4000 _ _ _ _ ?_
  simp only [go_sem, c15, r15]
  simp only [sv_one]
  refine sem_call rfl rfl ((of_spec _ _ (by decide) (by decide)).mono ?_)
  rintro _ _ ⟨rfl, rfl⟩
  refine run_ok 4000 _ _ _ _ ?_
  simp only [go_sem]
  rw [show (fnvL 14695981039346656037 [[97]] == 12638187200555641996) = true by decide +kernel]
  simp only [go_sem, sv_one]
  refine sem_call rfl rfl ((crc_spec _ _ (by decide) (by decide)).mono ?_)
  rintro _ _ ⟨rfl, rfl⟩
  refine run_ok 4000 _ _ _ _ ?_
  simp only [go_sem]
  rw [show (inv32 (crcL (inv32 0) [[49, 50, 51, 52, 53, 54, 55, 56, 57]]) == 3421780262) = true by decide +kernel]
theorem sumsOf_spec (s0 : List UInt8) (hs : s0.length ≤ 140737488351232) : Tri Try.prog 4 [.str s0] [] (fun v m => v = .bool true) := by
  refine (Tri.asB (Tri.enter (rl := r4) (code := c4) (by kernel_rfl) Try.func4 rfl c4_ok (by kernel_rfl) (by kernel_rfl) ?_))
  refine run_ok 4000 _ _ _ _ ?_
  simp only [go_sem, c4, r4]
  refine sem_call rfl rfl ((cut_spec _ _ (by decide)).mono ?_)
  rintro _ _ ⟨rfl, rfl⟩
  refine run_ok 4000 _ _ _ _ ?_
  simp only [go_sem]
  refine sem_call rfl rfl ((awake01_spec).mono ?_)
  rintro _ _ ⟨rfl, rfl⟩
  refine run_ok 4000 _ _ _ _ ?_
  simp only [go_sem]
  generalize hS : List.take 200 s0 = s
  have hs : s.length ≤ 1000000 := by rw [← hS]; simp; omega
  simp only [sv_one]
  refine sem_call rfl rfl ((of_spec [s] _ (by simp) (small1 hs)).mono ?_)
  rintro _ _ ⟨rfl, rfl⟩
  refine run_ok 4000 _ _ _ _ ?_
  simp only [go_sem]
  refine sem_call rfl rfl ((rOf_spec _ hs).mono ?_)
  rintro _ _ ⟨rfl, rfl⟩
  refine run_ok 4000 _ _ _ _ ?_
  simp only [go_sem]
  rw [show fnvL 14695981039346656037 [s] = fnvF 14695981039346656037 s from rfl, beq_self_eq_true]
  simp only [go_sem, sv_one]
  refine sem_call rfl rfl ((crc_spec [s] _ (by simp) (small1 hs)).mono ?_)
  rintro _ _ ⟨rfl, rfl⟩
  refine run_ok 4000 _ _ _ _ ?_
  simp only [go_sem]
  refine sem_call rfl rfl ((rCrc_spec _ hs).mono ?_)
  rintro _ _ ⟨rfl, rfl⟩
  refine run_ok 4000 _ _ _ _ ?_
  simp only [go_sem]
  rw [show crcL (inv32 0) [s] = crcF (inv32 0) s from rfl, crc_whole, beq_self_eq_true]
end Go.AEX
