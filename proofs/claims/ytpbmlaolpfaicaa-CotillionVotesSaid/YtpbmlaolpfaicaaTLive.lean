/- Seat rT: live, answers that the document fixes. -/
import Derived.Test.YtpbmlaolpfaicaaTWire
namespace Go.AEX
open Go Go.AE Go.Proofs
set_option maxRecDepth 100000
set_option linter.unusedVariables false
set_option linter.unusedSimpArgs false

theorem name1_spec : Tri Try.prog 53 [.int .u8 1] [] (fun v m => v = .str [112, 117, 115, 104] ∧ m = []) := by
  refine Tri.post ?_
  have w : iwrap .i64 1 = 1 := rfl
  have g : ¬ (1 : Int) ≥ 23 := by omega
  skip
  refine (Tri.enter (rl := r53) (code := c53) (by kernel_rfl) Try.func53 rfl c53_ok (by kernel_rfl) (by kernel_rfl) ?_)
  refine run_ok 4000 _ _ _ _ ?_
  simp (maxSteps := 10000000) only [go_sem, c53, r53, w, g]
  exact ⟨_, _, .done, rfl, rfl⟩
theorem live_spec : Tri Try.prog 7 [] [] (fun v m => v = .bool true ∧ m = []) := by
  refine Tri.post ?_
  have hc := crc_spec [[49, 50, 51, 52, 53, 54, 55, 56, 57]] true (by decide) (by decide)
  rw [show inv32 (crcL (inv32 0) [[49, 50, 51, 52, 53, 54, 55, 56, 57]]) = 3421780262 by decide +kernel] at hc
  have hs : sv [[49, 50, 51, 52, 53, 54, 55, 56, 57]] = [[AV.str [49, 50, 51, 52, 53, 54, 55, 56, 57]]] := rfl
  rw [hs] at hc
  skip
  refine (Tri.enter (rl := r7) (code := c7) (by kernel_rfl) Try.func7 rfl c7_ok (by kernel_rfl) (by kernel_rfl) ?_)
  refine run_ok 4000 _ _ _ _ ?_
  simp (maxSteps := 10000000) only [go_sem, c7, r7, unseal_seal]
  refine sem_call rfl rfl (((seal_spec [120] (by simp)).embed [] rfl trivial rfl rfl rfl (by simp)).mono ?_)
  rintro _ _ ⟨_, _, ⟨rfl, rfl⟩, rfl, rfl⟩
  refine run_ok 4000 _ _ _ _ ?_
  simp (maxSteps := 10000000) only [go_sem, unseal_seal]
  refine sem_call rfl rfl (((unseal_spec (sealB [120]) (by rw [sealB_len]; simp)).embed [] rfl trivial rfl rfl rfl (by simp)).mono ?_)
  rintro _ _ ⟨_, _, ⟨rfl, rfl⟩, rfl, rfl⟩
  refine run_ok 4000 _ _ _ _ ?_
  simp (maxSteps := 10000000) only [go_sem, unseal_seal]
  refine sem_call rfl rfl (((hc).embed [] rfl trivial rfl rfl rfl (by simp)).mono ?_)
  rintro _ _ ⟨_, _, ⟨rfl, rfl⟩, rfl, rfl⟩
  refine run_ok 4000 _ _ _ _ ?_
  simp (maxSteps := 10000000) only [go_sem, unseal_seal]
  refine sem_call rfl rfl (((name1_spec).embed [] rfl trivial rfl rfl rfl (by simp)).mono ?_)
  rintro _ _ ⟨_, _, ⟨rfl, rfl⟩, rfl, rfl⟩
  refine run_ok 4000 _ _ _ _ ?_
  simp (maxSteps := 10000000) only [go_sem, unseal_seal]
  refine ⟨_, _, .like (Like.bool true) (.sub [] ?_ .done), rfl, rfl⟩
  simp only [EmbV, go_sem]
end Go.AEX
