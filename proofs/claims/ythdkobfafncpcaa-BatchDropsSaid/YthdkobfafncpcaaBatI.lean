/- Batch tables: Take. -/
import Derived.Test.YthdkobfafncpcaaBatH
namespace Go.AEX
open Go Go.AE Go.Proofs
set_option maxRecDepth 100000
set_option linter.unusedVariables false
set_option linter.unusedSimpArgs false

theorem take_no (nx : Int) (O : Outr) (F : List Inn) (hO : OkO O F) (hs : Int → Bool) (hH : ∀ x : Int, Tri Try.prog 14 [.pbox 0 0, .int .i64 x] (tM nx O F) fun v m => v = .bsym (hs x) ∧ m = tM nx O F)
    (l : List Int) (tight : Bool) (hl : l.length ≤ 100000) (hne : 0 < (l.filter fun x => !hs x).length) :
    Tri Try.prog 16 [.pbox 0 0, .vsl 1 (iv .i64 l) tight] (tM nx O F) (fun v m => v = .tup [.nilsl, .bool false] ∧ m = tM nx O F) := by
  refine Tri.post ?_
  have hm := missing_spec nx O F hO hs hH l tight hl
  have hg : ((l.filter fun x => !hs x).length : Int) > 0 := by omega
  skip
  refine (Tri.enter (rl := r16) (code := c16) (by kernel_rfl) Try.func16 rfl c16_ok (by kernel_rfl) (by kernel_rfl) ?_)
  refine run_ok 4000 _ _ _ _ ?_
  simp (maxSteps := 10000000) only [go_sem, c16, r16, hg, iv_len]
  refine sem_call rfl rfl ((hm).mono ?_)
  rintro _ _ ⟨rfl, rfl⟩
  refine run_ok 4000 _ _ _ _ ?_
  simp (maxSteps := 10000000) only [go_sem, hg, iv_len]
  exact ⟨_, _, .done, rfl, rfl⟩
end Go.AEX
