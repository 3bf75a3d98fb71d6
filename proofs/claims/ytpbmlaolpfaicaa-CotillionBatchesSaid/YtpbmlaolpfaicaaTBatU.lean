/- Seat rT: what players give, turn by turn (CotillionBatches): full tables; a table behind other blocks. -/
import Derived.Test.YtpbmlaolpfaicaaTBatL
import Derived.Test.YtpbmlaolpfaicaaTLive
import Derived.Test.YtpbmlaolpfaicaaAEzp
namespace Go.AEX
open Go Go.AE Go.Proofs
set_option maxRecDepth 100000
set_option linter.unusedVariables false
set_option linter.unusedSimpArgs false

theorem put_full (nx : Int) (O : Outr) (F : List Inn) (p : Int) (k : Nat) (A : Inn) (L : List Ord) (h : og O p = some k) (hF : F[k]? = some A) (hn : 0 ≤ nx ∧ nx ≤ 100000) (hA : A.length = 8) (hp : 0 ≤ p ∧ p < 32) :
    Tri Try.prog 10 [.pbox 0 0, .int .i64 p, .int .i64 (nx + A.length), .vsl 4 (orows L) false] (tM nx O F) (fun v m => v = .int .i64 8 ∧ m = tM nx O F) := by
  refine Tri.post ?_
  have hgi := given_some nx O F p k A h hF (by omega) (by omega)
  have p1 : ¬ p < 0 := by omega
  have p2 : ¬ p ≥ 32 := by omega
  have t1 : ¬ nx + (A.length : Int) < nx + (A.length : Int) := by omega
  have t2 : ¬ nx + (A.length : Int) > nx + (A.length : Int) := by omega
  have w : iwrap .i64 (nx + 8) = nx + 8 := iwrap_i64_in (by omega)
  have t3 : nx + (A.length : Int) ≥ nx + 8 := by omega
  skip
  refine (Tri.enter (rl := r10) (code := c10) (by kernel_rfl) Try.func10 rfl c10_ok (by kernel_rfl) (by kernel_rfl) ?_)
  refine run_ok 4000 _ _ _ _ ?_
  simp (maxSteps := 10000000) only [go_sem, c10, r10, p1, p2, t1, t2, t3, w]
  refine sem_call rfl rfl ((hgi).mono ?_)
  rintro _ _ ⟨rfl, rfl⟩
  refine run_ok 4000 _ _ _ _ ?_
  simp (maxSteps := 10000000) only [go_sem, p1, p2, t1, t2, t3, w]
  refine sem_call rfl rfl ((hgi).mono ?_)
  rintro _ _ ⟨rfl, rfl⟩
  refine run_ok 4000 _ _ _ _ ?_
  simp (maxSteps := 10000000) only [go_sem, p1, p2, t1, t2, t3, w]
  exact ⟨_, _, .done, rfl, rfl⟩
theorem fullT {nx : Int} {O : Outr} {F : List Inn} {g : Int → List (List Ord)} (h : TOk nx O F g) (p T : Int) (L : List Ord) (hT : T = nx + (g p).length) (hn : 0 ≤ nx ∧ nx ≤ 100000) (hg : (g p).length = 8) (hp : 0 ≤ p ∧ p < 32) :
    Tri Try.prog 10 [.pbox 0 0, .int .i64 p, .int .i64 T, .vsl 4 (orows L) false] (tM nx O F) fun v m => v = .int .i64 8 ∧ m = tM nx O F := by
  subst hT
  rcases h.og p with ⟨h1, h2⟩ | ⟨k, h1, h2, h3⟩
  · rw [h2] at hg; simp at hg
  · have := put_full nx O F p k _ L h1 h2 hn (by rw [num_len]; exact hg) hp
    rwa [num_len] at this
theorem nextT (nx : Int) (O : Outr) (F : List Inn) : Tri Try.prog 15 [.pbox 0 0] (tM nx O F) fun v m => v = .int .i64 nx ∧ m = tM nx O F := next_spec nx O F
def tS (d : Nat) (nx : Int) (O : Outr) (F : List Inn) : Mem := renM [] d (tM nx O F)
theorem tS_len (d : Nat) (nx : Int) (O : Outr) (F : List Inn) : (tS d nx O F).length = F.length + 1 + 1 := by unfold tS; rw [renM_len, tM_len]
theorem tS_ids {d : Nat} {nx : Int} {O : Outr} {F : List Inn} (h : OkO O F) (n : Nat) (hn : d + (F.length + 1 + 1) ≤ n) : idsM n (tS d nx O F) = true :=
  idsM_mono hn (idsM_sh (tM_ids nx O F h _ (Nat.le_refl _)))
theorem tS_new (d : Nat) (nx : Int) : tS d nx [] [] = [.box [.int .i64 nx, .map (d + 1)], .map []] := rfl
theorem tBeh {f : FuncId} {args args' : List AV} {nx nx' : Int} {O : Outr} {F : List Inn} {g g' : Int → List (List Ord)} {r : AV} (pre : Mem) (h : TOk nx O F g)
    (spec : Tri Try.prog f args (tM nx O F) fun v m => v = r ∧ ∃ O' F', TOk nx' O' F' g' ∧ m = tM nx' O' F') (ha : idss 1 args = true) (hr : ren [] pre.length r = r) (hargs : rens [] pre.length args = args') :
    Tri Try.prog f args' (pre ++ tS pre.length nx O F) fun v m => v = r ∧ ∃ O' F', TOk nx' O' F' g' ∧ m = pre ++ tS pre.length nx' O' F' := by
  subst hargs
  refine (spec.behind pre (idss_mono (by rw [tM_len]; omega) ha) (tM_ids nx O F h.okO _ (by rw [tM_len]; exact Nat.le_refl _)) (tM_gone nx O F)).mono ?_
  rintro _ _ ⟨_, _, ⟨rfl, O', F', h', rfl⟩, rfl, rfl⟩
  exact ⟨hr, O', F', h', rfl⟩
theorem tBehS {f : FuncId} {args args' : List AV} {nx : Int} {O : Outr} {F : List Inn} {g : Int → List (List Ord)} {r : AV} (pre : Mem) (h : TOk nx O F g)
    (spec : Tri Try.prog f args (tM nx O F) fun v m => v = r ∧ m = tM nx O F) (ha : idss 1 args = true) (hr : ren [] pre.length r = r) (hargs : rens [] pre.length args = args') :
    Tri Try.prog f args' (pre ++ tS pre.length nx O F) fun v m => v = r ∧ m = pre ++ tS pre.length nx O F := by
  subst hargs
  refine (spec.behind pre (idss_mono (by rw [tM_len]; omega) ha) (tM_ids nx O F h.okO _ (by rw [tM_len]; exact Nat.le_refl _)) (tM_gone nx O F)).mono ?_
  rintro _ _ ⟨_, _, ⟨rfl, rfl⟩, rfl, rfl⟩
  exact ⟨hr, rfl⟩
end Go.AEX
