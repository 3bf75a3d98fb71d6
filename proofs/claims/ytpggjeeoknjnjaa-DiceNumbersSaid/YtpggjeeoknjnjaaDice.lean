/- Dice: contracts of the package dice and of its reference. -/
import Derived.Test.YtpggjeeoknjnjaaNum
import Derived.Test.YtpggjeeoknjnjaaCA
import Derived.KernelRfl
namespace Go.AEX
open Go Go.AE Go.Proofs
set_option maxRecDepth 100000
set_option linter.unusedVariables false
set_option linter.unusedSimpArgs false

def nextS (s : Int) : Int := iwrap .u64 (s + 11400714819323198485)
def mixA (x : Int) : Int := iwrap .u64 (ibits .xor .u64 x (ishr .u64 x 30) * 13787848793156543929)
def mixB (x : Int) : Int := iwrap .u64 (ibits .xor .u64 x (ishr .u64 x 27) * 10723151780598845931)
def mixC (x : Int) : Int := ibits .xor .u64 x (ishr .u64 x 31)
def nextV (s : Int) : Int := mixC (mixB (mixA (nextS s)))

theorem new_spec (s : Int) : Tri Try.prog 23 [.int .u64 s] [] (fun v m => v = .pbox 0 0 ∧ m = [.box [.int .u64 s]]) := by
  refine Tri.enter (rl := [.t 2]) (code := c23) (by kernel_rfl) Try.func23 rfl c23_ok (by kernel_rfl) (by kernel_rfl) ?_
  refine run_ok 4000 _ _ _ _ ?_
  simp only [go_sem, c23]
theorem next_spec (s : Int) : Tri Try.prog 24 [.pbox 0 0] [.box [.int .u64 s]] (fun v m => v = .int .u64 (nextV s) ∧ m = [.box [.int .u64 (nextS s)]]) := by
  refine Tri.enter (rl := [.t 2]) (code := c24) (by kernel_rfl) Try.func24 rfl c24_ok (by kernel_rfl) (by kernel_rfl) ?_
  refine run_ok 4000 _ _ _ _ ?_
  simp only [go_sem, c24]
  exact ⟨rfl, rfl⟩
theorem rnext_spec (s : Int) : Tri Try.prog 27 [.int .u64 s] [] (fun v m => v = .tup [.int .u64 (nextS s), .int .u64 (nextV s)] ∧ m = []) := by
  refine Tri.enter (rl := [.t 2, .t 3]) (code := c27) (by kernel_rfl) Try.func27 rfl c27_ok (by kernel_rfl) (by kernel_rfl) ?_
  refine run_ok 4000 _ _ _ _ ?_
  simp only [go_sem, c27]
  rw [quo_shr (d := 1073741824) (U64.wrap _) 30 (by decide), quo_shr (d := 134217728) (U64.wrap _) 27 (by decide), quo_shr (d := 2147483648) (U64.wrap _) 31 (by decide)]
  rfl
theorem awake_spec : Tri Try.prog 11 [] [] (fun v m => v = .bool true ∧ m = []) := by
  refine Tri.sub (Tri.asB (Tri.enter (rl := [.t 0]) (code := c11) (by kernel_rfl) Try.func11 rfl c11_ok (by kernel_rfl) (by kernel_rfl) ?_))
  refine run_ok 4000 _ _ _ _ ?_
  simp only [go_sem, c11]
  refine sem_call rfl rfl ((new_spec 0).mono ?_)
  rintro _ _ ⟨rfl, rfl⟩
  refine run_ok 4000 _ _ _ _ ?_
  simp only [go_sem]
  refine sem_call rfl rfl ((next_spec 0).mono ?_)
  rintro _ _ ⟨rfl, rfl⟩
  refine run_ok 4000 _ _ _ _ ?_
  have h : (nextV 0 == 16294208416658607535) = true := by decide +kernel
  simp only [go_sem, h]
  exact ⟨[], _, [], ⟨rfl, rfl, trivial⟩, rfl, rfl⟩
def seedF (l : List Int) : Int := l.foldl (fun s p => nextV (ibits .xor .u64 s p)) 0
theorem seedF_take (l : List Int) (i : Nat) (h : i < l.length) : seedF (l.take (i + 1)) = nextV (ibits .xor .u64 (seedF (l.take i)) l[i]) := by
  unfold seedF; rw [List.take_succ_eq_append_getElem h, List.foldl_append]; rfl
theorem seed_spec (l : List Int) (tight : Bool) (hl : l.length ≤ 1000) : Tri Try.prog 12 [.vsl 1 (iv .u64 l) tight] [] (fun v m => v = .int .u64 (seedF l) ∧ m = []) := by
  refine Tri.sub (Tri.enter (rl := [.t 2]) (code := c12) (by kernel_rfl) Try.func12 rfl c12_ok (by kernel_rfl) (by kernel_rfl) ?_)
  refine run_ok 4000 _ _ _ _ ?_
  simp only [go_sem, c12]
  refine sem_call rfl rfl ((new_spec 0).mono ?_)
  rintro _ _ ⟨rfl, rfl⟩
  refine run_ok 4000 _ _ _ _ ?_
  simp only [go_sem]
  refine sem_rounds (fun i => i ≤ l.length) (fun i => [(7, .vsl 1 (iv .u64 l) tight), (8, .int .i64 l.length), (9, .int .i64 (i : Nat)), (3, .pbox 0 0)]) (fun i => [.box [.int .u64 (seedF (l.take i))]]) (fun i => l.length - i) 0 [0] (Nat.zero_le _) ?_ ?_
  · simp only [Emb, go_sem, iv_len]; simp; rfl
  intro i hi
  refine run_ok 4000 _ _ _ _ ?_
  simp only [go_sem]
  refine ⟨fun hlt => ?_, fun hge => ?_⟩
  · have hlt : i < l.length := by omega
    have e : addi 0 (i : Int) = i := by simp [addi]
    rw [e, iv_rint hlt, iv_len]
    refine ⟨by omega, iv_hasI hlt, ?_⟩
    refine sem_call rfl rfl ((next_spec _).mono ?_)
    rintro _ _ ⟨rfl, rfl⟩
    refine run_ok 4000 _ _ _ _ ?_
    simp only [go_sem]
    refine ⟨i + 1, by omega, by omega, [0], ?_⟩
    simp only [Emb, go_sem, iv_len, seedF_take l i hlt]
    rw [iwrap_i64_in (by omega)]
    simp
  · refine run_ok 4000 _ _ _ _ ?_
    simp only [go_sem]
    rw [List.take_of_length_le (by omega)]
    exact ⟨[], _, [], ⟨rfl, rfl, trivial⟩, rfl, rfl⟩
theorem rseed_spec (l : List Int) (tight : Bool) (hl : l.length ≤ 1000) : Tri Try.prog 13 [.vsl 1 (iv .u64 l) tight] [] (fun v m => v = .int .u64 (seedF l) ∧ m = []) := by
  refine Tri.enter (rl := [.t 2]) (code := c13) (by kernel_rfl) Try.func13 rfl c13_ok (by kernel_rfl) (by kernel_rfl) ?_
  refine run_ok 4000 _ _ _ _ ?_
  simp only [go_sem, c13]
  refine sem_rounds (fun i => i ≤ l.length) (fun i => [(8, .vsl 1 (iv .u64 l) tight), (9, .int .i64 l.length), (10, .int .i64 (i : Nat)), (3, .int .u64 (seedF (l.take i)))]) (fun i => []) (fun i => l.length - i) 0 [] (Nat.zero_le _) ?_ ?_
  · simp only [Emb, go_sem, iv_len]; simp; rfl
  intro i hi
  refine run_ok 4000 _ _ _ _ ?_
  simp only [go_sem]
  refine ⟨fun hlt => ?_, fun hge => ?_⟩
  · have hlt : i < l.length := by omega
    have e : addi 0 (i : Int) = i := by simp [addi]
    rw [e, iv_rint hlt, iv_len]
    refine ⟨by omega, iv_hasI hlt, ?_⟩
    refine sem_call rfl rfl ((rnext_spec _).mono ?_)
    rintro _ _ ⟨rfl, rfl⟩
    refine run_ok 4000 _ _ _ _ ?_
    simp only [go_sem]
    refine ⟨i + 1, by omega, by omega, [], ?_⟩
    simp only [Emb, go_sem, iv_len, seedF_take l i hlt]
    rw [iwrap_i64_in (by omega)]
    simp
  · refine run_ok 4000 _ _ _ _ ?_
    simp only [go_sem]
    rw [List.take_of_length_le (by omega)]
theorem seed0_spec : Tri Try.prog 12 [.nilsl] [] (fun v m => v = .int .u64 0 ∧ m = []) := by
  refine Tri.sub (Tri.enter (rl := [.t 2]) (code := c12) (by kernel_rfl) Try.func12 rfl c12_ok (by kernel_rfl) (by kernel_rfl) ?_)
  refine run_ok 4000 _ _ _ _ ?_
  simp only [go_sem, c12]
  refine sem_call rfl rfl ((new_spec 0).mono ?_)
  rintro _ _ ⟨rfl, rfl⟩
  refine run_ok 4000 _ _ _ _ ?_
  simp only [go_sem]
  refine sem_rounds (fun _ => True) (fun _ : Unit => [(7, .nilsl), (8, .int .i64 0), (9, .int .i64 0), (3, .pbox 0 0)]) (fun i => [.box [.int .u64 0]]) (fun i => 0) () [0] trivial ?_ ?_
  · simp only [Emb, go_sem]
  intro i hi
  refine run_ok 4000 _ _ _ _ ?_
  simp only [go_sem]
  refine run_ok 4000 _ _ _ _ ?_
  simp only [go_sem]
  exact ⟨[], _, [], ⟨rfl, rfl, trivial⟩, rfl, rfl⟩
theorem diceSeeds_spec (l : List Int) (hw : ∀ n ∈ l, (Lit.int .u64 n).wf = true) : Tri Try.prog 3 [.vsl 1 (iv .u64 l) false] [] (fun v m => v = .bool true) := by
  refine Tri.asB (Tri.enter (rl := [.t 2]) (code := c3) (by kernel_rfl) Try.func3 rfl c3_ok (by kernel_rfl) (by kernel_rfl) ?_)
  refine run_ok 4000 _ _ _ _ ?_
  simp only [go_sem, c3]
  refine ⟨fun h => ⟨by omega, ?_⟩, fun h => ?_⟩
  · rw [iv_sub]
    refine sem_call rfl rfl (awake_spec.mono ?_)
    rintro _ _ ⟨rfl, rfl⟩
    refine run_ok 4000 _ _ _ _ ?_
    simp only [go_sem]
    refine sem_call rfl rfl ((seed_spec _ _ (by first | (simp; omega) | omega)).mono ?_)
    rintro _ _ ⟨rfl, rfl⟩
    refine run_ok 4000 _ _ _ _ ?_
    simp only [go_sem]
    refine sem_call rfl rfl ((rseed_spec _ _ (by first | (simp; omega) | omega)).mono ?_)
    rintro _ _ ⟨rfl, rfl⟩
    refine run_ok 4000 _ _ _ _ ?_
    simp only [go_sem]
    refine sem_call rfl rfl (seed0_spec.mono ?_)
    rintro _ _ ⟨rfl, rfl⟩
    refine run_ok 4000 _ _ _ _ ?_
    simp only [go_sem]
  · rw [iv_len] at h
    refine sem_call rfl rfl (awake_spec.mono ?_)
    rintro _ _ ⟨rfl, rfl⟩
    refine run_ok 4000 _ _ _ _ ?_
    simp only [go_sem]
    refine sem_call rfl rfl ((seed_spec _ _ (by first | (simp; omega) | omega)).mono ?_)
    rintro _ _ ⟨rfl, rfl⟩
    refine run_ok 4000 _ _ _ _ ?_
    simp only [go_sem]
    refine sem_call rfl rfl ((rseed_spec _ _ (by first | (simp; omega) | omega)).mono ?_)
    rintro _ _ ⟨rfl, rfl⟩
    refine run_ok 4000 _ _ _ _ ?_
    simp only [go_sem]
    refine sem_call rfl rfl (seed0_spec.mono ?_)
    rintro _ _ ⟨rfl, rfl⟩
    refine run_ok 4000 _ _ _ _ ?_
    simp only [go_sem]
end Go.AEX
