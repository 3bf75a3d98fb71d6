/- Dice: numbers below a bound. -/
import Derived.Test.YtpggjeeoknjnjaaDice
namespace Go.AEX
open Go Go.AE Go.Proofs
set_option maxRecDepth 100000
set_option linter.unusedVariables false
set_option linter.unusedSimpArgs false

def hiF (x y : Int) : Int := x * y / 18446744073709551616
theorem mul64_spec (x y : Int) (hx : U64 x) (hy : U64 y) : Tri Try.prog 32 [.int .u64 x, .int .u64 y] [] (fun v m => v = .tup [.int .u64 (hiF x y), .int .u64 (iwrap .u64 (x * y))] ∧ m = []) := by
  refine (Tri.enter (rl := r32) (code := c32) (by kernel_rfl) Try.func32 rfl c32_ok (by kernel_rfl) (by kernel_rfl) ?_)
  refine run_ok 4000 _ _ _ _ ?_
  simp only [go_sem, c32, r32]
  simp only [and_mask32 hx, and_mask32 hy, shr_u64 hx, shr_u64 hy]
  obtain ⟨p, q, r, s, hp, hq, hr, hs, e, p0, p1, q0, q1, r0, r1, s0, s1⟩ := mul_halves hx hy
  rw [← hp, ← hq, ← hr, ← hs]
  rw [iwrap_u64_in (n := p) ⟨p0, by omega⟩, iwrap_u64_in (n := q) ⟨q0, by omega⟩, iwrap_u64_in (n := r) ⟨r0, by omega⟩, iwrap_u64_in (n := s) ⟨s0, by omega⟩, shr_u64 (x := p) ⟨p0, by omega⟩]
  have ht : U64 (q + p / 4294967296) := ⟨by omega, by omega⟩
  rw [iwrap_u64_in ht, shr_u64 ht, and_mask32 ht]
  have hw : U64 ((q + p / 4294967296) % 4294967296 + r) := ⟨by omega, by omega⟩
  rw [iwrap_u64_in hw, shr_u64 hw, iwrap_u64, iwrap_u64]
  unfold hiF
  have : (((s + (q + p / 4294967296) / 4294967296) % 18446744073709551616 + ((q + p / 4294967296) % 4294967296 + r) / 4294967296) % 18446744073709551616) = x * y / 18446744073709551616 := by
    rw [e]; omega
  rw [this]
def belowV (s n : Int) : Int := if n < 1 then 0 else iwrap .i64 (hiF (nextV s) (iwrap .u64 n))
def belowS (s n : Int) : Int := if n < 1 then s else nextS s
theorem nextV_u64 (s : Int) : U64 (nextV s) := by unfold nextV mixC; exact U64.bits _ _ _
theorem nextS_u64 (s : Int) : U64 (nextS s) := U64.wrap _
theorem below_spec (s n : Int) : Tri Try.prog 26 [.pbox 0 0, .int .i64 n] [.box [.int .u64 s]] (fun v m => v = .int .i64 (belowV s n) ∧ m = [.box [.int .u64 (belowS s n)]]) := by
  refine (Tri.enter (rl := r26) (code := c26) (by kernel_rfl) Try.func26 rfl c26_ok (by kernel_rfl) (by kernel_rfl) ?_)
  refine run_ok 4000 _ _ _ _ ?_
  simp only [go_sem, c26, r26]
  refine ⟨fun h => ?_, fun h => ?_⟩
  · simp [belowV, belowS, h]
  · refine sem_call rfl rfl ((next_spec s).mono ?_)
    rintro _ _ ⟨rfl, rfl⟩
    refine run_ok 4000 _ _ _ _ ?_
    simp only [go_sem]
    refine sem_call rfl rfl (((mul64_spec (nextV s) (iwrap .u64 n) (nextV_u64 s) (U64.wrap n)).embed [] rfl trivial rfl rfl rfl (by simp)).mono ?_)
    rintro _ _ ⟨_, _, ⟨rfl, rfl⟩, rfl, rfl⟩
    refine run_ok 4000 _ _ _ _ ?_
    simp only [go_sem]
    simp [belowV, belowS, h]
theorem state_spec (s : Int) : Tri Try.prog 25 [.pbox 0 0] [.box [.int .u64 s]] (fun v m => v = .int .u64 s ∧ m = [.box [.int .u64 s]]) := by
  refine (Tri.enter (rl := r25) (code := c25) (by kernel_rfl) Try.func25 rfl c25_ok (by kernel_rfl) (by kernel_rfl) ?_)
  refine run_ok 4000 _ _ _ _ ?_
  simp only [go_sem, c25, r25]
theorem diceAgain_spec (s : Int) (hs : (Lit.int .u64 s).wf = true) (n : Int) (hn : (Lit.int .i64 n).wf = true) (k : Int) (hk : (Lit.int .i64 k).wf = true) :
    Tri Try.prog 8 [.int .u64 s, .int .i64 n, .int .i64 k] [] (fun v m => v = .bool true) := by
  refine (Tri.asB (Tri.enter (rl := r8) (code := c8) (by kernel_rfl) Try.func8 rfl c8_ok (by kernel_rfl) (by kernel_rfl) ?_))
  refine run_ok 4000 _ _ _ _ ?_
  simp only [go_sem, c8, r8]
  refine sem_call rfl rfl ((awake_spec).mono ?_)
  rintro _ _ ⟨rfl, rfl⟩
  refine run_ok 4000 _ _ _ _ ?_
  simp only [go_sem]
  refine sem_call rfl rfl ((new_spec s).mono ?_)
  rintro _ _ ⟨rfl, rfl⟩
  refine run_ok 4000 _ _ _ _ ?_
  simp only [go_sem]
  obtain ⟨N, hN, hN31⟩ := and_i64 n (k := 31) (by decide)
  obtain ⟨K, hK, hK31⟩ := and_i64 k (k := 31) (by decide)
  have hN : ibits .and .i64 n 31 = (N : Int) := hN
  have hK : ibits .and .i64 k 31 = (K : Int) := hK
  rw [hN]
  refine sem_rounds (fun x : Nat × Int => x.1 ≤ N) (fun x => [(14, .int .i64 N), (15, .int .i64 (x.1 : Nat)), (7, .pbox 0 0), (2, .int .i64 k)]) (fun x => [.box [.int .u64 x.2]]) (fun x => N - x.1) (0, s) [0] (Nat.zero_le _) ?_ ?_
  · simp only [Emb, go_sem]; simp
  rintro ⟨i, s⟩ hi
  refine run_ok 4000 _ _ _ _ ?_
  simp only [go_sem]
  refine ⟨fun hlt => ?_, fun hge => ?_⟩
  · simp only at hi hlt
    refine sem_call rfl rfl ((next_spec s).mono ?_)
    rintro _ _ ⟨rfl, rfl⟩
    refine run_ok 4000 _ _ _ _ ?_
    simp only [go_sem]
    refine ⟨(i + 1, nextS s), by simp only; omega, by simp only; omega, [0], ?_⟩
    simp only [Emb, go_sem]
    rw [iwrap_i64_in (by omega)]
    simp
  refine run_ok 4000 _ _ _ _ ?_
  simp only [go_sem]
  refine sem_call rfl rfl ((state_spec s).mono ?_)
  rintro _ _ ⟨rfl, rfl⟩
  refine run_ok 4000 _ _ _ _ ?_
  simp only [go_sem]
  refine sem_call rfl rfl (((new_spec s).embed [] rfl trivial rfl rfl rfl (by simp)).mono ?_)
  rintro _ _ ⟨_, _, ⟨rfl, rfl⟩, rfl, rfl⟩
  refine run_ok 4000 _ _ _ _ ?_
  simp only [go_sem]
  rw [hK]
  refine sem_rounds (fun x : Nat × Int => x.1 ≤ K) (fun x => [(24, .int .i64 K), (25, .int .i64 (x.1 : Nat)), (7, .pbox 0 0), (8, .pbox 1 0)]) (fun x => [.box [.int .u64 x.2], .box [.int .u64 x.2]]) (fun x => K - x.1) (0, s) [0, 1] (Nat.zero_le _) ?_ ?_
  · simp only [Emb, go_sem]; simp
  rintro ⟨i, s⟩ hi
  refine run_ok 4000 _ _ _ _ ?_
  simp only [go_sem]
  refine ⟨fun hlt => ?_, fun hge => ?_⟩
  · simp only at hi hlt
    refine sem_call rfl rfl (((next_spec s).embed [0] rfl (by repeat' first | exact trivial | rfl | constructor) rfl rfl rfl (by simp)).mono ?_)
    rintro _ _ ⟨_, _, ⟨rfl, rfl⟩, rfl, rfl⟩
    refine run_ok 4000 _ _ _ _ ?_
    simp only [go_sem]
    refine sem_call rfl rfl (((next_spec s).embed [1] rfl (by repeat' first | exact trivial | rfl | constructor) rfl rfl rfl (by simp)).mono ?_)
    rintro _ _ ⟨_, _, ⟨rfl, rfl⟩, rfl, rfl⟩
    refine run_ok 4000 _ _ _ _ ?_
    simp only [go_sem]
    rw [show (nextV s != nextV s) = false by simp]
    simp only [go_sem]
    refine sem_call rfl rfl (((state_spec (nextS s)).embed [0] rfl (by repeat' first | exact trivial | rfl | constructor) rfl rfl rfl (by simp)).mono ?_)
    rintro _ _ ⟨_, _, ⟨rfl, rfl⟩, rfl, rfl⟩
    refine run_ok 4000 _ _ _ _ ?_
    simp only [go_sem]
    refine sem_call rfl rfl (((state_spec (nextS s)).embed [1] rfl (by repeat' first | exact trivial | rfl | constructor) rfl rfl rfl (by simp)).mono ?_)
    rintro _ _ ⟨_, _, ⟨rfl, rfl⟩, rfl, rfl⟩
    refine run_ok 4000 _ _ _ _ ?_
    simp only [go_sem]
    rw [show (nextS s != nextS s) = false by simp]
    simp only [go_sem]
    refine ⟨(i + 1, nextS s), by simp only; omega, by simp only; omega, [0, 1], ?_⟩
    simp only [Emb, go_sem]
    rw [iwrap_i64_in (by omega)]
    simp
  refine run_ok 4000 _ _ _ _ ?_
  simp only [go_sem]
  refine sem_call rfl rfl (((below_spec s 100).embed [0] rfl (by repeat' first | exact trivial | rfl | constructor) rfl rfl rfl (by simp)).mono ?_)
  rintro _ _ ⟨_, _, ⟨rfl, rfl⟩, rfl, rfl⟩
  refine run_ok 4000 _ _ _ _ ?_
  simp only [go_sem]
  refine sem_call rfl rfl (((below_spec s 100).embed [1] rfl (by repeat' first | exact trivial | rfl | constructor) rfl rfl rfl (by simp)).mono ?_)
  rintro _ _ ⟨_, _, ⟨rfl, rfl⟩, rfl, rfl⟩
  refine run_ok 4000 _ _ _ _ ?_
  simp only [go_sem]
/-- What is below one number is a share of what is below a greater one. -/
theorem hi_two (x n : Int) (hx : U64 x) (hn : 1 ≤ n) (hn2 : n ≤ 65536) : hiF x n = (hiF x (2 * n)).tdiv 2 ∧ 0 ≤ hiF x n ∧ hiF x n < n ∧ 0 ≤ hiF x (2 * n) ∧ hiF x (2 * n) < 2 * n := by
  unfold U64 at hx
  unfold hiF
  have e : x * (2 * n) = 2 * (x * n) := by rw [Int.mul_left_comm]
  have h0 : 0 ≤ x * n := Int.mul_nonneg hx.1 (by omega)
  have h1 : x * n ≤ 18446744073709551615 * n := Int.mul_le_mul_of_nonneg_right (by omega) (by omega)
  rw [e, Int.tdiv_eq_ediv_of_nonneg (by omega)]
  generalize x * n = y at *
  omega
theorem belowV_in (s n : Int) (h1 : 1 ≤ n) (h2 : n ≤ 131072) (h3 : 0 ≤ hiF (nextV s) n ∧ hiF (nextV s) n < n) : belowV s n = hiF (nextV s) n := by
  unfold belowV
  rw [if_neg (by omega), iwrap_u64_in (n := n) ⟨by omega, by omega⟩, iwrap_i64_in (by omega)]
theorem diceTwo_spec (s : Int) (hs : (Lit.int .u64 s).wf = true) (n : Int) (hn : (Lit.int .i64 n).wf = true) (k : Int) (hk : (Lit.int .i64 k).wf = true) :
    Tri Try.prog 9 [.int .u64 s, .int .i64 n, .int .i64 k] [] (fun v m => v = .bool true) := by
  refine (Tri.asB (Tri.enter (rl := r9) (code := c9) (by kernel_rfl) Try.func9 rfl c9_ok (by kernel_rfl) (by kernel_rfl) ?_))
  refine run_ok 4000 _ _ _ _ ?_
  simp only [go_sem, c9, r9]
  refine sem_call rfl rfl ((awake_spec).mono ?_)
  rintro _ _ ⟨rfl, rfl⟩
  refine run_ok 4000 _ _ _ _ ?_
  simp only [go_sem]
  obtain ⟨N, hN, hN31⟩ := and_i64 n (k := 65535) (by decide)
  have hN : ibits .and .i64 n 65535 = (N : Int) := hN
  obtain ⟨K, hK, hK31⟩ := and_i64 k (k := 31) (by decide)
  have hK : ibits .and .i64 k 31 = (K : Int) := hK
  rw [hN, iwrap_i64_in (show _ ≤ 1 + (N : Int) ∧ 1 + (N : Int) ≤ _ by omega)]
  refine sem_call rfl rfl ((new_spec s).mono ?_)
  rintro _ _ ⟨rfl, rfl⟩
  refine run_ok 4000 _ _ _ _ ?_
  simp only [go_sem]
  refine sem_call rfl rfl (((new_spec s).embed [] rfl trivial rfl rfl rfl (by simp)).mono ?_)
  rintro _ _ ⟨_, _, ⟨rfl, rfl⟩, rfl, rfl⟩
  refine run_ok 4000 _ _ _ _ ?_
  simp only [go_sem]
  refine sem_call rfl rfl (((new_spec (iwrap .u64 (s + 1))).embed [] rfl trivial rfl rfl rfl (by simp)).mono ?_)
  rintro _ _ ⟨_, _, ⟨rfl, rfl⟩, rfl, rfl⟩
  refine run_ok 4000 _ _ _ _ ?_
  simp only [go_sem]
  rw [hK]
  refine sem_rounds (fun x : Nat × Int × Int => x.1 ≤ K) (fun x => [(25, .int .i64 K), (26, .int .i64 (x.1 : Nat)), (7, .pbox 0 0), (8, .pbox 1 0), (9, .pbox 2 0), (1, .int .i64 (1 + (N : Int)))]) (fun x => [.box [.int .u64 x.2.1], .box [.int .u64 x.2.1], .box [.int .u64 x.2.2]]) (fun x => K - x.1) (0, s, iwrap .u64 (s + 1)) [0, 1, 2] (Nat.zero_le _) ?_ ?_
  · simp only [Emb, go_sem]; simp
  rintro ⟨i, s, z⟩ hi
  refine run_ok 4000 _ _ _ _ ?_
  simp only [go_sem]
  refine ⟨fun hlt => ?_, fun hge => ?_⟩
  · simp only at hi hlt
    obtain ⟨q1, q2, q3, q4, q5⟩ := hi_two (nextV s) (1 + (N : Int)) (nextV_u64 s) (by omega) (by omega)
    refine sem_call rfl rfl (((next_spec z).embed [2] rfl (by repeat' first | exact trivial | rfl | constructor) rfl rfl rfl (by simp)).mono ?_)
    rintro _ _ ⟨_, _, ⟨rfl, rfl⟩, rfl, rfl⟩
    refine run_ok 4000 _ _ _ _ ?_
    simp only [go_sem]
    refine sem_call rfl rfl (((below_spec s (1 + (N : Int))).embed [0] rfl (by repeat' first | exact trivial | rfl | constructor) rfl rfl rfl (by simp)).mono ?_)
    rintro _ _ ⟨_, _, ⟨rfl, rfl⟩, rfl, rfl⟩
    refine run_ok 4000 _ _ _ _ ?_
    simp only [go_sem]
    rw [iwrap_i64_in (show _ ≤ 2 * (1 + (N : Int)) ∧ 2 * (1 + (N : Int)) ≤ _ by omega)]
    refine sem_call rfl rfl (((below_spec s (2 * (1 + (N : Int)))).embed [1] rfl (by repeat' first | exact trivial | rfl | constructor) rfl rfl rfl (by simp)).mono ?_)
    rintro _ _ ⟨_, _, ⟨rfl, rfl⟩, rfl, rfl⟩
    refine run_ok 4000 _ _ _ _ ?_
    simp only [go_sem]
    rw [belowV_in _ _ (by omega) (by omega) ⟨q2, q3⟩, belowV_in _ _ (by omega) (by omega) ⟨q4, q5⟩, iwrap_i64_in (show _ ≤ (hiF (nextV s) (2 * (1 + (N : Int)))).tdiv 2 ∧ (hiF (nextV s) (2 * (1 + (N : Int)))).tdiv 2 ≤ _ by omega), ← q1,
      show (hiF (nextV s) (1 + (N : Int)) != hiF (nextV s) (1 + (N : Int))) = false by simp]
    simp only [go_sem]
    rw [show belowS s (1 + (N : Int)) = nextS s by simp [belowS]; omega, show belowS s (2 * (1 + (N : Int))) = nextS s by simp [belowS]; omega]
    refine sem_call rfl rfl (((state_spec (nextS s)).embed [0] rfl (by repeat' first | exact trivial | rfl | constructor) rfl rfl rfl (by simp)).mono ?_)
    rintro _ _ ⟨_, _, ⟨rfl, rfl⟩, rfl, rfl⟩
    refine run_ok 4000 _ _ _ _ ?_
    simp only [go_sem]
    refine sem_call rfl rfl (((state_spec (nextS s)).embed [1] rfl (by repeat' first | exact trivial | rfl | constructor) rfl rfl rfl (by simp)).mono ?_)
    rintro _ _ ⟨_, _, ⟨rfl, rfl⟩, rfl, rfl⟩
    refine run_ok 4000 _ _ _ _ ?_
    simp only [go_sem]
    rw [show (nextS s != nextS s) = false by simp]
    simp only [go_sem]
    refine ⟨(i + 1, nextS s, nextS z), by simp only; omega, by simp only; omega, [0, 1, 2], ?_⟩
    simp only [Emb, go_sem]
    rw [iwrap_i64_in (by omega)]
    simp
  refine run_ok 4000 _ _ _ _ ?_
  simp only [go_sem]
  refine sem_call rfl rfl (((next_spec s).embed [0] rfl (by repeat' first | exact trivial | rfl | constructor) rfl rfl rfl (by simp)).mono ?_)
  rintro _ _ ⟨_, _, ⟨rfl, rfl⟩, rfl, rfl⟩
  refine run_ok 4000 _ _ _ _ ?_
  simp only [go_sem]
  refine sem_call rfl rfl (((next_spec s).embed [1] rfl (by repeat' first | exact trivial | rfl | constructor) rfl rfl rfl (by simp)).mono ?_)
  rintro _ _ ⟨_, _, ⟨rfl, rfl⟩, rfl, rfl⟩
  refine run_ok 4000 _ _ _ _ ?_
  simp only [go_sem]
end Go.AEX
