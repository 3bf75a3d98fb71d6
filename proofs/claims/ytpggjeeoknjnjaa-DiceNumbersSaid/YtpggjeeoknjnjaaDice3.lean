/- Dice: any numbers: contracts. -/
import Derived.Test.YtpggjeeoknjnjaaDice2
import Derived.Test.YtpggjeeoknjnjaaWire
namespace Go.AEX
open Go Go.AE Go.Proofs
set_option maxRecDepth 100000
set_option linter.unusedVariables false
set_option linter.unusedSimpArgs false

theorem high_spec (x y : Int) (hx : U64 x) (hy : U64 y) : Tri Try.prog 33 [.int .u64 x, .int .u64 y] [] (fun v m => v = .int .u64 (hiF x y) ∧ m = []) := by
  refine (Tri.enter (rl := r33) (code := c33) (by kernel_rfl) Try.func33 rfl c33_ok (by kernel_rfl) (by kernel_rfl) ?_)
  refine run_ok 4000 _ _ _ _ ?_
  simp only [go_sem, c33, r33]
  refine sem_drawY l33_0_ok (by kernel_rfl) ?_
  simp only [go_sem, l33_0]
  refine sem_drawY l33_1_ok (by kernel_rfl) ?_
  simp only [go_sem, l33_1]
  refine sem_drawY l33_2_ok (by kernel_rfl) ?_
  simp only [go_sem, l33_2]
  refine sem_drawY l33_3_ok (by kernel_rfl) ?_
  simp only [go_sem, l33_3]
  refine sem_drawY l33_4_ok (by kernel_rfl) ?_
  simp only [go_sem, l33_4]
  refine run_ok 4000 _ _ _ _ ?_
  simp only [go_sem]
  obtain ⟨p, q, r, s, hp, hq, hr, hs, e, p0, p1, q0, q1, r0, r1, s0, s1⟩ := mul_halves hx hy
  have d : ∀ z : Int, 0 ≤ z → z.tdiv 4294967296 = z / 4294967296 := fun z h => Int.tdiv_eq_ediv_of_nonneg h
  have mo : ∀ z : Int, 0 ≤ z → z.tmod 4294967296 = z % 4294967296 := fun z h => Int.tmod_eq_emod_of_nonneg h
  have hx' := hx
  have hy' := hy
  unfold U64 at hx hy
  have w : ∀ z : Int, 0 ≤ z → z < 18446744073709551616 → iwrap .u64 z = z := fun z h1 h2 => iwrap_u64_in ⟨h1, h2⟩
  rw [d x hx.1, d y hy.1, mo x hx.1, mo y hy.1, w (x / 4294967296) (by omega) (by omega), w (y / 4294967296) (by omega) (by omega), ← hp, ← hq, ← hr, ← hs]
  rw [w p p0 (by omega), w q q0 (by omega), w r r0 (by omega), w s s0 (by omega), d p p0, d q q0, d r r0, mo q q0, mo r r0]
  rw [w (p / 4294967296) (by omega) (by omega), w (q / 4294967296) (by omega) (by omega), w (r / 4294967296) (by omega) (by omega)]
  rw [w (p / 4294967296 + q % 4294967296) (by omega) (by omega), w (p / 4294967296 + q % 4294967296 + r % 4294967296) (by omega) (by omega), d _ (by omega)]
  rw [w ((p / 4294967296 + q % 4294967296 + r % 4294967296) / 4294967296) (by omega) (by omega)]
  rw [iwrap_u64, iwrap_u64, iwrap_u64]
  unfold hiF
  have : (((s + q / 4294967296) % 18446744073709551616 + r / 4294967296) % 18446744073709551616 + (p / 4294967296 + q % 4294967296 + r % 4294967296) / 4294967296) % 18446744073709551616 = x * y / 18446744073709551616 := by
    rw [e]; omega
  rw [this]
theorem rbelow_spec (s n : Int) : Tri Try.prog 28 [.int .u64 s, .int .i64 n] [] (fun v m => v = .tup [.int .u64 (belowS s n), .int .i64 (belowV s n)] ∧ m = []) := by
  refine (Tri.enter (rl := r28) (code := c28) (by kernel_rfl) Try.func28 rfl c28_ok (by kernel_rfl) (by kernel_rfl) ?_)
  refine run_ok 4000 _ _ _ _ ?_
  simp only [go_sem, c28, r28]
  refine ⟨fun h => ?_, fun h => ?_⟩
  · simp [belowV, belowS, h]
  · refine sem_call rfl rfl ((rnext_spec s).mono ?_)
    rintro _ _ ⟨rfl, rfl⟩
    refine run_ok 4000 _ _ _ _ ?_
    simp only [go_sem]
    refine sem_call rfl rfl ((high_spec (nextV s) (iwrap .u64 n) (nextV_u64 s) (U64.wrap n)).mono ?_)
    rintro _ _ ⟨rfl, rfl⟩
    refine run_ok 4000 _ _ _ _ ?_
    simp only [go_sem]
    simp [belowV, belowS, h]
theorem wText_spec (s : List UInt8) : Tri Try.prog 35 [.pbox 0 0] (outM s) (fun v m => v = .str s ∧ m = outM s) := by
  unfold outM
  refine (Tri.enter (rl := r35) (code := c35) (by kernel_rfl) Try.func35 rfl c35_ok (by kernel_rfl) (by kernel_rfl) ?_)
  refine run_ok 4000 _ _ _ _ ?_
  simp only [go_sem, c35, r35]
  exact ⟨⟨Nat.le_refl _, bytes_all s⟩, by rw [bytes_to]⟩
theorem dText_spec (n : Nat) (hn : n < 18446744073709551616) : Tri Try.prog 29 [.pbox 0 0] [.box [.int .u64 (n : Nat)]] (fun v m => v = .str (numB n) ∧ m = [.box [.int .u64 (n : Nat)]]) := by
  refine (Tri.sub (Tri.enter (rl := r29) (code := c29) (by kernel_rfl) Try.func29 rfl c29_ok (by kernel_rfl) (by kernel_rfl) ?_))
  refine run_ok 4000 _ _ _ _ ?_
  simp only [go_sem, c29, r29]
  refine sem_nilbox 1 0 1 rfl rfl ?_
  simp only [go_sem]
  refine sem_call rfl rfl (((wNum_spec [n] true [] (by simpa using hn) (by simp)).embed [1, 2] rfl (by repeat' first | exact trivial | rfl | constructor) rfl rfl rfl (by simp)).mono ?_)
  rintro _ _ ⟨_, _, ⟨rfl, rfl⟩, rfl, rfl⟩
  refine run_ok 4000 _ _ _ _ ?_
  simp only [go_sem]
  simp only [numsB_one, List.nil_append]
  refine sem_call rfl rfl (((wText_spec (numB n)).embed [1, 3] rfl (by repeat' first | exact trivial | rfl | constructor) rfl rfl rfl (by simp)).mono ?_)
  rintro _ _ ⟨_, _, ⟨rfl, rfl⟩, rfl, rfl⟩
  refine run_ok 4000 _ _ _ _ ?_
  simp only [go_sem]
  exact ⟨[0], _, [_], by simp only [EmbV, go_sem], rfl, rfl⟩
theorem hi_below (x n : Int) (hx : U64 x) (hn : 1 ≤ n) : 0 ≤ hiF x n ∧ hiF x n < n := by
  unfold U64 at hx
  unfold hiF
  have h0 : 0 ≤ x * n := Int.mul_nonneg hx.1 (by omega)
  have h1 : x * n ≤ 18446744073709551615 * n := Int.mul_le_mul_of_nonneg_right (by omega) (by omega)
  generalize x * n = y at *
  omega
theorem belowV_ok (s n : Int) (hn : (Lit.int .i64 n).wf = true) : 0 ≤ belowV s n ∧ (n < 1 → belowV s n = 0) ∧ (1 ≤ n → belowV s n < n) := by
  simp [Lit.wf, IntKind.min, IntKind.max, IntKind.bits, IntKind.signed] at hn
  unfold belowV
  by_cases h : n < 1
  · rw [if_pos h]; exact ⟨by omega, fun _ => rfl, fun h' => by omega⟩
  · rw [if_neg h, iwrap_u64_in (n := n) ⟨by omega, by omega⟩]
    have := hi_below (nextV s) n (nextV_u64 s) (by omega)
    rw [iwrap_i64_in (by omega)]
    exact ⟨this.1, fun h' => absurd h' h, fun _ => this.2⟩
theorem belowS_u64 (s n : Int) (h : U64 s) : U64 (belowS s n) := by unfold belowS; split; exact h; exact nextS_u64 s
theorem u64_nat {s : Int} (h : U64 s) : ∃ n : Nat, s = n ∧ n < 18446744073709551616 := by unfold U64 at h; exact ⟨s.toNat, by omega, by omega⟩
theorem diceNumbers_spec (s : Int) (hs : (Lit.int .u64 s).wf = true) (l : List Int) (hw : ∀ n ∈ l, (Lit.int .i64 n).wf = true) :
    Tri Try.prog 10 [.int .u64 s, .vsl 1 (iv .i64 l) false] [] (fun v m => v = .bool true) := by
  have hs : U64 s := by simp [Lit.wf, IntKind.min, IntKind.max, IntKind.bits, IntKind.signed] at hs; unfold U64; omega
  refine (Tri.asB (Tri.enter (rl := r10) (code := c10) (by kernel_rfl) Try.func10 rfl c10_ok (by kernel_rfl) (by kernel_rfl) ?_))
  refine run_ok 4000 _ _ _ _ ?_
  simp only [go_sem, c10, r10]
  refine sem_call rfl rfl ((awake_spec).mono ?_)
  rintro _ _ ⟨rfl, rfl⟩
  refine run_ok 4000 _ _ _ _ ?_
  simp only [go_sem]
  refine sem_call rfl rfl ((new_spec s).mono ?_)
  rintro _ _ ⟨rfl, rfl⟩
  refine run_ok 4000 _ _ _ _ ?_
  simp only [go_sem]
  refine sem_rounds (fun x : Nat × Int => x.1 ≤ 100 ∧ U64 x.2) (fun x => [(1, .vsl 1 (iv .i64 l) false), (7, .int .i64 (x.1 : Nat)), (5, .pbox 0 0), (6, .int .u64 x.2)]) (fun x => [.box [.int .u64 x.2]]) (fun x => 100 - x.1) (0, s) [0] ⟨by simp, hs⟩ ?_ ?_
  · simp only [Emb, go_sem]; simp
  rintro ⟨i, s⟩ ⟨hi, hs⟩
  simp only at hi hs
  refine run_ok 4000 _ _ _ _ ?_
  simp only [go_sem]
  refine ⟨fun hl => ⟨fun hc => ⟨fun h3 => ?_, fun h3 => ?_⟩, fun hc => ?_⟩, fun hl => ?_⟩
  · refine sem_call rfl rfl ((next_spec s).mono ?_)
    rintro _ _ ⟨rfl, rfl⟩
    refine run_ok 4000 _ _ _ _ ?_
    simp only [go_sem]
    refine sem_call rfl rfl (((rnext_spec s).embed [] rfl trivial rfl rfl rfl (by simp)).mono ?_)
    rintro _ _ ⟨_, _, ⟨rfl, rfl⟩, rfl, rfl⟩
    refine run_ok 4000 _ _ _ _ ?_
    simp only [go_sem]
    obtain ⟨N, hNe, hN⟩ := u64_nat (nextS_u64 s)
    rw [hNe]
    refine sem_call rfl rfl (((state_spec _).embed [0] rfl (by repeat' first | exact trivial | rfl | constructor) rfl rfl rfl (by simp)).mono ?_)
    rintro _ _ ⟨_, _, ⟨rfl, rfl⟩, rfl, rfl⟩
    refine run_ok 4000 _ _ _ _ ?_
    simp only [go_sem]
    refine sem_call rfl rfl (((dText_spec N hN).embed [0] rfl (by repeat' first | exact trivial | rfl | constructor) rfl rfl rfl (by simp)).mono ?_)
    rintro _ _ ⟨_, _, ⟨rfl, rfl⟩, rfl, rfl⟩
    refine run_ok 4000 _ _ _ _ ?_
    simp only [go_sem]
    refine sem_call rfl rfl (((rNum_spec N hN).embed [] rfl trivial rfl rfl rfl (by simp)).mono ?_)
    rintro _ _ ⟨_, _, ⟨rfl, rfl⟩, rfl, rfl⟩
    refine run_ok 4000 _ _ _ _ ?_
    simp only [go_sem]
    refine ⟨(i + 1, (N : Int)), by simp only; omega, ⟨by simp only; omega, by unfold U64; simp only; omega⟩, [0], ?_⟩
    simp only [Emb, go_sem, inc64 (show i < 1000000000000 by omega)]
  · have hlt : i < l.length := by rw [iv_len] at hl; omega
    rw [iv_rint hlt]
    have hwf := hw _ (List.getElem_mem hlt)
    obtain ⟨b1, b2, b3⟩ := belowV_ok s l[i] hwf
    have hin : 0 ≤ (i : Int) ∧ (i : Int) < ((iv .i64 l).length : Int) := by rw [iv_len]; omega
    have n1 : ¬ belowV s l[i] < 0 := by omega
    refine ⟨hin, iv_hasI hlt, ?_⟩
    obtain ⟨N, hNe, hN⟩ := u64_nat (belowS_u64 s l[i] hs)
    by_cases hp : l[i] < 1
    · have n2 : ¬ l[i] > 0 := by omega
      have n3 : belowV s l[i] = 0 := b2 hp
      skip
      refine sem_call rfl rfl (((below_spec s l[i]).embed [0] rfl (by repeat' first | exact trivial | rfl | constructor) rfl rfl rfl (by simp)).mono ?_)
      rintro _ _ ⟨_, _, ⟨rfl, rfl⟩, rfl, rfl⟩
      refine run_ok 4000 _ _ _ _ ?_
      simp only [go_sem, iv_rint hlt, iv_hasI hlt, hin, n1, n2, hp, n3]
      refine sem_call rfl rfl (((rbelow_spec s l[i]).embed [] rfl trivial rfl rfl rfl (by simp)).mono ?_)
      rintro _ _ ⟨_, _, ⟨rfl, rfl⟩, rfl, rfl⟩
      refine run_ok 4000 _ _ _ _ ?_
      simp only [go_sem, iv_rint hlt, iv_hasI hlt, hin, n1, n2, hp, n3]
      simp only [go_sem, hNe]
      refine sem_call rfl rfl (((state_spec _).embed [0] rfl (by repeat' first | exact trivial | rfl | constructor) rfl rfl rfl (by simp)).mono ?_)
      rintro _ _ ⟨_, _, ⟨rfl, rfl⟩, rfl, rfl⟩
      refine run_ok 4000 _ _ _ _ ?_
      simp only [go_sem, iv_rint hlt, iv_hasI hlt, hin, n1, n2, hp, n3]
      refine sem_call rfl rfl (((dText_spec N hN).embed [0] rfl (by repeat' first | exact trivial | rfl | constructor) rfl rfl rfl (by simp)).mono ?_)
      rintro _ _ ⟨_, _, ⟨rfl, rfl⟩, rfl, rfl⟩
      refine run_ok 4000 _ _ _ _ ?_
      simp only [go_sem, iv_rint hlt, iv_hasI hlt, hin, n1, n2, hp, n3]
      refine sem_call rfl rfl (((rNum_spec N hN).embed [] rfl trivial rfl rfl rfl (by simp)).mono ?_)
      rintro _ _ ⟨_, _, ⟨rfl, rfl⟩, rfl, rfl⟩
      refine run_ok 4000 _ _ _ _ ?_
      simp only [go_sem, iv_rint hlt, iv_hasI hlt, hin, n1, n2, hp, n3]
      refine ⟨(i + 1, (N : Int)), by simp only; omega, ⟨by simp only; omega, by unfold U64; simp only; omega⟩, [0], ?_⟩
      simp only [Emb, go_sem, inc64 (show i < 1000000000000 by omega)]
    · have n2 : l[i] > 0 := by omega
      have n3 : ¬ belowV s l[i] ≥ l[i] := by have := b3 (by omega); omega
      skip
      refine sem_call rfl rfl (((below_spec s l[i]).embed [0] rfl (by repeat' first | exact trivial | rfl | constructor) rfl rfl rfl (by simp)).mono ?_)
      rintro _ _ ⟨_, _, ⟨rfl, rfl⟩, rfl, rfl⟩
      refine run_ok 4000 _ _ _ _ ?_
      simp only [go_sem, iv_rint hlt, iv_hasI hlt, hin, n1, n2, hp, n3]
      refine sem_call rfl rfl (((rbelow_spec s l[i]).embed [] rfl trivial rfl rfl rfl (by simp)).mono ?_)
      rintro _ _ ⟨_, _, ⟨rfl, rfl⟩, rfl, rfl⟩
      refine run_ok 4000 _ _ _ _ ?_
      simp only [go_sem, iv_rint hlt, iv_hasI hlt, hin, n1, n2, hp, n3]
      simp only [go_sem, hNe]
      refine sem_call rfl rfl (((state_spec _).embed [0] rfl (by repeat' first | exact trivial | rfl | constructor) rfl rfl rfl (by simp)).mono ?_)
      rintro _ _ ⟨_, _, ⟨rfl, rfl⟩, rfl, rfl⟩
      refine run_ok 4000 _ _ _ _ ?_
      simp only [go_sem, iv_rint hlt, iv_hasI hlt, hin, n1, n2, hp, n3]
      refine sem_call rfl rfl (((dText_spec N hN).embed [0] rfl (by repeat' first | exact trivial | rfl | constructor) rfl rfl rfl (by simp)).mono ?_)
      rintro _ _ ⟨_, _, ⟨rfl, rfl⟩, rfl, rfl⟩
      refine run_ok 4000 _ _ _ _ ?_
      simp only [go_sem, iv_rint hlt, iv_hasI hlt, hin, n1, n2, hp, n3]
      refine sem_call rfl rfl (((rNum_spec N hN).embed [] rfl trivial rfl rfl rfl (by simp)).mono ?_)
      rintro _ _ ⟨_, _, ⟨rfl, rfl⟩, rfl, rfl⟩
      refine run_ok 4000 _ _ _ _ ?_
      simp only [go_sem, iv_rint hlt, iv_hasI hlt, hin, n1, n2, hp, n3]
      refine ⟨(i + 1, (N : Int)), by simp only; omega, ⟨by simp only; omega, by unfold U64; simp only; omega⟩, [0], ?_⟩
      simp only [Emb, go_sem, inc64 (show i < 1000000000000 by omega)]
  · skip
    refine run_ok 4000 _ _ _ _ ?_
    simp only [go_sem]
  · refine run_ok 4000 _ _ _ _ ?_
    simp only [go_sem]
end Go.AEX
