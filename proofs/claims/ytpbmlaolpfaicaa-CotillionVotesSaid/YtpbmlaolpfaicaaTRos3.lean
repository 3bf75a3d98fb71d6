/- Seat rT: rosters: With; changes cut. -/
import Derived.Test.YtpbmlaolpfaicaaTRos2
namespace Go.AEX
open Go Go.AE Go.Proofs
set_option maxRecDepth 100000
set_option linter.unusedVariables false
set_option linter.unusedSimpArgs false

theorem xor_u32 (a b : Nat) (ha : a < 4294967296) (hb : b < 4294967296) : ibits .xor .u32 (a : Int) (b : Int) = ((a ^^^ b : Nat) : Int) := by
  show iwrap .u32 ((BitVec.ofInt 32 (a : Int) ^^^ BitVec.ofInt 32 (b : Int)).toNat : Int) = _
  have h : a ^^^ b < 2 ^ 32 := Nat.xor_lt_two_pow ha hb
  rw [BitVec.ofInt_natCast, BitVec.ofInt_natCast, BitVec.toNat_xor, BitVec.toNat_ofNat, BitVec.toNat_ofNat, Nat.mod_eq_of_lt (show a < 2 ^ 32 by omega), Nat.mod_eq_of_lt (show b < 2 ^ 32 by omega), iwrap_u32]
  omega
def flipS (S : Nat) (p : Int) : Nat := S ^^^ 2 ^ p.toNat
theorem flipS_lt {S : Nat} (hS : S < 4294967296) {p : Int} (hp : 0 ≤ p ∧ p < 32) : flipS S p < 4294967296 :=
  Nat.xor_lt_two_pow (n := 32) hS (show 2 ^ p.toNat < 2 ^ 32 from Nat.pow_lt_pow_right (by omega) (by omega))
theorem chkF_rg {S : Nat} {c : Chg} (h : chkF S c = 0) : 0 ≤ c.2.1 ∧ c.2.1 < 32 := by
  unfold chkF at h
  split at h
  · cases h
  · split at h
    · cases h
    · omega
def withF : Nat → Int → List Chg → Option (Nat × Int) × Int
  | S, ep, [] => (some (S, ep), 0)
  | S, ep, c :: l => if chkF S c ≠ 0 then (none, chkF S c) else withF (flipS S c.2.1) (ep + 1) l
def withR (S : Nat) (ep : Int) (l : List Chg) : AV := .tup [match (withF S ep l).1 with | some x => ros x.1 x.2 | none => ros S ep, .int .i64 (withF S ep l).2]
theorem withF_nil (S : Nat) (ep : Int) : withF S ep [] = (some (S, ep), 0) := rfl
theorem rwith_spec (S : Nat) (hS : S < 4294967296) (ep : Int) (he : 0 ≤ ep ∧ ep ≤ 1000000) (l : List Chg) (tight : Bool) (hl : l.length ≤ 1000) (hv : ∀ c ∈ l, c.2.2.length ≤ 1000) :
    Tri Try.prog 68 [ros S ep, .vsl 3 (crows l) tight] [] (fun v m => v = withR S ep l ∧ m = []) := by
  refine Tri.post ?_
  skip
  refine (Tri.enter (rl := r68) (code := c68) (by kernel_rfl) Try.func68 rfl c68_ok (by kernel_rfl) (by kernel_rfl) ?_)
  refine run_ok 4000 _ _ _ _ ?_
  simp (maxSteps := 10000000) only [go_sem, c68, r68, crows_len]
  refine sem_rounds (fun x : Nat × Nat × Int => x.1 ≤ l.length ∧ x.2.1 < 4294967296 ∧ (0 ≤ x.2.2 ∧ x.2.2 ≤ 1000000 + x.1) ∧ withF S ep l = withF x.2.1 x.2.2 (l.drop x.1))
    (fun x => [(2, .pbox 0 0), (4, .pbox 1 0), (6, .pbox 2 0), (11, .vsl 3 (crows l) tight), (12, .int .i64 l.length), (13, .int .i64 (x.1 : Nat))])
    (fun x => [.box [.int .u32 (x.2.1 : Nat), .int .i64 x.2.2], .box [.int .u32 0, .int .i64 0], .box [.int .u32 (S : Nat), .int .i64 ep]]) (fun x => l.length - x.1) (0, S, ep) [0, 1, 2] ⟨Nat.zero_le _, hS, by simp only; omega, by simp⟩ ?_ ?_
  · simp only [Emb, go_sem]
  rintro ⟨i, T, e⟩ ⟨hi, hT, hee, hw⟩
  simp only at hi hT hee hw ⊢
  by_cases c : i < l.length
  · have hin : (i : Int) < (l.length : Int) := by omega
    have hd : l.drop i = l[i] :: l.drop (i + 1) := List.drop_eq_getElem_cons c
    rw [hd] at hw
    have r0 := crows_r0 c; have r1 := crows_r1 c; have r2 := crows_r2 c
    have h0 := crows_h0 c; have h1 := crows_h1 c; have h2 := crows_h2 c
    have hcl := hv _ (List.getElem_mem c)
    have w1 := inc64 (show i < 1000000000000 by omega)
    generalize l[i] = ch at *
    obtain ⟨k, p, vs⟩ := ch
    have hc := check_spec T hT e k p vs hcl
    simp only at r0 r1 r2
    simp only [withF] at hw
    by_cases hz : chkF T (k, p, vs) = 0
    · have hp := chkF_rg hz
      simp only at hp
      rw [if_neg (by simp [hz])] at hw
      rw [hz] at hc
      have hsh : ishl .u32 1 p = ((2 ^ p.toNat : Nat) : Int) := by
        have := shl1_u32 p.toNat (by omega)
        rwa [show ((p.toNat : Nat) : Int) = p by omega] at this
      have hxo := xor_u32 T (2 ^ p.toNat) hT (show 2 ^ p.toNat < 2 ^ 32 from Nat.pow_lt_pow_right (by omega) (by omega))
      have hpn : 0 ≤ p := hp.1
      have w2 : iwrap .i64 (e + 1) = e + 1 := iwrap_i64_in (by omega)
      skip
      refine run_ok 4000 _ _ _ _ ?_
      simp (maxSteps := 10000000) only [go_sem, hin, r0, r1, r2, h0, h1, h2, w1, w2, hsh, hxo, hpn, Int.natCast_nonneg, crows_len]
      refine sem_call rfl rfl (((hc).embed [] rfl trivial rfl rfl rfl (by simp)).mono ?_)
      rintro _ _ ⟨_, _, ⟨rfl, rfl⟩, rfl, rfl⟩
      refine run_ok 4000 _ _ _ _ ?_
      simp (maxSteps := 10000000) only [go_sem, hin, r0, r1, r2, h0, h1, h2, w1, w2, hsh, hxo, hpn, Int.natCast_nonneg, crows_len]
      refine sem_drawG l68_0_ok (by kernel_rfl) ?_
      intro KK hKK
      simp (maxSteps := 10000000) only [go_sem, l68_0, hin, r0, r1, r2, h0, h1, h2, w1, w2, hsh, hxo, hpn, Int.natCast_nonneg, crows_len]
      subst hKK
      simp (maxSteps := 10000000) only [go_sem, hin, r0, r1, r2, h0, h1, h2, w1, w2, hsh, hxo, hpn, Int.natCast_nonneg, crows_len]
      refine ⟨(i + 1, flipS T p, e + 1), by simp only; omega, ⟨by simp only; omega, flipS_lt hT hp, by simp only; omega, hw⟩, [0, 1, 2], ?_⟩
      simp only [Emb, go_sem, flipS]
    · rw [if_pos hz] at hw
      have hne : (chkF T (k, p, vs) != 0) = true := by simpa using hz
      generalize chkF T (k, p, vs) = z at *
      skip
      refine run_ok 4000 _ _ _ _ ?_
      simp (maxSteps := 10000000) only [go_sem, hin, r0, r1, r2, h0, h1, h2, w1, hne, Int.natCast_nonneg, crows_len]
      refine sem_call rfl rfl (((hc).embed [] rfl trivial rfl rfl rfl (by simp)).mono ?_)
      rintro _ _ ⟨_, _, ⟨rfl, rfl⟩, rfl, rfl⟩
      refine run_ok 4000 _ _ _ _ ?_
      simp (maxSteps := 10000000) only [go_sem, hin, r0, r1, r2, h0, h1, h2, w1, hne, Int.natCast_nonneg, crows_len]
      refine ⟨_, _, .sub [] ?_ .done, by unfold withR; rw [hw], rfl⟩
      simp only [EmbV, go_sem]
  · have hin : ¬ (i : Int) < (l.length : Int) := by omega
    rw [List.drop_eq_nil_of_le (by omega), withF_nil] at hw
    skip
    refine run_ok 4000 _ _ _ _ ?_
    simp (maxSteps := 10000000) only [go_sem, hin]
    refine run_ok 4000 _ _ _ _ ?_
    simp (maxSteps := 10000000) only [go_sem, hin]
    refine ⟨_, _, .sub [] ?_ .done, by unfold withR; rw [hw], rfl⟩
    simp only [EmbV, go_sem]
def fewC (l : List Chg) : List Chg := (l.take 10).map fun c => (c.1, c.2.1, c.2.2.take 34)
theorem fewC_len (l : List Chg) : (fewC l).length ≤ 10 := by simp [fewC]; omega
theorem fewC_v (l : List Chg) : ∀ c ∈ fewC l, c.2.2.length ≤ 34 := by
  intro c hc; simp only [fewC, List.mem_map] at hc; obtain ⟨d, _, rfl⟩ := hc; simp; omega
end Go.AEX
