/- The laws of sums, more: contracts. -/
import Derived.Test.YtpggjeeoknjnjaaLSums
import Derived.Test.YtpggjeeoknjnjaaBytes
namespace Go.AEX
open Go Go.AE Go.Proofs
set_option maxRecDepth 100000
set_option linter.unusedVariables false
set_option linter.unusedSimpArgs false

theorem sumsTell_spec (s0 : List UInt8) (hs : s0.length ≤ 140737488351232) (at_ : Int) (hat : (Lit.int .i64 at_).wf = true) (by_ : Int) (hby : (Lit.int .u8 by_).wf = true) :
    Tri Try.prog 6 [.str s0, .int .i64 at_, .int .u8 by_] [] (fun v m => v = .bool true) := by
  refine (Tri.asB (Tri.enter (rl := r6) (code := c6) (by kernel_rfl) Try.func6 rfl c6_ok (by kernel_rfl) (by kernel_rfl) ?_))
  refine run_ok 4000 _ _ _ _ ?_
  simp only [go_sem, c6, r6]
  refine sem_call rfl rfl ((cut_spec _ _ (by decide)).mono ?_)
  rintro _ _ ⟨rfl, rfl⟩
  refine run_ok 4000 _ _ _ _ ?_
  simp only [go_sem]
  generalize hS : List.take 200 s0 = s
  have hs : s.length ≤ 200 := by rw [← hS]; simp; omega
  refine sem_call rfl rfl ((awake01_spec).mono ?_)
  rintro _ _ ⟨rfl, rfl⟩
  refine run_ok 4000 _ _ _ _ ?_
  simp only [go_sem]
  refine ⟨fun h => ?_, fun h1 => ⟨fun h => ?_, fun h2 => ⟨fun h => ?_, fun h3 => ?_⟩⟩⟩
  · refine sem_call rfl rfl ((awake01_spec).mono ?_)
    rintro _ _ ⟨rfl, rfl⟩
    refine run_ok 4000 _ _ _ _ ?_
    simp only [go_sem]
  · refine sem_call rfl rfl ((awake01_spec).mono ?_)
    rintro _ _ ⟨rfl, rfl⟩
    refine run_ok 4000 _ _ _ _ ?_
    simp only [go_sem]
  · refine sem_call rfl rfl ((awake01_spec).mono ?_)
    rintro _ _ ⟨rfl, rfl⟩
    refine run_ok 4000 _ _ _ _ ?_
    simp only [go_sem]
  obtain ⟨i, rfl⟩ : ∃ i : Nat, at_ = (i : Int) := ⟨at_.toNat, by omega⟩
  have hi : i < s.length := by omega
  rw [show addi 0 (i : Int) = i by simp [addi]]
  obtain ⟨B, rfl⟩ := wf_u8 hby
  rw [bytes_rint hi, xor_u8, bytes_rput hi, bytes_sub, bytes_to, bytes_len]
  refine ⟨by unfold small; omega, by omega, bytes_hasI hi, by omega, bytes_inR hi, ⟨by simp, bytes_all _⟩, ?_⟩
  have e : List.take s.length (List.drop 0 (s.set i (s[i] ^^^ B))) = s.set i (s[i] ^^^ B) := by
    rw [List.drop_zero, List.take_of_length_le (by simp)]
  rw [e]
  simp only [sv_one]
  refine sem_call rfl rfl (((crc_spec [s.set i (s[i] ^^^ B)] _ (by simp) (small1 (by simp; omega))).embed [] rfl trivial rfl rfl rfl (by simp)).mono ?_)
  rintro _ _ ⟨_, _, ⟨rfl, rfl⟩, rfl, rfl⟩
  refine run_ok 4000 _ _ _ _ ?_
  simp only [go_sem]
  simp only [sv_one]
  refine sem_call rfl rfl (((crc_spec [s] _ (by simp) (small1 (by omega))).embed [] rfl trivial rfl rfl rfl (by simp)).mono ?_)
  rintro _ _ ⟨_, _, ⟨rfl, rfl⟩, rfl, rfl⟩
  refine run_ok 4000 _ _ _ _ ?_
  simp only [go_sem]
  rw [show crcL (inv32 0) [s.set i (s[i] ^^^ B)] = crcF (inv32 0) (s.set i (s[i] ^^^ B)) from rfl, show crcL (inv32 0) [s] = crcF (inv32 0) s from rfl]
  have hB : B ≠ 0 := by intro e; subst e; simp at h3
  have hne : s[i] ^^^ B ≠ s[i] := by
    intro e; apply hB
    have h := congrArg (fun z => s[i] ^^^ z) e
    simpa [← UInt8.xor_assoc] using h
  rw [show inv32 0 = w32 4294967295#32 by decide]
  have key := crc_tell s i hi _ hne 4294967295#32
  obtain ⟨y, hy⟩ := crcF_g s 4294967295#32
  obtain ⟨z, hz⟩ := crcF_g (s.set i (s[i] ^^^ B)) 4294967295#32
  rw [hy, hz] at key ⊢
  have : (inv32 (w32 z) != inv32 (w32 y)) = true := by
    simp only [bne_iff_ne]; intro e; rw [inv32_inj e] at key; exact key rfl
  rw [this]
end Go.AEX
