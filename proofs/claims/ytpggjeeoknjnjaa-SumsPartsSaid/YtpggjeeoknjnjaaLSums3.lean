/- The laws of sums, in parts. -/
import Derived.Test.YtpggjeeoknjnjaaLSums
import Derived.Test.YtpggjeeoknjnjaaAEu
namespace Go.AEX
open Go Go.AE Go.Proofs
set_option maxRecDepth 100000
set_option linter.unusedVariables false
set_option linter.unusedSimpArgs false

def few (l : List (List UInt8)) (n m : Nat) : List (List UInt8) := (l.take n).map fun s => s.take m
theorem few_take (l : List (List UInt8)) (m i : Nat) (h : i < l.length) : few l (i + 1) m = few l i m ++ [l[i].take m] := by
  unfold few; rw [List.take_succ_eq_append_getElem h, List.map_append]; rfl
theorem few_len (l : List (List UInt8)) (m i : Nat) (h : i ≤ l.length) : (few l i m).length = i := by simp [few]; omega
theorem few_flat (l : List (List UInt8)) (i : Nat) : (few l i 40).flatten.length ≤ 40 * i := by
  have : ∀ k : List (List UInt8), (k.map fun s => s.take 40).flatten.length ≤ 40 * k.length := by
    intro k
    induction k with
    | nil => simp
    | cons x k ih => simp only [List.map_cons, List.flatten_cons, List.length_append, List.length_cons, List.length_take]; omega
  have := this (l.take i)
  have h2 : (l.take i).length ≤ i := by simp; omega
  unfold few; omega
theorem few_spec (l : List (List UInt8)) (tight : Bool) : Tri Try.prog 20 [.vsl 1 (sv l) tight, .int .i64 8, .int .i64 40] []
    (fun v m => v = .tup [.sl 0 0 (few l 8 40).length (few l 8 40).length false, .str (few l 8 40).flatten] ∧ m = [.row 1 (sv (few l 8 40))]) := by
  refine (Tri.enter (rl := r20) (code := c20) (by kernel_rfl) Try.func20 rfl c20_ok (by kernel_rfl) (by kernel_rfl) ?_)
  refine run_ok 4000 _ _ _ _ ?_
  simp only [go_sem, c20, r20]
  refine sem_virt 8 1 rfl ?_
  simp only [go_sem]
  refine sem_rounds (fun i => i ≤ 8 ∧ i ≤ l.length) (fun i => [(0, .vsl 1 (sv l) tight), (1, .int .i64 8), (2, .int .i64 40), (8, .sl 0 0 i i false), (9, .str (few l i 40).flatten), (10, .int .i64 (i : Nat))]) (fun i => [.row 1 (sv (few l i 40))]) (fun i => 8 - i) 0 [0] (by simp) ?_ ?_
  · simp only [Emb, go_sem]; simp [few]; rfl
  rintro i ⟨hi, hil⟩
  refine run_ok 4000 _ _ _ _ ?_
  simp only [go_sem]
  refine ⟨fun hlt => ⟨fun h8 => ?_, fun h8 => ?_⟩, fun hge => ?_⟩
  · rw [sv_len] at hlt ⊢
    have hlt : i < l.length := by omega
    rw [show addi 0 (i : Int) = i by simp [addi], sv_rstr hlt]
    refine ⟨by omega, sv_hasS hlt, ?_⟩
    refine sem_call rfl rfl (((cut_spec (l[i]) 40 (by decide)).embed [] rfl trivial rfl rfl rfl (by simp)).mono ?_)
    rintro _ _ ⟨_, _, ⟨rfl, rfl⟩, rfl, rfl⟩
    refine run_ok 4000 _ _ _ _ ?_
    simp only [go_sem]
    rw [show addi 0 (i : Int) = i by simp [addi], sv_rstr hlt, sv_len, sv_len, few_len _ _ _ hil]
    refine ⟨⟨by omega, by unfold small; omega⟩, by omega, sv_hasS hlt, ?_⟩
    refine sem_call rfl rfl (((cut_spec (l[i]) 40 (by decide)).embed [] rfl trivial rfl rfl rfl (by simp)).mono ?_)
    rintro _ _ ⟨_, _, ⟨rfl, rfl⟩, rfl, rfl⟩
    refine run_ok 4000 _ _ _ _ ?_
    simp only [go_sem]
    have hf := few_flat l i
    refine ⟨by rw [List.length_take]; omega, i + 1, by omega, by omega, [1], ?_⟩
    have e1 : sub (sv (few l i 40)) 0 i ++ [[AV.str (List.take 40 l[i])]] = sv (few l (i + 1) 40) := by
      rw [few_take _ _ _ hlt]
      simp only [sub, sv, List.drop_zero, List.map_append, List.map_cons, List.map_nil]
      rw [List.take_of_length_le (by simp [few]; omega)]
    have e2 : max (i + 1) i = i + 1 := by omega
    simp only [Emb, go_sem]
    rw [iwrap_i64_in (by omega), e1, e2, few_take _ _ _ hlt]
    simp
  · have e : i = 8 := by omega
    subst e
    refine run_ok 4000 _ _ _ _ ?_
    simp only [go_sem]
    rw [few_len _ _ _ hil]
  · rw [sv_len] at hge
    have e : few l 8 40 = few l i 40 := by
      unfold few; rw [List.take_of_length_le (show l.length ≤ 8 by omega), List.take_of_length_le (show l.length ≤ i by omega)]
    rw [e]
    refine run_ok 4000 _ _ _ _ ?_
    simp only [go_sem]
    rw [few_len _ _ _ hil]
theorem fnvL_flat (f : Int) (l : List (List UInt8)) : fnvL f l = fnvF f l.flatten := by
  unfold fnvL fnvF; rw [List.foldl_flatten]
theorem crcL_flat (f : Int) (l : List (List UInt8)) : crcL f l = crcF f l.flatten := by
  unfold crcL crcF; rw [List.foldl_flatten]
theorem inv_w (y : BitVec 32) : inv32 (inv32 (w32 y)) = w32 y := by
  unfold inv32
  rw [show (4294967295 : Int) = w32 4294967295#32 by decide, xor_w32, xor_w32, ← BitVec.xor_assoc, BitVec.xor_self, BitVec.zero_xor]
theorem inv_crcL (l : List (List UInt8)) : inv32 (inv32 (crcL (inv32 0) l)) = crcL (inv32 0) l := by
  rw [crcL_flat]
  obtain ⟨y, hy⟩ := crcF_g l.flatten 4294967295#32
  rw [show inv32 0 = w32 4294967295#32 by decide, hy, inv_w]
theorem sumsParts_spec (l : List (List UInt8)) (hl : l.length ≤ 9223372036854775807 ∧ ∀ s ∈ l, s.length ≤ 9223372036854775807) : Tri Try.prog 5 [.vsl 1 (sv l) false] [] (fun v m => v = .bool true) := by
  refine (Tri.asB (Tri.enter (rl := r5) (code := c5) (by kernel_rfl) Try.func5 rfl c5_ok (by kernel_rfl) (by kernel_rfl) ?_))
  refine run_ok 4000 _ _ _ _ ?_
  simp only [go_sem, c5, r5]
  refine sem_call rfl rfl ((few_spec l false).mono ?_)
  rintro _ _ ⟨rfl, rfl⟩
  refine run_ok 4000 _ _ _ _ ?_
  simp only [go_sem]
  refine sem_freeze 0 rfl (by simp only [go_sem, sv_len]; simp) ?_
  generalize hF : few l 8 40 = F
  have hF8 : F.length ≤ 8 := by rw [← hF]; simp [few]; omega
  have hFs : ∀ s ∈ F, s.length ≤ 1000000 := by
    rw [← hF]; intro s hs; simp only [few, List.mem_map] at hs; obtain ⟨x, _, rfl⟩ := hs; rw [List.length_take]; omega
  have hFf : F.flatten.length ≤ 1000000 := by have := few_flat l 8; rw [hF] at this; omega
  rw [show sub (sv F) 0 F.length = sv F by simp only [sub, List.drop_zero]; exact List.take_of_length_le (by rw [sv_len]; omega)]
  refine sem_call rfl rfl (((awake01_spec).embed [] rfl trivial rfl rfl rfl (by simp)).mono ?_)
  rintro _ _ ⟨_, _, ⟨rfl, rfl⟩, rfl, rfl⟩
  refine run_ok 4000 _ _ _ _ ?_
  simp only [go_sem]
  refine sem_rounds (fun i => i ≤ F.length) (fun i => [(16, .vsl 1 (sv F) false), (17, .int .i64 F.length), (18, .int .i64 (i : Nat)), (5, .int .u64 (fnvL 14695981039346656037 (F.take i))), (6, .int .u32 (inv32 (crcL (inv32 0) (F.take i)))), (3, .vsl 1 (sv F) false), (4, .str F.flatten)]) (fun i => []) (fun i => F.length - i) 0 [] (Nat.zero_le _) ?_ ?_
  · simp only [Emb, go_sem, sv_len]; simp [fnvL, crcL]; decide
  intro i hi
  refine run_ok 4000 _ _ _ _ ?_
  simp only [go_sem]
  refine ⟨fun hlt => ?_, fun hge => ?_⟩
  · have hlt : i < F.length := by omega
    have hs1 := hFs _ (List.getElem_mem hlt)
    rw [show addi 0 (i : Int) = i by simp [addi], sv_rstr hlt, sv_len]
    refine ⟨by omega, sv_hasS hlt, ?_⟩
    simp only [sv_one]
    refine sem_call rfl rfl ((add_spec _ [F[i]] _ (by simp) (small1 hs1)).mono ?_)
    rintro _ _ ⟨rfl, rfl⟩
    refine run_ok 4000 _ _ _ _ ?_
    simp only [go_sem]
    simp only [sv_one]
    refine sem_call rfl rfl ((more_spec _ [F[i]] _ (by simp) (small1 hs1)).mono ?_)
    rintro _ _ ⟨rfl, rfl⟩
    refine run_ok 4000 _ _ _ _ ?_
    simp only [go_sem]
    refine ⟨i + 1, by omega, by omega, [], ?_⟩
    simp only [Emb, go_sem]
    rw [iwrap_i64_in (by omega), fnvL_take _ _ _ hlt, crcL_take _ _ _ hlt, inv_crcL]
    simp [fnvL, crcL]
  · refine run_ok 4000 _ _ _ _ ?_
    simp only [go_sem]
    rw [List.take_of_length_le (show F.length ≤ i by omega)]
    refine sem_call rfl rfl ((rOf_spec _ hFf).mono ?_)
    rintro _ _ ⟨rfl, rfl⟩
    refine run_ok 4000 _ _ _ _ ?_
    simp only [go_sem]
    rw [fnvL_flat, beq_self_eq_true]
    simp only [go_sem]
    refine sem_call rfl rfl ((rCrc_spec _ hFf).mono ?_)
    rintro _ _ ⟨rfl, rfl⟩
    refine run_ok 4000 _ _ _ _ ?_
    simp only [go_sem]
    rw [crcL_flat, crc_whole, beq_self_eq_true]
    simp only [go_sem]
    refine sem_call rfl rfl ((of_spec F _ (by omega) hFs).mono ?_)
    rintro _ _ ⟨rfl, rfl⟩
    refine run_ok 4000 _ _ _ _ ?_
    simp only [go_sem]
    refine sem_call rfl rfl ((rOf_spec _ hFf).mono ?_)
    rintro _ _ ⟨rfl, rfl⟩
    refine run_ok 4000 _ _ _ _ ?_
    simp only [go_sem]
    rw [fnvL_flat, beq_self_eq_true]
    simp only [go_sem]
    refine sem_call rfl rfl ((crc_spec F _ (by omega) hFs).mono ?_)
    rintro _ _ ⟨rfl, rfl⟩
    refine run_ok 4000 _ _ _ _ ?_
    simp only [go_sem]
    refine sem_call rfl rfl ((rCrc_spec _ hFf).mono ?_)
    rintro _ _ ⟨rfl, rfl⟩
    refine run_ok 4000 _ _ _ _ ?_
    simp only [go_sem]
    rw [crcL_flat, crc_whole, beq_self_eq_true]
    simp only [go_sem]
    refine sem_call rfl rfl ((Tri.nil1 1 true (crc_spec [] true (by simp) (by simp))).mono ?_)
    rintro _ _ ⟨rfl, rfl⟩
    refine run_ok 4000 _ _ _ _ ?_
    simp only [go_sem]
    refine sem_call rfl rfl ((more_spec _ F _ (by omega) hFs).mono ?_)
    rintro _ _ ⟨rfl, rfl⟩
    refine run_ok 4000 _ _ _ _ ?_
    simp only [go_sem]
    rw [show inv32 (crcL (inv32 0) []) = 0 by decide, crcL_flat, crc_whole, beq_self_eq_true]
end Go.AEX
