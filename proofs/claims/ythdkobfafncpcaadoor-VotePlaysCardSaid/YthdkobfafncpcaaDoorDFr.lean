/- DIs2, DIs3, DVc, DVd, DFr. -/
import Derived.Test.YthdkobfafncpcaaDoorDVb
import Derived.Test.YthdkobfafncpcaaDoorAEzq
/- Door seat: law18.Is: the draws of its round. -/
namespace Go.AEX
open Go Go.AE Go.Proofs
set_option maxRecDepth 100000
set_option linter.unusedVariables false
set_option linter.unusedSimpArgs false
theorem is_no
    (S : Nat) (ep : Int) (L : List Int) (n : Nat) (p : Int) (a : Bool) (hap : Tri Tryd.prog 24 [ros S ep, .int .i64 p] [] (fun v m => v = .bsym a ∧ m = []))
      (hrp : Tri Tryd.prog 23 [rr L false ep, .int .i64 p] [] (fun v m => v = .bool a ∧ m = [])) {k : List C} {Q : Exit → Tr → Mem → Prop} 
      (h : SemW Tryd.prog Tryd.f34.ntmps 0 k (mkP [(2, .pbox 0 0), (3, .pbox 1 0), (5, .int .i64 (n : Nat)), (6, .bool false), (7, .int .i64 p), (62, .bool false)]) [.box [.int .u32 (S : Nat), .int .i64 ep], .box [.vsl 1 (iv .i64 L) false, .int .i64 ep]] Q) :
      SemW Tryd.prog Tryd.f34.ntmps 0 (.draw d34_1 :: k) (mkP [(2, .pbox 0 0), (3, .pbox 1 0), (5, .int .i64 (n : Nat)), (6, .bool false), (7, .int .i64 p)]) [.box [.int .u32 (S : Nat), .int .i64 ep], .box [.vsl 1 (iv .i64 L) false, .int .i64 ep]] Q := by
  have e1 : (a == a) = true := beq_self_eq_true a
  skip
  simp (maxSteps := 10000000) only [go_sem, e1, beq_self_eq_true]
  refine sem_drawS l34_1_ok (by kernel_rfl) ?_
  intro KK hKK
  simp (maxSteps := 10000000) only [go_sem, l34_1, e1, beq_self_eq_true]
  refine TriZ.of (((hap).embed [] rfl (by repeat' first | exact trivial | rfl | (simp only [go_sem]; done) | constructor) rfl (by first | rfl | simp only [go_sem]) rfl (by simp)).mono ?_)
  rintro _ _ ⟨_, _, ⟨rfl, rfl⟩, rfl, rfl⟩
  simp (maxSteps := 10000000) only [go_sem, e1, beq_self_eq_true]
  refine TriZ.of (((hrp).embed [] rfl (by repeat' first | exact trivial | rfl | (simp only [go_sem]; done) | constructor) rfl (by first | rfl | simp only [go_sem]) rfl (by simp)).mono ?_)
  rintro _ _ ⟨_, _, ⟨rfl, rfl⟩, rfl, rfl⟩
  simp (maxSteps := 10000000) only [go_sem, e1, beq_self_eq_true]
  subst hKK
  refine (show SemW _ _ _ _ _ _ _ from ?_)
  exact sem_sub0 _ (by simp only [go_sem]) (Nat.zero_le _) (by simp only [go_sem]) (by simp only [go_sem]) h
theorem is_neg
    (S : Nat) (ep : Int) (L : List Int) (n : Nat) (p : Int) (a : Bool) (hap : Tri Tryd.prog 24 [ros S ep, .int .i64 p] [] (fun v m => v = .bsym a ∧ m = []))
      (hrp : Tri Tryd.prog 23 [rr L false ep, .int .i64 p] [] (fun v m => v = .bool a ∧ m = [])) {k : List C} {Q : Exit → Tr → Mem → Prop} (c0 : ¬ p ≥ 0)
      (h : SemW Tryd.prog Tryd.f34.ntmps 0 k (mkP [(2, .pbox 0 0), (3, .pbox 1 0), (5, .int .i64 (n : Nat)), (6, .bool true), (7, .int .i64 p), (62, .bool false)]) [.box [.int .u32 (S : Nat), .int .i64 ep], .box [.vsl 1 (iv .i64 L) false, .int .i64 ep]] Q) :
      SemW Tryd.prog Tryd.f34.ntmps 0 (.draw d34_1 :: k) (mkP [(2, .pbox 0 0), (3, .pbox 1 0), (5, .int .i64 (n : Nat)), (6, .bool true), (7, .int .i64 p)]) [.box [.int .u32 (S : Nat), .int .i64 ep], .box [.vsl 1 (iv .i64 L) false, .int .i64 ep]] Q := by
  have e1 : (a == a) = true := beq_self_eq_true a
  skip
  simp (maxSteps := 10000000) only [go_sem, e1, c0, beq_self_eq_true]
  refine sem_drawS l34_1_ok (by kernel_rfl) ?_
  intro KK hKK
  simp (maxSteps := 10000000) only [go_sem, l34_1, e1, c0, beq_self_eq_true]
  refine TriZ.of (((hap).embed [] rfl (by repeat' first | exact trivial | rfl | (simp only [go_sem]; done) | constructor) rfl (by first | rfl | simp only [go_sem]) rfl (by simp)).mono ?_)
  rintro _ _ ⟨_, _, ⟨rfl, rfl⟩, rfl, rfl⟩
  simp (maxSteps := 10000000) only [go_sem, e1, c0, beq_self_eq_true]
  refine TriZ.of (((hrp).embed [] rfl (by repeat' first | exact trivial | rfl | (simp only [go_sem]; done) | constructor) rfl (by first | rfl | simp only [go_sem]) rfl (by simp)).mono ?_)
  rintro _ _ ⟨_, _, ⟨rfl, rfl⟩, rfl, rfl⟩
  simp (maxSteps := 10000000) only [go_sem, e1, c0, beq_self_eq_true]
  subst hKK
  refine (show SemW _ _ _ _ _ _ _ from ?_)
  exact sem_sub0 _ (by simp only [go_sem]) (Nat.zero_le _) (by simp only [go_sem]) (by simp only [go_sem]) h
theorem is_hi
    (S : Nat) (ep : Int) (L : List Int) (n : Nat) (p : Int) (a : Bool) (hap : Tri Tryd.prog 24 [ros S ep, .int .i64 p] [] (fun v m => v = .bsym a ∧ m = []))
      (hrp : Tri Tryd.prog 23 [rr L false ep, .int .i64 p] [] (fun v m => v = .bool a ∧ m = [])) {k : List C} {Q : Exit → Tr → Mem → Prop} (c0 : p ≥ 0) (c1 : ¬ p < (n : Int))
      (h : SemW Tryd.prog Tryd.f34.ntmps 0 k (mkP [(2, .pbox 0 0), (3, .pbox 1 0), (5, .int .i64 (n : Nat)), (6, .bool true), (7, .int .i64 p), (62, .bool false)]) [.box [.int .u32 (S : Nat), .int .i64 ep], .box [.vsl 1 (iv .i64 L) false, .int .i64 ep]] Q) :
      SemW Tryd.prog Tryd.f34.ntmps 0 (.draw d34_1 :: k) (mkP [(2, .pbox 0 0), (3, .pbox 1 0), (5, .int .i64 (n : Nat)), (6, .bool true), (7, .int .i64 p)]) [.box [.int .u32 (S : Nat), .int .i64 ep], .box [.vsl 1 (iv .i64 L) false, .int .i64 ep]] Q := by
  have e1 : (a == a) = true := beq_self_eq_true a
  skip
  simp (maxSteps := 10000000) only [go_sem, e1, c0, c1, beq_self_eq_true]
  refine sem_drawS l34_1_ok (by kernel_rfl) ?_
  intro KK hKK
  simp (maxSteps := 10000000) only [go_sem, l34_1, e1, c0, c1, beq_self_eq_true]
  refine TriZ.of (((hap).embed [] rfl (by repeat' first | exact trivial | rfl | (simp only [go_sem]; done) | constructor) rfl (by first | rfl | simp only [go_sem]) rfl (by simp)).mono ?_)
  rintro _ _ ⟨_, _, ⟨rfl, rfl⟩, rfl, rfl⟩
  simp (maxSteps := 10000000) only [go_sem, e1, c0, c1, beq_self_eq_true]
  refine TriZ.of (((hrp).embed [] rfl (by repeat' first | exact trivial | rfl | (simp only [go_sem]; done) | constructor) rfl (by first | rfl | simp only [go_sem]) rfl (by simp)).mono ?_)
  rintro _ _ ⟨_, _, ⟨rfl, rfl⟩, rfl, rfl⟩
  simp (maxSteps := 10000000) only [go_sem, e1, c0, c1, beq_self_eq_true]
  subst hKK
  refine (show SemW _ _ _ _ _ _ _ from ?_)
  exact sem_sub0 _ (by simp only [go_sem]) (Nat.zero_le _) (by simp only [go_sem]) (by simp only [go_sem]) h
theorem is_lo
    (S : Nat) (ep : Int) (L : List Int) (n : Nat) (p : Int) (a : Bool) (hap : Tri Tryd.prog 24 [ros S ep, .int .i64 p] [] (fun v m => v = .bsym a ∧ m = []))
      (hrp : Tri Tryd.prog 23 [rr L false ep, .int .i64 p] [] (fun v m => v = .bool a ∧ m = [])) {k : List C} {Q : Exit → Tr → Mem → Prop} (c0 : p ≥ 0) (c1 : p < (n : Int)) (ha : a = true)
      (h : SemW Tryd.prog Tryd.f34.ntmps 0 k (mkP [(2, .pbox 0 0), (3, .pbox 1 0), (5, .int .i64 (n : Nat)), (6, .bool true), (7, .int .i64 p), (62, .bsym false)]) [.box [.int .u32 (S : Nat), .int .i64 ep], .box [.vsl 1 (iv .i64 L) false, .int .i64 ep]] Q) :
      SemW Tryd.prog Tryd.f34.ntmps 0 (.draw d34_1 :: k) (mkP [(2, .pbox 0 0), (3, .pbox 1 0), (5, .int .i64 (n : Nat)), (6, .bool true), (7, .int .i64 p)]) [.box [.int .u32 (S : Nat), .int .i64 ep], .box [.vsl 1 (iv .i64 L) false, .int .i64 ep]] Q := by
  subst ha
  skip
  simp (maxSteps := 10000000) only [go_sem, c0, c1, beq_self_eq_true]
  refine sem_drawS l34_1_ok (by kernel_rfl) ?_
  intro KK hKK
  simp (maxSteps := 10000000) only [go_sem, l34_1, c0, c1, beq_self_eq_true]
  refine TriZ.of (((hap).embed [] rfl (by repeat' first | exact trivial | rfl | (simp only [go_sem]; done) | constructor) rfl (by first | rfl | simp only [go_sem]) rfl (by simp)).mono ?_)
  rintro _ _ ⟨_, _, ⟨rfl, rfl⟩, rfl, rfl⟩
  simp (maxSteps := 10000000) only [go_sem, c0, c1, beq_self_eq_true]
  refine TriZ.of (((hrp).embed [] rfl (by repeat' first | exact trivial | rfl | (simp only [go_sem]; done) | constructor) rfl (by first | rfl | simp only [go_sem]) rfl (by simp)).mono ?_)
  rintro _ _ ⟨_, _, ⟨rfl, rfl⟩, rfl, rfl⟩
  simp (maxSteps := 10000000) only [go_sem, c0, c1, beq_self_eq_true]
  refine TriZ.of (((hap).embed [] rfl (by repeat' first | exact trivial | rfl | (simp only [go_sem]; done) | constructor) rfl (by first | rfl | simp only [go_sem]) rfl (by simp)).mono ?_)
  rintro _ _ ⟨_, _, ⟨rfl, rfl⟩, rfl, rfl⟩
  simp (maxSteps := 10000000) only [go_sem, c0, c1, beq_self_eq_true]
  subst hKK
  refine (show SemW _ _ _ _ _ _ _ from ?_)
  exact sem_sub0 _ (by simp only [go_sem]) (Nat.zero_le _) (by simp only [go_sem]) (by simp only [go_sem]) h
end Go.AEX

/- Door seat: law18.Is: a roster is the reference's. -/
namespace Go.AEX
open Go Go.AE Go.Proofs
set_option maxRecDepth 100000
set_option linter.unusedVariables false
set_option linter.unusedSimpArgs false
theorem is_spec (S : Nat) (hS : S < 4294967296) (ep : Int) : Tri Tryd.prog 34 [ros S ep, rr (allN S 32) false ep] [] (fun v m => v = .int .i64 0 ∧ m = []) := by
  refine Tri.post ?_
  have hal := rall_spec S hS ep
  have hll := allN_len S 32
  have hsa := lsame_spec (allN S 32) (by omega) false false
  have hle := r_len_spec S hS ep
  have hpc := pc_all S
  have hep := epoch_spec S ep
  have hfr := free_spec S hS ep
  have hfl := freeN_le S
  have hfa := free_all (S := S)
  skip
  refine (Tri.enter (rl := r34) (code := c34) (by kernel_rfl) Tryd.func34 rfl c34_ok (by kernel_rfl) (by kernel_rfl) ?_)
  refine run_ok 4000 _ _ _ _ ?_
  simp (maxSteps := 10000000) only [go_sem, c34, r34, iv_len, hpc, beq_self_eq_true]
  refine sem_drawG l34_0_ok (by kernel_rfl) ?_
  intro KK hKK
  simp (maxSteps := 10000000) only [go_sem, l34_0, iv_len, hpc, beq_self_eq_true]
  refine TriZ.of (((hal).embed [] rfl (by repeat' first | exact trivial | rfl | (simp only [go_sem]; done) | constructor) rfl (by first | rfl | simp only [go_sem]) rfl (by simp)).mono ?_)
  rintro _ _ ⟨_, _, ⟨rfl, rfl⟩, rfl, rfl⟩
  simp (maxSteps := 10000000) only [go_sem, iv_len, hpc, beq_self_eq_true]
  refine TriZ.of (((hsa).embed [] rfl (by repeat' first | exact trivial | rfl | (simp only [go_sem]; done) | constructor) rfl (by first | rfl | simp only [go_sem]) rfl (by simp)).mono ?_)
  rintro _ _ ⟨_, _, ⟨rfl, rfl⟩, rfl, rfl⟩
  simp (maxSteps := 10000000) only [go_sem, iv_len, hpc, beq_self_eq_true]
  refine TriZ.of (((hle).embed [] rfl (by repeat' first | exact trivial | rfl | (simp only [go_sem]; done) | constructor) rfl (by first | rfl | simp only [go_sem]) rfl (by simp)).mono ?_)
  rintro _ _ ⟨_, _, ⟨rfl, rfl⟩, rfl, rfl⟩
  simp (maxSteps := 10000000) only [go_sem, iv_len, hpc, beq_self_eq_true]
  refine TriZ.of (((hep).embed [] rfl (by repeat' first | exact trivial | rfl | (simp only [go_sem]; done) | constructor) rfl (by first | rfl | simp only [go_sem]) rfl (by simp)).mono ?_)
  rintro _ _ ⟨_, _, ⟨rfl, rfl⟩, rfl, rfl⟩
  simp (maxSteps := 10000000) only [go_sem, iv_len, hpc, beq_self_eq_true]
  subst hKK
  simp (maxSteps := 10000000) only [go_sem, iv_len, hpc, beq_self_eq_true]
  refine sem_call rfl rfl (((hfr).embed [] rfl trivial rfl rfl rfl (by simp)).mono ?_)
  rintro _ _ ⟨_, _, ⟨rfl, rfl⟩, rfl, rfl⟩
  refine run_ok 4000 _ _ _ _ ?_
  simp (maxSteps := 10000000) only [go_sem, iv_len, hpc, beq_self_eq_true]
  have hnx : ∀ x : Nat, x < 100 → iwrap .i64 ((x : Int) - 1 + 1) = ((x + 1 : Nat) : Int) - 1 := fun x hx => by rw [iwrap_i64_in (by omega)]; omega
  have hrh : ∀ p : Int, Tri Tryd.prog 23 [rr (allN S 32) false ep, .int .i64 p] [] (fun v m => v = .bool (hasN S p) ∧ m = []) := fun p => by
    have := rhas_spec (allN S 32) false (by omega) ep p
    rwa [allN_dec] at this
  have hha := r_has_spec S hS ep
  have hmin : ∀ p : Int, 0 ≤ p → p < freeN S → hasN S p = true := fun p h0 h1 => by
    rw [hasN_iff]; exact ⟨by omega, freeN_min (by omega)⟩
  have hno : freeN S < 32 → hasN S (freeN S : Nat) = false := fun h => by
    have := bitI S _ h
    rw [freeN_lt h] at this; exact this
  generalize freeN S = n at *
  generalize hL : allN S 32 = L at *
  by_cases c6 : n < 32
  · have d6 : decide ((n : Int) < 32) = true := decide_eq_true (by omega)
    rw [d6]
    refine sem_like 6 (.bool true) rfl (Like.bool _) ?_
    simp (maxSteps := 10000000) only [go_sem, iv_len, hpc, beq_self_eq_true]
    refine sem_rounds (fun x : Nat => x ≤ 34) (fun x => [(2, .pbox 0 0), (3, .pbox 1 0), (5, .int .i64 (n : Nat)), (6, .bool true), (7, .int .i64 ((x : Int) - 1))])
      (fun x => [.box [.int .u32 (S : Nat), .int .i64 ep], .box [.vsl 1 (iv .i64 L) false, .int .i64 ep]]) (fun x => 34 - x) 0 [0, 1] (Nat.zero_le _) ?_ ?_
    · simp [Emb, go_sem]
    intro x hx
    by_cases c : x < 34
    · have hin : (x : Int) - 1 ≤ 32 := by omega
      have w1 := hnx x (by omega)
      have hap := hha ((x : Int) - 1)
      have hrp := hrh ((x : Int) - 1)
      have hmp := hmin ((x : Int) - 1)
      generalize hP : (x : Int) - 1 = p at *
      generalize hasN S p = a at *
      skip
      refine run_ok 4000 _ _ _ _ ?_
      simp (maxSteps := 10000000) only [go_sem, hin, w1]
      refine sem_sub0 [(2, .pbox 0 0), (3, .pbox 1 0), (5, .int .i64 (n : Nat)), (6, .bool true), (7, .int .i64 p)] (by simp only [go_sem]) (Nat.zero_le _) (by simp only [go_sem]) (by simp only [go_sem]) ?_
      by_cases c0 : p ≥ 0
      · by_cases cp : p < (n : Int)
        · refine is_lo S ep L n p a hap hrp c0 cp (hmp c0 cp) ?_
          refine run_ok 4000 _ _ _ _ ?_
          simp (maxSteps := 10000000) only [go_sem, hin, w1]
          refine ⟨x + 1, by omega, c, [0, 1], ?_⟩
          simp only [Emb, go_sem]
        · refine is_hi S ep L n p a hap hrp c0 cp ?_
          refine run_ok 4000 _ _ _ _ ?_
          simp (maxSteps := 10000000) only [go_sem, hin, w1]
          refine ⟨x + 1, by omega, c, [0, 1], ?_⟩
          simp only [Emb, go_sem]
      · refine is_neg S ep L n p a hap hrp c0 ?_
        refine run_ok 4000 _ _ _ _ ?_
        simp (maxSteps := 10000000) only [go_sem, hin, w1]
        refine ⟨x + 1, by omega, c, [0, 1], ?_⟩
        simp only [Emb, go_sem]
    · have hin : ¬ (x : Int) - 1 ≤ 32 := by omega
      have hl32 : (L.length : Int) < 32 := by have := hfa.2 c6; omega
      have hh := hha (n : Nat)
      rw [hno c6] at hh
      skip
      refine run_ok 4000 _ _ _ _ ?_
      simp (maxSteps := 10000000) only [go_sem, hin, hl32, iv_len, beq_self_eq_true]
      refine run_ok 4000 _ _ _ _ ?_
      simp (maxSteps := 10000000) only [go_sem, hin, hl32, iv_len, beq_self_eq_true]
      refine sem_call rfl rfl (((hh).embed [] rfl trivial rfl rfl rfl (by simp)).mono ?_)
      rintro _ _ ⟨_, _, ⟨rfl, rfl⟩, rfl, rfl⟩
      refine run_ok 4000 _ _ _ _ ?_
      simp (maxSteps := 10000000) only [go_sem, hin, hl32, iv_len, beq_self_eq_true]
      refine ⟨_, _, .sub [] ?_ .done, rfl, rfl⟩
      simp only [EmbV, go_sem]
  · have d6 : decide ((n : Int) < 32) = false := decide_eq_false (by omega)
    rw [d6]
    refine sem_like 6 (.bool false) rfl (Like.bool _) ?_
    skip
    simp (maxSteps := 10000000) only [go_sem, iv_len, hpc, beq_self_eq_true]
    refine sem_rounds (fun x : Nat => x ≤ 34) (fun x => [(2, .pbox 0 0), (3, .pbox 1 0), (5, .int .i64 (n : Nat)), (6, .bool false), (7, .int .i64 ((x : Int) - 1))])
      (fun x => [.box [.int .u32 (S : Nat), .int .i64 ep], .box [.vsl 1 (iv .i64 L) false, .int .i64 ep]]) (fun x => 34 - x) 0 [0, 1] (Nat.zero_le _) ?_ ?_
    · simp [Emb, go_sem]
    intro x hx
    by_cases c : x < 34
    · have hin : (x : Int) - 1 ≤ 32 := by omega
      have w1 := hnx x (by omega)
      have hap := hha ((x : Int) - 1)
      have hrp := hrh ((x : Int) - 1)
      have hmp := hmin ((x : Int) - 1)
      generalize hP : (x : Int) - 1 = p at *
      generalize hasN S p = a at *
      skip
      refine run_ok 4000 _ _ _ _ ?_
      simp (maxSteps := 10000000) only [go_sem, hin, w1]
      refine sem_sub0 [(2, .pbox 0 0), (3, .pbox 1 0), (5, .int .i64 (n : Nat)), (6, .bool false), (7, .int .i64 p)] (by simp only [go_sem]) (Nat.zero_le _) (by simp only [go_sem]) (by simp only [go_sem]) ?_
      refine is_no S ep L n p a hap hrp ?_
      refine run_ok 4000 _ _ _ _ ?_
      simp (maxSteps := 10000000) only [go_sem, hin, w1]
      refine ⟨x + 1, by omega, c, [0, 1], ?_⟩
      simp only [Emb, go_sem]
    · have hin : ¬ (x : Int) - 1 ≤ 32 := by omega
      have hl32 : ¬ (L.length : Int) < 32 := by
        have : ¬ L.length < 32 := fun h => c6 (hfa.1 h)
        omega
      have hn : ((n : Int) != 32) = false := by
        have : n = 32 := by omega
        simp [this]
      skip
      refine run_ok 4000 _ _ _ _ ?_
      simp (maxSteps := 10000000) only [go_sem, hin, hl32, hn, iv_len, beq_self_eq_true]
      refine run_ok 4000 _ _ _ _ ?_
      simp (maxSteps := 10000000) only [go_sem, hin, hl32, hn, iv_len, beq_self_eq_true]
      refine ⟨_, _, .sub [] ?_ .done, rfl, rfl⟩
      simp only [EmbV, go_sem]
end Go.AEX

/- Door seat: the reference's boxes: Ask, Put, Count, Keep, Lost. -/
namespace Go.AEX
open Go Go.AE Go.Proofs
set_option maxRecDepth 100000
set_option linter.unusedVariables false
set_option linter.unusedSimpArgs false

def wrow (x : Wd) : List AV := [.int .i64 x.1, .int .i64 x.2.1, .bsym x.2.2]
def wrows (l : List Wd) : List (List AV) := l.map wrow
theorem wrows_len (l : List Wd) : (wrows l).length = l.length := by simp [wrows]
theorem wrows_get {l : List Wd} {i : Nat} (h : i < l.length) : (wrows l)[i]? = some (wrow l[i]) := by simp [wrows, h]
theorem wrows_h0 {l : List Wd} {i : Nat} (h : i < l.length) : hasI .i64 (wrows l) i 0 := ⟨_, _, wrows_get h, rfl⟩
theorem wrows_h1 {l : List Wd} {i : Nat} (h : i < l.length) : hasI .i64 (wrows l) i 1 := ⟨_, _, wrows_get h, rfl⟩
theorem wrows_h2 {l : List Wd} {i : Nat} (h : i < l.length) : hasB (wrows l) i 2 := ⟨_, _, wrows_get h, .inr rfl⟩
theorem wrows_r0 {l : List Wd} {i : Nat} (h : i < l.length) : rint (wrows l) i 0 = l[i].1 := by simp [rint, List.getD_eq_getElem?_getD, wrows_get h, wrow]
theorem wrows_r1 {l : List Wd} {i : Nat} (h : i < l.length) : rint (wrows l) i 1 = l[i].2.1 := by simp [rint, List.getD_eq_getElem?_getD, wrows_get h, wrow]
theorem wrows_r2 {l : List Wd} {i : Nat} (h : i < l.length) : rbool (wrows l) i 2 = l[i].2.2 := by simp [rbool, List.getD_eq_getElem?_getD, wrows_get h, wrow]
theorem wrows_app (l k : List Wd) : wrows l ++ wrows k = wrows (l ++ k) := by simp [wrows]
theorem wrows_one (a b : Int) (y : Bool) : [[AV.int .i64 a, .int .i64 b, .bsym y]] = wrows [(a, b, y)] := rfl
theorem wrows_all (l : List Wd) : sub (wrows l) 0 l.length = wrows l := by
  unfold sub; rw [List.drop_zero, ← wrows_len l, List.take_length]
abbrev rbox (R : List Int) (ep : Int) (Open : List Int) (L : List Wd) : AV := .agg [.vsl 1 (iv .i64 R) false, .int .i64 ep, .vsl 1 (iv .i64 Open) false, .vsl 3 (wrows L) false]
theorem rask_zero (R : List Int) (ep : Int) (Open : List Int) (L : List Wd) : Tri Tryd.prog 9 [rbox R ep Open L, .int .i64 0] [] (fun v m => v = .tup [rbox R ep Open L, .int .i64 4] ∧ m = []) := by
  refine Tri.post ?_
  skip
  refine (Tri.enter (rl := r9) (code := c9) (by kernel_rfl) Tryd.func9 rfl c9_ok (by kernel_rfl) (by kernel_rfl) ?_)
  refine run_ok 4000 _ _ _ _ ?_
  simp (maxSteps := 10000000) only [go_sem, c9, r9, beq_self_eq_true]
  refine ⟨_, _, .sub [] ?_ .done, rfl, rfl⟩
  simp only [EmbV, go_sem]
theorem rask_no (S : Nat) (ep : Int) (Open : List Int) (L : List Wd) (p : Int) (h0 : p ≠ 0) (h : hasN S p = false) : Tri Tryd.prog 9 [rbox (allN S 32) ep Open L, .int .i64 p] [] (fun v m => v = .tup [rbox (allN S 32) ep Open L, .int .i64 13] ∧ m = []) := by
  refine Tri.post ?_
  have hh := rrh_spec S false ep p
  rw [h] at hh
  have e0 : (p == 0) = false := by simpa using h0
  generalize allN S 32 = R at *
  skip
  refine (Tri.enter (rl := r9) (code := c9) (by kernel_rfl) Tryd.func9 rfl c9_ok (by kernel_rfl) (by kernel_rfl) ?_)
  refine run_ok 4000 _ _ _ _ ?_
  simp (maxSteps := 10000000) only [go_sem, c9, r9, e0]
  refine sem_call rfl rfl (((hh).embed [] rfl trivial rfl rfl rfl (by simp)).mono ?_)
  rintro _ _ ⟨_, _, ⟨rfl, rfl⟩, rfl, rfl⟩
  refine run_ok 4000 _ _ _ _ ?_
  simp (maxSteps := 10000000) only [go_sem, e0]
  refine ⟨_, _, .sub [] ?_ .done, rfl, rfl⟩
  simp only [EmbV, go_sem]
theorem rask_there (S : Nat) (ep : Int) (Open : List Int) (hO : Open.length ≤ 1000) (L : List Wd) (p : Int) (h0 : p ≠ 0) (h : hasN S p = true) (hp : p ∈ Open) : Tri Tryd.prog 9 [rbox (allN S 32) ep Open L, .int .i64 p] [] (fun v m => v = .tup [rbox (allN S 32) ep Open L, .int .i64 10] ∧ m = []) := by
  refine Tri.post ?_
  have hh := rrh_spec S false ep p
  rw [h] at hh
  have hi := ris_yes Open false (by omega) p hp
  have e0 : (p == 0) = false := by simpa using h0
  generalize allN S 32 = R at *
  skip
  refine (Tri.enter (rl := r9) (code := c9) (by kernel_rfl) Tryd.func9 rfl c9_ok (by kernel_rfl) (by kernel_rfl) ?_)
  refine run_ok 4000 _ _ _ _ ?_
  simp (maxSteps := 10000000) only [go_sem, c9, r9, e0]
  refine sem_call rfl rfl (((hh).embed [] rfl trivial rfl rfl rfl (by simp)).mono ?_)
  rintro _ _ ⟨_, _, ⟨rfl, rfl⟩, rfl, rfl⟩
  refine run_ok 4000 _ _ _ _ ?_
  simp (maxSteps := 10000000) only [go_sem, e0]
  refine sem_call rfl rfl (((hi).embed [] rfl trivial rfl rfl rfl (by simp)).mono ?_)
  rintro _ _ ⟨_, _, ⟨rfl, rfl⟩, rfl, rfl⟩
  refine run_ok 4000 _ _ _ _ ?_
  simp (maxSteps := 10000000) only [go_sem, e0]
  refine ⟨_, _, .sub [] ?_ .done, rfl, rfl⟩
  simp only [EmbV, go_sem]
theorem rask_new (S : Nat) (ep : Int) (Open : List Int) (hO : Open.length ≤ 1000) (L : List Wd) (p : Int) (h0 : p ≠ 0) (h : hasN S p = true) (hp : p ∉ Open) : Tri Tryd.prog 9 [rbox (allN S 32) ep Open L, .int .i64 p] [] (fun v m => v = .tup [rbox (allN S 32) ep (Open ++ [p]) L, .int .i64 0] ∧ m = []) := by
  refine Tri.post ?_
  have hh := rrh_spec S false ep p
  rw [h] at hh
  have hi := ris_no Open false (by omega) p hp
  have e0 : (p == 0) = false := by simpa using h0
  have sm0 : small Open.length := by unfold small; omega
  have sm1 : small (Open.length + 1) := by unfold small; omega
  have hal := r_iv_all Open
  have hap : iv .i64 Open ++ [[AV.int .i64 p]] = iv .i64 (Open ++ [p]) := by rw [r_iv_one, r_iv_app]
  have hal2 := r_iv_all (Open ++ [p])
  rw [List.length_append, List.length_singleton] at hal2
  have hll : (iv .i64 (Open ++ [p])).length = Open.length + 1 := by simp [iv_len]
  generalize allN S 32 = R at *
  skip
  refine (Tri.enter (rl := r9) (code := c9) (by kernel_rfl) Tryd.func9 rfl c9_ok (by kernel_rfl) (by kernel_rfl) ?_)
  refine run_ok 4000 _ _ _ _ ?_
  simp (maxSteps := 10000000) only [go_sem, c9, r9, e0, sm0, sm1, iv_len, hal, hap, Nat.le_refl, max_add, Nat.zero_add]
  refine sem_call rfl rfl (((hh).embed [] rfl trivial rfl rfl rfl (by simp)).mono ?_)
  rintro _ _ ⟨_, _, ⟨rfl, rfl⟩, rfl, rfl⟩
  refine run_ok 4000 _ _ _ _ ?_
  simp (maxSteps := 10000000) only [go_sem, e0, sm0, sm1, iv_len, hal, hap, Nat.le_refl, max_add, Nat.zero_add]
  refine sem_call rfl rfl (((hi).embed [] rfl trivial rfl rfl rfl (by simp)).mono ?_)
  rintro _ _ ⟨_, _, ⟨rfl, rfl⟩, rfl, rfl⟩
  refine run_ok 4000 _ _ _ _ ?_
  simp (maxSteps := 10000000) only [go_sem, e0, sm0, sm1, iv_len, hal, hap, Nat.le_refl, max_add, Nat.zero_add]
  refine ⟨_, _, .fz 3 rfl (by simp only [go_sem, hll, Nat.le_refl]) (.sub [] ?_ .done), rfl, rfl⟩
  simp only [EmbV, go_sem, hal2]
abbrev wagg (v p : Int) (y : Bool) : AV := .agg [.int .i64 v, .int .i64 p, .bsym y]
theorem rput_none (R : List Int) (ep : Int) (Open : List Int) (hO : Open.length ≤ 1000) (L : List Wd) (v p : Int) (y : Bool) (hp : p ∉ Open) : Tri Tryd.prog 11 [rbox R ep Open L, wagg v p y] [] (fun v m => v = .tup [rbox R ep Open L, .int .i64 9] ∧ m = []) := by
  refine Tri.post ?_
  have hi := ris_no Open false (by omega) p hp
  refine (Tri.enter (rl := r11) (code := c11) (by kernel_rfl) Tryd.func11 rfl c11_ok (by kernel_rfl) (by kernel_rfl) ?_)
  refine run_ok 4000 _ _ _ _ ?_
  simp (maxSteps := 10000000) only [go_sem, c11, r11]
  refine sem_call rfl rfl (((hi).embed [] rfl trivial rfl rfl rfl (by simp)).mono ?_)
  rintro _ _ ⟨_, _, ⟨rfl, rfl⟩, rfl, rfl⟩
  refine run_ok 4000 _ _ _ _ ?_
  simp (maxSteps := 10000000) only [go_sem]
  refine ⟨_, _, .sub [] ?_ .done, rfl, rfl⟩
  simp only [EmbV, go_sem]
theorem rput_who (S : Nat) (ep : Int) (Open : List Int) (hO : Open.length ≤ 1000) (L : List Wd) (v p : Int) (y : Bool) (hp : p ∈ Open) (h : hasN S v = false ∨ v = p) : Tri Tryd.prog 11 [rbox (allN S 32) ep Open L, wagg v p y] [] (fun v m => v = .tup [rbox (allN S 32) ep Open L, .int .i64 13] ∧ m = []) := by
  refine Tri.post ?_
  have hi := ris_yes Open false (by omega) p hp
  have hh := rrh_spec S false ep v
  generalize allN S 32 = R at *
  cases hv : hasN S v with
  | false =>
    rw [hv] at hh
    refine (Tri.enter (rl := r11) (code := c11) (by kernel_rfl) Tryd.func11 rfl c11_ok (by kernel_rfl) (by kernel_rfl) ?_)
    refine run_ok 4000 _ _ _ _ ?_
    simp (maxSteps := 10000000) only [go_sem, c11, r11]
    refine sem_call rfl rfl (((hi).embed [] rfl trivial rfl rfl rfl (by simp)).mono ?_)
    rintro _ _ ⟨_, _, ⟨rfl, rfl⟩, rfl, rfl⟩
    refine run_ok 4000 _ _ _ _ ?_
    simp (maxSteps := 10000000) only [go_sem]
    refine sem_call rfl rfl (((hh).embed [] rfl trivial rfl rfl rfl (by simp)).mono ?_)
    rintro _ _ ⟨_, _, ⟨rfl, rfl⟩, rfl, rfl⟩
    refine run_ok 4000 _ _ _ _ ?_
    simp (maxSteps := 10000000) only [go_sem]
    refine ⟨_, _, .sub [] ?_ .done, rfl, rfl⟩
    simp only [EmbV, go_sem]
  | true =>
    rw [hv] at hh h
    obtain rfl : v = p := by rcases h with h | h; cases h; exact h
    skip
    refine (Tri.enter (rl := r11) (code := c11) (by kernel_rfl) Tryd.func11 rfl c11_ok (by kernel_rfl) (by kernel_rfl) ?_)
    refine run_ok 4000 _ _ _ _ ?_
    simp (maxSteps := 10000000) only [go_sem, c11, r11, beq_self_eq_true]
    refine sem_call rfl rfl (((hi).embed [] rfl trivial rfl rfl rfl (by simp)).mono ?_)
    rintro _ _ ⟨_, _, ⟨rfl, rfl⟩, rfl, rfl⟩
    refine run_ok 4000 _ _ _ _ ?_
    simp (maxSteps := 10000000) only [go_sem, beq_self_eq_true]
    refine sem_call rfl rfl (((hh).embed [] rfl trivial rfl rfl rfl (by simp)).mono ?_)
    rintro _ _ ⟨_, _, ⟨rfl, rfl⟩, rfl, rfl⟩
    refine run_ok 4000 _ _ _ _ ?_
    simp (maxSteps := 10000000) only [go_sem, beq_self_eq_true]
    refine ⟨_, _, .sub [] ?_ .done, rfl, rfl⟩
    simp only [EmbV, go_sem]
theorem rput_there (S : Nat) (ep : Int) (Open : List Int) (hO : Open.length ≤ 1000) (L : List Wd) (hL : L.length ≤ 1000) (v p : Int) (y : Bool) (hp : p ∈ Open) (h : hasN S v = true) (hne : v ≠ p) (hx : ∃ x ∈ L, x.1 = v ∧ x.2.1 = p) : Tri Tryd.prog 11 [rbox (allN S 32) ep Open L, wagg v p y] [] (fun v m => v = .tup [rbox (allN S 32) ep Open L, .int .i64 10] ∧ m = []) := by
  refine Tri.post ?_
  have hi := ris_yes Open false (by omega) p hp
  have hh := rrh_spec S false ep v
  rw [h] at hh
  have e : (v == p) = false := by simpa using hne
  generalize allN S 32 = R at *
  skip
  refine (Tri.enter (rl := r11) (code := c11) (by kernel_rfl) Tryd.func11 rfl c11_ok (by kernel_rfl) (by kernel_rfl) ?_)
  refine run_ok 4000 _ _ _ _ ?_
  simp (maxSteps := 10000000) only [go_sem, c11, r11, e, wrows_len]
  refine sem_call rfl rfl (((hi).embed [] rfl trivial rfl rfl rfl (by simp)).mono ?_)
  rintro _ _ ⟨_, _, ⟨rfl, rfl⟩, rfl, rfl⟩
  refine run_ok 4000 _ _ _ _ ?_
  simp (maxSteps := 10000000) only [go_sem, e, wrows_len]
  refine sem_call rfl rfl (((hh).embed [] rfl trivial rfl rfl rfl (by simp)).mono ?_)
  rintro _ _ ⟨_, _, ⟨rfl, rfl⟩, rfl, rfl⟩
  refine run_ok 4000 _ _ _ _ ?_
  simp (maxSteps := 10000000) only [go_sem, e, wrows_len]
  refine sem_rounds (fun i : Nat => i ≤ L.length ∧ ∀ x ∈ L.take i, ¬ (x.1 = v ∧ x.2.1 = p)) (fun i => [(2, .pbox 0 0), (3, .pbox 1 0), (4, .pbox 2 0), (30, .vsl 3 (wrows L) false), (31, .int .i64 L.length), (32, .int .i64 (i : Nat))])
    (fun i => [.box [.vsl 1 (iv .i64 R) false, .int .i64 ep, .vsl 1 (iv .i64 Open) false, .vsl 3 (wrows L) false], .box [.int .i64 v, .int .i64 p, .bsym y], .box [.nilsl, .int .i64 0, .nilsl, .nilsl]]) (fun i => L.length - i) 0 [0, 1, 2] ⟨Nat.zero_le _, by simp⟩ ?_ ?_
  · simp only [Emb, go_sem]
  rintro i ⟨hil, hno⟩
  by_cases c : i < L.length
  · have hin : (i : Int) < (L.length : Int) := by omega
    have r0 := wrows_r0 c; have r1 := wrows_r1 c; have r2 := wrows_r2 c
    have h0 := wrows_h0 c; have h1 := wrows_h1 c; have h2 := wrows_h2 c
    have w1 := inc64 (show i < 1000000000000 by omega)
    have htk := List.take_succ_eq_append_getElem c
    generalize L[i] = x at *
    obtain ⟨a, b, z⟩ := x
    simp only at r0 r1 r2
    by_cases ea : a = v
    · have ea' : (a == v) = true := by simpa using ea
      by_cases eb : b = p
      · have eb' : (b == p) = true := by simpa using eb
        skip
        refine run_ok 4000 _ _ _ _ ?_
        simp (maxSteps := 10000000) only [go_sem, hin, r0, r1, r2, h0, h1, h2, w1, ea', eb', wrows_len, Int.natCast_nonneg]
        refine ⟨_, _, .sub [] ?_ .done, rfl, rfl⟩
        simp only [EmbV, go_sem]
      · have eb' : (b == p) = false := by simpa using eb
        skip
        refine run_ok 4000 _ _ _ _ ?_
        simp (maxSteps := 10000000) only [go_sem, hin, r0, r1, r2, h0, h1, h2, w1, ea', eb', wrows_len, Int.natCast_nonneg]
        refine ⟨i + 1, by omega, ⟨c, fun x hx => ?_⟩, [0, 1, 2], ?_⟩
        · rw [htk] at hx
          rcases List.mem_append.1 hx with hx | hx
          · exact hno x hx
          · rw [List.mem_singleton.1 hx]; simp [eb]
        · simp only [Emb, go_sem]
    · have ea' : (a == v) = false := by simpa using ea
      skip
      refine run_ok 4000 _ _ _ _ ?_
      simp (maxSteps := 10000000) only [go_sem, hin, r0, r1, r2, h0, h1, h2, w1, ea', wrows_len, Int.natCast_nonneg]
      refine ⟨i + 1, by omega, ⟨c, fun x hx => ?_⟩, [0, 1, 2], ?_⟩
      · rw [htk] at hx
        rcases List.mem_append.1 hx with hx | hx
        · exact hno x hx
        · rw [List.mem_singleton.1 hx]; simp [ea]
      · simp only [Emb, go_sem]
  · exfalso
    rw [List.take_of_length_le (by omega)] at hno
    obtain ⟨x, hxl, hxe⟩ := hx
    exact hno x hxl hxe
theorem rput_new (S : Nat) (ep : Int) (Open : List Int) (hO : Open.length ≤ 1000) (L : List Wd) (hL : L.length ≤ 1000) (v p : Int) (y : Bool) (hp : p ∈ Open) (h : hasN S v = true) (hne : v ≠ p) (hx : ∀ x ∈ L, ¬ (x.1 = v ∧ x.2.1 = p)) : Tri Tryd.prog 11 [rbox (allN S 32) ep Open L, wagg v p y] [] (fun u m => u = .tup [rbox (allN S 32) ep Open (L ++ [(v, p, y)]), .int .i64 0] ∧ m = []) := by
  refine Tri.post ?_
  have hi := ris_yes Open false (by omega) p hp
  have hh := rrh_spec S false ep v
  rw [h] at hh
  have e : (v == p) = false := by simpa using hne
  generalize allN S 32 = R at *
  skip
  refine (Tri.enter (rl := r11) (code := c11) (by kernel_rfl) Tryd.func11 rfl c11_ok (by kernel_rfl) (by kernel_rfl) ?_)
  refine run_ok 4000 _ _ _ _ ?_
  simp (maxSteps := 10000000) only [go_sem, c11, r11, e, wrows_len]
  refine sem_call rfl rfl (((hi).embed [] rfl trivial rfl rfl rfl (by simp)).mono ?_)
  rintro _ _ ⟨_, _, ⟨rfl, rfl⟩, rfl, rfl⟩
  refine run_ok 4000 _ _ _ _ ?_
  simp (maxSteps := 10000000) only [go_sem, e, wrows_len]
  refine sem_call rfl rfl (((hh).embed [] rfl trivial rfl rfl rfl (by simp)).mono ?_)
  rintro _ _ ⟨_, _, ⟨rfl, rfl⟩, rfl, rfl⟩
  refine run_ok 4000 _ _ _ _ ?_
  simp (maxSteps := 10000000) only [go_sem, e, wrows_len]
  refine sem_rounds (fun i : Nat => i ≤ L.length ∧ ∀ x ∈ L.take i, ¬ (x.1 = v ∧ x.2.1 = p)) (fun i => [(2, .pbox 0 0), (3, .pbox 1 0), (4, .pbox 2 0), (30, .vsl 3 (wrows L) false), (31, .int .i64 L.length), (32, .int .i64 (i : Nat))])
    (fun i => [.box [.vsl 1 (iv .i64 R) false, .int .i64 ep, .vsl 1 (iv .i64 Open) false, .vsl 3 (wrows L) false], .box [.int .i64 v, .int .i64 p, .bsym y], .box [.nilsl, .int .i64 0, .nilsl, .nilsl]]) (fun i => L.length - i) 0 [0, 1, 2] ⟨Nat.zero_le _, by simp⟩ ?_ ?_
  · simp only [Emb, go_sem]
  rintro i ⟨hil, hno⟩
  by_cases c : i < L.length
  · have hin : (i : Int) < (L.length : Int) := by omega
    have r0 := wrows_r0 c; have r1 := wrows_r1 c; have r2 := wrows_r2 c
    have h0 := wrows_h0 c; have h1 := wrows_h1 c; have h2 := wrows_h2 c
    have w1 := inc64 (show i < 1000000000000 by omega)
    have htk := List.take_succ_eq_append_getElem c
    have hxx := hx _ (List.getElem_mem c)
    generalize L[i] = x at *
    obtain ⟨a, b, z⟩ := x
    simp only at r0 r1 r2 hxx
    by_cases ea : a = v
    · have ea' : (a == v) = true := by simpa using ea
      by_cases eb : b = p
      · exact absurd ⟨ea, eb⟩ hxx
      · have eb' : (b == p) = false := by simpa using eb
        skip
        refine run_ok 4000 _ _ _ _ ?_
        simp (maxSteps := 10000000) only [go_sem, hin, r0, r1, r2, h0, h1, h2, w1, ea', eb', wrows_len, Int.natCast_nonneg]
        refine ⟨i + 1, by omega, ⟨c, fun x hx => ?_⟩, [0, 1, 2], ?_⟩
        · rw [htk] at hx
          rcases List.mem_append.1 hx with hx | hx
          · exact hno x hx
          · rw [List.mem_singleton.1 hx]; simp [eb]
        · simp only [Emb, go_sem]
    · have ea' : (a == v) = false := by simpa using ea
      skip
      refine run_ok 4000 _ _ _ _ ?_
      simp (maxSteps := 10000000) only [go_sem, hin, r0, r1, r2, h0, h1, h2, w1, ea', wrows_len, Int.natCast_nonneg]
      refine ⟨i + 1, by omega, ⟨c, fun x hx => ?_⟩, [0, 1, 2], ?_⟩
      · rw [htk] at hx
        rcases List.mem_append.1 hx with hx | hx
        · exact hno x hx
        · rw [List.mem_singleton.1 hx]; simp [ea]
      · simp only [Emb, go_sem]
  · have hin : ¬ (i : Int) < (L.length : Int) := by omega
    have sm0 : small L.length := by unfold small; omega
    have sm1 : small (L.length + 1) := by unfold small; omega
    have hal := wrows_all L
    have hap : wrows L ++ [[AV.int .i64 v, .int .i64 p, .bsym y]] = wrows (L ++ [(v, p, y)]) := by rw [wrows_one, wrows_app]
    have hal2 := wrows_all (L ++ [(v, p, y)])
    rw [List.length_append, List.length_singleton] at hal2
    have hll : (wrows (L ++ [(v, p, y)])).length = L.length + 1 := by simp [wrows_len]
    skip
    refine run_ok 4000 _ _ _ _ ?_
    simp (maxSteps := 10000000) only [go_sem, hin, sm0, sm1, hal, hap, wrows_len, Nat.le_refl, max_add, Nat.zero_add]
    refine run_ok 4000 _ _ _ _ ?_
    simp (maxSteps := 10000000) only [go_sem, hin, sm0, sm1, hal, hap, wrows_len, Nat.le_refl, max_add, Nat.zero_add]
    refine sem_drawG l11_0_ok (by kernel_rfl) ?_
    intro KK hKK
    simp (maxSteps := 10000000) only [go_sem, l11_0, hin, sm0, sm1, hal, hap, wrows_len, Nat.le_refl, max_add, Nat.zero_add]
    subst hKK
    simp (maxSteps := 10000000) only [go_sem, hin, sm0, sm1, hal, hap, wrows_len, Nat.le_refl, max_add, Nat.zero_add]
    refine ⟨_, _, .fz 4 rfl (by simp only [go_sem, hll, Nat.le_refl]) (.sub [] ?_ .done), rfl, rfl⟩
    simp only [EmbV, go_sem, hal2]
end Go.AEX

/- Door seat: the reference's boxes: Count, Keep, Lost. -/
namespace Go.AEX
open Go Go.AE Go.Proofs
set_option maxRecDepth 100000
set_option linter.unusedVariables false
set_option linter.unusedSimpArgs false

theorem refK_snoc (L : List Wd) (x : Wd) (q v : Int) (y : Bool) : refK (L ++ [x]) q y v = refK L q y v ++ if (x.1 == v && (x.2.1 == q && x.2.2 == y)) = true then [x.1] else [] := by
  unfold refK
  rw [List.filter_append, List.map_append, List.filter_cons, List.filter_nil]
  split <;> rfl
theorem refK_len (L : List Wd) (q v : Int) (y : Bool) : (refK L q y v).length ≤ L.length := by
  unfold refK; rw [List.length_map]; exact List.length_filter_le _ _
theorem refC_len (L : List Wd) (q : Int) (y : Bool) : ∀ k, (refC L q y k).length ≤ k * L.length
  | 0 => by simp [refC]
  | k + 1 => by
    have h1 := refC_len L q y k
    have h2 := refK_len L q (k : Int) y
    rw [refC_succ, List.length_append, Nat.add_mul]; omega
theorem rcount_spec (R : List Int) (ep : Int) (Open : List Int) (L : List Wd) (hL : L.length ≤ 1000) (p : Int) (y : Bool) : Tri Tryd.prog 35 [rbox R ep Open L, .int .i64 p, .bool y] [] (fun v m => v = .vsl 1 (iv .i64 (refC L p y 32)) false ∧ m = []) := by
  refine Tri.post ?_
  skip
  refine (Tri.enter (rl := r35) (code := c35) (by kernel_rfl) Tryd.func35 rfl c35_ok (by kernel_rfl) (by kernel_rfl) ?_)
  refine run_ok 4000 _ _ _ _ ?_
  simp (maxSteps := 10000000) only [go_sem, c35, r35, wrows_len]
  refine sem_virt 7 1 rfl ?_
  simp (maxSteps := 10000000) only [go_sem, wrows_len]
  refine sem_rounds (fun i : Nat => i ≤ 32) (fun i => [(1, .int .i64 p), (2, .bool y), (3, .pbox 0 0), (7, .sl 1 0 (refC L p y i).length (refC L p y i).length false), (8, .int .i64 (i : Nat))])
    (fun i => [.box [.vsl 1 (iv .i64 R) false, .int .i64 ep, .vsl 1 (iv .i64 Open) false, .vsl 3 (wrows L) false], .row 1 (iv .i64 (refC L p y i))]) (fun i => 32 - i) 0 [0, 1] (Nat.zero_le _) ?_ ?_
  · simp [Emb, go_sem, iv, refC]
  intro i hi
  by_cases c : i < 32
  · have hin : (i : Int) < 32 := by omega
    have w1 := inc64 (show i < 1000000000000 by omega)
    have hcl := refC_len L p y i
    have hsucc := refC_succ L p y i
    have hci : (refC L p y i).length ≤ 32000 := Nat.le_trans hcl (by
      have := Nat.mul_le_mul (show i ≤ 32 by omega) hL; omega)
    generalize hB : refC L p y i = B at *
    skip
    refine run_ok 4000 _ _ _ _ ?_
    simp (maxSteps := 10000000) only [go_sem, hin, wrows_len]
    refine sem_rounds (fun j : Nat => j ≤ L.length) (fun j => [(1, .int .i64 p), (2, .bool y), (3, .pbox 0 0), (7, .sl 1 0 (B ++ refK (L.take j) p y (i : Nat)).length (B ++ refK (L.take j) p y (i : Nat)).length false), (8, .int .i64 (i : Nat)), (17, .vsl 3 (wrows L) false), (18, .int .i64 L.length), (19, .int .i64 (j : Nat))])
      (fun j => [.box [.vsl 1 (iv .i64 R) false, .int .i64 ep, .vsl 1 (iv .i64 Open) false, .vsl 3 (wrows L) false], .row 1 (iv .i64 (B ++ refK (L.take j) p y (i : Nat)))]) (fun j => L.length - j) 0 [0, 1] (Nat.zero_le _) ?_ ?_
    · simp [Emb, go_sem, refK]
    intro j hj
    by_cases cj : j < L.length
    · have hjn : (j : Int) < (L.length : Int) := by omega
      have r0 := wrows_r0 cj; have r1 := wrows_r1 cj; have r2 := wrows_r2 cj
      have h0 := wrows_h0 cj; have h1 := wrows_h1 cj; have h2 := wrows_h2 cj
      have w2 := inc64 (show j < 1000000000000 by omega)
      have htk := List.take_succ_eq_append_getElem cj
      have hkl := refK_len (L.take j) p (i : Int) y
      rw [List.length_take] at hkl
      have hnx := refK_snoc (L.take j) L[j] p (i : Int) y
      rw [← htk] at hnx
      generalize L[j] = x at *
      obtain ⟨a, b, z⟩ := x
      simp only at r0 r1 r2 hnx
      cases ea : (a == (i : Int)) with
      | false =>
        rw [ea, Bool.false_and, if_neg (by simp)] at hnx
        rw [List.append_nil] at hnx
        skip
        refine run_ok 4000 _ _ _ _ ?_
        simp (maxSteps := 10000000) only [go_sem, hjn, r0, r1, r2, h0, h1, h2, w2, ea, wrows_len, Int.natCast_nonneg]
        refine ⟨j + 1, by omega, cj, [0, 1], ?_⟩
        simp only [Emb, go_sem, hnx]
      | true =>
        cases eb : (b == p) with
        | false =>
          rw [ea, eb, Bool.false_and, Bool.and_false, if_neg (by simp), List.append_nil] at hnx
          skip
          refine run_ok 4000 _ _ _ _ ?_
          simp (maxSteps := 10000000) only [go_sem, hjn, r0, r1, r2, h0, h1, h2, w2, ea, eb, wrows_len, Int.natCast_nonneg]
          refine ⟨j + 1, by omega, cj, [0, 1], ?_⟩
          simp only [Emb, go_sem, hnx]
        | true =>
          cases ez : (z == y) with
          | false =>
            rw [ea, eb, ez, Bool.and_false, Bool.and_false, if_neg (by simp), List.append_nil] at hnx
            skip
            refine run_ok 4000 _ _ _ _ ?_
            simp (maxSteps := 10000000) only [go_sem, hjn, r0, r1, r2, h0, h1, h2, w2, ea, eb, ez, wrows_len, Int.natCast_nonneg]
            refine ⟨j + 1, by omega, cj, [0, 1], ?_⟩
            simp only [Emb, go_sem, hnx]
          | true =>
            rw [ea, eb, ez, Bool.and_true, Bool.and_true, if_pos rfl] at hnx
            obtain rfl := eq_of_beq ea
            generalize refK (L.take j) p y (i : Int) = K at *
            have hal := r_iv_all (B ++ K)
            have hsm : small ((B ++ K).length + 1) := by unfold small; rw [List.length_append]; omega
            generalize hBK : B ++ K = BK at *
            skip
            refine run_ok 4000 _ _ _ _ ?_
            simp (maxSteps := 10000000) only [go_sem, hjn, r0, r1, r2, h0, h1, h2, w2, ea, eb, ez, wrows_len, Int.natCast_nonneg, hal, hsm, iv_len, Nat.le_refl]
            refine ⟨j + 1, by omega, cj, [0, 3], ?_⟩
            simp only [Emb, go_sem, hnx, ← List.append_assoc, hBK, r_iv_one, r_iv_app, hal, List.length_append, List.length_singleton]
    · have hjn : ¬ (j : Int) < (L.length : Int) := by omega
      rw [List.take_of_length_le (by omega), ← hsucc]
      generalize hB2 : refC L p y (i + 1) = B2 at *
      skip
      refine run_ok 4000 _ _ _ _ ?_
      simp (maxSteps := 10000000) only [go_sem, hjn, w1]
      refine run_ok 4000 _ _ _ _ ?_
      simp (maxSteps := 10000000) only [go_sem, hjn, w1]
      refine ⟨i + 1, by omega, c, [0, 1], ?_⟩
      simp only [Emb, go_sem, hB2]
  · have hin : ¬ (i : Int) < 32 := by omega
    obtain rfl : i = 32 := by omega
    have hal := r_iv_all (refC L p y 32)
    generalize refC L p y 32 = B at *
    skip
    refine run_ok 4000 _ _ _ _ ?_
    simp (maxSteps := 10000000) only [go_sem, hin]
    refine run_ok 4000 _ _ _ _ ?_
    simp (maxSteps := 10000000) only [go_sem, hin]
    refine ⟨_, _, .fz 1 rfl (by simp only [go_sem, iv_len, Nat.le_refl]) (.sub [] ?_ .done), rfl, rfl⟩
    simp only [EmbV, go_sem, hal]
theorem rlost_spec (S : Nat) (ep : Int) (Open : List Int) (hO : Open.length ≤ 1000) (L : List Wd) (hL : L.length ≤ 1000) (p : Int) : Tri Tryd.prog 40 [rbox (allN S 32) ep Open L, .int .i64 p] []
    (fun v m => v = .bsym (decide (p ∈ Open) && decide (2 * ((pc S : Int) - 1 - (refC L p false 32).length) ≤ pc S)) ∧ m = []) := by
  refine Tri.post ?_
  have hi := ris_spec Open false (by omega) p
  have hc := rcount_spec (allN S 32) ep Open L hL p false
  have hcl := refC_len L p false 32
  have hll := allN_len S 32
  have hpc := pc_all S
  have hci : (refC L p false 32).length ≤ 32000 := Nat.le_trans hcl (by
      have := Nat.mul_le_mul (Nat.le_refl 32) hL; omega)
  generalize allN S 32 = R at *
  generalize refC L p false 32 = C at *
  rw [← hpc]
  by_cases h : p ∈ Open
  · rw [decide_eq_true h] at hi ⊢
    have w1 : iwrap .i64 ((R.length : Int) - 1) = (R.length : Int) - 1 := iwrap_i64_in (by omega)
    have w2 : iwrap .i64 ((R.length : Int) - 1 - (C.length : Int)) = (R.length : Int) - 1 - (C.length : Int) := iwrap_i64_in (by omega)
    have w3 : iwrap .i64 (((R.length : Int) - 1 - (C.length : Int)) * 2) = 2 * ((R.length : Int) - 1 - (C.length : Int)) := by rw [iwrap_i64_in (by omega)]; omega
    skip
    refine (Tri.enter (rl := r40) (code := c40) (by kernel_rfl) Tryd.func40 rfl c40_ok (by kernel_rfl) (by kernel_rfl) ?_)
    refine run_ok 4000 _ _ _ _ ?_
    simp (maxSteps := 10000000) only [go_sem, c40, r40, w1, w2, w3, iv_len, Bool.true_and]
    refine sem_drawG l40_0_ok (by kernel_rfl) ?_
    intro KK hKK
    simp (maxSteps := 10000000) only [go_sem, l40_0, w1, w2, w3, iv_len, Bool.true_and]
    refine TriZ.of (((hi).embed [] rfl (by repeat' first | exact trivial | rfl | (simp only [go_sem]; done) | constructor) rfl (by first | rfl | simp only [go_sem]) rfl (by simp)).mono ?_)
    rintro _ _ ⟨_, _, ⟨rfl, rfl⟩, rfl, rfl⟩
    simp (maxSteps := 10000000) only [go_sem, w1, w2, w3, iv_len, Bool.true_and]
    refine TriZ.of (((hc).embed [] rfl (by repeat' first | exact trivial | rfl | (simp only [go_sem]; done) | constructor) rfl (by first | rfl | simp only [go_sem]) rfl (by simp)).mono ?_)
    rintro _ _ ⟨_, _, ⟨rfl, rfl⟩, rfl, rfl⟩
    simp (maxSteps := 10000000) only [go_sem, w1, w2, w3, iv_len, Bool.true_and]
    subst hKK
    simp (maxSteps := 10000000) only [go_sem, w1, w2, w3, iv_len, Bool.true_and]
    refine ⟨_, _, .sub [] ?_ .done, rfl, rfl⟩
    simp only [EmbV, go_sem]
  · rw [decide_eq_false h] at hi ⊢
    skip
    refine (Tri.enter (rl := r40) (code := c40) (by kernel_rfl) Tryd.func40 rfl c40_ok (by kernel_rfl) (by kernel_rfl) ?_)
    refine run_ok 4000 _ _ _ _ ?_
    simp (maxSteps := 10000000) only [go_sem, c40, r40, iv_len, Bool.false_and]
    refine sem_drawG l40_0_ok (by kernel_rfl) ?_
    intro KK hKK
    simp (maxSteps := 10000000) only [go_sem, l40_0, iv_len, Bool.false_and]
    refine TriZ.of (((hi).embed [] rfl (by repeat' first | exact trivial | rfl | (simp only [go_sem]; done) | constructor) rfl (by first | rfl | simp only [go_sem]) rfl (by simp)).mono ?_)
    rintro _ _ ⟨_, _, ⟨rfl, rfl⟩, rfl, rfl⟩
    simp (maxSteps := 10000000) only [go_sem, iv_len, Bool.false_and]
    subst hKK
    simp (maxSteps := 10000000) only [go_sem, iv_len, Bool.false_and]
    refine ⟨_, _, .like (Like.bsym false) (.sub [] ?_ .done), rfl, rfl⟩
    simp only [EmbV, go_sem]
theorem kOpen_take (S : Nat) (g : Int) (Open : List Int) {i : Nat} (c : i < Open.length) : kOpen S g (Open.take (i + 1)) = kOpen S g (Open.take i) ++ if (!(Open[i] == g) && hasN S Open[i]) = true then [Open[i]] else [] := by
  unfold kOpen
  rw [List.take_succ_eq_append_getElem c, List.filter_append, List.filter_cons, List.filter_nil]
theorem kL_take (S : Nat) (O' : List Int) (L : List Wd) {i : Nat} (c : i < L.length) : kL S O' (L.take (i + 1)) = kL S O' (L.take i) ++ if (decide (L[i].2.1 ∈ O') && hasN S L[i].1) = true then [L[i]] else [] := by
  unfold kL
  rw [List.take_succ_eq_append_getElem c, List.filter_append, List.filter_cons, List.filter_nil]
theorem kOpen_len (S : Nat) (g : Int) (Open : List Int) : (kOpen S g Open).length ≤ Open.length := List.length_filter_le _ _
theorem kL_len (S : Nat) (O' : List Int) (L : List Wd) : (kL S O' L).length ≤ L.length := List.length_filter_le _ _
theorem rkeep_spec (S : Nat) (ep g : Int) (Open : List Int) (hO : Open.length ≤ 1000) (L : List Wd) (hL : L.length ≤ 1000) : Tri Tryd.prog 14 [rbox (allN S 32) ep Open L, .int .i64 g] []
    (fun v m => v = rbox (allN S 32) ep (kOpen S g Open) (kL S (kOpen S g Open) L) ∧ m = []) := by
  refine Tri.post ?_
  have hhs := rrh_spec S false ep
  generalize allN S 32 = R at *
  skip
  refine (Tri.enter (rl := r14) (code := c14) (by kernel_rfl) Tryd.func14 rfl c14_ok (by kernel_rfl) (by kernel_rfl) ?_)
  refine run_ok 4000 _ _ _ _ ?_
  simp (maxSteps := 10000000) only [go_sem, c14, r14, iv_len]
  refine sem_virt 5 1 rfl ?_
  simp (maxSteps := 10000000) only [go_sem, iv_len]
  refine sem_rounds (fun i : Nat => i ≤ Open.length) (fun i => [(1, .int .i64 g), (2, .pbox 0 0), (4, .pbox 1 0), (5, .sl 2 0 (kOpen S g (Open.take i)).length (kOpen S g (Open.take i)).length false), (13, .vsl 1 (iv .i64 Open) false), (14, .int .i64 Open.length), (15, .int .i64 (i : Nat))])
    (fun i => [.box [.vsl 1 (iv .i64 R) false, .int .i64 ep, .vsl 1 (iv .i64 Open) false, .vsl 3 (wrows L) false], .box [.nilsl, .int .i64 0, .nilsl, .nilsl], .row 1 (iv .i64 (kOpen S g (Open.take i)))]) (fun i => Open.length - i) 0 [0, 1, 2] (Nat.zero_le _) ?_ ?_
  · simp [Emb, go_sem, iv, kOpen]
  intro i hi
  by_cases c : i < Open.length
  · have hin : (i : Int) < (Open.length : Int) := by omega
    have w1 := inc64 (show i < 1000000000000 by omega)
    have r0 := iv_rint (k := .i64) c
    have h0 := iv_hasI (k := .i64) c
    have hnx := kOpen_take S g Open c
    have hol := kOpen_len S g (Open.take i)
    rw [List.length_take] at hol
    generalize Open[i] = x at *
    generalize kOpen S g (Open.take i) = O at *
    have hsm : small (O.length + 1) := by unfold small; omega
    have hal := r_iv_all O
    have hh := hhs x
    cases hg : (x == g) with
    | true =>
      have hg' : (x != g) = false := by simp [bne, hg]
      rw [hg, Bool.not_true, Bool.false_and, if_neg (by simp), List.append_nil] at hnx
      skip
      refine run_ok 4000 _ _ _ _ ?_
      simp (maxSteps := 10000000) only [go_sem, hin, w1, r0, h0, hg', iv_len, Int.natCast_nonneg]
      refine ⟨i + 1, by omega, c, [0, 1, 2], ?_⟩
      simp only [Emb, go_sem, hnx]
    | false =>
      have hg' : (x != g) = true := by simp [bne, hg]
      rw [hg, Bool.not_false, Bool.true_and] at hnx
      cases hx : hasN S x with
      | false =>
        rw [hx] at hh hnx
        rw [if_neg (by simp), List.append_nil] at hnx
        skip
        refine run_ok 4000 _ _ _ _ ?_
        simp (maxSteps := 10000000) only [go_sem, hin, w1, r0, h0, hg', iv_len, Int.natCast_nonneg]
        refine sem_call rfl rfl (((hh).embed [] rfl trivial rfl rfl rfl (by simp)).mono ?_)
        rintro _ _ ⟨_, _, ⟨rfl, rfl⟩, rfl, rfl⟩
        refine run_ok 4000 _ _ _ _ ?_
        simp (maxSteps := 10000000) only [go_sem, hin, w1, r0, h0, hg', iv_len, Int.natCast_nonneg]
        refine ⟨i + 1, by omega, c, [0, 1, 2], ?_⟩
        simp only [Emb, go_sem, hnx]
      | true =>
        rw [hx] at hh hnx
        rw [if_pos rfl] at hnx
        skip
        refine run_ok 4000 _ _ _ _ ?_
        simp (maxSteps := 10000000) only [go_sem, hin, w1, r0, h0, hg', hsm, hal, iv_len, Int.natCast_nonneg, Nat.le_refl]
        refine sem_call rfl rfl (((hh).embed [] rfl trivial rfl rfl rfl (by simp)).mono ?_)
        rintro _ _ ⟨_, _, ⟨rfl, rfl⟩, rfl, rfl⟩
        refine run_ok 4000 _ _ _ _ ?_
        simp (maxSteps := 10000000) only [go_sem, hin, w1, r0, h0, hg', hsm, hal, iv_len, Int.natCast_nonneg, Nat.le_refl]
        refine ⟨i + 1, by omega, c, [0, 1, 3], ?_⟩
        simp only [Emb, go_sem, hnx, r_iv_one, r_iv_app, hal, List.length_append, List.length_singleton]
  · have hin : ¬ (i : Int) < (Open.length : Int) := by omega
    rw [List.take_of_length_le (by omega)]
    have hol := kOpen_len S g Open
    generalize hO' : kOpen S g Open = O' at *
    have hal := r_iv_all O'
    skip
    refine run_ok 4000 _ _ _ _ ?_
    simp (maxSteps := 10000000) only [go_sem, hin, wrows_len]
    refine run_ok 4000 _ _ _ _ ?_
    simp (maxSteps := 10000000) only [go_sem, hin, wrows_len]
    refine sem_freeze 2 rfl (by simp only [go_sem, iv_len, Nat.le_refl]) ?_
    refine sem_virt 8 3 rfl ?_
    simp (maxSteps := 10000000) only [go_sem, hin, wrows_len]
    refine sem_rounds (fun j : Nat => j ≤ L.length) (fun j => [(2, .pbox 0 0), (4, .pbox 1 0), (5, .vsl 1 (iv .i64 O') false), (8, .sl 3 0 (kL S O' (L.take j)).length (kL S O' (L.take j)).length false), (35, .vsl 3 (wrows L) false), (36, .int .i64 L.length), (37, .int .i64 (j : Nat))])
      (fun j => [.box [.vsl 1 (iv .i64 R) false, .int .i64 ep, .vsl 1 (iv .i64 Open) false, .vsl 3 (wrows L) false], .box [.nilsl, .int .i64 0, .nilsl, .nilsl], .gone, .row 3 (wrows (kL S O' (L.take j)))]) (fun j => L.length - j) 0 [0, 1, 2, 3] (Nat.zero_le _) ?_ ?_
    · simp [Emb, go_sem, kL, wrows, hal]
    intro j hj
    by_cases cj : j < L.length
    · have hjn : (j : Int) < (L.length : Int) := by omega
      have r0 := wrows_r0 cj; have r1 := wrows_r1 cj; have r2 := wrows_r2 cj
      have h0 := wrows_h0 cj; have h1 := wrows_h1 cj; have h2 := wrows_h2 cj
      have w2 := inc64 (show j < 1000000000000 by omega)
      have hnx := kL_take S O' L cj
      have hkl := kL_len S O' (L.take j)
      rw [List.length_take] at hkl
      generalize L[j] = x at *
      obtain ⟨a, b, z⟩ := x
      simp only at r0 r1 r2 hnx
      generalize kL S O' (L.take j) = K at *
      have hsm : small (K.length + 1) := by unfold small; omega
      have hkal := wrows_all K
      have hh := hhs a
      have hris := ris_spec O' false (by omega) b
      by_cases hb : b ∈ O'
      · rw [decide_eq_true hb] at hnx hris
        rw [Bool.true_and] at hnx
        cases hx : hasN S a with
        | false =>
          rw [hx] at hh hnx
          rw [if_neg (by simp), List.append_nil] at hnx
          skip
          refine run_ok 4000 _ _ _ _ ?_
          simp (maxSteps := 10000000) only [go_sem, hjn, r0, r1, r2, h0, h1, h2, w2, wrows_len, Int.natCast_nonneg]
          refine sem_call rfl rfl (((hris).embed [] rfl trivial rfl rfl rfl (by simp)).mono ?_)
          rintro _ _ ⟨_, _, ⟨rfl, rfl⟩, rfl, rfl⟩
          refine run_ok 4000 _ _ _ _ ?_
          simp (maxSteps := 10000000) only [go_sem, hjn, r0, r1, r2, h0, h1, h2, w2, wrows_len, Int.natCast_nonneg]
          refine sem_call rfl rfl (((hh).embed [] rfl trivial rfl rfl rfl (by simp)).mono ?_)
          rintro _ _ ⟨_, _, ⟨rfl, rfl⟩, rfl, rfl⟩
          refine run_ok 4000 _ _ _ _ ?_
          simp (maxSteps := 10000000) only [go_sem, hjn, r0, r1, r2, h0, h1, h2, w2, wrows_len, Int.natCast_nonneg]
          refine ⟨j + 1, by omega, cj, [0, 1, 2, 3], ?_⟩
          simp only [Emb, go_sem, hnx]
        | true =>
          rw [hx] at hh hnx
          rw [if_pos rfl] at hnx
          skip
          refine run_ok 4000 _ _ _ _ ?_
          simp (maxSteps := 10000000) only [go_sem, hjn, r0, r1, r2, h0, h1, h2, w2, hsm, hkal, wrows_len, Int.natCast_nonneg, Nat.le_refl]
          refine sem_call rfl rfl (((hris).embed [] rfl trivial rfl rfl rfl (by simp)).mono ?_)
          rintro _ _ ⟨_, _, ⟨rfl, rfl⟩, rfl, rfl⟩
          refine run_ok 4000 _ _ _ _ ?_
          simp (maxSteps := 10000000) only [go_sem, hjn, r0, r1, r2, h0, h1, h2, w2, hsm, hkal, wrows_len, Int.natCast_nonneg, Nat.le_refl]
          refine sem_call rfl rfl (((hh).embed [] rfl trivial rfl rfl rfl (by simp)).mono ?_)
          rintro _ _ ⟨_, _, ⟨rfl, rfl⟩, rfl, rfl⟩
          refine run_ok 4000 _ _ _ _ ?_
          simp (maxSteps := 10000000) only [go_sem, hjn, r0, r1, r2, h0, h1, h2, w2, hsm, hkal, wrows_len, Int.natCast_nonneg, Nat.le_refl]
          refine ⟨j + 1, by omega, cj, [0, 1, 2, 5], ?_⟩
          simp only [Emb, go_sem, hnx, wrows_one, wrows_app, hkal, List.length_append, List.length_singleton]
      · rw [decide_eq_false hb] at hnx hris
        rw [Bool.false_and, if_neg (by simp), List.append_nil] at hnx
        skip
        refine run_ok 4000 _ _ _ _ ?_
        simp (maxSteps := 10000000) only [go_sem, hjn, r0, r1, r2, h0, h1, h2, w2, wrows_len, Int.natCast_nonneg]
        refine sem_call rfl rfl (((hris).embed [] rfl trivial rfl rfl rfl (by simp)).mono ?_)
        rintro _ _ ⟨_, _, ⟨rfl, rfl⟩, rfl, rfl⟩
        refine run_ok 4000 _ _ _ _ ?_
        simp (maxSteps := 10000000) only [go_sem, hjn, r0, r1, r2, h0, h1, h2, w2, wrows_len, Int.natCast_nonneg]
        refine ⟨j + 1, by omega, cj, [0, 1, 2, 3], ?_⟩
        simp only [Emb, go_sem, hnx]
    · have hjn : ¬ (j : Int) < (L.length : Int) := by omega
      rw [List.take_of_length_le (by omega)]
      generalize kL S O' L = K at *
      have hkal := wrows_all K
      skip
      refine run_ok 4000 _ _ _ _ ?_
      simp (maxSteps := 10000000) only [go_sem, hjn]
      refine run_ok 4000 _ _ _ _ ?_
      simp (maxSteps := 10000000) only [go_sem, hjn]
      refine ⟨_, _, .fz 3 rfl (by simp only [go_sem, wrows_len, Nat.le_refl]) (.sub [] ?_ .done), rfl, rfl⟩
      simp only [EmbV, go_sem, hkal]
end Go.AEX

/- Door seat: a front of symbolic memory: what lies behind it, a row of it as a result; a contract between other blocks. -/
namespace Go.AE
open Go
set_option linter.unusedVariables false
set_option linter.unusedSimpArgs false
variable {P : Program} {n k0 : Nat}
theorem mg_front : ∀ {A : Mem} {b : Nat} {k : Blk}, mg A b = k → k.owned = true → ∀ ex, mg (A ++ ex) b = k
  | [], b, k, h, hk, ex => by simp only [mg] at h; subst h; cases hk
  | x :: A, 0, k, h, hk, ex => h
  | x :: A, b + 1, k, h, hk, ex => mg_front (A := A) h hk ex
theorem ms_samek : ∀ {A : Mem} {b : Nat} {k : Blk}, mg A b = k → k.owned = true → ms A b k = A
  | [], b, k, h, hk => by simp only [mg] at h; subst h; cases hk
  | x :: A, 0, k, h, hk => by simp only [mg] at h; subst h; rfl
  | x :: A, b + 1, k, h, hk => by simp only [ms]; rw [ms_samek (A := A) h hk]
theorem mg_lt : ∀ {A : Mem} {b : Nat} {k : Blk}, mg A b = k → k.owned = true → b < A.length
  | [], b, k, h, hk => by simp only [mg] at h; subst h; cases hk
  | x :: A, 0, k, h, hk => by simp
  | x :: A, b + 1, k, h, hk => by have := mg_lt (A := A) h hk; simp; omega
theorem ms_front : ∀ {A : Mem} {b : Nat} (x : Blk), b < A.length → ∀ ex, ms (A ++ ex) b x = ms A b x ++ ex
  | [], b, x, h, ex => by simp at h
  | y :: A, 0, x, h, ex => rfl
  | y :: A, b + 1, x, h, ex => by simp only [List.cons_append, ms]; rw [ms_front (A := A) x (by simpa using h) ex]
theorem app_len (A : Mem) (x : Blk) (ex : Mem) : (A ++ x :: ex).length = A.length + (x :: ex).length := List.length_append
mutual
theorem fzV_ids {n b sz : Nat} {xs : List (List AV)} (hb : n ≤ b) : ∀ {v : AV}, ids n v = true → (fzV b sz xs v).2 = v ∧ (fzV b sz xs v).1
  | .bool _, _ | .bsym _, _ | .int _ _, _ | .str _, _ | .nilptr, _ | .pval _ _ _ _, _ | .nilsl, _ | .nil0, _ | .vsl _ _ _, _ | .nilmap, _ | .nilfn, _ | .nilif, _ | .pbox _ _, _ | .parr _ _ _, _ | .pelt _ _ _, _ | .asl _ _ _ _ _, _ | .map _, _ | .fn _ _ _, _ | .ifc _ _, _ | .tup _, _ => by simp [fzV]
  | .sl b' i l c t, h => by
    have h1 : b' < n := Nat.blt_eq.mp h
    have : Nat.beq b' b = false := by
      cases hc : Nat.beq b' b with
      | false => rfl
      | true => have := Nat.eq_of_beq_eq_true hc; omega
    simp [fzV, this]
  | .agg cs, h => by
    have := fzL_ids (sz := sz) (xs := xs) hb (vs := cs) h
    refine ⟨?_, ?_⟩
    · simp only [fzV]; rw [this.1]
    · simp only [fzV]; exact this.2
theorem fzL_ids {n b sz : Nat} {xs : List (List AV)} (hb : n ≤ b) : ∀ {vs : List AV}, idss n vs = true → (fzL b sz xs vs).2 = vs ∧ (fzL b sz xs vs).1
  | [], _ => ⟨rfl, trivial⟩
  | v :: vs, h => by
    simp only [idss, Bool.and_eq_true] at h
    have h1 := fzV_ids (sz := sz) (xs := xs) hb h.1
    have h2 := fzL_ids (sz := sz) (xs := xs) hb h.2
    refine ⟨?_, ?_⟩
    · simp only [fzL]; rw [h1.1, h2.1]
    · simp only [fzL]; exact ⟨h1.2, h2.2⟩
end
theorem fzM_ids {n b sz : Nat} {xs : List (List AV)} (hb : n ≤ b) : ∀ {A : Mem}, idsM n A = true → (fzM b sz xs A).2 = A ∧ (fzM b sz xs A).1
  | [], _ => ⟨rfl, trivial⟩
  | k :: A, h => by
    simp only [idsM, Bool.and_eq_true] at h
    have h2 := fzM_ids (sz := sz) (xs := xs) hb (A := A) h.2
    cases k with
    | box cs =>
      have h1 := fzL_ids (sz := sz) (xs := xs) hb (vs := cs) h.1
      refine ⟨?_, ?_⟩
      · simp only [fzM]; rw [h1.1, h2.1]
      · simp only [fzM]; exact ⟨h1.2, h2.2⟩
    | _ =>
      refine ⟨?_, ?_⟩
      · simp only [fzM]; rw [h2.1]
      · simp only [fzM]; exact h2.2
theorem ms_app1 (A : Mem) (x y : Blk) : ms (A ++ [x]) A.length y = A ++ [y] := by rw [ms_app0]; rfl
theorem mg_app1 (A : Mem) (x : Blk) : mg (A ++ [x]) A.length = x := by rw [mg_app0]; rfl
theorem embV_front {v : AV} {A : Mem} (ex : Mem) (hk : k0 ≤ A.length) (hv : ids A.length v = true) (hm : idsM A.length A = true) : EmbV k0 (idl A.length 0) v (A ++ ex) v A := by
  refine ⟨?_, (ren_idl hv).symm, ?_⟩
  · simp only [hv, hm, nodup_idl, fixed_idl k0 A.length 0 hk, below_idl A.length 0 (A ++ ex).length (by simp), Bool.and_self]
  · have := embM_idl (n := A.length) (N := (A ++ ex).length) (ex := ex) (pm := A) (pre := []) hm
    simpa using this
theorem post_front {v v' : AV} {A m' : Mem} (ex : Mem) (hA : idsM A.length A = true) (hk : k0 ≤ A.length) (hv : ids A.length v = true) (h : Post k0 v A v' m') : Post k0 v (A ++ ex) v' m' :=
  .sub (idl A.length 0) (embV_front ex hk hv hA) h
theorem post_row {A ex : Mem} {j l c sz : Nat} {xs : List (List AV)} (hA : idsM A.length A = true) (hk : k0 ≤ A.length) (hx : mg ex j = .row sz xs) (hl : l ≤ xs.length) :
    Post k0 (.sl (A.length + j) 0 l c false) (A ++ ex) (.vsl sz (sub xs 0 l) false) A := by
  have hjl : j < ex.length := mg_lt hx rfl
  have e := embV_ext (k0 := k0) (A := A) (ex := ex) (B := [.row sz xs]) (π := [A.length + j]) (v := .sl A.length 0 l c false) hA hk
    (by simp [ids]) rfl rfl (by simp) (by simp only [below, Bool.and_true]; exact Nat.blt_eq.mpr (by rw [List.length_append]; omega)) ⟨by rw [mg_app, hx]; rfl, trivial⟩
  have e1 : ren (idl A.length 0 ++ [A.length + j]) (A ++ ex).length (.sl A.length 0 l c false) = .sl (A.length + j) 0 l c false := by
    simp only [ren]; rw [rid_post0]
  rw [e1] at e
  refine .sub _ e ?_
  have hz := fzM_ids (n := A.length) (b := A.length) (sz := sz) (xs := xs) (Nat.le_refl _) hA
  have happ : ∀ (A : Mem), (fzM A.length sz xs A).2 = A → (fzM A.length sz xs A).1 → True := fun _ _ _ => trivial
  have hzz : ∀ (b : Nat) (A : Mem), (fzM b sz xs A).2 = A ∧ (fzM b sz xs A).1 → (fzM b sz xs (A ++ [.gone])).2 = A ++ [.gone] ∧ (fzM b sz xs (A ++ [.gone])).1 := by
    intro b A
    induction A with
    | nil => intro _; exact ⟨rfl, trivial⟩
    | cons k A ih =>
      intro h
      cases k with
      | box cs =>
        simp only [fzM, List.cons.injEq] at h
        have := ih ⟨h.1.2, h.2.2⟩
        refine ⟨?_, ?_⟩
        · simp only [List.cons_append, fzM]; rw [this.1, h.1.1]
        · simp only [List.cons_append, fzM]; exact ⟨h.2.1, this.2⟩
      | _ =>
        simp only [fzM, List.cons.injEq] at h
        have := ih ⟨h.1.2, h.2⟩
        refine ⟨?_, ?_⟩
        · simp only [List.cons_append, fzM]; rw [this.1]
        · simp only [List.cons_append, fzM]; exact this.2
  have h3 := hzz _ A hz
  have hb : Nat.beq A.length A.length = true := Nat.beq_refl _
  refine .fz (v2 := .vsl sz (sub xs 0 l) false) (m2 := A ++ [.gone]) (p := (0 + l ≤ xs.length) ∧ (fzM A.length sz xs (A ++ [.gone])).1) A.length ?_ ⟨by omega, h3.2⟩ ?_
  · simp only [fzB, mg_app1, ms_app1, fzR, fzV, hb]
    rw [h3.1]
  · exact post_front [.gone] hA hk (by simp [ids]) .done
end Go.AE
