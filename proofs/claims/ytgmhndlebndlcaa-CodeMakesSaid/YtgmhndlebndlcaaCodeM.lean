/- CodeMakes: the law's evaluation. -/
import Derived.Test.YtgmhndlebndlcaaCodeO
import Derived.Test.YtgmhndlebndlcaaAEsa
namespace Go.AEX
open Go Go.AE Go.Proofs
set_option maxRecDepth 100000
set_option linter.unusedVariables false
set_option linter.unusedSimpArgs false

theorem ins_row {xs : List (List AV)} (h : ∀ x ∈ xs, HasL [.int .u8, .int .i64] x) : ∃ l : List Ins, xs = irows l ∧ ∀ x ∈ l, InsOk x := by
  induction xs with
  | nil => exact ⟨[], rfl, by simp⟩
  | cons x xs ih =>
    obtain ⟨l, rfl, hl⟩ := ih fun y hy => h y (by simp [hy])
    have hx := h x (by simp)
    simp only [HasL, Has] at hx
    obtain ⟨_, _, rfl, ⟨a, rfl, ha⟩, _, _, rfl, ⟨b, rfl, hb⟩, rfl⟩ := hx
    refine ⟨(a, b) :: l, rfl, fun m hm => ?_⟩
    rcases List.mem_cons.1 hm with rfl | hm
    · simp [Lit.wf, IntKind.min, IntKind.max, IntKind.bits, IntKind.signed] at ha hb
      unfold InsOk I64
      simp only
      omega
    · exact hl m hm
/-- The first i with an argument that is one more. -/
def bump (x : Ins) : Ins := (x.1, iwrap .i64 (x.2 + 1))
def bumps (l : List Ins) (i : Nat) : List Ins := (l.take i).map bump ++ l.drop i
theorem bumps_len (l : List Ins) (i : Nat) (h : i ≤ l.length) : (bumps l i).length = l.length := by
  unfold bumps; rw [List.length_append, List.length_map, List.length_take, List.length_drop]; omega
theorem bumps_get (l : List Ins) (i : Nat) (h : i < l.length) : (bumps l i)[i]'(by rw [bumps_len l i (by omega)]; exact h) = l[i] := by
  unfold bumps
  rw [List.getElem_append_right (by rw [List.length_map, List.length_take]; omega)]
  simp only [List.getElem_drop, List.length_map, List.length_take]
  congr 1
  omega
theorem bumps_set (l : List Ins) (i : Nat) (h : i < l.length) : (bumps l i).set i (bump l[i]) = bumps l (i + 1) := by
  unfold bumps
  rw [List.set_append_right _ _ (by rw [List.length_map, List.length_take]; omega), List.take_succ_eq_append_getElem h, List.map_append, List.length_map, List.length_take, show i - min i l.length = 0 by omega, List.drop_eq_getElem_cons h, List.set_cons_zero, List.append_assoc]
  rfl
theorem irows_rput {l : List Ins} {i : Nat} (h : i < l.length) (v : Int) : rput (irows l) i 1 [.int .i64 v] = irows (l.set i (l[i].1, v)) := by
  unfold rput irows
  apply List.ext_getElem?
  intro j
  rw [List.getElem?_modify, List.getElem?_map, List.getElem?_map, List.getElem?_set]
  by_cases e : i = j
  · subst e
    simp [h, irow]
  · simp [e]
theorem irows_inR {l : List Ins} {i : Nat} (h : i < l.length) : inR (irows l) i 1 1 := ⟨_, irows_get h, by simp [irow]⟩
theorem bump_ne (x : Int) (h : I64 x) : (x == iwrap .i64 (x + 1)) = false := by
  unfold I64 at h
  rw [iwrap_i64]
  simp only [beq_eq_false_iff_ne]
  split <;> omega
theorem codeMakes_spec (a : Int) (ha : (Lit.int .i64 a).wf = true) (b : Int) (hb : (Lit.int .i64 b).wf = true) (l : AV) (hl : Has (.sl [.int .u8, .int .i64]) l) :
    Tri Try.prog 4 [.int .i64 a, .int .i64 b, l] [] (fun v m => v = .bool true) := by
  simp only [Has] at hl
  obtain ⟨xs, rfl, hxl, hx⟩ := hl
  obtain ⟨l, rfl, hok⟩ := ins_row hx
  simp only [List.length_cons, List.length_nil]
  rw [irows_len] at hxl
  skip
  refine (Tri.asB (Tri.enter (rl := r4) (code := c4) (by kernel_rfl) Try.func4 rfl c4_ok (by kernel_rfl) (by kernel_rfl) ?_))
  refine run_ok 4000 _ _ _ _ ?_
  simp (maxSteps := 10000000) only [go_sem, c4, r4, irows_len]
  have hs : sub (irows l) 0 30 = irows (l.take 30) := by simp [sub, irows, List.map_take]
  refine ⟨fun h => ⟨by omega, ?_⟩, fun h => ?_⟩
  · simp only [hs, irows_len]
    have hL : (l.take 30).length ≤ 30 := by rw [List.length_take]; omega
    have hokL : ∀ x ∈ l.take 30, InsOk x := fun x hx => hok x (List.mem_of_mem_take hx)
    generalize l.take 30 = L at *
    refine ⟨by unfold small; omega, ?_⟩
    have hall := irows_all L
    skip
    refine sem_call rfl rfl (((make_own a b L (by omega)).embed [0] rfl (by repeat' first | exact trivial | rfl | (simp only [go_sem]; done) | constructor) rfl (by first | rfl | simp only [go_sem]) rfl (by simp)).mono ?_)
    rintro _ _ ⟨_, _, ⟨rfl, rfl⟩, rfl, rfl⟩
    refine run_ok 4000 _ _ _ _ ?_
    simp (maxSteps := 10000000) only [go_sem, irows_len]
    refine sem_rounds (fun i : Nat => i ≤ L.length) (fun i => [(0, .int .i64 a), (1, .int .i64 b), (2, .sl 0 0 L.length L.length false), (7, .pbox 2 0), (22, .int .i64 L.length), (23, .int .i64 (i : Nat))])
      (fun i => [.row 2 (irows (bumps L i)), .row 2 (irows L), .box [.int .i64 a, .int .i64 b, .sl 1 0 L.length L.length false]]) (fun i => L.length - i) 0 [0, 1, 2] (Nat.zero_le _) ?_ ?_
    · simp only [Emb, go_sem]; simp [bumps]
    intro i hi
    refine run_ok 4000 _ _ _ _ ?_
    simp (maxSteps := 10000000) only [go_sem, irows_len]
    refine ⟨fun hlt => ?_, fun hge => ?_⟩
    · have hlt : i < L.length := by omega
      have hin : (i : Int) < (L.length : Int) := by omega
      have hb1 : i < (bumps L i).length := by rw [bumps_len L i (by omega)]; exact hlt
      have hb2 : i < (bumps L (i + 1)).length := by rw [bumps_len L (i + 1) hlt]; exact hlt
      have r0 : rint (irows (bumps L i)) i 0 = L[i].1 := by rw [irows_r0 hb1, bumps_get L i hlt]
      have r1 : rint (irows (bumps L i)) i 1 = L[i].2 := by rw [irows_r1 hb1, bumps_get L i hlt]
      have hset := bumps_set L i hlt
      have hg2 : (bumps L (i + 1))[i] = bump L[i] := by simp only [← hset, List.getElem_set_self]
      have s0 : rint (irows (bumps L (i + 1))) i 0 = L[i].1 := by rw [irows_r0 hb2, hg2]; rfl
      have s1 : rint (irows (bumps L (i + 1))) i 1 = iwrap .i64 (L[i].2 + 1) := by rw [irows_r1 hb2, hg2]; rfl
      have hrp : rput (irows (bumps L i)) i 1 [.int .i64 (iwrap .i64 (L[i].2 + 1))] = irows (bumps L (i + 1)) := by
        rw [irows_rput hb1, bumps_get L i hlt, ← hset]; rfl
      have hne := bump_ne L[i].2 (hokL _ (List.getElem_mem hlt)).2.2
      have g0 := irows_r0 hlt; have g1 := irows_r1 hlt
      skip
      refine sem_drawG l4_0_ok (by kernel_rfl) ?_
      intro KK hKK
      simp (maxSteps := 10000000) only [go_sem, l4_0, irows_len, hin, Int.natCast_nonneg, r0, r1, s0, s1, g0, g1, irows_h0 hlt, irows_h1 hlt, irows_h0 hb1, irows_h1 hb1, irows_h0 hb2, irows_h1 hb2, irows_inR hb1, hrp, hne, inc64 (show i < 1000000000000 by omega)]
      subst hKK
      simp (maxSteps := 10000000) only [go_sem, irows_len, hin, Int.natCast_nonneg, r0, r1, s0, s1, g0, g1, irows_h0 hlt, irows_h1 hlt, irows_h0 hb1, irows_h1 hb1, irows_h0 hb2, irows_h1 hb2, irows_inR hb1, hrp, hne, inc64 (show i < 1000000000000 by omega)]
      refine sem_drawG l4_1_ok (by kernel_rfl) ?_
      intro KK hKK
      simp (maxSteps := 10000000) only [go_sem, l4_1, irows_len, hin, Int.natCast_nonneg, r0, r1, s0, s1, g0, g1, irows_h0 hlt, irows_h1 hlt, irows_h0 hb1, irows_h1 hb1, irows_h0 hb2, irows_h1 hb2, irows_inR hb1, hrp, hne, inc64 (show i < 1000000000000 by omega)]
      subst hKK
      simp (maxSteps := 10000000) only [go_sem, irows_len, hin, Int.natCast_nonneg, r0, r1, s0, s1, g0, g1, irows_h0 hlt, irows_h1 hlt, irows_h0 hb1, irows_h1 hb1, irows_h0 hb2, irows_h1 hb2, irows_inR hb1, hrp, hne, inc64 (show i < 1000000000000 by omega)]
      refine ⟨i + 1, by omega, hlt, [0, 1, 2], ?_⟩
      simp only [Emb, go_sem]
    · skip
      refine run_ok 4000 _ _ _ _ ?_
      simp (maxSteps := 10000000) only [go_sem]
      refine sem_call rfl rfl (((awake03_spec).embed [] rfl trivial rfl rfl rfl (by simp)).mono ?_)
      rintro _ _ ⟨_, _, ⟨rfl, rfl⟩, rfl, rfl⟩
      refine run_ok 4000 _ _ _ _ ?_
      simp (maxSteps := 10000000) only [go_sem]
  · have hL : l.length ≤ 30 := by omega
    have hokL := hok
    generalize l = L at *
    refine ⟨by unfold small; omega, ?_⟩
    have hall := irows_all L
    skip
    refine sem_call rfl rfl (((make_own a b L (by omega)).embed [0] rfl (by repeat' first | exact trivial | rfl | (simp only [go_sem]; done) | constructor) rfl (by first | rfl | simp only [go_sem]) rfl (by simp)).mono ?_)
    rintro _ _ ⟨_, _, ⟨rfl, rfl⟩, rfl, rfl⟩
    refine run_ok 4000 _ _ _ _ ?_
    simp (maxSteps := 10000000) only [go_sem, irows_len]
    refine sem_rounds (fun i : Nat => i ≤ L.length) (fun i => [(0, .int .i64 a), (1, .int .i64 b), (2, .sl 0 0 L.length L.length false), (7, .pbox 2 0), (22, .int .i64 L.length), (23, .int .i64 (i : Nat))])
      (fun i => [.row 2 (irows (bumps L i)), .row 2 (irows L), .box [.int .i64 a, .int .i64 b, .sl 1 0 L.length L.length false]]) (fun i => L.length - i) 0 [0, 1, 2] (Nat.zero_le _) ?_ ?_
    · simp only [Emb, go_sem]; simp [bumps]
    intro i hi
    refine run_ok 4000 _ _ _ _ ?_
    simp (maxSteps := 10000000) only [go_sem, irows_len]
    refine ⟨fun hlt => ?_, fun hge => ?_⟩
    · have hlt : i < L.length := by omega
      have hin : (i : Int) < (L.length : Int) := by omega
      have hb1 : i < (bumps L i).length := by rw [bumps_len L i (by omega)]; exact hlt
      have hb2 : i < (bumps L (i + 1)).length := by rw [bumps_len L (i + 1) hlt]; exact hlt
      have r0 : rint (irows (bumps L i)) i 0 = L[i].1 := by rw [irows_r0 hb1, bumps_get L i hlt]
      have r1 : rint (irows (bumps L i)) i 1 = L[i].2 := by rw [irows_r1 hb1, bumps_get L i hlt]
      have hset := bumps_set L i hlt
      have hg2 : (bumps L (i + 1))[i] = bump L[i] := by simp only [← hset, List.getElem_set_self]
      have s0 : rint (irows (bumps L (i + 1))) i 0 = L[i].1 := by rw [irows_r0 hb2, hg2]; rfl
      have s1 : rint (irows (bumps L (i + 1))) i 1 = iwrap .i64 (L[i].2 + 1) := by rw [irows_r1 hb2, hg2]; rfl
      have hrp : rput (irows (bumps L i)) i 1 [.int .i64 (iwrap .i64 (L[i].2 + 1))] = irows (bumps L (i + 1)) := by
        rw [irows_rput hb1, bumps_get L i hlt, ← hset]; rfl
      have hne := bump_ne L[i].2 (hokL _ (List.getElem_mem hlt)).2.2
      have g0 := irows_r0 hlt; have g1 := irows_r1 hlt
      skip
      refine sem_drawG l4_0_ok (by kernel_rfl) ?_
      intro KK hKK
      simp (maxSteps := 10000000) only [go_sem, l4_0, irows_len, hin, Int.natCast_nonneg, r0, r1, s0, s1, g0, g1, irows_h0 hlt, irows_h1 hlt, irows_h0 hb1, irows_h1 hb1, irows_h0 hb2, irows_h1 hb2, irows_inR hb1, hrp, hne, inc64 (show i < 1000000000000 by omega)]
      subst hKK
      simp (maxSteps := 10000000) only [go_sem, irows_len, hin, Int.natCast_nonneg, r0, r1, s0, s1, g0, g1, irows_h0 hlt, irows_h1 hlt, irows_h0 hb1, irows_h1 hb1, irows_h0 hb2, irows_h1 hb2, irows_inR hb1, hrp, hne, inc64 (show i < 1000000000000 by omega)]
      refine sem_drawG l4_1_ok (by kernel_rfl) ?_
      intro KK hKK
      simp (maxSteps := 10000000) only [go_sem, l4_1, irows_len, hin, Int.natCast_nonneg, r0, r1, s0, s1, g0, g1, irows_h0 hlt, irows_h1 hlt, irows_h0 hb1, irows_h1 hb1, irows_h0 hb2, irows_h1 hb2, irows_inR hb1, hrp, hne, inc64 (show i < 1000000000000 by omega)]
      subst hKK
      simp (maxSteps := 10000000) only [go_sem, irows_len, hin, Int.natCast_nonneg, r0, r1, s0, s1, g0, g1, irows_h0 hlt, irows_h1 hlt, irows_h0 hb1, irows_h1 hb1, irows_h0 hb2, irows_h1 hb2, irows_inR hb1, hrp, hne, inc64 (show i < 1000000000000 by omega)]
      refine ⟨i + 1, by omega, hlt, [0, 1, 2], ?_⟩
      simp only [Emb, go_sem]
    · skip
      refine run_ok 4000 _ _ _ _ ?_
      simp (maxSteps := 10000000) only [go_sem]
      refine sem_call rfl rfl (((awake03_spec).embed [] rfl trivial rfl rfl rfl (by simp)).mono ?_)
      rintro _ _ ⟨_, _, ⟨rfl, rfl⟩, rfl, rfl⟩
      refine run_ok 4000 _ _ _ _ ?_
      simp (maxSteps := 10000000) only [go_sem]
end Go.AEX
