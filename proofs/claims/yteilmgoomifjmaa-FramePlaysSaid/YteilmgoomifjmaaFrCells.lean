/- Frame: the same cells have the same bytes (FrameCells). -/
import Derived.Test.YteilmgoomifjmaaFrSt
namespace Go.AEX
open Go Go.AE Go.Proofs
set_option maxRecDepth 100000
set_option linter.unusedVariables false
set_option linter.unusedSimpArgs false

def hz : List Int := List.replicate 64 0
theorem hz_len : hz.length = 64 := rfl
theorem awake06_spec : Tri Try.prog 11 [] [] (fun v m => v = .bool true ∧ m = []) := by
  refine Tri.asB (Tri.post ?_)
  have hp := push_spec [] [1, 2, 3] true (by simp)
  have hh := hput_spec hz hz_len 2 (by omega) (-1)
  have htk := take_spec [1, 2, 3] 2 (by simp) (by simp)
  have hl := slen_spec [1]
  have hx := htext_spec (hz.set 2 (-1)) (by rw [List.length_set]; rfl) (by
    intro n hn; rcases List.mem_or_eq_of_mem_set hn with h | h
    · rw [List.eq_of_mem_replicate h]; unfold I64; omega
    · subst h; unfold I64; omega)
  have ht : textH (hz.set 2 (-1)) = [3, 0, 0, 1] := by
    have h1 : lastK (hz.set 2 (-1)) 64 = 3 := by decide
    unfold textH
    rw [h1]
    have h2 : (hz.set 2 (-1)).take 3 = [0, 0, -1] := rfl
    rw [h2]
    simp [numsB, numB_last, zg]
  have hm := make_spec 1 1 (by unfold I64; omega) [5] true
  have hm2 : locs 1 [5] = [5] := by decide
  rw [ht] at hx
  rw [hm2] at hm
  unfold stackM stackG at *
  simp only [List.nil_append, List.length_cons, List.length_nil, Nat.reduceAdd, Nat.reduceSub, List.drop_succ_cons, List.drop_zero, List.take_succ_cons, List.take_zero, iv, List.map_cons, List.map_nil] at hp htk hl hm
  refine (Tri.enter (rl := r11) (code := c11) (by kernel_rfl) Try.func11 rfl c11_ok (by kernel_rfl) (by kernel_rfl) ?_)
  refine run_ok 4000 _ _ _ _ ?_
  simp (maxSteps := 10000000) only [go_sem, c11, r11]
  refine sem_nilbox 0 0 1 rfl rfl ?_
  refine run_ok 4000 _ _ _ _ ?_
  simp (maxSteps := 10000000) only [go_sem]
  refine sem_call rfl rfl (((hp).embed [0, 2] rfl (by repeat' first | exact trivial | rfl | (simp only [go_sem]; done) | constructor) rfl (by first | rfl | simp only [go_sem]) rfl (by simp)).mono ?_)
  rintro _ _ ⟨_, _, ⟨rfl, rfl⟩, rfl, rfl⟩
  refine run_ok 4000 _ _ _ _ ?_
  simp (maxSteps := 10000000) only [go_sem]
  refine sem_call rfl rfl (((hh).embed [1] rfl (by repeat' first | exact trivial | rfl | (simp only [go_sem]; done) | constructor) rfl (by first | rfl | simp only [go_sem]) rfl (by simp)).mono ?_)
  rintro _ _ ⟨_, _, ⟨rfl, rfl⟩, rfl, rfl⟩
  refine run_ok 4000 _ _ _ _ ?_
  simp (maxSteps := 10000000) only [go_sem]
  refine sem_call rfl rfl (((htk).embed [0, 3] rfl (by repeat' first | exact trivial | rfl | (simp only [go_sem]; done) | constructor) rfl (by first | rfl | simp only [go_sem]) rfl (by simp)).mono ?_)
  rintro _ _ ⟨_, _, ⟨rfl, rfl⟩, rfl, rfl⟩
  refine run_ok 4000 _ _ _ _ ?_
  simp (maxSteps := 10000000) only [go_sem]
  refine sem_call rfl rfl (((hl).embed [0, 3] rfl (by repeat' first | exact trivial | rfl | (simp only [go_sem]; done) | constructor) rfl (by first | rfl | simp only [go_sem]) rfl (by simp)).mono ?_)
  rintro _ _ ⟨_, _, ⟨rfl, rfl⟩, rfl, rfl⟩
  refine run_ok 4000 _ _ _ _ ?_
  simp (maxSteps := 10000000) only [go_sem]
  refine sem_call rfl rfl (((hx).embed [1] rfl (by repeat' first | exact trivial | rfl | (simp only [go_sem]; done) | constructor) rfl (by first | rfl | simp only [go_sem]) rfl (by simp)).mono ?_)
  rintro _ _ ⟨_, _, ⟨rfl, rfl⟩, rfl, rfl⟩
  refine run_ok 4000 _ _ _ _ ?_
  simp (maxSteps := 10000000) only [go_sem]
  unfold frameM at hm
  refine sem_call rfl rfl (((hm).embed [] rfl trivial rfl rfl rfl (by simp)).mono ?_)
  rintro _ _ ⟨_, _, ⟨rfl, rfl⟩, rfl, rfl⟩
  refine run_ok 4000 _ _ _ _ ?_
  simp (maxSteps := 10000000) only [go_sem]
  refine sem_call rfl rfl (((hm).embed [] rfl trivial rfl rfl rfl (by simp)).mono ?_)
  rintro _ _ ⟨_, _, ⟨rfl, rfl⟩, rfl, rfl⟩
  refine run_ok 4000 _ _ _ _ ?_
  simp (maxSteps := 10000000) only [go_sem]
  exact ⟨.bool true, _, .sub [] (by simp only [EmbV, go_sem]) .done, rfl, rfl⟩
/-- Cells from a to b. -/
def cellsR (l : List Int) (a b : Nat) : List Int := (List.range 64).map fun j => if a ≤ j ∧ j < b then l.getD j 0 else 0
theorem cellsR_len (l : List Int) (a b : Nat) : (cellsR l a b).length = 64 := by simp [cellsR]
theorem cellsR_nil (l : List Int) (a : Nat) : cellsR l a a = hz := by
  unfold cellsR hz
  rw [List.eq_replicate_iff]
  refine ⟨by simp, fun x hx => ?_⟩
  obtain ⟨j, _, rfl⟩ := List.mem_map.1 hx
  rw [if_neg (by omega)]
theorem cellsR_up (l : List Int) (a n : Nat) (h : a ≤ n) : (cellsR l a n).set n (l.getD n 0) = cellsR l a (n + 1) := by
  unfold cellsR
  apply List.ext_getElem
  · simp
  · intro j h1 h2
    simp only [List.getElem_set, List.getElem_map, List.getElem_range]
    by_cases e : n = j
    · subst e; rw [if_pos rfl, if_pos (by omega)]
    · rw [if_neg e]
      by_cases c : a ≤ j ∧ j < n
      · rw [if_pos c, if_pos (by omega)]
      · rw [if_neg c, if_neg (by omega)]
theorem cellsR_down (l : List Int) (k m : Nat) (h : k < m) (y : Int) : ((cellsR l (k + 1) m).set k y).set k (l.getD k 0) = cellsR l k m := by
  unfold cellsR
  apply List.ext_getElem
  · simp
  · intro j h1 h2
    simp only [List.getElem_set, List.getElem_map, List.getElem_range]
    by_cases e : k = j
    · subst e; rw [if_pos rfl, if_pos (by omega)]
    · rw [if_neg e, if_neg e]
      by_cases c : k + 1 ≤ j ∧ j < m
      · rw [if_pos c, if_pos (by omega)]
      · rw [if_neg c, if_neg (by omega)]
theorem cellsR_64 (l : List Int) (a b : Nat) (hl : ∀ n ∈ l, I64 n) : ∀ n ∈ cellsR l a b, I64 n := by
  intro n hn
  obtain ⟨j, _, rfl⟩ := List.mem_map.1 hn
  split
  · rw [List.getD_eq_getElem?_getD]
    by_cases h : j < l.length
    · rw [List.getElem?_eq_getElem h]; exact hl _ (List.getElem_mem h)
    · rw [List.getElem?_eq_none (by omega)]; simp [I64]
  · simp [I64]
theorem numsB_inj : ∀ (l m : List Nat), l.length = m.length → (∀ n ∈ l, n < 18446744073709551616) → (∀ n ∈ m, n < 18446744073709551616) → numsB l = numsB m → l = m
  | [], [], _, _, _, _ => rfl
  | [], _ :: _, h, _, _, _ => by simp at h
  | _ :: _, [], h, _, _, _ => by simp at h
  | x :: l, y :: m, h, hl, hm, e => by
    have e1 : numB x ++ numsB l = numB y ++ numsB m := by simpa [numsB] using e
    have h1 := numI_put x (numsB l) (hl x (by simp))
    have h2 := numI_put y (numsB m) (hm y (by simp))
    rw [e1, h2] at h1
    obtain ⟨e2, e3, _⟩ := Prod.mk.inj h1 |>.imp id (fun h => Prod.mk.inj h)
    rw [← e2, numsB_inj l m (by simpa using h) (fun n hn => hl n (by simp [hn])) (fun n hn => hm n (by simp [hn])) e3.symm]
theorem lastK_zero (l : List Int) : ∀ (k j : Nat), lastK l k ≤ j → j < k → l.getD j 0 = 0
  | 0, j, _, h => by omega
  | k + 1, j, h1, h2 => by
    unfold lastK at h1
    split at h1
    · rename_i h0
      by_cases e : j = k
      · subst e; exact h0
      · exact lastK_zero l k j h1 (by omega)
    · omega
theorem textH_inj {a b : List Int} (ha : a.length = 64) (hb : b.length = 64) (ha6 : ∀ n ∈ a, I64 n) (hb6 : ∀ n ∈ b, I64 n) (h : textH a = textH b) : a = b := by
  unfold textH at h
  have la := lastK_le a 64; have lb := lastK_le b 64
  have za := lastK_zero a 64; have zb := lastK_zero b 64
  generalize lastK a 64 = na at *
  generalize lastK b 64 = nb at *
  have h1 := numI_put na (numsB ((a.take na).map zg)) (by omega)
  have h2 := numI_put nb (numsB ((b.take nb).map zg)) (by omega)
  rw [h, h2] at h1
  obtain ⟨e2, e3, _⟩ := Prod.mk.inj h1 |>.imp id (fun h => Prod.mk.inj h)
  subst e2
  have hzl : ∀ (c : List Int), (∀ n ∈ c, I64 n) → ∀ n ∈ (c.take nb).map zg, n < 18446744073709551616 := by
    intro c hc n hn
    obtain ⟨k, hk, rfl⟩ := List.mem_map.1 hn
    exact zg_lt (hc k (List.mem_of_mem_take hk))
  have e4 := numsB_inj _ _ (by simp; omega) (hzl b hb6) (hzl a ha6) e3
  have e5 : ∀ c : List Int, (∀ n ∈ c, I64 n) → ((c.take nb).map zg).map sg = c.take nb := by
    intro c hc
    rw [List.map_map]
    conv => rhs; rw [← List.map_id (c.take nb)]
    apply List.map_congr_left
    intro n hn
    exact sg_zg (hc n (List.mem_of_mem_take hn))
  have e6 : b.take nb = a.take nb := by rw [← e5 b hb6, e4, e5 a ha6]
  apply List.ext_getElem (by omega)
  intro j h1 h2
  by_cases hj : j < nb
  · have := congrArg (fun l => l[j]?) e6
    simp only [List.getElem?_take, hj, if_true] at this
    rw [List.getElem?_eq_getElem h1, List.getElem?_eq_getElem h2] at this
    exact (Option.some.inj this).symm
  · have z1 := za j (by omega) (by omega)
    have z2 := zb j (by omega) (by omega)
    rw [List.getD_eq_getElem?_getD, List.getElem?_eq_getElem h1] at z1
    rw [List.getD_eq_getElem?_getD, List.getElem?_eq_getElem h2] at z2
    simp at z1 z2
    rw [z1, z2]
theorem frameCells_spec (l : List Int) (hw : ∀ n ∈ l, (Lit.int .i64 n).wf = true) (at_ : Int) (ha : (Lit.int .i64 at_).wf = true) (x : Int) (hx : (Lit.int .i64 x).wf = true) :
    Tri Try.prog 3 [.vsl 1 (iv .i64 l) false, .int .i64 at_, .int .i64 x] [] (fun v m => v = .bool true) := by
  have wf64 : ∀ n : Int, (Lit.int .i64 n).wf = true → I64 n := by
    intro n h; simp [Lit.wf, IntKind.min, IntKind.max, IntKind.bits, IntKind.signed] at h; unfold I64; omega
  have hl6 : ∀ n ∈ l, I64 n := fun n hn => wf64 n (hw n hn)
  have hgd : ∀ {i : Nat}, (h : i < l.length) → l[i] = l.getD i 0 := fun h => by rw [List.getD_eq_getElem?_getD, List.getElem?_eq_getElem h]; rfl
  skip
  refine (Tri.asB (Tri.enter (rl := r3) (code := c3) (by kernel_rfl) Try.func3 rfl c3_ok (by kernel_rfl) (by kernel_rfl) ?_))
  refine run_ok 4000 _ _ _ _ ?_
  simp (maxSteps := 10000000) only [go_sem, c3, r3, iv_len]
  refine sem_call rfl rfl (((awake06_spec).embed [] rfl trivial rfl rfl rfl (by simp)).mono ?_)
  rintro _ _ ⟨_, _, ⟨rfl, rfl⟩, rfl, rfl⟩
  refine run_ok 4000 _ _ _ _ ?_
  simp (maxSteps := 10000000) only [go_sem, iv_len]
  refine sem_rounds (fun n => n ≤ l.length ∧ n ≤ 64) (fun n => [(0, .vsl 1 (iv .i64 l) false), (1, .int .i64 at_), (2, .int .i64 x), (7, .pbox 0 0), (8, .pbox 1 0), (9, .int .i64 (n : Nat))])
    (fun n => [.box (hc (cellsR l 0 n)), .box (hc hz)]) (fun n => 64 - n) 0 [0, 1] ⟨by omega, by omega⟩ ?_ ?_
  · rw [cellsR_nil]
    simp only [Emb, go_sem]; rfl
  rintro n ⟨hn1, hn2⟩
  refine run_ok 4000 _ _ _ _ ?_
  simp (maxSteps := 10000000) only [go_sem, iv_len]
  refine ⟨fun h1 => ⟨fun h2 => ?_, fun h2 => ?_⟩, fun h1 => ?_⟩
  · have h1 : n < l.length := by omega
    have h2 : n < 64 := by omega
    have f1 : (n : Int) < (l.length : Int) := by omega
    have hp := hput_spec (cellsR l 0 n) (cellsR_len l 0 n) n h2 l[n]
    rw [hgd h1, cellsR_up l 0 n (by omega), ← hgd h1] at hp
    skip
    simp (maxSteps := 10000000) only [go_sem, f1, iv_len, iv_hasI h1, iv_rint h1, Int.natCast_nonneg, Nat.zero_add, inc64 (show n < 1000000000000 by omega)]
    refine sem_call rfl rfl (((hp).embed [0] rfl (by repeat' first | exact trivial | rfl | (simp only [go_sem]; done) | constructor) rfl (by first | rfl | simp only [go_sem]) rfl (by simp)).mono ?_)
    rintro _ _ ⟨_, _, ⟨rfl, rfl⟩, rfl, rfl⟩
    refine run_ok 4000 _ _ _ _ ?_
    simp (maxSteps := 10000000) only [go_sem, f1, iv_len, iv_hasI h1, iv_rint h1, Int.natCast_nonneg, Nat.zero_add, inc64 (show n < 1000000000000 by omega)]
    refine ⟨n + 1, by omega, ⟨by omega, by omega⟩, [0, 1], ?_⟩
    simp only [Emb, go_sem]
  · have hm : n ≤ l.length ∧ n ≤ 64 ∧ (if (64 : Int) < (l.length : Int) then 64 else (l.length : Int)) = (n : Int) := ⟨hn1, hn2, by split <;> omega⟩
    obtain ⟨hm1, hm2, hm3⟩ := hm
    obtain ⟨p, hp, hp6⟩ := and_i64 at_ (k := 63) (by decide)
    have hp : ibits .and .i64 at_ 63 = (p : Int) := hp
    have w1 : iwrap .i64 ((n : Int) - 1) = (n : Int) - 1 := iwrap_i64_in (by omega)
    skip
    refine run_ok 4000 _ _ _ _ ?_
    simp (maxSteps := 10000000) only [go_sem, hm3, w1, iv_len]
    refine sem_rounds (fun k => k ≤ n) (fun k => [(0, .vsl 1 (iv .i64 l) false), (1, .int .i64 at_), (2, .int .i64 x), (7, .pbox 0 0), (8, .pbox 1 0), (10, .int .i64 ((k : Int) - 1))])
      (fun k => [.box (hc (cellsR l 0 n)), .box (hc (cellsR l k n))]) (fun k => k) n [0, 1] (Nat.le_refl _) ?_ ?_
    · rw [cellsR_nil l n]
      simp only [Emb, go_sem]
    rintro k hk
    cases k with
    | zero =>
      have z1 : ((0 : Nat) : Int) - 1 = -1 := rfl
      simp only [z1]
      have z2 : ¬ (-1 : Int) ≥ 0 := by omega
      skip
      refine run_ok 4000 _ _ _ _ ?_
      simp (maxSteps := 10000000) only [go_sem, z2]
      have hH := cellsR_len l 0 n
      have hH6 := cellsR_64 l 0 n hl6
      generalize cellsR l 0 n = H at *
      have ht := htext_spec H hH hH6
      have hpl : p < H.length := by omega
      have hg := hget_spec H hH p (by omega)
      have hpu := hput_spec H hH p (by omega) x
      have hS : (H.set p x).length = 64 := by rw [List.length_set]; exact hH
      have hS6 : ∀ n ∈ H.set p x, I64 n := fun n hn => by
        rcases List.mem_or_eq_of_mem_set hn with h | h
        · exact hH6 n h
        · rw [h]; exact wf64 x hx
      have ht2 := htext_spec (H.set p x) hS hS6
      have hpu2 := hput_spec (H.set p x) hS p (by omega) H[p]
      have hback : (H.set p x).set p H[p] = H := by
        rw [List.set_set]; exact List.set_getElem_self hpl
      rw [hback] at hpu2
      have hcmp : seqb (textH (H.set p x)) (textH H) = (x == H[p]) := by
        rw [Bool.eq_iff_iff]
        constructor
        · intro h
          have := textH_inj hS hH hS6 hH6 (by simpa [seqb] using h)
          have := congrArg (fun l => l[p]?) this
          simp only [List.getElem?_set_self hpl, List.getElem?_eq_getElem hpl] at this
          simpa using this
        · intro h
          have h : x = H[p] := by simpa using h
          rw [h, List.set_getElem_self hpl]; simp [seqb]
      have hself : ∀ b : Bool, (b == b) = true := fun b => by cases b <;> rfl
      skip
      refine sem_call rfl rfl (((ht).embed [0] rfl (by repeat' first | exact trivial | rfl | (simp only [go_sem]; done) | constructor) rfl (by first | rfl | simp only [go_sem]) rfl (by simp)).mono ?_)
      rintro _ _ ⟨_, _, ⟨rfl, rfl⟩, rfl, rfl⟩
      refine run_ok 4000 _ _ _ _ ?_
      simp (maxSteps := 10000000) only [go_sem, hp, seqb_self, hcmp, hself]
      refine sem_call rfl rfl (((ht).embed [1] rfl (by repeat' first | exact trivial | rfl | (simp only [go_sem]; done) | constructor) rfl (by first | rfl | simp only [go_sem]) rfl (by simp)).mono ?_)
      rintro _ _ ⟨_, _, ⟨rfl, rfl⟩, rfl, rfl⟩
      refine run_ok 4000 _ _ _ _ ?_
      simp (maxSteps := 10000000) only [go_sem, hp, seqb_self, hcmp, hself]
      refine sem_call rfl rfl (((hg).embed [0] rfl (by repeat' first | exact trivial | rfl | (simp only [go_sem]; done) | constructor) rfl (by first | rfl | simp only [go_sem]) rfl (by simp)).mono ?_)
      rintro _ _ ⟨_, _, ⟨rfl, rfl⟩, rfl, rfl⟩
      refine run_ok 4000 _ _ _ _ ?_
      simp (maxSteps := 10000000) only [go_sem, hp, seqb_self, hcmp, hself]
      refine sem_call rfl rfl (((hpu).embed [0] rfl (by repeat' first | exact trivial | rfl | (simp only [go_sem]; done) | constructor) rfl (by first | rfl | simp only [go_sem]) rfl (by simp)).mono ?_)
      rintro _ _ ⟨_, _, ⟨rfl, rfl⟩, rfl, rfl⟩
      refine run_ok 4000 _ _ _ _ ?_
      simp (maxSteps := 10000000) only [go_sem, hp, seqb_self, hcmp, hself]
      refine sem_call rfl rfl (((ht2).embed [0] rfl (by repeat' first | exact trivial | rfl | (simp only [go_sem]; done) | constructor) rfl (by first | rfl | simp only [go_sem]) rfl (by simp)).mono ?_)
      rintro _ _ ⟨_, _, ⟨rfl, rfl⟩, rfl, rfl⟩
      refine run_ok 4000 _ _ _ _ ?_
      simp (maxSteps := 10000000) only [go_sem, hp, seqb_self, hcmp, hself]
      refine sem_call rfl rfl (((hpu2).embed [0] rfl (by repeat' first | exact trivial | rfl | (simp only [go_sem]; done) | constructor) rfl (by first | rfl | simp only [go_sem]) rfl (by simp)).mono ?_)
      rintro _ _ ⟨_, _, ⟨rfl, rfl⟩, rfl, rfl⟩
      refine run_ok 4000 _ _ _ _ ?_
      simp (maxSteps := 10000000) only [go_sem, hp, seqb_self, hcmp, hself]
      refine sem_call rfl rfl (((ht).embed [0] rfl (by repeat' first | exact trivial | rfl | (simp only [go_sem]; done) | constructor) rfl (by first | rfl | simp only [go_sem]) rfl (by simp)).mono ?_)
      rintro _ _ ⟨_, _, ⟨rfl, rfl⟩, rfl, rfl⟩
      refine run_ok 4000 _ _ _ _ ?_
      simp (maxSteps := 10000000) only [go_sem, hp, seqb_self, hcmp, hself]
    | succ k =>
      have z1 : ((k + 1 : Nat) : Int) - 1 = (k : Int) := by omega
      simp only [z1]
      have hkl : k < l.length := by omega
      have f0 : (k : Int) ≥ 0 := by omega
      have f1 : (k : Int) < (l.length : Int) := by omega
      have w2 : iwrap .i64 ((k : Int) - 1) = (k : Int) - 1 := iwrap_i64_in (by omega)
      have hp1 := hput_spec (cellsR l (k + 1) n) (cellsR_len l (k + 1) n) k (by omega) 77
      have hp2 := hput_spec ((cellsR l (k + 1) n).set k 77) (by rw [List.length_set]; exact cellsR_len l (k + 1) n) k (by omega) l[k]
      rw [hgd hkl, cellsR_down l k n (by omega), ← hgd hkl] at hp2
      skip
      refine run_ok 4000 _ _ _ _ ?_
      simp (maxSteps := 10000000) only [go_sem, f0, f1, w2, iv_len, iv_hasI hkl, iv_rint hkl, Int.natCast_nonneg, Nat.zero_add]
      refine sem_call rfl rfl (((hp1).embed [1] rfl (by repeat' first | exact trivial | rfl | (simp only [go_sem]; done) | constructor) rfl (by first | rfl | simp only [go_sem]) rfl (by simp)).mono ?_)
      rintro _ _ ⟨_, _, ⟨rfl, rfl⟩, rfl, rfl⟩
      refine run_ok 4000 _ _ _ _ ?_
      simp (maxSteps := 10000000) only [go_sem, f0, f1, w2, iv_len, iv_hasI hkl, iv_rint hkl, Int.natCast_nonneg, Nat.zero_add]
      refine sem_call rfl rfl (((hp2).embed [1] rfl (by repeat' first | exact trivial | rfl | (simp only [go_sem]; done) | constructor) rfl (by first | rfl | simp only [go_sem]) rfl (by simp)).mono ?_)
      rintro _ _ ⟨_, _, ⟨rfl, rfl⟩, rfl, rfl⟩
      refine run_ok 4000 _ _ _ _ ?_
      simp (maxSteps := 10000000) only [go_sem, f0, f1, w2, iv_len, iv_hasI hkl, iv_rint hkl, Int.natCast_nonneg, Nat.zero_add]
      refine ⟨k, by omega, by omega, [0, 1], ?_⟩
      simp only [Emb, go_sem]
  · have hm : n ≤ l.length ∧ n ≤ 64 ∧ (if (64 : Int) < (l.length : Int) then 64 else (l.length : Int)) = (n : Int) := ⟨hn1, hn2, by split <;> omega⟩
    obtain ⟨hm1, hm2, hm3⟩ := hm
    obtain ⟨p, hp, hp6⟩ := and_i64 at_ (k := 63) (by decide)
    have hp : ibits .and .i64 at_ 63 = (p : Int) := hp
    have w1 : iwrap .i64 ((n : Int) - 1) = (n : Int) - 1 := iwrap_i64_in (by omega)
    skip
    refine run_ok 4000 _ _ _ _ ?_
    simp (maxSteps := 10000000) only [go_sem, hm3, w1, iv_len]
    refine sem_rounds (fun k => k ≤ n) (fun k => [(0, .vsl 1 (iv .i64 l) false), (1, .int .i64 at_), (2, .int .i64 x), (7, .pbox 0 0), (8, .pbox 1 0), (10, .int .i64 ((k : Int) - 1))])
      (fun k => [.box (hc (cellsR l 0 n)), .box (hc (cellsR l k n))]) (fun k => k) n [0, 1] (Nat.le_refl _) ?_ ?_
    · rw [cellsR_nil l n]
      simp only [Emb, go_sem]
    rintro k hk
    cases k with
    | zero =>
      have z1 : ((0 : Nat) : Int) - 1 = -1 := rfl
      simp only [z1]
      have z2 : ¬ (-1 : Int) ≥ 0 := by omega
      skip
      refine run_ok 4000 _ _ _ _ ?_
      simp (maxSteps := 10000000) only [go_sem, z2]
      have hH := cellsR_len l 0 n
      have hH6 := cellsR_64 l 0 n hl6
      generalize cellsR l 0 n = H at *
      have ht := htext_spec H hH hH6
      have hpl : p < H.length := by omega
      have hg := hget_spec H hH p (by omega)
      have hpu := hput_spec H hH p (by omega) x
      have hS : (H.set p x).length = 64 := by rw [List.length_set]; exact hH
      have hS6 : ∀ n ∈ H.set p x, I64 n := fun n hn => by
        rcases List.mem_or_eq_of_mem_set hn with h | h
        · exact hH6 n h
        · rw [h]; exact wf64 x hx
      have ht2 := htext_spec (H.set p x) hS hS6
      have hpu2 := hput_spec (H.set p x) hS p (by omega) H[p]
      have hback : (H.set p x).set p H[p] = H := by
        rw [List.set_set]; exact List.set_getElem_self hpl
      rw [hback] at hpu2
      have hcmp : seqb (textH (H.set p x)) (textH H) = (x == H[p]) := by
        rw [Bool.eq_iff_iff]
        constructor
        · intro h
          have := textH_inj hS hH hS6 hH6 (by simpa [seqb] using h)
          have := congrArg (fun l => l[p]?) this
          simp only [List.getElem?_set_self hpl, List.getElem?_eq_getElem hpl] at this
          simpa using this
        · intro h
          have h : x = H[p] := by simpa using h
          rw [h, List.set_getElem_self hpl]; simp [seqb]
      have hself : ∀ b : Bool, (b == b) = true := fun b => by cases b <;> rfl
      skip
      refine sem_call rfl rfl (((ht).embed [0] rfl (by repeat' first | exact trivial | rfl | (simp only [go_sem]; done) | constructor) rfl (by first | rfl | simp only [go_sem]) rfl (by simp)).mono ?_)
      rintro _ _ ⟨_, _, ⟨rfl, rfl⟩, rfl, rfl⟩
      refine run_ok 4000 _ _ _ _ ?_
      simp (maxSteps := 10000000) only [go_sem, hp, seqb_self, hcmp, hself]
      refine sem_call rfl rfl (((ht).embed [1] rfl (by repeat' first | exact trivial | rfl | (simp only [go_sem]; done) | constructor) rfl (by first | rfl | simp only [go_sem]) rfl (by simp)).mono ?_)
      rintro _ _ ⟨_, _, ⟨rfl, rfl⟩, rfl, rfl⟩
      refine run_ok 4000 _ _ _ _ ?_
      simp (maxSteps := 10000000) only [go_sem, hp, seqb_self, hcmp, hself]
      refine sem_call rfl rfl (((hg).embed [0] rfl (by repeat' first | exact trivial | rfl | (simp only [go_sem]; done) | constructor) rfl (by first | rfl | simp only [go_sem]) rfl (by simp)).mono ?_)
      rintro _ _ ⟨_, _, ⟨rfl, rfl⟩, rfl, rfl⟩
      refine run_ok 4000 _ _ _ _ ?_
      simp (maxSteps := 10000000) only [go_sem, hp, seqb_self, hcmp, hself]
      refine sem_call rfl rfl (((hpu).embed [0] rfl (by repeat' first | exact trivial | rfl | (simp only [go_sem]; done) | constructor) rfl (by first | rfl | simp only [go_sem]) rfl (by simp)).mono ?_)
      rintro _ _ ⟨_, _, ⟨rfl, rfl⟩, rfl, rfl⟩
      refine run_ok 4000 _ _ _ _ ?_
      simp (maxSteps := 10000000) only [go_sem, hp, seqb_self, hcmp, hself]
      refine sem_call rfl rfl (((ht2).embed [0] rfl (by repeat' first | exact trivial | rfl | (simp only [go_sem]; done) | constructor) rfl (by first | rfl | simp only [go_sem]) rfl (by simp)).mono ?_)
      rintro _ _ ⟨_, _, ⟨rfl, rfl⟩, rfl, rfl⟩
      refine run_ok 4000 _ _ _ _ ?_
      simp (maxSteps := 10000000) only [go_sem, hp, seqb_self, hcmp, hself]
      refine sem_call rfl rfl (((hpu2).embed [0] rfl (by repeat' first | exact trivial | rfl | (simp only [go_sem]; done) | constructor) rfl (by first | rfl | simp only [go_sem]) rfl (by simp)).mono ?_)
      rintro _ _ ⟨_, _, ⟨rfl, rfl⟩, rfl, rfl⟩
      refine run_ok 4000 _ _ _ _ ?_
      simp (maxSteps := 10000000) only [go_sem, hp, seqb_self, hcmp, hself]
      refine sem_call rfl rfl (((ht).embed [0] rfl (by repeat' first | exact trivial | rfl | (simp only [go_sem]; done) | constructor) rfl (by first | rfl | simp only [go_sem]) rfl (by simp)).mono ?_)
      rintro _ _ ⟨_, _, ⟨rfl, rfl⟩, rfl, rfl⟩
      refine run_ok 4000 _ _ _ _ ?_
      simp (maxSteps := 10000000) only [go_sem, hp, seqb_self, hcmp, hself]
    | succ k =>
      have z1 : ((k + 1 : Nat) : Int) - 1 = (k : Int) := by omega
      simp only [z1]
      have hkl : k < l.length := by omega
      have f0 : (k : Int) ≥ 0 := by omega
      have f1 : (k : Int) < (l.length : Int) := by omega
      have w2 : iwrap .i64 ((k : Int) - 1) = (k : Int) - 1 := iwrap_i64_in (by omega)
      have hp1 := hput_spec (cellsR l (k + 1) n) (cellsR_len l (k + 1) n) k (by omega) 77
      have hp2 := hput_spec ((cellsR l (k + 1) n).set k 77) (by rw [List.length_set]; exact cellsR_len l (k + 1) n) k (by omega) l[k]
      rw [hgd hkl, cellsR_down l k n (by omega), ← hgd hkl] at hp2
      skip
      refine run_ok 4000 _ _ _ _ ?_
      simp (maxSteps := 10000000) only [go_sem, f0, f1, w2, iv_len, iv_hasI hkl, iv_rint hkl, Int.natCast_nonneg, Nat.zero_add]
      refine sem_call rfl rfl (((hp1).embed [1] rfl (by repeat' first | exact trivial | rfl | (simp only [go_sem]; done) | constructor) rfl (by first | rfl | simp only [go_sem]) rfl (by simp)).mono ?_)
      rintro _ _ ⟨_, _, ⟨rfl, rfl⟩, rfl, rfl⟩
      refine run_ok 4000 _ _ _ _ ?_
      simp (maxSteps := 10000000) only [go_sem, f0, f1, w2, iv_len, iv_hasI hkl, iv_rint hkl, Int.natCast_nonneg, Nat.zero_add]
      refine sem_call rfl rfl (((hp2).embed [1] rfl (by repeat' first | exact trivial | rfl | (simp only [go_sem]; done) | constructor) rfl (by first | rfl | simp only [go_sem]) rfl (by simp)).mono ?_)
      rintro _ _ ⟨_, _, ⟨rfl, rfl⟩, rfl, rfl⟩
      refine run_ok 4000 _ _ _ _ ?_
      simp (maxSteps := 10000000) only [go_sem, f0, f1, w2, iv_len, iv_hasI hkl, iv_rint hkl, Int.natCast_nonneg, Nat.zero_add]
      refine ⟨k, by omega, by omega, [0, 1], ?_⟩
      simp only [Emb, go_sem]
end Go.AEX
