/- Seat rT: orders, changes and records as bytes: written. -/
import Derived.Test.YtpbmlaolpfaicaaTRec
namespace Go.AEX
open Go Go.AE Go.Proofs
set_option maxRecDepth 100000
set_option linter.unusedVariables false
set_option linter.unusedSimpArgs false

def chgB (c : Chg) : List UInt8 := numsB [posN c.1, posN c.2.1, c.2.2.length] ++ numsB (c.2.2.map posN)
def ordB (o : Ord) : List UInt8 := numsB [posN o.1] ++ (numsB [o.2.1.toNat] ++ numsB [zg o.2.2.1, zg o.2.2.2])
def batB (L : List Ord) : List UInt8 := numsB [L.length] ++ (L.map ordB).flatten
def plyB (x : Ply) : List UInt8 := numsB [posN x.1] ++ batB x.2
def recB (turn : Int) (C : List Chg) (t d : Int) (Q : List Ply) : List UInt8 := numsB [posN turn, C.length] ++ ((C.map chgB).flatten ++ (numsB [posN t, posN d, Q.length] ++ (Q.map plyB).flatten))
structure ChgOk (c : Chg) : Prop where
  k : 0 ≤ c.1 ∧ c.1 ≤ 3
  p : 0 ≤ c.2.1 ∧ c.2.1 ≤ 31
  l : c.2.2.length ≤ 32
  v : ∀ x ∈ c.2.2, 0 ≤ x ∧ x ≤ 31
theorem posN_of {n : Int} (h : 0 ≤ n) : ((posN n : Nat) : Int) = n := by unfold posN; omega
theorem posN_nat (n : Nat) : posN (n : Int) = n := by unfold posN; omega
theorem i64_of {n : Int} (h : -1000000000000000000 ≤ n ∧ n ≤ 1000000000000000000) : I64 n := by unfold I64; omega
theorem chgB_len {c : Chg} (h : ChgOk c) : (chgB c).length ≤ 400 := by
  unfold chgB
  have h1 := numsB_len [posN c.1, posN c.2.1, c.2.2.length] (by
    have := h.k; have := h.p; have := h.l
    intro n hn; simp at hn; unfold posN at hn; omega)
  have h2 := numsB_len (c.2.2.map posN) (by
    intro n hn
    obtain ⟨x, hx, rfl⟩ := List.mem_map.1 hn
    have := h.v x hx; unfold posN; omega)
  have := h.l
  simp only [List.length_append, List.length_map, List.length_cons, List.length_nil] at *
  omega
theorem cput_spec (c : Chg) (h : ChgOk c) (s : List UInt8) (hs : s.length ≤ 900000) : Tri Try.prog 111 [.agg (crow c), .pbox 0 0] (outM s) (fun v m => v = .tup [] ∧ m = outM2 (s ++ chgB c)) := by
  refine Tri.post ?_
  obtain ⟨k, p, vs⟩ := c
  have hk := h.k; have hp := h.p; have hl := h.l; have hv := h.v
  simp only at hk hp hl hv
  have o1 := ocount_spec [k, p, (vs.length : Int)] true s (by intro n hn; simp at hn; exact i64_of (by omega)) (by simp; omega)
  have e1 : iv .i64 [k, p, (vs.length : Int)] = [[.int .i64 k], [.int .i64 p], [.int .i64 (vs.length : Int)]] := rfl
  rw [e1, show [k, p, (vs.length : Int)].map posN = [posN k, posN p, vs.length] by simp [posN_nat]] at o1
  have hl1 : (numsB [posN k, posN p, vs.length]).length ≤ 30 := by
    have := numsB_len [posN k, posN p, vs.length] (by intro n hn; simp at hn; unfold posN at hn; omega)
    simpa using this
  have e0 : chgB (k, p, vs) = numsB [posN k, posN p, vs.length] ++ numsB (vs.map posN) := rfl
  generalize numsB [posN k, posN p, vs.length] = A at *
  have o2 := ocount_spec vs false (s ++ A) (by intro n hn; have := hv n hn; exact i64_of (by omega)) (by simp; omega)
  unfold outM outM2 at o1 o2
  unfold outM crow
  skip
  refine (Tri.enter (rl := r111) (code := c111) (by kernel_rfl) Try.func111 rfl c111_ok (by kernel_rfl) (by kernel_rfl) ?_)
  refine run_ok 4000 _ _ _ _ ?_
  simp (maxSteps := 10000000) only [go_sem, c111, r111, iv_len]
  refine sem_drawG l111_0_ok (by kernel_rfl) ?_
  intro KK hKK
  simp (maxSteps := 10000000) only [go_sem, l111_0, iv_len]
  refine TriZ.of (((o1).embed [0, 1] rfl (by repeat' first | exact trivial | rfl | (simp only [go_sem]; done) | constructor) rfl (by first | rfl | simp only [go_sem]) rfl (by simp)).mono ?_)
  rintro _ _ ⟨_, _, ⟨rfl, rfl⟩, rfl, rfl⟩
  simp (maxSteps := 10000000) only [go_sem, iv_len]
  refine TriZ.of (((o2).embed [0, 3] rfl (by repeat' first | exact trivial | rfl | (simp only [go_sem]; done) | constructor) rfl (by first | rfl | simp only [go_sem]) rfl (by simp)).mono ?_)
  rintro _ _ ⟨_, _, ⟨rfl, rfl⟩, rfl, rfl⟩
  simp (maxSteps := 10000000) only [go_sem, iv_len]
  subst hKK
  simp (maxSteps := 10000000) only [go_sem, iv_len]
  rw [e0, ← List.append_assoc]
  refine ⟨_, _, .sub [0, 1, 4] ?_ .done, rfl, rfl⟩
  simp only [EmbV, go_sem]
theorem okO_rg {o : Ord} (h : okO o) : (0 ≤ o.1 ∧ o.1 ≤ 4) ∧ (0 ≤ o.2.1 ∧ o.2.1 ≤ 1099511627776) ∧ (-1000000 ≤ o.2.2.1 ∧ o.2.2.1 ≤ 1099511627776) ∧ (-1000000 ≤ o.2.2.2 ∧ o.2.2.2 ≤ 1099511627776) := by
  unfold okO at h; omega
theorem ordB_len {o : Ord} (h : okO o) : (ordB o).length ≤ 40 := by
  obtain ⟨h1, h2, h3, h4⟩ := okO_rg h
  have a1 := numsB_len [posN o.1] (by intro n hn; simp at hn; unfold posN at hn; omega)
  have a2 := numsB_len [o.2.1.toNat] (by intro n hn; simp at hn; omega)
  have a3 := numsB_len [zg o.2.2.1, zg o.2.2.2] (by
    intro n hn; simp at hn
    rcases hn with rfl | rfl
    · exact zg_lt (i64_of (by omega))
    · exact zg_lt (i64_of (by omega)))
  unfold ordB
  simp only [List.length_append, List.length_cons, List.length_nil] at *
  omega
theorem flat_take {α : Type} (f : α → List UInt8) {l : List α} {i : Nat} (h : i < l.length) : ((l.take (i + 1)).map f).flatten = ((l.take i).map f).flatten ++ f l[i] := by
  rw [List.take_succ_eq_append_getElem h, List.map_append, List.flatten_append]
  simp only [List.map_cons, List.map_nil, List.flatten_cons, List.flatten_nil, List.append_nil]
theorem flat_len {α : Type} (f : α → List UInt8) (k : Nat) : ∀ (l : List α), (∀ x ∈ l, (f x).length ≤ k) → ((l.map f).flatten).length ≤ k * l.length
  | [], _ => by simp
  | x :: l, h => by
    have h1 := h x (by simp)
    have h2 := flat_len f k l fun y hy => h y (by simp [hy])
    simp only [List.map_cons, List.flatten_cons, List.length_append, List.length_cons, Nat.mul_succ]
    omega
theorem flat_tlen {α : Type} (f : α → List UInt8) (k : Nat) (l : List α) (h : ∀ x ∈ l, (f x).length ≤ k) (i : Nat) : (((l.take i).map f).flatten).length ≤ k * l.length :=
  Nat.le_trans (flat_len f k (l.take i) fun x hx => h x (List.mem_of_mem_take hx)) (Nat.mul_le_mul_left k (by simp; omega))
theorem batB_len {L : List Ord} (hL : L.length ≤ 8) (h : ∀ o ∈ L, okO o) : (batB L).length ≤ 330 := by
  unfold batB
  have h1 := numsB_len [L.length] (by intro n hn; simp at hn; omega)
  have h2 := flat_len ordB 40 L fun o ho => ordB_len (h o ho)
  simp only [List.length_append, List.length_cons, List.length_nil] at *
  omega
theorem bput_spec (L : List Ord) (hL : L.length ≤ 8) (h : ∀ o ∈ L, okO o) (s : List UInt8) (hs : s.length ≤ 900000) : Tri Try.prog 112 [.vsl 4 (orows L) false, .pbox 0 0] (outM s) (fun v m => v = .tup [] ∧ m = outM2 (s ++ batB L)) := by
  refine Tri.post ?_
  have o1 := ocount_spec [(L.length : Int)] true s (by intro n hn; simp at hn; exact i64_of (by omega)) (by simp; omega)
  have e1 : iv .i64 [(L.length : Int)] = [[.int .i64 (L.length : Int)]] := rfl
  rw [e1, show [(L.length : Int)].map posN = [L.length] by simp [posN_nat]] at o1
  have hl1 : (numsB [L.length]).length ≤ 10 := by
    have := numsB_len [L.length] (by intro n hn; simp at hn; omega)
    simpa using this
  have eb : batB L = numsB [L.length] ++ (L.map ordB).flatten := rfl
  generalize numsB [L.length] = A at *
  have hlen := fun i => flat_tlen ordB 40 L (fun o ho => ordB_len (h o ho)) i
  unfold outM outM2 at o1
  unfold outM
  skip
  refine (Tri.enter (rl := r112) (code := c112) (by kernel_rfl) Try.func112 rfl c112_ok (by kernel_rfl) (by kernel_rfl) ?_)
  refine run_ok 4000 _ _ _ _ ?_
  simp (maxSteps := 10000000) only [go_sem, c112, r112, orows_len]
  refine sem_call rfl rfl (((o1).embed [0, 1] rfl (by repeat' first | exact trivial | rfl | (simp only [go_sem]; done) | constructor) rfl (by first | rfl | simp only [go_sem]) rfl (by simp)).mono ?_)
  rintro _ _ ⟨_, _, ⟨rfl, rfl⟩, rfl, rfl⟩
  refine run_ok 4000 _ _ _ _ ?_
  simp (maxSteps := 10000000) only [go_sem, orows_len]
  refine sem_rounds (fun i : Nat => i ≤ L.length) (fun i => [(1, .pbox 0 0), (11, .vsl 4 (orows L) false), (12, .int .i64 L.length), (13, .int .i64 (i : Nat))])
    (fun i => outM2 (s ++ A ++ ((L.take i).map ordB).flatten)) (fun i => L.length - i) 0 [0, 1, 2] (Nat.zero_le _) ?_ ?_
  · simp [Emb, go_sem, outM2]
  intro i hi
  have hli := hlen i
  have hli2 := hlen (i + 1)
  by_cases c : i < L.length
  · have hin : (i : Int) < (L.length : Int) := by omega
    have w1 := inc64 (show i < 1000000000000 by omega)
    have r0 := orows_r0 c; have r1 := orows_r1 c; have r2 := orows_r2 c; have r3 := orows_r3 c
    have h0 := orows_h0 c; have h1 := orows_h1 c; have h2 := orows_h2 c; have h3 := orows_h3 c
    have hnx := flat_take ordB c
    rw [hnx, List.length_append] at hli2
    have hok := h _ (List.getElem_mem c)
    generalize hD : ((L.take i).map ordB).flatten = D at *
    generalize L[i] = o at *
    obtain ⟨k, u, a, b⟩ := o
    obtain ⟨g1, g2, g3, g4⟩ := okO_rg hok
    have hol := ordB_len hok
    simp only at r0 r1 r2 r3 g1 g2 g3 g4
    have p1 := ocount_spec [k] true (s ++ A ++ D) (by intro n hn; simp at hn; exact i64_of (by omega)) (by simp; omega)
    rw [show iv .i64 [k] = [[.int .i64 k]] from rfl, show [k].map posN = [posN k] from rfl] at p1
    have eo : ordB (k, u, a, b) = numsB [posN k] ++ (numsB [u.toNat] ++ numsB [zg a, zg b]) := rfl
    have el : (ordB (k, u, a, b)).length = (numsB [posN k]).length + ((numsB [u.toNat]).length + (numsB [zg a, zg b]).length) := by rw [eo]; simp
    have p2 := wNum_spec [u.toNat] true (s ++ A ++ D ++ numsB [posN k]) (by intro n hn; simp at hn; omega) (by simp; omega)
    rw [show nv [u.toNat] = [[.int .u64 ((u.toNat : Nat) : Int)]] from rfl] at p2
    have eu : iwrap .u64 u = ((u.toNat : Nat) : Int) := by rw [iwrap_u64]; omega
    have p3 := oint_spec [a, b] true (s ++ A ++ D ++ numsB [posN k] ++ numsB [u.toNat]) (by intro n hn; simp at hn; rcases hn with rfl | rfl <;> exact i64_of (by omega)) (by simp; omega)
    rw [show iv .i64 [a, b] = [[.int .i64 a], [.int .i64 b]] from rfl, show [a, b].map zg = [zg a, zg b] from rfl] at p3
    have ef : s ++ A ++ (D ++ ordB (k, u, a, b)) = s ++ A ++ D ++ numsB [posN k] ++ numsB [u.toNat] ++ numsB [zg a, zg b] := by rw [eo]; simp
    rw [← ef] at p3
    unfold outM outM2 at p1 p2 p3
    unfold outM2
    skip
    refine run_ok 4000 _ _ _ _ ?_
    simp (maxSteps := 10000000) only [go_sem, hin, w1, r0, r1, r2, r3, h0, h1, h2, h3, eu, Int.natCast_nonneg, orows_len]
    refine sem_drawG l112_0_ok (by kernel_rfl) ?_
    intro KK hKK
    simp (maxSteps := 10000000) only [go_sem, l112_0, hin, w1, r0, r1, r2, r3, h0, h1, h2, h3, eu, Int.natCast_nonneg, orows_len]
    refine TriZ.of (((p1).embed [0, 2] rfl (by repeat' first | exact trivial | rfl | (simp only [go_sem]; done) | constructor) rfl (by first | rfl | simp only [go_sem]) rfl (by simp)).mono ?_)
    rintro _ _ ⟨_, _, ⟨rfl, rfl⟩, rfl, rfl⟩
    simp (maxSteps := 10000000) only [go_sem, hin, w1, r0, r1, r2, r3, h0, h1, h2, h3, eu, Int.natCast_nonneg, orows_len]
    refine TriZ.of (((p2).embed [0, 4] rfl (by repeat' first | exact trivial | rfl | (simp only [go_sem]; done) | constructor) rfl (by first | rfl | simp only [go_sem]) rfl (by simp)).mono ?_)
    rintro _ _ ⟨_, _, ⟨rfl, rfl⟩, rfl, rfl⟩
    simp (maxSteps := 10000000) only [go_sem, hin, w1, r0, r1, r2, r3, h0, h1, h2, h3, eu, Int.natCast_nonneg, orows_len]
    refine TriZ.of (((p3).embed [0, 5] rfl (by repeat' first | exact trivial | rfl | (simp only [go_sem]; done) | constructor) rfl (by first | rfl | simp only [go_sem]) rfl (by simp)).mono ?_)
    rintro _ _ ⟨_, _, ⟨rfl, rfl⟩, rfl, rfl⟩
    simp (maxSteps := 10000000) only [go_sem, hin, w1, r0, r1, r2, r3, h0, h1, h2, h3, eu, Int.natCast_nonneg, orows_len]
    subst hKK
    simp (maxSteps := 10000000) only [go_sem, hin, w1, r0, r1, r2, r3, h0, h1, h2, h3, eu, Int.natCast_nonneg, orows_len]
    refine ⟨i + 1, by omega, c, [0, 1, 6], ?_⟩
    simp only [Emb, go_sem, hnx]
  · have hin : ¬ (i : Int) < (L.length : Int) := by omega
    rw [List.take_of_length_le (by omega), List.append_assoc, ← eb]
    unfold outM2
    skip
    refine run_ok 4000 _ _ _ _ ?_
    simp (maxSteps := 10000000) only [go_sem, hin]
    refine run_ok 4000 _ _ _ _ ?_
    simp (maxSteps := 10000000) only [go_sem, hin]
    refine ⟨_, _, .sub [0, 1, 2] ?_ .done, rfl, rfl⟩
    simp only [EmbV, go_sem]
structure PlyOk (x : Ply) : Prop where
  p : 0 ≤ x.1 ∧ x.1 ≤ 31
  l : x.2.length ≤ 8
  o : ∀ o ∈ x.2, okO o
theorem plyB_len {x : Ply} (h : PlyOk x) : (plyB x).length ≤ 340 := by
  unfold plyB
  have h1 := numsB_len [posN x.1] (by have := h.p; intro n hn; simp at hn; unfold posN at hn; omega)
  have h2 := batB_len h.l h.o
  simp only [List.length_append, List.length_cons, List.length_nil] at *
  omega
structure RecOk (turn : Int) (C : List Chg) (t d : Int) (Q : List Ply) : Prop where
  u : 0 ≤ turn ∧ turn ≤ 1099511627776
  c : C.length ≤ 8
  ch : ∀ c ∈ C, ChgOk c
  t : 0 ≤ t ∧ t ≤ 64
  d : 0 ≤ d ∧ d ≤ 6
  q : Q.length ≤ 32
  qh : ∀ x ∈ Q, PlyOk x
def outM3 (S : List UInt8) (r : List AV) : Mem := [.box [.sl 3 0 S.length S.length false], .gone, .box r, .row 1 (AE.bytes S)]
theorem rput_spec (turn : Int) (C : List Chg) (t d : Int) (Q : List Ply) (h : RecOk turn C t d Q) (s : List UInt8) (hs : s.length ≤ 800000) :
    Tri Try.prog 73 [recV turn C t d Q, .pbox 0 0] (outM s) (fun v m => v = .tup [] ∧ m = outM2 (s ++ recB turn C t d Q)) := by
  refine Tri.post ?_
  have hu := h.u; have hcl := h.c; have hch := h.ch; have ht := h.t; have hd := h.d; have hql := h.q; have hqh := h.qh
  have o1 := ocount_spec [turn, (C.length : Int)] true s (by intro n hn; simp at hn; exact i64_of (by omega)) (by simp; omega)
  rw [show iv .i64 [turn, (C.length : Int)] = [[.int .i64 turn], [.int .i64 (C.length : Int)]] from rfl, show [turn, (C.length : Int)].map posN = [posN turn, C.length] by simp [posN_nat]] at o1
  have hA := numsB_len [posN turn, C.length] (by intro n hn; simp at hn; unfold posN at hn; omega)
  have hB := numsB_len [posN t, posN d, Q.length] (by intro n hn; simp at hn; unfold posN at hn; omega)
  have er : recB turn C t d Q = numsB [posN turn, C.length] ++ ((C.map chgB).flatten ++ (numsB [posN t, posN d, Q.length] ++ (Q.map plyB).flatten)) := rfl
  have hc1 := fun i => flat_tlen chgB 400 C (fun c hc => chgB_len (hch c hc)) i
  have hq1 := fun i => flat_tlen plyB 340 Q (fun x hx => plyB_len (hqh x hx)) i
  have o3 := fun (X : List UInt8) (hX : X.length ≤ 900000) => ocount_spec [t, d, (Q.length : Int)] true X (by intro n hn; simp at hn; exact i64_of (by omega)) (by simp; omega)
  simp only [show iv .i64 [t, d, (Q.length : Int)] = [[.int .i64 t], [.int .i64 d], [.int .i64 (Q.length : Int)]] from rfl, show [t, d, (Q.length : Int)].map posN = [posN t, posN d, Q.length] by simp [posN_nat]] at o3
  simp only [List.length_cons, List.length_nil] at hA hB
  generalize numsB [posN turn, C.length] = A at *
  generalize numsB [posN t, posN d, Q.length] = B at *
  unfold outM outM2 at o1
  unfold outM recV
  skip
  refine (Tri.enter (rl := r73) (code := c73) (by kernel_rfl) Try.func73 rfl c73_ok (by kernel_rfl) (by kernel_rfl) ?_)
  refine run_ok 4000 _ _ _ _ ?_
  simp (maxSteps := 10000000) only [go_sem, c73, r73, crows_len]
  refine sem_call rfl rfl (((o1).embed [0, 1] rfl (by repeat' first | exact trivial | rfl | (simp only [go_sem]; done) | constructor) rfl (by first | rfl | simp only [go_sem]) rfl (by simp)).mono ?_)
  rintro _ _ ⟨_, _, ⟨rfl, rfl⟩, rfl, rfl⟩
  refine run_ok 4000 _ _ _ _ ?_
  simp (maxSteps := 10000000) only [go_sem, crows_len]
  refine sem_rounds (fun i : Nat => i ≤ C.length) (fun i => [(1, .pbox 0 0), (2, .pbox 2 0), (17, .vsl 3 (crows C) false), (18, .int .i64 C.length), (19, .int .i64 (i : Nat))])
    (fun i => outM3 (s ++ A ++ ((C.take i).map chgB).flatten) [.int .i64 turn, .vsl 3 (crows C) false, .int .i64 t, .int .i64 d, .vsl 2 (pros Q) false]) (fun i => C.length - i) 0 [0, 1, 2, 3] (Nat.zero_le _) ?_ ?_
  · simp [Emb, go_sem, outM3]
  intro i hi
  have hci := hc1 i
  by_cases c : i < C.length
  · have hin : (i : Int) < (C.length : Int) := by omega
    have w1 := inc64 (show i < 1000000000000 by omega)
    have r0 := crows_r0 c; have r1 := crows_r1 c; have r2 := crows_r2 c
    have h0 := crows_h0 c; have h1 := crows_h1 c; have h2 := crows_h2 c
    have hnx := flat_take chgB c
    have hok := hch _ (List.getElem_mem c)
    generalize ((C.take i).map chgB).flatten = D at *
    generalize C[i] = ch at *
    obtain ⟨k, p, vs⟩ := ch
    simp only at r0 r1 r2
    have p1 := cput_spec (k, p, vs) hok (s ++ A ++ D) (by simp; omega)
    unfold outM outM2 at p1
    unfold crow at p1
    simp only at p1
    unfold outM3
    skip
    refine run_ok 4000 _ _ _ _ ?_
    simp (maxSteps := 10000000) only [go_sem, hin, w1, r0, r1, r2, h0, h1, h2, Int.natCast_nonneg, crows_len]
    refine sem_call rfl rfl (((p1).embed [0, 3] rfl (by repeat' first | exact trivial | rfl | (simp only [go_sem]; done) | constructor) rfl (by first | rfl | simp only [go_sem]) rfl (by simp)).mono ?_)
    rintro _ _ ⟨_, _, ⟨rfl, rfl⟩, rfl, rfl⟩
    refine run_ok 4000 _ _ _ _ ?_
    simp (maxSteps := 10000000) only [go_sem, hin, w1, r0, r1, r2, h0, h1, h2, Int.natCast_nonneg, crows_len]
    refine ⟨i + 1, by omega, c, [0, 1, 2, 5], ?_⟩
    simp only [Emb, go_sem, hnx, List.append_assoc]
  have hin : ¬ (i : Int) < (C.length : Int) := by omega
  rw [List.take_of_length_le (by omega)]
  rw [List.take_of_length_le (by omega)] at hci
  generalize (C.map chgB).flatten = D at *
  have p2 := o3 (s ++ A ++ D) (by simp; omega)
  unfold outM outM2 at p2
  unfold outM3
  skip
  refine run_ok 4000 _ _ _ _ ?_
  simp (maxSteps := 10000000) only [go_sem, hin, pros_len]
  refine run_ok 4000 _ _ _ _ ?_
  simp (maxSteps := 10000000) only [go_sem, hin, pros_len]
  refine sem_call rfl rfl (((p2).embed [0, 3] rfl (by repeat' first | exact trivial | rfl | (simp only [go_sem]; done) | constructor) rfl (by first | rfl | simp only [go_sem]) rfl (by simp)).mono ?_)
  rintro _ _ ⟨_, _, ⟨rfl, rfl⟩, rfl, rfl⟩
  refine run_ok 4000 _ _ _ _ ?_
  simp (maxSteps := 10000000) only [go_sem, hin, pros_len]
  refine sem_rounds (fun i : Nat => i ≤ Q.length) (fun i => [(1, .pbox 0 0), (40, .vsl 2 (pros Q) false), (41, .int .i64 Q.length), (42, .int .i64 (i : Nat))])
    (fun i => outM2 (s ++ A ++ D ++ B ++ ((Q.take i).map plyB).flatten)) (fun i => Q.length - i) 0 [0, 1, 4] (Nat.zero_le _) ?_ ?_
  · simp [Emb, go_sem, outM2]
  intro j hj
  have hqi := hq1 j
  by_cases cj : j < Q.length
  · have hin : (j : Int) < (Q.length : Int) := by omega
    have w1 := inc64 (show j < 1000000000000 by omega)
    have r0 := pros_r0 cj; have r1 := pros_r1 cj
    have h0 := pros_h0 cj; have h1 := pros_h1 cj
    have hnx := flat_take plyB cj
    have hok := hqh _ (List.getElem_mem cj)
    generalize ((Q.take j).map plyB).flatten = E at *
    generalize Q[j] = x at *
    obtain ⟨p, L⟩ := x
    have hp := hok.p; have hl := hok.l; have ho := hok.o
    simp only at r0 r1 hp hl ho
    have p1 := ocount_spec [p] true (s ++ A ++ D ++ B ++ E) (by intro n hn; simp at hn; exact i64_of (by omega)) (by simp; omega)
    rw [show iv .i64 [p] = [[.int .i64 p]] from rfl, show [p].map posN = [posN p] from rfl] at p1
    have hn1 := numsB_len [posN p] (by intro n hn; simp at hn; unfold posN at hn; omega)
    simp only [List.length_cons, List.length_nil] at hn1
    have p3 := bput_spec L hl ho (s ++ A ++ D ++ B ++ E ++ numsB [posN p]) (by simp; omega)
    have eo : plyB (p, L) = numsB [posN p] ++ batB L := rfl
    have ef : s ++ A ++ D ++ B ++ E ++ numsB [posN p] ++ batB L = s ++ A ++ D ++ B ++ (E ++ plyB (p, L)) := by rw [eo]; simp
    rw [ef] at p3
    unfold outM outM2 at p1 p3
    unfold outM2
    skip
    refine run_ok 4000 _ _ _ _ ?_
    simp (maxSteps := 10000000) only [go_sem, hin, w1, r0, r1, h0, h1, Int.natCast_nonneg, pros_len]
    refine sem_call rfl rfl (((p1).embed [0, 2] rfl (by repeat' first | exact trivial | rfl | (simp only [go_sem]; done) | constructor) rfl (by first | rfl | simp only [go_sem]) rfl (by simp)).mono ?_)
    rintro _ _ ⟨_, _, ⟨rfl, rfl⟩, rfl, rfl⟩
    refine run_ok 4000 _ _ _ _ ?_
    simp (maxSteps := 10000000) only [go_sem, hin, w1, r0, r1, h0, h1, Int.natCast_nonneg, pros_len]
    refine sem_call rfl rfl (((p3).embed [0, 4] rfl (by repeat' first | exact trivial | rfl | (simp only [go_sem]; done) | constructor) rfl (by first | rfl | simp only [go_sem]) rfl (by simp)).mono ?_)
    rintro _ _ ⟨_, _, ⟨rfl, rfl⟩, rfl, rfl⟩
    refine run_ok 4000 _ _ _ _ ?_
    simp (maxSteps := 10000000) only [go_sem, hin, w1, r0, r1, h0, h1, Int.natCast_nonneg, pros_len]
    refine ⟨j + 1, by omega, cj, [0, 1, 5], ?_⟩
    simp only [Emb, go_sem, hnx]
  · have hin : ¬ (j : Int) < (Q.length : Int) := by omega
    have ef : s ++ A ++ D ++ B ++ (Q.map plyB).flatten = s ++ recB turn C t d Q := by rw [er]; simp
    rw [List.take_of_length_le (by omega), ef]
    unfold outM2
    skip
    refine run_ok 4000 _ _ _ _ ?_
    simp (maxSteps := 10000000) only [go_sem, hin]
    refine run_ok 4000 _ _ _ _ ?_
    simp (maxSteps := 10000000) only [go_sem, hin]
    refine ⟨_, _, .sub [0, 1, 2] ?_ .done, rfl, rfl⟩
    simp only [EmbV, go_sem]
end Go.AEX
