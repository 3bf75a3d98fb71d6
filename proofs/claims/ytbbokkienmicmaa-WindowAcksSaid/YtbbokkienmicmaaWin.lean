/- Window: contracts. -/
import Derived.Test.YtbbokkienmicmaaFrag
namespace Go.AEX
open Go Go.AE Go.Proofs
set_option maxRecDepth 100000
set_option linter.unusedVariables false
set_option linter.unusedSimpArgs false

/-- Whole numbers of 32 bits. -/
def U32 (n : Int) : Prop := 0 ≤ n ∧ n < 4294967296
def u32 (n : Int) : Int := iwrap .u32 n
theorem U32.wrap (n : Int) : U32 (iwrap .u32 n) := by rw [iwrap_u32]; unfold U32; omega
/-- Does an ack tell that a number came? -/
def hasW (next bits n : Int) : Bool :=
  let d := iwrap .u32 (n - next)
  decide (d ≥ 2147483648) || (decide (d ≥ 1) && (decide (d ≤ 32) && (ibits .and .u32 (ishr .u32 bits (iwrap .u32 (d - 1))) 1 == 1)))
theorem has_spec (next bits n : Int) : Tri Try.prog 25 [.agg [.int .u32 next, .int .u32 bits], .int .u32 n] [] (fun v m => v = .bsym (hasW next bits n) ∧ m = []) := by
  refine Tri.sub (Tri.like ?_)
  refine (Tri.enter (rl := r25) (code := c25) (by kernel_rfl) Try.func25 rfl c25_ok (by kernel_rfl) (by kernel_rfl) ?_)
  refine run_ok 4000 _ _ _ _ ?_
  simp (maxSteps := 10000000) only [go_sem, c25, r25]
  refine ⟨fun h => ?_, fun h1 => ⟨fun h2 => ⟨fun h3 => ⟨(U32.wrap _).1, ?_⟩, fun h3 => ?_⟩, fun h2 => ?_⟩⟩
  · refine ⟨_, Like.bsym _, [], _, [], ?_, rfl, rfl⟩
    simp only [EmbV, go_sem, hasW]
    simp [*]
  · refine ⟨_, Like.refl _, [], _, [], ?_, rfl, rfl⟩
    simp only [EmbV, go_sem, hasW]
    simp [*]
  · refine ⟨_, Like.bsym _, [], _, [], ?_, rfl, rfl⟩
    simp only [EmbV, go_sem, hasW]
    simp [*]
  · refine ⟨_, Like.bsym _, [], _, [], ?_, rfl, rfl⟩
    simp only [EmbV, go_sem, hasW]
    simp [*]
/-! ### what came -/
abbrev Ent := List (Int × List UInt8)
def me (L : Ent) : List (AV × AV) := L.map fun p => (AV.int .u32 p.1, AV.str p.2)
def lkE : Ent → Int → Option (List UInt8)
  | [], _ => none
  | p :: L, k => if k = p.1 then some p.2 else lkE L k
def delE : Ent → Int → Ent
  | [], _ => []
  | p :: L, k => if k = p.1 then L else p :: delE L k
theorem me_ok : ∀ (L : Ent) (k : Int), keysOk (me L) (.int .u32 k)
  | [], _ => trivial
  | p :: L, k => ⟨rfl, me_ok L k⟩
theorem me_find : ∀ (L : Ent) (k : Int), mfind (me L) (.int .u32 k) = (lkE L k).map AV.str
  | [], _ => rfl
  | p :: L, k => by
    have ih := me_find L k
    simp only [me, List.map_cons, mfind, keq, kd, lkE] at ih ⊢
    by_cases h : k = p.1
    · simp [h]
    · have h' : (k == p.1) = false := by simpa using h
      simp [h, h', ih]
theorem me_val (L : Ent) (k : Int) : valS (me L) (.int .u32 k) := by
  intro v hv
  rw [me_find, Option.map_eq_some_iff] at hv
  obtain ⟨s, _, rfl⟩ := hv
  exact ⟨s, rfl⟩
theorem me_str (L : Ent) (k : Int) : mstr (me L) (.int .u32 k) = (lkE L k).getD [] := by
  unfold mstr; rw [me_find]; cases lkE L k <;> rfl
theorem me_has (L : Ent) (k : Int) : mhas (me L) (.int .u32 k) = (lkE L k).isSome := by
  unfold mhas; rw [me_find]; cases lkE L k <;> rfl
theorem me_del : ∀ (L : Ent) (k : Int), mdel (me L) (.int .u32 k) = me (delE L k)
  | [], _ => rfl
  | p :: L, k => by
    have ih := me_del L k
    simp only [me, List.map_cons, mdel, keq, kd, delE] at ih ⊢
    by_cases h : k = p.1
    · simp [h]
    · have h' : (k == p.1) = false := by simpa using h
      simp [h, h', ih]
theorem me_set : ∀ (L : Ent) (k : Int) (s : List UInt8), lkE L k = none → mset (me L) (.int .u32 k) (.str s) = me (L ++ [(k, s)])
  | [], _, _, _ => rfl
  | p :: L, k, s, h => by
    simp only [lkE] at h
    split at h
    · cases h
    · rename_i hk
      have ih := me_set L k s h
      simp only [me, List.map_cons, mset, keq, kd, List.cons_append] at ih ⊢
      have h' : (k == p.1) = false := by simpa using hk
      simp [h', ih]
theorem me_len (L : Ent) : (me L).length = L.length := by simp [me]
theorem delE_len : ∀ (L : Ent) (k : Int), (lkE L k).isSome = true → (delE L k).length + 1 = L.length
  | [], _, h => by simp [lkE] at h
  | p :: L, k, h => by
    simp only [lkE] at h
    simp only [delE]
    by_cases hk : k = p.1
    · simp [hk]
    · simp only [hk, if_false] at h ⊢
      have := delE_len L k h
      simp; omega
theorem me_ids (k : Nat) : ∀ (L : Ent), idsP k (me L) = true
  | [] => rfl
  | p :: L => by
    have := me_ids k L
    simp only [me, List.map_cons, idsP, ids] at this ⊢
    simp [this]
theorem me_ren (π : List Nat) (N : Nat) : ∀ (L : Ent), renP π N (me L) = me L
  | [] => rfl
  | p :: L => by
    have := me_ren π N L
    simp only [me, List.map_cons, renP, ren] at this ⊢
    simp [this]
theorem sv_nil : sv [] = [] := rfl
attribute [go_sem] me_ids me_ren sv_nil me_ok me_val me_str me_has me_del me_len
/-- What is in its order goes out. -/
def drain : Nat → Int → Ent → List (List UInt8) → Int × Ent × List (List UInt8)
  | 0, next, L, out => (next, L, out)
  | f + 1, next, L, out => match lkE L next with
    | none => (next, L, out)
    | some s => drain f (u32 (next + 1)) (delE L next) (out ++ [s])
/-- A thing comes: the state, what goes out, the error's number. -/
def putW (next : Int) (L : Ent) (n : Int) (s : List UInt8) : (Int × Ent) × List (List UInt8) × Int :=
  let d := u32 (n - next)
  if d ≥ 2147483648 then ((next, L), [], 11) else if d > 32 then ((next, L), [], 8) else if (lkE L n).isSome then ((next, L), [], 10) else
    let r := drain (L.length + 1) next (L ++ [(n, s)]) []
    ((r.1, r.2.1), r.2.2, 0)
def inM (next : Int) (L : Ent) : Mem := [.box [.int .u32 next, .map 1], .map (me L)]
theorem iput_spec (next : Int) (L : Ent) (n : Int) (s : List UInt8) (hL : L.length ≤ 1000000) :
    Tri Try.prog 27 [.pbox 0 0, .agg [.int .u32 n, .str s]] [.box [.int .u32 next, .map 1], .map (me L)]
      (fun v m => v = .tup [.vsl 1 (sv (putW next L n s).2.1) false, .int .i64 (putW next L n s).2.2] ∧ m = [.box [.int .u32 (putW next L n s).1.1, .map 1], .map (me (putW next L n s).1.2)]) := by
  refine Tri.post ?_
  refine (Tri.enter (rl := r27) (code := c27) (by kernel_rfl) Try.func27 rfl c27_ok (by kernel_rfl) (by kernel_rfl) ?_)
  refine run_ok 4000 _ _ _ _ ?_
  simp (maxSteps := 10000000) only [go_sem, c27, r27]
  refine sem_drawG l27_0_ok (by kernel_rfl) ?_
  intro KK hKK
  simp (maxSteps := 10000000) only [go_sem, l27_0]
  subst hKK
  simp (maxSteps := 10000000) only [go_sem]
  refine ⟨fun h => ?_, fun h1 => ⟨fun h => ?_, fun h2 => ?_⟩⟩
  · refine ⟨_, _, .like (Like.tup2 (Like.nilv 1 false) (Like.refl _)) (.sub [0, 1] ?_ .done), rfl, rfl⟩
    simp only [EmbV, go_sem]
    simp [putW, u32, sv_nil, *]
  · refine ⟨_, _, .like (Like.tup2 (Like.nilv 1 false) (Like.refl _)) (.sub [0, 1] ?_ .done), rfl, rfl⟩
    simp only [EmbV, go_sem]
    simp [putW, u32, sv_nil, *]
  · refine sem_drawG l27_1_ok (by kernel_rfl) ?_
    intro KK hKK
    simp (maxSteps := 10000000) only [go_sem, l27_1]
    subst hKK
    simp (maxSteps := 10000000) only [go_sem]
    refine ⟨fun h => ?_, fun h3 => ?_⟩
    · refine ⟨_, _, .like (Like.tup2 (Like.nilv 1 false) (Like.refl _)) (.sub [0, 1] ?_ .done), rfl, rfl⟩
      simp only [EmbV, go_sem]
      simp [putW, u32, sv_nil, *]
    · have h3' : lkE L n = none := by cases hh : lkE L n with | none => rfl | some x => rw [hh] at h3; cases h3
      skip
      refine sem_drawG l27_2_ok (by kernel_rfl) ?_
      intro KK hKK
      simp (maxSteps := 10000000) only [go_sem, l27_2, me_set L n s h3']
      subst hKK
      simp (maxSteps := 10000000) only [go_sem, me_set L n s h3']
      refine sem_virt 9 1 rfl ?_
      simp (maxSteps := 10000000) only [go_sem, me_set L n s h3']
      have hput : putW next L n s = ((((drain (L.length + 1) next (L ++ [(n, s)]) []).1, (drain (L.length + 1) next (L ++ [(n, s)]) []).2.1), (drain (L.length + 1) next (L ++ [(n, s)]) []).2.2, 0)) := by
        simp only [putW, u32, if_neg h1, if_neg h2, h3', Option.isSome_none, Bool.false_eq_true, if_false]
      rw [hput]
      generalize hD : drain (L.length + 1) next (L ++ [(n, s)]) [] = D
      refine sem_rounds (fun x : Int × Ent × List (List UInt8) => drain x.2.1.length x.1 x.2.1 x.2.2 = D ∧ x.2.1.length + x.2.2.length ≤ L.length + 1) (fun x => [(0, .pbox 0 0), (9, .sl 2 0 x.2.2.length x.2.2.length false)])
        (fun x => [.box [.int .u32 x.1, .map 1], .map (me x.2.1), .row 1 (sv x.2.2)]) (fun x => x.2.1.length) (next, L ++ [(n, s)], []) [0, 1, 3] ⟨by simpa using hD, by simp⟩ ?_ ?_
      · simp only [Emb, go_sem]
      rintro ⟨nx, M, o⟩ ⟨g1, g2⟩
      simp only at g1 g2
      skip
      refine run_ok 4000 _ _ _ _ ?_
      simp (maxSteps := 10000000) only [go_sem]
      refine sem_drawG l27_3_ok (by kernel_rfl) ?_
      intro KK hKK
      simp (maxSteps := 10000000) only [go_sem, l27_3]
      subst hKK
      simp (maxSteps := 10000000) only [go_sem]
      refine ⟨fun h => ?_, fun h => ?_⟩
      · have hn : lkE M nx = none := by cases hh : lkE M nx with | none => rfl | some x => rw [hh] at h; cases h
        have hD' : D = (nx, M, o) := by
          rw [← g1]
          cases hM : M.length with
          | zero => rfl
          | succ k => simp only [drain, hn]
        refine ⟨_, _, .fz 2 rfl (by simp [svl_len]) (.sub [0, 1] ?_ .done), rfl, rfl⟩
        simp only [EmbV, go_sem, hD']
      · obtain ⟨t, hn⟩ : ∃ t, lkE M nx = some t := by cases hh : lkE M nx with | none => rw [hh] at h; cases h | some x => exact ⟨x, rfl⟩
        have hdl := delE_len M nx (by rw [hn]; rfl)
        refine sem_drawG l27_4_ok (by kernel_rfl) ?_
        intro KK hKK
        simp (maxSteps := 10000000) only [go_sem, l27_4]
        subst hKK
        simp (maxSteps := 10000000) only [go_sem]
        refine ⟨by unfold small; omega, (u32 (nx + 1), delE M nx, o ++ [t]), by simp only; omega, ⟨?_, by simp; omega⟩, [0, 1, 3], ?_⟩
        · simp only
          rw [← g1, ← hdl]
          simp only [drain, hn]
        · simp only [Emb, go_sem, hn, svl_one, u32, Option.getD_some]
          simp
/-- What waits, bit by bit. -/
def bitsW (next : Int) (L : Ent) : Nat → Nat
  | 0 => 0
  | k + 1 => if (lkE L (u32 (next + ((k + 1 : Nat) : Int)))).isSome then bitsW next L k + 2 ^ k else bitsW next L k
theorem bitsW_lt (next : Int) (L : Ent) : ∀ k, bitsW next L k < 2 ^ k
  | 0 => by simp [bitsW]
  | k + 1 => by
    have := bitsW_lt next L k
    simp only [bitsW, Nat.pow_succ]
    split <;> omega
theorem or_bit (x k : Nat) (hx : x < 2 ^ k) (hk : k < 32) : ibits .or .u32 (x : Int) (ishl .u32 1 (k : Int)) = ((x + 2 ^ k : Nat) : Int) := by
  have h32 : 2 ^ k ≤ 2 ^ 31 := Nat.pow_le_pow_right (by decide) (by omega)
  have e : ishl .u32 1 (k : Int) = ((2 ^ k : Nat) : Int) := by
    show iwrap .u32 (1 * 2 ^ min ((k : Int).toNat) 32) = _
    rw [Int.toNat_natCast, Nat.min_eq_left (by omega), iwrap_u32, Int.one_mul]
    have : ((2 : Int) ^ k) = ((2 ^ k : Nat) : Int) := by simp
    rw [this]; omega
  rw [e]
  show iwrap .u32 ((BitVec.ofInt 32 (x : Int) ||| BitVec.ofInt 32 ((2 ^ k : Nat) : Int)).toNat : Int) = _
  rw [BitVec.ofInt_natCast, BitVec.ofInt_natCast, BitVec.toNat_or, BitVec.toNat_ofNat, BitVec.toNat_ofNat, Nat.mod_eq_of_lt (by omega), Nat.mod_eq_of_lt (by omega), Nat.or_comm]
  have := Nat.two_pow_add_eq_or_of_lt hx 1
  rw [Nat.mul_one] at this
  rw [← this, iwrap_u32]; omega
theorem iack_spec (next : Int) (L : Ent) : Tri Try.prog 29 [.pbox 0 0] [.box [.int .u32 next, .map 1], .map (me L)]
    (fun v m => v = .agg [.int .u32 next, .int .u32 (bitsW next L 32 : Nat)] ∧ m = [.box [.int .u32 next, .map 1], .map (me L)]) := by
  refine Tri.post ?_
  skip
  refine (Tri.enter (rl := r29) (code := c29) (by kernel_rfl) Try.func29 rfl c29_ok (by kernel_rfl) (by kernel_rfl) ?_)
  refine run_ok 4000 _ _ _ _ ?_
  simp (maxSteps := 10000000) only [go_sem, c29, r29]
  refine sem_rounds (fun k : Nat => k ≤ 32) (fun k => [(0, .pbox 0 0), (2, .pbox 2 0), (3, .pbox 3 0), (4, .int .u32 ((k + 1 : Nat) : Int))])
    (fun k => [.box [.int .u32 next, .map 1], .map (me L), .box [.int .u32 0, .int .u32 0], .box [.int .u32 next, .int .u32 (bitsW next L k : Nat)]]) (fun k => 32 - k) 0 [0, 1, 2, 3] (Nat.zero_le _) ?_ ?_
  · simp only [Emb, go_sem]; simp [bitsW]
  intro k hk
  refine run_ok 4000 _ _ _ _ ?_
  simp (maxSteps := 10000000) only [go_sem]
  refine ⟨fun h => ?_, fun h => ?_⟩
  · have hk' : k < 32 := by omega
    have hd : iwrap .u32 (((k + 1 : Nat) : Int) - 1) = (k : Int) := by rw [iwrap_u32]; omega
    have hi : iwrap .u32 (((k + 1 : Nat) : Int) + 1) = ((k + 1 + 1 : Nat) : Int) := by rw [iwrap_u32]; omega
    have ho := or_bit (bitsW next L k) k (bitsW_lt next L k) hk'
    skip
    refine sem_drawG l29_0_ok (by kernel_rfl) ?_
    intro KK hKK
    simp (maxSteps := 10000000) only [go_sem, l29_0, hd, hi, ho]
    subst hKK
    simp (maxSteps := 10000000) only [go_sem, hd, hi, ho]
    refine ⟨fun hs => ?_, fun hs => ?_⟩
    · refine ⟨Int.natCast_nonneg _, k + 1, by omega, by omega, [0, 1, 2, 3], ?_⟩
      have : bitsW next L (k + 1) = bitsW next L k + 2 ^ k := by simp only [bitsW, u32, hs, if_true]
      simp only [Emb, go_sem, this]
    · refine ⟨k + 1, by omega, by omega, [0, 1, 2, 3], ?_⟩
      have : bitsW next L (k + 1) = bitsW next L k := by simp only [bitsW, u32, hs]; simp
      simp only [Emb, go_sem, this]
  · have : k = 32 := by omega
    subst this
    skip
    refine run_ok 4000 _ _ _ _ ?_
    simp (maxSteps := 10000000) only [go_sem]
    refine ⟨_, _, .sub [0, 1] ?_ .done, rfl, rfl⟩
    simp only [EmbV, go_sem]
theorem ilen_spec (next : Int) (L : Ent) : Tri Try.prog 30 [.pbox 0 0] [.box [.int .u32 next, .map 1], .map (me L)] (fun v m => v = .int .i64 L.length ∧ m = [.box [.int .u32 next, .map 1], .map (me L)]) := by
  refine (Tri.enter (rl := r30) (code := c30) (by kernel_rfl) Try.func30 rfl c30_ok (by kernel_rfl) (by kernel_rfl) ?_)
  refine run_ok 4000 _ _ _ _ ?_
  simp (maxSteps := 10000000) only [go_sem, c30, r30]
theorem expect_spec (next : Int) : Tri Try.prog 26 [.int .u32 next] [] (fun v m => v = .pbox 0 0 ∧ m = [.box [.int .u32 next, .map 1], .map (me [])]) := by
  refine Tri.post ?_
  refine (Tri.enter (rl := r26) (code := c26) (by kernel_rfl) Try.func26 rfl c26_ok (by kernel_rfl) (by kernel_rfl) ?_)
  refine run_ok 4000 _ _ _ _ ?_
  simp (maxSteps := 10000000) only [go_sem, c26, r26]
  refine ⟨_, _, .sub [1, 0] ?_ .done, rfl, rfl⟩
  simp only [EmbV, go_sem, me]
/-! ### what was sent -/
abbrev Itm := Int × List UInt8
def irow (p : Itm) : List AV := [.int .u32 p.1, .str p.2]
def irows (l : List Itm) : List (List AV) := l.map irow
theorem irows_len (l : List Itm) : (irows l).length = l.length := by simp [irows]
theorem irows_app (l k : List Itm) : irows l ++ irows k = irows (l ++ k) := by simp [irows]
theorem sub_irows (l : List Itm) : sub (irows l) 0 l.length = irows l := by have := sub_all (irows l); rwa [irows_len] at this
theorem irow_one (p : Itm) : [[AV.int .u32 p.1, AV.str p.2]] = irows [p] := rfl
attribute [go_sem] irows_len irows_app sub_irows
def outW (next : Int) (l : List Itm) : Mem := [.box [.int .u32 next, .sl 1 0 l.length l.length false], .row 2 (irows l)]
def outW2 (next : Int) (l : List Itm) : Mem := [.box [.int .u32 next, .sl 2 0 l.length l.length false], .gone, .row 2 (irows l)]
attribute [go_sem] outW outW2
theorem begin_spec (next : Int) : Tri Try.prog 32 [.int .u32 next] [] (fun v m => v = .pbox 0 0 ∧ m = [.box [.int .u32 next, .nilsl]]) := by
  refine (Tri.enter (rl := r32) (code := c32) (by kernel_rfl) Try.func32 rfl c32_ok (by kernel_rfl) (by kernel_rfl) ?_)
  refine run_ok 4000 _ _ _ _ ?_
  simp (maxSteps := 10000000) only [go_sem, c32, r32]
def roomW (next : Int) (l : List Itm) : Bool := match l with | [] => true | p :: _ => decide (u32 (next - p.1) < 32)
theorem room_spec (next : Int) (l : List Itm) : Tri Try.prog 42 [.pbox 0 0] (outW next l) (fun v m => v = .bsym (roomW next l) ∧ m = outW next l) := by
  refine Tri.post ?_
  cases l with
  | nil =>
    skip
    refine (Tri.enter (rl := r42) (code := c42) (by kernel_rfl) Try.func42 rfl c42_ok (by kernel_rfl) (by kernel_rfl) ?_)
    refine run_ok 4000 _ _ _ _ ?_
    simp (maxSteps := 10000000) only [go_sem, c42, r42]
    refine sem_drawG l42_0_ok (by kernel_rfl) ?_
    intro KK hKK
    simp (maxSteps := 10000000) only [go_sem, l42_0]
    subst hKK
    simp (maxSteps := 10000000) only [go_sem]
    exact ⟨_, _, .like (Like.bsym _) .done, rfl, rfl⟩
  | cons p l =>
    obtain ⟨k, t⟩ := p
    have hl : (((l.length + 1 : Nat) : Int) == 0) = false := by simp; omega
    have hl2 : (0 : Int) < ((l.length + 1 : Nat) : Int) := by omega
    skip
    refine (Tri.enter (rl := r42) (code := c42) (by kernel_rfl) Try.func42 rfl c42_ok (by kernel_rfl) (by kernel_rfl) ?_)
    refine run_ok 4000 _ _ _ _ ?_
    simp (maxSteps := 10000000) only [go_sem, c42, r42, irows, irow, hl, hl2]
    refine sem_drawG l42_0_ok (by kernel_rfl) ?_
    intro KK hKK
    simp (maxSteps := 10000000) only [go_sem, l42_0, irows, irow, hl, hl2]
    subst hKK
    simp (maxSteps := 10000000) only [go_sem, irows, irow, hl, hl2]
    exact ⟨_, _, .done, rfl, rfl⟩
/-- One more is sent. -/
def pushW (next : Int) (l : List Itm) (s : List UInt8) : Int × List Itm := if roomW next l then (u32 (next + 1), l ++ [(next, s)]) else (next, l)
theorem u32_back {n : Int} (h : U32 n) : iwrap .u32 (iwrap .u32 (n + 1) - 1) = n := by rw [iwrap_u32, iwrap_u32]; unfold U32 at h; omega
theorem push_spec (next : Int) (l : List Itm) (s : List UInt8) (hn : U32 next) (hl : l.length ≤ 1000000) : Tri Try.prog 33 [.pbox 0 0, .str s] (outW next l)
    (fun v m => v = .tup [.int .u32 (if roomW next l then next else 0), .int .i64 (if roomW next l then 0 else 8)] ∧ m = outW2 (pushW next l s).1 (pushW next l s).2) := by
  refine Tri.post ?_
  skip
  refine (Tri.enter (rl := r33) (code := c33) (by kernel_rfl) Try.func33 rfl c33_ok (by kernel_rfl) (by kernel_rfl) ?_)
  refine run_ok 4000 _ _ _ _ ?_
  simp (maxSteps := 10000000) only [go_sem, c33, r33]
  refine sem_move 1 rfl ?_
  simp (maxSteps := 10000000) only [go_sem]
  refine sem_call rfl rfl (((room_spec next l).embed [0, 2] rfl (by repeat' first | exact trivial | rfl | (simp only [go_sem]; done) | constructor) rfl (by first | rfl | simp only [go_sem]) rfl (by simp)).mono ?_)
  rintro _ _ ⟨_, _, ⟨rfl, rfl⟩, rfl, rfl⟩
  refine run_ok 4000 _ _ _ _ ?_
  simp (maxSteps := 10000000) only [go_sem]
  cases hr : roomW next l with
  | false =>
    simp (maxSteps := 10000000) only [go_sem]
    refine ⟨_, _, .sub [0, 1, 2] ?_ .done, rfl, rfl⟩
    simp only [EmbV, go_sem]
    simp [pushW, hr]
  | true =>
    simp (maxSteps := 10000000) only [go_sem]
    refine sem_drawG l33_0_ok (by kernel_rfl) ?_
    intro KK hKK
    simp (maxSteps := 10000000) only [go_sem, l33_0]
    subst hKK
    simp (maxSteps := 10000000) only [go_sem]
    refine ⟨by unfold small; omega, _, _, .sub [0, 1, 3] ?_ .done, rfl, rfl⟩
    simp only [EmbV, go_sem, irow_one (next, s), u32_back hn]
    simp [pushW, hr, u32]
theorem awake13_spec : Tri Try.prog 24 [] [] (fun v m => v = .bool true ∧ m = []) := by
  refine Tri.post ?_
  skip
  refine (Tri.enter (rl := r24) (code := c24) (by kernel_rfl) Try.func24 rfl c24_ok (by kernel_rfl) (by kernel_rfl) ?_)
  refine run_ok 4000 _ _ _ _ ?_
  simp (maxSteps := 10000000) only [go_sem, c24, r24]
  refine sem_call rfl rfl ((expect_spec 5).mono ?_)
  rintro _ _ ⟨rfl, rfl⟩
  refine run_ok 4000 _ _ _ _ ?_
  simp (maxSteps := 10000000) only [go_sem]
  refine sem_call rfl rfl (((begin_spec 7).embed [] rfl trivial rfl rfl rfl (by simp)).mono ?_)
  rintro _ _ ⟨_, _, ⟨rfl, rfl⟩, rfl, rfl⟩
  refine run_ok 4000 _ _ _ _ ?_
  simp (maxSteps := 10000000) only [go_sem]
  refine sem_nilbox 2 1 2 rfl rfl ?_
  simp (maxSteps := 10000000) only [go_sem]
  have p1 : putW 5 [] 6 [98] = ((5, [(6, [98])]), [], 0) := by decide
  have p2 : putW 5 [(6, [98])] 8 [100] = ((5, [(6, [98]), (8, [100])]), [], 0) := by decide
  have p3 : putW 5 [(6, [98]), (8, [100])] 5 [97] = ((7, [(8, [100])]), [[97], [98]], 0) := by decide
  have b1 : bitsW 5 [(6, [98]), (8, [100])] 32 = 5 := by decide +kernel
  have b2 : bitsW 7 [(8, [100])] 32 = 1 := by decide +kernel
  have r1 : roomW 7 [] = true := rfl
  have w1 : pushW 7 [] [120] = (8, [(7, [120])]) := by decide
  have h1 : hasW 5 5 6 = true := by decide +kernel
  have h2 : hasW 5 5 5 = false := by decide +kernel
  skip
  refine sem_call rfl rfl (((iput_spec 5 [] 6 [98] (by simp)).embed [0, 1] rfl (by repeat' first | exact trivial | rfl | (simp only [go_sem]; done) | constructor) rfl (by first | rfl | simp only [go_sem]) rfl (by simp)).mono ?_)
  rintro _ _ ⟨_, _, ⟨rfl, rfl⟩, rfl, rfl⟩
  refine run_ok 4000 _ _ _ _ ?_
  simp (maxSteps := 10000000) only [go_sem, p1, p2, p3, b1, b2, r1, w1, h1, h2]
  refine sem_call rfl rfl (((iput_spec 5 [(6, [98])] 8 [100] (by simp)).embed [0, 1] rfl (by repeat' first | exact trivial | rfl | (simp only [go_sem]; done) | constructor) rfl (by first | rfl | simp only [go_sem]) rfl (by simp)).mono ?_)
  rintro _ _ ⟨_, _, ⟨rfl, rfl⟩, rfl, rfl⟩
  refine run_ok 4000 _ _ _ _ ?_
  simp (maxSteps := 10000000) only [go_sem, p1, p2, p3, b1, b2, r1, w1, h1, h2]
  refine sem_call rfl rfl (((iack_spec 5 [(6, [98]), (8, [100])]).embed [0, 1] rfl (by repeat' first | exact trivial | rfl | (simp only [go_sem]; done) | constructor) rfl (by first | rfl | simp only [go_sem]) rfl (by simp)).mono ?_)
  rintro _ _ ⟨_, _, ⟨rfl, rfl⟩, rfl, rfl⟩
  refine run_ok 4000 _ _ _ _ ?_
  simp (maxSteps := 10000000) only [go_sem, p1, p2, p3, b1, b2, r1, w1, h1, h2]
  refine sem_call rfl rfl (((iput_spec 5 [(6, [98]), (8, [100])] 5 [97] (by simp)).embed [0, 1] rfl (by repeat' first | exact trivial | rfl | (simp only [go_sem]; done) | constructor) rfl (by first | rfl | simp only [go_sem]) rfl (by simp)).mono ?_)
  rintro _ _ ⟨_, _, ⟨rfl, rfl⟩, rfl, rfl⟩
  refine run_ok 4000 _ _ _ _ ?_
  simp (maxSteps := 10000000) only [go_sem, p1, p2, p3, b1, b2, r1, w1, h1, h2]
  refine sem_call rfl rfl (((push_spec 7 [] [120] (by unfold U32; omega) (by simp)).embed [2, 3] rfl (by repeat' first | exact trivial | rfl | (simp only [go_sem]; done) | constructor) rfl (by first | rfl | simp only [go_sem]) rfl (by simp)).mono ?_)
  rintro _ _ ⟨_, _, ⟨rfl, rfl⟩, rfl, rfl⟩
  refine run_ok 4000 _ _ _ _ ?_
  simp (maxSteps := 10000000) only [go_sem, p1, p2, p3, b1, b2, r1, w1, h1, h2]
  refine sem_call rfl rfl (((iack_spec 7 [(8, [100])]).embed [0, 1] rfl (by repeat' first | exact trivial | rfl | (simp only [go_sem]; done) | constructor) rfl (by first | rfl | simp only [go_sem]) rfl (by simp)).mono ?_)
  rintro _ _ ⟨_, _, ⟨rfl, rfl⟩, rfl, rfl⟩
  refine run_ok 4000 _ _ _ _ ?_
  simp (maxSteps := 10000000) only [go_sem, p1, p2, p3, b1, b2, r1, w1, h1, h2]

  refine sem_call rfl rfl (((has_spec 5 5 6).embed [] rfl trivial rfl rfl rfl (by simp)).mono ?_)
  rintro _ _ ⟨_, _, ⟨rfl, rfl⟩, rfl, rfl⟩
  refine run_ok 4000 _ _ _ _ ?_
  simp (maxSteps := 10000000) only [go_sem, p1, p2, p3, b1, b2, r1, w1, h1, h2]
  refine sem_call rfl rfl (((has_spec 5 5 5).embed [] rfl trivial rfl rfl rfl (by simp)).mono ?_)
  rintro _ _ ⟨_, _, ⟨rfl, rfl⟩, rfl, rfl⟩
  refine run_ok 4000 _ _ _ _ ?_
  simp (maxSteps := 10000000) only [go_sem, p1, p2, p3, b1, b2, r1, w1, h1, h2]
  refine ⟨_, _, .like (Like.bool true) (.sub [] ?_ .done), rfl, rfl⟩
  simp only [EmbV, go_sem]
theorem windowHas_spec (next : Int) (h1 : (Lit.int .u32 next).wf = true) (bits : Int) (h2 : (Lit.int .u32 bits).wf = true) (n : Int) (h3 : (Lit.int .u32 n).wf = true) :
    Tri Try.prog 8 [.int .u32 next, .int .u32 bits, .int .u32 n] [] (fun v m => v = .bool true) := by
  skip
  refine (Tri.asB (Tri.enter (rl := r8) (code := c8) (by kernel_rfl) Try.func8 rfl c8_ok (by kernel_rfl) (by kernel_rfl) ?_))
  refine run_ok 4000 _ _ _ _ ?_
  simp (maxSteps := 10000000) only [go_sem, c8, r8]
  refine ⟨fun h => ?_, fun h1 => ⟨fun h2 => ⟨fun h3 => ⟨(U32.wrap _).1, ?_⟩, fun h3 => ?_⟩, fun h2 => ?_⟩⟩
  · have hv : hasW next bits n = true := by simp only [hasW]; simp [*]
    skip
    refine sem_call rfl rfl (((awake13_spec).embed [] rfl trivial rfl rfl rfl (by simp)).mono ?_)
    rintro _ _ ⟨_, _, ⟨rfl, rfl⟩, rfl, rfl⟩
    refine run_ok 4000 _ _ _ _ ?_
    simp (maxSteps := 10000000) only [go_sem, hv]
    refine sem_call rfl rfl (((has_spec next bits n).embed [] rfl trivial rfl rfl rfl (by simp)).mono ?_)
    rintro _ _ ⟨_, _, ⟨rfl, rfl⟩, rfl, rfl⟩
    refine run_ok 4000 _ _ _ _ ?_
    simp (maxSteps := 10000000) only [go_sem, hv]
  · have hv : hasW next bits n = (ibits .and .u32 (ishr .u32 bits (iwrap .u32 (iwrap .u32 (n - next) - 1))) 1 == 1) := by simp only [hasW]; simp [*]
    skip
    refine sem_call rfl rfl (((awake13_spec).embed [] rfl trivial rfl rfl rfl (by simp)).mono ?_)
    rintro _ _ ⟨_, _, ⟨rfl, rfl⟩, rfl, rfl⟩
    refine run_ok 4000 _ _ _ _ ?_
    simp (maxSteps := 10000000) only [go_sem, hv, beq_self_eq_true]
    refine sem_call rfl rfl (((has_spec next bits n).embed [] rfl trivial rfl rfl rfl (by simp)).mono ?_)
    rintro _ _ ⟨_, _, ⟨rfl, rfl⟩, rfl, rfl⟩
    refine run_ok 4000 _ _ _ _ ?_
    simp (maxSteps := 10000000) only [go_sem, hv, beq_self_eq_true]
  · have hv : hasW next bits n = false := by simp only [hasW]; simp [*]
    skip
    refine sem_call rfl rfl (((awake13_spec).embed [] rfl trivial rfl rfl rfl (by simp)).mono ?_)
    rintro _ _ ⟨_, _, ⟨rfl, rfl⟩, rfl, rfl⟩
    refine run_ok 4000 _ _ _ _ ?_
    simp (maxSteps := 10000000) only [go_sem, hv]
    refine sem_call rfl rfl (((has_spec next bits n).embed [] rfl trivial rfl rfl rfl (by simp)).mono ?_)
    rintro _ _ ⟨_, _, ⟨rfl, rfl⟩, rfl, rfl⟩
    refine run_ok 4000 _ _ _ _ ?_
    simp (maxSteps := 10000000) only [go_sem, hv]
  · have hv : hasW next bits n = false := by simp only [hasW]; simp [*]
    skip
    refine sem_call rfl rfl (((awake13_spec).embed [] rfl trivial rfl rfl rfl (by simp)).mono ?_)
    rintro _ _ ⟨_, _, ⟨rfl, rfl⟩, rfl, rfl⟩
    refine run_ok 4000 _ _ _ _ ?_
    simp (maxSteps := 10000000) only [go_sem, hv]
    refine sem_call rfl rfl (((has_spec next bits n).embed [] rfl trivial rfl rfl rfl (by simp)).mono ?_)
    rintro _ _ ⟨_, _, ⟨rfl, rfl⟩, rfl, rfl⟩
    refine run_ok 4000 _ _ _ _ ?_
    simp (maxSteps := 10000000) only [go_sem, hv]
end Go.AEX
