/- Turned to this seat by turn.py: Win.lean WinIn.lean WinLaw.lean WinOut.lean WinOut2.lean WinOut3.lean WinOL.lean WinC.lean. -/
import Derived.Test.YtpbmlaolpfaicaaTFrag
import Derived.Test.YtpbmlaolpfaicaaAEsa
import Derived.Test.YtpbmlaolpfaicaaAEzg
import Derived.Test.YtpbmlaolpfaicaaAEzj
namespace Go.AEX
open Go Go.AE Go.Proofs
set_option maxRecDepth 100000
set_option linter.unusedVariables false
set_option linter.unusedSimpArgs false

def U32 (n : Int) : Prop := 0 ≤ n ∧ n < 4294967296
def u32 (n : Int) : Int := iwrap .u32 n
theorem U32.wrap (n : Int) : U32 (iwrap .u32 n) := by rw [iwrap_u32]; unfold U32; omega
def hasW (next bits n : Int) : Bool :=
  let d := iwrap .u32 (n - next)
  decide (d ≥ 2147483648) || (decide (d ≥ 1) && (decide (d ≤ 32) && (ibits .and .u32 (ishr .u32 bits (iwrap .u32 (d - 1))) 1 == 1)))
theorem has_spec (next bits n : Int) : Tri Try.prog 62 [.agg [.int .u32 next, .int .u32 bits], .int .u32 n] [] (fun v m => v = .bsym (hasW next bits n) ∧ m = []) := by
  refine Tri.sub (Tri.like ?_)
  refine (Tri.enter (rl := r62) (code := c62) (by kernel_rfl) Try.func62 rfl c62_ok (by kernel_rfl) (by kernel_rfl) ?_)
  refine run_ok 4000 _ _ _ _ ?_
  simp (maxSteps := 10000000) only [go_sem, c62, r62]
  refine ⟨fun h => ?_, fun h1 => ⟨fun h2 => ⟨fun h3 => ⟨(U32.wrap _).1, ?_⟩, fun h3 => ?_⟩, fun h2 => ?_⟩⟩
  · refine ⟨_, Like.bsym _, [], _, [], ?_, rfl, rfl⟩
    simp only [EmbV, go_sem, hasW]
    simp [*]
  · refine ⟨_, Like.refl _, [], _, [], ?_, rfl, rfl⟩
    simp only [EmbV, go_sem, hasW]
    simp [*]
  · refine ⟨_, Like.bsym _, [], _, [], ?_, rfl, rfl⟩
    simp only [EmbV, go_sem, hasW]
    simp [*]
  · refine ⟨_, Like.bsym _, [], _, [], ?_, rfl, rfl⟩
    simp only [EmbV, go_sem, hasW]
    simp [*]
abbrev Ent := List (Int × List UInt8)
def me (L : Ent) : List (AV × AV) := L.map fun p => (AV.int .u32 p.1, AV.str p.2)
def lkE : Ent → Int → Option (List UInt8)
  | [], _ => none
  | p :: L, k => if k = p.1 then some p.2 else lkE L k
def delE : Ent → Int → Ent
  | [], _ => []
  | p :: L, k => if k = p.1 then L else p :: delE L k
theorem me_ok : ∀ (L : Ent) (k : Int), keysOk (me L) (.int .u32 k)
  | [], _ => trivial
  | p :: L, k => ⟨rfl, me_ok L k⟩
theorem me_find : ∀ (L : Ent) (k : Int), mfind (me L) (.int .u32 k) = (lkE L k).map AV.str
  | [], _ => rfl
  | p :: L, k => by
    have ih := me_find L k
    simp only [me, List.map_cons, mfind, keq, kd, lkE] at ih ⊢
    by_cases h : k = p.1
    · simp [h]
    · have h' : (k == p.1) = false := by simpa using h
      simp [h, h', ih]
theorem me_val (L : Ent) (k : Int) : valS (me L) (.int .u32 k) := by
  intro v hv
  rw [me_find, Option.map_eq_some_iff] at hv
  obtain ⟨s, _, rfl⟩ := hv
  exact ⟨s, rfl⟩
theorem me_str (L : Ent) (k : Int) : mstr (me L) (.int .u32 k) = (lkE L k).getD [] := by
  unfold mstr; rw [me_find]; cases lkE L k <;> rfl
theorem me_has (L : Ent) (k : Int) : mhas (me L) (.int .u32 k) = (lkE L k).isSome := by
  unfold mhas; rw [me_find]; cases lkE L k <;> rfl
theorem me_del : ∀ (L : Ent) (k : Int), mdel (me L) (.int .u32 k) = me (delE L k)
  | [], _ => rfl
  | p :: L, k => by
    have ih := me_del L k
    simp only [me, List.map_cons, mdel, keq, kd, delE] at ih ⊢
    by_cases h : k = p.1
    · simp [h]
    · have h' : (k == p.1) = false := by simpa using h
      simp [h, h', ih]
theorem me_set : ∀ (L : Ent) (k : Int) (s : List UInt8), lkE L k = none → mset (me L) (.int .u32 k) (.str s) = me (L ++ [(k, s)])
  | [], _, _, _ => rfl
  | p :: L, k, s, h => by
    simp only [lkE] at h
    split at h
    · cases h
    · rename_i hk
      have ih := me_set L k s h
      simp only [me, List.map_cons, mset, keq, kd, List.cons_append] at ih ⊢
      have h' : (k == p.1) = false := by simpa using hk
      simp [h', ih]
theorem me_len (L : Ent) : (me L).length = L.length := by simp [me]
theorem delE_len : ∀ (L : Ent) (k : Int), (lkE L k).isSome = true → (delE L k).length + 1 = L.length
  | [], _, h => by simp [lkE] at h
  | p :: L, k, h => by
    simp only [lkE] at h
    simp only [delE]
    by_cases hk : k = p.1
    · simp [hk]
    · simp only [hk, if_false] at h ⊢
      have := delE_len L k h
      simp; omega
theorem me_ids (k : Nat) : ∀ (L : Ent), idsP k (me L) = true
  | [] => rfl
  | p :: L => by
    have := me_ids k L
    simp only [me, List.map_cons, idsP, ids] at this ⊢
    simp [this]
theorem me_ren (π : List Nat) (N : Nat) : ∀ (L : Ent), renP π N (me L) = me L
  | [] => rfl
  | p :: L => by
    have := me_ren π N L
    simp only [me, List.map_cons, renP, ren] at this ⊢
    simp [this]
theorem sv_nil : sv [] = [] := rfl
attribute [go_sem] me_ids me_ren sv_nil me_ok me_val me_str me_has me_del me_len
def drain : Nat → Int → Ent → List (List UInt8) → Int × Ent × List (List UInt8)
  | 0, next, L, out => (next, L, out)
  | f + 1, next, L, out => match lkE L next with
    | none => (next, L, out)
    | some s => drain f (u32 (next + 1)) (delE L next) (out ++ [s])
def putW (next : Int) (L : Ent) (n : Int) (s : List UInt8) : (Int × Ent) × List (List UInt8) × Int :=
  let d := u32 (n - next)
  if d ≥ 2147483648 then ((next, L), [], 11) else if d > 32 then ((next, L), [], 8) else if (lkE L n).isSome then ((next, L), [], 10) else
    let r := drain (L.length + 1) next (L ++ [(n, s)]) []
    ((r.1, r.2.1), r.2.2, 0)
theorem iput_spec (next : Int) (L : Ent) (n : Int) (s : List UInt8) (hL : L.length ≤ 1000000) :
    Tri Try.prog 23 [.pbox 0 0, .agg [.int .u32 n, .str s]] [.box [.int .u32 next, .map 1], .map (me L)]
      (fun v m => v = .tup [.vsl 1 (sv (putW next L n s).2.1) false, .int .i64 (putW next L n s).2.2] ∧ m = [.box [.int .u32 (putW next L n s).1.1, .map 1], .map (me (putW next L n s).1.2)]) := by
  refine Tri.post ?_
  refine (Tri.enter (rl := r23) (code := c23) (by kernel_rfl) Try.func23 rfl c23_ok (by kernel_rfl) (by kernel_rfl) ?_)
  refine run_ok 4000 _ _ _ _ ?_
  simp (maxSteps := 10000000) only [go_sem, c23, r23]
  refine sem_drawG l23_0_ok (by kernel_rfl) ?_
  intro KK hKK
  simp (maxSteps := 10000000) only [go_sem, l23_0]
  subst hKK
  simp (maxSteps := 10000000) only [go_sem]
  refine ⟨fun h => ?_, fun h1 => ⟨fun h => ?_, fun h2 => ?_⟩⟩
  · refine ⟨_, _, .like (Like.tup2 (Like.nilv 1 false) (Like.refl _)) (.sub [0, 1] ?_ .done), rfl, rfl⟩
    simp only [EmbV, go_sem]
    simp [putW, u32, sv_nil, *]
  · refine ⟨_, _, .like (Like.tup2 (Like.nilv 1 false) (Like.refl _)) (.sub [0, 1] ?_ .done), rfl, rfl⟩
    simp only [EmbV, go_sem]
    simp [putW, u32, sv_nil, *]
  · refine sem_drawG l23_1_ok (by kernel_rfl) ?_
    intro KK hKK
    simp (maxSteps := 10000000) only [go_sem, l23_1]
    subst hKK
    simp (maxSteps := 10000000) only [go_sem]
    refine ⟨fun h => ?_, fun h3 => ?_⟩
    · refine ⟨_, _, .like (Like.tup2 (Like.nilv 1 false) (Like.refl _)) (.sub [0, 1] ?_ .done), rfl, rfl⟩
      simp only [EmbV, go_sem]
      simp [putW, u32, sv_nil, *]
    · have h3' : lkE L n = none := by cases hh : lkE L n with | none => rfl | some x => rw [hh] at h3; cases h3
      skip
      refine sem_drawG l23_2_ok (by kernel_rfl) ?_
      intro KK hKK
      simp (maxSteps := 10000000) only [go_sem, l23_2, me_set L n s h3']
      subst hKK
      simp (maxSteps := 10000000) only [go_sem, me_set L n s h3']
      refine sem_virt 9 1 rfl ?_
      simp (maxSteps := 10000000) only [go_sem, me_set L n s h3']
      have hput : putW next L n s = ((((drain (L.length + 1) next (L ++ [(n, s)]) []).1, (drain (L.length + 1) next (L ++ [(n, s)]) []).2.1), (drain (L.length + 1) next (L ++ [(n, s)]) []).2.2, 0)) := by
        simp only [putW, u32, if_neg h1, if_neg h2, h3', Option.isSome_none, Bool.false_eq_true, if_false]
      rw [hput]
      generalize hD : drain (L.length + 1) next (L ++ [(n, s)]) [] = D
      refine sem_rounds (fun x : Int × Ent × List (List UInt8) => drain x.2.1.length x.1 x.2.1 x.2.2 = D ∧ x.2.1.length + x.2.2.length ≤ L.length + 1) (fun x => [(0, .pbox 0 0), (9, .sl 2 0 x.2.2.length x.2.2.length false)])
        (fun x => [.box [.int .u32 x.1, .map 1], .map (me x.2.1), .row 1 (sv x.2.2)]) (fun x => x.2.1.length) (next, L ++ [(n, s)], []) [0, 1, 3] ⟨by simpa using hD, by simp⟩ ?_ ?_
      · simp only [Emb, go_sem]
      rintro ⟨nx, M, o⟩ ⟨g1, g2⟩
      simp only at g1 g2
      skip
      refine run_ok 4000 _ _ _ _ ?_
      simp (maxSteps := 10000000) only [go_sem]
      refine sem_drawG l23_3_ok (by kernel_rfl) ?_
      intro KK hKK
      simp (maxSteps := 10000000) only [go_sem, l23_3]
      subst hKK
      simp (maxSteps := 10000000) only [go_sem]
      refine ⟨fun h => ?_, fun h => ?_⟩
      · have hn : lkE M nx = none := by cases hh : lkE M nx with | none => rfl | some x => rw [hh] at h; cases h
        have hD' : D = (nx, M, o) := by
          rw [← g1]
          cases hM : M.length with
          | zero => rfl
          | succ k => simp only [drain, hn]
        refine ⟨_, _, .fz 2 rfl (by simp [svl_len]) (.sub [0, 1] ?_ .done), rfl, rfl⟩
        simp only [EmbV, go_sem, hD']
      · obtain ⟨t, hn⟩ : ∃ t, lkE M nx = some t := by cases hh : lkE M nx with | none => rw [hh] at h; cases h | some x => exact ⟨x, rfl⟩
        have hdl := delE_len M nx (by rw [hn]; rfl)
        refine sem_drawG l23_4_ok (by kernel_rfl) ?_
        intro KK hKK
        simp (maxSteps := 10000000) only [go_sem, l23_4]
        subst hKK
        simp (maxSteps := 10000000) only [go_sem]
        refine ⟨by unfold small; omega, (u32 (nx + 1), delE M nx, o ++ [t]), by simp only; omega, ⟨?_, by simp; omega⟩, [0, 1, 3], ?_⟩
        · simp only
          rw [← g1, ← hdl]
          simp only [drain, hn]
        · simp only [Emb, go_sem, hn, svl_one, u32, Option.getD_some]
          simp
def bitsW (next : Int) (L : Ent) : Nat → Nat
  | 0 => 0
  | k + 1 => if (lkE L (u32 (next + ((k + 1 : Nat) : Int)))).isSome then bitsW next L k + 2 ^ k else bitsW next L k
theorem bitsW_lt (next : Int) (L : Ent) : ∀ k, bitsW next L k < 2 ^ k
  | 0 => by simp [bitsW]
  | k + 1 => by
    have := bitsW_lt next L k
    simp only [bitsW, Nat.pow_succ]
    split <;> omega
theorem or_bit (x k : Nat) (hx : x < 2 ^ k) (hk : k < 32) : ibits .or .u32 (x : Int) (ishl .u32 1 (k : Int)) = ((x + 2 ^ k : Nat) : Int) := by
  have h32 : 2 ^ k ≤ 2 ^ 31 := Nat.pow_le_pow_right (by decide) (by omega)
  have e : ishl .u32 1 (k : Int) = ((2 ^ k : Nat) : Int) := by
    show iwrap .u32 (1 * 2 ^ min ((k : Int).toNat) 32) = _
    rw [Int.toNat_natCast, Nat.min_eq_left (by omega), iwrap_u32, Int.one_mul]
    have : ((2 : Int) ^ k) = ((2 ^ k : Nat) : Int) := by simp
    rw [this]; omega
  rw [e]
  show iwrap .u32 ((BitVec.ofInt 32 (x : Int) ||| BitVec.ofInt 32 ((2 ^ k : Nat) : Int)).toNat : Int) = _
  rw [BitVec.ofInt_natCast, BitVec.ofInt_natCast, BitVec.toNat_or, BitVec.toNat_ofNat, BitVec.toNat_ofNat, Nat.mod_eq_of_lt (by omega), Nat.mod_eq_of_lt (by omega), Nat.or_comm]
  have := Nat.two_pow_add_eq_or_of_lt hx 1
  rw [Nat.mul_one] at this
  rw [← this, iwrap_u32]; omega
theorem iack_spec (next : Int) (L : Ent) : Tri Try.prog 27 [.pbox 0 0] [.box [.int .u32 next, .map 1], .map (me L)]
    (fun v m => v = .agg [.int .u32 next, .int .u32 (bitsW next L 32 : Nat)] ∧ m = [.box [.int .u32 next, .map 1], .map (me L)]) := by
  refine Tri.post ?_
  skip
  refine (Tri.enter (rl := r27) (code := c27) (by kernel_rfl) Try.func27 rfl c27_ok (by kernel_rfl) (by kernel_rfl) ?_)
  refine run_ok 4000 _ _ _ _ ?_
  simp (maxSteps := 10000000) only [go_sem, c27, r27]
  refine sem_rounds (fun k : Nat => k ≤ 32) (fun k => [(0, .pbox 0 0), (2, .pbox 2 0), (3, .pbox 3 0), (4, .int .u32 ((k + 1 : Nat) : Int))])
    (fun k => [.box [.int .u32 next, .map 1], .map (me L), .box [.int .u32 0, .int .u32 0], .box [.int .u32 next, .int .u32 (bitsW next L k : Nat)]]) (fun k => 32 - k) 0 [0, 1, 2, 3] (Nat.zero_le _) ?_ ?_
  · simp only [Emb, go_sem]; simp [bitsW]
  intro k hk
  refine run_ok 4000 _ _ _ _ ?_
  simp (maxSteps := 10000000) only [go_sem]
  refine ⟨fun h => ?_, fun h => ?_⟩
  · have hk' : k < 32 := by omega
    have hd : iwrap .u32 (((k + 1 : Nat) : Int) - 1) = (k : Int) := by rw [iwrap_u32]; omega
    have hi : iwrap .u32 (((k + 1 : Nat) : Int) + 1) = ((k + 1 + 1 : Nat) : Int) := by rw [iwrap_u32]; omega
    have ho := or_bit (bitsW next L k) k (bitsW_lt next L k) hk'
    skip
    refine sem_drawG l27_0_ok (by kernel_rfl) ?_
    intro KK hKK
    simp (maxSteps := 10000000) only [go_sem, l27_0, hd, hi, ho]
    subst hKK
    simp (maxSteps := 10000000) only [go_sem, hd, hi, ho]
    refine ⟨fun hs => ?_, fun hs => ?_⟩
    · refine ⟨Int.natCast_nonneg _, k + 1, by omega, by omega, [0, 1, 2, 3], ?_⟩
      have : bitsW next L (k + 1) = bitsW next L k + 2 ^ k := by simp only [bitsW, u32, hs, if_true]
      simp only [Emb, go_sem, this]
    · refine ⟨k + 1, by omega, by omega, [0, 1, 2, 3], ?_⟩
      have : bitsW next L (k + 1) = bitsW next L k := by simp only [bitsW, u32, hs]; simp
      simp only [Emb, go_sem, this]
  · have : k = 32 := by omega
    subst this
    skip
    refine run_ok 4000 _ _ _ _ ?_
    simp (maxSteps := 10000000) only [go_sem]
    refine ⟨_, _, .sub [0, 1] ?_ .done, rfl, rfl⟩
    simp only [EmbV, go_sem]
theorem expect_spec (next : Int) : Tri Try.prog 17 [.int .u32 next] [] (fun v m => v = .pbox 0 0 ∧ m = [.box [.int .u32 next, .map 1], .map (me [])]) := by
  refine Tri.post ?_
  refine (Tri.enter (rl := r17) (code := c17) (by kernel_rfl) Try.func17 rfl c17_ok (by kernel_rfl) (by kernel_rfl) ?_)
  refine run_ok 4000 _ _ _ _ ?_
  simp (maxSteps := 10000000) only [go_sem, c17, r17]
  refine ⟨_, _, .sub [1, 0] ?_ .done, rfl, rfl⟩
  simp only [EmbV, go_sem, me]
abbrev Itm := Int × List UInt8
def irow (p : Itm) : List AV := [.int .u32 p.1, .str p.2]
def irows (l : List Itm) : List (List AV) := l.map irow
theorem irows_len (l : List Itm) : (irows l).length = l.length := by simp [irows]
theorem irows_app (l k : List Itm) : irows l ++ irows k = irows (l ++ k) := by simp [irows]
theorem sub_irows (l : List Itm) : sub (irows l) 0 l.length = irows l := by have := sub_all (irows l); rwa [irows_len] at this
theorem irow_one (p : Itm) : [[AV.int .u32 p.1, AV.str p.2]] = irows [p] := rfl
attribute [go_sem] irows_len irows_app sub_irows
def outW (next : Int) (l : List Itm) : Mem := [.box [.int .u32 next, .sl 1 0 l.length l.length false], .row 2 (irows l)]
def outW2 (next : Int) (l : List Itm) : Mem := [.box [.int .u32 next, .sl 2 0 l.length l.length false], .gone, .row 2 (irows l)]
attribute [go_sem] outW outW2
theorem begin_spec (next : Int) : Tri Try.prog 16 [.int .u32 next] [] (fun v m => v = .pbox 0 0 ∧ m = [.box [.int .u32 next, .nilsl]]) := by
  refine (Tri.enter (rl := r16) (code := c16) (by kernel_rfl) Try.func16 rfl c16_ok (by kernel_rfl) (by kernel_rfl) ?_)
  refine run_ok 4000 _ _ _ _ ?_
  simp (maxSteps := 10000000) only [go_sem, c16, r16]
def roomW (next : Int) (l : List Itm) : Bool := match l with | [] => true | p :: _ => decide (u32 (next - p.1) < 32)
theorem room_spec (next : Int) (l : List Itm) : Tri Try.prog 57 [.pbox 0 0] (outW next l) (fun v m => v = .bsym (roomW next l) ∧ m = outW next l) := by
  refine Tri.post ?_
  cases l with
  | nil =>
    skip
    refine (Tri.enter (rl := r57) (code := c57) (by kernel_rfl) Try.func57 rfl c57_ok (by kernel_rfl) (by kernel_rfl) ?_)
    refine run_ok 4000 _ _ _ _ ?_
    simp (maxSteps := 10000000) only [go_sem, c57, r57]
    refine sem_drawG l57_0_ok (by kernel_rfl) ?_
    intro KK hKK
    simp (maxSteps := 10000000) only [go_sem, l57_0]
    subst hKK
    simp (maxSteps := 10000000) only [go_sem]
    exact ⟨_, _, .like (Like.bsym _) .done, rfl, rfl⟩
  | cons p l =>
    obtain ⟨k, t⟩ := p
    have hl : (((l.length + 1 : Nat) : Int) == 0) = false := by simp; omega
    have hl2 : (0 : Int) < ((l.length + 1 : Nat) : Int) := by omega
    skip
    refine (Tri.enter (rl := r57) (code := c57) (by kernel_rfl) Try.func57 rfl c57_ok (by kernel_rfl) (by kernel_rfl) ?_)
    refine run_ok 4000 _ _ _ _ ?_
    simp (maxSteps := 10000000) only [go_sem, c57, r57, irows, irow, hl, hl2]
    refine sem_drawG l57_0_ok (by kernel_rfl) ?_
    intro KK hKK
    simp (maxSteps := 10000000) only [go_sem, l57_0, irows, irow, hl, hl2]
    subst hKK
    simp (maxSteps := 10000000) only [go_sem, irows, irow, hl, hl2]
    exact ⟨_, _, .done, rfl, rfl⟩
def pushW (next : Int) (l : List Itm) (s : List UInt8) : Int × List Itm := if roomW next l then (u32 (next + 1), l ++ [(next, s)]) else (next, l)
theorem u32_back {n : Int} (h : U32 n) : iwrap .u32 (iwrap .u32 (n + 1) - 1) = n := by rw [iwrap_u32, iwrap_u32]; unfold U32 at h; omega
theorem push_spec (next : Int) (l : List Itm) (s : List UInt8) (hn : U32 next) (hl : l.length ≤ 1000000) : Tri Try.prog 20 [.pbox 0 0, .str s] (outW next l)
    (fun v m => v = .tup [.int .u32 (if roomW next l then next else 0), .int .i64 (if roomW next l then 0 else 8)] ∧ m = outW2 (pushW next l s).1 (pushW next l s).2) := by
  refine Tri.post ?_
  skip
  refine (Tri.enter (rl := r20) (code := c20) (by kernel_rfl) Try.func20 rfl c20_ok (by kernel_rfl) (by kernel_rfl) ?_)
  refine run_ok 4000 _ _ _ _ ?_
  simp (maxSteps := 10000000) only [go_sem, c20, r20]
  refine sem_move 1 rfl ?_
  simp (maxSteps := 10000000) only [go_sem]
  refine sem_call rfl rfl (((room_spec next l).embed [0, 2] rfl (by repeat' first | exact trivial | rfl | (simp only [go_sem]; done) | constructor) rfl (by first | rfl | simp only [go_sem]) rfl (by simp)).mono ?_)
  rintro _ _ ⟨_, _, ⟨rfl, rfl⟩, rfl, rfl⟩
  refine run_ok 4000 _ _ _ _ ?_
  simp (maxSteps := 10000000) only [go_sem]
  cases hr : roomW next l with
  | false =>
    simp (maxSteps := 10000000) only [go_sem]
    refine ⟨_, _, .sub [0, 1, 2] ?_ .done, rfl, rfl⟩
    simp only [EmbV, go_sem]
    simp [pushW, hr]
  | true =>
    simp (maxSteps := 10000000) only [go_sem]
    refine sem_drawG l20_0_ok (by kernel_rfl) ?_
    intro KK hKK
    simp (maxSteps := 10000000) only [go_sem, l20_0]
    subst hKK
    simp (maxSteps := 10000000) only [go_sem]
    refine ⟨by unfold small; omega, _, _, .sub [0, 1, 3] ?_ .done, rfl, rfl⟩
    simp only [EmbV, go_sem, irow_one (next, s), u32_back hn]
    simp [pushW, hr, u32]
def jrow (p : Int × List UInt8) : List AV := [.int .i64 p.1, .str p.2]
def jrows (l : Ent) : List (List AV) := l.map jrow
theorem jrows_len (l : Ent) : (jrows l).length = l.length := by simp [jrows]
theorem jrows_app (l k : Ent) : jrows l ++ jrows k = jrows (l ++ k) := by simp [jrows]
theorem sub_jrows (l : Ent) : sub (jrows l) 0 l.length = jrows l := by have := sub_all (jrows l); rwa [jrows_len] at this
attribute [go_sem] jrows_len jrows_app sub_jrows
def drainR : Nat → Int → Ent → List (List UInt8) → Int × Ent × List (List UInt8)
  | 0, next, L, out => (next, L, out)
  | f + 1, next, L, out => match lkE L next with
    | none => (next, L, out)
    | some s => drainR f (next + 1) (delE L next) (out ++ [s])
def putR (next : Int) (L : Ent) (n : Int) (s : List UInt8) : (Int × Ent) × List (List UInt8) × Int :=
  if n < next then ((next, L), [], 11) else if n > next + 32 then ((next, L), [], 8) else if (lkE L n).isSome then ((next, L), [], 10) else
    (((drainR 40 next (L ++ [(n, s)]) []).1, (drainR 40 next (L ++ [(n, s)]) []).2.1), (drainR 40 next (L ++ [(n, s)]) []).2.2, 0)
def bitsR (next : Int) (L : Ent) : Nat → Nat
  | 0 => 0
  | k + 1 => if (lkE L (next + ((k + 1 : Nat) : Int))).isSome then bitsR next L k + 2 ^ k else bitsR next L k
theorem bitsR_lt (next : Int) (L : Ent) : ∀ k, bitsR next L k < 2 ^ k
  | 0 => by simp [bitsR]
  | k + 1 => by
    have := bitsR_lt next L k
    simp only [bitsR, Nat.pow_succ]
    split <;> omega
def kap (F N : Int) : Int := iwrap .u32 (F + iwrap .u32 (N - 1000))
theorem kap_eq (F N : Int) : kap F N = (F + (N - 1000)) % 4294967296 := by unfold kap; rw [iwrap_u32, iwrap_u32]; omega
theorem kap_inj {F a b : Int} (h : kap F a = kap F b) (h1 : a - b < 2147483648) (h2 : b - a < 2147483648) : a = b := by rw [kap_eq, kap_eq] at h; omega
theorem kap_next (F a : Int) : kap F (a + 1) = u32 (kap F a + 1) := by unfold u32; rw [kap_eq, kap_eq, iwrap_u32]; omega
theorem kap_add (F a k : Int) : kap F (a + k) = u32 (kap F a + k) := by unfold u32; rw [kap_eq, kap_eq, iwrap_u32]; omega
def mapK (F : Int) (L : Ent) : Ent := L.map fun p => (kap F p.1, p.2)
def Near (L : Ent) (k : Int) (d : Int) : Prop := ∀ p ∈ L, p.1 - k ≤ d ∧ k - p.1 ≤ d
theorem lk_map {F k d : Int} (hd : d < 2147483648) : ∀ {L : Ent}, Near L k d → lkE (mapK F L) (kap F k) = lkE L k
  | [], _ => rfl
  | p :: L, h => by
    have ih := lk_map (F := F) hd fun q hq => h q (List.mem_cons_of_mem _ hq)
    obtain ⟨h1, h2⟩ := h p (List.mem_cons_self ..)
    simp only [mapK, List.map_cons, lkE] at ih ⊢
    by_cases e : k = p.1
    · simp [e]
    · have : ¬ kap F k = kap F p.1 := fun e' => e (kap_inj e' (by omega) (by omega))
      simp only [e, this, if_false]; exact ih
theorem del_map {F k d : Int} (hd : d < 2147483648) : ∀ {L : Ent}, Near L k d → delE (mapK F L) (kap F k) = mapK F (delE L k)
  | [], _ => rfl
  | p :: L, h => by
    have ih := del_map (F := F) hd fun q hq => h q (List.mem_cons_of_mem _ hq)
    obtain ⟨h1, h2⟩ := h p (List.mem_cons_self ..)
    simp only [mapK, List.map_cons, delE] at ih ⊢
    by_cases e : k = p.1
    · simp [e]
    · have : ¬ kap F k = kap F p.1 := fun e' => e (kap_inj e' (by omega) (by omega))
      simp only [e, this, if_false, List.map_cons]; rw [ih]
theorem del_sub : ∀ {L : Ent} {k : Int} {p : Int × List UInt8}, p ∈ delE L k → p ∈ L
  | [], _, _, h => h
  | q :: L, k, p, h => by
    simp only [delE] at h
    split at h
    · exact List.mem_cons_of_mem _ h
    · rcases List.mem_cons.1 h with e | h
      · rw [e]; simp
      · exact List.mem_cons_of_mem _ (del_sub h)
theorem drain_map {F : Int} : ∀ (f : Nat) {nx : Int} {L : Ent} {o : List (List UInt8)}, Near L nx (2000 - f) → f ≤ 1000 → drain f (kap F nx) (mapK F L) o = (kap F (drainR f nx L o).1, mapK F (drainR f nx L o).2.1, (drainR f nx L o).2.2)
  | 0, _, _, _, _, _ => rfl
  | f + 1, nx, L, o, h, hf => by
    have e := lk_map (F := F) (d := 2000 - ((f + 1 : Nat) : Int)) (by omega) h
    simp only [drain, drainR, e]
    cases hl : lkE L nx with
    | none => rfl
    | some s =>
      simp only
      rw [del_map (d := 2000 - ((f + 1 : Nat) : Int)) (by omega) h, ← kap_next]
      exact drain_map f (fun p hp => by have := h p (del_sub hp); omega) (by omega)
theorem drainR_fuel : ∀ (n : Nat) {f g : Nat} {nx : Int} {L : Ent} {o : List (List UInt8)}, L.length ≤ n → n < f → n < g → drainR f nx L o = drainR g nx L o
  | n, f + 1, g + 1, nx, L, o, hl, hf, hg => by
    simp only [drainR]
    cases h : lkE L nx with
    | none => rfl
    | some s =>
      have := delE_len L nx (by rw [h]; rfl)
      cases n with
      | zero => omega
      | succ n => exact drainR_fuel n (by omega) (by omega) (by omega)
  | n, 0, _, _, _, _, _, hf, _ => by omega
  | n, _, 0, _, _, _, _, _, hg => by omega
theorem drain_fuel : ∀ (n : Nat) {f : Nat} {nx : Int} {L : Ent} {o : List (List UInt8)}, L.length ≤ n → n ≤ f → drain f nx L o = drain (f + 1) nx L o
  | n, 0, nx, L, o, hl, hf => by
    have : L = [] := List.eq_nil_of_length_eq_zero (by omega)
    subst this; rfl
  | n, f + 1, nx, L, o, hl, hf => by
    rw [drain, drain]
    cases h : lkE L nx with
    | none => rfl
    | some s =>
      have := delE_len L nx (by rw [h]; rfl)
      cases n with
      | zero => omega
      | succ n => exact drain_fuel n (by omega) (by omega)
structure WOk (nx : Int) (L : Ent) : Prop where
  lo : ∀ p ∈ L, nx < p.1
  hi : ∀ p ∈ L, p.1 ≤ nx + 32
  nd : (L.map (·.1)).Nodup
theorem pigeon : ∀ (n : Nat) (l : List Int) (a : Int), l.Nodup → (∀ x ∈ l, a < x ∧ x ≤ a + n) → l.length ≤ n
  | 0, l, a, _, h => by
    cases l with
    | nil => simp
    | cons x l => have := h x (by simp); omega
  | n + 1, l, a, hn, h => by
    have ih := pigeon n (l.erase (a + (n + 1 : Nat))) a (hn.erase _) fun x hx => by
      have h1 := (hn.mem_erase_iff).1 hx
      have := h x h1.2
      have := h1.1
      omega
    by_cases hm : a + ((n + 1 : Nat) : Int) ∈ l
    · rw [List.length_erase_of_mem hm] at ih; omega
    · rw [List.erase_of_not_mem hm] at ih; omega
theorem WOk.len {nx : Int} {L : Ent} (h : WOk nx L) : L.length ≤ 32 := by
  have := pigeon 32 (L.map (·.1)) nx h.nd fun x hx => by
    obtain ⟨p, hp, rfl⟩ := List.mem_map.1 hx
    have := h.lo p hp; have := h.hi p hp; omega
  simpa using this
theorem lk_none {k : Int} : ∀ {L : Ent}, lkE L k = none → ∀ p ∈ L, p.1 ≠ k
  | [], _, _, h => by cases h
  | q :: L, h, p, hp => by
    simp only [lkE] at h
    split at h
    · cases h
    · rename_i hk
      rcases List.mem_cons.1 hp with rfl | hp
      · exact fun e => hk e.symm
      · exact lk_none h p hp
theorem del_nd {k : Int} : ∀ {L : Ent}, (L.map (·.1)).Nodup → ((delE L k).map (·.1)).Nodup ∧ ∀ p ∈ delE L k, p.1 ≠ k ∨ lkE L k = none
  | [], _ => ⟨by simp [delE], fun p h => by cases h⟩
  | q :: L, h => by
    simp only [List.map_cons, List.nodup_cons] at h
    obtain ⟨h1, h2⟩ := h
    obtain ⟨g1, g2⟩ := del_nd (k := k) h2
    simp only [delE, lkE]
    by_cases e : k = q.1
    · simp only [e, if_true]
      refine ⟨h2, fun p hp => .inl fun e' => h1 ?_⟩
      rw [← e']; exact List.mem_map.2 ⟨p, hp, rfl⟩
    · simp only [e, if_false, List.map_cons, List.nodup_cons]
      refine ⟨⟨fun hm => h1 ?_, g1⟩, fun p hp => ?_⟩
      · obtain ⟨p, hp, he⟩ := List.mem_map.1 hm
        rw [← he]; exact List.mem_map.2 ⟨p, del_sub hp, rfl⟩
      · rcases List.mem_cons.1 hp with rfl | hp
        · exact .inl fun e' => e e'.symm
        · exact g2 p hp
theorem drainR_ok : ∀ (f : Nat) {nx nx0 : Int} {L : Ent} {o : List (List UInt8)}, L.length < f → (∀ p ∈ L, nx ≤ p.1 ∧ p.1 ≤ nx0 + 32) → nx0 ≤ nx → (L.map (·.1)).Nodup →
    WOk (drainR f nx L o).1 (drainR f nx L o).2.1 ∧ nx ≤ (drainR f nx L o).1 ∧ (drainR f nx L o).1 ≤ nx + f ∧ (drainR f nx L o).2.2.length ≤ o.length + L.length
  | 0, _, _, _, _, h, _, _, _ => by omega
  | f + 1, nx, nx0, L, o, hl, hk, h0, hn => by
    simp only [drainR]
    cases h : lkE L nx with
    | none =>
      simp only
      refine ⟨⟨fun p hp => ?_, fun p hp => ?_, hn⟩, by omega, by omega, by omega⟩
      · have := hk p hp; have := lk_none h p hp; omega
      · have := hk p hp; omega
    | some s =>
      simp only
      have hd := delE_len L nx (by rw [h]; rfl)
      obtain ⟨g1, g2⟩ := del_nd (k := nx) hn
      obtain ⟨r1, r2, r3, r4⟩ := drainR_ok f (nx := nx + 1) (nx0 := nx0) (L := delE L nx) (o := o ++ [s]) (by omega) (fun p hp => by
        have := hk p (del_sub hp)
        rcases g2 p hp with h' | h'
        · omega
        · rw [h] at h'; cases h') (by omega) g1
      refine ⟨r1, by omega, by omega, ?_⟩
      simp at r4; omega
theorem put_map {F nx n : Int} {L : Ent} {s : List UInt8} (hw : WOk nx L) (h1 : nx - 40 ≤ n) (h2 : n ≤ nx + 87) :
    putW (kap F nx) (mapK F L) (kap F n) s = ((kap F (putR nx L n s).1.1, mapK F (putR nx L n s).1.2), (putR nx L n s).2) ∧
    WOk (putR nx L n s).1.1 (putR nx L n s).1.2 ∧ nx ≤ (putR nx L n s).1.1 ∧ (putR nx L n s).1.1 ≤ nx + 40 ∧ (putR nx L n s).2.1.length ≤ 33 := by
  have hl := hw.len
  have hd : u32 (kap F n - kap F nx) = (n - nx) % 4294967296 := by unfold u32; rw [kap_eq, kap_eq, iwrap_u32]; omega
  have hnear : Near L n 200 := fun p hp => by have := hw.lo p hp; have := hw.hi p hp; omega
  unfold putW putR
  simp only [hd]
  by_cases c1 : n < nx
  · have : (n - nx) % 4294967296 ≥ 2147483648 := by omega
    simp only [this, c1, if_true]
    exact ⟨trivial, hw, by omega, by omega, by simp⟩
  · have e : (n - nx) % 4294967296 = n - nx := by omega
    have c1' : ¬ n - nx ≥ 2147483648 := by omega
    simp only [e, c1, c1', if_false]
    by_cases c2 : n > nx + 32
    · have : n - nx > 32 := by omega
      simp only [this, c2, if_true]
      exact ⟨trivial, hw, by omega, by omega, by simp⟩
    · have c2' : ¬ n - nx > 32 := by omega
      simp only [c2, c2', if_false, lk_map (F := F) (d := 200) (by omega) hnear]
      by_cases c3 : (lkE L n).isSome = true
      · simp only [c3, if_true]
        exact ⟨trivial, hw, by omega, by omega, by simp⟩
      · have c3' : (lkE L n).isSome = false := by simpa using c3
        have c4 : lkE L n = none := by cases h : lkE L n with | none => rfl | some x => rw [h] at c3; simp at c3
        simp only [c3', Bool.false_eq_true, if_false]
        have em : mapK F L ++ [(kap F n, s)] = mapK F (L ++ [(n, s)]) := by simp [mapK]
        have el : (mapK F L).length = L.length := by simp [mapK]
        have hnd : ((L ++ [(n, s)]).map (·.1)).Nodup := by
          rw [List.map_append, List.nodup_append]
          refine ⟨hw.nd, by simp, fun a ha b hb => ?_⟩
          simp at hb; subst hb
          obtain ⟨p, hp, rfl⟩ := List.mem_map.1 ha
          exact lk_none c4 p hp
        have hb : ∀ p ∈ L ++ [(n, s)], nx ≤ p.1 ∧ p.1 ≤ nx + 32 := by
          intro p hp
          rcases List.mem_append.1 hp with hp | hp
          · have := hw.lo p hp; have := hw.hi p hp; omega
          · simp at hp; subst hp; simp only; omega
        have hdm := drain_map (F := F) (L.length + 1) (nx := nx) (L := L ++ [(n, s)]) (o := []) (fun p hp => by have := hb p hp; omega) (by omega)
        have hfu := drainR_fuel 33 (f := 40) (g := 41) (nx := nx) (L := L ++ [(n, s)]) (o := []) (by simp; omega) (by omega) (by omega)
        obtain ⟨r1, r2, r3, r4⟩ := drainR_ok 40 (nx := nx) (nx0 := nx) (L := L ++ [(n, s)]) (o := []) (by simp; omega) hb (by omega) hnd
        rw [em, el]
        have hfu2 := drainR_fuel (L.length + 1) (f := L.length + 2) (g := 40) (nx := nx) (L := L ++ [(n, s)]) (o := []) (by simp) (by omega) (by omega)
        have hfu3 := drain_fuel (L.length + 1) (f := L.length + 1) (nx := kap F nx) (L := mapK F (L ++ [(n, s)])) (o := []) (by simp [mapK]) (Nat.le_refl _)
        have hdm2 := drain_map (F := F) (L.length + 2) (nx := nx) (L := L ++ [(n, s)]) (o := []) (fun p hp => by have := hb p hp; omega) (by omega)
        rw [hfu2] at hdm2
        rw [hfu3, hdm2]
        exact ⟨rfl, r1, r2, r3, by simp at r4; omega⟩
theorem bits_map {F nx : Int} {L : Ent} (hw : WOk nx L) : ∀ k, k ≤ 32 → bitsW (kap F nx) (mapK F L) k = bitsR nx L k
  | 0, _ => rfl
  | k + 1, h => by
    have ih := bits_map (F := F) hw k (by omega)
    simp only [bitsW, bitsR, ← kap_add, ih]
    rw [lk_map (F := F) (d := 200) (by omega) fun p hp => by have := hw.lo p hp; have := hw.hi p hp; omega]
abbrev uv (l : List Int) : List (List AV) := iv .u32 l
theorem uv_app (a b : List Int) : uv a ++ uv b = uv (a ++ b) := by simp [iv]
theorem uv_all (l : List Int) : sub (uv l) 0 l.length = uv l := by rw [iv_sub]; simp
theorem i_get {l : List Itm} {i : Nat} (h : i < l.length) : (irows l)[i]? = some (irow l[i]) := by simp [irows, h]
theorem i_hasI {l : List Itm} {i : Nat} (h : i < l.length) : hasI .u32 (irows l) i 0 := ⟨_, _, i_get h, rfl⟩
theorem i_hasS {l : List Itm} {i : Nat} (h : i < l.length) : hasS (irows l) i 1 := ⟨_, _, i_get h, rfl⟩
theorem i_rint {l : List Itm} {i : Nat} (h : i < l.length) : rint (irows l) i 0 = l[i].1 := by simp [rint, List.getD_eq_getElem?_getD, i_get h, irow]
theorem i_rstr {l : List Itm} {i : Nat} (h : i < l.length) : rstr (irows l) i 1 = l[i].2 := by simp [rstr, List.getD_eq_getElem?_getD, i_get h, irow]
def hitG (nx bits : Int) (G : List Int) (x : Itm) : List Int := if hasW nx bits x.1 then G ++ [x.1] else G
theorem hitW_spec (nx bits : Int) (x : Itm) (G : List Int) (hG : G.length ≤ 100000) : Tri Try.prog 61 [.agg (irow x), .pbox 0 0, .pbox 1 0] [.box [.int .u32 nx, .int .u32 bits], .box [.sl 2 0 G.length G.length false], .row 1 (uv G)]
    (fun v m => v = .bsym (hasW nx bits x.1) ∧ m = [.box [.int .u32 nx, .int .u32 bits], .box [.sl 3 0 (hitG nx bits G x).length (hitG nx bits G x).length false], .gone, .row 1 (uv (hitG nx bits G x))]) := by
  refine Tri.asS (Tri.post ?_)
  have hh := has_spec nx bits x.1
  unfold hitG
  skip
  refine (Tri.enter (rl := r61) (code := c61) (by kernel_rfl) Try.func61 rfl c61_ok (by kernel_rfl) (by kernel_rfl) ?_)
  refine run_ok 4000 _ _ _ _ ?_
  simp (maxSteps := 10000000) only [go_sem, c61, r61, irow]
  refine sem_move 2 rfl ?_
  simp (maxSteps := 10000000) only [go_sem, irow]
  cases hb : hasW nx bits x.1 with
  | true =>
    rw [hb] at hh
    have hone : [[AV.int .u32 x.1]] = uv [x.1] := rfl
    skip
    refine sem_call rfl rfl (((hh).embed [] rfl (by repeat' first | exact trivial | rfl | (simp only [go_sem]; done) | constructor) rfl (by first | rfl | simp only [go_sem]) rfl (by simp)).mono ?_)
    rintro _ _ ⟨_, _, ⟨rfl, rfl⟩, rfl, rfl⟩
    refine run_ok 4000 _ _ _ _ ?_
    simp (maxSteps := 10000000) only [go_sem, uv_all, iv_len]
    rw [hone, uv_app]
    refine ⟨by unfold small; omega, .bool true, _, .sub [0, 1, 2, 5] ?_ .done, rfl, rfl⟩
    simp only [EmbV, go_sem, if_true, List.length_append]
  | false =>
    rw [hb] at hh
    skip
    refine sem_call rfl rfl (((hh).embed [] rfl (by repeat' first | exact trivial | rfl | (simp only [go_sem]; done) | constructor) rfl (by first | rfl | simp only [go_sem]) rfl (by simp)).mono ?_)
    rintro _ _ ⟨_, _, ⟨rfl, rfl⟩, rfl, rfl⟩
    refine run_ok 4000 _ _ _ _ ?_
    simp (maxSteps := 10000000) only [go_sem]
    refine ⟨.bool false, _, .sub [0, 1, 2, 4] ?_ .done, rfl, rfl⟩
    simp only [EmbV, go_sem]
theorem windex_spec (nx bits : Int) (L : List Itm) (hL : L.length ≤ 100000) : Tri Try.prog 105 [.sl 0 0 L.length L.length false, .fn 61 [] [.pbox 1 0, .pbox 2 0]]
    [.row 2 (irows L), .box [.int .u32 nx, .int .u32 bits], .box [.sl 3 0 0 0 false], .row 1 []]
    (fun v m => v = .int .i64 (if L.any (fun x => hasW nx bits x.1) then ((L.findIdx (fun x => hasW nx bits x.1) : Nat) : Int) else -1) ∧
      m = [.row 2 (irows L), .box [.int .u32 nx, .int .u32 bits], .box [.sl 4 0 ((L.take (L.findIdx (fun x => hasW nx bits x.1) + 1)).filter (fun x => hasW nx bits x.1)).length ((L.take (L.findIdx (fun x => hasW nx bits x.1) + 1)).filter (fun x => hasW nx bits x.1)).length false], .gone,
        .row 1 (uv (((L.take (L.findIdx (fun x => hasW nx bits x.1) + 1)).filter (fun x => hasW nx bits x.1)).map (·.1)))]) := by
  refine Tri.post ?_
  refine (Tri.enter (rl := r105) (code := c105) (by kernel_rfl) Try.func105 rfl c105_ok (by kernel_rfl) (by kernel_rfl) ?_)
  refine run_ok 4000 _ _ _ _ ?_
  simp (maxSteps := 10000000) only [go_sem, c105, r105]
  refine sem_move 3 rfl ?_
  simp (maxSteps := 10000000) only [go_sem]
  refine sem_rounds (fun i => i ≤ L.length ∧ ∀ j, (h : j < i) → ∀ h2 : j < L.length, hasW nx bits L[j].1 = false)
    (fun i => [(0, .sl 0 0 L.length L.length false), (1, .fn 61 [] [.pbox 1 0, .pbox 2 0]), (7, .int .i64 L.length), (8, .int .i64 (i : Nat))])
    (fun i => [.row 2 (irows L), .box [.int .u32 nx, .int .u32 bits], .box [.sl 4 0 0 0 false], .gone, .row 1 []]) (fun i => L.length - i) 0 [0, 1, 2, 3, 4] ⟨by simp, by intro j h; omega⟩ ?_ ?_
  · simp only [Emb, go_sem]
  rintro i ⟨h1, h2⟩
  refine run_ok 4000 _ _ _ _ ?_
  simp (maxSteps := 10000000) only [go_sem]
  refine ⟨fun hlt => ?_, fun hge => ?_⟩
  · have hlt : i < L.length := by omega
    have hin : (i : Int) < (L.length : Int) := by omega
    have hcl := hitW_spec nx bits L[i] [] (by simp)
    skip
    cases hb : hasW nx bits L[i].1 with
    | true =>
      have e : hitG nx bits [] L[i] = [L[i].1] := by unfold hitG; rw [hb]; rfl
      rw [hb, e] at hcl
      unfold irow at hcl
      simp (maxSteps := 10000000) only [go_sem, i_hasI hlt, i_hasS hlt, i_rint hlt, i_rstr hlt, hin, Int.natCast_nonneg, inc64 (show i < 1000000000000 by omega)]
      refine sem_callv rfl rfl rfl (((hcl).embed [1, 2, 4] rfl (by repeat' first | exact trivial | rfl | (simp only [go_sem]; done) | constructor) rfl (by first | rfl | simp only [go_sem]) rfl (by simp)).mono ?_)
      rintro _ _ ⟨_, _, ⟨rfl, rfl⟩, rfl, rfl⟩
      refine run_ok 4000 _ _ _ _ ?_
      simp (maxSteps := 10000000) only [go_sem, i_hasI hlt, i_hasS hlt, i_rint hlt, i_rstr hlt, hin, Int.natCast_nonneg, inc64 (show i < 1000000000000 by omega)]
      have ha : L.any (fun x => hasW nx bits x.1) = true := by rw [List.any_eq_true]; exact ⟨L[i], List.getElem_mem hlt, hb⟩
      have hf : L.findIdx (fun x => hasW nx bits x.1) = i := by
        rw [List.findIdx_eq hlt]
        exact ⟨hb, fun j hj => h2 j hj (by omega)⟩
      have hpre : (L.take i).filter (fun x => hasW nx bits x.1) = [] := by
        rw [List.filter_eq_nil_iff]
        intro x hx
        obtain ⟨j, hj, rfl⟩ := List.getElem_of_mem hx
        rw [List.length_take] at hj
        rw [List.getElem_take, h2 j (by omega) (by omega)]; simp
      have hfl : (L.take (i + 1)).filter (fun x => hasW nx bits x.1) = [L[i]] := by
        rw [List.take_succ_eq_append_getElem hlt, List.filter_append, hpre]; simp [hb]
      rw [hf, hfl]
      refine ⟨_, _, .sub [0, 1, 2, 3, 5] ?_ .done, rfl, rfl⟩
      simp only [EmbV, go_sem, ha, if_true, List.length_cons, List.length_nil, List.map_cons, List.map_nil]
    | false =>
      have e : hitG nx bits [] L[i] = [] := by unfold hitG; rw [hb]; rfl
      rw [hb, e] at hcl
      unfold irow at hcl
      simp (maxSteps := 10000000) only [go_sem, i_hasI hlt, i_hasS hlt, i_rint hlt, i_rstr hlt, hin, Int.natCast_nonneg, inc64 (show i < 1000000000000 by omega)]
      refine sem_callv rfl rfl rfl (((hcl).embed [1, 2, 4] rfl (by repeat' first | exact trivial | rfl | (simp only [go_sem]; done) | constructor) rfl (by first | rfl | simp only [go_sem]) rfl (by simp)).mono ?_)
      rintro _ _ ⟨_, _, ⟨rfl, rfl⟩, rfl, rfl⟩
      refine run_ok 4000 _ _ _ _ ?_
      simp (maxSteps := 10000000) only [go_sem, i_hasI hlt, i_hasS hlt, i_rint hlt, i_rstr hlt, hin, Int.natCast_nonneg, inc64 (show i < 1000000000000 by omega)]
      refine ⟨i + 1, by omega, ⟨by omega, ?_⟩, [0, 1, 2, 3, 5], ?_⟩
      · intro j hj hj2
        by_cases e : j = i
        · subst e; exact hb
        · exact h2 j (by omega) hj2
      · simp only [Emb, go_sem, iv, List.map_nil]
  · have ha : L.any (fun x => hasW nx bits x.1) = false := by
      rw [List.any_eq_false]
      intro x hx
      obtain ⟨j, hj, rfl⟩ := List.getElem_of_mem hx
      rw [h2 j (by omega) hj]; simp
    have hfl : (L.take (L.findIdx (fun x => hasW nx bits x.1) + 1)).filter (fun x => hasW nx bits x.1) = [] := by
      rw [List.filter_eq_nil_iff]
      intro x hx
      rw [List.any_eq_false] at ha
      exact ha x (List.mem_of_mem_take hx)
    rw [hfl]
    skip
    refine run_ok 4000 _ _ _ _ ?_
    simp (maxSteps := 10000000) only [go_sem]
    refine ⟨_, _, .sub [0, 1, 2, 3, 4] ?_ .done, rfl, rfl⟩
    simp only [EmbV, go_sem, ha, List.length_nil, List.map_nil, iv]
theorem gfilt_yes {α : Type} {L : List α} {p : Nat} (hp : p < L.length) {H : α → Bool} (h : H L[p] = true) : (L.take (p + 1)).filter (fun x => !H x) = (L.take p).filter (fun x => !H x) ∧ (L.take (p + 1)).filter H = (L.take p).filter H ++ [L[p]] := by
  rw [List.take_succ_eq_append_getElem hp, List.filter_append, List.filter_append]
  simp [h]
theorem gfilt_no {α : Type} {L : List α} {p : Nat} (hp : p < L.length) {H : α → Bool} (h : H L[p] = false) : (L.take (p + 1)).filter (fun x => !H x) = (L.take p).filter (fun x => !H x) ++ [L[p]] ∧ (L.take (p + 1)).filter H = (L.take p).filter H := by
  rw [List.take_succ_eq_append_getElem hp, List.filter_append, List.filter_append]
  simp [h]
theorem gdrop_get {α : Type} {L M : List α} {j : Nat} (h : j < L.length) (hl : M.length = L.length) (hd : M.drop j = L.drop j) : M[j]'(by omega) = L[j] := by
  have h1 : M.drop j = M[j]'(by omega) :: M.drop (j + 1) := List.drop_eq_getElem_cons (by omega)
  have h2 : L.drop j = L[j] :: L.drop (j + 1) := List.drop_eq_getElem_cons h
  rw [h1, h2] at hd
  injection hd
theorem gdrop_next {α : Type} {L M : List α} {j : Nat} (hd : M.drop j = L.drop j) : M.drop (j + 1) = L.drop (j + 1) := by
  rw [← List.drop_drop, ← List.drop_drop, hd]
theorem i_inR0 {l : List Itm} {i : Nat} (h : i < l.length) : inR (irows l) i 0 2 := ⟨_, i_get h, by simp [irow]⟩
theorem i_rput0 {l : List Itm} {i : Nat} (h : i < l.length) (x : Itm) : rput (irows l) i 0 [.int .u32 x.1, .str x.2] = irows (l.set i x) := by
  unfold rput irows
  apply List.ext_getElem?
  intro j
  rw [List.getElem?_modify, List.getElem?_map, List.getElem?_map, List.getElem?_set]
  by_cases hj : i = j
  · subst hj; simp [h, irow]
  · simp [hj]
def toldW (nx bits : Int) (L : List Itm) : List Int := (L.filter fun x => hasW nx bits x.1).map (·.1)
def leftW (nx bits : Int) (L : List Itm) : List Itm := L.filter fun x => !hasW nx bits x.1
set_option maxHeartbeats 4000000 in
theorem wdelete_spec (nx bits : Int) (L : List Itm) (hL : L.length ≤ 10000) : Tri Try.prog 60 [.sl 0 0 L.length L.length false, .fn 61 [] [.pbox 1 0, .pbox 2 0]]
    [.row 2 (irows L), .box [.int .u32 nx, .int .u32 bits], .box [.sl 3 0 0 0 false], .row 1 []]
    (fun v m => v = .sl 0 0 (leftW nx bits L).length (leftW nx bits L).length false ∧
      m = [.row 2 (irows (leftW nx bits L)), .box [.int .u32 nx, .int .u32 bits], .box [.sl 4 0 (toldW nx bits L).length (toldW nx bits L).length false], .gone, .row 1 (uv (toldW nx bits L))]) := by
  refine Tri.post ?_
  have hx := windex_spec nx bits L (by omega)
  unfold leftW toldW
  by_cases ha : L.any (fun x => hasW nx bits x.1) = true
  case neg =>
    have ha : L.any (fun x => hasW nx bits x.1) = false := by simpa using ha
    have hf : (L.filter fun x => !hasW nx bits x.1) = L := by
      rw [List.filter_eq_self]; intro x hx; rw [List.any_eq_false] at ha; simpa using ha x hx
    have hf2 : (L.filter fun x => hasW nx bits x.1) = [] := by
      rw [List.filter_eq_nil_iff]; intro x hx; rw [List.any_eq_false] at ha; exact ha x hx
    have hfl : (L.take (L.findIdx (fun x => hasW nx bits x.1) + 1)).filter (fun x => hasW nx bits x.1) = [] := by
      rw [List.filter_eq_nil_iff]; intro x hx; rw [List.any_eq_false] at ha; exact ha x (List.mem_of_mem_take hx)
    rw [hf, hf2]
    rw [ha, hfl] at hx
    simp only [Bool.false_eq_true, if_false, List.length_nil, List.map_nil, iv] at hx
    refine (Tri.enter (rl := r60) (code := c60) (by kernel_rfl) Try.func60 rfl c60_ok (by kernel_rfl) (by kernel_rfl) ?_)
    refine run_ok 4000 _ _ _ _ ?_
    simp (maxSteps := 10000000) only [go_sem, c60, r60]
    refine sem_call rfl rfl (((hx).embed [0, 1, 2, 3] rfl (by repeat' first | exact trivial | rfl | (simp only [go_sem]; done) | constructor) rfl (by first | rfl | simp only [go_sem]) rfl (by simp)).mono ?_)
    rintro _ _ ⟨_, _, ⟨rfl, rfl⟩, rfl, rfl⟩
    refine run_ok 4000 _ _ _ _ ?_
    simp (maxSteps := 10000000) only [go_sem]
    refine ⟨_, _, .sub [0, 1, 2, 3, 4] ?_ .done, rfl, rfl⟩
    simp only [EmbV, go_sem, List.length_nil, List.map_nil, iv]
  rw [ha, if_pos rfl] at hx
  have hp : L.findIdx (fun x => hasW nx bits x.1) < L.length := by rw [List.findIdx_lt_length]; simpa using ha
  have hpre : (L.take (L.findIdx (fun x => hasW nx bits x.1))).filter (fun x => !hasW nx bits x.1) = L.take (L.findIdx (fun x => hasW nx bits x.1)) := by
    rw [List.filter_eq_self]
    intro x hx
    obtain ⟨j, hj, rfl⟩ := List.getElem_of_mem hx
    rw [List.length_take] at hj
    rw [List.getElem_take]
    have := List.not_of_lt_findIdx (xs := L) (p := fun x => hasW nx bits x.1) (i := j) (by omega)
    simp only [this]; rfl
  have hhit : hasW nx bits (L[L.findIdx (fun x => hasW nx bits x.1)]).1 = true := List.findIdx_getElem (xs := L) (p := fun x => hasW nx bits x.1) (w := hp)
  generalize L.findIdx (fun x => hasW nx bits x.1) = p at *
  have hne : ((p : Int) == (-1)) = false := by rw [beq_eq_false_iff_ne]; omega
  have hf0 := gfilt_yes (H := fun x : Itm => hasW nx bits x.1) hp hhit
  generalize hG0 : ((L.take (p + 1)).filter fun x => hasW nx bits x.1) = G0 at *
  have hml : G0.length = (G0.map (·.1)).length := by simp
  rw [hml] at hx
  obtain ⟨G1, hG1⟩ : ∃ G1, G1 = G0.map (·.1) := ⟨_, rfl⟩
  rw [← hG1] at hx
  skip
  refine (Tri.enter (rl := r60) (code := c60) (by kernel_rfl) Try.func60 rfl c60_ok (by kernel_rfl) (by kernel_rfl) ?_)
  refine run_ok 4000 _ _ _ _ ?_
  simp (maxSteps := 10000000) only [go_sem, c60, r60, hne, inc64 (show p < 1000000000000 by omega)]
  refine sem_call rfl rfl (((hx).embed [0, 1, 2, 3] rfl (by repeat' first | exact trivial | rfl | (simp only [go_sem]; done) | constructor) rfl (by first | rfl | simp only [go_sem]) rfl (by simp)).mono ?_)
  rintro _ _ ⟨_, _, ⟨rfl, rfl⟩, rfl, rfl⟩
  refine run_ok 4000 _ _ _ _ ?_
  simp (maxSteps := 10000000) only [go_sem, hne, inc64 (show p < 1000000000000 by omega)]
  refine sem_rounds (fun x : Nat × Nat × List Itm × List Int => x.1 ≤ L.length ∧ x.2.1 < x.1 ∧ x.2.2.1.length = L.length ∧ x.2.2.1.take x.2.1 = (L.take x.1).filter (fun x => !hasW nx bits x.1) ∧ x.2.2.1.drop x.1 = L.drop x.1 ∧ x.2.2.2 = ((L.take x.1).filter (fun x => hasW nx bits x.1)).map (·.1))
    (fun x => [(0, .sl 0 0 L.length L.length false), (1, .fn 61 [] [.pbox 1 0, .pbox 2 0]), (5, .int .i64 (x.2.1 : Nat)), (6, .int .i64 (x.1 : Nat))])
    (fun x => [.row 2 (irows x.2.2.1), .box [.int .u32 nx, .int .u32 bits], .box [.sl 4 0 x.2.2.2.length x.2.2.2.length false], .gone, .row 1 (uv x.2.2.2)]) (fun x => L.length - x.1) (p + 1, p, L, G1) [0, 1, 2, 3, 4]
    ⟨by simp only; omega, by simp only; omega, rfl, by simp only; rw [hf0.1, hpre], rfl, by simp only; rw [hG0, hG1]⟩ ?_ ?_
  · simp only [Emb, go_sem]
  rintro ⟨j, i, M, G⟩ ⟨h1, h2, h3, h4, h5, h6⟩
  simp only at h1 h2 h3 h4 h5 h6
  have hGl : G.length ≤ 10000 := by rw [h6, List.length_map]; have := List.length_filter_le (fun x : Itm => hasW nx bits x.1) (L.take j); rw [List.length_take] at this; omega
  refine run_ok 4000 _ _ _ _ ?_
  simp (maxSteps := 10000000) only [go_sem, hne, inc64 (show p < 1000000000000 by omega)]
  refine ⟨fun hlt => ?_, fun hge => ?_⟩
  · have hlt : j < L.length := by omega
    have hltM : j < M.length := by omega
    have hin : (j : Int) < (L.length : Int) := by omega
    have hii : (i : Int) < (L.length : Int) := by omega
    have hga := gdrop_get hlt h3 h5
    have hdn := gdrop_next h5
    have hcl := hitW_spec nx bits M[j] G (by omega)
    unfold irow at hcl
    skip
    simp (maxSteps := 10000000) only [go_sem, i_hasI hltM, i_hasS hltM, i_rint hltM, i_rstr hltM, hin, hii, Int.natCast_nonneg, inc64 (show j < 1000000000000 by omega), inc64 (show i < 1000000000000 by omega)]
    refine sem_callv rfl rfl rfl (((hcl).embed [1, 2, 4] rfl (by repeat' first | exact trivial | rfl | (simp only [go_sem]; done) | constructor) rfl (by first | rfl | simp only [go_sem]) rfl (by simp)).mono ?_)
    rintro _ _ ⟨_, _, ⟨rfl, rfl⟩, rfl, rfl⟩
    refine run_ok 4000 _ _ _ _ ?_
    simp (maxSteps := 10000000) only [go_sem, i_hasI hltM, i_hasS hltM, i_rint hltM, i_rstr hltM, hin, hii, Int.natCast_nonneg, inc64 (show j < 1000000000000 by omega), inc64 (show i < 1000000000000 by omega)]
    refine ⟨fun hh => ?_, fun hh => ?_⟩
    · have hh : hasW nx bits M[j].1 = false := by simpa using hh
      have hL : hasW nx bits L[j].1 = false := by rw [← hga]; exact hh
      have hiM : i < M.length := by omega
      have hf := gfilt_no (H := fun x : Itm => hasW nx bits x.1) hlt hL
      have hGn : hitG nx bits G M[j] = G := by unfold hitG; rw [hh]; rfl
      rw [hGn]
      refine ⟨i_inR0 hiM, (j + 1, i + 1, M.set i M[j], G), by simp only; omega, ⟨by simp only; omega, by simp only; omega, by simp only [List.length_set]; exact h3, ?_, ?_, ?_⟩, [0, 1, 2, 3, 6], ?_⟩
      · simp only
        rw [hf.1, ← h4, List.take_succ_eq_append_getElem (by rw [List.length_set]; exact hiM), List.getElem_set_self, hga, List.take_set_of_le (Nat.le_refl _)]
      · simp only
        rw [List.drop_set_of_lt (by omega)]; exact hdn
      · simp only
        rw [hf.2]; exact h6
      · rw [i_rput0 hiM]
        simp only [Emb, go_sem]
    · have hh : hasW nx bits M[j].1 = true := by simpa using hh
      have hL : hasW nx bits L[j].1 = true := by rw [← hga]; exact hh
      have hf := gfilt_yes (H := fun x : Itm => hasW nx bits x.1) hlt hL
      have hGn : hitG nx bits G M[j] = G ++ [M[j].1] := by unfold hitG; rw [hh]; rfl
      rw [hGn]
      refine ⟨(j + 1, i, M, G ++ [M[j].1]), by simp only; omega, ⟨by simp only; omega, by simp only; omega, h3, ?_, hdn, ?_⟩, [0, 1, 2, 3, 6], ?_⟩
      · simp only
        rw [hf.1]; exact h4
      · simp only
        rw [hf.2, List.map_append, ← h6, hga]; rfl
      · simp only [Emb, go_sem]
  · have hj : j = L.length := by omega
    subst hj
    rw [List.take_length] at h4 h6
    have hk : (L.filter fun x => !hasW nx bits x.1).length = i := by rw [← h4, List.length_take]; omega
    have hbk : (irows M).take i = irows (L.filter fun x => !hasW nx bits x.1) := by rw [← h4, irows, irows, List.map_take]
    have hbl : ((irows M).take i).length = i := by rw [List.length_take, irows_len]; omega
    have f1 : (i : Int) ≤ (L.length : Int) := by omega
    refine sem_tell 0 i rfl ?_
    skip
    skip
    refine run_ok 3 _ _ _ _ ?_
    simp (maxSteps := 10000000) only [go_sem, f1, Int.natCast_nonneg]
    skip
    refine sem_clrT rfl rfl rfl (by rw [hbl]; exact Nat.le_refl _) ?_
    skip
    refine run_ok 4000 _ _ _ _ ?_
    simp (maxSteps := 10000000) only [go_sem, f1, Int.natCast_nonneg, Nat.sub_zero]
    rw [← h6]
    refine ⟨_, _, .like Like.cap (.sub [0, 1, 2, 3, 4] ?_ .done), rfl, rfl⟩
    simp only [EmbV, go_sem, hk, hbk]
theorem wclone_spec (L : List Itm) (hL : L.length ≤ 100000) : Tri Try.prog 58 [.sl 0 0 L.length L.length false] [.row 2 (irows L)] (fun v m => v = .sl 1 0 L.length L.length false ∧ m = [.row 2 (irows L), .row 2 (irows L)]) := by
  refine Tri.post ?_
  refine (Tri.enter (rl := r58) (code := c58) (by kernel_rfl) Try.func58 rfl c58_ok (by kernel_rfl) (by kernel_rfl) ?_)
  refine run_ok 4000 _ _ _ _ ?_
  simp (maxSteps := 10000000) only [go_sem, c58, r58]
  refine sem_eqn rfl rfl rfl fun b hb => ?_
  cases b with
  | false =>
    skip
    refine run_ok 4000 _ _ _ _ ?_
    simp (maxSteps := 10000000) only [go_sem, sub_irows]
    refine ⟨by unfold small; omega, _, _, .sub [0, 1] ?_ .done, rfl, rfl⟩
    simp only [EmbV, go_sem]
  | true =>
    have h0 : L.length = 0 := by
      by_cases h : L.length = 0
      · exact h
      · exact absurd (hb h) (by simp)
    have : L = [] := List.length_eq_zero_iff.1 h0
    subst this
    skip
    refine run_ok 2 _ _ _ _ ?_
    simp (maxSteps := 10000000) only [go_sem, sub_irows]
    skip
    refine sem_virt 2 2 rfl ?_
    refine run_ok 4000 _ _ _ _ ?_
    simp (maxSteps := 10000000) only [go_sem, sub_irows]
    refine ⟨_, _, .sub [0, 1] ?_ .done, rfl, rfl⟩
    simp only [EmbV, go_sem, irows, List.map_nil]
theorem all_spec (next : Int) (l : List Itm) (hl : l.length ≤ 100000) : Tri Try.prog 22 [.pbox 0 0] (outW next l) (fun v m => v = .vsl 2 (irows l) false ∧ m = outW next l) := by
  refine Tri.post ?_
  have hc := wclone_spec l hl
  refine (Tri.enter (rl := r22) (code := c22) (by kernel_rfl) Try.func22 rfl c22_ok (by kernel_rfl) (by kernel_rfl) ?_)
  refine run_ok 4000 _ _ _ _ ?_
  simp (maxSteps := 10000000) only [go_sem, c22, r22]
  refine sem_call rfl rfl (((hc).embed [1] rfl (by repeat' first | exact trivial | rfl | (simp only [go_sem]; done) | constructor) rfl (by first | rfl | simp only [go_sem]) rfl (by simp)).mono ?_)
  rintro _ _ ⟨_, _, ⟨rfl, rfl⟩, rfl, rfl⟩
  refine run_ok 4000 _ _ _ _ ?_
  simp (maxSteps := 10000000) only [go_sem]
  refine ⟨_, _, .fz 2 rfl (by simp only [go_sem, Nat.le_refl]) (.sub [0, 1] ?_ .done), rfl, rfl⟩
  simp only [EmbV, go_sem]
theorem oack_spec (next : Int) (l : List Itm) (nx bits : Int) (hl : l.length ≤ 10000) (hn : ¬ u32 (next - nx) ≥ 2147483648) :
    Tri Try.prog 26 [.pbox 0 0, .agg [.int .u32 nx, .int .u32 bits]] (outW next l)
      (fun v m => v = .vsl 1 (uv (toldW nx bits l)) false ∧ m = outW2 next (leftW nx bits l)) := by
  refine Tri.post ?_
  have hc := wclone_spec l (by omega)
  have hd := wdelete_spec nx bits l hl
  unfold u32 at hn
  generalize toldW nx bits l = T at *
  generalize leftW nx bits l = K at *
  skip
  refine (Tri.enter (rl := r26) (code := c26) (by kernel_rfl) Try.func26 rfl c26_ok (by kernel_rfl) (by kernel_rfl) ?_)
  refine run_ok 4000 _ _ _ _ ?_
  simp (maxSteps := 10000000) only [go_sem, c26, r26, hn]
  refine sem_drawG l26_0_ok (by kernel_rfl) ?_
  intro KK hKK
  simp (maxSteps := 10000000) only [go_sem, l26_0, hn]
  subst hKK
  simp (maxSteps := 10000000) only [go_sem, hn]
  refine sem_nilbox 3 0 1 rfl rfl ?_
  refine sem_move 1 rfl ?_
  refine run_ok 4000 _ _ _ _ ?_
  simp (maxSteps := 10000000) only [go_sem, hn]
  refine sem_call rfl rfl (((hc).embed [5] rfl (by repeat' first | exact trivial | rfl | (simp only [go_sem]; done) | constructor) rfl (by first | rfl | simp only [go_sem]) rfl (by simp)).mono ?_)
  rintro _ _ ⟨_, _, ⟨rfl, rfl⟩, rfl, rfl⟩
  refine run_ok 4000 _ _ _ _ ?_
  simp (maxSteps := 10000000) only [go_sem, hn]
  refine sem_call rfl rfl (((hd).embed [6, 2, 3, 4] rfl (by repeat' first | exact trivial | rfl | (simp only [go_sem]; done) | constructor) rfl (by first | rfl | simp only [go_sem]) rfl (by simp)).mono ?_)
  rintro _ _ ⟨_, _, ⟨rfl, rfl⟩, rfl, rfl⟩
  refine run_ok 4000 _ _ _ _ ?_
  simp (maxSteps := 10000000) only [go_sem, hn]
  refine ⟨_, _, .fz 7 rfl (by simp only [go_sem, iv_len, Nat.le_refl]) (.sub [0, 1, 6] ?_ .done), rfl, rfl⟩
  simp only [EmbV, go_sem, uv_all]
def hasR (next : Int) (b : Nat) (n : Int) : Bool :=
  if n < next then true else if n - next - 1 < 0 ∨ n - next - 1 > 31 then false else (b / 2 ^ (n - next - 1).toNat) % 2 == 1
def toldR (nx : Int) (b : Nat) (L : Ent) : List Int := (L.filter fun x => hasR nx b x.1).map (·.1)
def leftR (nx : Int) (b : Nat) (L : Ent) : Ent := L.filter fun x => !hasR nx b x.1
theorem shr_u32n (b k : Nat) (hk : k ≤ 31) : ishr .u32 (b : Int) (k : Int) = ((b / 2 ^ k : Nat) : Int) := by
  show (b : Int).fdiv (2 ^ min (Int.toNat (k : Int)) 32) = _
  rw [Int.toNat_natCast, Nat.min_eq_left (by omega), Int.fdiv_eq_ediv_of_nonneg _ (by exact_mod_cast Nat.zero_le _)]
  norm_cast
theorem and1_u32 (n : Nat) (h : n < 4294967296) : ibits .and .u32 (n : Int) 1 = ((n % 2 : Nat) : Int) := by
  show iwrap .u32 ((BitVec.ofInt 32 (n : Int) &&& BitVec.ofInt 32 ((1 : Nat) : Int)).toNat : Int) = _
  rw [BitVec.ofInt_natCast, BitVec.ofInt_natCast, BitVec.toNat_and, BitVec.toNat_ofNat, BitVec.toNat_ofNat, Nat.mod_eq_of_lt (show n < 2 ^ 32 by omega), Nat.mod_eq_of_lt (show 1 < 2 ^ 32 by omega), Nat.and_one_is_mod, iwrap_u32]
  omega
theorem has_map (F nx n : Int) (b : Nat) (hb : b < 4294967296) (h1 : n - nx < 1000000) (h2 : nx - n < 1000000) : hasW (kap F nx) (b : Int) (kap F n) = hasR nx b n := by
  have hd : iwrap .u32 (kap F n - kap F nx) = (n - nx) % 4294967296 := by rw [kap_eq, kap_eq, iwrap_u32]; omega
  unfold hasW hasR
  simp only [u32, hd]
  by_cases c0 : n < nx
  · rw [if_pos c0]
    have : (n - nx) % 4294967296 ≥ 2147483648 := by omega
    simp [this]
  rw [if_neg c0]
  have c1 : ¬ (n - nx) % 4294967296 ≥ 2147483648 := by omega
  by_cases c2 : n - nx - 1 < 0 ∨ n - nx - 1 > 31
  · rw [if_pos c2]
    rcases c2 with c2 | c2
    · have d1 : ¬ (n - nx) % 4294967296 ≥ 1 := by omega
      simp only [c1, d1, decide_false, Bool.false_or, Bool.false_and]
    · have d2 : ¬ (n - nx) % 4294967296 ≤ 32 := by omega
      simp only [c1, d2, decide_false, Bool.false_or, Bool.false_and, Bool.and_false]
  · rw [if_neg c2]
    obtain ⟨k, hk⟩ : ∃ k : Nat, n - nx - 1 = (k : Int) := ⟨(n - nx - 1).toNat, by omega⟩
    have hkn : (n - nx - 1).toNat = k := by omega
    have hw : iwrap .u32 ((n - nx) % 4294967296 - 1) = (k : Int) := by rw [iwrap_u32]; omega
    have hle : b / 2 ^ k ≤ b := Nat.div_le_self _ _
    have hs := shr_u32n b k (by omega)
    have ha := and1_u32 (b / 2 ^ k) (by omega)
    rw [hkn]
    have d1 : (n - nx) % 4294967296 ≥ 1 := by omega
    have d2 : (n - nx) % 4294967296 ≤ 32 := by omega
    rw [hw, hs, ha]
    simp only [c1, d1, d2, decide_false, decide_true, Bool.false_or, Bool.true_and]
    generalize b / 2 ^ k = q at *
    rw [Bool.eq_iff_iff]; simp; omega
theorem told_map (F nx : Int) (b : Nat) (hb : b < 4294967296) : ∀ {L : Ent}, (∀ p ∈ L, p.1 - nx < 1000000 ∧ nx - p.1 < 1000000) → toldW (kap F nx) b (mapK F L) = (toldR nx b L).map (kap F) ∧ leftW (kap F nx) b (mapK F L) = mapK F (leftR nx b L)
  | [], _ => ⟨rfl, rfl⟩
  | p :: L, h => by
    obtain ⟨i1, i2⟩ := told_map F nx b hb (L := L) (fun q hq => h q (by simp [hq]))
    have hp := h p (by simp)
    have hh := has_map F nx p.1 b hb hp.1 hp.2
    unfold toldW leftW toldR leftR mapK at *
    simp only [List.map_cons, List.filter_cons, hh]
    cases hasR nx b p.1 with
    | true => simp only [if_true, Bool.not_true, Bool.false_eq_true, if_false, List.map_cons, i1, i2, and_self]
    | false => simp only [Bool.not_false, if_true, Bool.false_eq_true, if_false, List.map_cons, i1, i2, and_self]
structure OOk (i : Nat) (N : Int) (L : Ent) : Prop where
  lo : 1000 ≤ N
  hi : N ≤ 1000 + i
  sorted : L.Pairwise (fun a b => a.1 < b.1)
  near : ∀ p ∈ L, N - 32 ≤ p.1 ∧ p.1 < N
  low : ∀ p ∈ L, 1000 ≤ p.1
theorem OOk.len {i : Nat} {N : Int} {L : Ent} (h : OOk i N L) : L.length ≤ 32 := by
  have hnd : (L.map (·.1)).Nodup := by
    rw [List.nodup_iff_pairwise_ne, List.pairwise_map]
    exact h.sorted.imp fun hab => by omega
  have := pigeon 32 (L.map (·.1)) (N - 33) hnd (fun x hx => by
    obtain ⟨p, hp, rfl⟩ := List.mem_map.1 hx
    have := h.near p hp
    omega)
  rwa [List.length_map] at this
theorem OOk.more {i : Nat} {N : Int} {L : Ent} (h : OOk i N L) : OOk (i + 1) N L := ⟨h.lo, by have := h.hi; omega, h.sorted, h.near, h.low⟩
theorem OOk.push {i : Nat} {N : Int} {L : Ent} (h : OOk i N L) (s : List UInt8) (hr : ∀ p ∈ L, N - p.1 < 32) : OOk (i + 1) (N + 1) (L ++ [(N, s)]) where
  lo := by have := h.lo; omega
  hi := by have := h.hi; omega
  sorted := by
    rw [List.pairwise_append]
    refine ⟨h.sorted, by simp, fun a ha b hb => ?_⟩
    simp at hb; subst hb
    exact (h.near a ha).2
  near := fun p hp => by
    rcases List.mem_append.1 hp with hp | hp
    · have := h.near p hp; have := hr p hp; omega
    · simp at hp; subst hp; simp only; omega
  low := fun p hp => by
    rcases List.mem_append.1 hp with hp | hp
    · exact h.low p hp
    · simp at hp; subst hp; exact h.lo
theorem OOk.sub {i : Nat} {N : Int} {L : Ent} (h : OOk i N L) (nx : Int) (b : Nat) : OOk (i + 1) N (leftR nx b L) where
  lo := h.lo
  hi := by have := h.hi; omega
  sorted := h.sorted.filter _
  near := fun p hp => h.near p (List.mem_filter.1 hp).1
  low := fun p hp => h.low p (List.mem_filter.1 hp).1
theorem OOk.first {i : Nat} {N : Int} {p : Int × List UInt8} {L : Ent} (h : OOk i N (p :: L)) : ∀ q ∈ p :: L, p.1 ≤ q.1 := fun q hq => by
  rcases List.mem_cons.1 hq with rfl | hq
  · exact Int.le_refl _
  · have := (List.pairwise_cons.1 h.sorted).1 q hq; omega
theorem room_map (F : Int) {i : Nat} {N : Int} {p : Int × List UInt8} {L : Ent} (h : OOk i N (p :: L)) : roomW (kap F N) (mapK F (p :: L)) = decide (N - p.1 < 32) := by
  have hn := h.near p (by simp)
  have : iwrap .u32 (kap F N - kap F p.1) = N - p.1 := by rw [kap_eq, kap_eq, iwrap_u32]; omega
  show decide (iwrap .u32 (kap F N - kap F p.1) < 32) = _
  simp only [this]
theorem lk_some {k : Int} : ∀ {L : Ent}, (lkE L k).isSome = true → ∃ p ∈ L, p.1 = k
  | [], h => by simp [lkE] at h
  | p :: L, h => by
    by_cases e : p.1 = k
    · exact ⟨p, by simp, e⟩
    · have : lkE (p :: L) k = lkE L k := by
        obtain ⟨a, b⟩ := p
        simp only [lkE] at e ⊢
        have e' : ¬ k = a := fun h => e h.symm
        simp [e']
      rw [this] at h
      obtain ⟨q, hq, he⟩ := lk_some h
      exact ⟨q, by simp [hq], he⟩
theorem lk_val {k : Int} {s : List UInt8} : ∀ {L : Ent}, lkE L k = some s → (k, s) ∈ L
  | [], h => by simp [lkE] at h
  | (a, b) :: L, h => by
    by_cases e : a = k
    · subst e
      simp [lkE] at h
      subst h
      simp
    · have e' : ¬ k = a := fun h => e h.symm
      have : lkE ((a, b) :: L) k = lkE L k := by simp [lkE, e']
      rw [this] at h
      have := lk_val h
      simp [this]
theorem lk_mem {k : Int} : ∀ {L : Ent}, (∃ p ∈ L, p.1 = k) → (lkE L k).isSome = true := by
  intro L h
  obtain ⟨p, hp, he⟩ := h
  cases hl : lkE L k with
  | none => exact absurd he (lk_none hl p hp)
  | some s => rfl
theorem del_mem {k : Int} : ∀ {L : Ent} {p : Int × List UInt8}, p ∈ L → p.1 ≠ k → p ∈ delE L k
  | [], p, h, _ => by simp at h
  | (a, b) :: L, p, h, hk => by
    by_cases e : a = k
    · subst e
      rcases List.mem_cons.1 h with rfl | h
      · exact absurd rfl hk
      · simpa [delE] using h
    · have e' : ¬ k = a := fun h => e h.symm
      have : delE ((a, b) :: L) k = (a, b) :: delE L k := by simp [delE, e']
      rw [this]
      rcases List.mem_cons.1 h with rfl | h
      · simp
      · exact List.mem_cons_of_mem _ (del_mem h hk)
theorem bitsR_bit (nx : Int) (L : Ent) : ∀ (k j : Nat), j < k → ((bitsR nx L k / 2 ^ j) % 2 = 1 ↔ (lkE L (nx + (j : Int) + 1)).isSome = true)
  | 0, j, h => by omega
  | k + 1, j, h => by
    have hlt := bitsR_lt nx L k
    have ec : nx + ((k + 1 : Nat) : Int) = nx + (k : Int) + 1 := by omega
    simp only [bitsR, ec]
    by_cases e : j = k
    · subst e
      have h0 : bitsR nx L j / 2 ^ j = 0 := Nat.div_eq_of_lt hlt
      split
      · rename_i hs
        rw [Nat.add_div_right _ (Nat.two_pow_pos j), h0]
        simp [hs]
      · rename_i hs
        rw [h0]; simp [hs]
    · have ih := bitsR_bit nx L k j (by omega)
      split
      · have : (bitsR nx L k + 2 ^ k) / 2 ^ j = bitsR nx L k / 2 ^ j + 2 * 2 ^ (k - j - 1) := by
          have e2 : 2 ^ k = (2 * 2 ^ (k - j - 1)) * 2 ^ j := by
            rw [Nat.mul_comm 2, ← Nat.pow_succ, ← Nat.pow_add]; congr 1; omega
          rw [e2, Nat.add_mul_div_right _ _ (Nat.two_pow_pos j)]
        rw [this, Nat.add_mul_mod_self_left]
        exact ih
      · exact ih
def tx (n : Int) : List UInt8 := [UInt8.ofNat (n - 1000).toNat]
structure Car (n : Nat) (N : Int) (L : Ent) (M : Int) (K : Ent) : Prop where
  o : ∃ i, OOk i N L
  w : WOk M K
  lo : 1000 ≤ M
  le : M ≤ N
  top : N ≤ 1000 + n
  tl : ∀ p ∈ L, p.2 = tx p.1
  tk : ∀ p ∈ K, p.2 = tx p.1 ∧ p.1 < N
  miss : ∀ x, M ≤ x → x < N → (∃ p ∈ L, p.1 = x) ∨ (∃ p ∈ K, p.1 = x)
theorem Car.near {n : Nat} {N : Int} {L : Ent} {M : Int} {K : Ent} (h : Car n N L M K) : N ≤ M + 32 := by
  obtain ⟨i, ho⟩ := h.o
  have hle := h.le
  by_cases e : M = N
  · omega
  · rcases h.miss M (Int.le_refl _) (by omega) with ⟨p, hp, he⟩ | ⟨p, hp, he⟩
    · have := ho.near p hp; omega
    · have := h.w.lo p hp; omega
theorem Car.begin (n : Nat) : Car n 1000 [] 1000 [] where
  o := ⟨0, ⟨by simp, by simp, by simp, by simp, by simp⟩⟩
  w := ⟨by simp, by simp, by simp⟩
  lo := by omega
  le := by omega
  top := by omega
  tl := by simp
  tk := by simp
  miss := fun x h1 h2 => by omega
theorem Car.push {n : Nat} {N : Int} {L : Ent} {M : Int} {K : Ent} (h : Car n N L M K) (hr : ∀ p ∈ L, N - p.1 < 32) (hn : N < 1000 + n) : Car n (N + 1) (L ++ [(N, tx N)]) M K where
  o := by obtain ⟨i, ho⟩ := h.o; exact ⟨i + 1, ho.push _ hr⟩
  w := h.w
  lo := h.lo
  le := by have := h.le; omega
  top := by omega
  tl := fun p hp => by
    rcases List.mem_append.1 hp with hp | hp
    · exact h.tl p hp
    · simp at hp; subst hp; rfl
  tk := fun p hp => ⟨(h.tk p hp).1, by have := (h.tk p hp).2; omega⟩
  miss := fun x h1 h2 => by
    by_cases e : x = N
    · exact .inl ⟨(N, tx N), by simp, e.symm⟩
    · rcases h.miss x h1 (by omega) with ⟨p, hp, he⟩ | hk
      · exact .inl ⟨p, by simp [hp], he⟩
      · exact .inr hk
theorem drain_car : ∀ (f : Nat) {nx : Int} {K : Ent} {o : List (List UInt8)}, (∀ p ∈ K, p.2 = tx p.1) →
    ∃ g : Nat, (drainR f nx K o).1 = nx + g ∧ (drainR f nx K o).2.2 = o ++ (List.range g).map (fun j : Nat => tx (nx + (j : Int))) ∧ (∀ p ∈ (drainR f nx K o).2.1, p ∈ K) ∧
      (∀ p ∈ K, p ∈ (drainR f nx K o).2.1 ∨ (nx ≤ p.1 ∧ p.1 < nx + g)) ∧ (∀ j : Nat, j < g → ∃ p ∈ K, p.1 = nx + j)
  | 0, nx, K, o, _ => ⟨0, by simp [drainR], by simp [drainR], by simp [drainR], fun p hp => .inl (by simpa [drainR] using hp), by omega⟩
  | f + 1, nx, K, o, hk => by
    simp only [drainR]
    cases h : lkE K nx with
    | none => exact ⟨0, by simp, by simp, by simp, fun p hp => .inl (by simpa using hp), by omega⟩
    | some s =>
      simp only
      have hs : s = tx nx := hk _ (lk_val h)
      obtain ⟨g, g1, g2, g3, g4, g5⟩ := drain_car f (nx := nx + 1) (K := delE K nx) (o := o ++ [s]) fun p hp => hk p (del_sub hp)
      refine ⟨g + 1, by rw [g1]; omega, ?_, fun p hp => del_sub (g3 p hp), fun p hp => ?_, fun j hj => ?_⟩
      · rw [g2, List.range_succ_eq_map, List.map_cons, List.map_map, hs, List.append_assoc]
        congr 1
        simp only [List.singleton_append]
        congr 1
        · simp
        · apply List.map_congr_left
          intro j _
          simp only [Function.comp]
          congr 1
          omega
      · by_cases e : p.1 = nx
        · exact .inr (by omega)
        · rcases g4 p (del_mem hp e) with h' | h'
          · exact .inl h'
          · exact .inr (by omega)
      · cases j with
        | zero => exact ⟨(nx, s), lk_val h, by simp⟩
        | succ j =>
          obtain ⟨p, hp, he⟩ := g5 j (by omega)
          exact ⟨p, del_sub hp, by omega⟩
theorem Car.put {n : Nat} {N : Int} {L : Ent} {M : Int} {K : Ent} (h : Car n N L M K) {x : Int} (hx : ∃ p ∈ L, p.1 = x) :
    M - 40 ≤ x ∧ x ≤ M + 87 ∧ ∃ (g : Nat) (K' : Ent), (putR M K x (tx x)).1 = (M + g, K') ∧ (putR M K x (tx x)).2.1 = (List.range g).map (fun j : Nat => tx (M + (j : Int))) ∧ Car n N L (M + g) K' ∧
      (∀ y, (y < M ∨ ∃ p ∈ K, p.1 = y) → (y < M + g ∨ ∃ p ∈ K', p.1 = y)) ∧ (x < M + g ∨ ∃ p ∈ K', p.1 = x) := by
  obtain ⟨i, ho⟩ := h.o
  have hnr := h.near
  have hle := h.le
  obtain ⟨q, hq, hqx⟩ := hx
  have hqn := ho.near q hq
  have b1 : M - 40 ≤ x := by omega
  have b2 : x ≤ M + 87 := by omega
  refine ⟨b1, b2, ?_⟩
  obtain ⟨_, hw', _⟩ := put_map (F := 0) (s := tx x) h.w b1 b2
  unfold putR at hw' ⊢
  by_cases c1 : x < M
  · refine ⟨0, K, ?_, ?_, ?_, ?_, ?_⟩ <;> (try simp only [c1, if_true])
    · simp
    · simp
    · simpa using h
    · intro y hy; simpa using hy
    · exact .inl (by omega)
  · by_cases c2 : x > M + 32
    · omega
    · by_cases c3 : (lkE K x).isSome = true
      · refine ⟨0, K, ?_, ?_, ?_, ?_, ?_⟩ <;> (try simp only [c1, c2, c3, if_true, if_false])
        · simp
        · simp
        · simpa using h
        · intro y hy; simpa using hy
        · exact .inr (lk_some c3)
      · simp only [c1, c2, c3, if_false, Bool.false_eq_true] at hw' ⊢
        obtain ⟨g, g1, g2, g3, g4, g5⟩ := drain_car 40 (nx := M) (K := K ++ [(x, tx x)]) (o := []) (fun p hp => by
          rcases List.mem_append.1 hp with hp | hp
          · exact (h.tk p hp).1
          · simp at hp; subst hp; rfl)
        have hall : ∀ p ∈ K ++ [(x, tx x)], p.2 = tx p.1 ∧ p.1 < N := fun p hp => by
          rcases List.mem_append.1 hp with hp | hp
          · exact h.tk p hp
          · simp at hp; subst hp; exact ⟨rfl, by simp only; omega⟩
        rw [g1] at hw'
        refine ⟨g, (drainR 40 M (K ++ [(x, tx x)]) []).2.1, by rw [g1], by rw [g2]; simp, ?_, ?_, ?_⟩
        · refine ⟨h.o, hw', by have := h.lo; omega, ?_, h.top, h.tl, fun p hp => hall p (g3 p hp), fun y h1 h2 => ?_⟩
          · cases g with
            | zero => simpa using hle
            | succ g =>
              obtain ⟨p, hp, he⟩ := g5 g (by omega)
              have := (hall p hp).2
              omega
          · rcases h.miss y (by omega) h2 with hl | ⟨p, hp, he⟩
            · exact .inl hl
            · rcases g4 p (by simp [hp]) with h' | h'
              · exact .inr ⟨p, h', he⟩
              · omega
        · intro y hy
          rcases hy with hy | ⟨p, hp, he⟩
          · exact .inl (by omega)
          · rcases g4 p (by simp [hp]) with h' | h'
            · exact .inr ⟨p, h', he⟩
            · exact .inl (by omega)
        · rcases g4 (x, tx x) (by simp) with h' | h'
          · exact .inr ⟨_, h', rfl⟩
          · exact .inl h'.2
theorem hasR_iff (M : Int) (K : Ent) (hw : WOk M K) (x : Int) (hx : x ≤ M + 32) : hasR M (bitsR M K 32) x = true ↔ (x < M ∨ ∃ p ∈ K, p.1 = x) := by
  unfold hasR
  by_cases c1 : x < M
  · simp [c1]
  · rw [if_neg c1]
    by_cases c2 : x - M - 1 < 0 ∨ x - M - 1 > 31
    · rw [if_pos c2]
      simp only [Bool.false_eq_true, false_iff, not_or]
      refine ⟨c1, fun ⟨p, hp, he⟩ => ?_⟩
      have := hw.lo p hp
      omega
    · rw [if_neg c2]
      have hb := bitsR_bit M K 32 (x - M - 1).toNat (by omega)
      rw [show M + ((x - M - 1).toNat : Int) + 1 = x by omega] at hb
      rw [beq_iff_eq, hb]
      exact ⟨fun h => .inr (lk_some h), fun h => by
        rcases h with h | h
        · exact absurd h c1
        · exact lk_mem h⟩
theorem Car.ack {n : Nat} {N : Int} {L : Ent} {M : Int} {K : Ent} (h : Car n N L M K) : Car n N (leftR M (bitsR M K 32) L) M K where
  o := by obtain ⟨i, ho⟩ := h.o; exact ⟨i + 1, ho.sub _ _⟩
  w := h.w
  lo := h.lo
  le := h.le
  top := h.top
  tl := fun p hp => h.tl p (List.mem_filter.1 hp).1
  tk := h.tk
  miss := fun x h1 h2 => by
    have hnr := h.near
    rcases h.miss x h1 h2 with ⟨p, hp, he⟩ | hk
    · by_cases c : hasR M (bitsR M K 32) p.1 = true
      · rcases (hasR_iff M K h.w p.1 (by omega)).1 c with h' | ⟨q, hq, hqe⟩
        · omega
        · exact .inr ⟨q, hq, by omega⟩
      · exact .inl ⟨p, List.mem_filter.2 ⟨hp, by simpa using c⟩, he⟩
    · exact .inr hk
theorem Car.all {n : Nat} {N : Int} {L : Ent} {M : Int} {K : Ent} (h : Car n N L M K) (hc : ∀ p ∈ L, p.1 < M ∨ ∃ q ∈ K, q.1 = p.1) : M = N ∧ K = [] ∧ leftR M (bitsR M K 32) L = [] := by
  have hnr := h.near
  have hle := h.le
  have hM : M = N := by
    by_cases e : M = N
    · exact e
    · rcases h.miss M (Int.le_refl _) (by omega) with ⟨p, hp, he⟩ | ⟨p, hp, he⟩
      · rcases hc p hp with h' | ⟨q, hq, hqe⟩
        · omega
        · have := h.w.lo q hq; omega
      · have := h.w.lo p hp; omega
  refine ⟨hM, ?_, ?_⟩
  · cases K with
    | nil => rfl
    | cons p K => have := h.w.lo p (by simp); have := (h.tk p (by simp)).2; omega
  · unfold leftR
    rw [List.filter_eq_nil_iff]
    intro p hp
    obtain ⟨i, ho⟩ := h.o
    have := ho.near p hp
    have hr := (hasR_iff M K h.w p.1 (by omega)).2 (.inl (by omega))
    rw [hr]; simp
end Go.AEX
