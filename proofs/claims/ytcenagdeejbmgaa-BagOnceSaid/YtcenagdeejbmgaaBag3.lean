/- Bag: bent, dropped. -/
import Derived.Test.YtcenagdeejbmgaaBag2
import Derived.Test.YtcenagdeejbmgaaAEzj
namespace Go.AEX
open Go Go.AE Go.Proofs
set_option maxRecDepth 100000
set_option linter.unusedVariables false
set_option linter.unusedSimpArgs false

/-- A byte is another one. -/
def bendT (s : List UInt8) (i : Nat) (b : UInt8) : List UInt8 := s.set i (s.getD i 0 ^^^ b)
def setT (L : List Itm) (p : Nat) (s : List UInt8) : List Itm := L.set p ⟨(ga L p).src, (ga L p).dst, s⟩
theorem setT_len (L : List Itm) (p : Nat) (s : List UInt8) : (setT L p s).length = L.length := by simp [setT]
theorem brows_inR2 {l : List Itm} {i : Nat} (h : i < l.length) : inR (brows l) i 2 1 := ⟨_, brows_get h, by simp [brow]⟩
theorem brows_rput2 {l : List Itm} {i : Nat} (h : i < l.length) (s : List UInt8) : rput (brows l) i 2 [.str s] = brows (setT l i s) := by
  unfold rput setT brows
  apply List.ext_getElem?
  intro j
  rw [List.getElem?_modify, List.getElem?_map, List.getElem?_map, List.getElem?_set]
  by_cases hj : i = j
  · subst hj; simp [h, brow, ← ga_eq h]
  · simp [hj]
theorem bend_no (L : List Itm) (q k i : Int) (b : UInt8) (h0 : 0 < L.length) (hL : L.length ≤ 1000) (hn : i < 0 ∨ ((ga L (place L.length k)).text.length : Int) ≤ i ∨ b = 0) :
    Tri Try.prog 39 [.pbox 0 0, .int .i64 k, .int .i64 i, .int .u8 b.toNat] (bagM L q) (fun v m => v = .int .i64 4 ∧ m = bagM L q) := by
  have hi := item_spec L q k h0 (by omega)
  unfold bagM at *
  refine Tri.post ?_
  generalize place L.length k = p at *
  by_cases c1 : i < 0
  · skip
    refine (Tri.enter (rl := r39) (code := c39) (by kernel_rfl) Try.func39 rfl c39_ok (by kernel_rfl) (by kernel_rfl) ?_)
    refine run_ok 4000 _ _ _ _ ?_
    simp (maxSteps := 10000000) only [go_sem, c39, r39, brow, c1]
    refine sem_call rfl rfl (((hi).embed [0, 1] rfl (by repeat' first | exact trivial | rfl | (simp only [go_sem]; done) | constructor) rfl (by first | rfl | simp only [go_sem]) rfl (by simp)).mono ?_)
    rintro _ _ ⟨_, _, ⟨rfl, rfl⟩, rfl, rfl⟩
    refine run_ok 4000 _ _ _ _ ?_
    simp (maxSteps := 10000000) only [go_sem, brow, c1]
    refine ⟨_, _, .sub [0, 1] ?_ .done, rfl, rfl⟩
    simp only [EmbV, go_sem]
  by_cases c2 : i ≥ ((ga L p).text.length : Int)
  · skip
    refine (Tri.enter (rl := r39) (code := c39) (by kernel_rfl) Try.func39 rfl c39_ok (by kernel_rfl) (by kernel_rfl) ?_)
    refine run_ok 4000 _ _ _ _ ?_
    simp (maxSteps := 10000000) only [go_sem, c39, r39, brow, c1, c2]
    refine sem_call rfl rfl (((hi).embed [0, 1] rfl (by repeat' first | exact trivial | rfl | (simp only [go_sem]; done) | constructor) rfl (by first | rfl | simp only [go_sem]) rfl (by simp)).mono ?_)
    rintro _ _ ⟨_, _, ⟨rfl, rfl⟩, rfl, rfl⟩
    refine run_ok 4000 _ _ _ _ ?_
    simp (maxSteps := 10000000) only [go_sem, brow, c1, c2]
    refine ⟨_, _, .sub [0, 1] ?_ .done, rfl, rfl⟩
    simp only [EmbV, go_sem]
  have c3 : b = 0 := by rcases hn with h | h | h; exact absurd h c1; exact absurd h c2; exact h
  subst c3
  have c4 : (((0 : UInt8).toNat : Int) == 0) = true := rfl
  skip
  refine (Tri.enter (rl := r39) (code := c39) (by kernel_rfl) Try.func39 rfl c39_ok (by kernel_rfl) (by kernel_rfl) ?_)
  refine run_ok 4000 _ _ _ _ ?_
  simp (maxSteps := 10000000) only [go_sem, c39, r39, brow, c1, c2, c4]
  refine sem_call rfl rfl (((hi).embed [0, 1] rfl (by repeat' first | exact trivial | rfl | (simp only [go_sem]; done) | constructor) rfl (by first | rfl | simp only [go_sem]) rfl (by simp)).mono ?_)
  rintro _ _ ⟨_, _, ⟨rfl, rfl⟩, rfl, rfl⟩
  refine run_ok 4000 _ _ _ _ ?_
  simp (maxSteps := 10000000) only [go_sem, brow, c1, c2, c4]
  refine ⟨_, _, .sub [0, 1] ?_ .done, rfl, rfl⟩
  simp only [EmbV, go_sem]
theorem bend_nil (q k i : Int) (b : UInt8) : Tri Try.prog 39 [.pbox 0 0, .int .i64 k, .int .i64 i, .int .u8 b.toNat] (bagM [] q) (fun v m => v = .int .i64 9 ∧ m = bagM [] q) := by
  have hi := item_nil q k
  unfold bagM at *
  refine Tri.post ?_
  refine (Tri.enter (rl := r39) (code := c39) (by kernel_rfl) Try.func39 rfl c39_ok (by kernel_rfl) (by kernel_rfl) ?_)
  refine run_ok 4000 _ _ _ _ ?_
  simp (maxSteps := 10000000) only [go_sem, c39, r39]
  refine sem_call rfl rfl (((hi).embed [0, 1] rfl (by repeat' first | exact trivial | rfl | (simp only [go_sem]; done) | constructor) rfl (by first | rfl | simp only [go_sem]) rfl (by simp)).mono ?_)
  rintro _ _ ⟨_, _, ⟨rfl, rfl⟩, rfl, rfl⟩
  refine run_ok 4000 _ _ _ _ ?_
  simp (maxSteps := 10000000) only [go_sem]
  refine ⟨_, _, .sub [0, 1] ?_ .done, rfl, rfl⟩
  simp only [EmbV, go_sem]
theorem bend_spec (L : List Itm) (q k : Int) (i : Nat) (b : UInt8) (h0 : 0 < L.length) (hL : L.length ≤ 1000) (hn : i < (ga L (place L.length k)).text.length) (hb : b ≠ 0) (hs : (ga L (place L.length k)).text.length ≤ 100000) :
    Tri Try.prog 39 [.pbox 0 0, .int .i64 k, .int .i64 i, .int .u8 b.toNat] (bagM L q)
    (fun v m => v = .int .i64 0 ∧ m = bagT L (setT L (place L.length k) (bendT (ga L (place L.length k)).text i b)) q) := by
  have hi := item_spec L q k h0 (by omega)
  have ha := bat_spec L q k h0 hL
  have hp := place_lt h0 k
  have hc := clone_spec L (by omega)
  have hb0 : ¬ (b.toNat : Int) = 0 := by
    intro h; apply hb; apply UInt8.toNat_inj.1; simpa using h
  have hb1 : ((b.toNat : Int) == 0) = false := by rw [beq_eq_false_iff_ne]; exact hb0
  unfold bagM at *
  unfold bagT
  refine Tri.post ?_
  generalize place L.length k = p at *
  have hni : (i : Int) < ((ga L p).text.length : Int) := by omega
  have hpi : (p : Int) < (L.length : Int) := by omega
  have hl := setT_len L p (bendT (ga L p).text i b)
  have hx := ga_eq hp
  generalize hg : ga L p = x at *
  have hz : toBytes (AE.bytes (x.text.set i (x.text[i] ^^^ b))) = bendT x.text i b := by
    rw [bytes_to]; unfold bendT; rw [List.getD_eq_getElem?_getD, List.getElem?_eq_getElem hn]; rfl
  have hsb : sub (AE.bytes (x.text.set i (x.text[i] ^^^ b))) 0 x.text.length = AE.bytes (x.text.set i (x.text[i] ^^^ b)) := by
    have := sub_bytes_all (x.text.set i (x.text[i] ^^^ b)); rwa [List.length_set] at this
  have hz2 := bytes_all (x.text.set i (x.text[i] ^^^ b))
  have hn0 : ¬ (i : Int) < 0 := by omega
  have hn1 : ¬ (i : Int) ≥ (x.text.length : Int) := by omega
  have hsm : small x.text.length := by unfold small; omega
  skip
  refine (Tri.enter (rl := r39) (code := c39) (by kernel_rfl) Try.func39 rfl c39_ok (by kernel_rfl) (by kernel_rfl) ?_)
  refine run_ok 4000 _ _ _ _ ?_
  simp (maxSteps := 10000000) only [go_sem, c39, r39, brow, hn0, hn1, hsm, hni, Int.natCast_nonneg, hb0, hb1, bytes_hasI hn, bytes_rint hn, xor_u8, hsb, bytes_inR hn, bytes_rput hn, hpi, hz, hz2, brows_inR2 hp, brows_rput2 hp]
  refine sem_call rfl rfl (((hi).embed [0, 1] rfl (by repeat' first | exact trivial | rfl | (simp only [go_sem]; done) | constructor) rfl (by first | rfl | simp only [go_sem]) rfl (by simp)).mono ?_)
  rintro _ _ ⟨_, _, ⟨rfl, rfl⟩, rfl, rfl⟩
  refine run_ok 4000 _ _ _ _ ?_
  simp (maxSteps := 10000000) only [go_sem, brow, hn0, hn1, hsm, hni, Int.natCast_nonneg, hb0, hb1, bytes_hasI hn, bytes_rint hn, xor_u8, hsb, bytes_inR hn, bytes_rput hn, hpi, hz, hz2, brows_inR2 hp, brows_rput2 hp]
  refine sem_call rfl rfl (((ha).embed [0, 1] rfl (by repeat' first | exact trivial | rfl | (simp only [go_sem]; done) | constructor) rfl (by first | rfl | simp only [go_sem]) rfl (by simp)).mono ?_)
  rintro _ _ ⟨_, _, ⟨rfl, rfl⟩, rfl, rfl⟩
  refine run_ok 4000 _ _ _ _ ?_
  simp (maxSteps := 10000000) only [go_sem, brow, hn0, hn1, hsm, hni, Int.natCast_nonneg, hb0, hb1, bytes_hasI hn, bytes_rint hn, xor_u8, hsb, bytes_inR hn, bytes_rput hn, hpi, hz, hz2, brows_inR2 hp, brows_rput2 hp]
  refine sem_call rfl rfl (((hc).embed [1] rfl (by repeat' first | exact trivial | rfl | (simp only [go_sem]; done) | constructor) rfl (by first | rfl | simp only [go_sem]) rfl (by simp)).mono ?_)
  rintro _ _ ⟨_, _, ⟨rfl, rfl⟩, rfl, rfl⟩
  refine run_ok 4000 _ _ _ _ ?_
  simp (maxSteps := 10000000) only [go_sem, brow, hn0, hn1, hsm, hni, Int.natCast_nonneg, hb0, hb1, bytes_hasI hn, bytes_rint hn, xor_u8, hsb, bytes_inR hn, bytes_rput hn, hpi, hz, hz2, brows_inR2 hp, brows_rput2 hp]
  refine sem_drawG l39_0_ok (by kernel_rfl) ?_
  intro KK hKK
  simp (maxSteps := 10000000) only [go_sem, l39_0, brow, hn0, hn1, hsm, hni, Int.natCast_nonneg, hb0, hb1, bytes_hasI hn, bytes_rint hn, xor_u8, hsb, bytes_inR hn, bytes_rput hn, hpi, hz, hz2, brows_inR2 hp, brows_rput2 hp]
  subst hKK
  simp (maxSteps := 10000000) only [go_sem, brow, hn0, hn1, hsm, hni, Int.natCast_nonneg, hb0, hb1, bytes_hasI hn, bytes_rint hn, xor_u8, hsb, bytes_inR hn, bytes_rput hn, hpi, hz, hz2, brows_inR2 hp, brows_rput2 hp]
  refine ⟨by rw [List.length_set]; exact Nat.le_refl _, _, _, .sub [0, 1, 4] ?_ .done, rfl, rfl⟩
  simp only [EmbV, go_sem, hl]
def hit (w : Int) (x : Itm) : Bool := x.src == w || x.dst == w
theorem hit_spec (w : Int) (x : Itm) : Tri Try.prog 50 [.agg (brow x), .pbox 0 0] [.box [.int .i64 w]] (fun v m => v = .bsym (hit w x) ∧ m = [.box [.int .i64 w]]) := by
  by_cases h1 : (x.src == w) = true
  · have h : hit w x = true := by simp [hit, h1]
    rw [h]
    refine Tri.asS (Tri.post ?_)
    skip
    refine (Tri.enter (rl := r50) (code := c50) (by kernel_rfl) Try.func50 rfl c50_ok (by kernel_rfl) (by kernel_rfl) ?_)
    refine run_ok 4000 _ _ _ _ ?_
    simp (maxSteps := 10000000) only [go_sem, c50, r50, brow, h1]
    refine ⟨.bool true, _, .sub [0] (by simp only [EmbV, go_sem]) .done, rfl, rfl⟩
  · have h1 : (x.src == w) = false := by simpa using h1
    have h : hit w x = (x.dst == w) := by simp [hit, h1]
    rw [h]
    refine Tri.asS (Tri.post ?_)
    skip
    refine (Tri.enter (rl := r50) (code := c50) (by kernel_rfl) Try.func50 rfl c50_ok (by kernel_rfl) (by kernel_rfl) ?_)
    refine run_ok 4000 _ _ _ _ ?_
    simp (maxSteps := 10000000) only [go_sem, c50, r50, brow, h1]
    refine ⟨.bsym (x.dst == w), _, .sub [0] (by simp only [EmbV, go_sem]) .done, rfl, rfl⟩
theorem index_spec (L : List Itm) (w : Int) (hL : L.length ≤ 100000) : Tri Try.prog 55 [.sl 0 0 L.length L.length false, .fn 50 [] [.pbox 1 0]] [.row 3 (brows L), .box [.int .i64 w]]
    (fun v m => v = .int .i64 (if L.any (hit w) then ((L.findIdx (hit w) : Nat) : Int) else -1) ∧ m = [.row 3 (brows L), .box [.int .i64 w]]) := by
  refine Tri.post ?_
  refine (Tri.enter (rl := r55) (code := c55) (by kernel_rfl) Try.func55 rfl c55_ok (by kernel_rfl) (by kernel_rfl) ?_)
  refine run_ok 4000 _ _ _ _ ?_
  simp (maxSteps := 10000000) only [go_sem, c55, r55]
  refine sem_rounds (fun i => i ≤ L.length ∧ ∀ j, (h : j < i) → hit w (ga L j) = false)
    (fun i => [(0, .sl 0 0 L.length L.length false), (1, .fn 50 [] [.pbox 1 0]), (7, .int .i64 L.length), (8, .int .i64 (i : Nat))])
    (fun i => [.row 3 (brows L), .box [.int .i64 w]]) (fun i => L.length - i) 0 [0, 1] ⟨by simp, by intro j h; omega⟩ ?_ ?_
  · simp only [Emb, go_sem]
  rintro i ⟨h1, h2⟩
  refine run_ok 4000 _ _ _ _ ?_
  simp (maxSteps := 10000000) only [go_sem]
  refine ⟨fun hlt => ?_, fun hge => ?_⟩
  · have hlt : i < L.length := by omega
    have hin : (i : Int) < (L.length : Int) := by omega
    skip
    simp (maxSteps := 10000000) only [go_sem, ga_eq hlt, brows_h0 hlt, brows_h1 hlt, brows_h2 hlt, brows_r0 hlt, brows_r1 hlt, brows_r2 hlt, hin, Int.natCast_nonneg, inc64 (show i < 1000000000000 by omega)]
    refine sem_callv rfl rfl rfl (((hit_spec w (ga L i)).embed [1] rfl (by repeat' first | exact trivial | rfl | (simp only [go_sem]; done) | constructor) rfl (by first | rfl | simp only [go_sem]) rfl (by simp)).mono ?_)
    rintro _ _ ⟨_, _, ⟨rfl, rfl⟩, rfl, rfl⟩
    refine run_ok 4000 _ _ _ _ ?_
    simp (maxSteps := 10000000) only [go_sem, ga_eq hlt, brows_h0 hlt, brows_h1 hlt, brows_h2 hlt, brows_r0 hlt, brows_r1 hlt, brows_r2 hlt, hin, Int.natCast_nonneg, inc64 (show i < 1000000000000 by omega)]
    refine ⟨fun hh => ?_, fun hh => ?_⟩
    · refine ⟨_, _, .sub [0, 1] ?_ .done, rfl, rfl⟩
      have ha : L.any (hit w) = true := by rw [List.any_eq_true]; exact ⟨L[i], List.getElem_mem hlt, by rw [ga_eq hlt]; exact hh⟩
      have hf : L.findIdx (hit w) = i := by
        rw [List.findIdx_eq hlt]
        refine ⟨by rw [ga_eq hlt]; exact hh, fun j hj => ?_⟩
        have := h2 j hj
        rw [ga_eq (by omega)]; exact this
      simp only [EmbV, go_sem, ha, hf, if_true]
    · refine ⟨i + 1, by omega, ⟨by omega, ?_⟩, [0, 1], ?_⟩
      · intro j hj
        by_cases e : j = i
        · subst e; exact hh
        · exact h2 j (by omega)
      · simp only [Emb, go_sem]
  · have ha : L.any (hit w) = false := by
      rw [List.any_eq_false]
      intro x hx
      obtain ⟨j, hj, rfl⟩ := List.getElem_of_mem hx
      rw [ga_eq hj, h2 j (by omega)]; simp
    skip
    refine run_ok 4000 _ _ _ _ ?_
    simp (maxSteps := 10000000) only [go_sem]
    refine ⟨_, _, .sub [0, 1] ?_ .done, rfl, rfl⟩
    simp only [EmbV, go_sem, ha]
theorem filt_hit {L : List Itm} {p : Nat} (hp : p < L.length) {w : Int} (h : hit w (ga L p) = true) : (L.take (p + 1)).filter (fun x => !hit w x) = (L.take p).filter (fun x => !hit w x) := by
  rw [List.take_succ_eq_append_getElem hp, List.filter_append, ga_eq hp]
  simp [h]
theorem filt_no {L : List Itm} {p : Nat} (hp : p < L.length) {w : Int} (h : hit w (ga L p) = false) : (L.take (p + 1)).filter (fun x => !hit w x) = (L.take p).filter (fun x => !hit w x) ++ [ga L p] := by
  rw [List.take_succ_eq_append_getElem hp, List.filter_append, ga_eq hp]
  simp [h]
theorem brows_inR0 {l : List Itm} {i : Nat} (h : i < l.length) : inR (brows l) i 0 3 := ⟨_, brows_get h, by simp [brow]⟩
theorem brows_rput0 {l : List Itm} {i : Nat} (h : i < l.length) (x : Itm) : rput (brows l) i 0 [.int .i64 x.src, .int .i64 x.dst, .str x.text] = brows (l.set i x) := by
  unfold rput brows
  apply List.ext_getElem?
  intro j
  rw [List.getElem?_modify, List.getElem?_map, List.getElem?_map, List.getElem?_set]
  by_cases hj : i = j
  · subst hj; simp [h, brow]
  · simp [hj]
theorem ga_drop {L M : List Itm} {j : Nat} (h : j < L.length) (hl : M.length = L.length) (hd : M.drop j = L.drop j) : ga M j = ga L j := by
  have h1 : M.drop j = M[j] :: M.drop (j + 1) := List.drop_eq_getElem_cons (by omega)
  have h2 : L.drop j = L[j] :: L.drop (j + 1) := List.drop_eq_getElem_cons h
  rw [h1, h2] at hd
  rw [← ga_eq h, ← ga_eq (show j < M.length by omega)]
  injection hd
theorem drop_next {L M : List Itm} {j : Nat} (hd : M.drop j = L.drop j) : M.drop (j + 1) = L.drop (j + 1) := by
  rw [← List.drop_drop, ← List.drop_drop, hd]
theorem deletef_spec (L : List Itm) (w : Int) (hL : L.length ≤ 100000) : Tri Try.prog 49 [.sl 0 0 L.length L.length false, .fn 50 [] [.pbox 1 0]] [.row 3 (brows L), .box [.int .i64 w]]
    (fun v m => v = .sl 0 0 (L.filter fun x => !hit w x).length (L.filter fun x => !hit w x).length false ∧ m = [.row 3 (brows (L.filter fun x => !hit w x)), .box [.int .i64 w]]) := by
  refine Tri.post ?_
  have hx := index_spec L w hL
  by_cases ha : L.any (hit w) = true
  case neg =>
    have ha : L.any (hit w) = false := by simpa using ha
    have hf : (L.filter fun x => !hit w x) = L := by
      rw [List.filter_eq_self]; intro x hx; rw [List.any_eq_false] at ha; simpa using ha x hx
    rw [hf]
    have hx : Tri Try.prog 55 [.sl 0 0 L.length L.length false, .fn 50 [] [.pbox 1 0]] [.row 3 (brows L), .box [.int .i64 w]]
      (fun v m => v = .int .i64 (-1) ∧ m = [.row 3 (brows L), .box [.int .i64 w]]) := by
      rw [ha] at hx; exact hx
    refine (Tri.enter (rl := r49) (code := c49) (by kernel_rfl) Try.func49 rfl c49_ok (by kernel_rfl) (by kernel_rfl) ?_)
    refine run_ok 4000 _ _ _ _ ?_
    simp (maxSteps := 10000000) only [go_sem, c49, r49]
    refine sem_call rfl rfl (((hx).embed [0, 1] rfl (by repeat' first | exact trivial | rfl | (simp only [go_sem]; done) | constructor) rfl (by first | rfl | simp only [go_sem]) rfl (by simp)).mono ?_)
    rintro _ _ ⟨_, _, ⟨rfl, rfl⟩, rfl, rfl⟩
    refine run_ok 4000 _ _ _ _ ?_
    simp (maxSteps := 10000000) only [go_sem]
    refine ⟨_, _, .sub [0, 1] ?_ .done, rfl, rfl⟩
    simp only [EmbV, go_sem]
  rw [ha, if_pos rfl] at hx
  have hp : L.findIdx (hit w) < L.length := by rw [List.findIdx_lt_length]; simpa using ha
  have hpre : (L.take (L.findIdx (hit w))).filter (fun x => !hit w x) = L.take (L.findIdx (hit w)) := by
    rw [List.filter_eq_self]
    intro x hx
    obtain ⟨j, hj, rfl⟩ := List.getElem_of_mem hx
    rw [List.length_take] at hj
    rw [List.getElem_take]
    have := List.not_of_lt_findIdx (xs := L) (p := hit w) (i := j) (by omega)
    simp only [this]; rfl
  have hhit : hit w (ga L (L.findIdx (hit w))) = true := by
    have := List.findIdx_getElem (xs := L) (p := hit w) (w := hp)
    rw [ga_eq hp] at this; exact this
  generalize L.findIdx (hit w) = p at *
  have hne : ((p : Int) == (-1)) = false := by rw [beq_eq_false_iff_ne]; omega
  have hne2 : ¬ (p : Int) = -1 := by omega
  skip
  refine (Tri.enter (rl := r49) (code := c49) (by kernel_rfl) Try.func49 rfl c49_ok (by kernel_rfl) (by kernel_rfl) ?_)
  refine run_ok 4000 _ _ _ _ ?_
  simp (maxSteps := 10000000) only [go_sem, c49, r49, hne, hne2, inc64 (show p < 1000000000000 by omega)]
  refine sem_call rfl rfl (((hx).embed [0, 1] rfl (by repeat' first | exact trivial | rfl | (simp only [go_sem]; done) | constructor) rfl (by first | rfl | simp only [go_sem]) rfl (by simp)).mono ?_)
  rintro _ _ ⟨_, _, ⟨rfl, rfl⟩, rfl, rfl⟩
  refine run_ok 4000 _ _ _ _ ?_
  simp (maxSteps := 10000000) only [go_sem, hne, hne2, inc64 (show p < 1000000000000 by omega)]
  refine sem_rounds (fun x : Nat × Nat × List Itm => x.1 ≤ L.length ∧ x.2.1 < x.1 ∧ x.2.2.length = L.length ∧ x.2.2.take x.2.1 = (L.take x.1).filter (fun x => !hit w x) ∧ x.2.2.drop x.1 = L.drop x.1)
    (fun x => [(0, .sl 0 0 L.length L.length false), (1, .fn 50 [] [.pbox 1 0]), (5, .int .i64 (x.2.1 : Nat)), (6, .int .i64 (x.1 : Nat))])
    (fun x => [.row 3 (brows x.2.2), .box [.int .i64 w]]) (fun x => L.length - x.1) (p + 1, p, L) [0, 1] ⟨by simp only; omega, by simp only; omega, rfl, by simp only; rw [filt_hit hp hhit, hpre], rfl⟩ ?_ ?_
  · simp only [Emb, go_sem]
  rintro ⟨j, i, M⟩ ⟨h1, h2, h3, h4, h5⟩
  simp only at h1 h2 h3 h4 h5
  refine run_ok 4000 _ _ _ _ ?_
  simp (maxSteps := 10000000) only [go_sem, hne, hne2, inc64 (show p < 1000000000000 by omega)]
  refine ⟨fun hlt => ?_, fun hge => ?_⟩
  · have hlt : j < L.length := by omega
    have hltM : j < M.length := by omega
    have hin : (j : Int) < (L.length : Int) := by omega
    have hii : (i : Int) < (L.length : Int) := by omega
    skip
    simp (maxSteps := 10000000) only [go_sem, ga_eq hltM, brows_h0 hltM, brows_h1 hltM, brows_h2 hltM, brows_r0 hltM, brows_r1 hltM, brows_r2 hltM, hin, hii, Int.natCast_nonneg, inc64 (show j < 1000000000000 by omega), inc64 (show i < 1000000000000 by omega)]
    refine sem_callv rfl rfl rfl (((hit_spec w (ga M j)).embed [1] rfl (by repeat' first | exact trivial | rfl | (simp only [go_sem]; done) | constructor) rfl (by first | rfl | simp only [go_sem]) rfl (by simp)).mono ?_)
    rintro _ _ ⟨_, _, ⟨rfl, rfl⟩, rfl, rfl⟩
    refine run_ok 4000 _ _ _ _ ?_
    simp (maxSteps := 10000000) only [go_sem, ga_eq hltM, brows_h0 hltM, brows_h1 hltM, brows_h2 hltM, brows_r0 hltM, brows_r1 hltM, brows_r2 hltM, hin, hii, Int.natCast_nonneg, inc64 (show j < 1000000000000 by omega), inc64 (show i < 1000000000000 by omega)]
    have hga := ga_drop hlt h3 h5
    have hdn := drop_next h5
    refine ⟨fun hh => ?_, fun hh => ?_⟩
    · have hh : hit w (ga M j) = false := by simpa using hh
      have hiM : i < M.length := by omega
      refine ⟨brows_inR0 hiM, (j + 1, i + 1, M.set i (ga M j)), by simp only; omega, ⟨by simp only; omega, by simp only; omega, by simp only [List.length_set]; exact h3, ?_, ?_⟩, [0, 1], ?_⟩
      · simp only
        rw [filt_no hlt (by rw [← hga]; exact hh), ← h4, List.take_succ_eq_append_getElem (by rw [List.length_set]; exact hiM), List.getElem_set_self, hga, List.take_set_of_le (Nat.le_refl _)]
      · simp only
        rw [List.drop_set_of_lt (by omega)]; exact hdn
      · rw [brows_rput0 hiM]
        simp only [Emb, go_sem]
    · have hh : hit w (ga M j) = true := by simpa using hh
      refine ⟨(j + 1, i, M), by simp only; omega, ⟨by simp only; omega, by simp only; omega, h3, ?_, hdn⟩, [0, 1], ?_⟩
      · simp only
        rw [filt_hit hlt (by rw [← hga]; exact hh)]; exact h4
      · simp only [Emb, go_sem]
  · have hj : j = L.length := by omega
    subst hj
    rw [List.take_length] at h4
    have hk : (L.filter fun x => !hit w x).length = i := by rw [← h4, List.length_take]; omega
    have hbk : (brows M).take i = brows (L.filter fun x => !hit w x) := by rw [← h4, brows, brows, List.map_take]
    have hbl : ((brows M).take i).length = i := by rw [List.length_take, brows_len]; omega
    have f1 : (i : Int) ≤ (L.length : Int) := by omega
    refine sem_tell 0 i rfl ?_
    skip
    skip
    refine run_ok 3 _ _ _ _ ?_
    simp (maxSteps := 10000000) only [go_sem, f1, Int.natCast_nonneg]
    skip
    refine sem_clrT rfl rfl rfl (by rw [hbl]; exact Nat.le_refl _) ?_
    skip
    refine run_ok 4000 _ _ _ _ ?_
    simp (maxSteps := 10000000) only [go_sem, f1, Int.natCast_nonneg, Nat.sub_zero]
    refine ⟨_, _, .like Like.cap (.sub [0, 1] ?_ .done), rfl, rfl⟩
    simp only [EmbV, go_sem, hk, hbk]
theorem drop_spec (L : List Itm) (q w : Int) (hL : L.length ≤ 1000) (hq : 0 ≤ q ∧ q ≤ 1000000) : Tri Try.prog 40 [.pbox 0 0, .int .i64 w] (bagM L q)
    (fun v m => v = .int .i64 ((L.length - (L.filter fun x => !hit w x).length : Nat) : Int) ∧ m = bagT L (L.filter fun x => !hit w x) (q + (L.length - (L.filter fun x => !hit w x).length : Nat))) := by
  have hd := deletef_spec L w (by omega)
  have hc := clone_spec L (by omega)
  have hle : (L.filter fun x => !hit w x).length ≤ L.length := List.length_filter_le _ _
  generalize hF : (L.filter fun x => !hit w x) = F at *
  have w1 : iwrap .i64 ((L.length : Int) - F.length) = ((L.length - F.length : Nat) : Int) := by rw [iwrap_i64_in (by omega)]; omega
  have w2 : iwrap .i64 (q + ((L.length - F.length : Nat) : Int)) = q + ((L.length - F.length : Nat) : Int) := iwrap_i64_in (by omega)
  unfold bagM bagT at *
  refine Tri.post ?_
  skip
  refine (Tri.enter (rl := r40) (code := c40) (by kernel_rfl) Try.func40 rfl c40_ok (by kernel_rfl) (by kernel_rfl) ?_)
  refine run_ok 4000 _ _ _ _ ?_
  simp (maxSteps := 10000000) only [go_sem, c40, r40, w1, w2]
  refine sem_call rfl rfl (((hc).embed [1] rfl (by repeat' first | exact trivial | rfl | (simp only [go_sem]; done) | constructor) rfl (by first | rfl | simp only [go_sem]) rfl (by simp)).mono ?_)
  rintro _ _ ⟨_, _, ⟨rfl, rfl⟩, rfl, rfl⟩
  refine run_ok 4000 _ _ _ _ ?_
  simp (maxSteps := 10000000) only [go_sem, w1, w2]
  refine sem_call rfl rfl (((hd).embed [3, 2] rfl (by repeat' first | exact trivial | rfl | (simp only [go_sem]; done) | constructor) rfl (by first | rfl | simp only [go_sem]) rfl (by simp)).mono ?_)
  rintro _ _ ⟨_, _, ⟨rfl, rfl⟩, rfl, rfl⟩
  refine run_ok 4000 _ _ _ _ ?_
  simp (maxSteps := 10000000) only [go_sem, w1, w2]
  refine sem_drawG l40_0_ok (by kernel_rfl) ?_
  intro KK hKK
  simp (maxSteps := 10000000) only [go_sem, l40_0, w1, w2]
  subst hKK
  simp (maxSteps := 10000000) only [go_sem, w1, w2]
  refine ⟨_, _, .sub [0, 1, 3] ?_ .done, rfl, rfl⟩
  simp only [EmbV, go_sem]
end Go.AEX
