/- Bag: any calls (BagPlays), the law's evaluation. -/
import Derived.Test.YtcenagdeejbmgaaBag7
import Derived.Test.YtcenagdeejbmgaaAEsa
namespace Go.AEX
open Go Go.AE Go.Proofs
set_option maxRecDepth 100000
set_option linter.unusedVariables false
set_option linter.unusedSimpArgs false

theorem act_row {x : List AV} (h : HasL [.int .i64, .int .i64, .int .i64, .int .i64, .int .i64, .int .u8, .str] x) : ∃ a : Act, x = arow a := by
  simp only [HasL, Has] at h
  obtain ⟨_, _, rfl, ⟨k, rfl, _⟩, _, _, rfl, ⟨b, rfl, _⟩, _, _, rfl, ⟨c, rfl, _⟩, _, _, rfl, ⟨d, rfl, _⟩, _, _, rfl, ⟨e, rfl, _⟩, _, _, rfl, ⟨f, rfl, hf⟩, _, _, rfl, ⟨s, rfl, _⟩, rfl⟩ := h
  obtain ⟨f, rfl⟩ := wf_u8 hf
  exact ⟨⟨k, b, c, d, e, f, s⟩, rfl⟩
/-- What stands between two calls. -/
structure BOk (i : Nat) (L : List Itm) (q : Int) : Prop where
  len : L.length ≤ 400
  lo : 0 ≤ q
  hi : q ≤ 401 * (i : Int)
  text : ∀ x ∈ L, x.text.length ≤ 10
theorem BOk.ga {i : Nat} {L : List Itm} {q : Int} (h : BOk i L q) {p : Nat} (hp : p < L.length) : (ga L p).text.length ≤ 10 := by
  rw [← ga_eq hp]; exact h.text _ (List.getElem_mem hp)
theorem BOk.more {i : Nat} {L : List Itm} {q : Int} (h : BOk i L q) : BOk (i + 1) L q := ⟨h.len, h.lo, by have := h.hi; omega, h.text⟩
theorem BOk.put {i : Nat} {L : List Itm} {q : Int} (h : BOk i L q) (hl : L.length < 400) {x : Itm} (hx : x.text.length ≤ 10) : BOk (i + 1) (L ++ [x]) q :=
  ⟨by simp; omega, h.lo, by have := h.hi; omega, fun y hy => by
    rcases List.mem_append.1 hy with hy | hy
    · exact h.text y hy
    · simp at hy; subst hy; exact hx⟩
theorem BOk.lost {i : Nat} {L : List Itm} {q : Int} (h : BOk i L q) : BOk (i + 1) L (q + 1) := ⟨h.len, by have := h.lo; omega, by have := h.hi; omega, h.text⟩
theorem BOk.sub {i : Nat} {L M : List Itm} {q : Int} (h : BOk i L q) (d : Nat) (hd : d ≤ 401) (hl : M.length ≤ L.length) (hm : ∀ x ∈ M, x ∈ L) : BOk (i + 1) M (q + (d : Nat)) :=
  ⟨by have := h.len; omega, by have := h.lo; omega, by have := h.hi; omega, fun x hx => h.text x (hm x hx)⟩
theorem wout_mem {L : List Itm} {p : Nat} : ∀ x ∈ wout L p, x ∈ L := fun x hx => by
  rcases List.mem_append.1 hx with hx | hx
  · exact List.mem_of_mem_take hx
  · exact List.mem_of_mem_drop hx
theorem BOk.setT {i : Nat} {L : List Itm} {q : Int} (h : BOk i L q) {p : Nat} (hp : p < L.length) (j : Nat) (b : UInt8) : BOk (i + 1) (setT L p (bendT (AEX.ga L p).text j b)) q :=
  ⟨by rw [setT_len]; exact h.len, h.lo, by have := h.hi; omega, fun x hx => by
    rcases List.mem_or_eq_of_mem_set hx with hx | rfl
    · exact h.text x hx
    · have := h.ga hp; simpa [bendT] using this⟩
set_option maxHeartbeats 4000000 in
theorem bagPlays_spec (l : AV) (hl : Has (.sl [.int .i64, .int .i64, .int .i64, .int .i64, .int .i64, .int .u8, .str]) l) :
    Tri Try.prog 11 [l] [] (fun v m => v = .bool true) := by
  simp only [Has] at hl
  obtain ⟨xs, rfl, hxl, hx⟩ := hl
  simp only [List.length_cons, List.length_nil]
  refine (Tri.asB (Tri.enter (rl := r11) (code := c11) (by kernel_rfl) Try.func11 rfl c11_ok (by kernel_rfl) (by kernel_rfl) ?_))
  refine run_ok 4000 _ _ _ _ ?_
  simp (maxSteps := 10000000) only [go_sem, c11, r11]
  refine sem_call rfl rfl (((awake25_spec).embed [] rfl trivial rfl rfl rfl (by simp)).mono ?_)
  rintro _ _ ⟨_, _, ⟨rfl, rfl⟩, rfl, rfl⟩
  refine run_ok 4000 _ _ _ _ ?_
  simp (maxSteps := 10000000) only [go_sem]
  refine sem_nilbox 0 0 3 rfl rfl ?_
  refine sem_likebox 1 0 (.vsl 3 (brows []) false) rfl rfl (Like.nilv _ _) ?_
  refine sem_rounds (fun x : Nat × List Itm × Int => x.1 ≤ 150 ∧ BOk x.1 x.2.1 x.2.2)
    (fun x => [(0, .vsl 7 xs false), (3, .pbox 0 0), (4, .pbox 2 0), (5, .int .i64 (x.1 : Nat))])
    (fun x => [.box [.sl 1 0 x.2.1.length x.2.1.length false, .int .i64 x.2.2], .row 3 (brows x.2.1), .box [.vsl 3 (brows x.2.1) false, .int .i64 x.2.2]]) (fun x => 150 - x.1) (0, [], 0) [0, 2, 1] ⟨by simp, by simp, by simp, by simp, by simp⟩ ?_ ?_
  · simp only [Emb, go_sem, brows, List.map_nil]
  rintro ⟨i, L, q⟩ ⟨h60, hk0⟩
  simp only at h60 hk0
  have hlen := hk0.len; have hlo := hk0.lo; have hhi := hk0.hi
  refine run_ok 4000 _ _ _ _ ?_
  simp (maxSteps := 10000000) only [go_sem]
  refine ⟨fun h1 => ⟨fun h2 => ?_, fun h2 => ?_⟩, fun h1 => ?_⟩
  · have hlt : i < xs.length := by omega
    have hin : (i : Int) < (xs.length : Int) := by omega
    obtain ⟨a, hrow⟩ := act_row (hx _ (List.getElem_mem hlt))
    have hg0 : xs[i]? = some (arow a) := by rw [List.getElem?_eq_getElem hlt, hrow]
    have e0 : rint xs i 0 = a.kind := by simp [rint, List.getD_eq_getElem?_getD, hg0, arow]
    have e1 : rint xs i 1 = a.src := by simp [rint, List.getD_eq_getElem?_getD, hg0, arow]
    have e2 : rint xs i 2 = a.dst := by simp [rint, List.getD_eq_getElem?_getD, hg0, arow]
    have e3 : rint xs i 3 = a.k := by simp [rint, List.getD_eq_getElem?_getD, hg0, arow]
    have e4 : rint xs i 4 = a.i := by simp [rint, List.getD_eq_getElem?_getD, hg0, arow]
    have e5 : rint xs i 5 = a.b.toNat := by simp [rint, List.getD_eq_getElem?_getD, hg0, arow]
    have e6 : rstr xs i 6 = a.s := by simp [rstr, List.getD_eq_getElem?_getD, hg0, arow]
    have i0 : hasI .i64 xs i 0 := ⟨_, a.kind, hg0, rfl⟩
    have i1 : hasI .i64 xs i 1 := ⟨_, a.src, hg0, rfl⟩
    have i2 : hasI .i64 xs i 2 := ⟨_, a.dst, hg0, rfl⟩
    have i3 : hasI .i64 xs i 3 := ⟨_, a.k, hg0, rfl⟩
    have i4 : hasI .i64 xs i 4 := ⟨_, a.i, hg0, rfl⟩
    have i5 : hasI .u8 xs i 5 := ⟨_, (a.b.toNat : Int), hg0, rfl⟩
    have i6 : hasS xs i 6 := ⟨_, a.s, hg0, rfl⟩
    have hc10 : (a.s.take 10).length ≤ 10 := by rw [List.length_take]; omega
    by_cases k1 : a.kind = 1
    · rw [k1] at e0
      skip
      simp (maxSteps := 10000000) only [go_sem, hin, e0, e1, e2, e3, e4, e5, e6, i0, i1, i2, i3, i4, i5, i6, Int.natCast_nonneg]
      refine sem_call rfl rfl (((cut_spec a.s 10 (by omega)).embed [] rfl trivial rfl rfl rfl (by simp)).mono ?_)
      rintro _ _ ⟨_, _, ⟨rfl, rfl⟩, rfl, rfl⟩
      refine run_ok 4000 _ _ _ _ ?_
      simp (maxSteps := 10000000) only [go_sem, hin, e0, e1, e2, e3, e4, e5, e6, i0, i1, i2, i3, i4, i5, i6, Int.natCast_nonneg]
      have hp := put_spec L q a.src a.dst [a.s.take 10] true hlen ⟨hlo, by simp; omega⟩ (by simp)
      by_cases hf : L.length < 400
      · have hr := rput_spec L q ⟨a.src, a.dst, a.s.take 10⟩ hf
        rw [put_one hf] at hp
        have hk := hk0.put hf (x := ⟨a.src, a.dst, a.s.take 10⟩) hc10
        unfold bagM bagG at hp
        unfold refB brow at hr
        simp only at hp hr
        refine sem_call rfl rfl (((hp).embed [0, 1] rfl (by repeat' first | exact trivial | rfl | (simp only [go_sem]; done) | constructor) rfl (by first | rfl | simp only [go_sem]) rfl (by simp)).mono ?_)
        rintro _ _ ⟨_, _, ⟨rfl, rfl⟩, rfl, rfl⟩
        refine run_ok 4000 _ _ _ _ ?_
        simp (maxSteps := 10000000) only [go_sem, hin, e0, e1, e2, e3, e4, e5, e6, i0, i1, i2, i3, i4, i5, i6, Int.natCast_nonneg]
        refine sem_call rfl rfl (((hr).embed [] rfl (by repeat' first | exact trivial | rfl | (simp only [go_sem]; done) | constructor) rfl (by first | rfl | simp only [go_sem]) rfl (by simp)).mono ?_)
        rintro _ _ ⟨_, _, ⟨rfl, rfl⟩, rfl, rfl⟩
        refine run_ok 4000 _ _ _ _ ?_
        simp (maxSteps := 10000000) only [go_sem, hin, e0, e1, e2, e3, e4, e5, e6, i0, i1, i2, i3, i4, i5, i6, Int.natCast_nonneg]
        obtain ⟨q', hq'⟩ : ∃ q', q' = q := ⟨q, rfl⟩
        obtain ⟨L', hL'⟩ : ∃ L', L' = L ++ [⟨a.src, a.dst, a.s.take 10⟩] := ⟨L ++ [⟨a.src, a.dst, a.s.take 10⟩], rfl⟩
        rw [← hq', ← hL'] at hk ⊢
        clear hq' hL'
        refine sem_sub (sl := [(0, .vsl 7 xs false), (3, .pbox 0 0), (4, .pbox 2 0), (5, .int .i64 (i : Nat)), (7, .bsym true)]) (m2 := [.box [.sl 1 0 L'.length L'.length false, .int .i64 q'], .row 3 (brows L'), .box [.vsl 3 (brows L') false, .int .i64 q']]) [0, 4, 2] ?_ ?_
        · simp only [Emb, go_sem]
        have hlen := hk.len; have hlo := hk.lo; have hhi := hk.hi
        have hl := blen_spec L' q'
        have hls := blost_spec L' q'
        have hself1 : ((L'.length : Int) != (L'.length : Int)) = false := by simp
        have hself2 : (q' != q') = false := by simp
        unfold bagM at hl hls
        skip
        refine run_ok 4000 _ _ _ _ ?_
        simp (maxSteps := 10000000) only [go_sem, brows_len, hself1, hself2]
        refine sem_drawG l11_1_ok (by kernel_rfl) ?_
        intro KK hKK
        simp (maxSteps := 10000000) only [go_sem, l11_1, brows_len, hself1, hself2]
        refine TriZ.of (((hl).embed [0, 1] rfl (by repeat' first | exact trivial | rfl | (simp only [go_sem]; done) | constructor) rfl (by first | rfl | simp only [go_sem]) rfl (by simp)).mono ?_)
        rintro _ _ ⟨_, _, ⟨rfl, rfl⟩, rfl, rfl⟩
        simp (maxSteps := 10000000) only [go_sem, brows_len, hself1, hself2]
        refine TriZ.of (((hls).embed [0, 1] rfl (by repeat' first | exact trivial | rfl | (simp only [go_sem]; done) | constructor) rfl (by first | rfl | simp only [go_sem]) rfl (by simp)).mono ?_)
        rintro _ _ ⟨_, _, ⟨rfl, rfl⟩, rfl, rfl⟩
        simp (maxSteps := 10000000) only [go_sem, brows_len, hself1, hself2]
        subst hKK
        simp (maxSteps := 10000000) only [go_sem, brows_len, hself1, hself2]
        refine sem_rounds (fun j : Nat => j ≤ L'.length)
          (fun j => [(0, .vsl 7 xs false), (3, .pbox 0 0), (4, .pbox 2 0), (5, .int .i64 (i : Nat)), (109, .vsl 3 (brows L') false), (110, .int .i64 L'.length), (111, .int .i64 (j : Nat))])
          (fun j => [.box [.sl 1 0 L'.length L'.length false, .int .i64 q'], .row 3 (brows L'), .box [.vsl 3 (brows L') false, .int .i64 q']]) (fun j => L'.length - j) 0 [0, 1, 2] (by simp) ?_ ?_
        · simp only [Emb, go_sem]
        intro j hj
        skip
        refine run_ok 4000 _ _ _ _ ?_
        simp (maxSteps := 10000000) only [go_sem]
        refine ⟨fun hlt => ?_, fun hge => ?_⟩
        · have hlt : j < L'.length := by omega
          have hin : (j : Int) < (L'.length : Int) := by omega
          have hit := item_spec L' q' (j : Nat) (by omega) (by omega)
          have hpl : place L'.length (j : Nat) = j := by
            have := place_int (n := L'.length) (by omega) (j : Nat)
            rw [Int.emod_eq_of_lt (by omega) (by omega)] at this; omega
          rw [hpl] at hit
          unfold bagM at hit
          skip
          simp (maxSteps := 10000000) only [go_sem, brow, brows_len, ga_eq hlt, brows_h0 hlt, brows_h1 hlt, brows_h2 hlt, brows_r0 hlt, brows_r1 hlt, brows_r2 hlt, hin, Int.natCast_nonneg, seqb_self, inc64 (show j < 1000000000000 by omega)]
          refine sem_call rfl rfl (((hit).embed [0, 1] rfl (by repeat' first | exact trivial | rfl | (simp only [go_sem]; done) | constructor) rfl (by first | rfl | simp only [go_sem]) rfl (by simp)).mono ?_)
          rintro _ _ ⟨_, _, ⟨rfl, rfl⟩, rfl, rfl⟩
          refine run_ok 4000 _ _ _ _ ?_
          simp (maxSteps := 10000000) only [go_sem, brow, brows_len, ga_eq hlt, brows_h0 hlt, brows_h1 hlt, brows_h2 hlt, brows_r0 hlt, brows_r1 hlt, brows_r2 hlt, hin, Int.natCast_nonneg, seqb_self, inc64 (show j < 1000000000000 by omega)]
          refine ⟨j + 1, by omega, by omega, [0, 1, 2], ?_⟩
          simp only [Emb, go_sem]
        · skip
          refine run_ok 4000 _ _ _ _ ?_
          simp (maxSteps := 10000000) only [go_sem, inc64 (show i < 1000000000000 by omega)]
          refine ⟨(i + 1, L', q'), by simp only; omega, ⟨by simp only; omega, hk⟩, [0, 1, 2], ?_⟩
          simp only [Emb, go_sem]
      · have hr := rput_full L q ⟨a.src, a.dst, a.s.take 10⟩ ⟨by omega, by omega⟩ (by omega)
        rw [put_one_full (by omega)] at hp
        have hk := hk0.lost
        unfold bagM bagG at hp
        unfold refB brow at hr
        simp only at hp hr
        refine sem_call rfl rfl (((hp).embed [0, 1] rfl (by repeat' first | exact trivial | rfl | (simp only [go_sem]; done) | constructor) rfl (by first | rfl | simp only [go_sem]) rfl (by simp)).mono ?_)
        rintro _ _ ⟨_, _, ⟨rfl, rfl⟩, rfl, rfl⟩
        refine run_ok 4000 _ _ _ _ ?_
        simp (maxSteps := 10000000) only [go_sem, inc64 (show i < 1000000000000 by omega)]
        refine sem_call rfl rfl (((hr).embed [] rfl (by repeat' first | exact trivial | rfl | (simp only [go_sem]; done) | constructor) rfl (by first | rfl | simp only [go_sem]) rfl (by simp)).mono ?_)
        rintro _ _ ⟨_, _, ⟨rfl, rfl⟩, rfl, rfl⟩
        refine run_ok 4000 _ _ _ _ ?_
        simp (maxSteps := 10000000) only [go_sem, inc64 (show i < 1000000000000 by omega)]
        obtain ⟨q', hq'⟩ : ∃ q', q' = q + 1 := ⟨q + 1, rfl⟩
        obtain ⟨L', hL'⟩ : ∃ L', L' = L := ⟨L, rfl⟩
        rw [← hq', ← hL'] at hk ⊢
        clear hq' hL'
        refine sem_sub (sl := [(0, .vsl 7 xs false), (3, .pbox 0 0), (4, .pbox 2 0), (5, .int .i64 (i : Nat)), (7, .bsym true)]) (m2 := [.box [.sl 1 0 L'.length L'.length false, .int .i64 q'], .row 3 (brows L'), .box [.vsl 3 (brows L') false, .int .i64 q']]) [0, 4, 2] ?_ ?_
        · simp only [Emb, go_sem]
        have hlen := hk.len; have hlo := hk.lo; have hhi := hk.hi
        have hl := blen_spec L' q'
        have hls := blost_spec L' q'
        have hself1 : ((L'.length : Int) != (L'.length : Int)) = false := by simp
        have hself2 : (q' != q') = false := by simp
        unfold bagM at hl hls
        skip
        refine run_ok 4000 _ _ _ _ ?_
        simp (maxSteps := 10000000) only [go_sem, brows_len, hself1, hself2]
        refine sem_drawG l11_1_ok (by kernel_rfl) ?_
        intro KK hKK
        simp (maxSteps := 10000000) only [go_sem, l11_1, brows_len, hself1, hself2]
        refine TriZ.of (((hl).embed [0, 1] rfl (by repeat' first | exact trivial | rfl | (simp only [go_sem]; done) | constructor) rfl (by first | rfl | simp only [go_sem]) rfl (by simp)).mono ?_)
        rintro _ _ ⟨_, _, ⟨rfl, rfl⟩, rfl, rfl⟩
        simp (maxSteps := 10000000) only [go_sem, brows_len, hself1, hself2]
        refine TriZ.of (((hls).embed [0, 1] rfl (by repeat' first | exact trivial | rfl | (simp only [go_sem]; done) | constructor) rfl (by first | rfl | simp only [go_sem]) rfl (by simp)).mono ?_)
        rintro _ _ ⟨_, _, ⟨rfl, rfl⟩, rfl, rfl⟩
        simp (maxSteps := 10000000) only [go_sem, brows_len, hself1, hself2]
        subst hKK
        simp (maxSteps := 10000000) only [go_sem, brows_len, hself1, hself2]
        refine sem_rounds (fun j : Nat => j ≤ L'.length)
          (fun j => [(0, .vsl 7 xs false), (3, .pbox 0 0), (4, .pbox 2 0), (5, .int .i64 (i : Nat)), (109, .vsl 3 (brows L') false), (110, .int .i64 L'.length), (111, .int .i64 (j : Nat))])
          (fun j => [.box [.sl 1 0 L'.length L'.length false, .int .i64 q'], .row 3 (brows L'), .box [.vsl 3 (brows L') false, .int .i64 q']]) (fun j => L'.length - j) 0 [0, 1, 2] (by simp) ?_ ?_
        · simp only [Emb, go_sem]
        intro j hj
        skip
        refine run_ok 4000 _ _ _ _ ?_
        simp (maxSteps := 10000000) only [go_sem]
        refine ⟨fun hlt => ?_, fun hge => ?_⟩
        · have hlt : j < L'.length := by omega
          have hin : (j : Int) < (L'.length : Int) := by omega
          have hit := item_spec L' q' (j : Nat) (by omega) (by omega)
          have hpl : place L'.length (j : Nat) = j := by
            have := place_int (n := L'.length) (by omega) (j : Nat)
            rw [Int.emod_eq_of_lt (by omega) (by omega)] at this; omega
          rw [hpl] at hit
          unfold bagM at hit
          skip
          simp (maxSteps := 10000000) only [go_sem, brow, brows_len, ga_eq hlt, brows_h0 hlt, brows_h1 hlt, brows_h2 hlt, brows_r0 hlt, brows_r1 hlt, brows_r2 hlt, hin, Int.natCast_nonneg, seqb_self, inc64 (show j < 1000000000000 by omega)]
          refine sem_call rfl rfl (((hit).embed [0, 1] rfl (by repeat' first | exact trivial | rfl | (simp only [go_sem]; done) | constructor) rfl (by first | rfl | simp only [go_sem]) rfl (by simp)).mono ?_)
          rintro _ _ ⟨_, _, ⟨rfl, rfl⟩, rfl, rfl⟩
          refine run_ok 4000 _ _ _ _ ?_
          simp (maxSteps := 10000000) only [go_sem, brow, brows_len, ga_eq hlt, brows_h0 hlt, brows_h1 hlt, brows_h2 hlt, brows_r0 hlt, brows_r1 hlt, brows_r2 hlt, hin, Int.natCast_nonneg, seqb_self, inc64 (show j < 1000000000000 by omega)]
          refine ⟨j + 1, by omega, by omega, [0, 1, 2], ?_⟩
          simp only [Emb, go_sem]
        · skip
          refine run_ok 4000 _ _ _ _ ?_
          simp (maxSteps := 10000000) only [go_sem, inc64 (show i < 1000000000000 by omega)]
          refine ⟨(i + 1, L', q'), by simp only; omega, ⟨by simp only; omega, hk⟩, [0, 1, 2], ?_⟩
          simp only [Emb, go_sem]
    by_cases k6 : a.kind = 6
    · rw [k6] at e0
      have hd := drop_spec L q a.src (by omega) (by omega)
      have hr := rdrop_spec L q a.src (by omega) (by omega)
      have hk := hk0.sub (L.length - (L.filter fun x => !hit a.src x).length) (by omega) (M := L.filter fun x => !hit a.src x) (List.length_filter_le _ _) (fun x hx => (List.mem_filter.1 hx).1)
      have w1 : ∀ d : Nat, iwrap .i64 (q + (d : Int) - q) = if d ≤ 401 then (d : Int) else iwrap .i64 (q + (d : Int) - q) := fun d => by
        split
        · rw [iwrap_i64_in (by omega)]; omega
        · rfl
      have hd4 : L.length - (L.filter fun x => !hit a.src x).length ≤ 401 := by omega
      generalize hF : (L.filter fun x => !hit a.src x) = F at *
      have w2 := w1 (L.length - F.length)
      rw [if_pos hd4] at w2
      unfold bagM bagT at hd
      unfold refB at hr
      skip
      simp (maxSteps := 10000000) only [go_sem, hin, e0, e1, e2, e3, e4, e5, e6, i0, i1, i2, i3, i4, i5, i6, w2, Int.natCast_nonneg]
      refine sem_call rfl rfl (((cut_spec a.s 10 (by omega)).embed [] rfl trivial rfl rfl rfl (by simp)).mono ?_)
      rintro _ _ ⟨_, _, ⟨rfl, rfl⟩, rfl, rfl⟩
      refine run_ok 4000 _ _ _ _ ?_
      simp (maxSteps := 10000000) only [go_sem, hin, e0, e1, e2, e3, e4, e5, e6, i0, i1, i2, i3, i4, i5, i6, w2, Int.natCast_nonneg]
      refine sem_call rfl rfl (((hr).embed [] rfl (by repeat' first | exact trivial | rfl | (simp only [go_sem]; done) | constructor) rfl (by first | rfl | simp only [go_sem]) rfl (by simp)).mono ?_)
      rintro _ _ ⟨_, _, ⟨rfl, rfl⟩, rfl, rfl⟩
      refine run_ok 4000 _ _ _ _ ?_
      simp (maxSteps := 10000000) only [go_sem, hin, e0, e1, e2, e3, e4, e5, e6, i0, i1, i2, i3, i4, i5, i6, w2, Int.natCast_nonneg]
      refine sem_drawG l11_0_ok (by kernel_rfl) ?_
      intro KK hKK
      simp (maxSteps := 10000000) only [go_sem, l11_0, hin, e0, e1, e2, e3, e4, e5, e6, i0, i1, i2, i3, i4, i5, i6, w2, Int.natCast_nonneg]
      subst hKK
      simp (maxSteps := 10000000) only [go_sem, hin, e0, e1, e2, e3, e4, e5, e6, i0, i1, i2, i3, i4, i5, i6, w2, Int.natCast_nonneg]
      refine TriZ.of (((hd).embed [0, 1] rfl (by repeat' first | exact trivial | rfl | (simp only [go_sem]; done) | constructor) rfl (by first | rfl | simp only [go_sem]) rfl (by simp)).mono ?_)
      rintro _ _ ⟨_, _, ⟨rfl, rfl⟩, rfl, rfl⟩
      simp (maxSteps := 10000000) only [go_sem, hin, e0, e1, e2, e3, e4, e5, e6, i0, i1, i2, i3, i4, i5, i6, w2, Int.natCast_nonneg]
      obtain ⟨q', hq'⟩ : ∃ q', q' = q + ((L.length - F.length : Nat) : Int) := ⟨q + ((L.length - F.length : Nat) : Int), rfl⟩
      obtain ⟨L', hL'⟩ : ∃ L', L' = F := ⟨F, rfl⟩
      rw [← hq', ← hL'] at hk ⊢
      clear hq' hL'
      refine sem_sub (sl := [(0, .vsl 7 xs false), (3, .pbox 0 0), (4, .pbox 2 0), (5, .int .i64 (i : Nat)), (7, .bsym true)]) (m2 := [.box [.sl 1 0 L'.length L'.length false, .int .i64 q'], .row 3 (brows L'), .box [.vsl 3 (brows L') false, .int .i64 q']]) [0, 5, 2] ?_ ?_
      · simp only [Emb, go_sem]
      have hlen := hk.len; have hlo := hk.lo; have hhi := hk.hi
      have hl := blen_spec L' q'
      have hls := blost_spec L' q'
      have hself1 : ((L'.length : Int) != (L'.length : Int)) = false := by simp
      have hself2 : (q' != q') = false := by simp
      unfold bagM at hl hls
      skip
      refine run_ok 4000 _ _ _ _ ?_
      simp (maxSteps := 10000000) only [go_sem, brows_len, hself1, hself2]
      refine sem_drawG l11_1_ok (by kernel_rfl) ?_
      intro KK hKK
      simp (maxSteps := 10000000) only [go_sem, l11_1, brows_len, hself1, hself2]
      refine TriZ.of (((hl).embed [0, 1] rfl (by repeat' first | exact trivial | rfl | (simp only [go_sem]; done) | constructor) rfl (by first | rfl | simp only [go_sem]) rfl (by simp)).mono ?_)
      rintro _ _ ⟨_, _, ⟨rfl, rfl⟩, rfl, rfl⟩
      simp (maxSteps := 10000000) only [go_sem, brows_len, hself1, hself2]
      refine TriZ.of (((hls).embed [0, 1] rfl (by repeat' first | exact trivial | rfl | (simp only [go_sem]; done) | constructor) rfl (by first | rfl | simp only [go_sem]) rfl (by simp)).mono ?_)
      rintro _ _ ⟨_, _, ⟨rfl, rfl⟩, rfl, rfl⟩
      simp (maxSteps := 10000000) only [go_sem, brows_len, hself1, hself2]
      subst hKK
      simp (maxSteps := 10000000) only [go_sem, brows_len, hself1, hself2]
      refine sem_rounds (fun j : Nat => j ≤ L'.length)
        (fun j => [(0, .vsl 7 xs false), (3, .pbox 0 0), (4, .pbox 2 0), (5, .int .i64 (i : Nat)), (109, .vsl 3 (brows L') false), (110, .int .i64 L'.length), (111, .int .i64 (j : Nat))])
        (fun j => [.box [.sl 1 0 L'.length L'.length false, .int .i64 q'], .row 3 (brows L'), .box [.vsl 3 (brows L') false, .int .i64 q']]) (fun j => L'.length - j) 0 [0, 1, 2] (by simp) ?_ ?_
      · simp only [Emb, go_sem]
      intro j hj
      skip
      refine run_ok 4000 _ _ _ _ ?_
      simp (maxSteps := 10000000) only [go_sem]
      refine ⟨fun hlt => ?_, fun hge => ?_⟩
      · have hlt : j < L'.length := by omega
        have hin : (j : Int) < (L'.length : Int) := by omega
        have hit := item_spec L' q' (j : Nat) (by omega) (by omega)
        have hpl : place L'.length (j : Nat) = j := by
          have := place_int (n := L'.length) (by omega) (j : Nat)
          rw [Int.emod_eq_of_lt (by omega) (by omega)] at this; omega
        rw [hpl] at hit
        unfold bagM at hit
        skip
        simp (maxSteps := 10000000) only [go_sem, brow, brows_len, ga_eq hlt, brows_h0 hlt, brows_h1 hlt, brows_h2 hlt, brows_r0 hlt, brows_r1 hlt, brows_r2 hlt, hin, Int.natCast_nonneg, seqb_self, inc64 (show j < 1000000000000 by omega)]
        refine sem_call rfl rfl (((hit).embed [0, 1] rfl (by repeat' first | exact trivial | rfl | (simp only [go_sem]; done) | constructor) rfl (by first | rfl | simp only [go_sem]) rfl (by simp)).mono ?_)
        rintro _ _ ⟨_, _, ⟨rfl, rfl⟩, rfl, rfl⟩
        refine run_ok 4000 _ _ _ _ ?_
        simp (maxSteps := 10000000) only [go_sem, brow, brows_len, ga_eq hlt, brows_h0 hlt, brows_h1 hlt, brows_h2 hlt, brows_r0 hlt, brows_r1 hlt, brows_r2 hlt, hin, Int.natCast_nonneg, seqb_self, inc64 (show j < 1000000000000 by omega)]
        refine ⟨j + 1, by omega, by omega, [0, 1, 2], ?_⟩
        simp only [Emb, go_sem]
      · skip
        refine run_ok 4000 _ _ _ _ ?_
        simp (maxSteps := 10000000) only [go_sem, inc64 (show i < 1000000000000 by omega)]
        refine ⟨(i + 1, L', q'), by simp only; omega, ⟨by simp only; omega, hk⟩, [0, 1, 2], ?_⟩
        simp only [Emb, go_sem]
    have n1 : (a.kind == 1) = false := by rw [beq_eq_false_iff_ne]; exact k1
    have n6 : (a.kind == 6) = false := by rw [beq_eq_false_iff_ne]; exact k6
    by_cases k2345 : a.kind = 2 ∨ a.kind = 3 ∨ a.kind = 4 ∨ a.kind = 5
    · obtain ⟨a', ha'⟩ : ∃ a' : Act, a' = ⟨a.kind, a.src, a.dst, a.k, a.i, a.b, a.s.take 10⟩ := ⟨_, rfl⟩
      by_cases h0 : L.length = 0
      · have hn : L = [] := List.length_eq_zero_iff.1 h0
        have hk := hk0.more
        have hpl := places_nil q ⟨a.kind, a.src, a.dst, a.k, a.i, a.b, a.s.take 10⟩
        rw [← hn] at hpl
        rcases k2345 with kk | kk | kk | kk
        · rw [kk] at e0
          unfold refB bagM bagG at hpl
          simp only [arow, kk] at hpl
          skip
          simp (maxSteps := 10000000) only [go_sem, hin, e0, e1, e2, e3, e4, e5, e6, i0, i1, i2, i3, i4, i5, i6, Int.natCast_nonneg]
          refine sem_call rfl rfl (((cut_spec a.s 10 (by omega)).embed [] rfl trivial rfl rfl rfl (by simp)).mono ?_)
          rintro _ _ ⟨_, _, ⟨rfl, rfl⟩, rfl, rfl⟩
          refine run_ok 4000 _ _ _ _ ?_
          simp (maxSteps := 10000000) only [go_sem, hin, e0, e1, e2, e3, e4, e5, e6, i0, i1, i2, i3, i4, i5, i6, Int.natCast_nonneg]
          refine sem_call rfl rfl (((hpl).embed [0, 1] rfl (by repeat' first | exact trivial | rfl | (simp only [go_sem]; done) | constructor) rfl (by first | rfl | simp only [go_sem]) rfl (by simp)).mono ?_)
          rintro _ _ ⟨_, _, ⟨rfl, rfl⟩, rfl, rfl⟩
          refine run_ok 4000 _ _ _ _ ?_
          simp (maxSteps := 10000000) only [go_sem, hin, e0, e1, e2, e3, e4, e5, e6, i0, i1, i2, i3, i4, i5, i6, Int.natCast_nonneg]
          obtain ⟨q', hq'⟩ : ∃ q', q' = q := ⟨q, rfl⟩
          obtain ⟨L', hL'⟩ : ∃ L', L' = L := ⟨L, rfl⟩
          rw [← hq', ← hL'] at hk ⊢
          clear hq' hL'
          refine sem_sub (sl := [(0, .vsl 7 xs false), (3, .pbox 0 0), (4, .pbox 2 0), (5, .int .i64 (i : Nat)), (7, .bsym true)]) (m2 := [.box [.sl 1 0 L'.length L'.length false, .int .i64 q'], .row 3 (brows L'), .box [.vsl 3 (brows L') false, .int .i64 q']]) [0, 4, 2] ?_ ?_
          · simp only [Emb, go_sem]
          have hlen := hk.len; have hlo := hk.lo; have hhi := hk.hi
          have hl := blen_spec L' q'
          have hls := blost_spec L' q'
          have hself1 : ((L'.length : Int) != (L'.length : Int)) = false := by simp
          have hself2 : (q' != q') = false := by simp
          unfold bagM at hl hls
          skip
          refine run_ok 4000 _ _ _ _ ?_
          simp (maxSteps := 10000000) only [go_sem, brows_len, hself1, hself2]
          refine sem_drawG l11_1_ok (by kernel_rfl) ?_
          intro KK hKK
          simp (maxSteps := 10000000) only [go_sem, l11_1, brows_len, hself1, hself2]
          refine TriZ.of (((hl).embed [0, 1] rfl (by repeat' first | exact trivial | rfl | (simp only [go_sem]; done) | constructor) rfl (by first | rfl | simp only [go_sem]) rfl (by simp)).mono ?_)
          rintro _ _ ⟨_, _, ⟨rfl, rfl⟩, rfl, rfl⟩
          simp (maxSteps := 10000000) only [go_sem, brows_len, hself1, hself2]
          refine TriZ.of (((hls).embed [0, 1] rfl (by repeat' first | exact trivial | rfl | (simp only [go_sem]; done) | constructor) rfl (by first | rfl | simp only [go_sem]) rfl (by simp)).mono ?_)
          rintro _ _ ⟨_, _, ⟨rfl, rfl⟩, rfl, rfl⟩
          simp (maxSteps := 10000000) only [go_sem, brows_len, hself1, hself2]
          subst hKK
          simp (maxSteps := 10000000) only [go_sem, brows_len, hself1, hself2]
          refine sem_rounds (fun j : Nat => j ≤ L'.length)
            (fun j => [(0, .vsl 7 xs false), (3, .pbox 0 0), (4, .pbox 2 0), (5, .int .i64 (i : Nat)), (109, .vsl 3 (brows L') false), (110, .int .i64 L'.length), (111, .int .i64 (j : Nat))])
            (fun j => [.box [.sl 1 0 L'.length L'.length false, .int .i64 q'], .row 3 (brows L'), .box [.vsl 3 (brows L') false, .int .i64 q']]) (fun j => L'.length - j) 0 [0, 1, 2] (by simp) ?_ ?_
          · simp only [Emb, go_sem]
          intro j hj
          skip
          refine run_ok 4000 _ _ _ _ ?_
          simp (maxSteps := 10000000) only [go_sem]
          refine ⟨fun hlt => ?_, fun hge => ?_⟩
          · have hlt : j < L'.length := by omega
            have hin : (j : Int) < (L'.length : Int) := by omega
            have hit := item_spec L' q' (j : Nat) (by omega) (by omega)
            have hpl : place L'.length (j : Nat) = j := by
              have := place_int (n := L'.length) (by omega) (j : Nat)
              rw [Int.emod_eq_of_lt (by omega) (by omega)] at this; omega
            rw [hpl] at hit
            unfold bagM at hit
            skip
            simp (maxSteps := 10000000) only [go_sem, brow, brows_len, ga_eq hlt, brows_h0 hlt, brows_h1 hlt, brows_h2 hlt, brows_r0 hlt, brows_r1 hlt, brows_r2 hlt, hin, Int.natCast_nonneg, seqb_self, inc64 (show j < 1000000000000 by omega)]
            refine sem_call rfl rfl (((hit).embed [0, 1] rfl (by repeat' first | exact trivial | rfl | (simp only [go_sem]; done) | constructor) rfl (by first | rfl | simp only [go_sem]) rfl (by simp)).mono ?_)
            rintro _ _ ⟨_, _, ⟨rfl, rfl⟩, rfl, rfl⟩
            refine run_ok 4000 _ _ _ _ ?_
            simp (maxSteps := 10000000) only [go_sem, brow, brows_len, ga_eq hlt, brows_h0 hlt, brows_h1 hlt, brows_h2 hlt, brows_r0 hlt, brows_r1 hlt, brows_r2 hlt, hin, Int.natCast_nonneg, seqb_self, inc64 (show j < 1000000000000 by omega)]
            refine ⟨j + 1, by omega, by omega, [0, 1, 2], ?_⟩
            simp only [Emb, go_sem]
          · skip
            refine run_ok 4000 _ _ _ _ ?_
            simp (maxSteps := 10000000) only [go_sem, inc64 (show i < 1000000000000 by omega)]
            refine ⟨(i + 1, L', q'), by simp only; omega, ⟨by simp only; omega, hk⟩, [0, 1, 2], ?_⟩
            simp only [Emb, go_sem]
        · rw [kk] at e0
          unfold refB bagM bagG at hpl
          simp only [arow, kk] at hpl
          skip
          simp (maxSteps := 10000000) only [go_sem, hin, e0, e1, e2, e3, e4, e5, e6, i0, i1, i2, i3, i4, i5, i6, Int.natCast_nonneg]
          refine sem_call rfl rfl (((cut_spec a.s 10 (by omega)).embed [] rfl trivial rfl rfl rfl (by simp)).mono ?_)
          rintro _ _ ⟨_, _, ⟨rfl, rfl⟩, rfl, rfl⟩
          refine run_ok 4000 _ _ _ _ ?_
          simp (maxSteps := 10000000) only [go_sem, hin, e0, e1, e2, e3, e4, e5, e6, i0, i1, i2, i3, i4, i5, i6, Int.natCast_nonneg]
          refine sem_call rfl rfl (((hpl).embed [0, 1] rfl (by repeat' first | exact trivial | rfl | (simp only [go_sem]; done) | constructor) rfl (by first | rfl | simp only [go_sem]) rfl (by simp)).mono ?_)
          rintro _ _ ⟨_, _, ⟨rfl, rfl⟩, rfl, rfl⟩
          refine run_ok 4000 _ _ _ _ ?_
          simp (maxSteps := 10000000) only [go_sem, hin, e0, e1, e2, e3, e4, e5, e6, i0, i1, i2, i3, i4, i5, i6, Int.natCast_nonneg]
          obtain ⟨q', hq'⟩ : ∃ q', q' = q := ⟨q, rfl⟩
          obtain ⟨L', hL'⟩ : ∃ L', L' = L := ⟨L, rfl⟩
          rw [← hq', ← hL'] at hk ⊢
          clear hq' hL'
          refine sem_sub (sl := [(0, .vsl 7 xs false), (3, .pbox 0 0), (4, .pbox 2 0), (5, .int .i64 (i : Nat)), (7, .bsym true)]) (m2 := [.box [.sl 1 0 L'.length L'.length false, .int .i64 q'], .row 3 (brows L'), .box [.vsl 3 (brows L') false, .int .i64 q']]) [0, 4, 2] ?_ ?_
          · simp only [Emb, go_sem]
          have hlen := hk.len; have hlo := hk.lo; have hhi := hk.hi
          have hl := blen_spec L' q'
          have hls := blost_spec L' q'
          have hself1 : ((L'.length : Int) != (L'.length : Int)) = false := by simp
          have hself2 : (q' != q') = false := by simp
          unfold bagM at hl hls
          skip
          refine run_ok 4000 _ _ _ _ ?_
          simp (maxSteps := 10000000) only [go_sem, brows_len, hself1, hself2]
          refine sem_drawG l11_1_ok (by kernel_rfl) ?_
          intro KK hKK
          simp (maxSteps := 10000000) only [go_sem, l11_1, brows_len, hself1, hself2]
          refine TriZ.of (((hl).embed [0, 1] rfl (by repeat' first | exact trivial | rfl | (simp only [go_sem]; done) | constructor) rfl (by first | rfl | simp only [go_sem]) rfl (by simp)).mono ?_)
          rintro _ _ ⟨_, _, ⟨rfl, rfl⟩, rfl, rfl⟩
          simp (maxSteps := 10000000) only [go_sem, brows_len, hself1, hself2]
          refine TriZ.of (((hls).embed [0, 1] rfl (by repeat' first | exact trivial | rfl | (simp only [go_sem]; done) | constructor) rfl (by first | rfl | simp only [go_sem]) rfl (by simp)).mono ?_)
          rintro _ _ ⟨_, _, ⟨rfl, rfl⟩, rfl, rfl⟩
          simp (maxSteps := 10000000) only [go_sem, brows_len, hself1, hself2]
          subst hKK
          simp (maxSteps := 10000000) only [go_sem, brows_len, hself1, hself2]
          refine sem_rounds (fun j : Nat => j ≤ L'.length)
            (fun j => [(0, .vsl 7 xs false), (3, .pbox 0 0), (4, .pbox 2 0), (5, .int .i64 (i : Nat)), (109, .vsl 3 (brows L') false), (110, .int .i64 L'.length), (111, .int .i64 (j : Nat))])
            (fun j => [.box [.sl 1 0 L'.length L'.length false, .int .i64 q'], .row 3 (brows L'), .box [.vsl 3 (brows L') false, .int .i64 q']]) (fun j => L'.length - j) 0 [0, 1, 2] (by simp) ?_ ?_
          · simp only [Emb, go_sem]
          intro j hj
          skip
          refine run_ok 4000 _ _ _ _ ?_
          simp (maxSteps := 10000000) only [go_sem]
          refine ⟨fun hlt => ?_, fun hge => ?_⟩
          · have hlt : j < L'.length := by omega
            have hin : (j : Int) < (L'.length : Int) := by omega
            have hit := item_spec L' q' (j : Nat) (by omega) (by omega)
            have hpl : place L'.length (j : Nat) = j := by
              have := place_int (n := L'.length) (by omega) (j : Nat)
              rw [Int.emod_eq_of_lt (by omega) (by omega)] at this; omega
            rw [hpl] at hit
            unfold bagM at hit
            skip
            simp (maxSteps := 10000000) only [go_sem, brow, brows_len, ga_eq hlt, brows_h0 hlt, brows_h1 hlt, brows_h2 hlt, brows_r0 hlt, brows_r1 hlt, brows_r2 hlt, hin, Int.natCast_nonneg, seqb_self, inc64 (show j < 1000000000000 by omega)]
            refine sem_call rfl rfl (((hit).embed [0, 1] rfl (by repeat' first | exact trivial | rfl | (simp only [go_sem]; done) | constructor) rfl (by first | rfl | simp only [go_sem]) rfl (by simp)).mono ?_)
            rintro _ _ ⟨_, _, ⟨rfl, rfl⟩, rfl, rfl⟩
            refine run_ok 4000 _ _ _ _ ?_
            simp (maxSteps := 10000000) only [go_sem, brow, brows_len, ga_eq hlt, brows_h0 hlt, brows_h1 hlt, brows_h2 hlt, brows_r0 hlt, brows_r1 hlt, brows_r2 hlt, hin, Int.natCast_nonneg, seqb_self, inc64 (show j < 1000000000000 by omega)]
            refine ⟨j + 1, by omega, by omega, [0, 1, 2], ?_⟩
            simp only [Emb, go_sem]
          · skip
            refine run_ok 4000 _ _ _ _ ?_
            simp (maxSteps := 10000000) only [go_sem, inc64 (show i < 1000000000000 by omega)]
            refine ⟨(i + 1, L', q'), by simp only; omega, ⟨by simp only; omega, hk⟩, [0, 1, 2], ?_⟩
            simp only [Emb, go_sem]
        · rw [kk] at e0
          unfold refB bagM bagG at hpl
          simp only [arow, kk] at hpl
          skip
          simp (maxSteps := 10000000) only [go_sem, hin, e0, e1, e2, e3, e4, e5, e6, i0, i1, i2, i3, i4, i5, i6, Int.natCast_nonneg]
          refine sem_call rfl rfl (((cut_spec a.s 10 (by omega)).embed [] rfl trivial rfl rfl rfl (by simp)).mono ?_)
          rintro _ _ ⟨_, _, ⟨rfl, rfl⟩, rfl, rfl⟩
          refine run_ok 4000 _ _ _ _ ?_
          simp (maxSteps := 10000000) only [go_sem, hin, e0, e1, e2, e3, e4, e5, e6, i0, i1, i2, i3, i4, i5, i6, Int.natCast_nonneg]
          refine sem_call rfl rfl (((hpl).embed [0, 1] rfl (by repeat' first | exact trivial | rfl | (simp only [go_sem]; done) | constructor) rfl (by first | rfl | simp only [go_sem]) rfl (by simp)).mono ?_)
          rintro _ _ ⟨_, _, ⟨rfl, rfl⟩, rfl, rfl⟩
          refine run_ok 4000 _ _ _ _ ?_
          simp (maxSteps := 10000000) only [go_sem, hin, e0, e1, e2, e3, e4, e5, e6, i0, i1, i2, i3, i4, i5, i6, Int.natCast_nonneg]
          obtain ⟨q', hq'⟩ : ∃ q', q' = q := ⟨q, rfl⟩
          obtain ⟨L', hL'⟩ : ∃ L', L' = L := ⟨L, rfl⟩
          rw [← hq', ← hL'] at hk ⊢
          clear hq' hL'
          refine sem_sub (sl := [(0, .vsl 7 xs false), (3, .pbox 0 0), (4, .pbox 2 0), (5, .int .i64 (i : Nat)), (7, .bsym true)]) (m2 := [.box [.sl 1 0 L'.length L'.length false, .int .i64 q'], .row 3 (brows L'), .box [.vsl 3 (brows L') false, .int .i64 q']]) [0, 4, 2] ?_ ?_
          · simp only [Emb, go_sem]
          have hlen := hk.len; have hlo := hk.lo; have hhi := hk.hi
          have hl := blen_spec L' q'
          have hls := blost_spec L' q'
          have hself1 : ((L'.length : Int) != (L'.length : Int)) = false := by simp
          have hself2 : (q' != q') = false := by simp
          unfold bagM at hl hls
          skip
          refine run_ok 4000 _ _ _ _ ?_
          simp (maxSteps := 10000000) only [go_sem, brows_len, hself1, hself2]
          refine sem_drawG l11_1_ok (by kernel_rfl) ?_
          intro KK hKK
          simp (maxSteps := 10000000) only [go_sem, l11_1, brows_len, hself1, hself2]
          refine TriZ.of (((hl).embed [0, 1] rfl (by repeat' first | exact trivial | rfl | (simp only [go_sem]; done) | constructor) rfl (by first | rfl | simp only [go_sem]) rfl (by simp)).mono ?_)
          rintro _ _ ⟨_, _, ⟨rfl, rfl⟩, rfl, rfl⟩
          simp (maxSteps := 10000000) only [go_sem, brows_len, hself1, hself2]
          refine TriZ.of (((hls).embed [0, 1] rfl (by repeat' first | exact trivial | rfl | (simp only [go_sem]; done) | constructor) rfl (by first | rfl | simp only [go_sem]) rfl (by simp)).mono ?_)
          rintro _ _ ⟨_, _, ⟨rfl, rfl⟩, rfl, rfl⟩
          simp (maxSteps := 10000000) only [go_sem, brows_len, hself1, hself2]
          subst hKK
          simp (maxSteps := 10000000) only [go_sem, brows_len, hself1, hself2]
          refine sem_rounds (fun j : Nat => j ≤ L'.length)
            (fun j => [(0, .vsl 7 xs false), (3, .pbox 0 0), (4, .pbox 2 0), (5, .int .i64 (i : Nat)), (109, .vsl 3 (brows L') false), (110, .int .i64 L'.length), (111, .int .i64 (j : Nat))])
            (fun j => [.box [.sl 1 0 L'.length L'.length false, .int .i64 q'], .row 3 (brows L'), .box [.vsl 3 (brows L') false, .int .i64 q']]) (fun j => L'.length - j) 0 [0, 1, 2] (by simp) ?_ ?_
          · simp only [Emb, go_sem]
          intro j hj
          skip
          refine run_ok 4000 _ _ _ _ ?_
          simp (maxSteps := 10000000) only [go_sem]
          refine ⟨fun hlt => ?_, fun hge => ?_⟩
          · have hlt : j < L'.length := by omega
            have hin : (j : Int) < (L'.length : Int) := by omega
            have hit := item_spec L' q' (j : Nat) (by omega) (by omega)
            have hpl : place L'.length (j : Nat) = j := by
              have := place_int (n := L'.length) (by omega) (j : Nat)
              rw [Int.emod_eq_of_lt (by omega) (by omega)] at this; omega
            rw [hpl] at hit
            unfold bagM at hit
            skip
            simp (maxSteps := 10000000) only [go_sem, brow, brows_len, ga_eq hlt, brows_h0 hlt, brows_h1 hlt, brows_h2 hlt, brows_r0 hlt, brows_r1 hlt, brows_r2 hlt, hin, Int.natCast_nonneg, seqb_self, inc64 (show j < 1000000000000 by omega)]
            refine sem_call rfl rfl (((hit).embed [0, 1] rfl (by repeat' first | exact trivial | rfl | (simp only [go_sem]; done) | constructor) rfl (by first | rfl | simp only [go_sem]) rfl (by simp)).mono ?_)
            rintro _ _ ⟨_, _, ⟨rfl, rfl⟩, rfl, rfl⟩
            refine run_ok 4000 _ _ _ _ ?_
            simp (maxSteps := 10000000) only [go_sem, brow, brows_len, ga_eq hlt, brows_h0 hlt, brows_h1 hlt, brows_h2 hlt, brows_r0 hlt, brows_r1 hlt, brows_r2 hlt, hin, Int.natCast_nonneg, seqb_self, inc64 (show j < 1000000000000 by omega)]
            refine ⟨j + 1, by omega, by omega, [0, 1, 2], ?_⟩
            simp only [Emb, go_sem]
          · skip
            refine run_ok 4000 _ _ _ _ ?_
            simp (maxSteps := 10000000) only [go_sem, inc64 (show i < 1000000000000 by omega)]
            refine ⟨(i + 1, L', q'), by simp only; omega, ⟨by simp only; omega, hk⟩, [0, 1, 2], ?_⟩
            simp only [Emb, go_sem]
        · rw [kk] at e0
          unfold refB bagM bagG at hpl
          simp only [arow, kk] at hpl
          skip
          simp (maxSteps := 10000000) only [go_sem, hin, e0, e1, e2, e3, e4, e5, e6, i0, i1, i2, i3, i4, i5, i6, Int.natCast_nonneg]
          refine sem_call rfl rfl (((cut_spec a.s 10 (by omega)).embed [] rfl trivial rfl rfl rfl (by simp)).mono ?_)
          rintro _ _ ⟨_, _, ⟨rfl, rfl⟩, rfl, rfl⟩
          refine run_ok 4000 _ _ _ _ ?_
          simp (maxSteps := 10000000) only [go_sem, hin, e0, e1, e2, e3, e4, e5, e6, i0, i1, i2, i3, i4, i5, i6, Int.natCast_nonneg]
          refine sem_call rfl rfl (((hpl).embed [0, 1] rfl (by repeat' first | exact trivial | rfl | (simp only [go_sem]; done) | constructor) rfl (by first | rfl | simp only [go_sem]) rfl (by simp)).mono ?_)
          rintro _ _ ⟨_, _, ⟨rfl, rfl⟩, rfl, rfl⟩
          refine run_ok 4000 _ _ _ _ ?_
          simp (maxSteps := 10000000) only [go_sem, hin, e0, e1, e2, e3, e4, e5, e6, i0, i1, i2, i3, i4, i5, i6, Int.natCast_nonneg]
          obtain ⟨q', hq'⟩ : ∃ q', q' = q := ⟨q, rfl⟩
          obtain ⟨L', hL'⟩ : ∃ L', L' = L := ⟨L, rfl⟩
          rw [← hq', ← hL'] at hk ⊢
          clear hq' hL'
          refine sem_sub (sl := [(0, .vsl 7 xs false), (3, .pbox 0 0), (4, .pbox 2 0), (5, .int .i64 (i : Nat)), (7, .bsym true)]) (m2 := [.box [.sl 1 0 L'.length L'.length false, .int .i64 q'], .row 3 (brows L'), .box [.vsl 3 (brows L') false, .int .i64 q']]) [0, 4, 2] ?_ ?_
          · simp only [Emb, go_sem]
          have hlen := hk.len; have hlo := hk.lo; have hhi := hk.hi
          have hl := blen_spec L' q'
          have hls := blost_spec L' q'
          have hself1 : ((L'.length : Int) != (L'.length : Int)) = false := by simp
          have hself2 : (q' != q') = false := by simp
          unfold bagM at hl hls
          skip
          refine run_ok 4000 _ _ _ _ ?_
          simp (maxSteps := 10000000) only [go_sem, brows_len, hself1, hself2]
          refine sem_drawG l11_1_ok (by kernel_rfl) ?_
          intro KK hKK
          simp (maxSteps := 10000000) only [go_sem, l11_1, brows_len, hself1, hself2]
          refine TriZ.of (((hl).embed [0, 1] rfl (by repeat' first | exact trivial | rfl | (simp only [go_sem]; done) | constructor) rfl (by first | rfl | simp only [go_sem]) rfl (by simp)).mono ?_)
          rintro _ _ ⟨_, _, ⟨rfl, rfl⟩, rfl, rfl⟩
          simp (maxSteps := 10000000) only [go_sem, brows_len, hself1, hself2]
          refine TriZ.of (((hls).embed [0, 1] rfl (by repeat' first | exact trivial | rfl | (simp only [go_sem]; done) | constructor) rfl (by first | rfl | simp only [go_sem]) rfl (by simp)).mono ?_)
          rintro _ _ ⟨_, _, ⟨rfl, rfl⟩, rfl, rfl⟩
          simp (maxSteps := 10000000) only [go_sem, brows_len, hself1, hself2]
          subst hKK
          simp (maxSteps := 10000000) only [go_sem, brows_len, hself1, hself2]
          refine sem_rounds (fun j : Nat => j ≤ L'.length)
            (fun j => [(0, .vsl 7 xs false), (3, .pbox 0 0), (4, .pbox 2 0), (5, .int .i64 (i : Nat)), (109, .vsl 3 (brows L') false), (110, .int .i64 L'.length), (111, .int .i64 (j : Nat))])
            (fun j => [.box [.sl 1 0 L'.length L'.length false, .int .i64 q'], .row 3 (brows L'), .box [.vsl 3 (brows L') false, .int .i64 q']]) (fun j => L'.length - j) 0 [0, 1, 2] (by simp) ?_ ?_
          · simp only [Emb, go_sem]
          intro j hj
          skip
          refine run_ok 4000 _ _ _ _ ?_
          simp (maxSteps := 10000000) only [go_sem]
          refine ⟨fun hlt => ?_, fun hge => ?_⟩
          · have hlt : j < L'.length := by omega
            have hin : (j : Int) < (L'.length : Int) := by omega
            have hit := item_spec L' q' (j : Nat) (by omega) (by omega)
            have hpl : place L'.length (j : Nat) = j := by
              have := place_int (n := L'.length) (by omega) (j : Nat)
              rw [Int.emod_eq_of_lt (by omega) (by omega)] at this; omega
            rw [hpl] at hit
            unfold bagM at hit
            skip
            simp (maxSteps := 10000000) only [go_sem, brow, brows_len, ga_eq hlt, brows_h0 hlt, brows_h1 hlt, brows_h2 hlt, brows_r0 hlt, brows_r1 hlt, brows_r2 hlt, hin, Int.natCast_nonneg, seqb_self, inc64 (show j < 1000000000000 by omega)]
            refine sem_call rfl rfl (((hit).embed [0, 1] rfl (by repeat' first | exact trivial | rfl | (simp only [go_sem]; done) | constructor) rfl (by first | rfl | simp only [go_sem]) rfl (by simp)).mono ?_)
            rintro _ _ ⟨_, _, ⟨rfl, rfl⟩, rfl, rfl⟩
            refine run_ok 4000 _ _ _ _ ?_
            simp (maxSteps := 10000000) only [go_sem, brow, brows_len, ga_eq hlt, brows_h0 hlt, brows_h1 hlt, brows_h2 hlt, brows_r0 hlt, brows_r1 hlt, brows_r2 hlt, hin, Int.natCast_nonneg, seqb_self, inc64 (show j < 1000000000000 by omega)]
            refine ⟨j + 1, by omega, by omega, [0, 1, 2], ?_⟩
            simp only [Emb, go_sem]
          · skip
            refine run_ok 4000 _ _ _ _ ?_
            simp (maxSteps := 10000000) only [go_sem, inc64 (show i < 1000000000000 by omega)]
            refine ⟨(i + 1, L', q'), by simp only; omega, ⟨by simp only; omega, hk⟩, [0, 1, 2], ?_⟩
            simp only [Emb, go_sem]
      have h0 : 0 < L.length := by omega
      have hp := place_lt h0 a.k
      rcases k2345 with kk | kk | kk | kk
      · have hpl := places_take L q ⟨a.kind, a.src, a.dst, a.k, a.i, a.b, a.s.take 10⟩ h0 hlen kk
        have hk := hk0.sub (M := wout L (place L.length a.k)) 0 (by omega) (by unfold wout; rw [wout_len hp]; omega) wout_mem
        simp only [Int.ofNat_zero, Int.natCast_zero, Int.add_zero] at hk
        rw [kk] at e0
        unfold refB bagM bagG at hpl
        simp only [arow, kk] at hpl
        skip
        simp (maxSteps := 10000000) only [go_sem, hin, e0, e1, e2, e3, e4, e5, e6, i0, i1, i2, i3, i4, i5, i6, Int.natCast_nonneg]
        refine sem_call rfl rfl (((cut_spec a.s 10 (by omega)).embed [] rfl trivial rfl rfl rfl (by simp)).mono ?_)
        rintro _ _ ⟨_, _, ⟨rfl, rfl⟩, rfl, rfl⟩
        refine run_ok 4000 _ _ _ _ ?_
        simp (maxSteps := 10000000) only [go_sem, hin, e0, e1, e2, e3, e4, e5, e6, i0, i1, i2, i3, i4, i5, i6, Int.natCast_nonneg]
        refine sem_call rfl rfl (((hpl).embed [0, 1] rfl (by repeat' first | exact trivial | rfl | (simp only [go_sem]; done) | constructor) rfl (by first | rfl | simp only [go_sem]) rfl (by simp)).mono ?_)
        rintro _ _ ⟨_, _, ⟨rfl, rfl⟩, rfl, rfl⟩
        refine run_ok 4000 _ _ _ _ ?_
        simp (maxSteps := 10000000) only [go_sem, hin, e0, e1, e2, e3, e4, e5, e6, i0, i1, i2, i3, i4, i5, i6, Int.natCast_nonneg]
        obtain ⟨q', hq'⟩ : ∃ q', q' = q := ⟨q, rfl⟩
        obtain ⟨L', hL'⟩ : ∃ L', L' = wout L (place L.length a.k) := ⟨wout L (place L.length a.k), rfl⟩
        rw [← hq', ← hL'] at hk ⊢
        clear hq' hL'
        refine sem_sub (sl := [(0, .vsl 7 xs false), (3, .pbox 0 0), (4, .pbox 2 0), (5, .int .i64 (i : Nat)), (7, .bsym true)]) (m2 := [.box [.sl 1 0 L'.length L'.length false, .int .i64 q'], .row 3 (brows L'), .box [.vsl 3 (brows L') false, .int .i64 q']]) [0, 4, 2] ?_ ?_
        · simp only [Emb, go_sem]
        have hlen := hk.len; have hlo := hk.lo; have hhi := hk.hi
        have hl := blen_spec L' q'
        have hls := blost_spec L' q'
        have hself1 : ((L'.length : Int) != (L'.length : Int)) = false := by simp
        have hself2 : (q' != q') = false := by simp
        unfold bagM at hl hls
        skip
        refine run_ok 4000 _ _ _ _ ?_
        simp (maxSteps := 10000000) only [go_sem, brows_len, hself1, hself2]
        refine sem_drawG l11_1_ok (by kernel_rfl) ?_
        intro KK hKK
        simp (maxSteps := 10000000) only [go_sem, l11_1, brows_len, hself1, hself2]
        refine TriZ.of (((hl).embed [0, 1] rfl (by repeat' first | exact trivial | rfl | (simp only [go_sem]; done) | constructor) rfl (by first | rfl | simp only [go_sem]) rfl (by simp)).mono ?_)
        rintro _ _ ⟨_, _, ⟨rfl, rfl⟩, rfl, rfl⟩
        simp (maxSteps := 10000000) only [go_sem, brows_len, hself1, hself2]
        refine TriZ.of (((hls).embed [0, 1] rfl (by repeat' first | exact trivial | rfl | (simp only [go_sem]; done) | constructor) rfl (by first | rfl | simp only [go_sem]) rfl (by simp)).mono ?_)
        rintro _ _ ⟨_, _, ⟨rfl, rfl⟩, rfl, rfl⟩
        simp (maxSteps := 10000000) only [go_sem, brows_len, hself1, hself2]
        subst hKK
        simp (maxSteps := 10000000) only [go_sem, brows_len, hself1, hself2]
        refine sem_rounds (fun j : Nat => j ≤ L'.length)
          (fun j => [(0, .vsl 7 xs false), (3, .pbox 0 0), (4, .pbox 2 0), (5, .int .i64 (i : Nat)), (109, .vsl 3 (brows L') false), (110, .int .i64 L'.length), (111, .int .i64 (j : Nat))])
          (fun j => [.box [.sl 1 0 L'.length L'.length false, .int .i64 q'], .row 3 (brows L'), .box [.vsl 3 (brows L') false, .int .i64 q']]) (fun j => L'.length - j) 0 [0, 1, 2] (by simp) ?_ ?_
        · simp only [Emb, go_sem]
        intro j hj
        skip
        refine run_ok 4000 _ _ _ _ ?_
        simp (maxSteps := 10000000) only [go_sem]
        refine ⟨fun hlt => ?_, fun hge => ?_⟩
        · have hlt : j < L'.length := by omega
          have hin : (j : Int) < (L'.length : Int) := by omega
          have hit := item_spec L' q' (j : Nat) (by omega) (by omega)
          have hpl : place L'.length (j : Nat) = j := by
            have := place_int (n := L'.length) (by omega) (j : Nat)
            rw [Int.emod_eq_of_lt (by omega) (by omega)] at this; omega
          rw [hpl] at hit
          unfold bagM at hit
          skip
          simp (maxSteps := 10000000) only [go_sem, brow, brows_len, ga_eq hlt, brows_h0 hlt, brows_h1 hlt, brows_h2 hlt, brows_r0 hlt, brows_r1 hlt, brows_r2 hlt, hin, Int.natCast_nonneg, seqb_self, inc64 (show j < 1000000000000 by omega)]
          refine sem_call rfl rfl (((hit).embed [0, 1] rfl (by repeat' first | exact trivial | rfl | (simp only [go_sem]; done) | constructor) rfl (by first | rfl | simp only [go_sem]) rfl (by simp)).mono ?_)
          rintro _ _ ⟨_, _, ⟨rfl, rfl⟩, rfl, rfl⟩
          refine run_ok 4000 _ _ _ _ ?_
          simp (maxSteps := 10000000) only [go_sem, brow, brows_len, ga_eq hlt, brows_h0 hlt, brows_h1 hlt, brows_h2 hlt, brows_r0 hlt, brows_r1 hlt, brows_r2 hlt, hin, Int.natCast_nonneg, seqb_self, inc64 (show j < 1000000000000 by omega)]
          refine ⟨j + 1, by omega, by omega, [0, 1, 2], ?_⟩
          simp only [Emb, go_sem]
        · skip
          refine run_ok 4000 _ _ _ _ ?_
          simp (maxSteps := 10000000) only [go_sem, inc64 (show i < 1000000000000 by omega)]
          refine ⟨(i + 1, L', q'), by simp only; omega, ⟨by simp only; omega, hk⟩, [0, 1, 2], ?_⟩
          simp only [Emb, go_sem]
      · have hpl := places_lose L q ⟨a.kind, a.src, a.dst, a.k, a.i, a.b, a.s.take 10⟩ h0 hlen (by omega) kk
        have hk := hk0.sub (M := wout L (place L.length a.k)) 1 (by omega) (by unfold wout; rw [wout_len hp]; omega) wout_mem
        have hk : BOk (i + 1) (wout L (place L.length a.k)) (q + 1) := hk
        rw [kk] at e0
        unfold refB bagM bagG at hpl
        simp only [arow, kk] at hpl
        skip
        simp (maxSteps := 10000000) only [go_sem, hin, e0, e1, e2, e3, e4, e5, e6, i0, i1, i2, i3, i4, i5, i6, Int.natCast_nonneg]
        refine sem_call rfl rfl (((cut_spec a.s 10 (by omega)).embed [] rfl trivial rfl rfl rfl (by simp)).mono ?_)
        rintro _ _ ⟨_, _, ⟨rfl, rfl⟩, rfl, rfl⟩
        refine run_ok 4000 _ _ _ _ ?_
        simp (maxSteps := 10000000) only [go_sem, hin, e0, e1, e2, e3, e4, e5, e6, i0, i1, i2, i3, i4, i5, i6, Int.natCast_nonneg]
        refine sem_call rfl rfl (((hpl).embed [0, 1] rfl (by repeat' first | exact trivial | rfl | (simp only [go_sem]; done) | constructor) rfl (by first | rfl | simp only [go_sem]) rfl (by simp)).mono ?_)
        rintro _ _ ⟨_, _, ⟨rfl, rfl⟩, rfl, rfl⟩
        refine run_ok 4000 _ _ _ _ ?_
        simp (maxSteps := 10000000) only [go_sem, hin, e0, e1, e2, e3, e4, e5, e6, i0, i1, i2, i3, i4, i5, i6, Int.natCast_nonneg]
        obtain ⟨q', hq'⟩ : ∃ q', q' = q + 1 := ⟨q + 1, rfl⟩
        obtain ⟨L', hL'⟩ : ∃ L', L' = wout L (place L.length a.k) := ⟨wout L (place L.length a.k), rfl⟩
        rw [← hq', ← hL'] at hk ⊢
        clear hq' hL'
        refine sem_sub (sl := [(0, .vsl 7 xs false), (3, .pbox 0 0), (4, .pbox 2 0), (5, .int .i64 (i : Nat)), (7, .bsym true)]) (m2 := [.box [.sl 1 0 L'.length L'.length false, .int .i64 q'], .row 3 (brows L'), .box [.vsl 3 (brows L') false, .int .i64 q']]) [0, 4, 2] ?_ ?_
        · simp only [Emb, go_sem]
        have hlen := hk.len; have hlo := hk.lo; have hhi := hk.hi
        have hl := blen_spec L' q'
        have hls := blost_spec L' q'
        have hself1 : ((L'.length : Int) != (L'.length : Int)) = false := by simp
        have hself2 : (q' != q') = false := by simp
        unfold bagM at hl hls
        skip
        refine run_ok 4000 _ _ _ _ ?_
        simp (maxSteps := 10000000) only [go_sem, brows_len, hself1, hself2]
        refine sem_drawG l11_1_ok (by kernel_rfl) ?_
        intro KK hKK
        simp (maxSteps := 10000000) only [go_sem, l11_1, brows_len, hself1, hself2]
        refine TriZ.of (((hl).embed [0, 1] rfl (by repeat' first | exact trivial | rfl | (simp only [go_sem]; done) | constructor) rfl (by first | rfl | simp only [go_sem]) rfl (by simp)).mono ?_)
        rintro _ _ ⟨_, _, ⟨rfl, rfl⟩, rfl, rfl⟩
        simp (maxSteps := 10000000) only [go_sem, brows_len, hself1, hself2]
        refine TriZ.of (((hls).embed [0, 1] rfl (by repeat' first | exact trivial | rfl | (simp only [go_sem]; done) | constructor) rfl (by first | rfl | simp only [go_sem]) rfl (by simp)).mono ?_)
        rintro _ _ ⟨_, _, ⟨rfl, rfl⟩, rfl, rfl⟩
        simp (maxSteps := 10000000) only [go_sem, brows_len, hself1, hself2]
        subst hKK
        simp (maxSteps := 10000000) only [go_sem, brows_len, hself1, hself2]
        refine sem_rounds (fun j : Nat => j ≤ L'.length)
          (fun j => [(0, .vsl 7 xs false), (3, .pbox 0 0), (4, .pbox 2 0), (5, .int .i64 (i : Nat)), (109, .vsl 3 (brows L') false), (110, .int .i64 L'.length), (111, .int .i64 (j : Nat))])
          (fun j => [.box [.sl 1 0 L'.length L'.length false, .int .i64 q'], .row 3 (brows L'), .box [.vsl 3 (brows L') false, .int .i64 q']]) (fun j => L'.length - j) 0 [0, 1, 2] (by simp) ?_ ?_
        · simp only [Emb, go_sem]
        intro j hj
        skip
        refine run_ok 4000 _ _ _ _ ?_
        simp (maxSteps := 10000000) only [go_sem]
        refine ⟨fun hlt => ?_, fun hge => ?_⟩
        · have hlt : j < L'.length := by omega
          have hin : (j : Int) < (L'.length : Int) := by omega
          have hit := item_spec L' q' (j : Nat) (by omega) (by omega)
          have hpl : place L'.length (j : Nat) = j := by
            have := place_int (n := L'.length) (by omega) (j : Nat)
            rw [Int.emod_eq_of_lt (by omega) (by omega)] at this; omega
          rw [hpl] at hit
          unfold bagM at hit
          skip
          simp (maxSteps := 10000000) only [go_sem, brow, brows_len, ga_eq hlt, brows_h0 hlt, brows_h1 hlt, brows_h2 hlt, brows_r0 hlt, brows_r1 hlt, brows_r2 hlt, hin, Int.natCast_nonneg, seqb_self, inc64 (show j < 1000000000000 by omega)]
          refine sem_call rfl rfl (((hit).embed [0, 1] rfl (by repeat' first | exact trivial | rfl | (simp only [go_sem]; done) | constructor) rfl (by first | rfl | simp only [go_sem]) rfl (by simp)).mono ?_)
          rintro _ _ ⟨_, _, ⟨rfl, rfl⟩, rfl, rfl⟩
          refine run_ok 4000 _ _ _ _ ?_
          simp (maxSteps := 10000000) only [go_sem, brow, brows_len, ga_eq hlt, brows_h0 hlt, brows_h1 hlt, brows_h2 hlt, brows_r0 hlt, brows_r1 hlt, brows_r2 hlt, hin, Int.natCast_nonneg, seqb_self, inc64 (show j < 1000000000000 by omega)]
          refine ⟨j + 1, by omega, by omega, [0, 1, 2], ?_⟩
          simp only [Emb, go_sem]
        · skip
          refine run_ok 4000 _ _ _ _ ?_
          simp (maxSteps := 10000000) only [go_sem, inc64 (show i < 1000000000000 by omega)]
          refine ⟨(i + 1, L', q'), by simp only; omega, ⟨by simp only; omega, hk⟩, [0, 1, 2], ?_⟩
          simp only [Emb, go_sem]
      · by_cases hf : L.length < 400
        · have hpl := places_twice L q ⟨a.kind, a.src, a.dst, a.k, a.i, a.b, a.s.take 10⟩ h0 hf kk
          have hk := hk0.put hf (x := ga L (place L.length a.k)) (hk0.ga hp)
          rw [kk] at e0
          unfold refB bagM bagG at hpl
          simp only [arow, kk] at hpl
          skip
          simp (maxSteps := 10000000) only [go_sem, hin, e0, e1, e2, e3, e4, e5, e6, i0, i1, i2, i3, i4, i5, i6, Int.natCast_nonneg]
          refine sem_call rfl rfl (((cut_spec a.s 10 (by omega)).embed [] rfl trivial rfl rfl rfl (by simp)).mono ?_)
          rintro _ _ ⟨_, _, ⟨rfl, rfl⟩, rfl, rfl⟩
          refine run_ok 4000 _ _ _ _ ?_
          simp (maxSteps := 10000000) only [go_sem, hin, e0, e1, e2, e3, e4, e5, e6, i0, i1, i2, i3, i4, i5, i6, Int.natCast_nonneg]
          refine sem_call rfl rfl (((hpl).embed [0, 1] rfl (by repeat' first | exact trivial | rfl | (simp only [go_sem]; done) | constructor) rfl (by first | rfl | simp only [go_sem]) rfl (by simp)).mono ?_)
          rintro _ _ ⟨_, _, ⟨rfl, rfl⟩, rfl, rfl⟩
          refine run_ok 4000 _ _ _ _ ?_
          simp (maxSteps := 10000000) only [go_sem, hin, e0, e1, e2, e3, e4, e5, e6, i0, i1, i2, i3, i4, i5, i6, Int.natCast_nonneg]
          obtain ⟨q', hq'⟩ : ∃ q', q' = q := ⟨q, rfl⟩
          obtain ⟨L', hL'⟩ : ∃ L', L' = L ++ [ga L (place L.length a.k)] := ⟨L ++ [ga L (place L.length a.k)], rfl⟩
          rw [← hq', ← hL'] at hk ⊢
          clear hq' hL'
          refine sem_sub (sl := [(0, .vsl 7 xs false), (3, .pbox 0 0), (4, .pbox 2 0), (5, .int .i64 (i : Nat)), (7, .bsym true)]) (m2 := [.box [.sl 1 0 L'.length L'.length false, .int .i64 q'], .row 3 (brows L'), .box [.vsl 3 (brows L') false, .int .i64 q']]) [0, 4, 2] ?_ ?_
          · simp only [Emb, go_sem]
          have hlen := hk.len; have hlo := hk.lo; have hhi := hk.hi
          have hl := blen_spec L' q'
          have hls := blost_spec L' q'
          have hself1 : ((L'.length : Int) != (L'.length : Int)) = false := by simp
          have hself2 : (q' != q') = false := by simp
          unfold bagM at hl hls
          skip
          refine run_ok 4000 _ _ _ _ ?_
          simp (maxSteps := 10000000) only [go_sem, brows_len, hself1, hself2]
          refine sem_drawG l11_1_ok (by kernel_rfl) ?_
          intro KK hKK
          simp (maxSteps := 10000000) only [go_sem, l11_1, brows_len, hself1, hself2]
          refine TriZ.of (((hl).embed [0, 1] rfl (by repeat' first | exact trivial | rfl | (simp only [go_sem]; done) | constructor) rfl (by first | rfl | simp only [go_sem]) rfl (by simp)).mono ?_)
          rintro _ _ ⟨_, _, ⟨rfl, rfl⟩, rfl, rfl⟩
          simp (maxSteps := 10000000) only [go_sem, brows_len, hself1, hself2]
          refine TriZ.of (((hls).embed [0, 1] rfl (by repeat' first | exact trivial | rfl | (simp only [go_sem]; done) | constructor) rfl (by first | rfl | simp only [go_sem]) rfl (by simp)).mono ?_)
          rintro _ _ ⟨_, _, ⟨rfl, rfl⟩, rfl, rfl⟩
          simp (maxSteps := 10000000) only [go_sem, brows_len, hself1, hself2]
          subst hKK
          simp (maxSteps := 10000000) only [go_sem, brows_len, hself1, hself2]
          refine sem_rounds (fun j : Nat => j ≤ L'.length)
            (fun j => [(0, .vsl 7 xs false), (3, .pbox 0 0), (4, .pbox 2 0), (5, .int .i64 (i : Nat)), (109, .vsl 3 (brows L') false), (110, .int .i64 L'.length), (111, .int .i64 (j : Nat))])
            (fun j => [.box [.sl 1 0 L'.length L'.length false, .int .i64 q'], .row 3 (brows L'), .box [.vsl 3 (brows L') false, .int .i64 q']]) (fun j => L'.length - j) 0 [0, 1, 2] (by simp) ?_ ?_
          · simp only [Emb, go_sem]
          intro j hj
          skip
          refine run_ok 4000 _ _ _ _ ?_
          simp (maxSteps := 10000000) only [go_sem]
          refine ⟨fun hlt => ?_, fun hge => ?_⟩
          · have hlt : j < L'.length := by omega
            have hin : (j : Int) < (L'.length : Int) := by omega
            have hit := item_spec L' q' (j : Nat) (by omega) (by omega)
            have hpl : place L'.length (j : Nat) = j := by
              have := place_int (n := L'.length) (by omega) (j : Nat)
              rw [Int.emod_eq_of_lt (by omega) (by omega)] at this; omega
            rw [hpl] at hit
            unfold bagM at hit
            skip
            simp (maxSteps := 10000000) only [go_sem, brow, brows_len, ga_eq hlt, brows_h0 hlt, brows_h1 hlt, brows_h2 hlt, brows_r0 hlt, brows_r1 hlt, brows_r2 hlt, hin, Int.natCast_nonneg, seqb_self, inc64 (show j < 1000000000000 by omega)]
            refine sem_call rfl rfl (((hit).embed [0, 1] rfl (by repeat' first | exact trivial | rfl | (simp only [go_sem]; done) | constructor) rfl (by first | rfl | simp only [go_sem]) rfl (by simp)).mono ?_)
            rintro _ _ ⟨_, _, ⟨rfl, rfl⟩, rfl, rfl⟩
            refine run_ok 4000 _ _ _ _ ?_
            simp (maxSteps := 10000000) only [go_sem, brow, brows_len, ga_eq hlt, brows_h0 hlt, brows_h1 hlt, brows_h2 hlt, brows_r0 hlt, brows_r1 hlt, brows_r2 hlt, hin, Int.natCast_nonneg, seqb_self, inc64 (show j < 1000000000000 by omega)]
            refine ⟨j + 1, by omega, by omega, [0, 1, 2], ?_⟩
            simp only [Emb, go_sem]
          · skip
            refine run_ok 4000 _ _ _ _ ?_
            simp (maxSteps := 10000000) only [go_sem, inc64 (show i < 1000000000000 by omega)]
            refine ⟨(i + 1, L', q'), by simp only; omega, ⟨by simp only; omega, hk⟩, [0, 1, 2], ?_⟩
            simp only [Emb, go_sem]
        · have hpl := places_full L q ⟨a.kind, a.src, a.dst, a.k, a.i, a.b, a.s.take 10⟩ h0 (by omega) kk
          have hk := hk0.more
          rw [kk] at e0
          unfold refB bagM bagG at hpl
          simp only [arow, kk] at hpl
          skip
          simp (maxSteps := 10000000) only [go_sem, hin, e0, e1, e2, e3, e4, e5, e6, i0, i1, i2, i3, i4, i5, i6, Int.natCast_nonneg]
          refine sem_call rfl rfl (((cut_spec a.s 10 (by omega)).embed [] rfl trivial rfl rfl rfl (by simp)).mono ?_)
          rintro _ _ ⟨_, _, ⟨rfl, rfl⟩, rfl, rfl⟩
          refine run_ok 4000 _ _ _ _ ?_
          simp (maxSteps := 10000000) only [go_sem, hin, e0, e1, e2, e3, e4, e5, e6, i0, i1, i2, i3, i4, i5, i6, Int.natCast_nonneg]
          refine sem_call rfl rfl (((hpl).embed [0, 1] rfl (by repeat' first | exact trivial | rfl | (simp only [go_sem]; done) | constructor) rfl (by first | rfl | simp only [go_sem]) rfl (by simp)).mono ?_)
          rintro _ _ ⟨_, _, ⟨rfl, rfl⟩, rfl, rfl⟩
          refine run_ok 4000 _ _ _ _ ?_
          simp (maxSteps := 10000000) only [go_sem, hin, e0, e1, e2, e3, e4, e5, e6, i0, i1, i2, i3, i4, i5, i6, Int.natCast_nonneg]
          obtain ⟨q', hq'⟩ : ∃ q', q' = q := ⟨q, rfl⟩
          obtain ⟨L', hL'⟩ : ∃ L', L' = L := ⟨L, rfl⟩
          rw [← hq', ← hL'] at hk ⊢
          clear hq' hL'
          refine sem_sub (sl := [(0, .vsl 7 xs false), (3, .pbox 0 0), (4, .pbox 2 0), (5, .int .i64 (i : Nat)), (7, .bsym true)]) (m2 := [.box [.sl 1 0 L'.length L'.length false, .int .i64 q'], .row 3 (brows L'), .box [.vsl 3 (brows L') false, .int .i64 q']]) [0, 4, 2] ?_ ?_
          · simp only [Emb, go_sem]
          have hlen := hk.len; have hlo := hk.lo; have hhi := hk.hi
          have hl := blen_spec L' q'
          have hls := blost_spec L' q'
          have hself1 : ((L'.length : Int) != (L'.length : Int)) = false := by simp
          have hself2 : (q' != q') = false := by simp
          unfold bagM at hl hls
          skip
          refine run_ok 4000 _ _ _ _ ?_
          simp (maxSteps := 10000000) only [go_sem, brows_len, hself1, hself2]
          refine sem_drawG l11_1_ok (by kernel_rfl) ?_
          intro KK hKK
          simp (maxSteps := 10000000) only [go_sem, l11_1, brows_len, hself1, hself2]
          refine TriZ.of (((hl).embed [0, 1] rfl (by repeat' first | exact trivial | rfl | (simp only [go_sem]; done) | constructor) rfl (by first | rfl | simp only [go_sem]) rfl (by simp)).mono ?_)
          rintro _ _ ⟨_, _, ⟨rfl, rfl⟩, rfl, rfl⟩
          simp (maxSteps := 10000000) only [go_sem, brows_len, hself1, hself2]
          refine TriZ.of (((hls).embed [0, 1] rfl (by repeat' first | exact trivial | rfl | (simp only [go_sem]; done) | constructor) rfl (by first | rfl | simp only [go_sem]) rfl (by simp)).mono ?_)
          rintro _ _ ⟨_, _, ⟨rfl, rfl⟩, rfl, rfl⟩
          simp (maxSteps := 10000000) only [go_sem, brows_len, hself1, hself2]
          subst hKK
          simp (maxSteps := 10000000) only [go_sem, brows_len, hself1, hself2]
          refine sem_rounds (fun j : Nat => j ≤ L'.length)
            (fun j => [(0, .vsl 7 xs false), (3, .pbox 0 0), (4, .pbox 2 0), (5, .int .i64 (i : Nat)), (109, .vsl 3 (brows L') false), (110, .int .i64 L'.length), (111, .int .i64 (j : Nat))])
            (fun j => [.box [.sl 1 0 L'.length L'.length false, .int .i64 q'], .row 3 (brows L'), .box [.vsl 3 (brows L') false, .int .i64 q']]) (fun j => L'.length - j) 0 [0, 1, 2] (by simp) ?_ ?_
          · simp only [Emb, go_sem]
          intro j hj
          skip
          refine run_ok 4000 _ _ _ _ ?_
          simp (maxSteps := 10000000) only [go_sem]
          refine ⟨fun hlt => ?_, fun hge => ?_⟩
          · have hlt : j < L'.length := by omega
            have hin : (j : Int) < (L'.length : Int) := by omega
            have hit := item_spec L' q' (j : Nat) (by omega) (by omega)
            have hpl : place L'.length (j : Nat) = j := by
              have := place_int (n := L'.length) (by omega) (j : Nat)
              rw [Int.emod_eq_of_lt (by omega) (by omega)] at this; omega
            rw [hpl] at hit
            unfold bagM at hit
            skip
            simp (maxSteps := 10000000) only [go_sem, brow, brows_len, ga_eq hlt, brows_h0 hlt, brows_h1 hlt, brows_h2 hlt, brows_r0 hlt, brows_r1 hlt, brows_r2 hlt, hin, Int.natCast_nonneg, seqb_self, inc64 (show j < 1000000000000 by omega)]
            refine sem_call rfl rfl (((hit).embed [0, 1] rfl (by repeat' first | exact trivial | rfl | (simp only [go_sem]; done) | constructor) rfl (by first | rfl | simp only [go_sem]) rfl (by simp)).mono ?_)
            rintro _ _ ⟨_, _, ⟨rfl, rfl⟩, rfl, rfl⟩
            refine run_ok 4000 _ _ _ _ ?_
            simp (maxSteps := 10000000) only [go_sem, brow, brows_len, ga_eq hlt, brows_h0 hlt, brows_h1 hlt, brows_h2 hlt, brows_r0 hlt, brows_r1 hlt, brows_r2 hlt, hin, Int.natCast_nonneg, seqb_self, inc64 (show j < 1000000000000 by omega)]
            refine ⟨j + 1, by omega, by omega, [0, 1, 2], ?_⟩
            simp only [Emb, go_sem]
          · skip
            refine run_ok 4000 _ _ _ _ ?_
            simp (maxSteps := 10000000) only [go_sem, inc64 (show i < 1000000000000 by omega)]
            refine ⟨(i + 1, L', q'), by simp only; omega, ⟨by simp only; omega, hk⟩, [0, 1, 2], ?_⟩
            simp only [Emb, go_sem]
      · by_cases hn : a.i < 0 ∨ ((ga L (place L.length a.k)).text.length : Int) ≤ a.i ∨ a.b = 0
        · have hpl := places_bendno L q ⟨a.kind, a.src, a.dst, a.k, a.i, a.b, a.s.take 10⟩ h0 hlen kk hn
          have hk := hk0.more
          rw [kk] at e0
          unfold refB bagM bagG at hpl
          simp only [arow, kk] at hpl
          skip
          simp (maxSteps := 10000000) only [go_sem, hin, e0, e1, e2, e3, e4, e5, e6, i0, i1, i2, i3, i4, i5, i6, Int.natCast_nonneg]
          refine sem_call rfl rfl (((cut_spec a.s 10 (by omega)).embed [] rfl trivial rfl rfl rfl (by simp)).mono ?_)
          rintro _ _ ⟨_, _, ⟨rfl, rfl⟩, rfl, rfl⟩
          refine run_ok 4000 _ _ _ _ ?_
          simp (maxSteps := 10000000) only [go_sem, hin, e0, e1, e2, e3, e4, e5, e6, i0, i1, i2, i3, i4, i5, i6, Int.natCast_nonneg]
          refine sem_call rfl rfl (((hpl).embed [0, 1] rfl (by repeat' first | exact trivial | rfl | (simp only [go_sem]; done) | constructor) rfl (by first | rfl | simp only [go_sem]) rfl (by simp)).mono ?_)
          rintro _ _ ⟨_, _, ⟨rfl, rfl⟩, rfl, rfl⟩
          refine run_ok 4000 _ _ _ _ ?_
          simp (maxSteps := 10000000) only [go_sem, hin, e0, e1, e2, e3, e4, e5, e6, i0, i1, i2, i3, i4, i5, i6, Int.natCast_nonneg]
          obtain ⟨q', hq'⟩ : ∃ q', q' = q := ⟨q, rfl⟩
          obtain ⟨L', hL'⟩ : ∃ L', L' = L := ⟨L, rfl⟩
          rw [← hq', ← hL'] at hk ⊢
          clear hq' hL'
          refine sem_sub (sl := [(0, .vsl 7 xs false), (3, .pbox 0 0), (4, .pbox 2 0), (5, .int .i64 (i : Nat)), (7, .bsym true)]) (m2 := [.box [.sl 1 0 L'.length L'.length false, .int .i64 q'], .row 3 (brows L'), .box [.vsl 3 (brows L') false, .int .i64 q']]) [0, 4, 2] ?_ ?_
          · simp only [Emb, go_sem]
          have hlen := hk.len; have hlo := hk.lo; have hhi := hk.hi
          have hl := blen_spec L' q'
          have hls := blost_spec L' q'
          have hself1 : ((L'.length : Int) != (L'.length : Int)) = false := by simp
          have hself2 : (q' != q') = false := by simp
          unfold bagM at hl hls
          skip
          refine run_ok 4000 _ _ _ _ ?_
          simp (maxSteps := 10000000) only [go_sem, brows_len, hself1, hself2]
          refine sem_drawG l11_1_ok (by kernel_rfl) ?_
          intro KK hKK
          simp (maxSteps := 10000000) only [go_sem, l11_1, brows_len, hself1, hself2]
          refine TriZ.of (((hl).embed [0, 1] rfl (by repeat' first | exact trivial | rfl | (simp only [go_sem]; done) | constructor) rfl (by first | rfl | simp only [go_sem]) rfl (by simp)).mono ?_)
          rintro _ _ ⟨_, _, ⟨rfl, rfl⟩, rfl, rfl⟩
          simp (maxSteps := 10000000) only [go_sem, brows_len, hself1, hself2]
          refine TriZ.of (((hls).embed [0, 1] rfl (by repeat' first | exact trivial | rfl | (simp only [go_sem]; done) | constructor) rfl (by first | rfl | simp only [go_sem]) rfl (by simp)).mono ?_)
          rintro _ _ ⟨_, _, ⟨rfl, rfl⟩, rfl, rfl⟩
          simp (maxSteps := 10000000) only [go_sem, brows_len, hself1, hself2]
          subst hKK
          simp (maxSteps := 10000000) only [go_sem, brows_len, hself1, hself2]
          refine sem_rounds (fun j : Nat => j ≤ L'.length)
            (fun j => [(0, .vsl 7 xs false), (3, .pbox 0 0), (4, .pbox 2 0), (5, .int .i64 (i : Nat)), (109, .vsl 3 (brows L') false), (110, .int .i64 L'.length), (111, .int .i64 (j : Nat))])
            (fun j => [.box [.sl 1 0 L'.length L'.length false, .int .i64 q'], .row 3 (brows L'), .box [.vsl 3 (brows L') false, .int .i64 q']]) (fun j => L'.length - j) 0 [0, 1, 2] (by simp) ?_ ?_
          · simp only [Emb, go_sem]
          intro j hj
          skip
          refine run_ok 4000 _ _ _ _ ?_
          simp (maxSteps := 10000000) only [go_sem]
          refine ⟨fun hlt => ?_, fun hge => ?_⟩
          · have hlt : j < L'.length := by omega
            have hin : (j : Int) < (L'.length : Int) := by omega
            have hit := item_spec L' q' (j : Nat) (by omega) (by omega)
            have hpl : place L'.length (j : Nat) = j := by
              have := place_int (n := L'.length) (by omega) (j : Nat)
              rw [Int.emod_eq_of_lt (by omega) (by omega)] at this; omega
            rw [hpl] at hit
            unfold bagM at hit
            skip
            simp (maxSteps := 10000000) only [go_sem, brow, brows_len, ga_eq hlt, brows_h0 hlt, brows_h1 hlt, brows_h2 hlt, brows_r0 hlt, brows_r1 hlt, brows_r2 hlt, hin, Int.natCast_nonneg, seqb_self, inc64 (show j < 1000000000000 by omega)]
            refine sem_call rfl rfl (((hit).embed [0, 1] rfl (by repeat' first | exact trivial | rfl | (simp only [go_sem]; done) | constructor) rfl (by first | rfl | simp only [go_sem]) rfl (by simp)).mono ?_)
            rintro _ _ ⟨_, _, ⟨rfl, rfl⟩, rfl, rfl⟩
            refine run_ok 4000 _ _ _ _ ?_
            simp (maxSteps := 10000000) only [go_sem, brow, brows_len, ga_eq hlt, brows_h0 hlt, brows_h1 hlt, brows_h2 hlt, brows_r0 hlt, brows_r1 hlt, brows_r2 hlt, hin, Int.natCast_nonneg, seqb_self, inc64 (show j < 1000000000000 by omega)]
            refine ⟨j + 1, by omega, by omega, [0, 1, 2], ?_⟩
            simp only [Emb, go_sem]
          · skip
            refine run_ok 4000 _ _ _ _ ?_
            simp (maxSteps := 10000000) only [go_sem, inc64 (show i < 1000000000000 by omega)]
            refine ⟨(i + 1, L', q'), by simp only; omega, ⟨by simp only; omega, hk⟩, [0, 1, 2], ?_⟩
            simp only [Emb, go_sem]
        · have hb : a.b ≠ 0 := fun h => hn (.inr (.inr h))
          have hi1 : 0 ≤ a.i ∧ a.i < ((ga L (place L.length a.k)).text.length : Int) := ⟨by omega, by omega⟩
          have hpl := places_bend L q ⟨a.kind, a.src, a.dst, a.k, a.i, a.b, a.s.take 10⟩ h0 hlen kk a.i.toNat (by simp only; omega) (by simp only; omega) (by have := hk0.ga hp; simp only; omega) hb
          have hk := hk0.setT hp a.i.toNat a.b
          rw [kk] at e0
          unfold refB bagM bagG at hpl
          simp only [arow, kk] at hpl
          skip
          simp (maxSteps := 10000000) only [go_sem, hin, e0, e1, e2, e3, e4, e5, e6, i0, i1, i2, i3, i4, i5, i6, Int.natCast_nonneg]
          refine sem_call rfl rfl (((cut_spec a.s 10 (by omega)).embed [] rfl trivial rfl rfl rfl (by simp)).mono ?_)
          rintro _ _ ⟨_, _, ⟨rfl, rfl⟩, rfl, rfl⟩
          refine run_ok 4000 _ _ _ _ ?_
          simp (maxSteps := 10000000) only [go_sem, hin, e0, e1, e2, e3, e4, e5, e6, i0, i1, i2, i3, i4, i5, i6, Int.natCast_nonneg]
          refine sem_call rfl rfl (((hpl).embed [0, 1] rfl (by repeat' first | exact trivial | rfl | (simp only [go_sem]; done) | constructor) rfl (by first | rfl | simp only [go_sem]) rfl (by simp)).mono ?_)
          rintro _ _ ⟨_, _, ⟨rfl, rfl⟩, rfl, rfl⟩
          refine run_ok 4000 _ _ _ _ ?_
          simp (maxSteps := 10000000) only [go_sem, hin, e0, e1, e2, e3, e4, e5, e6, i0, i1, i2, i3, i4, i5, i6, Int.natCast_nonneg]
          obtain ⟨q', hq'⟩ : ∃ q', q' = q := ⟨q, rfl⟩
          obtain ⟨L', hL'⟩ : ∃ L', L' = setT L (place L.length a.k) (bendT (ga L (place L.length a.k)).text a.i.toNat a.b) := ⟨setT L (place L.length a.k) (bendT (ga L (place L.length a.k)).text a.i.toNat a.b), rfl⟩
          rw [← hq', ← hL'] at hk ⊢
          clear hq' hL'
          refine sem_sub (sl := [(0, .vsl 7 xs false), (3, .pbox 0 0), (4, .pbox 2 0), (5, .int .i64 (i : Nat)), (7, .bsym true)]) (m2 := [.box [.sl 1 0 L'.length L'.length false, .int .i64 q'], .row 3 (brows L'), .box [.vsl 3 (brows L') false, .int .i64 q']]) [0, 4, 2] ?_ ?_
          · simp only [Emb, go_sem]
          have hlen := hk.len; have hlo := hk.lo; have hhi := hk.hi
          have hl := blen_spec L' q'
          have hls := blost_spec L' q'
          have hself1 : ((L'.length : Int) != (L'.length : Int)) = false := by simp
          have hself2 : (q' != q') = false := by simp
          unfold bagM at hl hls
          skip
          refine run_ok 4000 _ _ _ _ ?_
          simp (maxSteps := 10000000) only [go_sem, brows_len, hself1, hself2]
          refine sem_drawG l11_1_ok (by kernel_rfl) ?_
          intro KK hKK
          simp (maxSteps := 10000000) only [go_sem, l11_1, brows_len, hself1, hself2]
          refine TriZ.of (((hl).embed [0, 1] rfl (by repeat' first | exact trivial | rfl | (simp only [go_sem]; done) | constructor) rfl (by first | rfl | simp only [go_sem]) rfl (by simp)).mono ?_)
          rintro _ _ ⟨_, _, ⟨rfl, rfl⟩, rfl, rfl⟩
          simp (maxSteps := 10000000) only [go_sem, brows_len, hself1, hself2]
          refine TriZ.of (((hls).embed [0, 1] rfl (by repeat' first | exact trivial | rfl | (simp only [go_sem]; done) | constructor) rfl (by first | rfl | simp only [go_sem]) rfl (by simp)).mono ?_)
          rintro _ _ ⟨_, _, ⟨rfl, rfl⟩, rfl, rfl⟩
          simp (maxSteps := 10000000) only [go_sem, brows_len, hself1, hself2]
          subst hKK
          simp (maxSteps := 10000000) only [go_sem, brows_len, hself1, hself2]
          refine sem_rounds (fun j : Nat => j ≤ L'.length)
            (fun j => [(0, .vsl 7 xs false), (3, .pbox 0 0), (4, .pbox 2 0), (5, .int .i64 (i : Nat)), (109, .vsl 3 (brows L') false), (110, .int .i64 L'.length), (111, .int .i64 (j : Nat))])
            (fun j => [.box [.sl 1 0 L'.length L'.length false, .int .i64 q'], .row 3 (brows L'), .box [.vsl 3 (brows L') false, .int .i64 q']]) (fun j => L'.length - j) 0 [0, 1, 2] (by simp) ?_ ?_
          · simp only [Emb, go_sem]
          intro j hj
          skip
          refine run_ok 4000 _ _ _ _ ?_
          simp (maxSteps := 10000000) only [go_sem]
          refine ⟨fun hlt => ?_, fun hge => ?_⟩
          · have hlt : j < L'.length := by omega
            have hin : (j : Int) < (L'.length : Int) := by omega
            have hit := item_spec L' q' (j : Nat) (by omega) (by omega)
            have hpl : place L'.length (j : Nat) = j := by
              have := place_int (n := L'.length) (by omega) (j : Nat)
              rw [Int.emod_eq_of_lt (by omega) (by omega)] at this; omega
            rw [hpl] at hit
            unfold bagM at hit
            skip
            simp (maxSteps := 10000000) only [go_sem, brow, brows_len, ga_eq hlt, brows_h0 hlt, brows_h1 hlt, brows_h2 hlt, brows_r0 hlt, brows_r1 hlt, brows_r2 hlt, hin, Int.natCast_nonneg, seqb_self, inc64 (show j < 1000000000000 by omega)]
            refine sem_call rfl rfl (((hit).embed [0, 1] rfl (by repeat' first | exact trivial | rfl | (simp only [go_sem]; done) | constructor) rfl (by first | rfl | simp only [go_sem]) rfl (by simp)).mono ?_)
            rintro _ _ ⟨_, _, ⟨rfl, rfl⟩, rfl, rfl⟩
            refine run_ok 4000 _ _ _ _ ?_
            simp (maxSteps := 10000000) only [go_sem, brow, brows_len, ga_eq hlt, brows_h0 hlt, brows_h1 hlt, brows_h2 hlt, brows_r0 hlt, brows_r1 hlt, brows_r2 hlt, hin, Int.natCast_nonneg, seqb_self, inc64 (show j < 1000000000000 by omega)]
            refine ⟨j + 1, by omega, by omega, [0, 1, 2], ?_⟩
            simp only [Emb, go_sem]
          · skip
            refine run_ok 4000 _ _ _ _ ?_
            simp (maxSteps := 10000000) only [go_sem, inc64 (show i < 1000000000000 by omega)]
            refine ⟨(i + 1, L', q'), by simp only; omega, ⟨by simp only; omega, hk⟩, [0, 1, 2], ?_⟩
            simp only [Emb, go_sem]
    · have n2 : (a.kind == 2) = false := by rw [beq_eq_false_iff_ne]; omega
      have n3 : (a.kind == 3) = false := by rw [beq_eq_false_iff_ne]; omega
      have n4 : (a.kind == 4) = false := by rw [beq_eq_false_iff_ne]; omega
      have n5 : (a.kind == 5) = false := by rw [beq_eq_false_iff_ne]; omega
      have hk := hk0.more
      skip
      simp (maxSteps := 10000000) only [go_sem, hin, e0, e1, e2, e3, e4, e5, e6, i0, i1, i2, i3, i4, i5, i6, n1, n2, n3, n4, n5, n6, Int.natCast_nonneg]
      refine sem_call rfl rfl (((cut_spec a.s 10 (by omega)).embed [] rfl trivial rfl rfl rfl (by simp)).mono ?_)
      rintro _ _ ⟨_, _, ⟨rfl, rfl⟩, rfl, rfl⟩
      refine run_ok 4000 _ _ _ _ ?_
      simp (maxSteps := 10000000) only [go_sem, hin, e0, e1, e2, e3, e4, e5, e6, i0, i1, i2, i3, i4, i5, i6, n1, n2, n3, n4, n5, n6, Int.natCast_nonneg]
      refine sem_like 7 (.bsym true) rfl (Like.bsym true) ?_
      simp (maxSteps := 10000000) only [go_sem, hin, e0, e1, e2, e3, e4, e5, e6, i0, i1, i2, i3, i4, i5, i6, n1, n2, n3, n4, n5, n6, Int.natCast_nonneg]
      obtain ⟨q', hq'⟩ : ∃ q', q' = q := ⟨q, rfl⟩
      obtain ⟨L', hL'⟩ : ∃ L', L' = L := ⟨L, rfl⟩
      rw [← hq', ← hL'] at hk ⊢
      clear hq' hL'
      refine sem_sub (sl := [(0, .vsl 7 xs false), (3, .pbox 0 0), (4, .pbox 2 0), (5, .int .i64 (i : Nat)), (7, .bsym true)]) (m2 := [.box [.sl 1 0 L'.length L'.length false, .int .i64 q'], .row 3 (brows L'), .box [.vsl 3 (brows L') false, .int .i64 q']]) [0, 1, 2] ?_ ?_
      · simp only [Emb, go_sem]
      have hlen := hk.len; have hlo := hk.lo; have hhi := hk.hi
      have hl := blen_spec L' q'
      have hls := blost_spec L' q'
      have hself1 : ((L'.length : Int) != (L'.length : Int)) = false := by simp
      have hself2 : (q' != q') = false := by simp
      unfold bagM at hl hls
      skip
      refine run_ok 4000 _ _ _ _ ?_
      simp (maxSteps := 10000000) only [go_sem, brows_len, hself1, hself2]
      refine sem_drawG l11_1_ok (by kernel_rfl) ?_
      intro KK hKK
      simp (maxSteps := 10000000) only [go_sem, l11_1, brows_len, hself1, hself2]
      refine TriZ.of (((hl).embed [0, 1] rfl (by repeat' first | exact trivial | rfl | (simp only [go_sem]; done) | constructor) rfl (by first | rfl | simp only [go_sem]) rfl (by simp)).mono ?_)
      rintro _ _ ⟨_, _, ⟨rfl, rfl⟩, rfl, rfl⟩
      simp (maxSteps := 10000000) only [go_sem, brows_len, hself1, hself2]
      refine TriZ.of (((hls).embed [0, 1] rfl (by repeat' first | exact trivial | rfl | (simp only [go_sem]; done) | constructor) rfl (by first | rfl | simp only [go_sem]) rfl (by simp)).mono ?_)
      rintro _ _ ⟨_, _, ⟨rfl, rfl⟩, rfl, rfl⟩
      simp (maxSteps := 10000000) only [go_sem, brows_len, hself1, hself2]
      subst hKK
      simp (maxSteps := 10000000) only [go_sem, brows_len, hself1, hself2]
      refine sem_rounds (fun j : Nat => j ≤ L'.length)
        (fun j => [(0, .vsl 7 xs false), (3, .pbox 0 0), (4, .pbox 2 0), (5, .int .i64 (i : Nat)), (109, .vsl 3 (brows L') false), (110, .int .i64 L'.length), (111, .int .i64 (j : Nat))])
        (fun j => [.box [.sl 1 0 L'.length L'.length false, .int .i64 q'], .row 3 (brows L'), .box [.vsl 3 (brows L') false, .int .i64 q']]) (fun j => L'.length - j) 0 [0, 1, 2] (by simp) ?_ ?_
      · simp only [Emb, go_sem]
      intro j hj
      skip
      refine run_ok 4000 _ _ _ _ ?_
      simp (maxSteps := 10000000) only [go_sem]
      refine ⟨fun hlt => ?_, fun hge => ?_⟩
      · have hlt : j < L'.length := by omega
        have hin : (j : Int) < (L'.length : Int) := by omega
        have hit := item_spec L' q' (j : Nat) (by omega) (by omega)
        have hpl : place L'.length (j : Nat) = j := by
          have := place_int (n := L'.length) (by omega) (j : Nat)
          rw [Int.emod_eq_of_lt (by omega) (by omega)] at this; omega
        rw [hpl] at hit
        unfold bagM at hit
        skip
        simp (maxSteps := 10000000) only [go_sem, brow, brows_len, ga_eq hlt, brows_h0 hlt, brows_h1 hlt, brows_h2 hlt, brows_r0 hlt, brows_r1 hlt, brows_r2 hlt, hin, Int.natCast_nonneg, seqb_self, inc64 (show j < 1000000000000 by omega)]
        refine sem_call rfl rfl (((hit).embed [0, 1] rfl (by repeat' first | exact trivial | rfl | (simp only [go_sem]; done) | constructor) rfl (by first | rfl | simp only [go_sem]) rfl (by simp)).mono ?_)
        rintro _ _ ⟨_, _, ⟨rfl, rfl⟩, rfl, rfl⟩
        refine run_ok 4000 _ _ _ _ ?_
        simp (maxSteps := 10000000) only [go_sem, brow, brows_len, ga_eq hlt, brows_h0 hlt, brows_h1 hlt, brows_h2 hlt, brows_r0 hlt, brows_r1 hlt, brows_r2 hlt, hin, Int.natCast_nonneg, seqb_self, inc64 (show j < 1000000000000 by omega)]
        refine ⟨j + 1, by omega, by omega, [0, 1, 2], ?_⟩
        simp only [Emb, go_sem]
      · skip
        refine run_ok 4000 _ _ _ _ ?_
        simp (maxSteps := 10000000) only [go_sem, inc64 (show i < 1000000000000 by omega)]
        refine ⟨(i + 1, L', q'), by simp only; omega, ⟨by simp only; omega, hk⟩, [0, 1, 2], ?_⟩
        simp only [Emb, go_sem]
  · skip
    refine run_ok 4000 _ _ _ _ ?_
    simp (maxSteps := 10000000) only [go_sem]
  · skip
    refine run_ok 4000 _ _ _ _ ?_
    simp (maxSteps := 10000000) only [go_sem]
end Go.AEX
