/- Frame: a call, any calls of its stack (FramePlays). -/
import Derived.Test.YteilmgoomifjmaaFrApart
import Derived.Test.YteilmgoomifjmaaAEsa
namespace Go.AEX
open Go Go.AE Go.Proofs
set_option maxRecDepth 100000
set_option linter.unusedVariables false
set_option linter.unusedSimpArgs false

structure FAct where
  kind : Int
  n : Int
  x : Int
  l : List Int
def farow (a : FAct) : List AV := [.int .i64 a.kind, .int .i64 a.n, .int .i64 a.x, .vsl 1 (iv .i64 a.l) false]
theorem Like.tupB {a : AV} {b : AV} (h : b = .bool true ∨ b = .bsym true := by first | exact .inl rfl | exact .inr rfl) : Like (.tup [a, b]) (.tup [a, .bsym true]) := fun φ σ x hx => by
  rcases h with rfl | rfl
  · cases hx with | tup h => cases h with | cons h1 h2 => cases h2 with | cons h3 h4 => cases h3; exact .tup (.cons h1 (.cons .bsym h4))
  · exact hx
def frameG (fn : Int) (l v : List Int) : Mem := [.box [.pbox 1 0, .int .i64 fn, .int .i64 0, .sl 3 0 v.length v.length false], .box [.sl 4 0 l.length l.length false], .gone, .row 1 (iv .i64 v), .row 1 (iv .i64 l)]
theorem stack_push (fn : Int) (l v : List Int) (a : FAct) (hk : a.kind = 1) (hl : l.length ≤ 64) : Tri Try.prog 17 [.pbox 0 0, .vsl 1 (iv .i64 l) false, .agg (farow a)] (frameM fn l v)
    (fun y m => y = .tup [.vsl 1 (iv .i64 (if l.length + (a.l.take 40).length ≤ 64 then l ++ a.l.take 40 else l)) false, .bsym true] ∧ m = frameG fn (if l.length + (a.l.take 40).length ≤ 64 then l ++ a.l.take 40 else l) v) := by
  refine Tri.post ?_
  have hA : (a.l.take 40).length ≤ 40 := by rw [List.length_take]; omega
  by_cases h40 : (a.l.length : Int) > 40
  · have hle : (40 : Int) ≤ (a.l.length : Int) := by omega
    have e0 : a.l.take (Int.toNat 40) = a.l.take 40 := rfl
    unfold frameM frameG
    generalize hAd : a.l.take 40 = A at *
    by_cases hf : l.length + A.length ≤ 64
    · have hp := push_spec l A false hf
      have hr := rpush_spec l A false false hf
      unfold stackM stackG at hp
      rw [if_pos hf]
      skip
      refine (Tri.enter (rl := r17) (code := c17) (by kernel_rfl) Try.func17 rfl c17_ok (by kernel_rfl) (by kernel_rfl) ?_)
      refine run_ok 4000 _ _ _ _ ?_
      simp (maxSteps := 10000000) only [go_sem, c17, r17, farow, hk, h40, hle, iv_len, iv_sub, hAd, e0, List.drop_zero]
      refine sem_move 2 rfl ?_
      simp (maxSteps := 10000000) only [go_sem, farow, hk, h40, hle, iv_len, iv_sub, hAd, e0, List.drop_zero]
      refine sem_drawG l17_0_ok (by kernel_rfl) ?_
      intro KK hKK
      simp (maxSteps := 10000000) only [go_sem, l17_0, farow, hk, h40, hle, iv_len, iv_sub, hAd, e0, List.drop_zero]
      subst hKK
      simp (maxSteps := 10000000) only [go_sem, farow, hk, h40, hle, iv_len, iv_sub, hAd, e0, List.drop_zero]
      refine TriZ.of (((hp).embed [1, 5] rfl (by repeat' first | exact trivial | rfl | (simp only [go_sem]; done) | constructor) rfl (by first | rfl | simp only [go_sem]) rfl (by simp)).mono ?_)
      rintro _ _ ⟨_, _, ⟨rfl, rfl⟩, rfl, rfl⟩
      simp (maxSteps := 10000000) only [go_sem, farow, hk, h40, hle, iv_len, iv_sub, hAd, e0, List.drop_zero]
      refine sem_call rfl rfl (((hr).embed [] rfl (by repeat' first | exact trivial | rfl | (simp only [go_sem]; done) | constructor) rfl (by first | rfl | simp only [go_sem]) rfl (by simp)).mono ?_)
      rintro _ _ ⟨_, _, ⟨rfl, rfl⟩, rfl, rfl⟩
      refine run_ok 4000 _ _ _ _ ?_
      simp (maxSteps := 10000000) only [go_sem, farow, hk, h40, hle, iv_len, iv_sub, hAd, e0, List.drop_zero]
      refine ⟨_, _, .like Like.tupB (.sub [0, 1, 2, 3, 6] ?_ .done), rfl, rfl⟩
      simp only [EmbV, go_sem]
    · have hp := push_full l A false (by omega) ⟨hl, by omega⟩
      have hr := rpush_full l A false false (by omega) ⟨hl, by omega⟩
      unfold stackM at hp
      rw [if_neg hf]
      skip
      refine (Tri.enter (rl := r17) (code := c17) (by kernel_rfl) Try.func17 rfl c17_ok (by kernel_rfl) (by kernel_rfl) ?_)
      refine run_ok 4000 _ _ _ _ ?_
      simp (maxSteps := 10000000) only [go_sem, c17, r17, farow, hk, h40, hle, iv_len, iv_sub, hAd, e0, List.drop_zero]
      refine sem_move 2 rfl ?_
      simp (maxSteps := 10000000) only [go_sem, farow, hk, h40, hle, iv_len, iv_sub, hAd, e0, List.drop_zero]
      refine sem_drawG l17_0_ok (by kernel_rfl) ?_
      intro KK hKK
      simp (maxSteps := 10000000) only [go_sem, l17_0, farow, hk, h40, hle, iv_len, iv_sub, hAd, e0, List.drop_zero]
      subst hKK
      simp (maxSteps := 10000000) only [go_sem, farow, hk, h40, hle, iv_len, iv_sub, hAd, e0, List.drop_zero]
      refine TriZ.of (((hp).embed [1, 5] rfl (by repeat' first | exact trivial | rfl | (simp only [go_sem]; done) | constructor) rfl (by first | rfl | simp only [go_sem]) rfl (by simp)).mono ?_)
      rintro _ _ ⟨_, _, ⟨rfl, rfl⟩, rfl, rfl⟩
      simp (maxSteps := 10000000) only [go_sem, farow, hk, h40, hle, iv_len, iv_sub, hAd, e0, List.drop_zero]
      refine sem_call rfl rfl (((hr).embed [] rfl (by repeat' first | exact trivial | rfl | (simp only [go_sem]; done) | constructor) rfl (by first | rfl | simp only [go_sem]) rfl (by simp)).mono ?_)
      rintro _ _ ⟨_, _, ⟨rfl, rfl⟩, rfl, rfl⟩
      refine run_ok 4000 _ _ _ _ ?_
      simp (maxSteps := 10000000) only [go_sem, farow, hk, h40, hle, iv_len, iv_sub, hAd, e0, List.drop_zero]
      refine ⟨_, _, .like Like.tupB (.sub [0, 1, 2, 3, 5] ?_ .done), rfl, rfl⟩
      simp only [EmbV, go_sem]
  · have hAd : a.l.take 40 = a.l := List.take_of_length_le (by omega)
    rw [hAd] at hA ⊢
    unfold frameM frameG
    generalize hAl : a.l = A at *
    by_cases hf : l.length + A.length ≤ 64
    · have hp := push_spec l A false hf
      have hr := rpush_spec l A false false hf
      unfold stackM stackG at hp
      rw [if_pos hf]
      skip
      refine (Tri.enter (rl := r17) (code := c17) (by kernel_rfl) Try.func17 rfl c17_ok (by kernel_rfl) (by kernel_rfl) ?_)
      refine run_ok 4000 _ _ _ _ ?_
      simp (maxSteps := 10000000) only [go_sem, c17, r17, farow, hk, hAl, h40, iv_len]
      refine sem_move 2 rfl ?_
      simp (maxSteps := 10000000) only [go_sem, farow, hk, hAl, h40, iv_len]
      refine sem_drawG l17_0_ok (by kernel_rfl) ?_
      intro KK hKK
      simp (maxSteps := 10000000) only [go_sem, l17_0, farow, hk, hAl, h40, iv_len]
      subst hKK
      simp (maxSteps := 10000000) only [go_sem, farow, hk, hAl, h40, iv_len]
      refine TriZ.of (((hp).embed [1, 5] rfl (by repeat' first | exact trivial | rfl | (simp only [go_sem]; done) | constructor) rfl (by first | rfl | simp only [go_sem]) rfl (by simp)).mono ?_)
      rintro _ _ ⟨_, _, ⟨rfl, rfl⟩, rfl, rfl⟩
      simp (maxSteps := 10000000) only [go_sem, farow, hk, hAl, h40, iv_len]
      refine sem_call rfl rfl (((hr).embed [] rfl (by repeat' first | exact trivial | rfl | (simp only [go_sem]; done) | constructor) rfl (by first | rfl | simp only [go_sem]) rfl (by simp)).mono ?_)
      rintro _ _ ⟨_, _, ⟨rfl, rfl⟩, rfl, rfl⟩
      refine run_ok 4000 _ _ _ _ ?_
      simp (maxSteps := 10000000) only [go_sem, farow, hk, hAl, h40, iv_len]
      refine ⟨_, _, .like Like.tupB (.sub [0, 1, 2, 3, 6] ?_ .done), rfl, rfl⟩
      simp only [EmbV, go_sem]
    · have hp := push_full l A false (by omega) ⟨hl, by omega⟩
      have hr := rpush_full l A false false (by omega) ⟨hl, by omega⟩
      unfold stackM at hp
      rw [if_neg hf]
      skip
      refine (Tri.enter (rl := r17) (code := c17) (by kernel_rfl) Try.func17 rfl c17_ok (by kernel_rfl) (by kernel_rfl) ?_)
      refine run_ok 4000 _ _ _ _ ?_
      simp (maxSteps := 10000000) only [go_sem, c17, r17, farow, hk, hAl, h40, iv_len]
      refine sem_move 2 rfl ?_
      simp (maxSteps := 10000000) only [go_sem, farow, hk, hAl, h40, iv_len]
      refine sem_drawG l17_0_ok (by kernel_rfl) ?_
      intro KK hKK
      simp (maxSteps := 10000000) only [go_sem, l17_0, farow, hk, hAl, h40, iv_len]
      subst hKK
      simp (maxSteps := 10000000) only [go_sem, farow, hk, hAl, h40, iv_len]
      refine TriZ.of (((hp).embed [1, 5] rfl (by repeat' first | exact trivial | rfl | (simp only [go_sem]; done) | constructor) rfl (by first | rfl | simp only [go_sem]) rfl (by simp)).mono ?_)
      rintro _ _ ⟨_, _, ⟨rfl, rfl⟩, rfl, rfl⟩
      simp (maxSteps := 10000000) only [go_sem, farow, hk, hAl, h40, iv_len]
      refine sem_call rfl rfl (((hr).embed [] rfl (by repeat' first | exact trivial | rfl | (simp only [go_sem]; done) | constructor) rfl (by first | rfl | simp only [go_sem]) rfl (by simp)).mono ?_)
      rintro _ _ ⟨_, _, ⟨rfl, rfl⟩, rfl, rfl⟩
      refine run_ok 4000 _ _ _ _ ?_
      simp (maxSteps := 10000000) only [go_sem, farow, hk, hAl, h40, iv_len]
      refine ⟨_, _, .like Like.tupB (.sub [0, 1, 2, 3, 5] ?_ .done), rfl, rfl⟩
      simp only [EmbV, go_sem]
theorem stack_pop0 (fn : Int) (v : List Int) (a : FAct) (hk : a.kind = 2) : Tri Try.prog 17 [.pbox 0 0, .vsl 1 (iv .i64 []) false, .agg (farow a)] (frameM fn [] v)
    (fun y m => y = .tup [.vsl 1 (iv .i64 []) false, .bsym true] ∧ m = frameG fn [] v) := by
  refine Tri.post ?_
  have hp := pop_nil
  unfold frameM frameG
  unfold stackM at hp
  skip
  refine (Tri.enter (rl := r17) (code := c17) (by kernel_rfl) Try.func17 rfl c17_ok (by kernel_rfl) (by kernel_rfl) ?_)
  refine run_ok 4000 _ _ _ _ ?_
  simp (maxSteps := 10000000) only [go_sem, c17, r17, farow, hk, iv_len]
  refine sem_move 2 rfl ?_
  simp (maxSteps := 10000000) only [go_sem, farow, hk, iv_len]
  refine sem_call rfl rfl (((hp).embed [1, 5] rfl (by repeat' first | exact trivial | rfl | (simp only [go_sem]; done) | constructor) rfl (by first | rfl | simp only [go_sem]) rfl (by simp)).mono ?_)
  rintro _ _ ⟨_, _, ⟨rfl, rfl⟩, rfl, rfl⟩
  refine run_ok 4000 _ _ _ _ ?_
  simp (maxSteps := 10000000) only [go_sem, farow, hk, iv_len]
  refine ⟨_, _, .like Like.tupB (.sub [0, 1, 2, 3, 5] ?_ .done), rfl, rfl⟩
  simp only [EmbV, go_sem]
theorem stack_pop (fn : Int) (l v : List Int) (x : Int) (a : FAct) (hk : a.kind = 2) (hl : l.length ≤ 64) : Tri Try.prog 17 [.pbox 0 0, .vsl 1 (iv .i64 (l ++ [x])) false, .agg (farow a)] (frameM fn (l ++ [x]) v)
    (fun y m => y = .tup [.vsl 1 (iv .i64 l) false, .bsym true] ∧ m = frameG fn l v) := by
  refine Tri.post ?_
  have hp := pop_spec l x (by omega)
  have hlen : (l ++ [x]).length = l.length + 1 := by simp
  have hi : l.length < (l ++ [x]).length := by omega
  have hx : (l ++ [x])[l.length] = x := by simp
  have w1 : iwrap .i64 (((l.length + 1 : Nat) : Int) - 1) = (l.length : Int) := by rw [iwrap_i64_in (by omega)]; omega
  have f1 : (((l.length + 1 : Nat) : Int) == 0) = false := by rw [beq_eq_false_iff_ne]; omega
  have f2 : (l.length : Int) < ((l.length + 1 : Nat) : Int) := by omega
  have f3 : (l.length : Int) ≤ ((l.length + 1 : Nat) : Int) := by omega
  have hr := iv_rint (k := .i64) hi
  rw [hx] at hr
  have hs : (l ++ [x]).take l.length = l := by simp
  unfold frameM frameG
  unfold stackM at hp
  rw [hlen] at hp
  skip
  refine (Tri.enter (rl := r17) (code := c17) (by kernel_rfl) Try.func17 rfl c17_ok (by kernel_rfl) (by kernel_rfl) ?_)
  refine run_ok 4000 _ _ _ _ ?_
  simp (maxSteps := 10000000) only [go_sem, c17, r17, farow, hk, iv_len, hlen, w1, f1, f2, f3, iv_hasI hi, hr, iv_sub, hs, List.drop_zero, Int.natCast_nonneg, Nat.zero_add, Nat.sub_zero]
  refine sem_move 2 rfl ?_
  simp (maxSteps := 10000000) only [go_sem, farow, hk, iv_len, hlen, w1, f1, f2, f3, iv_hasI hi, hr, iv_sub, hs, List.drop_zero, Int.natCast_nonneg, Nat.zero_add, Nat.sub_zero]
  refine sem_call rfl rfl (((hp).embed [1, 5] rfl (by repeat' first | exact trivial | rfl | (simp only [go_sem]; done) | constructor) rfl (by first | rfl | simp only [go_sem]) rfl (by simp)).mono ?_)
  rintro _ _ ⟨_, _, ⟨rfl, rfl⟩, rfl, rfl⟩
  refine run_ok 4000 _ _ _ _ ?_
  simp (maxSteps := 10000000) only [go_sem, farow, hk, iv_len, hlen, w1, f1, f2, f3, iv_hasI hi, hr, iv_sub, hs, List.drop_zero, Int.natCast_nonneg, Nat.zero_add, Nat.sub_zero]
  refine sem_drawG l17_1_ok (by kernel_rfl) ?_
  intro KK hKK
  simp (maxSteps := 10000000) only [go_sem, l17_1, farow, hk, iv_len, hlen, w1, f1, f2, f3, iv_hasI hi, hr, iv_sub, hs, List.drop_zero, Int.natCast_nonneg, Nat.zero_add, Nat.sub_zero]
  subst hKK
  simp (maxSteps := 10000000) only [go_sem, farow, hk, iv_len, hlen, w1, f1, f2, f3, iv_hasI hi, hr, iv_sub, hs, List.drop_zero, Int.natCast_nonneg, Nat.zero_add, Nat.sub_zero]
  refine ⟨_, _, .like Like.tupB (.sub [0, 1, 2, 3, 5] ?_ .done), rfl, rfl⟩
  simp only [EmbV, go_sem]
theorem Tri.nil2 {f : FuncId} {m : Mem} {K : AV → Mem → Prop} (sz : Nat) (t1 t2 : Bool) (h : Tri Try.prog f [.vsl sz [] t1, .vsl sz [] t2] m K) : Tri Try.prog f [.nilsl, .nilsl] m K :=
  h.recast fun φ σ vs hv => by
    cases hv with | cons h1 ht => cases ht with | cons h2 h3 => exact .cons (Like.nilv sz t1 φ σ _ h1) (.cons (Like.nilv sz t2 φ σ _ h2) h3)
theorem stack_take (fn : Int) (l v : List Int) (a : FAct) (hk : a.kind = 3) (n : Nat) (hn : a.n = n) (hnl : n ≤ l.length) (hl : l.length ≤ 64) : Tri Try.prog 17 [.pbox 0 0, .vsl 1 (iv .i64 l) false, .agg (farow a)] (frameM fn l v)
    (fun y m => y = .tup [.vsl 1 (iv .i64 (l.take (l.length - n))) false, .bsym true] ∧ m = frameG fn (l.take (l.length - n)) v) := by
  refine Tri.post ?_
  have ht := take_spec l n hnl (by omega)
  have hr := rtake_spec l n hnl (by omega)
  have hs := same_spec (l.drop (l.length - n)) (by rw [List.length_drop]; omega) false false
  unfold frameM frameG
  unfold stackM at ht
  skip
  refine (Tri.enter (rl := r17) (code := c17) (by kernel_rfl) Try.func17 rfl c17_ok (by kernel_rfl) (by kernel_rfl) ?_)
  refine run_ok 4000 _ _ _ _ ?_
  simp (maxSteps := 10000000) only [go_sem, c17, r17, farow, hk, hn, iv_len]
  refine sem_move 2 rfl ?_
  simp (maxSteps := 10000000) only [go_sem, farow, hk, hn, iv_len]
  refine sem_drawG l17_2_ok (by kernel_rfl) ?_
  intro KK hKK
  simp (maxSteps := 10000000) only [go_sem, l17_2, farow, hk, hn, iv_len]
  subst hKK
  simp (maxSteps := 10000000) only [go_sem, farow, hk, hn, iv_len]
  refine TriZ.of (((ht).embed [1, 5] rfl (by repeat' first | exact trivial | rfl | (simp only [go_sem]; done) | constructor) rfl (by first | rfl | simp only [go_sem]) rfl (by simp)).mono ?_)
  rintro _ _ ⟨_, _, ⟨rfl, rfl⟩, rfl, rfl⟩
  simp (maxSteps := 10000000) only [go_sem, farow, hk, hn, iv_len]
  refine sem_call rfl rfl (((hr).embed [] rfl (by repeat' first | exact trivial | rfl | (simp only [go_sem]; done) | constructor) rfl (by first | rfl | simp only [go_sem]) rfl (by simp)).mono ?_)
  rintro _ _ ⟨_, _, ⟨rfl, rfl⟩, rfl, rfl⟩
  refine run_ok 4000 _ _ _ _ ?_
  simp (maxSteps := 10000000) only [go_sem, farow, hk, hn, iv_len]
  refine sem_call rfl rfl (((hs).embed [] rfl (by repeat' first | exact trivial | rfl | (simp only [go_sem]; done) | constructor) rfl (by first | rfl | simp only [go_sem]) rfl (by simp)).mono ?_)
  rintro _ _ ⟨_, _, ⟨rfl, rfl⟩, rfl, rfl⟩
  refine run_ok 4000 _ _ _ _ ?_
  simp (maxSteps := 10000000) only [go_sem, farow, hk, hn, iv_len]
  refine ⟨_, _, .like Like.tupB (.sub [0, 1, 2, 3, 5] ?_ .done), rfl, rfl⟩
  simp only [EmbV, go_sem]
theorem stack_takeno (fn : Int) (l v : List Int) (a : FAct) (hk : a.kind = 3) (hn : a.n < 0 ∨ (l.length : Int) < a.n) : Tri Try.prog 17 [.pbox 0 0, .vsl 1 (iv .i64 l) false, .agg (farow a)] (frameM fn l v)
    (fun y m => y = .tup [.vsl 1 (iv .i64 l) false, .bsym true] ∧ m = frameG fn l v) := by
  refine Tri.post ?_
  have ht := take_no l a.n hn
  have hr := rtake_no l false a.n hn
  have hs := Tri.nil2 1 false false (same_spec [] (by simp) false false)
  unfold frameM frameG
  unfold stackM at ht
  skip
  refine (Tri.enter (rl := r17) (code := c17) (by kernel_rfl) Try.func17 rfl c17_ok (by kernel_rfl) (by kernel_rfl) ?_)
  refine run_ok 4000 _ _ _ _ ?_
  simp (maxSteps := 10000000) only [go_sem, c17, r17, farow, hk, iv_len]
  refine sem_move 2 rfl ?_
  simp (maxSteps := 10000000) only [go_sem, farow, hk, iv_len]
  refine sem_drawG l17_2_ok (by kernel_rfl) ?_
  intro KK hKK
  simp (maxSteps := 10000000) only [go_sem, l17_2, farow, hk, iv_len]
  subst hKK
  simp (maxSteps := 10000000) only [go_sem, farow, hk, iv_len]
  refine TriZ.of (((ht).embed [1, 5] rfl (by repeat' first | exact trivial | rfl | (simp only [go_sem]; done) | constructor) rfl (by first | rfl | simp only [go_sem]) rfl (by simp)).mono ?_)
  rintro _ _ ⟨_, _, ⟨rfl, rfl⟩, rfl, rfl⟩
  simp (maxSteps := 10000000) only [go_sem, farow, hk, iv_len]
  refine sem_call rfl rfl (((hr).embed [] rfl (by repeat' first | exact trivial | rfl | (simp only [go_sem]; done) | constructor) rfl (by first | rfl | simp only [go_sem]) rfl (by simp)).mono ?_)
  rintro _ _ ⟨_, _, ⟨rfl, rfl⟩, rfl, rfl⟩
  refine run_ok 4000 _ _ _ _ ?_
  simp (maxSteps := 10000000) only [go_sem, farow, hk, iv_len]
  refine sem_call rfl rfl (((hs).embed [] rfl (by repeat' first | exact trivial | rfl | (simp only [go_sem]; done) | constructor) rfl (by first | rfl | simp only [go_sem]) rfl (by simp)).mono ?_)
  rintro _ _ ⟨_, _, ⟨rfl, rfl⟩, rfl, rfl⟩
  refine run_ok 4000 _ _ _ _ ?_
  simp (maxSteps := 10000000) only [go_sem, farow, hk, iv_len]
  refine ⟨_, _, .like Like.tupB (.sub [0, 1, 2, 3, 5] ?_ .done), rfl, rfl⟩
  simp only [EmbV, go_sem]
end Go.AEX
