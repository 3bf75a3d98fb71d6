/- Window: the reference's acks; the law of what is sent. -/
import Derived.Test.YtbbokkienmicmaaWinOut2
import Derived.Test.YtbbokkienmicmaaWinLaw
namespace Go.AEX
open Go Go.AE Go.Proofs
set_option maxRecDepth 100000
set_option linter.unusedVariables false
set_option linter.unusedSimpArgs false

def toldR (nx : Int) (b : Nat) (L : Ent) : List Int := (L.filter fun x => hasR nx b x.1).map (·.1)
def leftR (nx : Int) (b : Nat) (L : Ent) : Ent := L.filter fun x => !hasR nx b x.1
theorem ivi_app (a b : List Int) : iv .i64 a ++ iv .i64 b = iv .i64 (a ++ b) := by simp [iv]
theorem ivi_all (l : List Int) : sub (iv .i64 l) 0 l.length = iv .i64 l := by rw [iv_sub]; simp
theorem rack_spec (n : Int) (L : Ent) (nx : Int) (b : Nat) (hL : L.length ≤ 1000) (hb : b < 4294967296) (hx : -1000 ≤ nx ∧ nx ≤ 1000000) (hp : ∀ p ∈ L, 0 ≤ p.1 ∧ p.1 ≤ 1000000) (hn : ¬ nx > n) :
    Tri Try.prog 38 [refO n L, .int .i64 nx, .int .u32 (b : Nat)] [] (fun v m => v = .tup [refO n (leftR nx b L), .vsl 1 (iv .i64 (toldR nx b L)) false] ∧ m = []) := by
  refine Tri.post ?_
  skip
  refine (Tri.enter (rl := r38) (code := c38) (by kernel_rfl) Try.func38 rfl c38_ok (by kernel_rfl) (by kernel_rfl) ?_)
  refine run_ok 4000 _ _ _ _ ?_
  simp (maxSteps := 10000000) only [go_sem, c38, r38, refO, hn, jrows_len]
  refine sem_nilbox 2 1 2 rfl rfl ?_
  refine sem_virt 9 1 rfl ?_
  refine sem_rounds (fun i => i ≤ L.length) (fun i => [(1, .int .i64 nx), (2, .int .u32 (b : Nat)), (6, .pbox 1 0), (8, .pbox 2 0), (9, .sl 4 0 (toldR nx b (L.take i)).length (toldR nx b (L.take i)).length false), (22, .vsl 2 (jrows L) false), (23, .int .i64 L.length), (24, .int .i64 (i : Nat))])
    (fun i => [.box [.int .i64 n, .vsl 2 (jrows L) false], .box [.int .i64 0, .nilsl], .box [.int .i64 n, .sl 3 0 (leftR nx b (L.take i)).length (leftR nx b (L.take i)).length false], .row 2 (jrows (leftR nx b (L.take i))), .row 1 (iv .i64 (toldR nx b (L.take i)))])
    (fun i => L.length - i) 0 [0, 1, 2, 3, 4] (by omega) ?_ ?_
  · simp only [Emb, go_sem, leftR, toldR, List.take_zero, List.filter_nil, List.map_nil, List.length_nil, iv, jrows]
  intro i hi
  refine run_ok 4000 _ _ _ _ ?_
  simp (maxSteps := 10000000) only [go_sem, refO, hn, jrows_len]
  refine ⟨fun hlt => ?_, fun hge => ?_⟩
  · have hlt : i < L.length := by omega
    have hin : (i : Int) < (L.length : Int) := by omega
    have hpi := hp _ (List.getElem_mem hlt)
    have hh := rhas_spec nx b L[i].1 hx hpi hb
    have hl1 : (leftR nx b (L.take i)).length ≤ i := by have := List.length_filter_le (fun x : Int × List UInt8 => !hasR nx b x.1) (L.take i); rw [List.length_take] at this; unfold leftR; omega
    have hl2 : (toldR nx b (L.take i)).length ≤ i := by unfold toldR; rw [List.length_map]; have := List.length_filter_le (fun x : Int × List UInt8 => hasR nx b x.1) (L.take i); rw [List.length_take] at this; omega
    skip
    cases hc : hasR nx b L[i].1 with
    | true =>
      rw [hc] at hh
      have hf := gfilt_yes (H := fun x : Int × List UInt8 => hasR nx b x.1) hlt hc
      have e1 : leftR nx b (L.take (i + 1)) = leftR nx b (L.take i) := hf.1
      have e2 : toldR nx b (L.take (i + 1)) = toldR nx b (L.take i) ++ [L[i].1] := by unfold toldR; rw [hf.2, List.map_append]; rfl
      simp (maxSteps := 10000000) only [go_sem, j_hasI hlt, j_hasS hlt, j_rint hlt, j_rstr hlt, hin, jrows_all, ivi_all, iv_len, Int.natCast_nonneg, inc64 (show i < 1000000000000 by omega)]
      refine sem_call rfl rfl (((hh).embed [] rfl (by repeat' first | exact trivial | rfl | (simp only [go_sem]; done) | constructor) rfl (by first | rfl | simp only [go_sem]) rfl (by simp)).mono ?_)
      rintro _ _ ⟨_, _, ⟨rfl, rfl⟩, rfl, rfl⟩
      refine run_ok 4000 _ _ _ _ ?_
      simp (maxSteps := 10000000) only [go_sem, j_hasI hlt, j_hasS hlt, j_rint hlt, j_rstr hlt, hin, jrows_all, ivi_all, iv_len, Int.natCast_nonneg, inc64 (show i < 1000000000000 by omega)]
      have hone : [[AV.int .i64 L[i].1]] = iv .i64 [L[i].1] := rfl
      rw [hone, ivi_app]
      refine ⟨by unfold small; omega, i + 1, by omega, by omega, [0, 1, 2, 3, 6], ?_⟩
      simp only [Emb, go_sem, e1, e2, List.length_append, List.length_cons, List.length_nil]
    | false =>
      rw [hc] at hh
      have hf := gfilt_no (H := fun x : Int × List UInt8 => hasR nx b x.1) hlt hc
      have e1 : leftR nx b (L.take (i + 1)) = leftR nx b (L.take i) ++ [L[i]] := hf.1
      have e2 : toldR nx b (L.take (i + 1)) = toldR nx b (L.take i) := by unfold toldR; rw [hf.2]
      simp (maxSteps := 10000000) only [go_sem, j_hasI hlt, j_hasS hlt, j_rint hlt, j_rstr hlt, hin, jrows_all, ivi_all, iv_len, Int.natCast_nonneg, inc64 (show i < 1000000000000 by omega)]
      refine sem_call rfl rfl (((hh).embed [] rfl (by repeat' first | exact trivial | rfl | (simp only [go_sem]; done) | constructor) rfl (by first | rfl | simp only [go_sem]) rfl (by simp)).mono ?_)
      rintro _ _ ⟨_, _, ⟨rfl, rfl⟩, rfl, rfl⟩
      refine run_ok 4000 _ _ _ _ ?_
      simp (maxSteps := 10000000) only [go_sem, j_hasI hlt, j_hasS hlt, j_rint hlt, j_rstr hlt, hin, jrows_all, ivi_all, iv_len, Int.natCast_nonneg, inc64 (show i < 1000000000000 by omega)]
      have hone : [[AV.int .i64 L[i].1, AV.str L[i].2]] = jrows [L[i]] := rfl
      rw [hone, jrows_app]
      refine ⟨by unfold small; omega, i + 1, by omega, by omega, [0, 1, 2, 6, 4], ?_⟩
      simp only [Emb, go_sem, e1, e2, List.length_append, List.length_cons, List.length_nil]
  · have hi : i = L.length := by omega
    subst hi
    rw [List.take_length]
    generalize leftR nx b L = K at *
    generalize toldR nx b L = T at *
    skip
    refine run_ok 4000 _ _ _ _ ?_
    simp (maxSteps := 10000000) only [go_sem]
    refine ⟨_, _, .fz 3 rfl (by simp only [go_sem, jrows_len, Nat.le_refl]) (.fz 4 rfl (by simp only [go_sem, iv_len, Nat.le_refl]) (.sub [] ?_ .done)), rfl, rfl⟩
    simp only [EmbV, go_sem, refO, jrows_all, ivi_all]
theorem rack_no (n : Int) (L : Ent) (nx : Int) (b : Nat) (hn : nx > n) :
    Tri Try.prog 38 [refO n L, .int .i64 nx, .int .u32 (b : Nat)] [] (fun v m => v = .tup [refO n L, .nilsl] ∧ m = []) := by
  refine Tri.post ?_
  skip
  refine (Tri.enter (rl := r38) (code := c38) (by kernel_rfl) Try.func38 rfl c38_ok (by kernel_rfl) (by kernel_rfl) ?_)
  refine run_ok 4000 _ _ _ _ ?_
  simp (maxSteps := 10000000) only [go_sem, c38, r38, refO, hn]
  refine ⟨_, _, .sub [] ?_ .done, rfl, rfl⟩
  simp only [EmbV, go_sem, refO]
end Go.AEX
