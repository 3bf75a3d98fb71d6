/- Bag: what is put comes just once, if it isn't lost, or there twice. -/
import Derived.Test.YtcenagdeejbmgaaBagO
namespace Go.AEX
open Go Go.AE Go.Proofs
set_option maxRecDepth 100000
set_option linter.unusedVariables false
set_option linter.unusedSimpArgs false

theorem sv_len (l : List (List UInt8)) : (sv l).length = l.length := by simp [sv]
theorem sv_hasS {l : List (List UInt8)} {i : Nat} (h : i < l.length) : hasS (sv l) i 0 := ⟨[.str l[i]], l[i], by simp [sv, h], by simp⟩
theorem sv_rstr {l : List (List UInt8)} {i : Nat} (h : i < l.length) : rstr (sv l) i 0 = l[i] := by simp [rstr, sv, List.getD_eq_getElem?_getD, h]
theorem smp_ren (π : List Nat) (N : Nat) (D : Sc) : renP π N (smp D) = smp D := by
  induction D with
  | nil => rfl
  | cons p D ih => unfold smp at ih ⊢; simp only [List.map_cons, renP, ren, ih]
theorem smp_ids (k : Nat) (D : Sc) : idsP k (smp D) = true := by
  induction D with
  | nil => rfl
  | cons p D ih => unfold smp at ih ⊢; simp only [List.map_cons, idsP, ids, ih, Bool.and_self]
attribute [go_sem] smp_ren smp_ids isKey
abbrev onM (L : List Itm) (D : Sc) : Mem := [.box [.sl 1 0 L.length L.length false, .int .i64 0], .row 3 (brows L), .map (smp D)]
/-- The items are as they were put. -/
def Put40 (L : List Itm) : Prop := ∀ x ∈ L, 0 ≤ x.src ∧ x.src ≤ 40 ∧ x.dst = x.src + 1
set_option maxHeartbeats 40000000 in
theorem bagOnce_spec (T : List (List UInt8)) (hT : T.length ≤ 9223372036854775807 ∧ ∀ s ∈ T, s.length ≤ 9223372036854775807) (O : List Int) (hO : ∀ n ∈ O, (Lit.int .i64 n).wf = true) :
    Tri Try.prog 3 [.vsl 1 (sv T) false, .vsl 1 (iv .i64 O) false] [] (fun v m => v = .bool true) := by
  refine Tri.post ?_
  have hawk := awake25_spec
  skip
  refine (Tri.enter (rl := r3) (code := c3) (by kernel_rfl) Try.func3 rfl c3_ok (by kernel_rfl) (by kernel_rfl) ?_)
  refine run_ok 4000 _ _ _ _ ?_
  simp (maxSteps := 10000000) only [go_sem, c3, r3, sv_len, iv_len]
  refine sem_call rfl rfl (((hawk).embed [] rfl trivial rfl rfl rfl (by simp)).mono ?_)
  rintro _ _ ⟨_, _, ⟨rfl, rfl⟩, rfl, rfl⟩
  refine run_ok 4000 _ _ _ _ ?_
  simp (maxSteps := 10000000) only [go_sem, sv_len, iv_len]
  refine sem_nilbox 0 0 3 rfl rfl ?_
  simp (maxSteps := 10000000) only [go_sem, sv_len, iv_len]
  refine sem_rounds (fun q : Nat × List Itm × Sc => q.1 ≤ 40 ∧ q.2.1.length = q.1 ∧ Put40 q.2.1 ∧ Cnt q.2.2 q.2.1)
    (fun q => [(0, .vsl 1 (sv T) false), (1, .vsl 1 (iv .i64 O) false), (5, .pbox 0 0), (6, .map 2), (7, .int .i64 (q.1 : Nat))])
    (fun q => onM q.2.1 q.2.2) (fun q => 40 - q.1) (0, [], []) [0, 2, 1] ⟨by simp, rfl, fun x hx => by simp at hx, ⟨by simp, fun s => rfl⟩⟩ ?_ ?_
  · simp [Emb, go_sem, brows, smp]
  rintro ⟨i, L, D⟩ ⟨hi, hL, hP, hC⟩
  simp only at hi hL hP hC ⊢
  by_cases c : i < T.length ∧ i < 40
  · have hlt : i < T.length := c.1
    have hin1 : (i : Int) < (T.length : Int) := by omega
    have hin2 : (i : Int) < 40 := by omega
    have r0 := sv_rstr hlt
    have h0 := sv_hasS hlt
    have hcut := cut_spec T[i] 6 (by omega)
    generalize T[i].take (6 : Int).toNat = t at *
    generalize T[i] = ti at *
    have w1 := inc64 (show i < 1000000000000 by omega)
    have hput := put_spec L 0 (i : Int) ((i + 1 : Nat) : Int) [t] true (by omega) (by simp) (by simp)
    rw [put_one (by omega)] at hput
    simp only [sv, List.map_cons, List.map_nil, bagM, bagG] at hput
    have hn := hC.put ⟨(i : Int), ((i + 1 : Nat) : Int), t⟩
    simp only at hn
    have hle := cnt_le L t
    have hb : scg D t = (cnt L t : Nat) := hC.eq t
    have w2 : iwrap .i64 (scg D t + 1) = scg D t + 1 := iwrap_i64_in (by omega)
    have hP' : Put40 (L ++ [⟨(i : Int), ((i + 1 : Nat) : Int), t⟩]) := fun x hx => by
      rcases List.mem_append.1 hx with hx | hx
      · exact hP x hx
      · rw [List.mem_singleton] at hx; rw [hx]; exact ⟨by simp only; omega, by simp only; omega, by simp only; omega⟩
    have hL' : (L ++ [(⟨(i : Int), ((i + 1 : Nat) : Int), t⟩ : Itm)]).length = i + 1 := by simp [hL]
    generalize L ++ [(⟨(i : Int), ((i + 1 : Nat) : Int), t⟩ : Itm)] = L' at *
    have k1 := smp_ok D t
    have k2 := smp_val D t
    have k3 := smp_int D t
    have k4 := smp_set D t (scg D t + 1)
    generalize scp D t (scg D t + 1) = D' at *
    skip
    refine run_ok 4000 _ _ _ _ ?_
    simp (maxSteps := 10000000) only [go_sem, hin1, hin2, r0, h0, w1, w2, k1, k2, k3, k4, Int.natCast_nonneg, sv_len, iv_len]
    refine sem_call rfl rfl (((hcut).embed [] rfl trivial rfl rfl rfl (by simp)).mono ?_)
    rintro _ _ ⟨_, _, ⟨rfl, rfl⟩, rfl, rfl⟩
    refine run_ok 4000 _ _ _ _ ?_
    simp (maxSteps := 10000000) only [go_sem, hin1, hin2, r0, h0, w1, w2, k1, k2, k3, k4, Int.natCast_nonneg, sv_len, iv_len]
    refine sem_call rfl rfl (((hput).embed [0, 1] rfl (by repeat' first | exact trivial | rfl | (simp only [go_sem]; done) | constructor) rfl (by first | rfl | simp only [go_sem]) rfl (by simp)).mono ?_)
    rintro _ _ ⟨_, _, ⟨rfl, rfl⟩, rfl, rfl⟩
    refine run_ok 4000 _ _ _ _ ?_
    simp (maxSteps := 10000000) only [go_sem, hin1, hin2, r0, h0, w1, w2, k1, k2, k3, k4, Int.natCast_nonneg, sv_len, iv_len]
    refine ⟨(i + 1, L', D'), by simp only; omega, ⟨by simp only; omega, hL', hP', hn⟩, [0, 3, 2], ?_⟩
    simp only [Emb, go_sem]
  · have key : ∀ (L : List Itm) (D : Sc), True := fun _ _ => trivial
    by_cases c1 : i < T.length
    · have hin1 : (i : Int) < (T.length : Int) := by omega
      have hin2 : ¬ (i : Int) < 40 := by omega
      skip
      refine run_ok 4000 _ _ _ _ ?_
      simp (maxSteps := 10000000) only [go_sem, hin1, hin2, sv_len, iv_len]
      refine run_ok 4000 _ _ _ _ ?_
      simp (maxSteps := 10000000) only [go_sem, hin1, hin2, sv_len, iv_len]
      refine sem_rounds (fun q : Nat × List Itm × Sc => q.1 + q.2.1.length ≤ 40 ∧ Put40 q.2.1 ∧ Cnt q.2.2 q.2.1)
        (fun q => [(1, .vsl 1 (iv .i64 O) false), (5, .pbox 0 0), (6, .map 2), (9, .int .i64 (q.1 : Nat))])
        (fun q => onM q.2.1 q.2.2) (fun q => q.2.1.length) (0, L, D) [0, 1, 2] ⟨by simp only; omega, hP, hC⟩ ?_ ?_
      · simp [Emb, go_sem]
      clear hC hP hL hi hin1 c
      rintro ⟨j, L, D⟩ ⟨hj, hP, hC⟩
      simp only at hj hP hC ⊢
      have hbl := blen_spec L 0
      simp only [bagM] at hbl
      by_cases hz : L.length = 0
      · have hL0 : L = [] := List.length_eq_zero_iff.1 hz
        subst hL0
        have hg0 : ¬ (0 : Int) > 0 := by omega
        have hval := hC.none
        have htn := take_nil 0 0
        have hls := blost_spec [] 0
        simp only [bagM, brows, List.map_nil, List.length_nil] at htn hbl hls
        skip
        refine run_ok 4000 _ _ _ _ ?_
        simp (maxSteps := 10000000) only [go_sem, hg0, brows, List.map_nil, List.length_nil]
        refine sem_call rfl rfl (((hbl).embed [0, 1] rfl (by repeat' first | exact trivial | rfl | (simp only [go_sem]; done) | constructor) rfl (by first | rfl | simp only [go_sem]) rfl (by simp)).mono ?_)
        rintro _ _ ⟨_, _, ⟨rfl, rfl⟩, rfl, rfl⟩
        refine run_ok 4000 _ _ _ _ ?_
        simp (maxSteps := 10000000) only [go_sem, hg0, brows, List.map_nil, List.length_nil]
        refine run_ok 4000 _ _ _ _ ?_
        simp (maxSteps := 10000000) only [go_sem, hg0, brows, List.map_nil, List.length_nil]
        refine sem_births 2 rfl ?_
        intro bm clock bs hbl2 hbc hbn
        simp (maxSteps := 10000000) only [go_sem, hg0, brows, List.map_nil, List.length_nil]
        refine sem_rng rfl rfl rfl ?_
        refine run_ok 4000 _ _ _ _ ?_
        simp (maxSteps := 10000000) only [go_sem, hg0, brows, List.map_nil, List.length_nil]
        refine sem_rounds (fun _ : List Nat => True) (fun _ => [(5, .pbox 0 0), (86, .pbox 3 0)])
          (fun seen => [.box [.sl 1 0 0 0 false, .int .i64 0], .row 3 [], .mapb bm clock bs (smp D), .iter (some bm) clock seen clock]) (fun seen => unseen bs seen) [] [0, 1, 2, 3] trivial ?_ ?_
        · simp only [Emb, go_sem]
        intro seen _
        skip
        refine run_ok 4000 _ _ _ _ ?_
        simp (maxSteps := 10000000) only [go_sem, brows, List.map_nil, List.length_nil]
        refine sem_nxt (i := 3) (b := 2) rfl rfl rfl rfl hbc (Nat.le_refl _) ?_ ?_
        · intro _
          refine run_ok 4000 _ _ _ _ ?_
          simp (maxSteps := 10000000) only [go_sem, brows, List.map_nil, List.length_nil]
          refine run_ok 4000 _ _ _ _ ?_
          simp (maxSteps := 10000000) only [go_sem, brows, List.map_nil, List.length_nil]
          refine sem_call rfl rfl (((htn).embed [0, 1] rfl (by repeat' first | exact trivial | rfl | (simp only [go_sem]; done) | constructor) rfl (by first | rfl | simp only [go_sem]) rfl (by simp)).mono ?_)
          rintro _ _ ⟨_, _, ⟨rfl, rfl⟩, rfl, rfl⟩
          refine run_ok 4000 _ _ _ _ ?_
          simp (maxSteps := 10000000) only [go_sem, brows, List.map_nil, List.length_nil]
          refine sem_call rfl rfl (((hls).embed [0, 1] rfl (by repeat' first | exact trivial | rfl | (simp only [go_sem]; done) | constructor) rfl (by first | rfl | simp only [go_sem]) rfl (by simp)).mono ?_)
          rintro _ _ ⟨_, _, ⟨rfl, rfl⟩, rfl, rfl⟩
          refine run_ok 4000 _ _ _ _ ?_
          simp (maxSteps := 10000000) only [go_sem, brows, List.map_nil, List.length_nil]
          refine ⟨_, [], .like (Like.bool true) (.sub [] ?_ .done), rfl⟩
          simp only [EmbV, go_sem]
        · intro jj born key val h1 h2 h3
          have hmem : (key, val) ∈ smp D := List.mem_of_getElem? h2
          obtain ⟨p, hp, hpe⟩ := List.mem_map.1 hmem
          have hv0 := hval p hp
          obtain ⟨ps, pn⟩ := p
          simp only [Prod.mk.injEq] at hpe hv0
          obtain ⟨rfl, rfl⟩ := hpe
          subst hv0
          refine run_ok 4000 _ _ _ _ ?_
          simp (maxSteps := 10000000) only [go_sem, brows, List.map_nil, List.length_nil]
          refine sem_ent (i := 3) (b := 2) (j := jj) rfl rfl rfl rfl h1 h2 ?_
          refine run_ok 4000 _ _ _ _ ?_
          simp (maxSteps := 10000000) only [go_sem, brows, List.map_nil, List.length_nil]
          refine ⟨seen ++ [born], unseen_dec (List.mem_of_getElem? h1) h3, [0, 1, 2, 3], ?_⟩
          simp only [Emb, go_sem]
      · have hpos : 0 < L.length := by omega
        have hg0 : (L.length : Int) > 0 := by omega
        have wj := inc64 (show j < 1000000000000 by omega)
        by_cases co : j < O.length
        · have hin1 : (j : Int) < (O.length : Int) := by omega
          have ro := iv_rint (k := .i64) co
          have ho := iv_hasI (k := .i64) co
          generalize hk : O[j] = k at *
          have htk := take_spec L 0 (k) hpos (by omega)
          have hpl := place_lt hpos (k)
          have hwl := wout_len hpl
          have hxm := hP (ga L (place L.length (k))) (by rw [← ga_eq hpl]; exact List.getElem_mem hpl)
          obtain ⟨hn, hsc⟩ := hC.take hpl
          have hP' : Put40 (wout L (place L.length (k))) := fun x hx => hP x (by
            unfold wout at hx
            rcases List.mem_append.1 hx with hx | hx
            · exact List.mem_of_mem_take hx
            · exact List.mem_of_mem_drop hx)
          have hwl2 : (wout L (place L.length (k))).length = L.length - 1 := hwl
          simp only [bagM, bagT, brow] at htk
          generalize wout L (place L.length (k)) = L' at *
          generalize ga L (place L.length (k)) = x at *
          obtain ⟨xs, xd, xt⟩ := x
          simp only at htk hxm hn hsc
          obtain ⟨hx1, hx2, rfl⟩ := hxm
          have k1 := smp_ok D xt
          have k2 := smp_val D xt
          have k3 := smp_int D xt
          have hle := cnt_le L' xt
          have w2 : iwrap .i64 (scg D xt - 1) = scg D xt - 1 := iwrap_i64_in (by omega)
          have k4 := smp_set D xt (scg D xt - 1)
          have k7 : scg (scp D xt (scg D xt - 1)) xt = scg D xt - 1 := by rw [scg_put, if_pos rfl]
          generalize scp D xt (scg D xt - 1) = D' at *
          have k5 := smp_ok D' xt
          have k6 := smp_val D' xt
          have k8 := smp_int D' xt
          rw [k7] at k8
          have hnn : ¬ (scg D xt - 1 : Int) < 0 := by omega
          have w3 : iwrap .i64 (xs + 1) = xs + 1 := iwrap_i64_in (by omega)
          have hne : (xs + 1 != xs + 1) = false := by simp
          skip
          refine run_ok 4000 _ _ _ _ ?_
          simp (maxSteps := 10000000) only [go_sem, hin1, ro, ho, Int.natCast_nonneg, iv_len, wj, hg0, k1, k2, k3, k4, k5, k6, k8, w2, w3, hnn, hne]
          refine sem_call rfl rfl (((hbl).embed [0, 1] rfl (by repeat' first | exact trivial | rfl | (simp only [go_sem]; done) | constructor) rfl (by first | rfl | simp only [go_sem]) rfl (by simp)).mono ?_)
          rintro _ _ ⟨_, _, ⟨rfl, rfl⟩, rfl, rfl⟩
          refine run_ok 4000 _ _ _ _ ?_
          simp (maxSteps := 10000000) only [go_sem, hin1, ro, ho, Int.natCast_nonneg, iv_len, wj, hg0, k1, k2, k3, k4, k5, k6, k8, w2, w3, hnn, hne]
          refine sem_call rfl rfl (((htk).embed [0, 1] rfl (by repeat' first | exact trivial | rfl | (simp only [go_sem]; done) | constructor) rfl (by first | rfl | simp only [go_sem]) rfl (by simp)).mono ?_)
          rintro _ _ ⟨_, _, ⟨rfl, rfl⟩, rfl, rfl⟩
          refine run_ok 4000 _ _ _ _ ?_
          simp (maxSteps := 10000000) only [go_sem, hin1, ro, ho, Int.natCast_nonneg, iv_len, wj, hg0, k1, k2, k3, k4, k5, k6, k8, w2, w3, hnn, hne]
          refine ⟨(j + 1, L', D'), by simp only; omega, ⟨by simp only; omega, hP', hn⟩, [0, 3, 2], ?_⟩
          simp only [Emb, go_sem]
        · have hin1 : ¬ (j : Int) < (O.length : Int) := by omega
          have htk := take_spec L 0 ((j : Int)) hpos (by omega)
          have hpl := place_lt hpos ((j : Int))
          have hwl := wout_len hpl
          have hxm := hP (ga L (place L.length ((j : Int)))) (by rw [← ga_eq hpl]; exact List.getElem_mem hpl)
          obtain ⟨hn, hsc⟩ := hC.take hpl
          have hP' : Put40 (wout L (place L.length ((j : Int)))) := fun x hx => hP x (by
            unfold wout at hx
            rcases List.mem_append.1 hx with hx | hx
            · exact List.mem_of_mem_take hx
            · exact List.mem_of_mem_drop hx)
          have hwl2 : (wout L (place L.length ((j : Int)))).length = L.length - 1 := hwl
          simp only [bagM, bagT, brow] at htk
          generalize wout L (place L.length ((j : Int))) = L' at *
          generalize ga L (place L.length ((j : Int))) = x at *
          obtain ⟨xs, xd, xt⟩ := x
          simp only at htk hxm hn hsc
          obtain ⟨hx1, hx2, rfl⟩ := hxm
          have k1 := smp_ok D xt
          have k2 := smp_val D xt
          have k3 := smp_int D xt
          have hle := cnt_le L' xt
          have w2 : iwrap .i64 (scg D xt - 1) = scg D xt - 1 := iwrap_i64_in (by omega)
          have k4 := smp_set D xt (scg D xt - 1)
          have k7 : scg (scp D xt (scg D xt - 1)) xt = scg D xt - 1 := by rw [scg_put, if_pos rfl]
          generalize scp D xt (scg D xt - 1) = D' at *
          have k5 := smp_ok D' xt
          have k6 := smp_val D' xt
          have k8 := smp_int D' xt
          rw [k7] at k8
          have hnn : ¬ (scg D xt - 1 : Int) < 0 := by omega
          have w3 : iwrap .i64 (xs + 1) = xs + 1 := iwrap_i64_in (by omega)
          have hne : (xs + 1 != xs + 1) = false := by simp
          skip
          refine run_ok 4000 _ _ _ _ ?_
          simp (maxSteps := 10000000) only [go_sem, hin1, iv_len, wj, hg0, k1, k2, k3, k4, k5, k6, k8, w2, w3, hnn, hne]
          refine sem_call rfl rfl (((hbl).embed [0, 1] rfl (by repeat' first | exact trivial | rfl | (simp only [go_sem]; done) | constructor) rfl (by first | rfl | simp only [go_sem]) rfl (by simp)).mono ?_)
          rintro _ _ ⟨_, _, ⟨rfl, rfl⟩, rfl, rfl⟩
          refine run_ok 4000 _ _ _ _ ?_
          simp (maxSteps := 10000000) only [go_sem, hin1, iv_len, wj, hg0, k1, k2, k3, k4, k5, k6, k8, w2, w3, hnn, hne]
          refine sem_call rfl rfl (((htk).embed [0, 1] rfl (by repeat' first | exact trivial | rfl | (simp only [go_sem]; done) | constructor) rfl (by first | rfl | simp only [go_sem]) rfl (by simp)).mono ?_)
          rintro _ _ ⟨_, _, ⟨rfl, rfl⟩, rfl, rfl⟩
          refine run_ok 4000 _ _ _ _ ?_
          simp (maxSteps := 10000000) only [go_sem, hin1, iv_len, wj, hg0, k1, k2, k3, k4, k5, k6, k8, w2, w3, hnn, hne]
          refine ⟨(j + 1, L', D'), by simp only; omega, ⟨by simp only; omega, hP', hn⟩, [0, 3, 2], ?_⟩
          simp only [Emb, go_sem]
    · have hin1 : ¬ (i : Int) < (T.length : Int) := by omega
      skip
      refine run_ok 4000 _ _ _ _ ?_
      simp (maxSteps := 10000000) only [go_sem, hin1, sv_len, iv_len]
      refine run_ok 4000 _ _ _ _ ?_
      simp (maxSteps := 10000000) only [go_sem, hin1, sv_len, iv_len]
      refine sem_rounds (fun q : Nat × List Itm × Sc => q.1 + q.2.1.length ≤ 40 ∧ Put40 q.2.1 ∧ Cnt q.2.2 q.2.1)
        (fun q => [(1, .vsl 1 (iv .i64 O) false), (5, .pbox 0 0), (6, .map 2), (9, .int .i64 (q.1 : Nat))])
        (fun q => onM q.2.1 q.2.2) (fun q => q.2.1.length) (0, L, D) [0, 1, 2] ⟨by simp only; omega, hP, hC⟩ ?_ ?_
      · simp [Emb, go_sem]
      clear hC hP hL hi hin1 c
      rintro ⟨j, L, D⟩ ⟨hj, hP, hC⟩
      simp only at hj hP hC ⊢
      have hbl := blen_spec L 0
      simp only [bagM] at hbl
      by_cases hz : L.length = 0
      · have hL0 : L = [] := List.length_eq_zero_iff.1 hz
        subst hL0
        have hg0 : ¬ (0 : Int) > 0 := by omega
        have hval := hC.none
        have htn := take_nil 0 0
        have hls := blost_spec [] 0
        simp only [bagM, brows, List.map_nil, List.length_nil] at htn hbl hls
        skip
        refine run_ok 4000 _ _ _ _ ?_
        simp (maxSteps := 10000000) only [go_sem, hg0, brows, List.map_nil, List.length_nil]
        refine sem_call rfl rfl (((hbl).embed [0, 1] rfl (by repeat' first | exact trivial | rfl | (simp only [go_sem]; done) | constructor) rfl (by first | rfl | simp only [go_sem]) rfl (by simp)).mono ?_)
        rintro _ _ ⟨_, _, ⟨rfl, rfl⟩, rfl, rfl⟩
        refine run_ok 4000 _ _ _ _ ?_
        simp (maxSteps := 10000000) only [go_sem, hg0, brows, List.map_nil, List.length_nil]
        refine run_ok 4000 _ _ _ _ ?_
        simp (maxSteps := 10000000) only [go_sem, hg0, brows, List.map_nil, List.length_nil]
        refine sem_births 2 rfl ?_
        intro bm clock bs hbl2 hbc hbn
        simp (maxSteps := 10000000) only [go_sem, hg0, brows, List.map_nil, List.length_nil]
        refine sem_rng rfl rfl rfl ?_
        refine run_ok 4000 _ _ _ _ ?_
        simp (maxSteps := 10000000) only [go_sem, hg0, brows, List.map_nil, List.length_nil]
        refine sem_rounds (fun _ : List Nat => True) (fun _ => [(5, .pbox 0 0), (86, .pbox 3 0)])
          (fun seen => [.box [.sl 1 0 0 0 false, .int .i64 0], .row 3 [], .mapb bm clock bs (smp D), .iter (some bm) clock seen clock]) (fun seen => unseen bs seen) [] [0, 1, 2, 3] trivial ?_ ?_
        · simp only [Emb, go_sem]
        intro seen _
        skip
        refine run_ok 4000 _ _ _ _ ?_
        simp (maxSteps := 10000000) only [go_sem, brows, List.map_nil, List.length_nil]
        refine sem_nxt (i := 3) (b := 2) rfl rfl rfl rfl hbc (Nat.le_refl _) ?_ ?_
        · intro _
          refine run_ok 4000 _ _ _ _ ?_
          simp (maxSteps := 10000000) only [go_sem, brows, List.map_nil, List.length_nil]
          refine run_ok 4000 _ _ _ _ ?_
          simp (maxSteps := 10000000) only [go_sem, brows, List.map_nil, List.length_nil]
          refine sem_call rfl rfl (((htn).embed [0, 1] rfl (by repeat' first | exact trivial | rfl | (simp only [go_sem]; done) | constructor) rfl (by first | rfl | simp only [go_sem]) rfl (by simp)).mono ?_)
          rintro _ _ ⟨_, _, ⟨rfl, rfl⟩, rfl, rfl⟩
          refine run_ok 4000 _ _ _ _ ?_
          simp (maxSteps := 10000000) only [go_sem, brows, List.map_nil, List.length_nil]
          refine sem_call rfl rfl (((hls).embed [0, 1] rfl (by repeat' first | exact trivial | rfl | (simp only [go_sem]; done) | constructor) rfl (by first | rfl | simp only [go_sem]) rfl (by simp)).mono ?_)
          rintro _ _ ⟨_, _, ⟨rfl, rfl⟩, rfl, rfl⟩
          refine run_ok 4000 _ _ _ _ ?_
          simp (maxSteps := 10000000) only [go_sem, brows, List.map_nil, List.length_nil]
          refine ⟨_, [], .like (Like.bool true) (.sub [] ?_ .done), rfl⟩
          simp only [EmbV, go_sem]
        · intro jj born key val h1 h2 h3
          have hmem : (key, val) ∈ smp D := List.mem_of_getElem? h2
          obtain ⟨p, hp, hpe⟩ := List.mem_map.1 hmem
          have hv0 := hval p hp
          obtain ⟨ps, pn⟩ := p
          simp only [Prod.mk.injEq] at hpe hv0
          obtain ⟨rfl, rfl⟩ := hpe
          subst hv0
          refine run_ok 4000 _ _ _ _ ?_
          simp (maxSteps := 10000000) only [go_sem, brows, List.map_nil, List.length_nil]
          refine sem_ent (i := 3) (b := 2) (j := jj) rfl rfl rfl rfl h1 h2 ?_
          refine run_ok 4000 _ _ _ _ ?_
          simp (maxSteps := 10000000) only [go_sem, brows, List.map_nil, List.length_nil]
          refine ⟨seen ++ [born], unseen_dec (List.mem_of_getElem? h1) h3, [0, 1, 2, 3], ?_⟩
          simp only [Emb, go_sem]
      · have hpos : 0 < L.length := by omega
        have hg0 : (L.length : Int) > 0 := by omega
        have wj := inc64 (show j < 1000000000000 by omega)
        by_cases co : j < O.length
        · have hin1 : (j : Int) < (O.length : Int) := by omega
          have ro := iv_rint (k := .i64) co
          have ho := iv_hasI (k := .i64) co
          generalize hk : O[j] = k at *
          have htk := take_spec L 0 (k) hpos (by omega)
          have hpl := place_lt hpos (k)
          have hwl := wout_len hpl
          have hxm := hP (ga L (place L.length (k))) (by rw [← ga_eq hpl]; exact List.getElem_mem hpl)
          obtain ⟨hn, hsc⟩ := hC.take hpl
          have hP' : Put40 (wout L (place L.length (k))) := fun x hx => hP x (by
            unfold wout at hx
            rcases List.mem_append.1 hx with hx | hx
            · exact List.mem_of_mem_take hx
            · exact List.mem_of_mem_drop hx)
          have hwl2 : (wout L (place L.length (k))).length = L.length - 1 := hwl
          simp only [bagM, bagT, brow] at htk
          generalize wout L (place L.length (k)) = L' at *
          generalize ga L (place L.length (k)) = x at *
          obtain ⟨xs, xd, xt⟩ := x
          simp only at htk hxm hn hsc
          obtain ⟨hx1, hx2, rfl⟩ := hxm
          have k1 := smp_ok D xt
          have k2 := smp_val D xt
          have k3 := smp_int D xt
          have hle := cnt_le L' xt
          have w2 : iwrap .i64 (scg D xt - 1) = scg D xt - 1 := iwrap_i64_in (by omega)
          have k4 := smp_set D xt (scg D xt - 1)
          have k7 : scg (scp D xt (scg D xt - 1)) xt = scg D xt - 1 := by rw [scg_put, if_pos rfl]
          generalize scp D xt (scg D xt - 1) = D' at *
          have k5 := smp_ok D' xt
          have k6 := smp_val D' xt
          have k8 := smp_int D' xt
          rw [k7] at k8
          have hnn : ¬ (scg D xt - 1 : Int) < 0 := by omega
          have w3 : iwrap .i64 (xs + 1) = xs + 1 := iwrap_i64_in (by omega)
          have hne : (xs + 1 != xs + 1) = false := by simp
          skip
          refine run_ok 4000 _ _ _ _ ?_
          simp (maxSteps := 10000000) only [go_sem, hin1, ro, ho, Int.natCast_nonneg, iv_len, wj, hg0, k1, k2, k3, k4, k5, k6, k8, w2, w3, hnn, hne]
          refine sem_call rfl rfl (((hbl).embed [0, 1] rfl (by repeat' first | exact trivial | rfl | (simp only [go_sem]; done) | constructor) rfl (by first | rfl | simp only [go_sem]) rfl (by simp)).mono ?_)
          rintro _ _ ⟨_, _, ⟨rfl, rfl⟩, rfl, rfl⟩
          refine run_ok 4000 _ _ _ _ ?_
          simp (maxSteps := 10000000) only [go_sem, hin1, ro, ho, Int.natCast_nonneg, iv_len, wj, hg0, k1, k2, k3, k4, k5, k6, k8, w2, w3, hnn, hne]
          refine sem_call rfl rfl (((htk).embed [0, 1] rfl (by repeat' first | exact trivial | rfl | (simp only [go_sem]; done) | constructor) rfl (by first | rfl | simp only [go_sem]) rfl (by simp)).mono ?_)
          rintro _ _ ⟨_, _, ⟨rfl, rfl⟩, rfl, rfl⟩
          refine run_ok 4000 _ _ _ _ ?_
          simp (maxSteps := 10000000) only [go_sem, hin1, ro, ho, Int.natCast_nonneg, iv_len, wj, hg0, k1, k2, k3, k4, k5, k6, k8, w2, w3, hnn, hne]
          refine ⟨(j + 1, L', D'), by simp only; omega, ⟨by simp only; omega, hP', hn⟩, [0, 3, 2], ?_⟩
          simp only [Emb, go_sem]
        · have hin1 : ¬ (j : Int) < (O.length : Int) := by omega
          have htk := take_spec L 0 ((j : Int)) hpos (by omega)
          have hpl := place_lt hpos ((j : Int))
          have hwl := wout_len hpl
          have hxm := hP (ga L (place L.length ((j : Int)))) (by rw [← ga_eq hpl]; exact List.getElem_mem hpl)
          obtain ⟨hn, hsc⟩ := hC.take hpl
          have hP' : Put40 (wout L (place L.length ((j : Int)))) := fun x hx => hP x (by
            unfold wout at hx
            rcases List.mem_append.1 hx with hx | hx
            · exact List.mem_of_mem_take hx
            · exact List.mem_of_mem_drop hx)
          have hwl2 : (wout L (place L.length ((j : Int)))).length = L.length - 1 := hwl
          simp only [bagM, bagT, brow] at htk
          generalize wout L (place L.length ((j : Int))) = L' at *
          generalize ga L (place L.length ((j : Int))) = x at *
          obtain ⟨xs, xd, xt⟩ := x
          simp only at htk hxm hn hsc
          obtain ⟨hx1, hx2, rfl⟩ := hxm
          have k1 := smp_ok D xt
          have k2 := smp_val D xt
          have k3 := smp_int D xt
          have hle := cnt_le L' xt
          have w2 : iwrap .i64 (scg D xt - 1) = scg D xt - 1 := iwrap_i64_in (by omega)
          have k4 := smp_set D xt (scg D xt - 1)
          have k7 : scg (scp D xt (scg D xt - 1)) xt = scg D xt - 1 := by rw [scg_put, if_pos rfl]
          generalize scp D xt (scg D xt - 1) = D' at *
          have k5 := smp_ok D' xt
          have k6 := smp_val D' xt
          have k8 := smp_int D' xt
          rw [k7] at k8
          have hnn : ¬ (scg D xt - 1 : Int) < 0 := by omega
          have w3 : iwrap .i64 (xs + 1) = xs + 1 := iwrap_i64_in (by omega)
          have hne : (xs + 1 != xs + 1) = false := by simp
          skip
          refine run_ok 4000 _ _ _ _ ?_
          simp (maxSteps := 10000000) only [go_sem, hin1, iv_len, wj, hg0, k1, k2, k3, k4, k5, k6, k8, w2, w3, hnn, hne]
          refine sem_call rfl rfl (((hbl).embed [0, 1] rfl (by repeat' first | exact trivial | rfl | (simp only [go_sem]; done) | constructor) rfl (by first | rfl | simp only [go_sem]) rfl (by simp)).mono ?_)
          rintro _ _ ⟨_, _, ⟨rfl, rfl⟩, rfl, rfl⟩
          refine run_ok 4000 _ _ _ _ ?_
          simp (maxSteps := 10000000) only [go_sem, hin1, iv_len, wj, hg0, k1, k2, k3, k4, k5, k6, k8, w2, w3, hnn, hne]
          refine sem_call rfl rfl (((htk).embed [0, 1] rfl (by repeat' first | exact trivial | rfl | (simp only [go_sem]; done) | constructor) rfl (by first | rfl | simp only [go_sem]) rfl (by simp)).mono ?_)
          rintro _ _ ⟨_, _, ⟨rfl, rfl⟩, rfl, rfl⟩
          refine run_ok 4000 _ _ _ _ ?_
          simp (maxSteps := 10000000) only [go_sem, hin1, iv_len, wj, hg0, k1, k2, k3, k4, k5, k6, k8, w2, w3, hnn, hne]
          refine ⟨(j + 1, L', D'), by simp only; omega, ⟨by simp only; omega, hP', hn⟩, [0, 3, 2], ?_⟩
          simp only [Emb, go_sem]
end Go.AEX
