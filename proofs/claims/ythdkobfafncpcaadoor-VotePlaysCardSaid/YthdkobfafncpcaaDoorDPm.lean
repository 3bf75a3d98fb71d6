/- DSa, DWon, DPm. -/
import Derived.Test.YthdkobfafncpcaaDoorDCnt
/- Door seat: slices.Sorted(maps.Keys(m)) in any memory. -/
namespace Go.AE
open Go Go.Proofs Go.Maps
set_option linter.unusedVariables false
set_option linter.unusedSimpArgs false
variable {P : Program}
theorem tri_sortedA {m : Mem} (bi bj : Nat) {fS g : FuncId} {kt et : TypeId} (hf : isFn P fS = true) (hS : SortedSays P fS g kt et) (hkt : P.underlying kt = some (.int .i64)) {es : List (AV × AV)} (ks : List Int) (hk : keysAre ks es) (hd : ks.Nodup)
    (hw : ∀ k ∈ ks, (Lit.int .i64 k).wf = true) (hl : ks.length ≤ 1000000)
    (hbi : mg m bi = .box [.map bj]) (hbj : mg m bj = .map es) :
    Tri P fS [.fn g [] [.pbox bi 0]] m (fun v m' => v = .sl m.length 0 ks.length ks.length false ∧ m' = m ++ [.row 1 (iv .i64 (sortI ks))]) := by
  have hbi' := mg_get hbi rfl
  have hbj' := mg_get hbj rfl
  refine ⟨hf, fun φ σ w vs hI hv => ?_⟩
  obtain ⟨img0, c, e0, fr, h1, h2, h3, h4, h5, h6⟩ := hI.blk bi _ hbi'
  obtain ⟨img1, ents, cl, g1, g2, g3, g4, g5⟩ := hI.blk bj _ hbj'
  cases hv with
  | cons hv hnil =>
    cases hnil
    cases hv with
    | fn ha hc =>
      cases ha
      cases hc with
      | cons hp hnil =>
        cases hnil
        cases hp with
        | pbox hσ =>
          rw [h1] at hσ
          cases hσ
          have hcell : w.cell? ⟨img0.B, 0, none⟩ = some (.map (some img1.B)) := by
            unfold World.cell?
            rw [h3]
            have hl2 : c.toList = [.map (some img1.B)] := by
              generalize c.toList = l at h5
              cases h5 with
              | cons hm hn =>
                cases hn
                cases hm with
                | map hs => rw [g1] at hs; cases hs; rfl
            have : c[0]? = c.toList[0]? := by simp
            simp only [Option.isSome_none, Bool.false_eq_true, if_false]
            rw [this, hl2]; rfl
          have hB0 := hI.lt hbi' rfl h1
          obtain ⟨D0, q1, q2, q3⟩ := ownsMap_of hkt g2 (keys_fit g3 hk) g4 g5 hd hw hl
          have hcall := hS w img0.B img1.B ents.size D0 _ hcell hB0 q1 (by unfold maxLen; omega) (by omega)
          simp only [h2, Nat.add_zero]
          refine hcall.mono ?_
          rintro e w' ⟨v, ss, rfl, r1, r2, r3, r4⟩
          have hperm : ss.Perm ks := r1.trans q2
          have hlen := hperm.length_eq
          have hsort : ss.mergeSort (fun x y => decide (x ≤ y)) = sortI ks := mergeSort_of_perm_i hperm
          rw [hsort] at r2
          have hsl : (sortI ks).length = ks.length := List.length_mergeSort _
          have hN : σ m.length = none := hI.fresh m.length (Nat.le_refl _)
          rcases r2.2 with ⟨rfl, hz⟩ | ⟨gb, cap, cur, rfl, hbase, hgb, s1, s2, s3, s4⟩
          · -- no keys
            have hks : ks = [] := by rw [hlen] at hz; exact List.eq_nil_of_length_eq_zero hz
            subst hks
            have hse : sortI [] = [] := by simp [sortI]
            rw [hse]
            refine ⟨_, rfl, φ, σ, .sl m.length 0 0 0 false, _, ⟨rfl, rfl⟩, ?_, .sl0⟩
            refine hI.change w'.heap.size m.length (Sg.le_refl σ) r4.size (fun B _ hB => r4.block B hB) ?_ (.inr r4.size) (fun b hb => hI.fresh b (by simp at hb; omega)) (fun _ _ => rfl) (by simp) ⟨r4.os, r4.tape, r4.output⟩ ?_ ?_
            · cases hx : φ w'.heap.size with
              | none => rfl
              | some o => have := hI.fz_lt hx; have := r4.size; omega
            · intro b k hb hk hne
              have : b < m.length := by
                rcases Nat.lt_or_ge b m.length with h | h
                · exact h
                · rcases Nat.lt_or_ge b (m.length + 1) with h' | h'
                  · omega
                  · rw [List.getElem?_eq_none (by simp; omega)] at hb; cases hb
              have hb2 : m[b]? = some k := by rwa [List.getElem?_append_left this] at hb
              refine ⟨hb2, rfl, fun i hi => ?_⟩
              have := hI.lt hb2 hk hi; have := r4.size; omega
            · intro k hb _
              simp at hb; subst hb
              exact ⟨.inl ⟨rfl, hN⟩, fun i hi => by rw [hN] at hi; cases hi⟩
          · have hcs : cur.size = cap := by omega
            refine ⟨_, rfl, φ, σ.upd m.length (some ⟨gb, 0, 1, cap⟩), .sl m.length 0 ks.length ks.length false, _, ⟨rfl, rfl⟩, ?_, ?_⟩
            · refine hI.change gb m.length (Sg.upd_le hN) r4.size (fun B _ hB => r4.block B hB) ?_ (.inr hbase) (fun b hb => ?_) (fun b hb => ?_) (by simp) ⟨r4.os, r4.tape, r4.output⟩ ?_ ?_
              · cases hx : φ gb with
                | none => rfl
                | some o => have := hI.fz_lt hx; omega
              · simp at hb
                have : b ≠ m.length := by omega
                simp only [Sg.upd, this, if_false]; exact hI.fresh b (by omega)
              · skip
                have : b ≠ m.length := by omega
                simp only [Sg.upd, this, if_false]
              · intro b k hb hk hne
                have : b < m.length := by
                  rcases Nat.lt_or_ge b m.length with h | h
                  · exact h
                  · rcases Nat.lt_or_ge b (m.length + 1) with h' | h'
                    · omega
                    · rw [List.getElem?_eq_none (by simp; omega)] at hb; cases hb
                have hb2 : m[b]? = some k := by rwa [List.getElem?_append_left this] at hb
                refine ⟨hb2, by simp only [Sg.upd, hne, if_false], fun i hi => ?_⟩
                have := hI.lt hb2 hk hi; omega
              · intro k hb _
                simp at hb; subst hb
                refine ⟨.inr ⟨⟨gb, 0, 1, cap⟩, cur, et, (0, 0), by simp [Sg.upd], rfl, hgb, by simpa using hcs, ?_, ?_, ?_, ?_⟩, fun i hi => by simp [Sg.upd] at hi; rw [← hi]⟩
                · simp [iv, hsl]; omega
                · intro p u hp1 hp2 hu
                  have hpn : p < ss.length := by simp [iv, hsl] at hp2; omega
                  have : (cur.toList.take (ss.length * 1))[p]? = some u := by
                    rw [List.getElem?_take_of_lt (by omega)]; simpa using hu
                  rw [s4, List.getElem?_map, Option.map_eq_some_iff] at this
                  obtain ⟨z, _, rfl⟩ := this
                  rfl
                · intro i x hx
                  simp only [iv, List.getElem?_map, Option.map_eq_some_iff] at hx
                  obtain ⟨z, hz, rfl⟩ := hx
                  have hil : i < ss.length := by
                    rw [hlen, ← hsl]
                    rcases Nat.lt_or_ge i (sortI ks).length with h | h
                    · exact h
                    · rw [List.getElem?_eq_none h] at hz; cases hz
                  have h0 : cur.toList[i]? = some (encZ z) := by
                    have : (cur.toList.take (ss.length * 1))[i]? = some (encZ z) := by rw [s4, List.getElem?_map, hz]; rfl
                    rwa [List.getElem?_take_of_lt (by omega)] at this
                  have h1 : (cur.toList.drop (0 + i * 1)).take 1 = [encZ z] := by
                    rw [show 0 + i * 1 = i by omega]
                    have hlt : i < cur.toList.length := by
                      rcases Nat.lt_or_ge i cur.toList.length with h | h
                      · exact h
                      · rw [List.getElem?_eq_none h] at h0; cases h0
                    rw [List.drop_eq_getElem_cons hlt, List.take_succ_cons, List.take_zero]
                    rw [List.getElem?_eq_getElem hlt] at h0
                    rw [Option.some.inj h0]
                  rw [h1]
                  exact .cons .int .nil
                · intro p hp; simp
            · have hle : ks.length ≤ cap := by omega
              rw [hlen]
              have := VR.sl (φ := φ) (σ := σ.upd m.length (some ⟨gb, 0, 1, cap⟩)) (b := m.length) (i := 0) (len := ks.length) (cap := ks.length) (cap' := cap) (tight := false) (img := ⟨gb, 0, 1, cap⟩) (by simp [Sg.upd]) (Nat.le_refl _) hle (fun h => by cases h) (by simp)
              simpa using this
end Go.AE

/- Door seat: boxes as the reference tells them: who said so, won, lost, all questions. -/
namespace Go.AEX
open Go Go.AE Go.Proofs
set_option maxRecDepth 100000
set_option linter.unusedVariables false
set_option linter.unusedSimpArgs false

theorem VF.okO {O : Outr} {F : List Vts} {Open : List Int} {L : List Wd} (h : VF O F Open L) : OkO O F := fun e he => lt_of_get (h.fw e he)
theorem og_dec {O : Outr} {F : List Vts} {Open : List Int} {L : List Wd} (h : VF O F Open L) (p : Int) : (og O p).isSome = decide (p ∈ Open) := by
  by_cases c : p ∈ Open
  · obtain ⟨k, hk, _⟩ := h.got c
    rw [hk, decide_eq_true c]; rfl
  · rw [h.nog c, decide_eq_false c]; rfl
theorem cnt_nil (b : Bool) : cntV [] b = [] := by unfold cntV; simp [sortI]
section
variable {S : Nat} (hS : S < 4294967296) (ep : Int) {O : Outr} {F : List Vts} {Open : List Int} {L : List Wd} (hI : VI S Open L) (hF : VF O F Open L) (p : Int)
include hI hF
theorem vcount_spec (b : Bool) : Tri Tryd.prog 48 [.pbox 0 0, .int .i64 p, .bool b] (bM S ep O F) (fun v m => v = .vsl 1 (iv .i64 (refC L p b 32)) false ∧ m = bM S ep O F) := by
  rw [refC_cnt hI]
  by_cases c : p ∈ Open
  · obtain ⟨k, hk, hw⟩ := hF.got c
    exact bcount_some S ep O F hF.okO p b k _ hk hw (hI.vok p)
  · rw [wv_nil hI c, cnt_nil]
    exact bcount_none S ep O F hF.okO p b (hF.nog c)
theorem vyes_spec : Tri Tryd.prog 38 [.pbox 0 0, .int .i64 p] (bM S ep O F) (fun v m => v = .vsl 1 (iv .i64 (refC L p true 32)) false ∧ m = bM S ep O F) := by
  refine Tri.post ?_
  have hc := vcount_spec ep hI hF p true
  refine (Tri.enter (rl := r38) (code := c38) (by kernel_rfl) Tryd.func38 rfl c38_ok (by kernel_rfl) (by kernel_rfl) ?_)
  refine run_ok 4000 _ _ _ _ ?_
  simp (maxSteps := 10000000) only [go_sem, c38, r38]
  refine sem_call rfl rfl ((hc).mono ?_)
  rintro _ _ ⟨rfl, rfl⟩
  refine run_ok 4000 _ _ _ _ ?_
  simp (maxSteps := 10000000) only [go_sem]
  exact ⟨_, _, .done, rfl, rfl⟩
omit hI in
theorem vopen_spec : Tri Tryd.prog 25 [.pbox 0 0, .int .i64 p] (bM S ep O F) (fun v m => v = .bool (decide (p ∈ Open)) ∧ m = bM S ep O F) := by
  have := bopen_spec S ep O F p
  rwa [og_dec hF] at this
include hS
theorem vlost_spec : Tri Tryd.prog 39 [.pbox 0 0, .int .i64 p] (bM S ep O F)
    (fun v m => v = .bsym (decide (p ∈ Open) && decide (2 * ((pc S : Int) - 1 - (refC L p false 32).length) ≤ pc S)) ∧ m = bM S ep O F) := by
  refine Tri.post ?_
  have hc := vcount_spec ep hI hF p false
  have ho := vopen_spec (S := S) ep hF p
  have hl := r_len_spec S hS ep
  have hvl := (hI.vok p).len
  have hp : pc S ≤ 32 := by rw [← pc_all]; exact allN_len S 32
  have hcl : (refC L p false 32).length ≤ 32 := by
    rw [refC_cnt hI]; exact (cntV_ok (hI.vok p) false).2.2
  generalize refC L p false 32 = Y at *
  generalize pc S = n at *
  have w1 : iwrap .i64 ((n : Int) - 1) = (n : Int) - 1 := iwrap_i64_in (by omega)
  have w2 : iwrap .i64 ((n : Int) - 1 - (Y.length : Int)) = (n : Int) - 1 - (Y.length : Int) := iwrap_i64_in (by omega)
  have w3 : iwrap .i64 ((2 : Int) * ((n : Int) - 1 - (Y.length : Int))) = (2 : Int) * ((n : Int) - 1 - (Y.length : Int)) := iwrap_i64_in (by omega)
  by_cases c : p ∈ Open
  · rw [decide_eq_true c] at ho ⊢
    skip
    refine (Tri.enter (rl := r39) (code := c39) (by kernel_rfl) Tryd.func39 rfl c39_ok (by kernel_rfl) (by kernel_rfl) ?_)
    refine run_ok 4000 _ _ _ _ ?_
    simp (maxSteps := 10000000) only [go_sem, c39, r39, w1, w2, w3, iv_len, Bool.true_and, List.append_nil]
    refine sem_drawG l39_0_ok (by kernel_rfl) ?_
    intro KK hKK
    simp (maxSteps := 10000000) only [go_sem, l39_0, w1, w2, w3, iv_len, Bool.true_and, List.append_nil]
    refine TriZ.of (ho.mono ?_)
    rintro _ _ ⟨rfl, rfl⟩
    simp (maxSteps := 10000000) only [go_sem, w1, w2, w3, iv_len, Bool.true_and, List.append_nil]
    refine TriZ.of (((hl).embed [] rfl (by repeat' first | exact trivial | rfl | (simp only [go_sem]; done) | constructor) rfl (by first | rfl | simp only [go_sem]) rfl (by simp)).mono ?_)
    rintro _ _ ⟨_, _, ⟨rfl, rfl⟩, rfl, rfl⟩
    simp (maxSteps := 10000000) only [go_sem, w1, w2, w3, iv_len, Bool.true_and, List.append_nil]
    refine TriZ.of (hc.mono ?_)
    rintro _ _ ⟨rfl, rfl⟩
    simp (maxSteps := 10000000) only [go_sem, w1, w2, w3, iv_len, Bool.true_and, List.append_nil]
    refine TriZ.of (((hl).embed [] rfl (by repeat' first | exact trivial | rfl | (simp only [go_sem]; done) | constructor) rfl (by first | rfl | simp only [go_sem]) rfl (by simp)).mono ?_)
    rintro _ _ ⟨_, _, ⟨rfl, rfl⟩, rfl, rfl⟩
    simp (maxSteps := 10000000) only [go_sem, w1, w2, w3, iv_len, Bool.true_and, List.append_nil]
    subst hKK
    simp (maxSteps := 10000000) only [go_sem, w1, w2, w3, iv_len, Bool.true_and, List.append_nil]
    exact ⟨_, _, .done, rfl, rfl⟩
  · rw [decide_eq_false c] at ho ⊢
    skip
    refine (Tri.enter (rl := r39) (code := c39) (by kernel_rfl) Tryd.func39 rfl c39_ok (by kernel_rfl) (by kernel_rfl) ?_)
    refine run_ok 4000 _ _ _ _ ?_
    simp (maxSteps := 10000000) only [go_sem, c39, r39, Bool.false_and]
    refine sem_drawG l39_0_ok (by kernel_rfl) ?_
    intro KK hKK
    simp (maxSteps := 10000000) only [go_sem, l39_0, Bool.false_and]
    refine TriZ.of (ho.mono ?_)
    rintro _ _ ⟨rfl, rfl⟩
    simp (maxSteps := 10000000) only [go_sem, Bool.false_and]
    subst hKK
    simp (maxSteps := 10000000) only [go_sem, Bool.false_and]
    exact ⟨_, _, .like (Like.bsym false) .done, rfl, rfl⟩
def wonV (S : Nat) (Open : List Int) (L : List Wd) (p : Int) : Bool := decide (p ∈ Open) && mostF S p (refC L p true 32)
theorem vwon_yes (hw : wonV S Open L p = true) : Tri Tryd.prog 22 [.pbox 0 0, .int .i64 p] (bM S ep O F)
    (fun v m => v = .tup [.agg [.int .i64 3, .int .i64 p, .vsl 1 (iv .i64 (refC L p true 32)) false], .bool true] ∧ m = bM S ep O F) := by
  refine Tri.post ?_
  unfold wonV at hw
  rw [Bool.and_eq_true, decide_eq_true_eq] at hw
  have hid := bM_ids S ep O F hF.okO
  have hg := bM_gone S ep O F
  have hy := (vyes_spec ep hI hF p).front [.box [.int .i64 0, .int .i64 0, .nilsl]] rfl hid hg rfl hid rfl
  have ho := (vopen_spec (S := S) ep hF p).front [.box [.int .i64 0, .int .i64 0, .nilsl]] rfl hid hg rfl hid rfl
  rw [decide_eq_true hw.1] at ho
  have hcl : (refC L p true 32).length ≤ 32 := by
    rw [refC_cnt hI]; exact (cntV_ok (hI.vok p) true).2.2
  have hm := most_spec S hS ep p (refC L p true 32) false (by omega)
  rw [hw.2] at hm
  generalize refC L p true 32 = Y at *
  have h1 := fun x => mg_app1 (vfam F) x
  have h2 := fun x y => ms_app1 (vfam F) x y
  skip
  refine (Tri.enter (rl := r22) (code := c22) (by kernel_rfl) Tryd.func22 rfl c22_ok (by kernel_rfl) (by kernel_rfl) ?_)
  refine run_ok 4000 _ _ _ _ ?_
  simp (maxSteps := 10000000) only [go_sem, c22, r22, h1, h2]
  refine sem_call rfl rfl (hy.mono ?_)
  rintro _ _ ⟨rfl, rfl⟩
  refine run_ok 4000 _ _ _ _ ?_
  simp (maxSteps := 10000000) only [go_sem, h1, h2]
  refine sem_call rfl rfl (ho.mono ?_)
  rintro _ _ ⟨rfl, rfl⟩
  refine run_ok 4000 _ _ _ _ ?_
  simp (maxSteps := 10000000) only [go_sem, h1, h2]
  refine sem_call rfl rfl (((hm).embed [] rfl trivial rfl rfl rfl (by simp)).mono ?_)
  rintro _ _ ⟨_, _, ⟨rfl, rfl⟩, rfl, rfl⟩
  refine run_ok 4000 _ _ _ _ ?_
  simp (maxSteps := 10000000) only [go_sem, h1, h2]
  exact ⟨_, _, post_front (A := bM S ep O F) _ hid (Nat.le_refl _) rfl .done, rfl, rfl⟩
theorem vwon_no (hw : wonV S Open L p = false) : Tri Tryd.prog 22 [.pbox 0 0, .int .i64 p] (bM S ep O F)
    (fun v m => v = .tup [.agg [.int .i64 0, .int .i64 0, .nilsl], .bool false] ∧ m = bM S ep O F) := by
  refine Tri.post ?_
  unfold wonV at hw
  have hid := bM_ids S ep O F hF.okO
  have hg := bM_gone S ep O F
  have hy := (vyes_spec ep hI hF p).front [.box [.int .i64 0, .int .i64 0, .nilsl]] rfl hid hg rfl hid rfl
  have ho := (vopen_spec (S := S) ep hF p).front [.box [.int .i64 0, .int .i64 0, .nilsl]] rfl hid hg rfl hid rfl
  have hcl : (refC L p true 32).length ≤ 32 := by
    rw [refC_cnt hI]; exact (cntV_ok (hI.vok p) true).2.2
  have hm := most_spec S hS ep p (refC L p true 32) false (by omega)
  generalize refC L p true 32 = Y at *
  have h1 := fun x => mg_app1 (vfam F) x
  have h2 := fun x y => ms_app1 (vfam F) x y
  by_cases c : p ∈ Open
  · rw [decide_eq_true c] at ho hw
    rw [Bool.true_and] at hw
    rw [hw] at hm
    skip
    refine (Tri.enter (rl := r22) (code := c22) (by kernel_rfl) Tryd.func22 rfl c22_ok (by kernel_rfl) (by kernel_rfl) ?_)
    refine run_ok 4000 _ _ _ _ ?_
    simp (maxSteps := 10000000) only [go_sem, c22, r22, h1, h2]
    refine sem_call rfl rfl (hy.mono ?_)
    rintro _ _ ⟨rfl, rfl⟩
    refine run_ok 4000 _ _ _ _ ?_
    simp (maxSteps := 10000000) only [go_sem, h1, h2]
    refine sem_call rfl rfl (ho.mono ?_)
    rintro _ _ ⟨rfl, rfl⟩
    refine run_ok 4000 _ _ _ _ ?_
    simp (maxSteps := 10000000) only [go_sem, h1, h2]
    refine sem_call rfl rfl (((hm).embed [] rfl trivial rfl rfl rfl (by simp)).mono ?_)
    rintro _ _ ⟨_, _, ⟨rfl, rfl⟩, rfl, rfl⟩
    refine run_ok 4000 _ _ _ _ ?_
    simp (maxSteps := 10000000) only [go_sem, h1, h2]
    exact ⟨_, _, post_front (A := bM S ep O F) _ hid (Nat.le_refl _) rfl .done, rfl, rfl⟩
  · rw [decide_eq_false c] at ho
    skip
    refine (Tri.enter (rl := r22) (code := c22) (by kernel_rfl) Tryd.func22 rfl c22_ok (by kernel_rfl) (by kernel_rfl) ?_)
    refine run_ok 4000 _ _ _ _ ?_
    simp (maxSteps := 10000000) only [go_sem, c22, r22, h1, h2]
    refine sem_call rfl rfl (hy.mono ?_)
    rintro _ _ ⟨rfl, rfl⟩
    refine run_ok 4000 _ _ _ _ ?_
    simp (maxSteps := 10000000) only [go_sem, h1, h2]
    refine sem_call rfl rfl (ho.mono ?_)
    rintro _ _ ⟨rfl, rfl⟩
    refine run_ok 4000 _ _ _ _ ?_
    simp (maxSteps := 10000000) only [go_sem, h1, h2]
    exact ⟨_, _, post_front (A := bM S ep O F) _ hid (Nat.le_refl _) rfl .done, rfl, rfl⟩
omit hS
theorem vall_spec : Tri Tryd.prog 33 [.pbox 0 0] (bM S ep O F) (fun v m => v = .vsl 1 (iv .i64 (sortI Open)) false ∧ m = bM S ep O F) := by
  refine Tri.post ?_
  have hid := bM_ids S ep O F hF.okO
  have hk : Tri Tryd.prog 43 [.map 1] (bM S ep O F) (fun v m => v = .fn 51 [] [.pbox ((vfam F).length + 1 + 1) 0] ∧ m = vBox S ep :: .map (ob O) :: (vfam F ++ [.box [.map 1]])) := by
    refine Tri.post ?_
    refine (Tri.enter (rl := r43) (code := c43) (by kernel_rfl) Tryd.func43 rfl c43_ok (by kernel_rfl) (by kernel_rfl) ?_)
    refine run_ok 4000 _ _ _ _ ?_
    simp (maxSteps := 10000000) only [go_sem, c43, r43]
    exact ⟨_, _, .done, rfl, rfl⟩
  have hrg : ∀ v ∈ Open, 0 ≤ v ∧ v < 32 := fun v hv => hasN_rg (hI.op v hv).1
  have hol : Open.length ≤ 32 := r_pigeon 32 Open (-1) hI.nd fun v hv => by have := hrg v hv; omega
  have hks : keysAre Open (ob O) := by
    unfold keysAre ob
    rw [← hF.ks, List.map_map, List.map_map]; rfl
  have hs := tri_sortedA (P := Tryd.prog) (m := vBox S ep :: .map (ob O) :: (vfam F ++ ([.box [.map 1]] : Mem))) ((vfam F).length + 1 + 1) 1 (fS := 42) (by kernel_rfl) TrydL.says51 Tryd.underlying3 Open hks hI.nd (fun v hv => by have := hrg v hv; exact wf_i64 (by omega)) (by omega)
    (show mg (vfam F ++ [.box [.map 1]]) (vfam F).length = _ from mg_app1 (vfam F) _) rfl
  have hsl : (sortI Open).length = Open.length := List.length_mergeSort _
  refine (Tri.enter (rl := r33) (code := c33) (by kernel_rfl) Tryd.func33 rfl c33_ok (by kernel_rfl) (by kernel_rfl) ?_)
  refine run_ok 4000 _ _ _ _ ?_
  simp (maxSteps := 10000000) only [go_sem, c33, r33]
  refine sem_call rfl rfl ((hk).mono ?_)
  rintro _ _ ⟨rfl, rfl⟩
  refine run_ok 4000 _ _ _ _ ?_
  simp (maxSteps := 10000000) only [go_sem]
  refine sem_call rfl rfl (hs.mono ?_)
  rintro _ _ ⟨rfl, rfl⟩
  have e : (vBox S ep :: .map (ob O) :: (vfam F ++ [.box [.map 1]])).length = (bM S ep O F).length + 1 := by simp
  have e2 : (vBox S ep :: .map (ob O) :: (vfam F ++ [.box [.map 1]])) ++ [.row 1 (iv .i64 (sortI Open))] = bM S ep O F ++ [.box [.map 1], .row 1 (iv .i64 (sortI Open))] := by simp
  rw [e, e2]
  refine run_ok 4000 _ _ _ _ ?_
  simp (maxSteps := 10000000) only [go_sem]
  rw [← hsl]
  exact ⟨_, _, post_row (A := bM S ep O F) (ex := [.box [.map 1], .row 1 (iv .i64 (sortI Open))]) (j := 1) hid (Nat.le_refl _) rfl (by rw [iv_len]; exact Nat.le_refl _), by rw [r_iv_all], rfl⟩
end
end Go.AEX

/- Door seat: what is won may be, and isn't lost: plain. -/
namespace Go.AEX
open Go Go.AE Go.Proofs
set_option linter.unusedVariables false
set_option linter.unusedSimpArgs false
theorem nodup_sub_len : ∀ {a b : List Int}, a.Nodup → (∀ x ∈ a, x ∈ b) → a.length ≤ b.length
  | [], _, _, _ => Nat.zero_le _
  | x :: a, b, hn, hs => by
    simp only [List.nodup_cons] at hn
    have hx := hs x (by simp)
    have ih := nodup_sub_len (b := b.erase x) hn.2 fun y hy => by
      have hne : y ≠ x := fun e => hn.1 (e ▸ hy)
      rw [List.mem_erase_of_ne hne]
      exact hs y (by simp [hy])
    rw [List.length_erase_of_mem hx] at ih
    have : 0 < b.length := List.length_pos_of_mem hx
    simp only [List.length_cons]; omega
theorem wonV_chk {S : Nat} {Open : List Int} {L : List Wd} (hI : VI S Open L) {p : Int} (h : wonV S Open L p = true) : chkF S (3, p, refC L p true 32) = 0 := by
  unfold wonV at h
  rw [Bool.and_eq_true, decide_eq_true_eq] at h
  obtain ⟨ho, hm⟩ := h
  obtain ⟨hs, h0⟩ := hI.op p ho
  have hr := hasN_rg hs
  simp only [chkF]
  rw [if_neg (by omega), if_neg (by omega), if_neg (by omega), if_neg (by simp [hs]), if_neg (by simp [hm])]
def lostV (S : Nat) (Open : List Int) (L : List Wd) (p : Int) : Bool := decide (p ∈ Open) && decide (2 * ((pc S : Int) - 1 - (refC L p false 32).length) ≤ pc S)
theorem wonV_lost {S : Nat} {Open : List Int} {L : List Wd} (hI : VI S Open L) {p : Int} (h : wonV S Open L p = true) : lostV S Open L p = false := by
  unfold wonV at h
  rw [Bool.and_eq_true, decide_eq_true_eq] at h
  obtain ⟨ho, hm⟩ := h
  obtain ⟨hs, h0⟩ := hI.op p ho
  have hw : 2 * (refC L p true 32).length > pc S := by
    unfold mostF at hm
    rw [Bool.and_eq_true, decide_eq_true_eq] at hm
    exact hm.2
  have hlen : (p :: (refC L p true 32 ++ refC L p false 32)).length ≤ (allN S 32).length := by
    refine nodup_sub_len ?_ fun x hx => ?_
    · rw [List.nodup_cons, List.nodup_append]
      have nd : ∀ y, (refC L p y 32).Nodup := fun y => by
        rw [List.nodup_iff_pairwise_ne]
        exact (refC_lt hI p y 32).imp fun h => by omega
      refine ⟨fun hp => ?_, nd true, nd false, fun a ha b hb e => ?_⟩
      · rcases List.mem_append.1 hp with hp | hp
        · exact (hI.wd _ (refC_mem.1 hp).2.2).2.2 rfl
        · exact (hI.wd _ (refC_mem.1 hp).2.2).2.2 rfl
      · subst e
        have h1 := (refC_mem.1 ha).2.2
        have h2 := (refC_mem.1 hb).2.2
        have := nd_map_inj hI.pr h1 h2 rfl
        cases this
    · rw [allN_iff]
      rcases List.mem_cons.1 hx with rfl | hx
      · exact hs
      · rcases List.mem_append.1 hx with hx | hx
        · exact (hI.wd _ (refC_mem.1 hx).2.2).2.1
        · exact (hI.wd _ (refC_mem.1 hx).2.2).2.1
  rw [pc_all, List.length_cons, List.length_append] at hlen
  unfold lostV
  rw [decide_eq_true ho, Bool.true_and]
  exact decide_eq_false (by omega)
end Go.AEX
