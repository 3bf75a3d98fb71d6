/- HLinkQ, HLinkR, HLinkS, HLinkT, HLinkV in one. -/
import Derived.Test.YthpfmahafgfbeaaHLinkP
import Derived.Test.YthpfmahafgfbeaaHTimW
/- Link: what goes now. -/
namespace Go.AEX
open Go Go.AE Go.Proofs
set_option maxRecDepth 100000
set_option linter.unusedVariables false
set_option linter.unusedSimpArgs false

theorem cget_cput {k v x : Int} : ∀ {D : Cnt}, cget (cput D k v) x = if x = k then some v else cget D x
  | [] => by simp [cput, cget]
  | p :: D => by
    have ih := cget_cput (k := k) (v := v) (x := x) (D := D)
    unfold cput
    by_cases e : k = p.1
    · rw [if_pos e]; simp only [cget]; rw [← e]; split <;> rfl
    · rw [if_neg e]; simp only [cget]; rw [ih]
      by_cases e2 : x = p.1
      · rw [if_pos e2, if_neg (by rw [e2]; exact fun h => e h.symm), if_pos e2]
      · rw [if_neg e2]; split <;> simp [cget, e2, *]
structure DuI (p : List Int) (D : Cnt) : Prop where
  rg : ∀ x, 0 ≤ (cget D x).getD 0 ∧ (cget D x).getD 0 ≤ p.length
  iff : ∀ x, 0 < (cget D x).getD 0 ↔ x ∈ p
theorem DuI.begin : DuI [] [] := ⟨by simp [cget], by simp [cget]⟩
theorem DuI.put {p : List Int} {D : Cnt} (h : DuI p D) (x : Int) {v : Int} (hv : v = ((p.length + 1 : Nat) : Int)) : DuI (p ++ [x]) (cput D x v) := by
  refine ⟨fun y => ?_, fun y => ?_⟩
  · rw [cget_cput]
    by_cases e : y = x
    · rw [if_pos e]; simp; omega
    · rw [if_neg e]; have := h.rg y; simp; omega
  · rw [cget_cput]
    by_cases e : y = x
    · rw [if_pos e]; simp [e]; omega
    · rw [if_neg e, h.iff y]; simp [e]
theorem sv_app (a b : List (List UInt8)) : sv a ++ sv b = sv (a ++ b) := by simp [sv]
theorem sub_sv (l : List (List UInt8)) : sub (sv l) 0 l.length = sv l := by have := sub_all (sv l); rwa [sv_len] at this
def dgL (s : LS) (l : List Itm) : List UInt8 := dgB s.inx.toNat (bitsW s.inx s.im 32) l
def dueN (s : LS) (now : Int) : List Int := numsT (stab (dueL now s.tl))
def pollE (s : LS) (now : Int) : LS := { s with tl := s.tl.map (updE s.cm now) }
def pollT (s : LS) (now : Int) : List Part × FS × List Itm := fillF s.cf now s.ws ⟨s.on, s.ol, s.tl.map (updE s.cm now)⟩
def pollI (s : LS) (now : Int) : List Itm := s.ol.filter fun x => decide (x.1 ∈ dueN s now)
def pollO (s : LS) (now : Int) : List (List UInt8) := (pollI s now).map (fun x => dgL s [x]) ++ (pollT s now).2.2.map fun x => dgL s [x]
def pollF (s : LS) (now : Int) : LS × List (List UInt8) :=
  ({ s with ws := (pollT s now).1, on := (pollT s now).2.1.on, ol := (pollT s now).2.1.ol, tl := (pollT s now).2.1.tl, tell := false },
    if s.tell = true ∧ (pollO s now).length = 0 then [dgL s []] else pollO s now)
abbrev lkM2 (s : LS) : Mem := [lkB s, .box [.int .u32 s.on, .sl 7 0 s.ol.length s.ol.length false], .box [.int .u32 s.inx, .map 5], .box [.int .i64 s.cf, .int .i64 s.cm, .sl 8 0 s.tl.length s.tl.length false],
  .gone, .map (me s.im), .gone, .row 2 (irows s.ol), .row 4 (terows s.tl)]
structure LOk (s : LS) : Prop where
  cf : 0 ≤ s.cf ∧ s.cf ≤ 10000000
  cm : 0 ≤ s.cm ∧ s.cm ≤ 10000000
  on : U32 s.on
  inx : U32 s.inx
  ol : s.ol.length ≤ 1000
  tl : s.tl.length ≤ 1000
  ws : s.ws.length ≤ 1000
  im : s.im.length ≤ 1000
  it : ∀ x ∈ s.ol, U32 x.1 ∧ x.2.length ≤ 10000
  pt : ∀ p ∈ s.ws, p.2.length ≤ 1000
  tm : TmOk s.tl
  js : s.js.length ≤ 65536
  mt : ∀ p ∈ s.im, p.2.length ≤ 10000
theorem fillF_out (cf now : Int) : ∀ (ws : List Part) (st : FS), U32 st.on → (∀ p ∈ ws, p.2.length ≤ 1000) → ∀ x ∈ (fillF cf now ws st).2.2, U32 x.1 ∧ x.2.length ≤ 10000
  | [], st, hu, hp, x, hx => by simp [fillF] at hx
  | p :: ws, st, hu, hp, x, hx => by
    rw [fillF] at hx
    split at hx
    · simp only at hx
      rcases List.mem_cons.1 hx with rfl | hx
      · refine ⟨hu, ?_⟩
        have := hp p (by simp)
        simp [partB]; omega
      · exact fillF_out cf now ws _ (U32.wrap _) (fun q hq => hp q (by simp [hq])) x hx
    · simp at hx
theorem fillF_len (cf now : Int) : ∀ (ws : List Part) (st : FS), (fillF cf now ws st).2.2.length ≤ ws.length
  | [], st => by simp [fillF]
  | p :: ws, st => by
    rw [fillF]
    split
    · have := fillF_len cf now ws ⟨u32 (st.on + 1), st.ol ++ [(st.on, partB p)], startF cf now st.tl st.on⟩
      simp only [List.length_cons]; omega
    · simp
theorem dueN_len (s : LS) (now : Int) : (dueN s now).length ≤ s.tl.length := by
  unfold dueN numsT stab dueL
  rw [List.length_map, List.length_mergeSort]
  exact List.length_filter_le _ _
theorem Tri.likebox {P : Program} {f : FuncId} {args : List AV} {m : Mem} {K : AV → Mem → Prop} (b j : Nat) {v : AV} (u : AV) (hu : Like v u)
    (h : Tri P f args m fun x m' => ∃ cs, mg m' b = .box cs ∧ lg cs j = some v ∧ K x (ms m' b (.box (ls cs j u)))) : Tri P f args m K :=
  ⟨h.1, fun φ σ w vs hI hv => (h.2 φ σ w vs hI hv).mono fun e w' ⟨v', he, φ', σ', x, m', ⟨cs, hb, hj, hK⟩, hs, hr⟩ => by
    have hbm := mg_get hb rfl
    have hI' := hs.inv
    have bl : ∀ (c : Nat) (l : Blk), (ms m' b (.box (ls cs j u)))[c]? = some l → ∃ l0, m'[c]? = some l0 ∧ l.owned = l0.owned ∧ (BM φ' σ' w' (σ' c) l0 → BM φ' σ' w' (σ' c) l) := by
      intro c l hc
      rcases ms_get _ _ _ _ _ hc with ⟨e, e2⟩ | ⟨_, hc⟩
      · subst e; subst e2
        refine ⟨_, hbm, rfl, fun h => ?_⟩
        obtain ⟨img, c1, e, fr, h1, h2, h3, h4, h5, h6⟩ := h
        exact ⟨img, c1, e, fr, h1, h2, h3, h4, ls_VRs hu h5 hj, h6⟩
      · exact ⟨l, hc, rfl, id⟩
    refine ⟨v', he, φ', σ', x, _, hK, ⟨hs.fz, hs.sg, ⟨hI'.fz, fun c l hc => ?_, fun c d l l' i j hc hd hl hl' hi hj hne => ?_, fun c l i hc hl hi => ?_, fun c hc => hI'.fresh c (by rw [ms_len] at hc; exact hc)⟩, hs.size, hs.frame, fun c l i hc hl hi => ?_, hs.old, by rw [ms_len]; exact hs.len, hs.ice, hs.env⟩, hr⟩
    · obtain ⟨l0, h1, h2, h3⟩ := bl c l hc
      exact h3 (hI'.blk c l0 h1)
    · obtain ⟨l0, h1, h2, _⟩ := bl c l hc
      obtain ⟨g0, g1, g2, _⟩ := bl d l' hd
      exact hI'.inj c d l0 g0 i j h1 g1 (by rw [← h2]; exact hl) (by rw [← g2]; exact hl') hi hj hne
    · obtain ⟨l0, h1, h2, _⟩ := bl c l hc
      exact hI'.apart c l0 i h1 (by rw [← h2]; exact hl) hi
    · obtain ⟨l0, h1, h2, _⟩ := bl c l hc
      exact hs.own c l0 i h1 (by rw [← h2]; exact hl) hi⟩
abbrev lkBf (s : LS) : Blk := .box [.pbox 1 0, .pbox 2 0, .pbox 3 0, .str s.js, .int .i64 s.jn, .vsl 2 (prows s.ws) false, .bool false, .int .i64 s.bad, .int .i64 s.car]
abbrev lkM2f (s : LS) : Mem := [lkBf s, .box [.int .u32 s.on, .sl 7 0 s.ol.length s.ol.length false], .box [.int .u32 s.inx, .map 5], .box [.int .i64 s.cf, .int .i64 s.cm, .sl 8 0 s.tl.length s.tl.length false],
  .gone, .map (me s.im), .gone, .row 2 (irows s.ol), .row 4 (terows s.tl)]
set_option maxHeartbeats 40000000 in
theorem lpoll0_spec (s : LS) (now : Int) (ok : LOk s) (hnow : 0 ≤ now ∧ now ≤ 10000000) :
    Tri Try.prog 22 [.pbox 0 0, .int .i64 now] (lkM s) (fun v m => v = .vsl 1 (sv (pollF s now).2) false ∧ m = lkM2f (pollF s now).1) := by
  refine Tri.post ?_
  obtain ⟨hcf, hcm, hon, hinx, hol, htl, hws, him, hit, hpt, htm, hjs, hmt⟩ := ok
  have hdue := due_any s.cf s.cm now s.tl (by omega) htm hcm hnow
  have hall := all_spec s.on s.ol (by omega)
  have hfill := lfill_spec (pollE s now) now hcf hon (by simp only [pollE]; omega) (by simp only [pollE, List.length_map]; omega) (fun p hp => by have := hpt p hp; omega) hnow
  have hFo := fillF_out s.cf now s.ws ⟨s.on, s.ol, s.tl.map (updE s.cm now)⟩ hon hpt
  have hFl := fillF_len s.cf now s.ws ⟨s.on, s.ol, s.tl.map (updE s.cm now)⟩
  have hnl := dueN_len s now
  have hpo : pollO s now = (s.ol.filter fun x => decide (x.1 ∈ dueN s now)).map (fun x => dgL s [x]) ++ (pollT s now).2.2.map fun x => dgL s [x] := rfl
  have hpt' : pollT s now = fillF s.cf now s.ws ⟨s.on, s.ol, s.tl.map (updE s.cm now)⟩ := rfl
  rw [← hpt'] at hFo hFl
  have hfill : Tri Try.prog 43 [.pbox 0 0, .int .i64 now] (lkM (pollE s now)) (fun v m => v = .vsl 2 (irows (pollT s now).2.2) false ∧ m = flM (pollE s now) (pollT s now).1 (pollT s now).2.1) := hfill
  have hdn : numsT (stab (dueL now s.tl)) = dueN s now := rfl
  rw [hdn] at hdue
  unfold pollF
  generalize pollT s now = F at *
  generalize dueN s now = ns at *
  generalize pollO s now = PO at *
  simp only [tmM] at hdue
  simp only [outW] at hall
  simp only [pollE, lkM, lkB, flM] at hfill
  skip
  refine (Tri.enter (rl := r22) (code := c22) (by kernel_rfl) Try.func22 rfl c22_ok (by kernel_rfl) (by kernel_rfl) ?_)
  refine run_ok 4000 _ _ _ _ ?_
  simp (maxSteps := 10000000) only [go_sem, c22, r22, lkM, lkB]
  refine sem_move 4 rfl ?_
  refine sem_move 6 rfl ?_
  refine sem_virt 5 1 rfl ?_
  simp (maxSteps := 10000000) only [go_sem, lkM, lkB]
  refine sem_call rfl rfl (((hdue).embed [3, 9] rfl (by repeat' first | exact trivial | rfl | (simp only [go_sem]; done) | constructor) rfl (by first | rfl | simp only [go_sem]) rfl (by simp)).mono ?_)
  rintro _ _ ⟨_, _, ⟨rfl, rfl⟩, rfl, rfl⟩
  refine run_ok 4000 _ _ _ _ ?_
  simp (maxSteps := 10000000) only [go_sem, lkM, lkB]
  refine sem_rounds (fun q : Nat × Cnt => q.1 ≤ ns.length ∧ DuI (ns.take q.1) q.2)
    (fun q => [(0, .pbox 0 0), (1, .int .i64 now), (5, .sl 10 0 0 0 false), (6, .map 9), (19, .vsl 1 (uv ns) false), (20, .int .i64 ns.length), (21, .int .i64 q.1)])
    (fun q => flM s s.ws ⟨s.on, s.ol, s.tl.map (updE s.cm now)⟩ ++ [.map (gme q.2), .row 1 (sv [])]) (fun q => ns.length - q.1) (0, []) [0, 1, 2, 3, 4, 5, 6, 8, 9, 7, 10] ⟨Nat.zero_le _, DuI.begin⟩ ?_ ?_
  · simp [Emb, go_sem, gme, sv, iv_len]
  rintro ⟨i, D⟩ ⟨hi, hD⟩
  simp only at hi hD ⊢
  by_cases hlt : i < ns.length
  · have r0 := iv_rint (k := .u32) hlt
    have hin : (i : Int) < (ns.length : Int) := by omega
    have htk : ns.take (i + 1) = ns.take i ++ [ns[i]] := List.take_succ_eq_append_getElem hlt
    have hp := hD.put ns[i] (v := ((i + 1 : Nat) : Int)) (by rw [List.length_take]; omega)
    rw [← htk] at hp
    have hci := gme_int (k := ns[i]) (D := D)
    have hcv := gme_val (k := ns[i]) (D := D)
    have hcp := gme_put (k := ns[i]) ((i + 1 : Nat) : Int) (D := D)
    have hih := iv_hasI (k := .u32) hlt
    generalize cput D ns[i] ((i + 1 : Nat) : Int) = D2 at *
    generalize ns[i] = y at *
    skip
    refine run_ok 4000 _ _ _ _ ?_
    simp (maxSteps := 10000000) only [go_sem, hin, r0, hih, iv_len, hci, hcv, hcp, Int.natCast_nonneg, List.cons_append, List.nil_append, inc64 (show i < 1000000000000 by omega)]
    refine ⟨(i + 1, D2), by simp only; omega, ⟨hlt, hp⟩, [0, 1, 2, 3, 4, 5, 6, 7, 8, 9, 10], ?_⟩
    simp only [Emb, go_sem, List.cons_append, List.nil_append]
  have hge : ¬ (i : Int) < (ns.length : Int) := by omega
  have hie : i = ns.length := by omega
  subst hie
  rw [List.take_length] at hD
  skip
  refine run_ok 4000 _ _ _ _ ?_
  simp (maxSteps := 10000000) only [go_sem, hge, List.cons_append, List.nil_append]
  refine run_ok 4000 _ _ _ _ ?_
  simp (maxSteps := 10000000) only [go_sem, hge, List.cons_append, List.nil_append]
  refine sem_call rfl rfl (((hall).embed [1, 7] rfl (by repeat' first | exact trivial | rfl | (simp only [go_sem]; done) | constructor) rfl (by first | rfl | simp only [go_sem]) rfl (by simp)).mono ?_)
  rintro _ _ ⟨_, _, ⟨rfl, rfl⟩, rfl, rfl⟩
  refine run_ok 4000 _ _ _ _ ?_
  simp (maxSteps := 10000000) only [go_sem, hge, List.cons_append, List.nil_append]
  refine sem_rounds (fun k : Nat => k ≤ s.ol.length)
    (fun k => [(0, .pbox 0 0), (1, .int .i64 now), (5, .sl 10 0 ((s.ol.take k).filter fun x => decide (x.1 ∈ ns)).length ((s.ol.take k).filter fun x => decide (x.1 ∈ ns)).length false), (6, .map 9), (35, .vsl 2 (irows s.ol) false), (36, .int .i64 s.ol.length), (37, .int .i64 k)])
    (fun k => flM s s.ws ⟨s.on, s.ol, s.tl.map (updE s.cm now)⟩ ++ [.map (gme D), .row 1 (sv (((s.ol.take k).filter fun x => decide (x.1 ∈ ns)).map fun x => dgL s [x]))]) (fun k => s.ol.length - k) 0 [0, 1, 2, 3, 4, 5, 6, 7, 8, 9, 10] (Nat.zero_le _) ?_ ?_
  · simp [Emb, go_sem, sv, irows_len]
  intro k hk
  by_cases hlt : k < s.ol.length
  · have hin : (k : Int) < (s.ol.length : Int) := by omega
    have htk : s.ol.take (k + 1) = s.ol.take k ++ [s.ol[k]] := List.take_succ_eq_append_getElem hlt
    have hx := hit _ (List.getElem_mem hlt)
    have r0 := i_rint hlt
    have r1 := i_rstr hlt
    have hI := i_hasI hlt
    have hS := i_hasS hlt
    have hcl : ((s.ol.take k).filter fun x => decide (x.1 ∈ ns)).length ≤ 1000 := by
      have h1 := List.length_filter_le (fun x : Itm => decide (x.1 ∈ ns)) (s.ol.take k)
      rw [List.length_take] at h1; omega
    have hsub := sub_sv (((s.ol.take k).filter fun x => decide (x.1 ∈ ns)).map fun x => dgL s [x])
    rw [List.length_map] at hsub
    have hci := gme_int (k := s.ol[k].1) (D := D)
    have hcv := gme_val (k := s.ol[k].1) (D := D)
    have hdi := hD.iff s.ol[k].1
    by_cases c : s.ol[k].1 ∈ ns
    · have hc : (cget D s.ol[k].1).getD 0 > 0 := hdi.2 c
      have hnx : (s.ol.take (k + 1)).filter (fun x => decide (x.1 ∈ ns)) = (s.ol.take k).filter (fun x => decide (x.1 ∈ ns)) ++ [s.ol[k]] := by rw [htk, List.filter_append]; simp [c]
      have hdg := ldata_spec { s with tl := s.tl.map (updE s.cm now) } [s.ol[k]] true (by simp) hinx (by simpa using hx)
      have hde : dgB s.inx.toNat (bitsW s.inx s.im 32) [s.ol[k]] = dgL s [s.ol[k]] := rfl
      simp only [lkM, lkB, hde] at hdg
      rw [show irows [s.ol[k]] = [[AV.int .u32 s.ol[k].1, AV.str s.ol[k].2]] from rfl] at hdg
      generalize hCk : (s.ol.take k).filter (fun x => decide (x.1 ∈ ns)) = Ck at *
      generalize hxk : s.ol[k] = x at *
      have hml : (Ck.map fun x => dgL s [x]).length = Ck.length := List.length_map ..
      skip
      refine run_ok 4000 _ _ _ _ ?_
      simp (maxSteps := 10000000) only [go_sem, hin, r0, r1, hI, hS, hci, hcv, hc, hsub, irows_len, Int.natCast_nonneg, List.cons_append, List.nil_append, inc64 (show k < 1000000000000 by omega)]
      refine sem_call rfl rfl (((hdg).embed [0, 1, 2, 3, 7, 5, 8] rfl (by repeat' first | exact trivial | rfl | (simp only [go_sem]; done) | constructor) rfl (by first | rfl | simp only [go_sem]) rfl (by simp)).mono ?_)
      rintro _ _ ⟨_, _, ⟨rfl, rfl⟩, rfl, rfl⟩
      refine run_ok 4000 _ _ _ _ ?_
      simp (maxSteps := 10000000) only [go_sem, hin, r0, r1, hI, hS, hci, hcv, hc, hsub, irows_len, Int.natCast_nonneg, List.cons_append, List.nil_append, inc64 (show k < 1000000000000 by omega)]
      rw [svl_one, sv_app]
      refine ⟨by unfold small; omega, k + 1, by omega, hlt, [0, 1, 2, 3, 4, 5, 6, 7, 8, 9, 12], ?_⟩
      simp only [hnx]
      simp [Emb, go_sem]
    · have hc : ¬ (cget D s.ol[k].1).getD 0 > 0 := fun h => c (hdi.1 h)
      have hnx : (s.ol.take (k + 1)).filter (fun x => decide (x.1 ∈ ns)) = (s.ol.take k).filter (fun x => decide (x.1 ∈ ns)) := by rw [htk, List.filter_append]; simp [c]
      generalize hCk : (s.ol.take k).filter (fun x => decide (x.1 ∈ ns)) = Ck at *
      generalize hxk : s.ol[k] = x at *
      skip
      refine run_ok 4000 _ _ _ _ ?_
      simp (maxSteps := 10000000) only [go_sem, hin, r0, r1, hI, hS, hci, hcv, hc, irows_len, Int.natCast_nonneg, List.cons_append, List.nil_append, inc64 (show k < 1000000000000 by omega)]
      refine ⟨k + 1, by omega, hlt, [0, 1, 2, 3, 4, 5, 6, 7, 8, 9, 10], ?_⟩
      simp only [hnx]
      simp [Emb, go_sem]
  have hge2 : ¬ (k : Int) < (s.ol.length : Int) := by omega
  have hke : k = s.ol.length := by omega
  subst hke
  simp only [List.take_length]
  have hC1 : (s.ol.filter fun x => decide (x.1 ∈ ns)).length ≤ 1000 := Nat.le_trans (List.length_filter_le _ _) hol
  generalize hC : (s.ol.filter fun x => decide (x.1 ∈ ns)) = C at *
  have hC2 : (C.map fun x => dgL s [x]).length = C.length := List.length_map ..
  generalize hC3 : (C.map fun x => dgL s [x]) = O1 at *
  skip
  refine run_ok 4000 _ _ _ _ ?_
  simp (maxSteps := 10000000) only [go_sem, hge2, List.cons_append, List.nil_append]
  refine run_ok 4000 _ _ _ _ ?_
  simp (maxSteps := 10000000) only [go_sem, hge2, List.cons_append, List.nil_append]
  refine sem_call rfl rfl (((hfill).embed [0, 1, 2, 3, 7, 5, 8] rfl (by repeat' first | exact trivial | rfl | (simp only [go_sem]; done) | constructor) rfl (by first | rfl | simp only [go_sem]) rfl (by simp)).mono ?_)
  rintro _ _ ⟨_, _, ⟨rfl, rfl⟩, rfl, rfl⟩
  refine run_ok 4000 _ _ _ _ ?_
  simp (maxSteps := 10000000) only [go_sem, hge2, List.cons_append, List.nil_append]
  refine sem_rounds (fun k : Nat => k ≤ F.2.2.length)
    (fun k => [(0, .pbox 0 0), (5, .sl 9 0 (C.length + k) (C.length + k) false), (56, .vsl 2 (irows F.2.2) false), (57, .int .i64 F.2.2.length), (58, .int .i64 k)])
    (fun k => flM s F.1 F.2.1 ++ [.row 1 (sv (O1 ++ (F.2.2.take k).map fun x => dgL s [x]))]) (fun k => F.2.2.length - k) 0 [0, 1, 2, 3, 4, 5, 6, 11, 12, 10] (Nat.zero_le _) ?_ ?_
  · simp [Emb, go_sem, irows_len]
  intro k hk
  by_cases hlt : k < F.2.2.length
  · have hin : (k : Int) < (F.2.2.length : Int) := by omega
    have htk : F.2.2.take (k + 1) = F.2.2.take k ++ [F.2.2[k]] := List.take_succ_eq_append_getElem hlt
    have hx := hFo _ (List.getElem_mem hlt)
    have r0 := i_rint hlt
    have r1 := i_rstr hlt
    have hI := i_hasI hlt
    have hS := i_hasS hlt
    have hkl : ((F.2.2.take k).map fun x => dgL s [x]).length = k := by rw [List.length_map, List.length_take]; omega
    have hnx : (F.2.2.take (k + 1)).map (fun x => dgL s [x]) = (F.2.2.take k).map (fun x => dgL s [x]) ++ [dgL s [F.2.2[k]]] := by rw [htk, List.map_append]; rfl
    have hdg := ldata_spec { s with ws := F.1, on := F.2.1.on, ol := F.2.1.ol, tl := F.2.1.tl } [F.2.2[k]] true (by simp) hinx (by simpa using hx)
    have hde : dgB s.inx.toNat (bitsW s.inx s.im 32) [F.2.2[k]] = dgL s [F.2.2[k]] := rfl
    simp only [lkM, lkB, hde] at hdg
    rw [show irows [F.2.2[k]] = [[AV.int .u32 F.2.2[k].1, AV.str F.2.2[k].2]] from rfl] at hdg
    generalize hk1 : (F.2.2.take k).map (fun x => dgL s [x]) = O2 at *
    have hsub := sub_sv (O1 ++ O2)
    rw [List.length_append, hC2, hkl] at hsub
    generalize hxk : F.2.2[k] = x at *
    skip
    refine run_ok 4000 _ _ _ _ ?_
    simp (maxSteps := 10000000) only [go_sem, hin, r0, r1, hI, hS, hsub, irows_len, Int.natCast_nonneg, List.cons_append, List.nil_append, inc64 (show k < 1000000000000 by omega)]
    refine sem_call rfl rfl (((hdg).embed [0, 1, 2, 3, 7, 5, 8] rfl (by repeat' first | exact trivial | rfl | (simp only [go_sem]; done) | constructor) rfl (by first | rfl | simp only [go_sem]) rfl (by simp)).mono ?_)
    rintro _ _ ⟨_, _, ⟨rfl, rfl⟩, rfl, rfl⟩
    refine run_ok 4000 _ _ _ _ ?_
    simp (maxSteps := 10000000) only [go_sem, hin, r0, r1, hI, hS, hsub, irows_len, Int.natCast_nonneg, List.cons_append, List.nil_append, inc64 (show k < 1000000000000 by omega)]
    rw [svl_one, sv_app, List.append_assoc]
    refine ⟨by unfold small; simp only [List.length_append]; omega, k + 1, by omega, hlt, [0, 1, 2, 3, 4, 5, 6, 7, 8, 11], ?_⟩
    rw [hnx]
    simp [Emb, go_sem]
    omega
  have hge3 : ¬ (k : Int) < (F.2.2.length : Int) := by omega
  have hke : k = F.2.2.length := by omega
  subst hke
  rw [List.take_length, ← hpo]
  have hPl : PO.length = C.length + F.2.2.length := by rw [hpo, List.length_append, hC2, List.length_map]
  rw [← hPl]
  clear hpo
  have hdg := ldata_spec { s with ws := F.1, on := F.2.1.on, ol := F.2.1.ol, tl := F.2.1.tl } [] true (by simp) hinx (by simp)
  have hdg0 : Tri Try.prog 42 [.pbox 0 0, .nilsl] (lkM { s with ws := F.1, on := F.2.1.on, ol := F.2.1.ol, tl := F.2.1.tl }) (fun v m => v = .str (dgL s []) ∧ m = lkM { s with ws := F.1, on := F.2.1.on, ol := F.2.1.ol, tl := F.2.1.tl }) :=
    hdg.recast fun φ σ vs hv => by cases hv with | cons h1 h2 => cases h2 with | cons h3 h4 => exact .cons h1 (.cons (h3.nilv 2 true) h4)
  simp only [lkM, lkB] at hdg0
  have hPs := sub_sv PO
  cases ht : s.tell with
  | false =>
    rw [if_neg (by simp)]
    skip
    refine run_ok 4000 _ _ _ _ ?_
    simp (maxSteps := 10000000) only [go_sem, hge3, ht, hPs, List.cons_append, List.nil_append]
    refine run_ok 4000 _ _ _ _ ?_
    simp (maxSteps := 10000000) only [go_sem, hge3, ht, hPs, List.cons_append, List.nil_append]
    refine ⟨_, _, .fz 9 rfl (by simp [go_sem, sv_len]) (.sub [0, 1, 2, 3, 4, 5, 6, 7, 8] ?_ .done), rfl, rfl⟩
    simp only [EmbV, go_sem, lkM2f, lkBf, hPs]
  | true =>
    by_cases hz : PO.length = 0
    · rw [if_pos ⟨rfl, hz⟩]
      have hPO : PO = [] := List.length_eq_zero_iff.1 hz
      subst hPO
      simp only [ht] at hdg0
      skip
      refine run_ok 4000 _ _ _ _ ?_
      simp (maxSteps := 10000000) only [go_sem, hge3, ht, hPs, List.cons_append, List.nil_append]
      refine run_ok 4000 _ _ _ _ ?_
      simp (maxSteps := 10000000) only [go_sem, hge3, ht, hPs, List.cons_append, List.nil_append]
      refine sem_call rfl rfl (((hdg0).embed [0, 1, 2, 3, 7, 5, 8] rfl (by repeat' first | exact trivial | rfl | (simp only [go_sem]; done) | constructor) rfl (by first | rfl | simp only [go_sem]) rfl (by simp)).mono ?_)
      rintro _ _ ⟨_, _, ⟨rfl, rfl⟩, rfl, rfl⟩
      refine run_ok 4000 _ _ _ _ ?_
      simp (maxSteps := 10000000) only [go_sem, hge3, ht, hPs, List.cons_append, List.nil_append]
      refine ⟨by unfold small; omega, _, _, .fz 10 rfl (by simp [go_sem, sub]) (.sub [0, 1, 2, 3, 4, 5, 6, 7, 8] ?_ .done), rfl, rfl⟩
      simp [EmbV, go_sem, sub, sv]
    · rw [if_neg (by simp [hz])]
      have hz1 : ((PO.length : Int) == 0) = false := by simp; exact fun h => hz (by simp [h])
      skip
      refine run_ok 4000 _ _ _ _ ?_
      simp (maxSteps := 10000000) only [go_sem, hge3, ht, hPs, hz1, List.cons_append, List.nil_append]
      refine run_ok 4000 _ _ _ _ ?_
      simp (maxSteps := 10000000) only [go_sem, hge3, ht, hPs, hz1, List.cons_append, List.nil_append]
      refine ⟨_, _, .fz 9 rfl (by simp [go_sem, sv_len]) (.sub [0, 1, 2, 3, 4, 5, 6, 7, 8] ?_ .done), rfl, rfl⟩
      simp only [EmbV, go_sem, lkM2f, lkBf, hPs]
theorem lpoll_spec (s : LS) (now : Int) (ok : LOk s) (hnow : 0 ≤ now ∧ now ≤ 10000000) :
    Tri Try.prog 22 [.pbox 0 0, .int .i64 now] (lkM s) (fun v m => v = .vsl 1 (sv (pollF s now).2) false ∧ m = lkM2 (pollF s now).1) :=
  Tri.likebox 0 6 (.bsym false) (Like.bsym false) ((lpoll0_spec s now ok hnow).mono fun v m ⟨h1, h2⟩ => by
    subst h1; subst h2
    exact ⟨_, rfl, rfl, rfl, rfl⟩)
end Go.AEX

/- Link: a datagram comes. -/
namespace Go.AEX
open Go Go.AE Go.Proofs
set_option maxRecDepth 100000
set_option linter.unusedVariables false
set_option linter.unusedSimpArgs false

theorem drain_all {K : Nat} : ∀ (f : Nat) {nx : Int} {L : Ent} {o : List (List UInt8)}, (∀ p ∈ L, p.2.length ≤ K) → (∀ s ∈ o, s.length ≤ K) →
    (∀ p ∈ (drain f nx L o).2.1, p.2.length ≤ K) ∧ (∀ s ∈ (drain f nx L o).2.2, s.length ≤ K) ∧ (drain f nx L o).2.2.length ≤ o.length + f ∧ (drain f nx L o).2.1.length ≤ L.length
  | 0, nx, L, o, h1, h2 => ⟨h1, h2, by simp [drain], by simp [drain]⟩
  | f + 1, nx, L, o, h1, h2 => by
    cases hl : lkE L nx with
    | none => simp only [drain, hl]; exact ⟨h1, h2, by omega, Nat.le_refl _⟩
    | some s =>
      have hs := h1 _ (lk_val hl)
      have hd := delE_len L nx (by rw [hl]; rfl)
      obtain ⟨a, b, c, d⟩ := drain_all f (nx := u32 (nx + 1)) (L := delE L nx) (o := o ++ [s]) (fun p hp => h1 p (del_sub hp)) (by
        intro t ht
        rcases List.mem_append.1 ht with ht | ht
        · exact h2 t ht
        · simp at ht; subst ht; exact hs)
      simp only [drain, hl]
      exact ⟨a, b, by simp at c; omega, by omega⟩
theorem putW_all {K : Nat} (nx : Int) (L : Ent) (n : Int) (s : List UInt8) (h1 : ∀ p ∈ L, p.2.length ≤ K) (h2 : s.length ≤ K) :
    (∀ p ∈ (putW nx L n s).1.2, p.2.length ≤ K) ∧ (∀ t ∈ (putW nx L n s).2.1, t.length ≤ K) ∧ (putW nx L n s).2.1.length ≤ L.length + 1 ∧ (putW nx L n s).1.2.length ≤ L.length + 1 := by
  unfold putW
  simp only
  split
  · exact ⟨h1, by simp, by simp, by simp⟩
  split
  · exact ⟨h1, by simp, by simp, by simp⟩
  split
  · exact ⟨h1, by simp, by simp, by simp⟩
  · obtain ⟨a, b, c, d⟩ := drain_all (L.length + 1) (nx := nx) (L := L ++ [(n, s)]) (o := []) (K := K) (by
      intro p hp
      rcases List.mem_append.1 hp with hp | hp
      · exact h1 p hp
      · simp at hp; subst hp; exact h2) (by simp)
    exact ⟨a, b, by simpa using c, by simpa using d⟩
theorem parseP_len (t : List UInt8) : (parseP t).1.2.length ≤ 200 := by
  cases t with
  | nil => simp [parseP]
  | cons c s =>
    rw [parseP]
    split
    · simp
    split
    · simp
    · simp; omega
theorem rawF_len (x : List UInt8 × Int) (n : Int) : (rawF x n).2.length ≤ n.toNat := by
  unfold rawF
  split
  · simp
  split
  · simp
  · simp; omega
theorem strF_len (x : List UInt8 × Int) (most : Int) : (strF x most).2.length ≤ posN most := by
  unfold strF
  have h1 := rawF_len (countF x most).1 (countF x most).2
  have h2 := count_le x most
  omega
theorem linkP_its (d : List UInt8) : (linkP d).2.1.length ≤ 1 ∧ ∀ x ∈ (linkP d).2.1, U32 x.1 ∧ x.2.length ≤ 201 := by
  unfold linkP
  split
  · simp
  · simp only
    split
    · refine ⟨by simp, ?_⟩
      intro x hx
      simp only [List.mem_singleton] at hx
      subst hx
      exact ⟨U32.wrap _, strF_len _ 201⟩
    · simp
def ackO (s : LS) (a : Int × Int) : List Itm := if u32 (s.on - a.1) ≥ 2147483648 then s.ol else leftW a.1 a.2 s.ol
def ackN (s : LS) (a : Int × Int) : List Int := if u32 (s.on - a.1) ≥ 2147483648 then [] else toldW a.1 a.2 s.ol
theorem oack_any (s : LS) (a : Int × Int) (hl : s.ol.length ≤ 10000) : Tri Try.prog 31 [.pbox 0 0, .agg [.int .u32 a.1, .int .u32 a.2]] (outW s.on s.ol)
    (fun v m => v = .vsl 1 (uv (ackN s a)) false ∧ m = outW2 s.on (ackO s a)) := by
  unfold ackN ackO
  split
  · rename_i h; exact oack_no s.on s.ol a.1 a.2 hl h
  · rename_i h; exact oack_spec s.on s.ol a.1 a.2 hl h
def takesF : LS → List (List UInt8) → LS × List (List UInt8)
  | s, [] => (s, [])
  | s, t :: ts => ((takesF (takeF s t).1 ts).1, (takeF s t).2 ++ (takesF (takeF s t).1 ts).2)
def putL (s : LS) (x : Itm) : LS := { s with tell := true, inx := (putW s.inx s.im x.1 x.2).1.1, im := (putW s.inx s.im x.1 x.2).1.2 }
def itemF (s : LS) (x : Itm) : LS × List (List UInt8) := takesF (putL s x) (putW s.inx s.im x.1 x.2).2.1
def itemsF : LS → List Itm → LS × List (List UInt8)
  | s, [] => (s, [])
  | s, x :: l => ((itemsF (itemF s x).1 l).1, (itemF s x).2 ++ (itemsF (itemF s x).1 l).2)
def ackL (s : LS) (a : Int × Int) : LS := { s with ol := ackO s a, tl := outL (ackN s a) s.tl }
def recvF (s : LS) (d : List UInt8) : LS × List (List UInt8) × Int :=
  if (linkP d).2.2 ≠ 0 then ({ s with bad := s.bad + 1 }, [], (linkP d).2.2) else
    ({ (itemsF (ackL s (linkP d).1) (linkP d).2.1).1 with car := (itemsF (ackL s (linkP d).1) (linkP d).2.1).1.car + (itemsF (ackL s (linkP d).1) (linkP d).2.1).2.length }, (itemsF (ackL s (linkP d).1) (linkP d).2.1).2, 0)
structure RB (n : Nat) (s : LS) (o : Nat) : Prop where
  js : s.js.length ≤ 65536
  jn : s.jn ≤ 700000 + n
  bad : 0 ≤ s.bad ∧ s.bad ≤ 900000 + n
  im : s.im.length ≤ 1000 + n
  mt : ∀ p ∈ s.im, p.2.length ≤ 10000
  o : o ≤ n
  car : 0 ≤ s.car ∧ s.car ≤ 1000000000
theorem RB.mono {n m : Nat} {s : LS} {o : Nat} (h : RB n s o) (hm : n ≤ m) : RB m s o :=
  ⟨h.js, by have := h.jn; omega, by have := h.bad; omega, by have := h.im; omega, h.mt, by have := h.o; omega, h.car⟩
theorem RB.put {n : Nat} {s : LS} {o : Nat} (h : RB n s o) (x : Itm) (hx : x.2.length ≤ 10000) : RB (n + 1) (putL s x) o := by
  obtain ⟨a, b, c, d⟩ := putW_all s.inx s.im x.1 x.2 h.mt hx
  exact ⟨h.js, by have := h.jn; simp only [putL]; omega, by have := h.bad; simp only [putL]; omega, by have := h.im; simp only [putL]; omega, a, by have := h.o; omega, h.car⟩
theorem allJ_one (s : List UInt8) (n : Nat) (p : Part) : (allJ s n [p]).1.length ≤ 1 := by
  simp only [allJ]
  split
  · simp
  split
  · simp
  · simp
theorem allS_one (s : List UInt8) (n : Nat) (p : Part) : allS s n [p] = putS s n p.1 p.2 := by
  simp only [allS]; split <;> simp_all
theorem RB.take {n : Nat} {s : LS} {o : Nat} (h : RB n s o) (t : List UInt8) (hn : n ≤ 100000) : RB (n + 1) (takeF s t).1 (o + (takeF s t).2.length) := by
  obtain ⟨p1, p2⟩ := putS_len s.js s.jn (parseP t).1.1 (parseP t).1.2 h.js (by have := h.jn; omega)
  have p3 := allJ_one s.js s.jn (parseP t).1
  have b1 := h.jn; have b2 := h.bad; have b3 := h.im; have b4 := h.o
  unfold takeF
  rw [allS_one]
  split
  · exact ⟨h.js, by simp only; omega, by simp only; omega, by simp only; omega, h.mt, by simp; omega, h.car⟩
  split
  · exact ⟨p1, by simp only; omega, by simp only; omega, by simp only; omega, h.mt, by simp only; omega, h.car⟩
  · exact ⟨p1, by simp only; omega, by simp only; omega, by simp only; omega, h.mt, by simp only; omega, h.car⟩
set_option maxHeartbeats 40000000 in
theorem lrecv_spec (s : LS) (d : List UInt8) (ok : LOk s) (hd : d.length ≤ 1000000) (hb : RB 0 s 0) :
    Tri Try.prog 18 [.pbox 0 0, .str d] (lkM s) (fun v m => v = .tup [.vsl 1 (sv (recvF s d).2.1) false, .int .i64 (recvF s d).2.2] ∧ m = lkM2 (recvF s d).1) := by
  refine Tri.post ?_
  obtain ⟨hcf, hcm, hon, hinx, hol, htl, hws, him, hit, hpt, htm, hjs, hmt⟩ := ok
  have hp := lparse_spec d hd
  obtain ⟨hits1, hits2⟩ := linkP_its d
  unfold recvF
  generalize linkP d = D at *
  by_cases c : D.2.2 = 0
  · rw [if_neg (by simpa using c)]
    have c0 : ((0 : Int) != 0) = false := rfl
    rw [c] at hp
    have hack := oack_any s D.1 (by omega)
    have hal : (ackN s D.1).length ≤ 1000 := by
      unfold ackN toldW; split
      · simp
      · rw [List.length_map]; exact Nat.le_trans (List.length_filter_le _ _) hol
    have hstop := tstop_spec s.cf s.cm s.tl (ackN s D.1) false (by omega) (by omega)
    have hb1 : RB 0 (ackL s D.1) 0 := ⟨hb.js, hb.jn, hb.bad, hb.im, hb.mt, hb.o, hb.car⟩
    have hlk : lkM2 (ackL s D.1) = [.box [.pbox 1 0, .pbox 2 0, .pbox 3 0, .str s.js, .int .i64 s.jn, .vsl 2 (prows s.ws) false, .bsym s.tell, .int .i64 s.bad, .int .i64 s.car],
      .box [.int .u32 s.on, .sl 7 0 (ackO s D.1).length (ackO s D.1).length false], .box [.int .u32 s.inx, .map 5], .box [.int .i64 s.cf, .int .i64 s.cm, .sl 8 0 (outL (ackN s D.1) s.tl).length (outL (ackN s D.1) s.tl).length false],
      .gone, .map (me s.im), .gone, .row 2 (irows (ackO s D.1)), .row 4 (terows (outL (ackN s D.1) s.tl))] := rfl
    simp only [outW, outW2] at hack
    simp only [tmM, tmM2] at hstop
    generalize ackL s D.1 = S1 at *
    generalize ackO s D.1 = O1 at *
    generalize ackN s D.1 = N1 at *
    generalize outL N1 s.tl = T1 at *
    obtain ⟨⟨a1, a2⟩, l, e⟩ := D
    simp only at hp hack hits1 hits2 hlk c ⊢
    skip
    refine (Tri.enter (rl := r18) (code := c18) (by kernel_rfl) Try.func18 rfl c18_ok (by kernel_rfl) (by kernel_rfl) ?_)
    refine run_ok 4000 _ _ _ _ ?_
    simp (maxSteps := 10000000) only [go_sem, c18, r18, lkM, lkB, c0]
    refine sem_move 4 rfl ?_
    refine sem_move 6 rfl ?_
    simp (maxSteps := 10000000) only [go_sem, lkM, lkB, c0]
    refine sem_call rfl rfl (((hp).embed [] rfl trivial rfl rfl rfl (by simp)).mono ?_)
    rintro _ _ ⟨_, _, ⟨rfl, rfl⟩, rfl, rfl⟩
    refine run_ok 4000 _ _ _ _ ?_
    simp (maxSteps := 10000000) only [go_sem, lkM, lkB, c0]
    refine sem_drawG l18_0_ok (by kernel_rfl) ?_
    intro KK hKK
    simp (maxSteps := 10000000) only [go_sem, l18_0, lkM, lkB, c0]
    subst hKK
    simp (maxSteps := 10000000) only [go_sem, lkM, lkB, c0]
    refine TriZ.of (((hack).embed [1, 7] rfl (by repeat' first | exact trivial | rfl | (simp only [go_sem]; done) | constructor) rfl (by first | rfl | simp only [go_sem]) rfl (by simp)).mono ?_)
    rintro _ _ ⟨_, _, ⟨rfl, rfl⟩, rfl, rfl⟩
    simp (maxSteps := 10000000) only [go_sem, lkM, lkB, c0]
    refine TriZ.of (((hstop).embed [3, 8] rfl (by repeat' first | exact trivial | rfl | (simp only [go_sem]; done) | constructor) rfl (by first | rfl | simp only [go_sem]) rfl (by simp)).mono ?_)
    rintro _ _ ⟨_, _, ⟨rfl, rfl⟩, rfl, rfl⟩
    simp (maxSteps := 10000000) only [go_sem, lkM, lkB, c0]
    refine sem_virt 9 1 rfl ?_
    simp (maxSteps := 10000000) only [go_sem, lkM, lkB, c0]
    refine sem_rounds (fun q : Nat × LS × List (List UInt8) => q.1 ≤ l.length ∧ RB (2000 * q.1) q.2.1 q.2.2.length ∧ itemsF S1 l = ((itemsF q.2.1 (l.drop q.1)).1, q.2.2 ++ (itemsF q.2.1 (l.drop q.1)).2))
      (fun q => [(0, .pbox 0 0), (9, .sl 9 0 q.2.2.length q.2.2.length false), (43, .vsl 2 (irows l) false), (44, .int .i64 l.length), (45, .int .i64 q.1)])
      (fun q => lkM2 q.2.1 ++ [.row 1 (sv q.2.2)]) (fun q => l.length - q.1) (0, S1, []) [0, 1, 2, 3, 4, 5, 6, 10, 11, 12] ⟨Nat.zero_le _, hb1, by simp⟩ ?_ ?_
    · rw [hlk]
      simp [Emb, go_sem, irows_len, sv]
    rintro ⟨i, s2, o⟩ ⟨hi, hB, heq⟩
    simp only at hi hB heq ⊢
    clear hlk
    by_cases hlt : i < l.length
    · have hi0 : i = 0 := by omega
      subst hi0
      have hin : (0 : Int) < (l.length : Int) := by omega
      have hx := hits2 _ (List.getElem_mem hlt)
      have hdr : l.drop 0 = l[0] :: l.drop 1 := by rw [List.drop_eq_getElem_cons hlt]
      have r0 := i_rint hlt
      have r1 := i_rstr hlt
      have hI := i_hasI hlt
      have hS := i_hasS hlt
      generalize hl1 : l.drop 1 = l1 at *
      generalize hxk : l[0] = x at *
      rw [hdr, itemsF] at heq
      simp only at heq
      have hput := iput_spec s2.inx s2.im x.1 x.2 (by have := hB.im; omega)
      have hB2 := hB.put x (by omega)
      obtain ⟨_, hT1, hT2, _⟩ := putW_all s2.inx s2.im x.1 x.2 hB.mt (by omega)
      have him2 := hB.im
      unfold itemF at heq
      generalize hT : (putW s2.inx s2.im x.1 x.2).2.1 = T at *
      have hlk2 : lkM2 (putL s2 x) = [.box [.pbox 1 0, .pbox 2 0, .pbox 3 0, .str s2.js, .int .i64 s2.jn, .vsl 2 (prows s2.ws) false, .bsym true, .int .i64 s2.bad, .int .i64 s2.car],
        .box [.int .u32 s2.on, .sl 7 0 s2.ol.length s2.ol.length false], .box [.int .u32 (putW s2.inx s2.im x.1 x.2).1.1, .map 5], .box [.int .i64 s2.cf, .int .i64 s2.cm, .sl 8 0 s2.tl.length s2.tl.length false],
        .gone, .map (me (putW s2.inx s2.im x.1 x.2).1.2), .gone, .row 2 (irows s2.ol), .row 4 (terows s2.tl)] := rfl
      generalize putL s2 x = S3 at *
      generalize putW s2.inx s2.im x.1 x.2 = W at *
      have hz : iwrap .i64 ((0 : Nat) + 1 : Int) = ((1 : Nat) : Int) := rfl
      skip
      refine run_ok 4000 _ _ _ _ ?_
      simp (maxSteps := 10000000) only [go_sem, hin, r0, r1, hI, hS, irows_len, Int.natCast_nonneg, List.cons_append, List.nil_append, lkM2, lkB]
      refine sem_likebox 0 6 (.bsym true) rfl rfl (Like.bsym true) ?_
      simp (maxSteps := 10000000) only [go_sem, hin, r0, r1, hI, hS, irows_len, Int.natCast_nonneg, List.cons_append, List.nil_append, lkM2, lkB]
      refine sem_drawG l18_1_ok (by kernel_rfl) ?_
      intro KK hKK
      simp (maxSteps := 10000000) only [go_sem, l18_1, hin, r0, r1, hI, hS, irows_len, Int.natCast_nonneg, List.cons_append, List.nil_append, lkM2, lkB]
      subst hKK
      simp (maxSteps := 10000000) only [go_sem, hin, r0, r1, hI, hS, irows_len, Int.natCast_nonneg, List.cons_append, List.nil_append, lkM2, lkB]
      refine TriZ.of (((hput).embed [2, 5] rfl (by repeat' first | exact trivial | rfl | (simp only [go_sem]; done) | constructor) rfl (by first | rfl | simp only [go_sem]) rfl (by simp)).mono ?_)
      rintro _ _ ⟨_, _, ⟨rfl, rfl⟩, rfl, rfl⟩
      simp (maxSteps := 10000000) only [go_sem, hin, r0, r1, hI, hS, irows_len, Int.natCast_nonneg, List.cons_append, List.nil_append, lkM2, lkB]
      refine sem_rounds (fun q : Nat × LS × List (List UInt8) => q.1 ≤ T.length ∧ RB (1 + q.1) q.2.1 q.2.2.length ∧ o ++ (takesF S3 T).2 = q.2.2 ++ (takesF q.2.1 (T.drop q.1)).2 ∧ (takesF S3 T).1 = (takesF q.2.1 (T.drop q.1)).1)
        (fun q => [(0, .pbox 0 0), (9, .sl 9 0 q.2.2.length q.2.2.length false), (43, .vsl 2 (irows l) false), (44, .int .i64 l.length), (45, .int .i64 0), (61, .vsl 1 (sv T) false), (62, .int .i64 T.length), (63, .int .i64 q.1)])
        (fun q => lkM2 q.2.1 ++ [.row 1 (sv q.2.2)]) (fun q => T.length - q.1) (0, S3, o) [0, 1, 2, 3, 4, 5, 6, 7, 8, 9] ⟨Nat.zero_le _, hB2, by simp, by simp⟩ ?_ ?_
      · rw [hlk2]
        simp [Emb, go_sem, irows_len, sv_len]
      rintro ⟨j, s4, o4⟩ ⟨hj, hB4, he1, he2⟩
      simp only at hj hB4 he1 he2 ⊢
      clear hlk2
      by_cases hjt : j < T.length
      · have hin2 : (j : Int) < (T.length : Int) := by omega
        have hdr2 : T.drop j = T[j] :: T.drop (j + 1) := List.drop_eq_getElem_cons hjt
        have ht := hT1 _ (List.getElem_mem hjt)
        have g1 := sv_rstr hjt
        have g2 := sv_hasS hjt
        have b1 := hB4.jn; have b2 := hB4.bad; have b3 := hB4.o; have b4 := hB.o
        have htk := ltake_spec s4 T[j] (by omega) hB4.js (by omega) (by omega) (by have := parseP_len T[j]; omega)
        have hB5 := hB4.take T[j] (by omega)
        rw [hdr2, takesF] at he1 he2
        simp only at he1 he2
        have hso := sub_sv o4
        have hst := sub_sv (takeF s4 T[j]).2
        generalize takeF s4 T[j] = R at *
        generalize T[j] = t at *
        have hl1 : R.2.length ≤ 1 + j + 1 := by have := hB5.o; omega
        skip
        refine run_ok 4000 _ _ _ _ ?_
        simp (maxSteps := 10000000) only [go_sem, hin2, g1, g2, sv_len, hso, hst, Int.natCast_nonneg, List.cons_append, List.nil_append, lkM, lkM2, lkB, inc64 (show j < 1000000000000 by omega)]
        refine sem_call rfl rfl (((htk).embed [0, 1, 2, 3, 7, 5, 8] rfl (by repeat' first | exact trivial | rfl | (simp only [go_sem]; done) | constructor) rfl (by first | rfl | simp only [go_sem]) rfl (by simp)).mono ?_)
        rintro _ _ ⟨_, _, ⟨rfl, rfl⟩, rfl, rfl⟩
        refine run_ok 4000 _ _ _ _ ?_
        simp (maxSteps := 10000000) only [go_sem, hin2, g1, g2, sv_len, hso, hst, Int.natCast_nonneg, List.cons_append, List.nil_append, lkM, lkM2, lkB, inc64 (show j < 1000000000000 by omega)]
        refine ⟨by unfold small; omega, (j + 1, R.1, o4 ++ R.2), by simp only; omega, ⟨hjt, by rw [List.length_append]; exact hB5.mono (by simp only; omega), by rw [he1, List.append_assoc], he2⟩, [0, 1, 2, 3, 4, 5, 6, 7, 8, 10], ?_⟩
        simp only [Emb, go_sem, List.length_append, List.cons_append, List.nil_append]
      · have hge2 : ¬ (j : Int) < (T.length : Int) := by omega
        have hdr2 : T.drop j = [] := List.drop_eq_nil_of_le (by omega)
        rw [hdr2, takesF] at he1 he2
        simp only [List.append_nil] at he1 he2
        have hw1 : iwrap .i64 (1 : Int) = 1 := rfl
        skip
        refine run_ok 4000 _ _ _ _ ?_
        simp (maxSteps := 10000000) only [go_sem, hge2, hw1, lkM, lkM2, lkB, List.cons_append, List.nil_append]
        refine run_ok 4000 _ _ _ _ ?_
        simp (maxSteps := 10000000) only [go_sem, hge2, hw1, lkM, lkM2, lkB, List.cons_append, List.nil_append]
        refine ⟨(1, s4, o4), by simp only; omega, ⟨by simp only; omega, hB4.mono (by simp only; omega), by rw [heq, he2, ← List.append_assoc, he1]; simp only [hl1]⟩, [0, 1, 2, 3, 4, 5, 6, 7, 8, 9], ?_⟩
        simp only [Emb, go_sem, List.cons_append, List.nil_append]
    · have hge : ¬ (i : Int) < (l.length : Int) := by omega
      have hdr : l.drop i = [] := List.drop_eq_nil_of_le (by omega)
      rw [hdr, itemsF] at heq
      simp only [List.append_nil] at heq
      have hc1 := hB.car; have hc2 := hB.o
      have wc : iwrap .i64 (s2.car + (o.length : Int)) = s2.car + o.length := iwrap_i64_in (by omega)
      have hso := sub_sv o
      rw [heq]
      skip
      refine run_ok 4000 _ _ _ _ ?_
      simp (maxSteps := 10000000) only [go_sem, hge, wc, lkM, lkM2, lkB, List.cons_append, List.nil_append]
      refine run_ok 4000 _ _ _ _ ?_
      simp (maxSteps := 10000000) only [go_sem, hge, wc, lkM, lkM2, lkB, List.cons_append, List.nil_append]
      refine ⟨_, _, .fz 9 rfl (by simp [go_sem, sv_len]) (.sub [0, 1, 2, 3, 4, 5, 6, 7, 8] ?_ .done), rfl, rfl⟩
      simp only [EmbV, go_sem, lkM2, lkB, hso]
  · rw [if_pos (by simpa using c)]
    have c0 : (D.2.2 != 0) = true := by simp [c]
    have wb : iwrap .i64 (s.bad + 1) = s.bad + 1 := iwrap_i64_in (by have := hb.bad; omega)
    skip
    refine (Tri.enter (rl := r18) (code := c18) (by kernel_rfl) Try.func18 rfl c18_ok (by kernel_rfl) (by kernel_rfl) ?_)
    refine run_ok 4000 _ _ _ _ ?_
    simp (maxSteps := 10000000) only [go_sem, c18, r18, lkM, lkB, c0, wb]
    refine sem_move 4 rfl ?_
    refine sem_move 6 rfl ?_
    simp (maxSteps := 10000000) only [go_sem, lkM, lkB, c0, wb]
    refine sem_call rfl rfl (((hp).embed [] rfl trivial rfl rfl rfl (by simp)).mono ?_)
    rintro _ _ ⟨_, _, ⟨rfl, rfl⟩, rfl, rfl⟩
    refine run_ok 4000 _ _ _ _ ?_
    simp (maxSteps := 10000000) only [go_sem, lkM, lkB, c0, wb]
    refine ⟨_, _, .like (Like.tup2 (Like.nilv 1 false) (Like.refl _)) (.sub [0, 1, 2, 3, 4, 5, 6, 7, 8] ?_ .done), rfl, rfl⟩
    simp only [EmbV, go_sem, lkM2, lkB, sv, List.map_nil]
end Go.AEX

/- Link: two ends; what finds no room. -/
namespace Go.AEX
open Go Go.AE Go.Proofs
set_option maxRecDepth 100000
set_option linter.unusedVariables false
set_option linter.unusedSimpArgs false

theorem countF_put (m : Nat) (r : List UInt8) (most : Int) (h : (m : Int) ≤ (posN most : Int)) (hm : m < 18446744073709551616) : countF (numB m ++ r, 0) most = ((r, 0), (m : Int)) := by
  unfold countF
  rw [numI_put m r hm, if_neg (by simp only; omega)]
theorem strF_put2 (t r : List UInt8) (h : t.length ≤ 201) : strF (strB t ++ r, 0) 201 = ((r, 0), t) := by
  have h2 : countF (strB t ++ r, 0) 201 = ((t ++ r, 0), (t.length : Int)) := by
    unfold strB
    rw [List.append_assoc]
    exact countF_put _ _ _ (by unfold posN; omega) (by omega)
  unfold strF
  rw [h2]
  unfold rawF
  by_cases h0 : t.length = 0
  · have : t = [] := List.length_eq_zero_iff.1 h0
    subst this
    simp
  · have h3 : ¬ ((0 : Int) ≠ 0 ∨ (t.length : Int) ≤ 0) := by omega
    have h4 : ¬ ((t.length : Int) > ((t ++ r).length : Int)) := by rw [List.length_append]; omega
    rw [if_neg h3, if_neg h4]
    simp
theorem u32_of {n : Int} (h : U32 n) : u32 n = n := by unfold u32 U32 at *; rw [iwrap_u32]; omega
theorem linkP_dg (nx : Int) (bits : Nat) (l : List Itm) (hnx : U32 nx) (hb : bits < 4294967296) (hl : l.length ≤ 1) (ht : ∀ x ∈ l, U32 x.1 ∧ x.2.length ≤ 201) :
    linkP (dgB nx.toNat bits l) = ((nx, (bits : Int)), l, 0) := by
  have hn := hnx
  unfold U32 at hn
  have e1 : unsealF (dgB nx.toNat bits l) = (numB nx.toNat ++ (numB bits ++ (numB l.length ++ itsB l)), 0) := by
    unfold dgB; rw [unseal_seal]; simp [numsB, posN]
  have h1 := countF_put nx.toNat (numB bits ++ (numB l.length ++ itsB l)) 4294967295 (by unfold posN; omega) (by omega)
  have h2 := countF_put bits (numB l.length ++ itsB l) 4294967295 (by unfold posN; omega) (by omega)
  have h3 := countF_put l.length (itsB l) 1 (by unfold posN; omega) (by omega)
  have e2 : u32 ((nx.toNat : Nat) : Int) = nx := by rw [Int.toNat_of_nonneg hn.1]; exact u32_of hnx
  have e3 : u32 ((bits : Nat) : Int) = (bits : Int) := u32_of (by unfold U32; omega)
  unfold linkP
  rw [e1, if_neg (by simp)]
  simp only [h1, h2, h3, e2, e3]
  match l, hl, ht with
  | [], _, _ => simp [itsB, endF]
  | [x], _, ht =>
    have hx := ht x (by simp)
    have hu := hx.1
    unfold U32 at hu
    have h4 := countF_put x.1.toNat (strB x.2 ++ []) 4294967295 (by unfold posN; omega) (by omega)
    have h5 := strF_put2 x.2 [] hx.2
    have e4 : u32 ((x.1.toNat : Nat) : Int) = x.1 := by rw [Int.toNat_of_nonneg hu.1]; exact u32_of hx.1
    have ei : itsB [x] = numB x.1.toNat ++ (strB x.2 ++ []) := by simp [itsB, itB, numsB, strsB]
    rw [ei]
    simp only [h4, h5, e4]
    rw [if_pos (by simp)]
    simp [endF]
def LS0 : LS := ⟨3, 12, 0, [], 0, [], [], [], 0, [], false, 0, 0⟩
structure PS where
  a : LS
  b : LS
  w0 : List (List UInt8)
  w1 : List (List UInt8)
  s0 : List (List UInt8)
  s1 : List (List UInt8)
  c0 : List (List UInt8)
  c1 : List (List UInt8)
  now : Int
abbrev pBox (p : PS) : Blk := .box [.pbox 1 0, .pbox 8 0, .vsl 1 (sv p.w0) false, .vsl 1 (sv p.w1) false, .vsl 1 (sv p.s0) false, .vsl 1 (sv p.s1) false, .vsl 1 (sv p.c0) false, .vsl 1 (sv p.c1) false, .int .i64 p.now]
abbrev lkA (s : LS) : Mem := [.box [.pbox 2 0, .pbox 3 0, .pbox 4 0, .str s.js, .int .i64 s.jn, .vsl 2 (prows s.ws) false, .bsym s.tell, .int .i64 s.bad, .int .i64 s.car],
  .box [.int .u32 s.on, .sl 5 0 s.ol.length s.ol.length false], .box [.int .u32 s.inx, .map 6], .box [.int .i64 s.cf, .int .i64 s.cm, .sl 7 0 s.tl.length s.tl.length false],
  .row 2 (irows s.ol), .map (me s.im), .row 4 (terows s.tl)]
abbrev lkC (s : LS) : Mem := [.box [.pbox 9 0, .pbox 10 0, .pbox 11 0, .str s.js, .int .i64 s.jn, .vsl 2 (prows s.ws) false, .bsym s.tell, .int .i64 s.bad, .int .i64 s.car],
  .box [.int .u32 s.on, .sl 12 0 s.ol.length s.ol.length false], .box [.int .u32 s.inx, .map 13], .box [.int .i64 s.cf, .int .i64 s.cm, .sl 14 0 s.tl.length s.tl.length false],
  .row 2 (irows s.ol), .map (me s.im), .row 4 (terows s.tl)]
abbrev pM (p : PS) : Mem := pBox p :: (lkA p.a ++ lkC p.b)
def PS0 : PS := ⟨LS0, LS0, [], [], [], [], [], [], 0⟩
abbrev pBox0 : Blk := .box [.pbox 1 0, .pbox 8 0, .nilsl, .nilsl, .nilsl, .nilsl, .nilsl, .nilsl, .int .i64 0]
set_option maxHeartbeats 4000000 in
theorem lbegin0_spec : Tri Try.prog 7 [] [] (fun v m => v = .tup [.pbox 0 0, .bool true] ∧ m = pBox0 :: (lkA LS0 ++ lkC LS0)) := by
  refine Tri.post ?_
  have hn := lnew_spec 3 12 (by decide)
  have hc := lconfig_spec
  skip
  refine (Tri.enter (rl := r7) (code := c7) (by kernel_rfl) Try.func7 rfl c7_ok (by kernel_rfl) (by kernel_rfl) ?_)
  refine run_ok 4000 _ _ _ _ ?_
  simp (maxSteps := 10000000) only [go_sem, c7, r7]
  refine sem_call rfl rfl (((hc).embed [] rfl trivial rfl rfl rfl (by simp)).mono ?_)
  rintro _ _ ⟨_, _, ⟨rfl, rfl⟩, rfl, rfl⟩
  refine run_ok 4000 _ _ _ _ ?_
  simp (maxSteps := 10000000) only [go_sem]
  refine sem_call rfl rfl (((hn).embed [] rfl trivial rfl rfl rfl (by simp)).mono ?_)
  rintro _ _ ⟨_, _, ⟨rfl, rfl⟩, rfl, rfl⟩
  simp (maxSteps := 10000000) only [go_sem]
  refine sem_nilbox 1 1 2 rfl rfl ?_
  refine sem_nilbox 3 2 4 rfl rfl ?_
  refine sem_likebox 0 5 (.vsl 2 [] false) rfl rfl (Like.nilv 2 false) ?_
  refine sem_likebox 0 6 (.bsym false) rfl rfl (Like.bsym false) ?_
  simp (maxSteps := 10000000) only [go_sem]
  refine run_ok 4000 _ _ _ _ ?_
  simp (maxSteps := 10000000) only [go_sem]
  refine sem_call rfl rfl (((hc).embed [] rfl trivial rfl rfl rfl (by simp)).mono ?_)
  rintro _ _ ⟨_, _, ⟨rfl, rfl⟩, rfl, rfl⟩
  refine run_ok 4000 _ _ _ _ ?_
  simp (maxSteps := 10000000) only [go_sem]
  refine sem_call rfl rfl (((hn).embed [] rfl trivial rfl rfl rfl (by simp)).mono ?_)
  rintro _ _ ⟨_, _, ⟨rfl, rfl⟩, rfl, rfl⟩
  simp (maxSteps := 10000000) only [go_sem]
  refine sem_nilbox 8 1 2 rfl rfl ?_
  refine sem_nilbox 10 2 4 rfl rfl ?_
  refine sem_likebox 7 5 (.vsl 2 [] false) rfl rfl (Like.nilv 2 false) ?_
  refine sem_likebox 7 6 (.bsym false) rfl rfl (Like.bsym false) ?_
  simp (maxSteps := 10000000) only [go_sem]
  refine run_ok 4000 _ _ _ _ ?_
  simp (maxSteps := 10000000) only [go_sem]
  refine ⟨_, _, .sub [14, 0, 1, 2, 3, 5, 4, 6, 7, 8, 9, 10, 12, 11, 13] ?_ .done, rfl, rfl⟩
  simp [EmbV, go_sem, LS0, me, irows, terows, prows]
theorem lbegin_spec : Tri Try.prog 7 [] [] (fun v m => v = .tup [.pbox 0 0, .bool true] ∧ m = pM PS0) := by
  refine Tri.likebox 0 2 (.vsl 1 [] false) (Like.nilv 1 false) (Tri.likebox 0 3 (.vsl 1 [] false) (Like.nilv 1 false) (Tri.likebox 0 4 (.vsl 1 [] false) (Like.nilv 1 false)
    (Tri.likebox 0 5 (.vsl 1 [] false) (Like.nilv 1 false) (Tri.likebox 0 6 (.vsl 1 [] false) (Like.nilv 1 false) (Tri.likebox 0 7 (.vsl 1 [] false) (Like.nilv 1 false) (lbegin0_spec.mono ?_))))))
  rintro v m ⟨rfl, rfl⟩
  exact ⟨_, rfl, rfl, _, rfl, rfl, _, rfl, rfl, _, rfl, rfl, _, rfl, rfl, _, rfl, rfl, rfl, rfl⟩
end Go.AEX

/- Link: what finds no room. -/
namespace Go.AEX
open Go Go.AE Go.Proofs
set_option maxRecDepth 100000
set_option linter.unusedVariables false
set_option linter.unusedSimpArgs false

theorem dgB_len (nx bits : Nat) (l : List Itm) (h1 : nx < 18446744073709551616) (h2 : bits < 18446744073709551616) (hl : l.length ≤ 1) (ht : ∀ x ∈ l, U32 x.1 ∧ x.2.length ≤ 10000) : (dgB nx bits l).length ≤ 20000 := by
  have a1 := numsB_len [nx, bits] (by intro n hn; simp at hn; omega)
  have a2 := numsB_one_len (posN (l.length : Int)) (by unfold posN; omega)
  simp only [List.length_cons, List.length_nil] at a1
  have a3 : (itsB l).length ≤ 10020 := by
    match l, hl, ht with
    | [], _, _ => simp [itsB]
    | [x], _, ht =>
      have h3 := ht x (by simp)
      have h4 := strsB_one_len x.2 h3.2
      have h5 := numsB_one_len x.1.toNat (by have := h3.1; unfold U32 at this; omega)
      simp [itsB, itB]; omega
  unfold dgB
  rw [sealB_len]
  simp only [List.length_append, List.map_cons, List.map_nil, List.nil_append]
  omega
theorem hasA0 {u : AV} {xs : List (List AV)} : hasA ([u] :: xs) 0 0 := ⟨_, _, rfl, rfl⟩
theorem hasA1 {x : List AV} {u : AV} {xs : List (List AV)} : hasA (x :: [u] :: xs) 1 0 := ⟨_, _, rfl, rfl⟩
theorem rany0 {u : AV} {xs : List (List AV)} : rany ([u] :: xs) 0 0 = u := rfl
theorem rany1 {x : List AV} {u : AV} {xs : List (List AV)} : rany (x :: [u] :: xs) 1 0 = u := rfl
attribute [go_sem] hasA0 hasA1 rany0 rany1
def LA0 : LS := { LS0 with ws := [(true, [97])] }
def LA1 : LS := { LS0 with on := 1, ol := [(0, [1, 97])], tl := [⟨0, 3, 3, 0⟩] }
def LB1 : LS := { LS0 with inx := 1, tell := true, car := 1 }
def LB2 : LS := { LS0 with inx := 1, car := 1 }
def LA2 : LS := { LS0 with on := 1 }
theorem LS0_ok : LOk LS0 := by
  constructor <;> simp [LS0, U32, TmOk]
theorem LA0_ok : LOk LA0 := by
  constructor <;> simp [LA0, LS0, U32, TmOk]
theorem LA1_ok : LOk LA1 := by
  constructor <;> simp [LA1, LS0, U32, TmOk]
theorem LB1_ok : LOk LB1 := by
  constructor <;> simp [LB1, LS0, U32, TmOk]
theorem poll_A0 : pollF LA0 0 = (LA1, [dgL LS0 [(0, [1, 97])]]) := by
  simp [pollF, pollT, pollO, pollI, LA0, LS0, fillF, dueN, dueL, numsT, stab, roomW, startF, fdT, idxH, partB, LA1, u32, iwrap_u32, dgL]
theorem recv_B0 : recvF LS0 (dgL LS0 [(0, [1, 97])]) = (LB1, [[97]], 0) := by
  have h := linkP_dg 0 (bitsW 0 [] 32) [(0, [1, 97])] (by unfold U32; omega) (bitsW_lt 0 [] 32) (by simp) (by simp [U32])
  have h : linkP (dgL LS0 [(0, [1, 97])]) = ((0, ((bitsW 0 [] 32 : Nat) : Int)), [(0, [1, 97])], 0) := h
  unfold recvF
  rw [h]
  simp [ackL, ackO, ackN, LS0, LB1, itemsF, itemF, takesF, takeF, putL, putW, drain, delE, lkE, u32, iwrap_u32, leftW, toldW, outL, parseP, allJ, allS, putV, putS, putBig]
theorem poll_B1 : pollF LB1 0 = (LB2, [dgL LB1 []]) := by
  simp [pollF, pollT, pollO, pollI, LB1, LB2, LS0, fillF, dueN, dueL, numsT, stab]
theorem recv_A1 : recvF LA1 (dgL LB1 []) = (LA2, [], 0) := by
  have h := linkP_dg 1 (bitsW 1 [] 32) [] (by unfold U32; omega) (bitsW_lt 1 [] 32) (by simp) (by simp)
  have h : linkP (dgL LB1 []) = ((1, ((bitsW 1 [] 32 : Nat) : Int)), [], 0) := h
  have hh : hasW 1 ((bitsW 1 [] 32 : Nat) : Int) 0 = true := by
    unfold hasW; simp [iwrap_u32]
  unfold recvF
  rw [h]
  simp [ackL, ackO, ackN, LA1, LA2, LS0, itemsF, u32, iwrap_u32, leftW, toldW, outL, hh]
theorem dgL_len (s : LS) (l : List Itm) (hx : U32 s.inx) (hl : l.length ≤ 1) (ht : ∀ x ∈ l, U32 x.1 ∧ x.2.length ≤ 10000) : (dgL s l).length ≤ 20000 := by
  have := bitsW_lt s.inx s.im 32
  unfold U32 at hx
  exact dgB_len _ _ l (by omega) (by omega) hl ht
set_option maxHeartbeats 40000000 in
theorem lawake_spec : Tri Try.prog 8 [] [] (fun v m => v = .bool true) := by
  refine Tri.post ?_
  have hb := lbegin_spec
  have hcut : cutP [97] = [(true, [97])] := cutP_last (by decide)
  have h1 := lsend_spec LS0 [97] (by decide) (by decide) (by rw [hcut]; decide)
  rw [hcut] at h1
  have h1 : Tri Try.prog 14 [.pbox 0 0, .str [97]] (lkM LS0) (fun v m => v = .int .i64 0 ∧ m = lkM LA0) := h1
  have h2 := lpoll_spec LA0 0 LA0_ok (by omega)
  rw [poll_A0] at h2
  have hd1 := dgL_len LS0 [(0, [1, 97])] (by simp [U32, LS0]) (by simp) (by simp [U32])
  have h3 := lrecv_spec LS0 (dgL LS0 [(0, [1, 97])]) LS0_ok (by omega) (by constructor <;> simp [LS0])
  rw [recv_B0] at h3
  have h4 := lpoll_spec LB1 0 LB1_ok (by omega)
  rw [poll_B1] at h4
  have h5 := lidle_spec LA1
  have hd2 := dgL_len LB1 [] (by simp [U32, LB1, LS0]) (by simp) (by simp)
  have h6 := lrecv_spec LA1 (dgL LB1 []) LA1_ok (by omega) (by constructor <;> simp [LA1, LS0])
  rw [recv_A1] at h6
  have h7 := lidle_spec LA2
  have h8 := lidle_spec LB2
  have z5 : decide (LA1.ws.length = 0 ∧ LA1.ol.length = 0) = false := rfl
  have z7 : decide (LA2.ws.length = 0 ∧ LA2.ol.length = 0) = true := rfl
  have z8 : decide (LB2.ws.length = 0 ∧ LB2.ol.length = 0) = true := rfl
  rw [z5] at h5; rw [z7] at h7; rw [z8] at h8
  simp only at h1 h2 h3 h4 h5 h6 h7 h8
  generalize dgL LS0 [(0, [1, 97])] = d1 at *
  generalize dgL LB1 [] = d2 at *
  have p0 : pM PS0 = .box [.pbox 1 0, .pbox 8 0, .vsl 1 (sv []) false, .vsl 1 (sv []) false, .vsl 1 (sv []) false, .vsl 1 (sv []) false, .vsl 1 (sv []) false, .vsl 1 (sv []) false, .int .i64 0] :: (lkA LS0 ++ lkC LS0) := rfl
  rw [p0] at hb
  have q1 : sv [d1] = [[.str d1]] := rfl
  have q2 : sv [d2] = [[.str d2]] := rfl
  have q3 : sv [[97]] = [[.str [97]]] := rfl
  skip
  refine (Tri.enter (rl := r8) (code := c8) (by kernel_rfl) Try.func8 rfl c8_ok (by kernel_rfl) (by kernel_rfl) ?_)
  refine run_ok 4000 _ _ _ _ ?_
  simp (maxSteps := 10000000) only [go_sem, c8, r8, lkM, lkM2, lkB, lkA, lkC, q1, q2, q3, List.cons_append, List.nil_append]
  refine sem_call rfl rfl (((hb).embed [] rfl trivial rfl rfl rfl (by simp)).mono ?_)
  rintro _ _ ⟨_, _, ⟨rfl, rfl⟩, rfl, rfl⟩
  refine run_ok 4000 _ _ _ _ ?_
  simp (maxSteps := 10000000) only [go_sem, lkM, lkM2, lkB, lkA, lkC, q1, q2, q3, List.cons_append, List.nil_append]
  refine sem_call rfl rfl (((h1).embed [1, 2, 3, 4, 5, 6, 7] rfl (by repeat' first | exact trivial | rfl | (simp only [go_sem]; done) | constructor) rfl (by first | rfl | simp only [go_sem]) rfl (by simp)).mono ?_)
  rintro _ _ ⟨_, _, ⟨rfl, rfl⟩, rfl, rfl⟩
  refine run_ok 4000 _ _ _ _ ?_
  simp (maxSteps := 10000000) only [go_sem, lkM, lkM2, lkB, lkA, lkC, q1, q2, q3, List.cons_append, List.nil_append]
  refine sem_call rfl rfl (((h2).embed [1, 2, 3, 4, 5, 6, 7] rfl (by repeat' first | exact trivial | rfl | (simp only [go_sem]; done) | constructor) rfl (by first | rfl | simp only [go_sem]) rfl (by simp)).mono ?_)
  rintro _ _ ⟨_, _, ⟨rfl, rfl⟩, rfl, rfl⟩
  refine run_ok 4000 _ _ _ _ ?_
  simp (maxSteps := 10000000) only [go_sem, lkM, lkM2, lkB, lkA, lkC, q1, q2, q3, List.cons_append, List.nil_append]
  refine sem_drawG l8_0_ok (by kernel_rfl) ?_
  intro KK hKK
  simp (maxSteps := 10000000) only [go_sem, l8_0, lkM, lkM2, lkB, lkA, lkC, q1, q2, q3, List.cons_append, List.nil_append]
  subst hKK
  simp (maxSteps := 10000000) only [go_sem, lkM, lkM2, lkB, lkA, lkC, q1, q2, q3, List.cons_append, List.nil_append]
  refine TriZ.of (((h3).embed [8, 9, 10, 11, 12, 13, 14] rfl (by repeat' first | exact trivial | rfl | (simp only [go_sem]; done) | constructor) rfl (by first | rfl | simp only [go_sem]) rfl (by simp)).mono ?_)
  rintro _ _ ⟨_, _, ⟨rfl, rfl⟩, rfl, rfl⟩
  simp (maxSteps := 10000000) only [go_sem, lkM, lkM2, lkB, lkA, lkC, q1, q2, q3, List.cons_append, List.nil_append]
  refine sem_call rfl rfl (((h4).embed [8, 9, 10, 11, 17, 13, 18] rfl (by repeat' first | exact trivial | rfl | (simp only [go_sem]; done) | constructor) rfl (by first | rfl | simp only [go_sem]) rfl (by simp)).mono ?_)
  rintro _ _ ⟨_, _, ⟨rfl, rfl⟩, rfl, rfl⟩
  refine run_ok 4000 _ _ _ _ ?_
  simp (maxSteps := 10000000) only [go_sem, lkM, lkM2, lkB, lkA, lkC, q1, q2, q3, List.cons_append, List.nil_append]
  refine sem_call rfl rfl (((h5).embed [1, 2, 3, 4, 15, 6, 16] rfl (by repeat' first | exact trivial | rfl | (simp only [go_sem]; done) | constructor) rfl (by first | rfl | simp only [go_sem]) rfl (by simp)).mono ?_)
  rintro _ _ ⟨_, _, ⟨rfl, rfl⟩, rfl, rfl⟩
  refine run_ok 4000 _ _ _ _ ?_
  simp (maxSteps := 10000000) only [go_sem, lkM, lkM2, lkB, lkA, lkC, q1, q2, q3, List.cons_append, List.nil_append]
  refine sem_drawG l8_1_ok (by kernel_rfl) ?_
  intro KK hKK
  simp (maxSteps := 10000000) only [go_sem, l8_1, lkM, lkM2, lkB, lkA, lkC, q1, q2, q3, List.cons_append, List.nil_append]
  refine TriZ.of (((h6).embed [1, 2, 3, 4, 15, 6, 16] rfl (by repeat' first | exact trivial | rfl | (simp only [go_sem]; done) | constructor) rfl (by first | rfl | simp only [go_sem]) rfl (by simp)).mono ?_)
  rintro _ _ ⟨_, _, ⟨rfl, rfl⟩, rfl, rfl⟩
  simp (maxSteps := 10000000) only [go_sem, lkM, lkM2, lkB, lkA, lkC, q1, q2, q3, List.cons_append, List.nil_append]
  subst hKK
  simp (maxSteps := 10000000) only [go_sem, lkM, lkM2, lkB, lkA, lkC, q1, q2, q3, List.cons_append, List.nil_append]
  refine sem_call rfl rfl (((h7).embed [1, 2, 3, 4, 21, 6, 22] rfl (by repeat' first | exact trivial | rfl | (simp only [go_sem]; done) | constructor) rfl (by first | rfl | simp only [go_sem]) rfl (by simp)).mono ?_)
  rintro _ _ ⟨_, _, ⟨rfl, rfl⟩, rfl, rfl⟩
  refine run_ok 4000 _ _ _ _ ?_
  simp (maxSteps := 10000000) only [go_sem, lkM, lkM2, lkB, lkA, lkC, q1, q2, q3, List.cons_append, List.nil_append]
  refine sem_call rfl rfl (((h8).embed [8, 9, 10, 11, 19, 13, 20] rfl (by repeat' first | exact trivial | rfl | (simp only [go_sem]; done) | constructor) rfl (by first | rfl | simp only [go_sem]) rfl (by simp)).mono ?_)
  rintro _ _ ⟨_, _, ⟨rfl, rfl⟩, rfl, rfl⟩
  refine run_ok 4000 _ _ _ _ ?_
  simp (maxSteps := 10000000) only [go_sem, lkM, lkM2, lkB, lkA, lkC, q1, q2, q3, List.cons_append, List.nil_append]
  refine ⟨_, [], .like (Like.bool true) (.sub [] ?_ .done), rfl⟩
  simp only [EmbV, go_sem]
end Go.AEX

/- Link: what the document's words say of a datagram. -/
namespace Go.AEX
open Go Go.AE Go.Proofs
set_option maxRecDepth 100000
set_option linter.unusedVariables false
set_option linter.unusedSimpArgs false

def refP (s : List UInt8) : (Int × Int × Int × List UInt8) × Int :=
  if (unsealF s).2 ≠ 0 then ((0, 0, 0, []), (unsealF s).2) else
  let c1 := countF ((unsealF s).1, 0) 4294967295
  let c2 := countF c1.1 4294967295
  let c3 := countF c2.1 1
  if c3.2 = 1 then
    let c4 := countF c3.1 4294967295
    let t := strF c4.1 201
    if (endF t.1).2 ≠ 0 then ((0, 0, 0, []), (endF t.1).2) else ((c1.2, c2.2, c4.2, t.2), 0)
  else if (endF c3.1).2 ≠ 0 then ((0, 0, 0, []), (endF c3.1).2) else ((c1.2, c2.2, -1, []), 0)
set_option maxHeartbeats 4000000 in
theorem rparse_spec (s : List UInt8) (hs : s.length ≤ 1000) : Tri Try.prog 17 [.str s] []
    (fun v m => v = .tup [.agg [.int .i64 (refP s).1.1, .int .i64 (refP s).1.2.1, .int .i64 (refP s).1.2.2.1, .str (refP s).1.2.2.2], .int .i64 (refP s).2] ∧ m = []) := by
  refine Tri.post ?_
  have hu := runseal_spec s hs
  unfold refP
  by_cases c : (unsealF s).2 = 0
  · rw [if_neg (by simpa using c)]
    have c0 : ((unsealF s).2 != 0) = false := by simp [c]
    have h1 := rtakeCount_spec (unsealF s).1 0 4294967295 (by unfold I64; omega)
    simp only
    generalize countF ((unsealF s).1, 0) 4294967295 = c1 at *
    have h2 := rtakeCount_spec c1.1.1 c1.1.2 4294967295 (by unfold I64; omega)
    generalize countF (c1.1.1, c1.1.2) 4294967295 = c2' at * 
    have h3 := rtakeCount_spec c2'.1.1 c2'.1.2 1 (by unfold I64; omega)
    generalize hc3 : countF (c2'.1.1, c2'.1.2) 1 = c3 at *
    by_cases d : c3.2 = 1
    · rw [if_pos d]
      have d0 : (c3.2 == 1) = true := by simp [d]
      have h4 := rtakeCount_spec c3.1.1 c3.1.2 4294967295 (by unfold I64; omega)
      generalize countF (c3.1.1, c3.1.2) 4294967295 = c4 at *
      have h5 := rtakeStr_spec c4.1.1 c4.1.2 201 (by unfold I64; omega)
      generalize strF (c4.1.1, c4.1.2) 201 = t5 at *
      have h6 := rend_spec t5.1.1 t5.1.2
      by_cases e : (endF t5.1).2 = 0
      · rw [if_neg (by simpa using e)]
        have e' : (endF (t5.1.1, t5.1.2)).2 = 0 := e
        rw [e'] at h6
        have hz : ((0 : Int) != 0) = false := rfl
        skip
        refine (Tri.enter (rl := r17) (code := c17) (by kernel_rfl) Try.func17 rfl c17_ok (by kernel_rfl) (by kernel_rfl) ?_)
        refine run_ok 4000 _ _ _ _ ?_
        simp (maxSteps := 10000000) only [go_sem, c17, r17, c0, d0, hz]
        refine sem_call rfl rfl (((hu).embed [] rfl trivial rfl rfl rfl (by simp)).mono ?_)
        rintro _ _ ⟨_, _, ⟨rfl, rfl⟩, rfl, rfl⟩
        refine run_ok 4000 _ _ _ _ ?_
        simp (maxSteps := 10000000) only [go_sem, c0, d0, hz]
        refine sem_call rfl rfl (((h1).embed [] rfl trivial rfl rfl rfl (by simp)).mono ?_)
        rintro _ _ ⟨_, _, ⟨rfl, rfl⟩, rfl, rfl⟩
        refine run_ok 4000 _ _ _ _ ?_
        simp (maxSteps := 10000000) only [go_sem, c0, d0, hz]
        refine sem_call rfl rfl (((h2).embed [] rfl trivial rfl rfl rfl (by simp)).mono ?_)
        rintro _ _ ⟨_, _, ⟨rfl, rfl⟩, rfl, rfl⟩
        refine run_ok 4000 _ _ _ _ ?_
        simp (maxSteps := 10000000) only [go_sem, c0, d0, hz]
        refine sem_call rfl rfl (((h3).embed [] rfl trivial rfl rfl rfl (by simp)).mono ?_)
        rintro _ _ ⟨_, _, ⟨rfl, rfl⟩, rfl, rfl⟩
        refine run_ok 4000 _ _ _ _ ?_
        simp (maxSteps := 10000000) only [go_sem, c0, d0, hz]
        refine sem_call rfl rfl (((h4).embed [] rfl trivial rfl rfl rfl (by simp)).mono ?_)
        rintro _ _ ⟨_, _, ⟨rfl, rfl⟩, rfl, rfl⟩
        refine run_ok 4000 _ _ _ _ ?_
        simp (maxSteps := 10000000) only [go_sem, c0, d0, hz]
        refine sem_call rfl rfl (((h5).embed [] rfl trivial rfl rfl rfl (by simp)).mono ?_)
        rintro _ _ ⟨_, _, ⟨rfl, rfl⟩, rfl, rfl⟩
        refine run_ok 4000 _ _ _ _ ?_
        simp (maxSteps := 10000000) only [go_sem, c0, d0, hz]
        refine sem_call rfl rfl (((h6).embed [] rfl trivial rfl rfl rfl (by simp)).mono ?_)
        rintro _ _ ⟨_, _, ⟨rfl, rfl⟩, rfl, rfl⟩
        refine run_ok 4000 _ _ _ _ ?_
        simp (maxSteps := 10000000) only [go_sem, c0, d0, hz]
        refine ⟨_, _, .sub [] ?_ .done, rfl, rfl⟩
        simp only [EmbV, go_sem]
      · rw [if_pos (by simpa using e)]
        have e0 : ((endF (t5.1.1, t5.1.2)).2 != 0) = true := by simpa using e
        skip
        refine (Tri.enter (rl := r17) (code := c17) (by kernel_rfl) Try.func17 rfl c17_ok (by kernel_rfl) (by kernel_rfl) ?_)
        refine run_ok 4000 _ _ _ _ ?_
        simp (maxSteps := 10000000) only [go_sem, c17, r17, c0, d0, e0]
        refine sem_call rfl rfl (((hu).embed [] rfl trivial rfl rfl rfl (by simp)).mono ?_)
        rintro _ _ ⟨_, _, ⟨rfl, rfl⟩, rfl, rfl⟩
        refine run_ok 4000 _ _ _ _ ?_
        simp (maxSteps := 10000000) only [go_sem, c0, d0, e0]
        refine sem_call rfl rfl (((h1).embed [] rfl trivial rfl rfl rfl (by simp)).mono ?_)
        rintro _ _ ⟨_, _, ⟨rfl, rfl⟩, rfl, rfl⟩
        refine run_ok 4000 _ _ _ _ ?_
        simp (maxSteps := 10000000) only [go_sem, c0, d0, e0]
        refine sem_call rfl rfl (((h2).embed [] rfl trivial rfl rfl rfl (by simp)).mono ?_)
        rintro _ _ ⟨_, _, ⟨rfl, rfl⟩, rfl, rfl⟩
        refine run_ok 4000 _ _ _ _ ?_
        simp (maxSteps := 10000000) only [go_sem, c0, d0, e0]
        refine sem_call rfl rfl (((h3).embed [] rfl trivial rfl rfl rfl (by simp)).mono ?_)
        rintro _ _ ⟨_, _, ⟨rfl, rfl⟩, rfl, rfl⟩
        refine run_ok 4000 _ _ _ _ ?_
        simp (maxSteps := 10000000) only [go_sem, c0, d0, e0]
        refine sem_call rfl rfl (((h4).embed [] rfl trivial rfl rfl rfl (by simp)).mono ?_)
        rintro _ _ ⟨_, _, ⟨rfl, rfl⟩, rfl, rfl⟩
        refine run_ok 4000 _ _ _ _ ?_
        simp (maxSteps := 10000000) only [go_sem, c0, d0, e0]
        refine sem_call rfl rfl (((h5).embed [] rfl trivial rfl rfl rfl (by simp)).mono ?_)
        rintro _ _ ⟨_, _, ⟨rfl, rfl⟩, rfl, rfl⟩
        refine run_ok 4000 _ _ _ _ ?_
        simp (maxSteps := 10000000) only [go_sem, c0, d0, e0]
        refine sem_call rfl rfl (((h6).embed [] rfl trivial rfl rfl rfl (by simp)).mono ?_)
        rintro _ _ ⟨_, _, ⟨rfl, rfl⟩, rfl, rfl⟩
        refine run_ok 4000 _ _ _ _ ?_
        simp (maxSteps := 10000000) only [go_sem, c0, d0, e0]
        refine sem_call rfl rfl (((h6).embed [] rfl trivial rfl rfl rfl (by simp)).mono ?_)
        rintro _ _ ⟨_, _, ⟨rfl, rfl⟩, rfl, rfl⟩
        refine run_ok 4000 _ _ _ _ ?_
        simp (maxSteps := 10000000) only [go_sem, c0, d0, e0]
        refine ⟨_, _, .sub [] ?_ .done, rfl, rfl⟩
        simp only [EmbV, go_sem]
    · rw [if_neg d]
      have d0 : (c3.2 == 1) = false := by simp [d]
      have h6 := rend_spec c3.1.1 c3.1.2
      by_cases e : (endF c3.1).2 = 0
      · rw [if_neg (by simpa using e)]
        have e' : (endF (c3.1.1, c3.1.2)).2 = 0 := e
        rw [e'] at h6
        have hz : ((0 : Int) != 0) = false := rfl
        skip
        refine (Tri.enter (rl := r17) (code := c17) (by kernel_rfl) Try.func17 rfl c17_ok (by kernel_rfl) (by kernel_rfl) ?_)
        refine run_ok 4000 _ _ _ _ ?_
        simp (maxSteps := 10000000) only [go_sem, c17, r17, c0, d0, hz]
        refine sem_call rfl rfl (((hu).embed [] rfl trivial rfl rfl rfl (by simp)).mono ?_)
        rintro _ _ ⟨_, _, ⟨rfl, rfl⟩, rfl, rfl⟩
        refine run_ok 4000 _ _ _ _ ?_
        simp (maxSteps := 10000000) only [go_sem, c0, d0, hz]
        refine sem_call rfl rfl (((h1).embed [] rfl trivial rfl rfl rfl (by simp)).mono ?_)
        rintro _ _ ⟨_, _, ⟨rfl, rfl⟩, rfl, rfl⟩
        refine run_ok 4000 _ _ _ _ ?_
        simp (maxSteps := 10000000) only [go_sem, c0, d0, hz]
        refine sem_call rfl rfl (((h2).embed [] rfl trivial rfl rfl rfl (by simp)).mono ?_)
        rintro _ _ ⟨_, _, ⟨rfl, rfl⟩, rfl, rfl⟩
        refine run_ok 4000 _ _ _ _ ?_
        simp (maxSteps := 10000000) only [go_sem, c0, d0, hz]
        refine sem_call rfl rfl (((h3).embed [] rfl trivial rfl rfl rfl (by simp)).mono ?_)
        rintro _ _ ⟨_, _, ⟨rfl, rfl⟩, rfl, rfl⟩
        refine run_ok 4000 _ _ _ _ ?_
        simp (maxSteps := 10000000) only [go_sem, c0, d0, hz]
        refine sem_call rfl rfl (((h6).embed [] rfl trivial rfl rfl rfl (by simp)).mono ?_)
        rintro _ _ ⟨_, _, ⟨rfl, rfl⟩, rfl, rfl⟩
        refine run_ok 4000 _ _ _ _ ?_
        simp (maxSteps := 10000000) only [go_sem, c0, d0, hz]
        refine ⟨_, _, .sub [] ?_ .done, rfl, rfl⟩
        simp only [EmbV, go_sem]
      · rw [if_pos (by simpa using e)]
        have e0 : ((endF (c3.1.1, c3.1.2)).2 != 0) = true := by simpa using e
        skip
        refine (Tri.enter (rl := r17) (code := c17) (by kernel_rfl) Try.func17 rfl c17_ok (by kernel_rfl) (by kernel_rfl) ?_)
        refine run_ok 4000 _ _ _ _ ?_
        simp (maxSteps := 10000000) only [go_sem, c17, r17, c0, d0, e0]
        refine sem_call rfl rfl (((hu).embed [] rfl trivial rfl rfl rfl (by simp)).mono ?_)
        rintro _ _ ⟨_, _, ⟨rfl, rfl⟩, rfl, rfl⟩
        refine run_ok 4000 _ _ _ _ ?_
        simp (maxSteps := 10000000) only [go_sem, c0, d0, e0]
        refine sem_call rfl rfl (((h1).embed [] rfl trivial rfl rfl rfl (by simp)).mono ?_)
        rintro _ _ ⟨_, _, ⟨rfl, rfl⟩, rfl, rfl⟩
        refine run_ok 4000 _ _ _ _ ?_
        simp (maxSteps := 10000000) only [go_sem, c0, d0, e0]
        refine sem_call rfl rfl (((h2).embed [] rfl trivial rfl rfl rfl (by simp)).mono ?_)
        rintro _ _ ⟨_, _, ⟨rfl, rfl⟩, rfl, rfl⟩
        refine run_ok 4000 _ _ _ _ ?_
        simp (maxSteps := 10000000) only [go_sem, c0, d0, e0]
        refine sem_call rfl rfl (((h3).embed [] rfl trivial rfl rfl rfl (by simp)).mono ?_)
        rintro _ _ ⟨_, _, ⟨rfl, rfl⟩, rfl, rfl⟩
        refine run_ok 4000 _ _ _ _ ?_
        simp (maxSteps := 10000000) only [go_sem, c0, d0, e0]
        refine sem_call rfl rfl (((h6).embed [] rfl trivial rfl rfl rfl (by simp)).mono ?_)
        rintro _ _ ⟨_, _, ⟨rfl, rfl⟩, rfl, rfl⟩
        refine run_ok 4000 _ _ _ _ ?_
        simp (maxSteps := 10000000) only [go_sem, c0, d0, e0]
        refine sem_call rfl rfl (((h6).embed [] rfl trivial rfl rfl rfl (by simp)).mono ?_)
        rintro _ _ ⟨_, _, ⟨rfl, rfl⟩, rfl, rfl⟩
        refine run_ok 4000 _ _ _ _ ?_
        simp (maxSteps := 10000000) only [go_sem, c0, d0, e0]
        refine ⟨_, _, .sub [] ?_ .done, rfl, rfl⟩
        simp only [EmbV, go_sem]
  · rw [if_pos (by simpa using c)]
    have c0 : ((unsealF s).2 != 0) = true := by simp [c]
    skip
    refine (Tri.enter (rl := r17) (code := c17) (by kernel_rfl) Try.func17 rfl c17_ok (by kernel_rfl) (by kernel_rfl) ?_)
    refine run_ok 4000 _ _ _ _ ?_
    simp (maxSteps := 10000000) only [go_sem, c17, r17, c0]
    refine sem_call rfl rfl (((hu).embed [] rfl trivial rfl rfl rfl (by simp)).mono ?_)
    rintro _ _ ⟨_, _, ⟨rfl, rfl⟩, rfl, rfl⟩
    refine run_ok 4000 _ _ _ _ ?_
    simp (maxSteps := 10000000) only [go_sem, c0]
    refine ⟨_, _, .sub [] ?_ .done, rfl, rfl⟩
    simp only [EmbV, go_sem]
theorem countF_ok (x : List UInt8 × Int) (most : Int) (h : 0 < (countF x most).2) : (countF x most).1.2 = 0 := by
  unfold countF at h ⊢
  split
  · rename_i h2; rw [if_pos h2] at h; simp at h
  · rename_i h2
    rw [if_neg h2] at h
    simp only at h ⊢
    unfold numI at h ⊢
    split
    · rename_i h3; rw [if_pos h3] at h; simp at h
    · rename_i h3
      rw [if_neg h3] at h
      apply Classical.byContradiction
      intro h4
      have := tk_err x.1 0 0 h4
      omega
theorem refP_link (s : List UInt8) : (refP s).2 = (linkP s).2.2 := by
  unfold refP linkP
  split
  · rfl
  · simp only
    generalize countF ((unsealF s).1, 0) 4294967295 = c1
    generalize countF c1.1 4294967295 = c2
    have hle := count_le c2.1 1
    have hok := countF_ok c2.1 1
    have hp1 : posN 1 = 1 := rfl
    rw [hp1] at hle
    generalize countF c2.1 1 = c3 at *
    by_cases d : c3.2 = 1
    · have d2 : c3.2 > 0 ∧ c3.1.2 = 0 := ⟨by omega, hok (by omega)⟩
      rw [if_pos d, if_pos d2]
      by_cases e : (endF (strF (countF c3.1 4294967295).1 201).1).2 = 0
      · rw [if_neg (by simpa using e)]; exact e.symm
      · rw [if_pos e]
    · have d2 : ¬ (c3.2 > 0 ∧ c3.1.2 = 0) := by omega
      rw [if_neg d, if_neg d2]
      by_cases e : (endF c3.1).2 = 0
      · rw [if_neg (by simpa using e)]; exact e.symm
      · rw [if_pos e]
end Go.AEX
