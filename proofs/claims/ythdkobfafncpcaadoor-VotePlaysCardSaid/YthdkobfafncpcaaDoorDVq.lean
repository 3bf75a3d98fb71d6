/- DVq. -/
import Derived.Test.YthdkobfafncpcaaDoorDVp
/- Door seat: VotePlays: the walk. -/
namespace Go.AEX
open Go Go.AE Go.Proofs
set_option maxRecDepth 100000
set_option linter.unusedVariables false
set_option linter.unusedSimpArgs false

theorem plays_core (ps : List Int) (acs : List Ac) : Tri Tryd.prog 3 [.vsl 1 (iv .i64 ps) false, .vsl 7 (arows acs) false] [] (fun v m => v = .bool true ∧ m = []) := by
  refine Tri.post ?_
  apply cutT (fun ps : List Int => ps.length ≤ 12) (fun ps => [(0, .vsl 1 (iv .i64 ps) false), (1, .vsl 7 (arows acs) false), (24, .vsl 1 (iv .i64 ps) false)]) (fun _ => [])
  · intro hX
    by_cases c : (ps.length : Int) > 12
    · have c' : (12 : Int) ≤ (ps.length : Int) := by omega
      have hsub : sub (iv .i64 ps) 0 12 = iv .i64 (ps.take 12) := by rw [iv_sub]; simp
      skip
      refine (Tri.enter (rl := r3) (code := c3) (by kernel_rfl) Tryd.func3 rfl c3_ok (by kernel_rfl) (by kernel_rfl) ?_)
      refine run_ok 4000 _ _ _ _ ?_
      simp (maxSteps := 10000000) only [go_sem, c3, r3, c, c', iv_len, hsub]
      refine sem_call rfl rfl ((awake_spec).mono ?_)
      rintro _ _ ⟨rfl, rfl⟩
      refine run_ok 4000 _ _ _ _ ?_
      simp (maxSteps := 10000000) only [go_sem, c, c', iv_len, hsub]
      refine sem_sub0 _ rfl (Nat.zero_le _) ?_ ?_ (hX (ps.take 12) (by simp; omega))
      · simp only [go_sem]
      · simp only [go_sem]
    · skip
      refine (Tri.enter (rl := r3) (code := c3) (by kernel_rfl) Tryd.func3 rfl c3_ok (by kernel_rfl) (by kernel_rfl) ?_)
      refine run_ok 4000 _ _ _ _ ?_
      simp (maxSteps := 10000000) only [go_sem, c3, r3, c, iv_len]
      refine sem_call rfl rfl ((awake_spec).mono ?_)
      rintro _ _ ⟨rfl, rfl⟩
      refine run_ok 4000 _ _ _ _ ?_
      simp (maxSteps := 10000000) only [go_sem, c, iv_len]
      refine sem_sub0 _ rfl (Nat.zero_le _) ?_ ?_ (hX ps (by omega))
      · simp only [go_sem]
      · simp only [go_sem]
  intro ps hps
  have hr := r_of_spec ps false (by omega)
  have ho := rof_spec ps false (by omega)
  have hn := vnew_spec (ofN ps 0) 0
  have hS := ofN_lt ps 0 (by decide)
  rw [ofL_ofN] at ho
  generalize ofN ps 0 = S0 at *
  skip
  refine run_ok 4000 _ _ _ _ ?_
  simp (maxSteps := 10000000) only [go_sem, iv_len]
  refine sem_call rfl rfl (((hr).embed [] rfl trivial rfl rfl rfl (by simp)).mono ?_)
  rintro _ _ ⟨_, _, ⟨rfl, rfl⟩, rfl, rfl⟩
  refine run_ok 4000 _ _ _ _ ?_
  simp (maxSteps := 10000000) only [go_sem, iv_len]
  refine sem_call rfl rfl (((hn).embed [] rfl trivial rfl rfl rfl (by simp)).mono ?_)
  rintro _ _ ⟨_, _, ⟨rfl, rfl⟩, rfl, rfl⟩
  refine run_ok 4000 _ _ _ _ ?_
  simp (maxSteps := 10000000) only [go_sem, iv_len]
  refine sem_call rfl rfl (((ho).embed [] rfl trivial rfl rfl rfl (by simp)).mono ?_)
  rintro _ _ ⟨_, _, ⟨rfl, rfl⟩, rfl, rfl⟩
  refine run_ok 4000 _ _ _ _ ?_
  simp (maxSteps := 10000000) only [go_sem, iv_len]
  refine sem_likebox 2 2 (.vsl 1 [] false) rfl rfl (Like.nilv 1 false) ?_
  refine sem_likebox 2 3 (.vsl 3 [] false) rfl rfl (Like.nilv 3 false) ?_
  simp (maxSteps := 10000000) only [go_sem, iv_len]
  have hpj : PJ 0 (S0, 0, [], [], [], []) := ⟨hS, ⟨Int.le_refl _, by simp⟩, ⟨by simp, by simp, by simp, by simp⟩, ⟨rfl, by simp, by simp⟩, by simp⟩
  refine sem_roundsJ (fun x : Nat × PX => x.1 ≤ acs.length ∧ x.1 ≤ 120 ∧ PJ x.1 x.2) (fun x => [(1, .vsl 7 (arows acs) false), (5, .pbox 0 0), (6, .pbox (x.2.2.2.2.1.length + 1 + 1) 0), (7, .int .i64 (x.1 : Nat))])
    (fun x => pM x.2) (fun x => acs.length - x.1) (0, (S0, 0, [], [], [], [])) (fun x hx => hx.2.2.ids) (fun x hx => Nat.zero_le _) (fun x hx => by simp [idsT, ids, pM_len, bN_len]) ⟨Nat.zero_le _, by simp, hpj⟩ (by simp only [go_sem, List.length_nil]) ?_
  rintro ⟨i, S, ep, O, F, Open, L⟩ ⟨hi, hi120, hx⟩
  simp only at hi hi120
  by_cases c : i < acs.length
  · by_cases c2 : i < 120
    · have i1 : (i : Int) < (acs.length : Int) := by omega
      have i2 : (i : Int) < 120 := by omega
      have w1 := inc64 (show i < 1000000000000 by omega)
      obtain ⟨⟨g0, g1, g2, g3, g4, g5, g6⟩, f0, f1, f2, f3, f4, f5, f6⟩ := arows_facts c
      generalize acs[i] = a at *
      obtain ⟨kd, vo, pl, ye, ck, cp, vs⟩ := a
      simp only at f0 f1 f2 f3 f4 f5 f6
      have hn0 : (bN S ep O F).length = F.length + 1 + 1 := bN_len S ep O F
      have q0 := fr0 hn0
      have q1 := fr1 hn0
      have q2 := fr2 hn0
      have q3 := fr3 hn0
      have q4 := fr4 hn0
      apply cutT (PJ (i + 1)) (endS acs i) pM
      · intro hX
        have hvi := hx.vi
        have hvf := hx.vf
        have hxS := hx.hS
        have hep := hx.he
        have hLl := hx.hL
        have hol := hx.op
        simp only at hvi hvf hxS hep hLl hol
        have hok := hvf.okO
        have hx1 : ∀ {S O F Open L ep}, PJ i (S, ep, O, F, Open, L) → PJ (i + 1) (S, ep, O, F, Open, L) := fun h => ⟨h.hS, ⟨h.he.1, by have := h.he.2; simp only at this ⊢; omega⟩, h.vi, h.vf, by have := h.hL; simp only at this ⊢; omega⟩
        by_cases k1 : kd = 1
        · have k1 : (kd == 1) = true := by simpa using k1
          skip
          refine run_ok 4000 _ _ _ _ ?_
          simp (maxSteps := 10000000) only [go_sem, i1, i2, w1, g0, g1, g2, g3, g4, g5, g6, f0, f1, f2, f3, f4, f5, f6, q0, q1, q2, q3, q4, k1, arows_len, Int.natCast_nonneg, List.append_assoc, List.cons_append, List.nil_append]
          by_cases p0 : pl = 0
          · subst p0
            have ha := bFront (bask_zero S ep O F) hok hok rfl rfl rfl
            have hr := rask_zero (allN S 32) ep Open L
            refine sem_call rfl rfl ((ha _).mono ?_)
            rintro _ _ ⟨rfl, rfl⟩
            refine run_ok 4000 _ _ _ _ ?_
            simp (maxSteps := 10000000) only [go_sem, i1, i2, w1, g0, g1, g2, g3, g4, g5, g6, f0, f1, f2, f3, f4, f5, f6, q0, q1, q2, q3, q4, k1, arows_len, Int.natCast_nonneg, List.append_assoc, List.cons_append, List.nil_append]
            refine sem_call rfl rfl (((hr).embed [] rfl trivial rfl rfl rfl (by simp)).mono ?_)
            rintro _ _ ⟨_, _, ⟨rfl, rfl⟩, rfl, rfl⟩
            refine run_ok 4000 _ _ _ _ ?_
            simp (maxSteps := 10000000) only [go_sem, i1, i2, w1, g0, g1, g2, g3, g4, g5, g6, f0, f1, f2, f3, f4, f5, f6, q0, q1, q2, q3, q4, k1, arows_len, Int.natCast_nonneg, List.append_assoc, List.cons_append, List.nil_append]
            refine sem_end hX S ep O F Open L (hx1 hx) _ ?_
            simp only [endS, go_sem]
          cases hp : hasN S pl with
          | false =>
            have ha := bFront (bask_no S hxS ep O F pl p0 hp) hok hok rfl rfl rfl
            have hr := rask_no S ep Open L pl p0 hp
            refine sem_call rfl rfl ((ha _).mono ?_)
            rintro _ _ ⟨rfl, rfl⟩
            refine run_ok 4000 _ _ _ _ ?_
            simp (maxSteps := 10000000) only [go_sem, i1, i2, w1, g0, g1, g2, g3, g4, g5, g6, f0, f1, f2, f3, f4, f5, f6, q0, q1, q2, q3, q4, k1, arows_len, Int.natCast_nonneg, List.append_assoc, List.cons_append, List.nil_append]
            refine sem_call rfl rfl (((hr).embed [] rfl trivial rfl rfl rfl (by simp)).mono ?_)
            rintro _ _ ⟨_, _, ⟨rfl, rfl⟩, rfl, rfl⟩
            refine run_ok 4000 _ _ _ _ ?_
            simp (maxSteps := 10000000) only [go_sem, i1, i2, w1, g0, g1, g2, g3, g4, g5, g6, f0, f1, f2, f3, f4, f5, f6, q0, q1, q2, q3, q4, k1, arows_len, Int.natCast_nonneg, List.append_assoc, List.cons_append, List.nil_append]
            refine sem_end hX S ep O F Open L (hx1 hx) _ ?_
            simp only [endS, go_sem]
          | true =>
            by_cases po : pl ∈ Open
            · obtain ⟨k, ho, _⟩ := hvf.got po
              have ha := bFront (bask_there S hxS ep O F pl k p0 hp ho) hok hok rfl rfl rfl
              have hr := rask_there S ep Open (by omega) L pl p0 hp po
              refine sem_call rfl rfl ((ha _).mono ?_)
              rintro _ _ ⟨rfl, rfl⟩
              refine run_ok 4000 _ _ _ _ ?_
              simp (maxSteps := 10000000) only [go_sem, i1, i2, w1, g0, g1, g2, g3, g4, g5, g6, f0, f1, f2, f3, f4, f5, f6, q0, q1, q2, q3, q4, k1, arows_len, Int.natCast_nonneg, List.append_assoc, List.cons_append, List.nil_append]
              refine sem_call rfl rfl (((hr).embed [] rfl trivial rfl rfl rfl (by simp)).mono ?_)
              rintro _ _ ⟨_, _, ⟨rfl, rfl⟩, rfl, rfl⟩
              refine run_ok 4000 _ _ _ _ ?_
              simp (maxSteps := 10000000) only [go_sem, i1, i2, w1, g0, g1, g2, g3, g4, g5, g6, f0, f1, f2, f3, f4, f5, f6, q0, q1, q2, q3, q4, k1, arows_len, Int.natCast_nonneg, List.append_assoc, List.cons_append, List.nil_append]
              refine sem_end hX S ep O F Open L (hx1 hx) _ ?_
              simp only [endS, go_sem]
            · have ha := bask_newx S hxS ep O F hok pl p0 hp (hvf.nog po)
              have hr := rask_new S ep Open (by omega) L pl p0 hp po
              refine sem_call rfl rfl ((ha _ _).mono ?_)
              rintro _ _ ⟨rfl, rfl⟩
              have r1 : ∀ N, rid (idl (F.length + 1 + 1) 0 ++ [F.length + 1 + 1 + 2, F.length + 1 + 1, F.length + 1 + 1 + 1]) N (F.length + 1 + 1 + 1) = F.length + 1 + 1 := fun N => rid_post (F.length + 1 + 1) 0 1
              have r2 : ∀ N, rid (idl (F.length + 1 + 1) 0 ++ [F.length + 1 + 1 + 2, F.length + 1 + 1, F.length + 1 + 1 + 1]) N (F.length + 1 + 1 + 1 + 1) = F.length + 1 + 1 + 1 := fun N => rid_post (F.length + 1 + 1) 0 2
              have r0 : ∀ N, rid (idl (F.length + 1 + 1) 0 ++ [F.length + 1 + 1 + 2, F.length + 1 + 1, F.length + 1 + 1 + 1]) N 0 = 0 := fun N => rid_pre (by omega)
              refine sem_sub _ (emb_ask (sl := [(1, .vsl 7 (arows acs) false), (5, .pbox 0 0), (6, .pbox (F.length + 1 + 1 + 1) 0), (7, .int .i64 (i : Nat)), (8, .pbox (F.length + 1 + 1 + 1 + 1) 0), (51, .int .i64 0)]) hok
                (fun n π N => by simp [idsB, idss, ids, renB, rens, ren]) (fun n π N => by simp [idsB, idss, ids, renB, rens, ren]) (by simp [idsT, ids]) ?_) ?_
              · simp only [embT, ren, r0, r1, r2, sp]
                simp only [go_sem]
              have hn1 : (bN S ep (O ++ [(pl, F.length)]) (F ++ [[]])).length = F.length + 1 + 1 + 1 := by rw [bN_len]; simp
              have q0 := fr0 hn1
              have q1 := fr1 hn1
              have q2 := fr2 hn1
              have q3 := fr3 hn1
              have q4 := fr4 hn1
              skip
              refine run_ok 4000 _ _ _ _ ?_
              simp (maxSteps := 10000000) only [go_sem, q0, q1, q2, q3, q4, List.append_assoc, List.cons_append, List.nil_append]
              refine sem_call rfl rfl (((hr).embed [] rfl trivial rfl rfl rfl (by simp)).mono ?_)
              rintro _ _ ⟨_, _, ⟨rfl, rfl⟩, rfl, rfl⟩
              refine run_ok 4000 _ _ _ _ ?_
              simp (maxSteps := 10000000) only [go_sem, q0, q1, q2, q3, q4, List.append_assoc, List.cons_append, List.nil_append]
              refine sem_end hX S ep (O ++ [(pl, F.length)]) (F ++ [[]]) (Open ++ [pl]) L (hx1 ⟨hx.hS, hx.he, hvi.ask po hp p0, hvf.ask hvi po, hx.hL⟩) _ ?_
              simp only [endS, go_sem, List.length_append]
        have k1 : (kd == 1) = false := by simpa using k1
        by_cases k2 : kd = 2
        · have k2 : (kd == 2) = true := by simpa using k2
          skip
          refine run_ok 4000 _ _ _ _ ?_
          simp (maxSteps := 10000000) only [go_sem, k1, k2, i1, i2, w1, g0, g1, g2, g3, g4, g5, g6, f0, f1, f2, f3, f4, f5, f6, q0, q1, q2, q3, q4, arows_len, Int.natCast_nonneg, List.append_assoc, List.cons_append, List.nil_append]
          by_cases po : pl ∈ Open
          · obtain ⟨k, ho, hFk⟩ := hvf.got po
            by_cases hw : hasN S vo = false ∨ vo = pl
            · have ha := bFront (bvote_who S hxS ep O F vo pl ye k ho hw) hok hok rfl rfl rfl
              have hr := rput_who S ep Open (by omega) L vo pl ye po hw
              refine sem_call rfl rfl ((ha _).mono ?_)
              rintro _ _ ⟨rfl, rfl⟩
              refine run_ok 4000 _ _ _ _ ?_
              simp (maxSteps := 10000000) only [go_sem, k1, k2, i1, i2, w1, g0, g1, g2, g3, g4, g5, g6, f0, f1, f2, f3, f4, f5, f6, q0, q1, q2, q3, q4, arows_len, Int.natCast_nonneg, List.append_assoc, List.cons_append, List.nil_append]
              refine sem_call rfl rfl (((hr).embed [] rfl trivial rfl rfl rfl (by simp)).mono ?_)
              rintro _ _ ⟨_, _, ⟨rfl, rfl⟩, rfl, rfl⟩
              refine run_ok 4000 _ _ _ _ ?_
              simp (maxSteps := 10000000) only [go_sem, k1, k2, i1, i2, w1, g0, g1, g2, g3, g4, g5, g6, f0, f1, f2, f3, f4, f5, f6, q0, q1, q2, q3, q4, arows_len, Int.natCast_nonneg, List.append_assoc, List.cons_append, List.nil_append]
              refine sem_end hX S ep O F Open L (hx1 hx) _ ?_
              simp only [endS, go_sem]
            · have hv : hasN S vo = true := by
                cases h : hasN S vo with
                | true => rfl
                | false => exact absurd (.inl h) hw
              have hne : vo ≠ pl := fun h => hw (.inr h)
              by_cases hth : ∃ x ∈ L, x.1 = vo ∧ x.2.1 = pl
              · obtain ⟨b, hb⟩ : ∃ b, vg (wv L pl) vo = some b := by
                  obtain ⟨⟨a, q, b⟩, hm, e1, e2⟩ := hth
                  simp only at e1 e2
                  subst e1; subst e2
                  exact ⟨b, (vg_iff (wv_keys hvi q)).2 (wv_mem.2 hm)⟩
                have ha := bFront (bvote_there S hxS ep O F vo pl ye b k _ ho hFk hv hne hb) hok hok rfl rfl rfl
                have hr := rput_there S ep Open (by omega) L (by omega) vo pl ye po hv hne hth
                refine sem_call rfl rfl ((ha _).mono ?_)
                rintro _ _ ⟨rfl, rfl⟩
                refine run_ok 4000 _ _ _ _ ?_
                simp (maxSteps := 10000000) only [go_sem, k1, k2, i1, i2, w1, g0, g1, g2, g3, g4, g5, g6, f0, f1, f2, f3, f4, f5, f6, q0, q1, q2, q3, q4, arows_len, Int.natCast_nonneg, List.append_assoc, List.cons_append, List.nil_append]
                refine sem_call rfl rfl (((hr).embed [] rfl trivial rfl rfl rfl (by simp)).mono ?_)
                rintro _ _ ⟨_, _, ⟨rfl, rfl⟩, rfl, rfl⟩
                refine run_ok 4000 _ _ _ _ ?_
                simp (maxSteps := 10000000) only [go_sem, k1, k2, i1, i2, w1, g0, g1, g2, g3, g4, g5, g6, f0, f1, f2, f3, f4, f5, f6, q0, q1, q2, q3, q4, arows_len, Int.natCast_nonneg, List.append_assoc, List.cons_append, List.nil_append]
                refine sem_end hX S ep O F Open L (hx1 hx) _ ?_
                simp only [endS, go_sem]
              · have hno : ∀ x ∈ L, ¬ (x.1 = vo ∧ x.2.1 = pl) := fun x hx h => hth ⟨x, hx, h⟩
                have hb : vg (wv L pl) vo = none := by
                  rw [vg_none]
                  intro hm
                  obtain ⟨⟨a, b⟩, hm2, e⟩ := List.mem_map.1 hm
                  simp only at e
                  subst e
                  exact hno _ (wv_mem.1 hm2) ⟨rfl, rfl⟩
                have hvf2 := hvf.put hvi.nd (v := vo) (y := ye) ho
                have hlF : (F.set k (wv L pl ++ [(vo, ye)])).length = F.length := List.length_set
                have ha := bFront (bvote_new S hxS ep O F vo pl ye k _ ho hFk hv hne hb) hok hvf2.okO hlF rfl rfl
                have hr := rput_new S ep Open (by omega) L (by omega) vo pl ye po hv hne hno
                refine sem_call rfl rfl ((ha _).mono ?_)
                rintro _ _ ⟨rfl, rfl⟩
                have hn1 : (bN S ep O (F.set k (wv L pl ++ [(vo, ye)]))).length = F.length + 1 + 1 := by rw [bN_len, hlF]
                have q0 := fr0 hn1
                have q1 := fr1 hn1
                have q2 := fr2 hn1
                have q3 := fr3 hn1
                have q4 := fr4 hn1
                skip
                refine run_ok 4000 _ _ _ _ ?_
                simp (maxSteps := 10000000) only [go_sem, q0, q1, q2, q3, q4, List.append_assoc, List.cons_append, List.nil_append]
                refine sem_call rfl rfl (((hr).embed [] rfl trivial rfl rfl rfl (by simp)).mono ?_)
                rintro _ _ ⟨_, _, ⟨rfl, rfl⟩, rfl, rfl⟩
                refine run_ok 4000 _ _ _ _ ?_
                simp (maxSteps := 10000000) only [go_sem, q0, q1, q2, q3, q4, List.append_assoc, List.cons_append, List.nil_append]
                refine sem_end hX S ep O (F.set k (wv L pl ++ [(vo, ye)])) Open (L ++ [(vo, pl, ye)]) ⟨hx.hS, (hx1 hx).he, hvi.put po hv hne hno, hvf2, by simp; omega⟩ _ ?_
                simp only [endS, go_sem, hlF]
          · have ha := bFront (bvote_none S ep O F vo pl ye (hvf.nog po)) hok hok rfl rfl rfl
            have hr := rput_none (allN S 32) ep Open (by omega) L vo pl ye po
            skip
            refine sem_call rfl rfl ((ha _).mono ?_)
            rintro _ _ ⟨rfl, rfl⟩
            refine run_ok 4000 _ _ _ _ ?_
            simp (maxSteps := 10000000) only [go_sem, k1, k2, i1, i2, w1, g0, g1, g2, g3, g4, g5, g6, f0, f1, f2, f3, f4, f5, f6, q0, q1, q2, q3, q4, arows_len, Int.natCast_nonneg, List.append_assoc, List.cons_append, List.nil_append]
            refine sem_call rfl rfl (((hr).embed [] rfl trivial rfl rfl rfl (by simp)).mono ?_)
            rintro _ _ ⟨_, _, ⟨rfl, rfl⟩, rfl, rfl⟩
            refine run_ok 4000 _ _ _ _ ?_
            simp (maxSteps := 10000000) only [go_sem, k1, k2, i1, i2, w1, g0, g1, g2, g3, g4, g5, g6, f0, f1, f2, f3, f4, f5, f6, q0, q1, q2, q3, q4, arows_len, Int.natCast_nonneg, List.append_assoc, List.cons_append, List.nil_append]
            refine sem_end hX S ep O F Open L (hx1 hx) _ ?_
            simp only [endS, go_sem]
        have k2 : (kd == 2) = false := by simpa using k2
        by_cases k3 : kd = 3
        · have k3 : (kd == 3) = true := by simpa using k3
          have hris := ris_spec Open false (by omega) pl
          have hks := hvf.ks
          have hvf2 := hvf.close hvi pl
          have hcl := bclose_spec S ep O F pl (by rw [hks]; exact hvi.nd)
          rw [og_dec hvf] at hcl
          have ha := bFront hcl hok hvf2.okO rfl rfl rfl
          have hr := rkeep_spec S ep pl Open (by omega) L (by omega)
          have hn1 : (bN S ep (odl O pl) F).length = F.length + 1 + 1 := bN_len _ _ _ _
          have u0 := fr0 hn1
          have u1 := fr1 hn1
          have u2 := fr2 hn1
          have u3 := fr3 hn1
          have u4 := fr4 hn1
          generalize decide (pl ∈ Open) = o at *
          have eo : (o == o) = true := beq_self_eq_true o
          skip
          refine run_ok 4000 _ _ _ _ ?_
          simp (maxSteps := 10000000) only [go_sem, k1, k2, k3, eo, u0, u1, u2, u3, u4, i1, i2, w1, g0, g1, g2, g3, g4, g5, g6, f0, f1, f2, f3, f4, f5, f6, q0, q1, q2, q3, q4, arows_len, Int.natCast_nonneg, List.append_assoc, List.cons_append, List.nil_append]
          refine sem_call rfl rfl (((hris).embed [] rfl trivial rfl rfl rfl (by simp)).mono ?_)
          rintro _ _ ⟨_, _, ⟨rfl, rfl⟩, rfl, rfl⟩
          refine run_ok 4000 _ _ _ _ ?_
          simp (maxSteps := 10000000) only [go_sem, k1, k2, k3, eo, u0, u1, u2, u3, u4, i1, i2, w1, g0, g1, g2, g3, g4, g5, g6, f0, f1, f2, f3, f4, f5, f6, q0, q1, q2, q3, q4, arows_len, Int.natCast_nonneg, List.append_assoc, List.cons_append, List.nil_append]
          refine sem_call rfl rfl ((ha _).mono ?_)
          rintro _ _ ⟨rfl, rfl⟩
          refine run_ok 4000 _ _ _ _ ?_
          simp (maxSteps := 10000000) only [go_sem, k1, k2, k3, eo, u0, u1, u2, u3, u4, i1, i2, w1, g0, g1, g2, g3, g4, g5, g6, f0, f1, f2, f3, f4, f5, f6, q0, q1, q2, q3, q4, arows_len, Int.natCast_nonneg, List.append_assoc, List.cons_append, List.nil_append]
          refine sem_call rfl rfl (((hr).embed [] rfl trivial rfl rfl rfl (by simp)).mono ?_)
          rintro _ _ ⟨_, _, ⟨rfl, rfl⟩, rfl, rfl⟩
          refine run_ok 4000 _ _ _ _ ?_
          simp (maxSteps := 10000000) only [go_sem, k1, k2, k3, eo, u0, u1, u2, u3, u4, i1, i2, w1, g0, g1, g2, g3, g4, g5, g6, f0, f1, f2, f3, f4, f5, f6, q0, q1, q2, q3, q4, arows_len, Int.natCast_nonneg, List.append_assoc, List.cons_append, List.nil_append]
          refine sem_end hX S ep (odl O pl) F (kOpen S pl Open) (kL S (kOpen S pl Open) L) ⟨hx.hS, (hx1 hx).he, hvi.keep pl, hvf2, by have := kL_len S (kOpen S pl Open) L; simp only; omega⟩ _ ?_
          simp only [endS, go_sem]
        have k3 : (kd == 3) = false := by simpa using k3
        by_cases k4 : kd = 4
        · have k4 : (kd == 4) = true := by simpa using k4
          have hfew : Tri Tryd.prog 15 [.vsl 3 [[.int .i64 ck, .int .i64 cp, .vsl 1 (iv .i64 vs) false]] true] [] (fun v m => v = .vsl 3 (crows (fewC [(ck, cp, vs)])) false ∧ m = []) := few_spec [(ck, cp, vs)] true
          have hfl := fewC_len [(ck, cp, vs)]
          have hfv := fewC_v [(ck, cp, vs)]
          generalize fewC [(ck, cp, vs)] = l at *
          have hro := bFront (bros_spec S ep O F hok) hok hok rfl rfl rfl
          have hw := rwith_spec S hxS ep (by omega) l false (by omega) (fun c hc => by have := hfv c hc; omega)
          have htold := told_spec l false (by omega)
          have hrw := rrwith_spec S ep (by omega) l false (by omega) (fun c hc => by have := hfv c hc; omega)
          obtain ⟨S2, ep2, E, e1, e2, hS2, hep2⟩ := with_out S hxS ep l
          rw [e1] at hw
          rw [e2] at hrw
          have eE : (E != E) = false := by simp
          have hsub : (O.filter fun e => hasN S2 e.1).Sublist O := List.filter_sublist
          have hnO : (O.map (·.1)).Nodup := by rw [hvf.ks]; exact hvi.nd
          have h5 : (-5 : Int) ∉ Open := fun h => by have := hasN_rg (hvi.op _ h).1; omega
          have hmF : ∀ e ∈ O, hasN S2 e.1 = true → (mvF S2 (O.filter fun e => hasN S2 e.1) F)[e.2]? = some ((wv L e.1).filter fun p => hasN S2 p.1) := fun e he hs => by
            unfold mvF
            rw [List.getElem?_mapIdx, hvf.fw e he, Option.map_some, if_pos (List.mem_map.2 ⟨e, List.mem_filter.2 ⟨he, hs⟩, rfl⟩)]; rfl
          have hvf2 := hvf.move (S' := S2) (F' := mvF S2 (O.filter fun e => hasN S2 e.1) F) (-5) h5 hmF
          have hlF := mvF_len S2 (O.filter fun e => hasN S2 e.1) F
          have hmv := bFront (bmove_spec S S2 hS2 ep ep2 O F hnO hvf.nd hok (fun e he V hV => by rw [hvf.fw e he] at hV; cases hV; exact wv_keys hvi _)) hok hvf2.okO hlF rfl rfl
          have hkp := rkeep_spec S2 ep2 (-5) Open (by omega) L (by omega)
          have hn1 : (bN S2 ep2 (O.filter fun e => hasN S2 e.1) (mvF S2 (O.filter fun e => hasN S2 e.1) F)).length = F.length + 1 + 1 := by rw [bN_len, hlF]
          have u0 := fr0 hn1
          have u1 := fr1 hn1
          have u2 := fr2 hn1
          have u3 := fr3 hn1
          have u4 := fr4 hn1
          skip
          refine run_ok 4000 _ _ _ _ ?_
          simp (maxSteps := 10000000) only [go_sem, u0, u1, u2, u3, u4, k1, k2, k3, k4, eE, i1, i2, w1, g0, g1, g2, g3, g4, g5, g6, f0, f1, f2, f3, f4, f5, f6, q0, q1, q2, q3, q4, arows_len, Int.natCast_nonneg, List.append_assoc, List.cons_append, List.nil_append]
          refine sem_call rfl rfl (((hfew).embed [] rfl trivial rfl rfl rfl (by simp)).mono ?_)
          rintro _ _ ⟨_, _, ⟨rfl, rfl⟩, rfl, rfl⟩
          refine run_ok 4000 _ _ _ _ ?_
          simp (maxSteps := 10000000) only [go_sem, u0, u1, u2, u3, u4, k1, k2, k3, k4, eE, i1, i2, w1, g0, g1, g2, g3, g4, g5, g6, f0, f1, f2, f3, f4, f5, f6, q0, q1, q2, q3, q4, arows_len, Int.natCast_nonneg, List.append_assoc, List.cons_append, List.nil_append]
          refine sem_call rfl rfl ((hro _).mono ?_)
          rintro _ _ ⟨rfl, rfl⟩
          refine run_ok 4000 _ _ _ _ ?_
          simp (maxSteps := 10000000) only [go_sem, u0, u1, u2, u3, u4, k1, k2, k3, k4, eE, i1, i2, w1, g0, g1, g2, g3, g4, g5, g6, f0, f1, f2, f3, f4, f5, f6, q0, q1, q2, q3, q4, arows_len, Int.natCast_nonneg, List.append_assoc, List.cons_append, List.nil_append]
          refine sem_call rfl rfl (((hw).embed [] rfl trivial rfl rfl rfl (by simp)).mono ?_)
          rintro _ _ ⟨_, _, ⟨rfl, rfl⟩, rfl, rfl⟩
          refine run_ok 4000 _ _ _ _ ?_
          simp (maxSteps := 10000000) only [go_sem, u0, u1, u2, u3, u4, k1, k2, k3, k4, eE, i1, i2, w1, g0, g1, g2, g3, g4, g5, g6, f0, f1, f2, f3, f4, f5, f6, q0, q1, q2, q3, q4, arows_len, Int.natCast_nonneg, List.append_assoc, List.cons_append, List.nil_append]
          refine sem_drawT lt3_0_ok (by kernel_rfl) ?_
          intro KK hKK
          simp (maxSteps := 10000000) only [go_sem, lt3_0, u0, u1, u2, u3, u4, k1, k2, k3, k4, eE, i1, i2, w1, g0, g1, g2, g3, g4, g5, g6, f0, f1, f2, f3, f4, f5, f6, q0, q1, q2, q3, q4, arows_len, Int.natCast_nonneg, List.append_assoc, List.cons_append, List.nil_append]
          refine ⟨?_, ?_⟩
          · refine TriZT.of (((htold).embed [] rfl (by repeat' first | exact trivial | rfl | (simp only [go_sem]; done) | constructor) rfl (by first | rfl | simp only [go_sem]) rfl (by simp)).mono ?_)
            rintro _ _ ⟨_, _, ⟨rfl, rfl⟩, rfl, rfl⟩
            simp (maxSteps := 10000000) only [go_sem, u0, u1, u2, u3, u4, k1, k2, k3, k4, eE, i1, i2, w1, g0, g1, g2, g3, g4, g5, g6, f0, f1, f2, f3, f4, f5, f6, q0, q1, q2, q3, q4, arows_len, Int.natCast_nonneg, List.append_assoc, List.cons_append, List.nil_append]
            refine ⟨?_, ?_⟩
            · refine TriZT.of (((hrw).embed [] rfl (by repeat' first | exact trivial | rfl | (simp only [go_sem]; done) | constructor) rfl (by first | rfl | simp only [go_sem]) rfl (by simp)).mono ?_)
              rintro _ _ ⟨_, _, ⟨rfl, rfl⟩, rfl, rfl⟩
              simp (maxSteps := 10000000) only [go_sem, u0, u1, u2, u3, u4, k1, k2, k3, k4, eE, i1, i2, w1, g0, g1, g2, g3, g4, g5, g6, f0, f1, f2, f3, f4, f5, f6, q0, q1, q2, q3, q4, arows_len, Int.natCast_nonneg, List.append_assoc, List.cons_append, List.nil_append]
              subst hKK
              simp (maxSteps := 10000000) only [go_sem, u0, u1, u2, u3, u4, k1, k2, k3, k4, eE, i1, i2, w1, g0, g1, g2, g3, g4, g5, g6, f0, f1, f2, f3, f4, f5, f6, q0, q1, q2, q3, q4, arows_len, Int.natCast_nonneg, List.append_assoc, List.cons_append, List.nil_append]
              refine sem_call rfl rfl ((hmv _).mono ?_)
              rintro _ _ ⟨rfl, rfl⟩
              refine run_ok 4000 _ _ _ _ ?_
              simp (maxSteps := 10000000) only [go_sem, u0, u1, u2, u3, u4, k1, k2, k3, k4, eE, i1, i2, w1, g0, g1, g2, g3, g4, g5, g6, f0, f1, f2, f3, f4, f5, f6, q0, q1, q2, q3, q4, arows_len, Int.natCast_nonneg, List.append_assoc, List.cons_append, List.nil_append]
              refine sem_call rfl rfl (((hkp).embed [] rfl trivial rfl rfl rfl (by simp)).mono ?_)
              rintro _ _ ⟨_, _, ⟨rfl, rfl⟩, rfl, rfl⟩
              refine run_ok 4000 _ _ _ _ ?_
              simp (maxSteps := 10000000) only [go_sem, u0, u1, u2, u3, u4, k1, k2, k3, k4, eE, i1, i2, w1, g0, g1, g2, g3, g4, g5, g6, f0, f1, f2, f3, f4, f5, f6, q0, q1, q2, q3, q4, arows_len, Int.natCast_nonneg, List.append_assoc, List.cons_append, List.nil_append]
              refine sem_end hX S2 ep2 (O.filter fun e => hasN S2 e.1) (mvF S2 (O.filter fun e => hasN S2 e.1) F) (kOpen S2 (-5) Open) (kL S2 (kOpen S2 (-5) Open) L) ⟨hS2, by simp only; omega, hvi.keep (-5), hvf2, by have := kL_len S2 (kOpen S2 (-5) Open) L; simp only; omega⟩ _ ?_
              simp only [endS, go_sem, hlF]
            · refine TriZT.of (((hrw).embed [] rfl (by repeat' first | exact trivial | rfl | (simp only [go_sem]; done) | constructor) rfl (by first | rfl | simp only [go_sem]) rfl (by simp)).mono ?_)
              rintro _ _ ⟨_, _, ⟨rfl, rfl⟩, rfl, rfl⟩
              simp (maxSteps := 10000000) only [go_sem, u0, u1, u2, u3, u4, k1, k2, k3, k4, eE, i1, i2, w1, g0, g1, g2, g3, g4, g5, g6, f0, f1, f2, f3, f4, f5, f6, q0, q1, q2, q3, q4, arows_len, Int.natCast_nonneg, List.append_assoc, List.cons_append, List.nil_append]
              subst hKK
              simp (maxSteps := 10000000) only [go_sem, u0, u1, u2, u3, u4, k1, k2, k3, k4, eE, i1, i2, w1, g0, g1, g2, g3, g4, g5, g6, f0, f1, f2, f3, f4, f5, f6, q0, q1, q2, q3, q4, arows_len, Int.natCast_nonneg, List.append_assoc, List.cons_append, List.nil_append]
              refine sem_call rfl rfl ((hmv _).mono ?_)
              rintro _ _ ⟨rfl, rfl⟩
              refine run_ok 4000 _ _ _ _ ?_
              simp (maxSteps := 10000000) only [go_sem, u0, u1, u2, u3, u4, k1, k2, k3, k4, eE, i1, i2, w1, g0, g1, g2, g3, g4, g5, g6, f0, f1, f2, f3, f4, f5, f6, q0, q1, q2, q3, q4, arows_len, Int.natCast_nonneg, List.append_assoc, List.cons_append, List.nil_append]
              refine sem_call rfl rfl (((hkp).embed [] rfl trivial rfl rfl rfl (by simp)).mono ?_)
              rintro _ _ ⟨_, _, ⟨rfl, rfl⟩, rfl, rfl⟩
              refine run_ok 4000 _ _ _ _ ?_
              simp (maxSteps := 10000000) only [go_sem, u0, u1, u2, u3, u4, k1, k2, k3, k4, eE, i1, i2, w1, g0, g1, g2, g3, g4, g5, g6, f0, f1, f2, f3, f4, f5, f6, q0, q1, q2, q3, q4, arows_len, Int.natCast_nonneg, List.append_assoc, List.cons_append, List.nil_append]
              refine sem_end hX S2 ep2 (O.filter fun e => hasN S2 e.1) (mvF S2 (O.filter fun e => hasN S2 e.1) F) (kOpen S2 (-5) Open) (kL S2 (kOpen S2 (-5) Open) L) ⟨hS2, by simp only; omega, hvi.keep (-5), hvf2, by have := kL_len S2 (kOpen S2 (-5) Open) L; simp only; omega⟩ _ ?_
              simp only [endS, go_sem, hlF]
          · refine TriZT.of (((htold).embed [] rfl (by repeat' first | exact trivial | rfl | (simp only [go_sem]; done) | constructor) rfl (by first | rfl | simp only [go_sem]) rfl (by simp)).mono ?_)
            rintro _ _ ⟨_, _, ⟨rfl, rfl⟩, rfl, rfl⟩
            simp (maxSteps := 10000000) only [go_sem, u0, u1, u2, u3, u4, k1, k2, k3, k4, eE, i1, i2, w1, g0, g1, g2, g3, g4, g5, g6, f0, f1, f2, f3, f4, f5, f6, q0, q1, q2, q3, q4, arows_len, Int.natCast_nonneg, List.append_assoc, List.cons_append, List.nil_append]
            refine TriZT.of (((hrw).embed [] rfl (by repeat' first | exact trivial | rfl | (simp only [go_sem]; done) | constructor) rfl (by first | rfl | simp only [go_sem]) rfl (by simp)).mono ?_)
            rintro _ _ ⟨_, _, ⟨rfl, rfl⟩, rfl, rfl⟩
            simp (maxSteps := 10000000) only [go_sem, u0, u1, u2, u3, u4, k1, k2, k3, k4, eE, i1, i2, w1, g0, g1, g2, g3, g4, g5, g6, f0, f1, f2, f3, f4, f5, f6, q0, q1, q2, q3, q4, arows_len, Int.natCast_nonneg, List.append_assoc, List.cons_append, List.nil_append]
            subst hKK
            simp (maxSteps := 10000000) only [go_sem, u0, u1, u2, u3, u4, k1, k2, k3, k4, eE, i1, i2, w1, g0, g1, g2, g3, g4, g5, g6, f0, f1, f2, f3, f4, f5, f6, q0, q1, q2, q3, q4, arows_len, Int.natCast_nonneg, List.append_assoc, List.cons_append, List.nil_append]
            refine sem_call rfl rfl ((hmv _).mono ?_)
            rintro _ _ ⟨rfl, rfl⟩
            refine run_ok 4000 _ _ _ _ ?_
            simp (maxSteps := 10000000) only [go_sem, u0, u1, u2, u3, u4, k1, k2, k3, k4, eE, i1, i2, w1, g0, g1, g2, g3, g4, g5, g6, f0, f1, f2, f3, f4, f5, f6, q0, q1, q2, q3, q4, arows_len, Int.natCast_nonneg, List.append_assoc, List.cons_append, List.nil_append]
            refine sem_call rfl rfl (((hkp).embed [] rfl trivial rfl rfl rfl (by simp)).mono ?_)
            rintro _ _ ⟨_, _, ⟨rfl, rfl⟩, rfl, rfl⟩
            refine run_ok 4000 _ _ _ _ ?_
            simp (maxSteps := 10000000) only [go_sem, u0, u1, u2, u3, u4, k1, k2, k3, k4, eE, i1, i2, w1, g0, g1, g2, g3, g4, g5, g6, f0, f1, f2, f3, f4, f5, f6, q0, q1, q2, q3, q4, arows_len, Int.natCast_nonneg, List.append_assoc, List.cons_append, List.nil_append]
            refine sem_end hX S2 ep2 (O.filter fun e => hasN S2 e.1) (mvF S2 (O.filter fun e => hasN S2 e.1) F) (kOpen S2 (-5) Open) (kL S2 (kOpen S2 (-5) Open) L) ⟨hS2, by simp only; omega, hvi.keep (-5), hvf2, by have := kL_len S2 (kOpen S2 (-5) Open) L; simp only; omega⟩ _ ?_
            simp only [endS, go_sem, hlF]
        have k4 : (kd == 4) = false := by simpa using k4
        skip
        refine run_ok 4000 _ _ _ _ ?_
        simp (maxSteps := 10000000) only [go_sem, k1, k2, k3, k4, i1, i2, w1, g0, g1, g2, g3, g4, g5, g6, f0, f1, f2, f3, f4, f5, f6, q0, q1, q2, q3, q4, arows_len, Int.natCast_nonneg, List.append_assoc, List.cons_append, List.nil_append]
        refine sem_end hX S ep O F Open L (hx1 hx) _ ?_
        simp only [endS, go_sem]
      · rintro ⟨S, ep, O, F, Open, L⟩ hy
        have hol := hy.op
        have hL := hy.hL
        simp only at hol hL
        have hIs := bFront (is19_spec S hy.hS ep hy.vi hy.vf (by simp only; omega) (by simp only; omega)) hy.vf.okO hy.vf.okO rfl rfl rfl [xBox (allN S 32) ep Open L]
        skip
        simp only [endS, pM]
        refine sem_call rfl rfl (hIs.mono ?_)
        rintro _ _ ⟨rfl, rfl⟩
        refine run_ok 4000 _ _ _ _ ?_
        simp (maxSteps := 10000000) only [go_sem, w1, Int.natCast_nonneg]
        refine ⟨(i + 1, S, ep, O, F, Open, L), by simp only; omega, ⟨c, c2, hy⟩, ?_, [], ?_⟩
        · simp only [go_sem]
        · simp only [pM, List.append_nil]
    · have i1 : (i : Int) < (acs.length : Int) := by omega
      have i2 : ¬ (i : Int) < 120 := by omega
      skip
      refine run_ok 4000 _ _ _ _ ?_
      simp (maxSteps := 10000000) only [go_sem, i1, i2, arows_len]
      refine run_ok 4000 _ _ _ _ ?_
      simp (maxSteps := 10000000) only [go_sem, i1, i2, arows_len]
      refine ⟨_, _, .sub [] ?_ .done, rfl, rfl⟩
      simp only [EmbV, go_sem]
  · have i1 : ¬ (i : Int) < (acs.length : Int) := by omega
    skip
    refine run_ok 4000 _ _ _ _ ?_
    simp (maxSteps := 10000000) only [go_sem, i1, arows_len]
    refine run_ok 4000 _ _ _ _ ?_
    simp (maxSteps := 10000000) only [go_sem, i1, arows_len]
    refine ⟨_, _, .sub [] ?_ .done, rfl, rfl⟩
    simp only [EmbV, go_sem]
theorem ints_of {ys : List (List AV)} (h : ∀ x ∈ ys, ∃ a r, x = a :: r ∧ (∃ n, a = AV.int .i64 n ∧ (Lit.int .i64 n).wf = true) ∧ r = []) : ∃ vs : List Int, ys = iv .i64 vs := by
  induction ys with
  | nil => exact ⟨[], rfl⟩
  | cons y ys ih =>
    obtain ⟨vs, rfl⟩ := ih fun z hz => h z (by simp [hz])
    obtain ⟨_, _, rfl, ⟨n, rfl, _⟩, rfl⟩ := h y (by simp)
    exact ⟨n :: vs, rfl⟩
theorem acts_of {xs : List (List AV)} (h : ∀ x ∈ xs, HasL [.int .i64, .int .i64, .int .i64, .bool, .int .i64, .int .i64, .sl [.int .i64]] x) : ∃ l : List Ac, xs = arows l := by
  induction xs with
  | nil => exact ⟨[], rfl⟩
  | cons x xs ih =>
    obtain ⟨l, rfl⟩ := ih fun y hy => h y (by simp [hy])
    have := h x (by simp)
    simp only [HasL, Has] at this
    obtain ⟨_, _, rfl, ⟨a, rfl, _⟩, _, _, rfl, ⟨b, rfl, _⟩, _, _, rfl, ⟨c, rfl, _⟩, _, _, rfl, ⟨d, rfl⟩, _, _, rfl, ⟨e, rfl, _⟩, _, _, rfl, ⟨f, rfl, _⟩, _, _, rfl, ⟨ys, rfl, _, hys⟩, rfl⟩ := this
    obtain ⟨vs, rfl⟩ := ints_of hys
    exact ⟨(a, b, c, d, e, f, vs) :: l, rfl⟩
theorem votePlays_spec (ps : List Int) (hps : ∀ x ∈ ps, (Lit.int .i64 x).wf = true) (acts : AV) (ha : Has (.sl [.int .i64, .int .i64, .int .i64, .bool, .int .i64, .int .i64, .sl [.int .i64]]) acts) :
    Tri Tryd.prog 3 [.vsl 1 (iv .i64 ps) false, acts] [] (fun v m => v = .bool true) := by
  simp only [Has] at ha
  obtain ⟨xs, rfl, _, hx⟩ := ha
  obtain ⟨l, rfl⟩ := acts_of hx
  exact (plays_core ps l).mono fun v m h => h.1
end Go.AEX
