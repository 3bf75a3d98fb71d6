/- TimF, TimH, TimI in one. -/
import Derived.Test.YtleggkkbdmnfkaaTimV
import Derived.Test.YtleggkkbdmnfkaaTimX
/- Timers: the document's answers. -/
namespace Go.AEX
open Go Go.AE Go.Proofs
set_option maxRecDepth 100000
set_option linter.unusedVariables false
set_option linter.unusedSimpArgs false

theorem rfind_spec (L : List TE) (n : Int) (tight : Bool) (hL : L.length ≤ 100000) : Tri Try.prog 16 [.vsl 4 (terows L) tight, .int .u32 n] [] (fun v m => v = .int .i64 (fdT L n) ∧ m = []) := by
  refine Tri.post ?_
  skip
  refine (Tri.enter (rl := r16) (code := c16) (by kernel_rfl) Try.func16 rfl c16_ok (by kernel_rfl) (by kernel_rfl) ?_)
  refine run_ok 4000 _ _ _ _ ?_
  simp (maxSteps := 10000000) only [go_sem, c16, r16, te_len]
  refine sem_rounds (fun i => i ≤ L.length ∧ ∀ j, (h : j < i) → ∀ h2 : j < L.length, (L[j].n == n) = false)
    (fun i => [(1, .int .u32 n), (7, .vsl 4 (terows L) tight), (8, .int .i64 L.length), (9, .int .i64 (i : Nat))])
    (fun i => []) (fun i => L.length - i) 0 [] ⟨by simp, by intro j h; omega⟩ ?_ ?_
  · simp only [Emb, go_sem]
  rintro i ⟨h1, h2⟩
  by_cases hlt : i < L.length
  · have hin : (i : Int) < (L.length : Int) := by omega
    have r0 := te_r0 hlt; have r1 := te_r1 hlt; have r2 := te_r2 hlt; have r3 := te_r3 hlt
    cases hb : (L[i].n == n) with
    | true =>
      have ha : L.any (fun e => e.n == n) = true := by rw [List.any_eq_true]; exact ⟨L[i], List.getElem_mem hlt, hb⟩
      have hf : L.findIdx (fun e => e.n == n) = i := by
        rw [List.findIdx_eq hlt]
        exact ⟨hb, fun j hj => h2 j hj (by omega)⟩
      have hix : fdT L n = (i : Int) := by unfold fdT idxH; rw [if_pos ha, hf]
      generalize L[i] = e at *
      skip
      refine run_ok 4000 _ _ _ _ ?_
      simp (maxSteps := 10000000) only [go_sem, te_h0 hlt, te_h1 hlt, te_h2 hlt, te_h3 hlt, r0, r1, r2, r3, hin, hb, Int.natCast_nonneg, te_len]
      refine ⟨_, _, .sub [] ?_ .done, rfl, rfl⟩
      simp only [EmbV, go_sem, hix]
    | false =>
      have hn : ∀ j, (h : j < i + 1) → ∀ h2 : j < L.length, (L[j].n == n) = false := fun j hj hj2 => by
        by_cases e : j = i
        · subst e; exact hb
        · exact h2 j (by omega) hj2
      generalize L[i] = e at *
      skip
      refine run_ok 4000 _ _ _ _ ?_
      simp (maxSteps := 10000000) only [go_sem, te_h0 hlt, te_h1 hlt, te_h2 hlt, te_h3 hlt, r0, r1, r2, r3, hin, hb, Int.natCast_nonneg, te_len, inc64 (show i < 1000000000000 by omega)]
      refine ⟨i + 1, by omega, ⟨by omega, hn⟩, [], ?_⟩
      simp only [Emb, go_sem]
  · have hge : ¬ (i : Int) < (L.length : Int) := by omega
    have ha : L.any (fun e => e.n == n) = false := by
      rw [List.any_eq_false]
      intro x hx
      obtain ⟨j, hj, rfl⟩ := List.getElem_of_mem hx
      rw [h2 j (by omega) hj]; simp
    have hix : fdT L n = -1 := by unfold fdT idxH; rw [ha]; rfl
    skip
    refine run_ok 4000 _ _ _ _ ?_
    simp (maxSteps := 10000000) only [go_sem, hge]
    refine run_ok 4000 _ _ _ _ ?_
    simp (maxSteps := 10000000) only [go_sem, hge]
    refine ⟨_, _, .sub [] ?_ .done, rfl, rfl⟩
    simp only [EmbV, go_sem, hix]
def out1 (n : Int) (L : List TE) : List TE := L.filter fun e => e.n != n
theorem out1_take {n : Int} {L : List TE} {k : Nat} (h : k < L.length) : out1 n (L.take (k + 1)) = if L[k].n = n then out1 n (L.take k) else out1 n (L.take k) ++ [L[k]] := by
  unfold out1
  rw [List.take_succ_eq_append_getElem h, List.filter_append]
  by_cases c : L[k].n = n
  · simp [c]
  · simp [c]
theorem rstop_spec (L : List TE) (n : Int) (tight : Bool) (hL : L.length ≤ 100000) : Tri Try.prog 17 [.vsl 4 (terows L) tight, .int .u32 n] [] (fun v m => v = .vsl 4 (terows (out1 n L)) false ∧ m = []) := by
  refine Tri.post ?_
  skip
  refine (Tri.enter (rl := r17) (code := c17) (by kernel_rfl) Try.func17 rfl c17_ok (by kernel_rfl) (by kernel_rfl) ?_)
  refine run_ok 4000 _ _ _ _ ?_
  simp (maxSteps := 10000000) only [go_sem, c17, r17, te_len]
  refine sem_virt 5 4 rfl ?_
  refine sem_rounds (fun i => i ≤ L.length)
    (fun i => [(1, .int .u32 n), (5, .sl 0 0 (out1 n (L.take i)).length (out1 n (L.take i)).length false), (9, .vsl 4 (terows L) tight), (10, .int .i64 L.length), (11, .int .i64 (i : Nat))])
    (fun i => [.row 4 (terows (out1 n (L.take i)))]) (fun i => L.length - i) 0 [0] (Nat.zero_le _) ?_ ?_
  · simp [Emb, go_sem, out1, terows]
  rintro i h1
  by_cases hlt : i < L.length
  · have hin : (i : Int) < (L.length : Int) := by omega
    have r0 := te_r0 hlt; have r1 := te_r1 hlt; have r2 := te_r2 hlt; have r3 := te_r3 hlt
    have hnx := out1_take (n := n) hlt
    have hle : (out1 n (L.take i)).length ≤ L.length := by
      have := List.length_filter_le (fun e : TE => e.n != n) (L.take i)
      rw [List.length_take] at this; unfold out1; omega
    have hall := te_all (out1 n (L.take i))
    by_cases c : L[i].n = n
    · rw [if_pos c] at hnx
      have hb : (L[i].n != n) = false := by simp [c]
      generalize L[i] = e at *
      skip
      refine run_ok 4000 _ _ _ _ ?_
      simp (maxSteps := 10000000) only [go_sem, te_h0 hlt, te_h1 hlt, te_h2 hlt, te_h3 hlt, r0, r1, r2, r3, hin, hb, Int.natCast_nonneg, te_len, inc64 (show i < 1000000000000 by omega)]
      refine ⟨i + 1, by omega, hlt, [0], ?_⟩
      simp only [Emb, go_sem, hnx]
    · rw [if_neg c] at hnx
      have hb : (L[i].n != n) = true := by simp [c]
      generalize L[i] = e at *
      have hone : [[AV.int .u32 e.n, AV.int .i64 e.due, AV.int .i64 e.wait, AV.int .i64 e.times]] = terows [e] := rfl
      have hln : (out1 n (L.take (i + 1))).length = (out1 n (L.take i)).length + 1 := by rw [hnx]; simp
      skip
      refine run_ok 4000 _ _ _ _ ?_
      simp (maxSteps := 10000000) only [go_sem, te_h0 hlt, te_h1 hlt, te_h2 hlt, te_h3 hlt, r0, r1, r2, r3, hin, hb, hall, Int.natCast_nonneg, te_len, inc64 (show i < 1000000000000 by omega)]
      rw [hone, te_app, ← hnx]
      refine ⟨by unfold small; omega, i + 1, by omega, hlt, [2], ?_⟩
      simp only [Emb, go_sem, hln]
  · have hge : ¬ (i : Int) < (L.length : Int) := by omega
    have hi : i = L.length := by omega
    subst hi
    rw [List.take_length]
    have hall := te_all (out1 n L)
    skip
    refine run_ok 4000 _ _ _ _ ?_
    simp (maxSteps := 10000000) only [go_sem, hge]
    refine run_ok 4000 _ _ _ _ ?_
    simp (maxSteps := 10000000) only [go_sem, hge]
    refine ⟨_, _, .fz 0 rfl (by simp only [go_sem, te_len, Nat.le_refl]) (.sub [] ?_ .done), rfl, rfl⟩
    simp only [EmbV, go_sem, hall]
def nextF (d : Int) (L : List TE) : Int := L.foldl (fun m e => min m e.due) d
theorem nextF_least : ∀ (L : List TE) (e : TE), nextF e.due L = (leastT e L).due
  | [], e => rfl
  | x :: L, e => by
    show nextF (min e.due x.due) L = (leastT (if x.due < e.due then x else e) L).due
    by_cases c : x.due < e.due
    · rw [if_pos c, show min e.due x.due = x.due by omega]; exact nextF_least L x
    · rw [if_neg c, show min e.due x.due = e.due by omega]; exact nextF_least L e
theorem nextF_take {d : Int} {L : List TE} {k : Nat} (h : k < L.length) : nextF d (L.take (k + 1)) = min (nextF d (L.take k)) L[k].due := by
  unfold nextF
  rw [List.take_succ_eq_append_getElem h, List.foldl_append]; rfl
theorem rnext_spec (e0 : TE) (L : List TE) (tight : Bool) (hL : L.length ≤ 100000) : Tri Try.prog 19 [.vsl 4 (terows (e0 :: L)) tight] [] (fun v m => v = .int .i64 (nextT (e0 :: L)) ∧ m = []) := by
  refine Tri.post ?_
  have hl0 : 0 < (e0 :: L).length := by simp
  have hln : (e0 :: L).length = L.length + 1 := by simp
  have r1 := te_r1 hl0
  have hpl : (0 : Int) < ((L.length + 1 : Nat) : Int) := by omega
  simp only [List.getElem_cons_zero] at r1
  have h0 : nextF e0.due (e0 :: L) = nextT (e0 :: L) := by
    show nextF (min e0.due e0.due) L = _
    rw [show min e0.due e0.due = e0.due by omega]
    exact nextF_least L e0
  rw [← h0]
  generalize hM : e0 :: L = M at *
  skip
  refine (Tri.enter (rl := r19) (code := c19) (by kernel_rfl) Try.func19 rfl c19_ok (by kernel_rfl) (by kernel_rfl) ?_)
  refine run_ok 4000 _ _ _ _ ?_
  simp (maxSteps := 10000000) only [go_sem, c19, r19, hpl, r1, te_h1 hl0, te_len, hln]
  refine sem_rounds (fun i => i ≤ M.length)
    (fun i => [(3, .int .i64 (nextF e0.due (M.take i))), (10, .vsl 4 (terows M) tight), (11, .int .i64 (L.length + 1 : Nat)), (12, .int .i64 (i : Nat))])
    (fun i => []) (fun i => M.length - i) 0 [] (Nat.zero_le _) ?_ ?_
  · simp [Emb, go_sem, nextF]
  rintro i h1
  by_cases hlt : i < M.length
  · have hin : (i : Int) < ((L.length + 1 : Nat) : Int) := by omega
    have r0 := te_r0 hlt; have r1 := te_r1 hlt; have r2 := te_r2 hlt; have r3 := te_r3 hlt
    have hnx := nextF_take (d := e0.due) hlt
    generalize M[i] = e at *
    have hmn : (if e.due < nextF e0.due (M.take i) then e.due else nextF e0.due (M.take i)) = nextF e0.due (M.take (i + 1)) := by rw [hnx]; omega
    generalize hY : nextF e0.due (M.take (i + 1)) = Y at *
    generalize nextF e0.due (M.take i) = X at *
    skip
    refine run_ok 4000 _ _ _ _ ?_
    simp (maxSteps := 10000000) only [go_sem, te_h0 hlt, te_h1 hlt, te_h2 hlt, te_h3 hlt, r0, r1, r2, r3, hin, hmn, Int.natCast_nonneg, te_len, hln, inc64 (show i < 1000000000000 by omega)]
    refine ⟨i + 1, by omega, by omega, [], ?_⟩
    simp only [Emb, go_sem, hY]
  · have hge : ¬ (i : Int) < ((L.length + 1 : Nat) : Int) := by omega
    have hi : i = M.length := by omega
    subst hi
    rw [List.take_length]
    skip
    refine run_ok 4000 _ _ _ _ ?_
    simp (maxSteps := 10000000) only [go_sem, hge]
    refine run_ok 4000 _ _ _ _ ?_
    simp (maxSteps := 10000000) only [go_sem, hge]
    refine ⟨_, _, .sub [] ?_ .done, rfl, rfl⟩
    simp only [EmbV, go_sem]
end Go.AEX

/- Timers: who is due, chosen one by one, in plain words. -/
namespace Go.AEX
open Go Go.AE Go.Proofs
set_option maxRecDepth 100000
set_option linter.unusedVariables false
set_option linter.unusedSimpArgs false

theorem stab_tags {T W : List TG} (ht : TgI T) (hp : W.Perm T) (hr : W.Pairwise R) : mTE W = stab (mTE T) := by
  obtain ⟨W', p', r'⟩ := srt_ex (mTE T).zipIdx (TgI.DR (zip_tags (mTE T)))
  rw [← stab_of p' r']
  have hm : ∀ x ∈ W', ∃ h : x.2 < T.length, x.1 = T[x.2].1 := by
    intro x hx
    have := List.mem_zipIdx (p'.subset hx)
    obtain ⟨_, g1, g2⟩ := this
    rw [mTE_len] at g1
    refine ⟨by omega, ?_⟩
    rw [g2]; simp [mTE]
  have e : W = W'.map fun x : TG => (x.1, ((T[x.2]?).map (·.2)).getD 0) := by
    refine R_unique (hp.trans ?_) hr ?_
    · have h2 := p'.map (fun x : TG => ((x.1, ((T[x.2]?).map (·.2)).getD 0) : TG))
      refine List.Perm.symm (h2.trans (List.Perm.of_eq ?_))
      apply List.ext_getElem
      · simp [mTE]
      · intro j h3 h4
        simp [mTE, h4]
    · rw [List.pairwise_map]
      refine List.Pairwise.imp_of_mem ?_ r'
      intro x y hx hy hR
      obtain ⟨h1, h2⟩ := hm x hx
      obtain ⟨h3, h4⟩ := hm y hy
      unfold R at hR ⊢
      simp only [List.getElem?_eq_getElem h1, List.getElem?_eq_getElem h3, Option.map_some, Option.getD_some]
      rcases hR with h | ⟨h, h5⟩
      · exact .inl h
      · exact .inr ⟨h, List.pairwise_iff_getElem.1 ht x.2 y.2 h1 h3 h5⟩
  rw [e]
  simp [mTE]
abbrev z0 : TE := ⟨0, 0, 0, 0⟩
def pr (l : List TE) (i : Nat) : TG := (l.getD i z0, i)
def upd (m now : Int) (e : TE) : TE := ⟨e.n, now + min (2 * e.wait) m, min (2 * e.wait) m, e.times + 1⟩
structure DuI (m now : Int) (l : List TE) (I : List Nat) (O : List TE) : Prop where
  len : O.length = l.length
  nd : I.Nodup
  inn : ∀ i ∈ I, i < l.length
  isin : ∀ i, i ∈ I → O.getD i z0 = upd m now (l.getD i z0)
  isout : ∀ i, i ∉ I → O.getD i z0 = l.getD i z0
  due : ∀ i ∈ I, (l.getD i z0).due ≤ now
  srt : (I.map (pr l)).Pairwise R
  lt : ∀ i ∈ I, ∀ j, j < l.length → j ∉ I → (l.getD j z0).due ≤ now → R (pr l i) (pr l j)
def BsI (O : List TE) (now : Int) (j : Nat) : Option Nat → Prop
  | none => ∀ i, i < j → ¬ (O.getD i z0).due ≤ now
  | some b => b < j ∧ (O.getD b z0).due ≤ now ∧ ∀ i, i < j → (O.getD i z0).due ≤ now → (O.getD b z0).due ≤ (O.getD i z0).due ∧ (i < b → (O.getD b z0).due < (O.getD i z0).due)
def bsN : Option Nat → Int
  | none => -1
  | some b => b
theorem DuI.begin (m now : Int) (l : List TE) : DuI m now l [] l := ⟨rfl, by simp, by simp, by simp, by simp, by simp, by simp, by simp⟩
theorem DuI.len_le {m now : Int} {l : List TE} {I : List Nat} {O : List TE} (h : DuI m now l I O) : I.length ≤ l.length := by
  have hp : I.Perm ((List.range l.length).filter fun i => decide (i ∈ I)) := by
    rw [List.perm_ext_iff_of_nodup h.nd (List.Pairwise.filter _ List.nodup_range)]
    intro i
    simp only [List.mem_filter, List.mem_range, decide_eq_true_iff]
    exact ⟨fun hi => ⟨h.inn i hi, hi⟩, fun hi => hi.2⟩
  have := hp.length_eq
  have h2 := List.length_filter_le (fun i => decide (i ∈ I)) (List.range l.length)
  rw [List.length_range] at h2
  omega
theorem DuI.full {m now : Int} {l : List TE} {I : List Nat} {O : List TE} (h : DuI m now l I O) (he : I.length = l.length) : ∀ i, i < l.length → i ∈ I := by
  have hp : I.Perm ((List.range l.length).filter fun i => decide (i ∈ I)) := by
    rw [List.perm_ext_iff_of_nodup h.nd (List.Pairwise.filter _ List.nodup_range)]
    intro i
    simp only [List.mem_filter, List.mem_range, decide_eq_true_iff]
    exact ⟨fun hi => ⟨h.inn i hi, hi⟩, fun hi => hi.2⟩
  have h2 := hp.length_eq
  have h3 : ((List.range l.length).filter fun i => decide (i ∈ I)).length = (List.range l.length).length := by rw [← h2, he, List.length_range]
  rw [List.length_filter_eq_length_iff] at h3
  intro i hi
  simpa using h3 i (by simpa using hi)
theorem DuI.out {m now : Int} {l : List TE} {I : List Nat} {O : List TE} (h : DuI m now l I O) (hm : 1 ≤ m) (hw : ∀ e ∈ l, 1 ≤ e.wait) {i : Nat} (hi : i < l.length) (hd : (O.getD i z0).due ≤ now) : i ∉ I ∧ O.getD i z0 = l.getD i z0 := by
  by_cases c : i ∈ I
  · have := h.isin i c
    rw [this] at hd
    have hw1 := hw (l.getD i z0) (by simp [List.getD_eq_getElem?_getD, hi])
    unfold upd at hd
    simp only at hd
    omega
  · exact ⟨c, h.isout i c⟩
theorem DuI.next {m now : Int} {l : List TE} {I : List Nat} {O : List TE} (h : DuI m now l I O) (hm : 1 ≤ m) (hw : ∀ e ∈ l, 1 ≤ e.wait) {b : Nat} (hb : BsI O now l.length (some b)) : DuI m now l (I ++ [b]) (O.set b (upd m now (l.getD b z0))) := by
  obtain ⟨h1, h2, h3⟩ := hb
  obtain ⟨h4, h5⟩ := h.out hm hw h1 h2
  have hlb : b < O.length := by rw [h.len]; exact h1
  have hset : ∀ i, (O.set b (upd m now (l.getD b z0))).getD i z0 = if i = b then upd m now (l.getD b z0) else O.getD i z0 := by
    intro i
    rw [List.getD_eq_getElem?_getD, List.getElem?_set, List.getD_eq_getElem?_getD]
    by_cases e : i = b
    · subst e; simp [hlb]
    · have : ¬ b = i := fun h => e h.symm
      simp [e, this]
  have hRb : ∀ j, j < l.length → j ∉ I → j ≠ b → (l.getD j z0).due ≤ now → R (pr l b) (pr l j) := by
    intro j hj hjI hjb hjd
    have hO := h.isout j hjI
    have := h3 j hj (by rw [hO]; exact hjd)
    rw [hO, h5] at this
    unfold R pr
    simp only
    by_cases e : j < b
    · have := this.2 e; omega
    · omega
  refine ⟨by rw [List.length_set]; exact h.len, ?_, ?_, ?_, ?_, ?_, ?_, ?_⟩
  · rw [List.nodup_append]
    refine ⟨h.nd, by simp, fun a ha c hc => ?_⟩
    simp at hc
    subst hc
    exact fun e => h4 (e ▸ ha)
  · intro i hi
    rcases List.mem_append.1 hi with hi | hi
    · exact h.inn i hi
    · simp at hi; omega
  · intro i hi
    rw [hset]
    by_cases e : i = b
    · subst e; simp
    · rw [if_neg e]
      rcases List.mem_append.1 hi with hi | hi
      · exact h.isin i hi
      · simp at hi; exact absurd hi e
  · intro i hi
    rw [hset]
    have : i ∉ I ∧ i ≠ b := by simpa using hi
    rw [if_neg this.2]
    exact h.isout i this.1
  · intro i hi
    rcases List.mem_append.1 hi with hi | hi
    · exact h.due i hi
    · simp at hi; subst hi; rw [← h5]; exact h2
  · rw [List.map_append, List.pairwise_append]
    refine ⟨h.srt, by simp, ?_⟩
    intro x hx y hy
    obtain ⟨i, hi, rfl⟩ := List.mem_map.1 hx
    simp at hy
    subst hy
    exact h.lt i hi b h1 h4 (by rw [← h5]; exact h2)
  · intro i hi j hj hjI hjd
    have hj2 : j ∉ I ∧ j ≠ b := by simpa using hjI
    rcases List.mem_append.1 hi with hi | hi
    · exact h.lt i hi j hj hj2.1 hjd
    · simp at hi; subst hi; exact hRb j hj hj2.1 hj2.2 hjd
/-- None is left. -/
theorem DuI.done {m now : Int} {l : List TE} {I : List Nat} {O : List TE} (h : DuI m now l I O) (hb : ∀ i, i < l.length → ¬ (O.getD i z0).due ≤ now) :
    O = l.map (updE m now) ∧ I.map (fun i => (l.getD i z0).n) = numsT (stab (dueL now l)) := by
  have hall : ∀ i, i < l.length → ((l.getD i z0).due ≤ now ↔ i ∈ I) := by
    intro i hi
    constructor
    · intro hd
      by_cases c : i ∈ I
      · exact c
      · exact absurd (by rw [h.isout i c]; exact hd) (hb i hi)
    · exact h.due i
  constructor
  · apply List.ext_getElem
    · rw [h.len]; simp
    · intro i h1 h2
      have hi : i < l.length := by simpa using h2
      have e1 : O[i] = O.getD i z0 := by simp [List.getD_eq_getElem?_getD, h1]
      have e2 : l[i] = l.getD i z0 := by simp [List.getD_eq_getElem?_getD, hi]
      rw [List.getElem_map, e1, e2]
      by_cases c : i ∈ I
      · rw [h.isin i c]; unfold updE; rw [if_pos ((hall i hi).2 c)]; rfl
      · rw [h.isout i c]; unfold updE; rw [if_neg (fun hd => c ((hall i hi).1 hd))]
  · have hT : TgI (l.zipIdx.filter fun p => decide (p.1.due ≤ now)) := (zip_tags l).filter _
    have hmT : mTE (l.zipIdx.filter fun p => decide (p.1.due ≤ now)) = dueL now l := by
      unfold mTE dueL
      have e1 : l.filter (fun e => decide (e.due ≤ now)) = (l.zipIdx.map (·.1)).filter (fun e => decide (e.due ≤ now)) := by
        rw [show l.zipIdx.map (·.1) = l by simp]
      rw [e1, List.filter_map]; rfl
    have hp : (I.map (pr l)).Perm (l.zipIdx.filter fun p => decide (p.1.due ≤ now)) := by
      rw [List.perm_ext_iff_of_nodup]
      · intro x
        simp only [List.mem_map, List.mem_filter, decide_eq_true_iff]
        constructor
        · rintro ⟨i, hi, rfl⟩
          have hl := h.inn i hi
          refine ⟨?_, h.due i hi⟩
          show (l.getD i z0, i) ∈ l.zipIdx
          rw [List.mk_mem_zipIdx_iff_getElem?, List.getD_eq_getElem?_getD, List.getElem?_eq_getElem hl]
          rfl
        · rintro ⟨h1, h2⟩
          obtain ⟨e, i⟩ := x
          rw [List.mk_mem_zipIdx_iff_getElem?] at h1
          obtain ⟨hl, he⟩ := List.getElem?_eq_some_iff.1 h1
          have eg : l.getD i z0 = e := by simp [List.getD_eq_getElem?_getD, h1]
          exact ⟨i, (hall i hl).1 (by rw [eg]; exact h2), by unfold pr; rw [eg]⟩
      · rw [List.nodup_iff_pairwise_ne, List.pairwise_map]
        refine List.Pairwise.imp (fun h h2 => ?_) (List.nodup_iff_pairwise_ne.1 h.nd)
        exact h (congrArg Prod.snd h2)
      · refine List.Pairwise.imp (fun h h2 => ?_) hT
        rw [h2] at h; exact absurd h (Nat.lt_irrefl _)
    have := stab_tags hT hp h.srt
    rw [hmT] at this
    rw [← this]
    unfold numsT mTE
    simp [pr]
end Go.AEX

/- Timers: the document's Due. -/
namespace Go.AEX
open Go Go.AE Go.Proofs
set_option maxRecDepth 100000
set_option linter.unusedVariables false
set_option linter.unusedSimpArgs false

theorem getD_at {L : List TE} {i : Nat} (h : i < L.length) : L[i] = L.getD i z0 := by simp [List.getD_eq_getElem?_getD, h]
def nmI (l : List TE) (I : List Nat) : List Int := I.map fun i => (l.getD i z0).n
theorem bs_cases (b : Option Nat) : b = none ∨ ∃ k, b = some k := by cases b <;> simp
set_option maxHeartbeats 4000000 in
theorem rdue_spec (l : List TE) (m now : Int) (tight : Bool) (hl : l.length ≤ 10000) (hok : TmOk l) (hm : 1 ≤ m ∧ m ≤ 10000000) (hw : ∀ e ∈ l, 1 ≤ e.wait) (hnow : 0 ≤ now ∧ now ≤ 10000000) :
    Tri Try.prog 18 [.vsl 4 (terows l) tight, .int .i64 m, .int .i64 now] [] (fun v q => v = .tup [.vsl 4 (terows (l.map (updE m now))) false, .vsl 1 (uv (numsT (stab (dueL now l)))) false] ∧ q = []) := by
  refine Tri.post ?_
  have hall := te_all l
  skip
  refine (Tri.enter (rl := r18) (code := c18) (by kernel_rfl) Try.func18 rfl c18_ok (by kernel_rfl) (by kernel_rfl) ?_)
  refine run_ok 4000 _ _ _ _ ?_
  simp (maxSteps := 10000000) only [go_sem, c18, r18, te_len, hall]
  refine ⟨by unfold small; omega, ?_⟩
  refine sem_virt 9 1 rfl ?_
  refine sem_rounds (fun q : List Nat × List TE => DuI m now l q.1 q.2)
    (fun q => [(0, .vsl 4 (terows l) tight), (1, .int .i64 m), (2, .int .i64 now), (8, .sl 0 0 l.length l.length false), (9, .sl 1 0 q.1.length q.1.length false), (10, .int .i64 (q.1.length : Nat))])
    (fun q => [.row 4 (terows q.2), .row 1 (uv (nmI l q.1))]) (fun q => l.length - q.1.length) ([], l) [0, 1] (DuI.begin m now l) ?_ ?_
  · simp [Emb, go_sem, nmI, iv]
  rintro ⟨I, O⟩ hD
  simp only at hD ⊢
  have hIl := hD.len_le
  have hOl := hD.len
  have hnl : (nmI l I).length = I.length := by simp [nmI]
  by_cases hlt : I.length < l.length
  · have hin : (I.length : Int) < (l.length : Int) := by omega
    skip
    refine run_ok 4000 _ _ _ _ ?_
    simp (maxSteps := 10000000) only [go_sem, hin, te_len]
    refine sem_rounds (fun q : Nat × Option Nat => q.1 ≤ l.length ∧ BsI O now q.1 q.2)
      (fun q => [(0, .vsl 4 (terows l) tight), (1, .int .i64 m), (2, .int .i64 now), (8, .sl 0 0 l.length l.length false), (9, .sl 1 0 I.length I.length false), (10, .int .i64 (I.length : Nat)), (11, .int .i64 (bsN q.2)), (26, .sl 0 0 l.length l.length false), (27, .int .i64 l.length), (28, .int .i64 (q.1 : Nat))])
      (fun q => [.row 4 (terows O), .row 1 (uv (nmI l I))]) (fun q => l.length - q.1) (0, none) [0, 1] ⟨Nat.zero_le _, fun i hi => by omega⟩ ?_ ?_
    · simp [Emb, go_sem, bsN]
    rintro ⟨i, best⟩ ⟨g1, g2⟩
    simp only at g1 g2 ⊢
    by_cases hil : i < l.length
    · have hii : (i : Int) < (l.length : Int) := by omega
      have hiO : i < O.length := by omega
      have r0 := te_r0 hiO; have r1 := te_r1 hiO; have r2 := te_r2 hiO; have r3 := te_r3 hiO
      have s3 := te_r3 hil
      have eO := getD_at hiO
      have eL := getD_at hil
      by_cases c : O[i].due ≤ now
      · obtain ⟨h1, h2⟩ := hD.out hm.1 hw hil (by rw [← eO]; exact c)
        have htm : (O[i].times == l[i].times) = true := by rw [eO, eL, h2]; simp
        rcases bs_cases best with rfl | ⟨b, rfl⟩
        · have hnx : BsI O now (i + 1) (some i) := by
            refine ⟨by omega, by rw [← eO]; exact c, fun j hj hjd => ?_⟩
            by_cases e : j = i
            · subst e; omega
            · exact absurd hjd (g2 j (by omega))
          have hb0 : bsN none < 0 := by decide
          have hbv : bsN (some i) = (i : Int) := rfl
          generalize O[i] = X at *
          generalize l[i] = Y at *
          skip
          refine run_ok 4000 _ _ _ _ ?_
          simp (maxSteps := 10000000) only [go_sem, hii, r0, r1, r2, r3, s3, te_h0 hiO, te_h1 hiO, te_h2 hiO, te_h3 hiO, te_h3 hil, c, htm, hb0, te_len, hOl, Int.natCast_nonneg, inc64 (show i < 1000000000000 by omega)]
          refine sem_drawG l18_0_ok (by kernel_rfl) ?_
          intro KK hKK
          simp (maxSteps := 10000000) only [go_sem, l18_0, hii, r0, r1, r2, r3, s3, te_h0 hiO, te_h1 hiO, te_h2 hiO, te_h3 hiO, te_h3 hil, c, htm, hb0, te_len, hOl, Int.natCast_nonneg, inc64 (show i < 1000000000000 by omega)]
          subst hKK
          simp (maxSteps := 10000000) only [go_sem, hii, r0, r1, r2, r3, s3, te_h0 hiO, te_h1 hiO, te_h2 hiO, te_h3 hiO, te_h3 hil, c, htm, hb0, te_len, hOl, Int.natCast_nonneg, inc64 (show i < 1000000000000 by omega)]
          refine ⟨(i + 1, some i), by simp only; omega, ⟨hil, hnx⟩, [0, 1], ?_⟩
          simp only [Emb, go_sem, hbv]
        · obtain ⟨k1, k2, k3⟩ := g2
          have hbO : b < O.length := by omega
          have t1 := te_r1 hbO
          have eB := getD_at hbO
          have hb0 : ¬ bsN (some b) < 0 := by show ¬ ((b : Nat) : Int) < 0; omega
          have hbv : ∀ k : Nat, bsN (some k) = (k : Int) := fun _ => rfl
          have hbl : (b : Int) < (l.length : Int) := by omega
          rw [hbv] at hb0 ⊢
          by_cases d : O[i].due < O[b].due
          · have hnx : BsI O now (i + 1) (some i) := by
              refine ⟨by omega, by rw [← eO]; exact c, fun j hj hjd => ?_⟩
              rw [← eO]
              by_cases e : j = i
              · subst e; rw [← eO]; omega
              · have := k3 j (by omega) hjd
                rw [← eB] at this
                omega
            generalize O[i] = X at *
            generalize l[i] = Y at *
            generalize O[b] = B at *
            skip
            refine run_ok 4000 _ _ _ _ ?_
            simp (maxSteps := 10000000) only [go_sem, hii, r0, r1, r2, r3, s3, t1, te_h0 hiO, te_h1 hiO, te_h2 hiO, te_h3 hiO, te_h1 hbO, te_h3 hil, c, d, htm, hb0, hbl, te_len, hOl, Int.natCast_nonneg, inc64 (show i < 1000000000000 by omega)]
            refine sem_drawG l18_0_ok (by kernel_rfl) ?_
            intro KK hKK
            simp (maxSteps := 10000000) only [go_sem, l18_0, hii, r0, r1, r2, r3, s3, t1, te_h0 hiO, te_h1 hiO, te_h2 hiO, te_h3 hiO, te_h1 hbO, te_h3 hil, c, d, htm, hb0, hbl, te_len, hOl, Int.natCast_nonneg, inc64 (show i < 1000000000000 by omega)]
            subst hKK
            simp (maxSteps := 10000000) only [go_sem, hii, r0, r1, r2, r3, s3, t1, te_h0 hiO, te_h1 hiO, te_h2 hiO, te_h3 hiO, te_h1 hbO, te_h3 hil, c, d, htm, hb0, hbl, te_len, hOl, Int.natCast_nonneg, inc64 (show i < 1000000000000 by omega)]
            refine ⟨(i + 1, some i), by simp only; omega, ⟨hil, hnx⟩, [0, 1], ?_⟩
            simp only [Emb, go_sem, hbv]
          · have hnx : BsI O now (i + 1) (some b) := by
              refine ⟨by omega, k2, fun j hj hjd => ?_⟩
              by_cases e : j = i
              · subst e; rw [← eO, ← eB]; omega
              · exact k3 j (by omega) hjd
            generalize O[i] = X at *
            generalize l[i] = Y at *
            generalize O[b] = B at *
            skip
            refine run_ok 4000 _ _ _ _ ?_
            simp (maxSteps := 10000000) only [go_sem, hii, r0, r1, r2, r3, s3, t1, te_h0 hiO, te_h1 hiO, te_h2 hiO, te_h3 hiO, te_h1 hbO, te_h3 hil, c, d, htm, hb0, hbl, te_len, hOl, Int.natCast_nonneg, inc64 (show i < 1000000000000 by omega)]
            refine sem_drawG l18_0_ok (by kernel_rfl) ?_
            intro KK hKK
            simp (maxSteps := 10000000) only [go_sem, l18_0, hii, r0, r1, r2, r3, s3, t1, te_h0 hiO, te_h1 hiO, te_h2 hiO, te_h3 hiO, te_h1 hbO, te_h3 hil, c, d, htm, hb0, hbl, te_len, hOl, Int.natCast_nonneg, inc64 (show i < 1000000000000 by omega)]
            subst hKK
            simp (maxSteps := 10000000) only [go_sem, hii, r0, r1, r2, r3, s3, t1, te_h0 hiO, te_h1 hiO, te_h2 hiO, te_h3 hiO, te_h1 hbO, te_h3 hil, c, d, htm, hb0, hbl, te_len, hOl, Int.natCast_nonneg, inc64 (show i < 1000000000000 by omega)]
            refine ⟨(i + 1, some b), by simp only; omega, ⟨hil, hnx⟩, [0, 1], ?_⟩
            simp only [Emb, go_sem, hbv]
      · have hnx : BsI O now (i + 1) best := by
          rcases bs_cases best with rfl | ⟨b, rfl⟩
          · intro j hj
            by_cases e : j = i
            · subst e; rw [← eO]; exact c
            · exact g2 j (by omega)
          · obtain ⟨k1, k2, k3⟩ := g2
            refine ⟨by omega, k2, fun j hj hjd => ?_⟩
            by_cases e : j = i
            · subst e; rw [← eO] at hjd; exact absurd hjd c
            · exact k3 j (by omega) hjd
        generalize O[i] = X at *
        generalize l[i] = Y at *
        skip
        refine run_ok 4000 _ _ _ _ ?_
        simp (maxSteps := 10000000) only [go_sem, hii, r0, r1, r2, r3, s3, te_h0 hiO, te_h1 hiO, te_h2 hiO, te_h3 hiO, te_h3 hil, c, te_len, hOl, Int.natCast_nonneg, inc64 (show i < 1000000000000 by omega)]
        refine sem_drawG l18_0_ok (by kernel_rfl) ?_
        intro KK hKK
        simp (maxSteps := 10000000) only [go_sem, l18_0, hii, r0, r1, r2, r3, s3, te_h0 hiO, te_h1 hiO, te_h2 hiO, te_h3 hiO, te_h3 hil, c, te_len, hOl, Int.natCast_nonneg, inc64 (show i < 1000000000000 by omega)]
        subst hKK
        simp (maxSteps := 10000000) only [go_sem, hii, r0, r1, r2, r3, s3, te_h0 hiO, te_h1 hiO, te_h2 hiO, te_h3 hiO, te_h3 hil, c, te_len, hOl, Int.natCast_nonneg, inc64 (show i < 1000000000000 by omega)]
        refine ⟨(i + 1, best), by simp only; omega, ⟨hil, hnx⟩, [0, 1], ?_⟩
        simp only [Emb, go_sem]
    have hge : ¬ (i : Int) < (l.length : Int) := by omega
    have hi : i = l.length := by omega
    subst hi
    rcases bs_cases best with rfl | ⟨b, rfl⟩
    · have hb0 : bsN none < 0 := by decide
      obtain ⟨e1, e2⟩ := hD.done g2
      have e2 : nmI l I = numsT (stab (dueL now l)) := e2
      have hO2 := te_all O
      have hN2 : sub (uv (nmI l I)) 0 I.length = uv (nmI l I) := by rw [← hnl]; exact uv_all _
      rw [hOl] at hO2
      rw [← e1, ← e2]
      skip
      refine run_ok 4000 _ _ _ _ ?_
      simp (maxSteps := 10000000) only [go_sem, hge, hb0]
      refine run_ok 4000 _ _ _ _ ?_
      simp (maxSteps := 10000000) only [go_sem, hge, hb0]
      refine ⟨_, _, .fz 0 rfl (by simp only [go_sem, te_len, hOl, Nat.le_refl]) (.fz 1 rfl (by simp only [go_sem, iv_len, hnl, Nat.le_refl]) (.sub [] ?_ .done)), rfl, rfl⟩
      simp only [EmbV, go_sem, hO2, hN2]
    · have hb0 : ¬ bsN (some b) < 0 := by show ¬ ((b : Nat) : Int) < 0; omega
      have hbv : bsN (some b) = (b : Int) := rfl
      have hnx := hD.next hm.1 hw g2
      obtain ⟨k1, k2, k3⟩ := g2
      have hbO : b < O.length := by omega
      obtain ⟨h1, h2⟩ := hD.out hm.1 hw k1 k2
      have r0 := te_r0 hbO; have r1 := te_r1 hbO; have r2 := te_r2 hbO; have r3 := te_r3 hbO
      have eB := getD_at hbO
      rw [h2] at eB
      have hbl : (b : Int) < (l.length : Int) := by omega
      have hput := te_rput hbO (upd m now (l.getD b z0))
      have hmem : l.getD b z0 ∈ l := by simp [List.getD_eq_getElem?_getD, k1]
      obtain ⟨o1, o2, o3⟩ := hok _ hmem
      have hN2 : sub (uv (nmI l I)) 0 I.length = uv (nmI l I) := by rw [← hnl]; exact uv_all _
      have hnn : nmI l (I ++ [b]) = nmI l I ++ [(l.getD b z0).n] := by simp [nmI]
      have hIb : (I ++ [b]).length = I.length + 1 := by simp
      rw [hbv] at hb0 ⊢
      rw [eB] at r0 r1 r2 r3
      have hin2 := te_inR hbO
      generalize hO2 : O.set b (upd m now (l.getD b z0)) = O2 at *
      generalize l.getD b z0 = e at *
      have w1 : iwrap .i64 (2 * e.wait) = 2 * e.wait := iwrap_i64_in (by omega)
      have hmn : (if m < 2 * e.wait then m else 2 * e.wait) = min (2 * e.wait) m := by omega
      have w2 : iwrap .i64 (now + min (2 * e.wait) m) = now + min (2 * e.wait) m := iwrap_i64_in (by omega)
      have w3 : iwrap .i64 (e.times + 1) = e.times + 1 := iwrap_i64_in (by omega)
      have hone : [[AV.int .u32 e.n]] = uv [e.n] := rfl
      simp only [upd] at hput
      skip
      refine run_ok 4000 _ _ _ _ ?_
      simp (maxSteps := 10000000) only [go_sem, hge, hb0, hbl, r0, r1, r2, r3, te_h0 hbO, te_h1 hbO, te_h2 hbO, te_h3 hbO, w1, w2, w3, hmn, hput, hin2, hN2, te_len, hOl, iv_len, hnl, Int.natCast_nonneg, Nat.zero_add, inc64 (show I.length < 1000000000000 by omega)]
      refine run_ok 4000 _ _ _ _ ?_
      simp (maxSteps := 10000000) only [go_sem, hge, hb0, hbl, r0, r1, r2, r3, te_h0 hbO, te_h1 hbO, te_h2 hbO, te_h3 hbO, w1, w2, w3, hmn, hput, hin2, hN2, te_len, hOl, iv_len, hnl, Int.natCast_nonneg, Nat.zero_add, inc64 (show I.length < 1000000000000 by omega)]
      rw [hone, uv_app, ← hnn]
      refine ⟨by unfold small; omega, (I ++ [b], O2), by simp only [hIb]; omega, hnx, [0, 3], ?_⟩
      simp only [Emb, go_sem, hIb]
  · have hge : ¬ (I.length : Int) < (l.length : Int) := by omega
    have hfl := hD.full (by omega)
    obtain ⟨e1, e2⟩ := hD.done (fun i hi hd => (hD.out hm.1 hw hi hd).1 (hfl i hi))
    have e2 : nmI l I = numsT (stab (dueL now l)) := e2
    have hO2 := te_all O
    have hN2 : sub (uv (nmI l I)) 0 I.length = uv (nmI l I) := by rw [← hnl]; exact uv_all _
    rw [hOl] at hO2
    rw [← e1, ← e2]
    skip
    refine run_ok 4000 _ _ _ _ ?_
    simp (maxSteps := 10000000) only [go_sem, hge, te_len]
    refine run_ok 4000 _ _ _ _ ?_
    simp (maxSteps := 10000000) only [go_sem, hge, te_len]
    refine ⟨_, _, .fz 0 rfl (by simp only [go_sem, te_len, hOl, Nat.le_refl]) (.fz 1 rfl (by simp only [go_sem, iv_len, hnl, Nat.le_refl]) (.sub [] ?_ .done)), rfl, rfl⟩
    simp only [EmbV, go_sem, hO2, hN2]
end Go.AEX
