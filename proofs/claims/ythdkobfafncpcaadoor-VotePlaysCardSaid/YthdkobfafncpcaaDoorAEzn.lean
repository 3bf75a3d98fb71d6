/- The abstract evaluator: AEzk, AEzl, AEzm, AEzn in one. -/
import Derived.Test.YthdkobfafncpcaaDoorAEzj
import Derived.Maps.RangeRun
/- The abstract evaluator, part zk: a row whose first elements nobody reads any more is told without them. -/
namespace Go.AE
open Go
set_option linter.unusedVariables false
set_option linter.unusedSimpArgs false

variable {P : Program} {n k0 : Nat}

mutual
def shV (b N k : Nat) : AV → AV
  | .sl b' i n c t => match Nat.beq b' b, Nat.ble k i with
    | true, true => .sl N (i - k) n c t
    | _, _ => .sl b' i n c t
  | .agg vs => .agg (shL b N k vs)
  | v => v
def shL (b N k : Nat) : List AV → List AV
  | [] => []
  | v :: vs => shV b N k v :: shL b N k vs
end
def shT (b N k : Nat) : Tr → Tr
  | .lf => .lf
  | .nd l v r => match v with
    | some v => .nd (shT b N k l) (some (shV b N k v)) (shT b N k r)
    | none => .nd (shT b N k l) none (shT b N k r)
def shB (b N k : Nat) : Blk → Blk
  | .box cs => .box (shL b N k cs)
  | l => l
def shM (b N k : Nat) : Mem → Mem
  | [] => []
  | l :: m => shB b N k l :: shM b N k m
attribute [go_sem] shT shM shB shV shL Nat.ble
end Go.AE

/- The abstract evaluator, part zl: nil slices that are known to be nil. -/
namespace Go.AE
open Go
set_option linter.unusedVariables false
set_option linter.unusedSimpArgs false

variable {P : Program} {n k0 : Nat}

theorem Like.nil0 : Like .nil0 .nilsl := fun _ _ _ h => by cases h; exact .nilsl
end Go.AE

/- The abstract evaluator, part zm: loops over maps. -/
namespace Go.AE
open Go
open Go.ChangeMaps (setBlock)
set_option linter.unusedVariables false
set_option linter.unusedSimpArgs false

variable {P : Program} {n k0 : Nat}

theorem Good.retell {A : Anch} {φ : Fz} {σ : Sg} {m : Mem} {w : World} {t : Tr} {a : Act} (hG : Good A n k0 φ σ m w t a) {b : Nat} {k0' l : Blk} (hb : m[b]? = some k0') (hk : k0'.owned = true)
    (h : BM φ σ w (σ b) l) : Good A n k0 φ σ (ms m b l) w t a := by
  have hI := hG.inv
  have bl : ∀ (c : Nat) (x : Blk), (ms m b l)[c]? = some x → ∃ l0, m[c]? = some l0 ∧ (x.owned = true → l0.owned = true) ∧ BM φ σ w (σ c) x := by
    intro c x hc
    rcases ms_get _ _ _ _ _ hc with ⟨e, e2⟩ | ⟨_, hc⟩
    · subst e; subst e2; exact ⟨_, hb, fun _ => hk, h⟩
    · exact ⟨x, hc, id, hI.blk c x hc⟩
  refine ⟨hG.fz, hG.sg, ⟨hI.lf, hI.fz, fun c x hc => ?_, fun c d x y i j hc hd hx hy hi hj hne => ?_, fun c x i hc hx hi => ?_, fun c hc => hI.fresh c (by rw [ms_len] at hc; exact hc)⟩, hG.tr, hG.sz, hG.df, hG.grow, hG.kept, fun c x i hc hx hi => ?_, by rw [ms_len]; exact hG.len, hG.ice, hG.env⟩
  · obtain ⟨_, _, _, h3⟩ := bl c x hc; exact h3
  · obtain ⟨l0, h1, h2, _⟩ := bl c x hc
    obtain ⟨l1, g1, g2, _⟩ := bl d y hd
    exact hI.inj c d l0 l1 i j h1 g1 (h2 hx) (g2 hy) hi hj hne
  · obtain ⟨l0, h1, h2, _⟩ := bl c x hc; exact hI.apart c l0 i h1 (h2 hx) hi
  · obtain ⟨l0, h1, h2, _⟩ := bl c x hc; exact hG.own c l0 i h1 (h2 hx) hi
theorem sem_births (b : Nat) {k : List C} {t : Tr} {m : Mem} {Q : Exit → Tr → Mem → Prop} {es : List (AV × AV)} (hb : mg m b = .map es)
    (h : ∀ (bm clock : Nat) (bs : List Nat), bs.length = es.length → (∀ x ∈ bs, x < clock) → bs.Nodup → SemW P n k0 k t (ms m b (.mapb bm clock bs es)) Q) : SemW P n k0 k t m Q := by
  intro cs hcs A φ σ a w hG
  have hbm := mg_get hb rfl
  obtain ⟨img, ents, cl, h1, h2, h3, h4, h5⟩ := hG.inv.blk b _ hbm
  refine h img.B cl (ents.toList.map (·.born)) (by rw [List.length_map, h3.len]) (fun x hx => ?_) h5 cs hcs A φ σ a w (hG.retell hbm rfl ?_)
  · obtain ⟨e, he, rfl⟩ := List.mem_map.1 hx; exact h4 e he
  · exact ⟨img, ents, h1, rfl, h2, h3, rfl, fun x hx => by obtain ⟨e, he, rfl⟩ := List.mem_map.1 hx; exact h4 e he, h5⟩
theorem sem_unborn (b : Nat) {k : List C} {t : Tr} {m : Mem} {Q : Exit → Tr → Mem → Prop} {bm clock : Nat} {bs : List Nat} {es : List (AV × AV)} (hb : mg m b = .mapb bm clock bs es)
    (h : SemW P n k0 k t (ms m b (.map es)) Q) : SemW P n k0 k t m Q := by
  intro cs hcs A φ σ a w hG
  have hbm := mg_get hb rfl
  obtain ⟨img, ents, h1, _, h2, h3, h4, h5, h6⟩ := hG.inv.blk b _ hbm
  exact h cs hcs A φ σ a w (hG.retell hbm rfl ⟨img, ents, clock, h1, h2, h3, fun e he => h5 _ (by rw [← h4]; exact List.mem_map.2 ⟨e, he, rfl⟩), by rw [h4]; exact h6⟩)
theorem cO_rng {o : Oper} {y : Opd} (h : cO P o = some (.rng y)) : ∃ t x k e, o.op = .range t x ∧ P.underlying t = some (.map k e) ∧ cOpd x = some y := by
  unfold cO at h
  split at h
  case h_28 t x ho =>
    split at h
    · rename_i k e z h1 h2; cases h; exact ⟨t, x, k, e, ho, h1, h2⟩
    · cases h
  all_goals ((repeat' split at h) <;> first | (cases h; done) | (simp at h; done))
theorem cO_nxt {o : Oper} {y : Opd} (h : cO P o = some (.nxt y)) : ∃ x, o.op = .next x false ∧ cOpd x = some y := by
  unfold cO at h
  split at h
  case h_29 x ho =>
    simp only [Option.map_eq_some_iff] at h
    obtain ⟨z, hz, e⟩ := h
    cases e
    exact ⟨x, ho, hz⟩
  all_goals ((repeat' split at h) <;> first | (cases h; done) | (simp at h; done))
theorem cO_ent {o : Oper} {y : Opd} (h : cO P o = some (.ent y)) : ∃ x, o.op = .entry x ∧ cOpd x = some y := by
  unfold cO at h
  split at h
  case h_30 x ho =>
    simp only [Option.map_eq_some_iff] at h
    obtain ⟨z, hz, e⟩ := h
    cases e
    exact ⟨x, ho, hz⟩
  all_goals ((repeat' split at h) <;> first | (cases h; done) | (simp at h; done))
theorem sem_byrun {g : Option (Nat × Bool)} {d : Option Nat} {o : O} {k : List C} {t : Tr} {m : Mem} {Q : Exit → Tr → Mem → Prop} (hg : gok t g = some true)
    (h : ∀ (o0 : Oper) (A : Anch) (φ : Fz) (σ : Sg) (a : Act) (w : World), cO P o0 = some o → Good A n k0 φ σ m w t a → ∃ (v' : Value) (w' : World) (φ' : Fz) (σ' : Sg) (m' : Mem) (v : AV),
      (execOp a.eval o0).run P w = .ok (.value v') w' ∧ Stp φ σ m w φ' σ' m' w' ∧ VR φ' σ' v v' ∧ SemW P n k0 k (sp d t v) m' Q) : SemW P n k0 (.op g d o :: k) t m Q := by
  intro cs hcs A φ σ a w hG
  cases view_of P n _ cs _ (Nat.le_refl _) hcs with
  | op hc hr h0 =>
    rename_i ops i is r
    refine h0 _ a w ?_
    obtain ⟨o0, g', x0, ho, hgd, hx, e, hd⟩ := cOp_inv hc
    cases e
    have hw := gok_ok hG.tr hgd hg
    obtain ⟨v', w', φ', σ', m', v, hrun, hst, hv, hk⟩ := h o0 A φ σ a w hx hG
    have hG' := hG.put hst (d := o0.dst) (fun i hi => hd i hi) hv
    have hk' := hk _ hr A φ' σ' _ w' hG'
    show wpOps P ops _ (i :: is) a w
    simp only [wpOps, ho, hw, if_true]
    refine .inl ?_
    unfold Oper.wp
    rw [hrun]
    exact hk'
theorem sem_rng {g : Option (Nat × Bool)} {d : Option Nat} {x : Opd} {k : List C} {t : Tr} {m : Mem} {Q : Exit → Tr → Mem → Prop} {b bm clock : Nat} {bs : List Nat} {es : List (AV × AV)} (hg : gok t g = some true)
    (hx : ev t x = some (.map b)) (hb : mg m b = .mapb bm clock bs es)
    (h : SemW P n k0 k (sp d t (.pbox m.length 0)) (m ++ [.iter (some bm) clock [] clock]) Q) : SemW P n k0 (.op g d (.rng x) :: k) t m Q := by
  refine sem_byrun hg fun o0 A φ σ a w hc hG => ?_
  obtain ⟨ty, y, kt, e, ho, hu, hy⟩ := cO_rng hc
  have hv := ev_ok hG.tr hy hx
  have hbm := mg_get hb rfl
  obtain ⟨img, ents, h1, h2, h3, _⟩ := hG.inv.blk b _ hbm
  generalize hval : a.eval y = v0 at hv
  cases hv with
  | map hσ =>
    rw [h1] at hσ
    cases hσ
    rw [h2] at h3
    have hst := hG.inv.alloc (m1 := m) (w' := w.alloc (.mapIter (some bm) clock #[] clock)) (.iter (some bm) clock [] clock) (some ⟨w.heap.size, 0, 1, 1⟩) (fun i hi => by cases hi; rfl) (fun B hB => alloc_old hB) (by simp) ⟨rfl, rfl, rfl⟩ rfl (fun _ _ h _ => h)
      ⟨_, rfl, rfl, alloc_new⟩
    refine ⟨.pointer (some ⟨w.heap.size, 0, none⟩), _, φ, _, _, .pbox m.length 0, ?_, hst, .pbox (img := ⟨w.heap.size, 0, 1, 1⟩) (by simp [Sg.upd]), h⟩
    have hr := run_range_map (P := P) w ty kt e bm ents clock hu h3
    unfold execOp
    simp only [ho, hval, h2, Sem.run_bind, hr, Result.andThen_ok]
    rfl
theorem sem_nxt {g : Option (Nat × Bool)} {d : Option Nat} {x : Opd} {k : List C} {t : Tr} {m : Mem} {Q : Exit → Tr → Mem → Prop} {i b bm since clock c0 : Nat} {seen bs : List Nat} {es : List (AV × AV)} (hg : gok t g = some true)
    (hx : ev t x = some (.pbox i 0)) (hi : mg m i = .iter (some bm) since seen c0) (hb : mg m b = .mapb bm clock bs es) (hold : ∀ x ∈ bs, x < since) (hsc : since ≤ c0)
    (hDone : (∀ x ∈ bs, x ∈ seen) → SemW P n k0 k (sp d t (.tup [.bool false])) m Q)
    (hMore : ∀ (j born : Nat) (key val : AV), bs[j]? = some born → es[j]? = some (key, val) → born ∉ seen →
      SemW P n k0 k (sp d t (.tup [.bool true, key, val])) (ms m i (.iter (some bm) since (seen ++ [born]) clock)) Q) : SemW P n k0 (.op g d (.nxt x) :: k) t m Q := by
  refine sem_byrun hg fun o0 A φ σ a w hc hG => ?_
  obtain ⟨y, ho, hy⟩ := cO_nxt hc
  have hv := ev_ok hG.tr hy hx
  have hI := hG.inv
  have hbm := mg_get hb rfl
  have him := mg_get hi rfl
  obtain ⟨imgb, ents, h1, h2, h3, h4, h5, h6, h7⟩ := hI.blk b _ hbm
  obtain ⟨img, g1, g2, g3⟩ := hI.blk i _ him
  generalize hval : a.eval y = v0 at hv
  cases hv with
  | pbox hσ =>
    rw [g1] at hσ
    cases hσ
    rw [h2] at h3
    have hb2 : ∀ e ∈ ents.toList, e.born < since := fun e he => hold _ (by rw [← h5]; exact List.mem_map.2 ⟨e, he, rfl⟩)
    have hex : execOp a.eval o0 = (do let v ← Instr.next (.pointer (some ⟨img.B, 0, none⟩)) false o0.type; pure (.value v)) := by
      unfold execOp
      simp only [ho, hval, g2]
    rcases run_next_at (P := P) w o0.type img.B bm since c0 ⟨seen⟩ ents clock g3 h3 hb2 hsc with ⟨q1, q2⟩ | ⟨e, he, w1, hw1, q2⟩
    · refine ⟨.tuple #[.bool false], w, φ, σ, m, .tup [.bool false], ?_, .refl hI, .tup (.cons .bool .nil), hDone fun z hz => ?_⟩
      · rw [hex]; simp only [Sem.run_bind, q2, Result.andThen_ok]; rfl
      · rw [← h5] at hz
        obtain ⟨e, he, rfl⟩ := List.mem_map.1 hz
        unfold leftOf at q1
        have := Array.eq_empty_of_size_eq_zero q1
        rw [Array.filter_eq_empty_iff] at this
        have := this e (by simpa using he)
        simpa using this
    · unfold leftOf at he
      simp at he
      obtain ⟨hm1, hm2⟩ := he
      obtain ⟨j, hj⟩ := List.getElem?_of_mem (show e ∈ ents.toList by simpa using hm1)
      have hlen := h4.len
      have hjl : j < es.length := by
        rw [hlen]
        rcases Nat.lt_or_ge j ents.toList.length with h | h
        · exact h
        · rw [List.getElem?_eq_none h] at hj; cases hj
      obtain ⟨x, r1, r2, r3⟩ := h4.get (j := j) (e := es[j]) (List.getElem?_eq_getElem hjl)
      rw [hj] at r1
      cases r1
      have hst : Stp φ σ m w φ σ (ms m i (.iter (some bm) since (seen ++ [e.born]) clock)) (setBlock w1 img.B (.mapIter (some bm) since (Array.push ⟨seen⟩ e.born) clock)) := by
        have hh : w1.heap = w.heap := by rcases hw1 with rfl | rfl <;> rfl
        have hlt := hI.lt him rfl g1
        have hset : ∀ B, B ≠ img.B → (setBlock w1 img.B (.mapIter (some bm) since (Array.push ⟨seen⟩ e.born) clock)).heap[B]? = w.heap[B]? := fun B hB => by
          simp only [setBlock, hh]
          rw [Array.getElem?_setIfInBounds_ne (Ne.symm hB)]
        refine hI.change img.B i (Sg.le_refl σ) (by simp [setBlock, hh]) (fun B hB _ => hset B hB) (hI.apart i _ img him rfl g1) (.inl ⟨i, _, img, him, rfl, g1, rfl⟩) (fun c hc => hI.fresh c (by rw [ms_len] at hc; exact hc)) (fun _ _ => rfl) (by rw [ms_len]; exact Nat.le_refl _) (by rcases hw1 with rfl | rfl <;> exact ⟨rfl, rfl, rfl⟩) ?_ ?_
        · intro c l hc hl hne
          rcases ms_get _ _ _ _ _ hc with ⟨e, _⟩ | ⟨_, hc⟩
          · exact absurd e hne
          · exact ⟨hc, rfl, fun j hj => hI.inj c i l _ j img hc him hl rfl hj g1 hne⟩
        · intro l hl _
          rcases ms_get _ _ _ _ _ hl with ⟨_, e2⟩ | ⟨h, _⟩
          · subst e2
            refine ⟨⟨img, g1, g2, ?_⟩, fun j hj => by rw [g1] at hj; cases hj; rfl⟩
            simp [setBlock, hh, hlt]
          · exact absurd rfl h
      refine ⟨.tuple #[.bool true, e.key, e.val], _, φ, σ, _, .tup [.bool true, es[j].1, es[j].2], ?_, hst, .tup (.cons .bool (.cons r2 (.cons r3 .nil))), hMore j e.born _ _ ?_ (List.getElem?_eq_getElem hjl) (by simpa using hm2)⟩
      · rw [hex]; simp only [Sem.run_bind, q2, Result.andThen_ok]; rfl
      · rw [← h5, List.getElem?_map, hj]; rfl
theorem sem_ent {g : Option (Nat × Bool)} {d : Option Nat} {x : Opd} {k : List C} {t : Tr} {m : Mem} {Q : Exit → Tr → Mem → Prop} {i b bm since clock j born : Nat} {seen bs : List Nat} {es : List (AV × AV)} {key val : AV} (hg : gok t g = some true)
    (hx : ev t x = some (.pbox i 0)) (hi : mg m i = .iter (some bm) since (seen ++ [born]) clock) (hb : mg m b = .mapb bm clock bs es) (hj : bs[j]? = some born) (he : es[j]? = some (key, val))
    (h : SemW P n k0 k (sp d t (.tup [key, val])) m Q) : SemW P n k0 (.op g d (.ent x) :: k) t m Q := by
  refine sem_byrun hg fun o0 A φ σ a w hc hG => ?_
  obtain ⟨y, ho, hy⟩ := cO_ent hc
  have hv := ev_ok hG.tr hy hx
  have hI := hG.inv
  have hbm := mg_get hb rfl
  have him := mg_get hi rfl
  obtain ⟨imgb, ents, h1, h2, h3, h4, h5, h6, h7⟩ := hI.blk b _ hbm
  obtain ⟨img, g1, g2, g3⟩ := hI.blk i _ him
  generalize hval : a.eval y = v0 at hv
  cases hv with
  | pbox hσ =>
    rw [g1] at hσ
    cases hσ
    rw [h2] at h3
    obtain ⟨x, r1, r2, r3⟩ := h4.get he
    have hb1 : x.born = born := by
      rw [← h5, List.getElem?_map, r1] at hj
      simpa using hj
    subst hb1
    have hmem : x ∈ ents.toList := List.mem_of_getElem? r1
    have g3' : w.heap[img.B]? = some (.mapIter (some bm) since (Array.push ⟨seen⟩ x.born) clock) := by rw [g3]; simp
    refine ⟨.tuple #[x.key, x.val], w, φ, σ, m, .tup [key, val], ?_, .refl hI, .tup (.cons r2 (.cons r3 .nil)), h⟩
    have hr := run_entry_at (P := P) w img.B bm since ⟨seen⟩ ents clock x g3' h3 hmem (by rw [h5]; exact h7)
    unfold execOp
    simp only [ho, hval, g2, Sem.run_bind, hr, Result.andThen_ok]
    rfl
theorem cO_mdel {o : Oper} {s : Bool} {y1 y2 : Opd} (h : cO P o = some (.mdel s y1 y2)) : ∃ c xt kt e, o.op = .call c ∧ c.callee = .builtin .delete ∧ cOpds c.args.toList = some [y1, y2] ∧ c.argTypes[0]? = some xt ∧ P.underlying xt = some (.map kt e) ∧ KT P s kt := by
  unfold cO at h
  split at h
  case h_26 c ho =>
    split at h
    case h_8 x k h1 h2 =>
      split at h
      · rename_i kt e hu
        simp only [Option.bind_eq_some_iff] at hu
        obtain ⟨st, h3, hu⟩ := hu
        split at h
        · rename_i q hk; cases h; exact ⟨c, st, kt, e, ho, h1, h2, h3, hu, .inl ⟨rfl, q, hk⟩⟩
        · rename_i hk; cases h; exact ⟨c, st, kt, e, ho, h1, h2, h3, hu, .inr ⟨rfl, hk⟩⟩
        · cases h
      · cases h
    all_goals ((repeat' split at h) <;> first | (cases h; done) | (simp at h; done))
  all_goals ((repeat' split at h) <;> first | (cases h; done) | (simp at h; done))
theorem map_eraseIdx' {α β : Type} (f : α → β) : ∀ (l : List α) (j : Nat), (l.eraseIdx j).map f = (l.map f).eraseIdx j
  | [], j => by simp
  | x :: l, 0 => by simp
  | x :: l, j + 1 => by simp [map_eraseIdx' f l j]
def delB (bs : List Nat) (es : List (AV × AV)) (k : AV) : List Nat × List (AV × AV) := match midx es k 0 with
  | some (j, _) => (bs.eraseIdx j, es.eraseIdx j)
  | none => (bs, es)
theorem sem_mdelb {g : Option (Nat × Bool)} {d : Option Nat} {s : Bool} {x y : Opd} {k : List C} {t : Tr} {m : Mem} {Q : Exit → Tr → Mem → Prop} {b bm clock : Nat} {bs : List Nat} {es : List (AV × AV)} {kv : AV} (hg : gok t g = some true)
    (hx : ev t x = some (.map b)) (hy : ev t y = some kv) (hb : mg m b = .mapb bm clock bs es) (hik : isKey s kv = true) (hok : keysOk es kv)
    (h : SemW P n k0 k (sp d t (.tup [])) (ms m b (.mapb bm clock (delB bs es kv).1 (delB bs es kv).2)) Q) : SemW P n k0 (.op g d (.mdel s x y) :: k) t m Q := by
  refine sem_byrun hg fun o0 A φ σ a w hc hG => ?_
  obtain ⟨c, xt, kt, e, ho, hcl, hxs, h0, hu, hkt⟩ := cO_mdel hc
  have hI := hG.inv
  have ht := hG.tr
  obtain ⟨cs, hrun⟩ := run_builtin (P := P) (w := w) (a := a) ho hcl
  have hvs := evs_ok ht hxs (vs := [.map b, kv]) (by simp [evs, hx, hy])
  generalize hg : c.args.toList.map a.eval = l at hvs
  cases hvs with
  | cons hd hvs => cases hvs with
    | cons h2 hnil =>
      cases hnil
      rename_i vd vk
      obtain ⟨uk, hku, hf⟩ := hkt.fits hik
      have hbm := mg_get hb rfl
      obtain ⟨imgb, ents, q1, q2, q3, q4, q5, q6, q7⟩ := hI.blk b _ hbm
      cases hd with
      | map hσ =>
        rw [q1] at hσ
        cases hσ
        have fin : ∀ {W : World} {m' : Mem}, (Builtin.delete_ c.argTypes o0.type #[.map (some imgb.B), vk]).run P w = .ok (.tuple #[]) W → Stp φ σ m w φ σ m' W → SemW P n k0 k (sp d t (.tup [])) m' Q → ∃ (v' : Value) (w' : World) (φ' : Fz) (σ' : Sg) (m' : Mem) (v : AV),
            (execOp a.eval o0).run P w = .ok (.value v') w' ∧ Stp φ σ m w φ' σ' m' w' ∧ VR φ' σ' v v' ∧ SemW P n k0 k (sp d t v) m' Q := by
          intro W m' hr hst hk
          refine ⟨.tuple #[], W, φ, σ, m', .tup [], ?_, hst, .tup .nil, hk⟩
          rw [hrun, args_map hg]
          simp only [builtin, Sem.run_bind, hr]; rfl
        have run : ∀ {r : Option (Nat × Value)}, Instr.findNow uk vk ents.toList 0 = some r → (Builtin.delete_ c.argTypes o0.type #[.map (some imgb.B), vk]).run P w = .ok (.tuple #[]) { w with heap := w.heap.setIfInBounds imgb.B (match r with | some (i, _) => .map (ents.eraseIdxIfInBounds i) clock | none => .map ents clock) } := by
          intro r hr
          unfold Builtin.delete_
          simp only [h0, List.getElem?_toArray, List.getElem?_cons_zero, List.getElem?_cons_succ, Sem.run_bind, und_run hu, Result.andThen_ok, getObj_run q3, checkKey_run hku hf.1, findKey_run hku hr]
          cases r with
          | none => simp only [setObj_run q3, Result.andThen_ok, Sem.run_pure, Sem.run_bind]
          | some x => obtain ⟨i, x⟩ := x; simp only [setObj_run q3, Result.andThen_ok, Sem.run_pure, Sem.run_bind]
        have wr : ∀ {ents' : Array MapEntry} {bs' : List Nat} {es' : List (AV × AV)}, MR φ σ es' ents'.toList → ents'.toList.map (·.born) = bs' → (∀ x ∈ bs', x < clock) → bs'.Nodup →
            Stp φ σ m w φ σ (ms m b (.mapb bm clock bs' es')) { w with heap := w.heap.setIfInBounds imgb.B (.map ents' clock) } := by
          intro ents' bs' es' r1 r2 r3 r4
          have hlt := hI.lt hbm rfl q1
          refine hI.change imgb.B b (Sg.le_refl σ) (by simp) (fun B hB _ => by simp only; rw [Array.getElem?_setIfInBounds_ne (Ne.symm hB)]) (hI.apart b _ imgb hbm rfl q1) (.inl ⟨b, _, imgb, hbm, rfl, q1, rfl⟩) (fun c hc => hI.fresh c (by rw [ms_len] at hc; exact hc)) (fun _ _ => rfl) (by rw [ms_len]; exact Nat.le_refl _) ⟨rfl, rfl, rfl⟩ ?_ ?_
          · intro c l hc hl hne
            rcases ms_get _ _ _ _ _ hc with ⟨e, _⟩ | ⟨_, hc⟩
            · exact absurd e hne
            · exact ⟨hc, rfl, fun j hj => hI.inj c b l _ j imgb hc hbm hl rfl hj q1 hne⟩
          · intro l hl _
            rcases ms_get _ _ _ _ _ hl with ⟨_, e2⟩ | ⟨h, _⟩
            · subst e2
              exact ⟨⟨imgb, ents', q1, q2, by simp [hlt], r1, r2, r3, r4⟩, fun j hj => by rw [q1] at hj; cases hj; rfl⟩
            · exact absurd rfl h
        rcases findNow_ok (u := uk) hf.1 h2 0 q4 hok hf.2 hik with ⟨r1, r2⟩ | ⟨j, u, vu, r1, r2, r3⟩
        · have e1 : delB bs es kv = (bs, es) := by unfold delB; rw [r1]
          rw [e1] at h
          exact fin (run r2) (wr q4 q5 q6 q7) h
        · have e1 : delB bs es kv = (bs.eraseIdx j, es.eraseIdx j) := by unfold delB; rw [r1]
          rw [e1] at h
          obtain ⟨_, _, s3, e0, s4, s5⟩ := (midx_set es kv kv 0).2 j u r1
          have hl : (ents.eraseIdxIfInBounds j).toList = ents.toList.eraseIdx j := by
            have hj : j < ents.size := by
              have := (List.getElem?_eq_some_iff.1 s4).1
              rw [q4.len] at this; simpa using this
            simp [Array.eraseIdxIfInBounds, hj]
          refine fin (run r2) (wr (by rw [hl]; exact q4.erase j) ?_ ?_ ?_) h
          · rw [hl, ← q5, map_eraseIdx']
          · intro x hx
            exact q6 x (List.mem_of_mem_eraseIdx hx)
          · exact List.Nodup.sublist (List.eraseIdx_sublist _ _) q7
end Go.AE

/- The abstract evaluator, part zn: rounds that leave the memory as it is. -/
namespace Go.AE
open Go
set_option linter.unusedVariables false
set_option linter.unusedSimpArgs false

variable {P : Program} {n k0 : Nat}

def idl : Nat → Nat → List Nat
  | 0, _ => []
  | n + 1, i => i :: idl n (i + 1)
theorem idl_len : ∀ (n i : Nat), (idl n i).length = n
  | 0, _ => rfl
  | n + 1, i => by simp [idl, idl_len n]
theorem idl_get : ∀ (n i j : Nat), j < n → (idl n i)[j]? = some (i + j)
  | 0, _, _, h => by omega
  | n + 1, i, 0, _ => by simp [idl]
  | n + 1, i, j + 1, h => by simp only [idl, List.getElem?_cons_succ]; rw [idl_get n (i + 1) j (by omega)]; congr 1; omega
theorem rid_idl {n N b : Nat} (h : b < n) : rid (idl n 0) N b = b := by
  obtain ⟨p, h1, h2⟩ := rid_lt (π := idl n 0) (N := N) (j := b) (by rw [idl_len]; exact h)
  rw [idl_get n 0 b h] at h1
  rw [h2]; simp at h1; omega
mutual
theorem ren_idl {n N : Nat} : ∀ {v : AV}, ids n v = true → ren (idl n 0) N v = v
  | .bool _, _ | .bsym _, _ | .int _ _, _ | .str _, _ | .nilptr, _ | .pval _ _ _ _, _ | .nilsl, _ | .nil0, _ | .vsl _ _ _, _ | .nilmap, _ | .nilfn, _ | .nilif, _ => rfl
  | .pbox b j, h => by simp only [ren]; rw [rid_idl (Nat.blt_eq.mp h)]
  | .parr b j i, h => by simp only [ren]; rw [rid_idl (Nat.blt_eq.mp h)]
  | .pelt b j i, h => by simp only [ren]; rw [rid_idl (Nat.blt_eq.mp h)]
  | .sl b i l c t, h => by simp only [ren]; rw [rid_idl (Nat.blt_eq.mp h)]
  | .asl b j i l c, h => by simp only [ren]; rw [rid_idl (Nat.blt_eq.mp h)]
  | .map b, h => by simp only [ren]; rw [rid_idl (Nat.blt_eq.mp h)]
  | .fn f a c, h => by simp only [ids, Bool.and_eq_true] at h; simp only [ren]; rw [rens_idl h.1, rens_idl h.2]
  | .ifc t v, h => by simp only [ren]; rw [ren_idl (v := v) h]
  | .agg cs, h => by simp only [ren]; rw [rens_idl (vs := cs) h]
  | .tup cs, h => by simp only [ren]; rw [rens_idl (vs := cs) h]
theorem rens_idl {n N : Nat} : ∀ {vs : List AV}, idss n vs = true → rens (idl n 0) N vs = vs
  | [], _ => rfl
  | v :: vs, h => by simp only [idss, Bool.and_eq_true] at h; simp only [rens]; rw [ren_idl h.1, rens_idl h.2]
end
theorem renP_idl {n N : Nat} : ∀ {es : List (AV × AV)}, idsP n es = true → renP (idl n 0) N es = es
  | [], _ => rfl
  | (a, b) :: es, h => by simp only [idsP, Bool.and_eq_true] at h; simp only [renP]; rw [ren_idl h.1.1, ren_idl h.1.2, renP_idl h.2]
theorem renB_idl {n N : Nat} : ∀ {k : Blk}, idsB n k = true → renB (idl n 0) N k = k
  | .box cs, h => by simp only [renB]; rw [rens_idl (vs := cs) h]
  | .row _ _, _ => rfl
  | .map es, h => by simp only [renB]; rw [renP_idl (es := es) h]
  | .mapb _ _ _ es, h => by simp only [renB]; rw [renP_idl (es := es) h]
  | .iter _ _ _ _, _ => rfl
  | .gone, _ => rfl
theorem embM_idl {n N : Nat} {ex : Mem} : ∀ {pm pre : Mem}, idsM n pm = true → embM (idl n 0) N (pre ++ (pm ++ ex)) (idl pm.length pre.length) pm
  | [], _, _ => trivial
  | k :: pm, pre, h => by
    simp only [idsM, Bool.and_eq_true] at h
    have ih := embM_idl (N := N) (ex := ex) (pm := pm) (pre := pre ++ [k]) h.2
    simp only [List.append_assoc, List.singleton_append, List.length_append, List.length_cons, List.length_nil] at ih
    have hg : mg (pre ++ k :: (pm ++ ex)) pre.length = renB (idl n 0) N k := by
      rw [renB_idl h.1]
      clear ih h
      induction pre with
      | nil => rfl
      | cons x pre ih => exact ih
    simp only [List.length_cons, idl, List.cons_append]
    cases k with
    | gone => exact ih
    | _ => exact ⟨hg, ih⟩
theorem nodup_idl : ∀ (n i : Nat), nodupN (idl n i) = true
  | 0, _ => rfl
  | n + 1, i => by
    simp only [idl, nodupN, nodup_idl n (i + 1), Bool.and_true, Bool.not_eq_true']
    rw [Bool.eq_false_iff]
    intro h
    have hm : i ∈ idl n (i + 1) := by simpa using h
    obtain ⟨j, hj⟩ := List.getElem?_of_mem hm
    have hjl : j < n := by
      rcases Nat.lt_or_ge j n with h | h
      · exact h
      · rw [List.getElem?_eq_none (by rw [idl_len]; exact h)] at hj; cases hj
    rw [idl_get n (i + 1) j hjl] at hj
    simp at hj; omega
theorem below_idl : ∀ (n i N : Nat), i + n ≤ N → below N (idl n i) = true
  | 0, _, _, _ => rfl
  | n + 1, i, N, h => by
    simp only [idl, below, below_idl n (i + 1) N (by omega), Bool.and_true]
    exact Nat.blt_eq.mpr (by omega)
theorem fixed_idl : ∀ (k n i : Nat), k ≤ n → fixed k i (idl n i) = true
  | 0, _, _, _ => rfl
  | k + 1, 0, i, h => by omega
  | k + 1, n + 1, i, h => by simp only [idl, fixed, beq_self_eq_true, Bool.true_and]; exact fixed_idl k n (i + 1) (by omega)
def embT0 (t : Tr) : List (Nat × AV) → Prop
  | [] => True
  | (i, v) :: l => t.get i = some v ∧ embT0 t l
theorem embT_idl {n N : Nat} {t : Tr} : ∀ {l : List (Nat × AV)}, idsT n l = true → embT0 t l → embT (idl n 0) N t l
  | [], _, _ => trivial
  | (i, v) :: l, h, he => by
    simp only [idsT, Bool.and_eq_true] at h
    exact ⟨by rw [ren_idl h.1]; exact he.1, embT_idl h.2 he.2⟩
theorem sem_sub1 {k : List C} {t : Tr} {m : Mem} (ex : Mem) {Q : Exit → Tr → Mem → Prop} (sl : List (Nat × AV)) (hm : idsM m.length m = true) (hk : k0 ≤ m.length) (hT : idsT m.length sl = true) (he : embT0 t sl)
    (h : SemW P n k0 k (mkP sl) m Q) : SemW P n k0 k t (m ++ ex) Q := by
  refine sem_sub (idl m.length 0) (m2 := m) (sl := sl) ⟨?_, embT_idl hT he, ?_⟩ h
  · simp only [chk, hT, hm, nodup_idl, fixed_idl k0 m.length 0 hk, below_idl m.length 0 (m ++ ex).length (by simp), Bool.and_self]
  · have := embM_idl (n := m.length) (N := (m ++ ex).length) (ex := ex) (pm := m) (pre := []) hm
    simpa using this
theorem sem_sub0 {k : List C} {t : Tr} {m : Mem} {Q : Exit → Tr → Mem → Prop} (sl : List (Nat × AV)) (hm : idsM m.length m = true) (hk : k0 ≤ m.length) (hT : idsT m.length sl = true) (he : embT0 t sl)
    (h : SemW P n k0 k (mkP sl) m Q) : SemW P n k0 k t m Q := by
  have := sem_sub1 [] sl hm hk hT he h
  rwa [List.append_nil] at this
attribute [go_sem] embT0
end Go.AE
