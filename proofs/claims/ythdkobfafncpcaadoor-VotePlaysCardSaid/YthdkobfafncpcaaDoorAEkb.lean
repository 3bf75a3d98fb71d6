/- The abstract evaluator: AEkb in one. -/
import Derived.Test.YthdkobfafncpcaaDoorAEka
/- The abstract evaluator, part kb: maps. -/
namespace Go.AE
open Go
set_option linter.unusedVariables false
set_option linter.unusedSimpArgs false

variable {P : Program} {φ : Fz} {σ : Sg} {t : Tr} {a : Act} {m m' : Mem} {w : World} {p : Prop} {v : AV}

/-! ### entries -/
theorem keq_ok {k e : AV} {vk ve : Value} (hk : VR φ σ k vk) (he : VR φ σ e ve) (h : keyOk k e) :
    (keq k e = true → vk = ve) ∧ (∃ i n i' n', vk = .int i n ∧ ve = .int i n' ∧ keq k e = (n == n') ∧ i = i') ∨
    (keq k e = true → vk = ve) ∧ (∃ s s' : List UInt8, vk = .string ⟨s.toArray⟩ ∧ ve = .string ⟨s'.toArray⟩ ∧ keq k e = seqb s s') := by
  cases k <;> cases e <;> simp only [keyOk] at h <;> try (exact h.elim)
  · subst h
    cases hk; cases he
    left
    refine ⟨fun e => ?_, _, _, _, _, rfl, rfl, by simp [keq, kd], rfl⟩
    simp [keq, kd] at e; rw [e]
  · cases hk; cases he
    right
    refine ⟨fun e => ?_, _, _, rfl, rfl, by simp [keq]⟩
    simp [keq, seqb] at e; rw [e]
def midx : List (AV × AV) → AV → Nat → Option (Nat × AV)
  | [], _, _ => none
  | e :: es, k, i => bif keq k e.1 then some (i, e.2) else midx es k (i + 1)
theorem midx_find : ∀ (es : List (AV × AV)) (k : AV) (i : Nat), (midx es k i).map (·.2) = mfind es k
  | [], _, _ => rfl
  | e :: es, k, i => by
    simp only [midx, mfind]
    cases keq k e.1 with
    | true => rfl
    | false => exact midx_find es k (i + 1)
theorem midx_set : ∀ (es : List (AV × AV)) (k v : AV) (i : Nat), (midx es k i = none → mset es k v = es ++ [(k, v)]) ∧ ∀ j u, midx es k i = some (j, u) → i ≤ j ∧ mset es k v = es.modify (j - i) (fun e => (e.1, v)) ∧ mdel es k = es.eraseIdx (j - i) ∧ ∃ e, es[j - i]? = some e ∧ keq k e.1 = true
  | [], k, v, i => ⟨fun _ => rfl, fun j u h => by simp [midx] at h⟩
  | e :: es, k, v, i => by
    simp only [midx, mset, mdel]
    cases h : keq k e.1 with
    | true =>
      refine ⟨fun h' => by simp at h', fun j u h' => ?_⟩
      simp at h'
      obtain ⟨rfl, rfl⟩ := h'
      refine ⟨Nat.le_refl _, by simp, by simp, e, by simp, h⟩
    | false =>
      obtain ⟨h1, h2⟩ := midx_set es k v (i + 1)
      refine ⟨fun h' => by simp only [cond_false] at h' ⊢; rw [h1 h']; rfl, fun j u h' => ?_⟩
      simp only [cond_false] at h' ⊢
      obtain ⟨q1, q2, q3, e', q4, q5⟩ := h2 j u h'
      have : j - i = (j - (i + 1)) + 1 := by omega
      refine ⟨by omega, ?_, ?_, e', ?_, q5⟩
      · rw [q2, this]; rfl
      · rw [q3, this]; rfl
      · rw [this]; simpa using q4
theorem mdel_none : ∀ (es : List (AV × AV)) (k : AV) (i : Nat), midx es k i = none → mdel es k = es
  | [], _, _, _ => rfl
  | e :: es, k, i, h => by
    simp only [midx] at h
    simp only [mdel]
    cases hk : keq k e.1 with
    | true => rw [hk] at h; simp at h
    | false => rw [hk] at h; simp only [cond_false] at h ⊢; rw [mdel_none es k (i + 1) h]
theorem findNow_ok {u : TypeDesc} {sk : Bool} (hu : (∃ k, u = .int k) ∨ u = .string) {k : AV} {vk : Value} (hk : VR φ σ k vk) : ∀ {es : List (AV × AV)} {ents : List MapEntry} (i : Nat), MR φ σ es ents → keysOk es k → (u = .string ↔ ∃ s, k = .str s) → isKey sk k = true →
    (midx es k i = none ∧ Instr.findNow u vk ents i = some none) ∨ ∃ j x vx, midx es k i = some (j, x) ∧ Instr.findNow u vk ents i = some (some (j, vx)) ∧ VR φ σ x vx
  | _, _, i, .nil, _, _, _ => .inl ⟨rfl, rfl⟩
  | _, _, i, .cons (k := k0) (v := v0) (e := e) hk0 hv0 ht, hok, hus, hik => by
    obtain ⟨h1, h2⟩ := hok
    have rest := findNow_ok hu hk (i + 1) ht h2 hus hik
    have key : Instr.sameNow u vk e.key = some (keq k k0) := by
      rcases keq_ok hk hk0 h1 with ⟨_, a1, n, a2, n', e1, e2, e3, _⟩ | ⟨_, s, s', e1, e2, e3⟩
      · rw [e1, e2, e3]
        have : ∃ q, u = .int q := by
          rcases hu with h | h
          · exact h
          · obtain ⟨s, rfl⟩ := hus.1 h
            rw [e1] at hk; cases hk
        obtain ⟨q, rfl⟩ := this
        simp [Instr.sameNow]
      · rw [e1, e2, e3]
        have : u = .string := hus.2 (by
          rw [e1] at hk
          cases k <;> first | (cases hk; done) | exact ⟨_, rfl⟩)
        subst this
        simp only [Instr.sameNow, beq_toListBytes, bytes_beq]
    simp only [midx, Instr.findNow, key]
    cases hq : keq k k0 with
    | true => exact .inr ⟨i, v0, e.val, by simp, by simp, hv0⟩
    | false => simpa using rest
theorem MR.get : ∀ {es : List (AV × AV)} {ents : List MapEntry}, MR φ σ es ents → ∀ {j : Nat} {e : AV × AV}, es[j]? = some e → ∃ x, ents[j]? = some x ∧ VR φ σ e.1 x.key ∧ VR φ σ e.2 x.val
  | _, _, .nil, j, e, h => by simp at h
  | _, _, .cons hk hv ht, 0, e, h => by simp at h; subst h; exact ⟨_, by simp, hk, hv⟩
  | _, _, .cons hk hv ht, j + 1, e, h => by simp at h; obtain ⟨x, h1, h2⟩ := ht.get h; exact ⟨x, by simpa using h1, h2⟩
theorem MR.len : ∀ {es : List (AV × AV)} {ents : List MapEntry}, MR φ σ es ents → es.length = ents.length
  | _, _, .nil => rfl
  | _, _, .cons _ _ ht => by simp [ht.len]
theorem MR.snoc : ∀ {es : List (AV × AV)} {ents : List MapEntry}, MR φ σ es ents → ∀ {k v : AV} {x : MapEntry}, VR φ σ k x.key → VR φ σ v x.val → MR φ σ (es ++ [(k, v)]) (ents ++ [x])
  | _, _, .nil, _, _, _, h1, h2 => .cons h1 h2 .nil
  | _, _, .cons hk hv ht, _, _, _, h1, h2 => .cons hk hv (ht.snoc h1 h2)
theorem MR.erase : ∀ {es : List (AV × AV)} {ents : List MapEntry}, MR φ σ es ents → ∀ (j : Nat), MR φ σ (es.eraseIdx j) (ents.eraseIdx j)
  | _, _, .nil, _ => by simp; exact .nil
  | _, _, .cons hk hv ht, 0 => ht
  | _, _, .cons hk hv ht, j + 1 => .cons hk hv (ht.erase j)
theorem MR.modify : ∀ {es : List (AV × AV)} {ents : List MapEntry}, MR φ σ es ents → ∀ (j : Nat) {v : AV} {vv vk : Value}, VR φ σ v vv → (∀ x, ents[j]? = some x → vk = x.key) →
    MR φ σ (es.modify j fun e => (e.1, v)) (ents.modify j fun e => { e with key := vk, val := vv })
  | _, _, .nil, _, _, _, _, _, _ => by simp; exact .nil
  | _, _, .cons hk hv ht, 0, _, _, _, h, hx => by
    have := hx _ rfl
    subst this
    exact .cons hk h ht
  | _, _, .cons hk hv ht, j + 1, _, _, _, h, hx => .cons hk hv (ht.modify j h fun x hx' => hx x (by simpa using hx'))

theorem map_at (hI : Inv φ σ m w) {b : Nat} {es : List (AV × AV)} (h : mg m b = .map es) {img : Img} (hi : σ b = some img) :
    ∃ ents clock, w.heap[img.B]? = some (.map ents clock) ∧ MR φ σ es ents.toList ∧ (∀ e ∈ ents.toList, e.born < clock) ∧ (ents.toList.map (·.born)).Nodup := by
  have := hI.blk b _ (mg_get h rfl)
  obtain ⟨i, ents, clock, e1, e2⟩ := this
  rw [hi] at e1; cases e1
  exact ⟨ents, clock, e2⟩
theorem getObj_run {r : Nat} {es : Array MapEntry} {cl : Nat} (h : w.heap[r]? = some (.map es cl)) : (getObj r).run P w = .ok (.map es cl) w := by
  simp [getObj, Sem.run, h]
theorem checkKey_run {e : Bool} {kt : TypeId} {u : TypeDesc} {k : Value} (hu : P.underlying kt = some u) (h : (∃ q, u = .int q) ∨ u = .string) : (Instr.checkKey e 10000 kt k).run P w = .ok () w := by
  have key : ∀ n, (Instr.checkKey e (n + 1) kt k).run P w = .ok () w := by
    intro n
    rw [Instr.checkKey]
    simp only [Sem.run_bind, und_run hu, Result.andThen_ok]
    rcases h with ⟨q, rfl⟩ | rfl <;> cases k <;> rfl
  exact key 9999
theorem findKey_run {kt : TypeId} {u : TypeDesc} {vk : Value} {ents : List MapEntry} {r : Option (Nat × Value)} (hu : P.underlying kt = some u) (h : Instr.findNow u vk ents 0 = some r) : (Instr.findKey kt vk ents).run P w = .ok r w := by
  simp only [Instr.findKey, Sem.run_bind, und_run hu, Result.andThen_ok, h, Sem.run_pure]

def fits (u : TypeDesc) (k : AV) : Prop := ((∃ q, u = .int q) ∨ u = .string) ∧ (u = .string ↔ ∃ s, k = .str s)

theorem zero1_ok {ty : TypeId} {z : AV} (h : zero1 P ty = some z) : ∃ zv, (∀ w : World, (zeroValue ty).run P w = .ok zv w) ∧ ∀ (φ : Fz) (σ : Sg), VR φ σ z zv := by
  unfold zero1 at h
  simp only [Option.bind_eq_some_iff] at h
  obtain ⟨zv, ⟨i, hi, hz⟩, hv⟩ := h
  exact ⟨zv, fun w => by simp [zeroValue, typeInfo, hi, hz], fun φ σ => ofV_ok φ σ _ _ _ hv⟩

theorem lookA_ok {ck : CK} {z : AV} {ok : Bool} {es : List (AV × AV)} {k : AV} (h : lookA ck z ok es k = some (p, v)) (hp : p) :
    keysOk es k ∧ ∃ u, v = okv ok u (mhas es k) ∧ (match mfind es k with | some x => ∀ {φ : Fz} {σ : Sg} {vx : Value}, VR φ σ x vx → VR φ σ u vx | none => ∀ {φ : Fz} {σ : Sg} {vx : Value}, VR φ σ z vx → VR φ σ u vx) := by
  unfold lookA at h
  split at h
  · split at h
    · rename_i c c' n b1 b2 hk hz
      cases h
      obtain ⟨h1, h2⟩ := hp
      have : c = c' := by simpa [kd] using hk
      subst this
      have hz : n = 0 := by simpa using hz
      subst hz
      refine ⟨h1, _, rfl, ?_⟩
      unfold valI at h2
      unfold mint
      cases hf : mfind es k with
      | none => exact fun h => h
      | some x => obtain ⟨q, rfl⟩ := h2 x hf; exact fun h => h
    · cases h
  · split at h
    · cases h
      obtain ⟨h1, h2⟩ := hp
      refine ⟨h1, _, rfl, ?_⟩
      unfold valB at h2
      unfold mbool
      cases hf : mfind es k with
      | none => intro φ σ vx hv; cases hv; exact .bsym
      | some x =>
        obtain ⟨q, hq⟩ := h2 x hf
        intro φ σ vx hv
        rcases hq with rfl | rfl <;> cases hv <;> exact .bsym
    · cases h
  · split at h
    · cases h
      obtain ⟨h1, h2⟩ := hp
      refine ⟨h1, _, rfl, ?_⟩
      unfold valS at h2
      unfold mstr
      cases hf : mfind es k with
      | none => exact fun h => h
      | some x => obtain ⟨q, rfl⟩ := h2 x hf; exact fun h => h
    · cases h
  · split at h
    · rename_i x hf
      cases h
      refine ⟨hp, x, by simp [mhas, hf], ?_⟩
      rw [hf]; exact fun h => h
    · rename_i hf
      cases h
      refine ⟨hp, z, by simp [mhas, hf], ?_⟩
      rw [hf]; exact fun h => h

theorem okv_ok {u : AV} {x : Value} {b ok : Bool} (h : VR φ σ u x) : VR φ σ (okv ok u b) (if ok then .tuple #[x, .bool b] else x) := by
  cases ok with
  | true => exact .tup (.cons h (.cons .bsym .nil))
  | false => exact h
theorem lookup_run {sk : Bool} {xt kt e : TypeId} {u : TypeDesc} {z : AV} {ok : Bool} {es : List (AV × AV)} {ents : Array MapEntry} {k : AV} {vk mv : Value} {ck : CK} (hu : P.underlying xt = some (.map kt e)) (hk : P.underlying kt = some u) (hf : fits u k) (hik : isKey sk k = true) (hz : zero1 P e = some z)
    (hvk : VR φ σ k vk) (hmv : (mv = .map none ∧ ents = #[]) ∨ ∃ r cl, mv = .map (some r) ∧ w.heap[r]? = some (.map ents cl)) (hmr : MR φ σ es ents.toList) (h : lookA ck z ok es k = some (p, v)) (hp : p) :
    ∃ r, (Instr.lookup xt mv vk ok).run P w = .ok r w ∧ VR φ σ v r := by
  obtain ⟨zv, hzr, hzv⟩ := zero1_ok hz
  obtain ⟨hko, u', rfl, hu'⟩ := lookA_ok h hp
  have ff := findNow_ok (u := u) hf.1 hvk 0 hmr hko hf.2 hik
  have run : ∀ r, Instr.findNow u vk ents.toList 0 = some r → (Instr.lookup xt mv vk ok).run P w = .ok (if ok then .tuple #[(match r with | some (_, v) => v | none => zv), .bool r.isSome] else (match r with | some (_, v) => v | none => zv)) w := by
    intro r hr
    unfold Instr.lookup
    rcases hmv with ⟨rfl, rfl⟩ | ⟨r', cl, rfl, hh⟩
    · simp only [Sem.run_bind, und_run hu, Result.andThen_ok, Sem.run_pure, checkKey_run hk hf.1, findKey_run hk hr]
      cases r with
      | none => simp only [Sem.run_bind, hzr, Result.andThen_ok, Sem.run_pure]; rfl
      | some x => obtain ⟨j, x⟩ := x; simp only [Result.andThen_ok, Sem.run_pure]; rfl
    · simp only [Sem.run_bind, und_run hu, Result.andThen_ok, Sem.run_pure, getObj_run hh, checkKey_run hk hf.1, findKey_run hk hr]
      cases r with
      | none => simp only [Sem.run_bind, hzr, Result.andThen_ok, Sem.run_pure]; rfl
      | some x => obtain ⟨j, x⟩ := x; simp only [Result.andThen_ok, Sem.run_pure]; rfl
  rcases ff with ⟨h1, h2⟩ | ⟨j, x, vx, h1, h2, h3⟩
  · have hm : mfind es k = none := by rw [← midx_find es k 0, h1]; rfl
    refine ⟨_, run _ h2, ?_⟩
    rw [hm] at hu'
    have := okv_ok (ok := ok) (b := mhas es k) (hu' (hzv φ σ))
    rw [show mhas es k = false by simp [mhas, hm]] at this ⊢
    exact this
  · have hm : mfind es k = some x := by rw [← midx_find es k 0, h1]; rfl
    refine ⟨_, run _ h2, ?_⟩
    rw [hm] at hu'
    have := okv_ok (ok := ok) (b := mhas es k) (hu' h3)
    rw [show mhas es k = true by simp [mhas, hm]] at this ⊢
    exact this

def KT (P : Program) (s : Bool) (kt : TypeId) : Prop := (s = false ∧ ∃ k, P.underlying kt = some (.int k)) ∨ (s = true ∧ P.underlying kt = some .string)
theorem KT.fits {s : Bool} {kt : TypeId} (h : KT P s kt) {k : AV} (hk : isKey s k = true) : ∃ u, P.underlying kt = some u ∧ fits u k := by
  rcases h with ⟨rfl, q, hq⟩ | ⟨rfl, hq⟩
  · exact ⟨_, hq, .inl ⟨q, rfl⟩, ⟨fun e => (by cases e), fun ⟨s, e⟩ => (by subst e; cases hk)⟩⟩
  · refine ⟨_, hq, .inr rfl, fun _ => ?_, fun _ => rfl⟩
    cases k <;> first | (cases hk; done) | exact ⟨_, rfl⟩
theorem ok_look (hI : Inv φ σ m w) (ht : TR φ σ t a.tmps) {o : Oper} {xt kt e : TypeId} {x k : Operand} {x' k' : Opd} {ok s : Bool} {ck : CK} {z : AV} (ho : o.op = .lookup xt x k ok) (hx : cOpd x = some x') (hk : cOpd k = some k')
    (hu : P.underlying xt = some (.map kt e)) (hkt : KT P s kt) (hz : zero1 P e = some z) (he : ao (.look s ck z ok x' k') t m = some (p, v, m')) (hp : p) : OpOk P o a φ σ m w v m' := by
  have fin : ∀ {r : Value}, (Instr.lookup xt (a.eval x) (a.eval k) ok).run P w = .ok r w → VR φ σ v r → m' = m → OpOk P o a φ σ m w v m' := by
    intro r hr hv hm
    subst hm
    refine .pure hI (v' := r) ?_ hv
    unfold execOp
    simp only [ho, Sem.run_bind, hr]; rfl
  simp only [ao] at he
  split at he
  · rename_i b kv e1 e2
    have h1 := ev_ok ht hx e1
    have h2 := ev_ok ht hk e2
    split at he
    rotate_left
    · cases he
    rename_i es hm hik
    split at he
    rotate_left
    · cases he
    rename_i q u hl
    cases he
    obtain ⟨uk, hku, hf⟩ := hkt.fits hik
    generalize hvx : a.eval x = vx at h1 fin
    cases h1 with
    | map hσ =>
      obtain ⟨ents, cl, g1, g2, _⟩ := map_at hI hm hσ
      obtain ⟨r, hr, hv⟩ := lookup_run (P := P) (w := w) hu hku hf hik hz h2 (.inr ⟨_, cl, rfl, g1⟩) g2 hl hp
      exact fin hr hv rfl
  · rename_i kv e1 e2
    have h1 := ev_ok ht hx e1
    have h2 := ev_ok ht hk e2
    split at he
    rotate_left
    · cases he
    rename_i hik
    split at he
    rotate_left
    · cases he
    rename_i q u hl
    cases he
    obtain ⟨uk, hku, hf⟩ := hkt.fits hik
    generalize hvx : a.eval x = vx at h1 fin
    cases h1 with
    | nilmap =>
      obtain ⟨r, hr, hv⟩ := lookup_run (P := P) (w := w) (ents := #[]) hu hku hf hik hz h2 (.inl ⟨rfl, rfl⟩) .nil hl hp
      exact fin hr hv rfl
  · cases he
theorem map_write (hI : Inv φ σ m w) {b : Nat} {es es' : List (AV × AV)} {img : Img} {ents' : Array MapEntry} {cl' : Nat} (hm : mg m b = .map es) (hi : σ b = some img) (hr : MR φ σ es' ents'.toList)
    (hb : ∀ e ∈ ents'.toList, e.born < cl') (hn : (ents'.toList.map (·.born)).Nodup) :
    Stp φ σ m w φ σ (ms m b (.map es')) { w with heap := w.heap.setIfInBounds img.B (.map ents' cl') } := by
  obtain ⟨ents, cl, g1, _⟩ := map_at hI hm hi
  have hbk := mg_get hm rfl
  have hlb : b < m.length := by
    rcases Nat.lt_or_ge b m.length with h' | h'
    · exact h'
    · rw [List.getElem?_eq_none h'] at hbk; cases hbk
  have hB := hI.lt hbk rfl hi
  refine hI.change img.B b (Sg.le_refl _) (by simp) (fun B hB _ => by simp [Array.getElem?_setIfInBounds_ne (Ne.symm hB)]) (hI.apart b _ img hbk rfl hi) (.inl ⟨b, _, img, hbk, rfl, hi, rfl⟩) ?_ (fun _ _ => rfl) (by rw [ms_len]; exact Nat.le_refl _) ⟨rfl, rfl, rfl⟩ ?_ ?_
  · intro b' hb'; rw [ms_len] at hb'; exact hI.fresh b' hb'
  · intro b' l hb' hl hne
    rcases ms_get m b _ b' l hb' with ⟨e, _⟩ | ⟨_, e⟩
    · exact absurd e hne
    · exact ⟨e, rfl, fun i hi' => hI.inj b' b l _ i img e hbk hl rfl hi' hi hne⟩
  · intro l hl _
    rw [ms_same m b _ hlb] at hl
    cases hl
    refine ⟨?_, fun i hi' => by rw [hi] at hi'; cases hi'; rfl⟩
    rw [hi]
    exact ⟨img, ents', cl', rfl, by simp [hB], hr, hb, hn⟩
theorem setObj_run {r : Nat} {es es' : Array MapEntry} {cl cl' : Nat} (h : w.heap[r]? = some (.map es cl)) : (setObj r (.map es' cl')).run P w = .ok () { w with heap := w.heap.setIfInBounds r (.map es' cl') } := by
  simp [setObj, Sem.run, h]
theorem stays_run {k e : AV} {vk ve : Value} (hk : VR φ σ k vk) (he : VR φ σ e ve) (hok : keyOk k e) (h : keq k e = true) : (Instr.keyThatStays ve vk).run P w = .ok vk w ∧ vk = ve := by
  have : vk = ve := by
    rcases keq_ok hk he hok with ⟨h', _⟩ | ⟨h', _⟩ <;> exact h' h
  refine ⟨?_, this⟩
  subst this
  have : Instr.sameBits 10000 vk vk = true := by
    cases k <;> cases e <;> simp only [keyOk] at hok <;> try (exact hok.elim)
    · cases hk; simp [Instr.sameBits]
    · cases hk; simp [Instr.sameBits, beq_toListBytes]
  simp [Instr.keyThatStays, this]
theorem keysOk_get : ∀ {es : List (AV × AV)} {k : AV} {j : Nat} {e : AV × AV}, keysOk es k → es[j]? = some e → keyOk k e.1
  | [], _, _, _, _, h => by simp at h
  | _ :: _, _, 0, _, hk, h => by simp at h; subst h; exact hk.1
  | _ :: _, _, j + 1, _, hk, h => keysOk_get hk.2 (by simpa using h)
theorem ok_mput (hI : Inv φ σ m w) (ht : TR φ σ t a.tmps) {o : Oper} {xt kt e : TypeId} {x k y : Operand} {x' k' y' : Opd} {s : Bool} (ho : o.op = .mapUpdate xt x k y) (hx : cOpd x = some x') (hk : cOpd k = some k') (hy : cOpd y = some y')
    (hu : P.underlying xt = some (.map kt e)) (hkt : KT P s kt) (he : ao (.mput s x' k' y') t m = some (p, v, m')) (hp : p) : OpOk P o a φ σ m w v m' := by
  simp only [ao] at he
  split at he
  rotate_left
  · cases he
  rename_i b kv yv e1 e2 e3
  have h1 := ev_ok ht hx e1
  have h2 := ev_ok ht hk e2
  have h3 := ev_ok ht hy e3
  split at he
  rotate_left
  · cases he
  rename_i es hm hik
  cases he
  simp only [Bool.and_eq_true] at hik
  obtain ⟨uk, hku, hf⟩ := hkt.fits hik.1
  generalize hvx : a.eval x = vx at h1
  cases h1 with
  | map hσ =>
    rename_i img
    obtain ⟨ents, cl, g1, g2, g3, g4⟩ := map_at hI hm hσ
    have fin : ∀ {W : World}, (Instr.mapUpdate xt (.map (some img.B)) (a.eval k) (a.eval y)).run P w = .ok () W → Stp φ σ m w φ σ (ms m b (.map (mset es kv yv))) W → OpOk P o a φ σ m w (.tup []) (ms m b (.map (mset es kv yv))) := by
      intro W hr hst
      refine ⟨undef, W, φ, σ, .inr ⟨?_, rfl⟩, hst, .tup .nil⟩
      unfold execOp
      simp only [ho, hvx, Sem.run_bind, hr]
      rfl
    have run : ∀ {r : Option (Nat × Value)} {W : World}, Instr.findNow uk (a.eval k) ents.toList 0 = some r → (match r with
        | some (i, _) => do
          let key ← Instr.keyThatStays (((ents[i]?).map (·.key)).getD (a.eval k)) (a.eval k)
          setObj img.B (.map (ents.modify i fun e => { e with key, val := a.eval y }) cl)
        | none => setObj img.B (.map (ents.push { key := a.eval k, val := a.eval y, born := cl }) (cl + 1)) : Sem Unit).run P w = .ok () W → (Instr.mapUpdate xt (.map (some img.B)) (a.eval k) (a.eval y)).run P w = .ok () W := by
      intro r W hr hW
      unfold Instr.mapUpdate
      simp only [Sem.run_bind, und_run hu, Result.andThen_ok, getObj_run g1, checkKey_run hku hf.1, findKey_run hku hr]
      exact hW
    rcases findNow_ok (u := uk) hf.1 h2 0 g2 hp hf.2 hik.1 with ⟨q1, q2⟩ | ⟨j, u, vu, q1, q2, q3⟩
    · refine fin (run q2 (setObj_run g1)) ?_
      rw [(midx_set es kv yv 0).1 q1]
      refine map_write hI hm hσ ?_ ?_ ?_
      · simp only [Array.toList_push]
        exact g2.snoc h2 h3
      · intro e he
        simp only [Array.toList_push, List.mem_append, List.mem_singleton] at he
        rcases he with he | rfl
        · have := g3 e he; omega
        · simp
      · simp only [Array.toList_push, List.map_append, List.map_cons, List.map_nil]
        rw [List.nodup_append]
        refine ⟨g4, by simp, fun a ha b hb => ?_⟩
        simp only [List.mem_singleton] at hb
        subst hb
        obtain ⟨e, he, rfl⟩ := List.mem_map.1 ha
        exact Nat.ne_of_lt (g3 e he)
    · obtain ⟨_, r2, _, e0, r4, r5⟩ := (midx_set es kv yv 0).2 j u q1
      rw [Nat.sub_zero] at r2 r4
      obtain ⟨en, n1, n2, n3⟩ := g2.get r4
      have hen : ents[j]? = some en := by simpa using n1
      obtain ⟨s1, s2⟩ := stays_run (P := P) (w := w) h2 n2 (keysOk_get hp r4) r5
      refine fin (W := { w with heap := w.heap.setIfInBounds img.B (.map (ents.modify j fun e => { e with key := a.eval k, val := a.eval y }) cl) }) (run q2 ?_) ?_
      · simp only [hen, Option.map_some, Option.getD_some, Sem.run_bind, s1, Result.andThen_ok]
        exact setObj_run g1
      · rw [r2]
        have hl : (ents.modify j fun e => { e with key := a.eval k, val := a.eval y }).toList = ents.toList.modify j fun e => { e with key := a.eval k, val := a.eval y } := by simp
        have hborn : ((ents.toList.modify j fun e => { e with key := a.eval k, val := a.eval y }).map (·.born)) = ents.toList.map (·.born) := by
          apply List.ext_getElem?
          intro q
          simp only [List.getElem?_map, List.getElem?_modify]
          cases ents.toList[q]? with
          | none => rfl
          | some x => by_cases hq : j = q <;> simp [hq]
        refine map_write hI hm hσ ?_ ?_ ?_
        · rw [hl]
          exact g2.modify j h3 fun x hx => by rw [n1] at hx; cases hx; exact s2
        · intro e he
          rw [hl] at he
          have : e.born ∈ (ents.toList.modify j fun e => { e with key := a.eval k, val := a.eval y }).map (·.born) := List.mem_map.2 ⟨e, he, rfl⟩
          rw [hborn] at this
          obtain ⟨e', he', hbe⟩ := List.mem_map.1 this
          rw [← hbe]; exact g3 e' he'
        · rw [hl, hborn]; exact g4
theorem ok_mdel (hI : Inv φ σ m w) (ht : TR φ σ t a.tmps) {o : Oper} {c : Call} {y1 y2 : Opd} {xt kt e : TypeId} {s : Bool} (ho : o.op = .call c) (hc : c.callee = .builtin .delete)
    (hx : cOpds c.args.toList = some [y1, y2]) (h0 : c.argTypes[0]? = some xt) (hu : P.underlying xt = some (.map kt e)) (hkt : KT P s kt)
    (he : ao (.mdel s y1 y2) t m = some (p, v, m')) (hp : p) : OpOk P o a φ σ m w v m' := by
  obtain ⟨cs, hrun⟩ := run_builtin (P := P) (w := w) (a := a) ho hc
  have fin : ∀ {vm vk : Value} {W : World} {m' : Mem}, c.args.map a.eval = #[vm, vk] → (Builtin.delete_ c.argTypes o.type #[vm, vk]).run P w = .ok (.tuple #[]) W → Stp φ σ m w φ σ m' W → OpOk P o a φ σ m w (.tup []) m' := by
    intro vm vk W m' hg hr hst
    refine ⟨.tuple #[], W, φ, σ, .inl ?_, hst, .tup .nil⟩
    rw [hrun, hg]
    simp only [builtin, Sem.run_bind, hr]; rfl
  simp only [ao] at he
  split at he
  · rename_i b kv e1 e2
    have hvs := evs_ok ht hx (vs := [.map b, kv]) (by simp [evs, e1, e2])
    generalize hg : c.args.toList.map a.eval = l at hvs
    cases hvs with
    | cons hd hvs => cases hvs with
      | cons h2 hnil =>
        cases hnil
        rename_i vd vk
        split at he
        rotate_left
        · cases he
        rename_i es hm hik
        cases he
        obtain ⟨uk, hku, hf⟩ := hkt.fits hik
        cases hd with
        | map hσ =>
          rename_i img
          obtain ⟨ents, cl, g1, g2, g3, g4⟩ := map_at hI hm hσ
          have run : ∀ {r : Option (Nat × Value)}, Instr.findNow uk vk ents.toList 0 = some r → (Builtin.delete_ c.argTypes o.type #[.map (some img.B), vk]).run P w = .ok (.tuple #[]) { w with heap := w.heap.setIfInBounds img.B (match r with | some (i, _) => .map (ents.eraseIdxIfInBounds i) cl | none => .map ents cl) } := by
            intro r hr
            unfold Builtin.delete_
            simp only [h0, List.getElem?_toArray, List.getElem?_cons_zero, List.getElem?_cons_succ, Sem.run_bind, und_run hu, Result.andThen_ok, getObj_run g1, checkKey_run hku hf.1, findKey_run hku hr]
            cases r with
            | none => simp only [setObj_run g1, Result.andThen_ok, Sem.run_pure, Sem.run_bind]
            | some x => obtain ⟨i, x⟩ := x; simp only [setObj_run g1, Result.andThen_ok, Sem.run_pure, Sem.run_bind]
          rcases findNow_ok (u := uk) hf.1 h2 0 g2 hp hf.2 hik with ⟨q1, q2⟩ | ⟨j, u, vu, q1, q2, q3⟩
          · refine fin (args_map hg) (run q2) ?_
            rw [mdel_none es kv 0 q1]
            exact map_write hI hm hσ g2 g3 g4
          · obtain ⟨_, _, r3, e0, r4, r5⟩ := (midx_set es kv kv 0).2 j u q1
            rw [Nat.sub_zero] at r3 r4
            refine fin (args_map hg) (run q2) ?_
            rw [r3]
            have hl : (ents.eraseIdxIfInBounds j).toList = ents.toList.eraseIdx j := by
              have hj : j < ents.size := by
                have := (List.getElem?_eq_some_iff.1 r4).1
                rw [g2.len] at this; simpa using this
              simp [Array.eraseIdxIfInBounds, hj]
            refine map_write hI hm hσ ?_ ?_ ?_
            · rw [hl]; exact g2.erase j
            · intro e he
              rw [hl] at he
              exact g3 e (List.mem_of_mem_eraseIdx he)
            · rw [hl]
              exact List.Nodup.sublist (List.Sublist.map _ (List.eraseIdx_sublist _ _)) g4
  · rename_i kv e1 e2
    have hvs := evs_ok ht hx (vs := [.nilmap, kv]) (by simp [evs, e1, e2])
    generalize hg : c.args.toList.map a.eval = l at hvs
    cases hvs with
    | cons hd hvs => cases hvs with
      | cons h2 hnil =>
        cases hnil
        rename_i vd vk
        split at he
        rotate_left
        · cases he
        rename_i hik
        cases he
        obtain ⟨uk, hku, hf⟩ := hkt.fits hik
        cases hd
        refine fin (args_map hg) ?_ (.refl hI)
        unfold Builtin.delete_
        simp only [h0, List.getElem?_toArray, List.getElem?_cons_zero, List.getElem?_cons_succ, Sem.run_bind, und_run hu, Result.andThen_ok, checkKey_run hku hf.1, Sem.run_pure]
  · cases he
theorem ok_lenm (hI : Inv φ σ m w) (ht : TR φ σ t a.tmps) {o : Oper} {c : Call} {y : Opd} {xt kt e : TypeId} (ho : o.op = .call c) (hc : c.callee = .builtin .len)
    (hx : cOpds c.args.toList = some [y]) (h0 : c.argTypes[0]? = some xt) (hu : P.underlying xt = some (.map kt e))
    (he : ao (.lenm y) t m = some (p, v, m')) : OpOk P o a φ σ m w v m' := by
  obtain ⟨cs, hrun⟩ := run_builtin (P := P) (w := w) (a := a) ho hc
  simp only [ao] at he
  split at he
  · rename_i b e1
    have hvs := evs_ok ht hx (vs := [.map b]) (by simp [evs, e1])
    generalize hg : c.args.toList.map a.eval = l at hvs
    cases hvs with
    | cons hd hnil =>
      cases hnil
      split at he
      rotate_left
      · cases he
      rename_i es hm
      cases he
      cases hd with
      | map hσ =>
        obtain ⟨ents, cl, g1, g2, _⟩ := map_at hI hm hσ
        refine .pure hI (v' := .int .i64 es.length) ?_ .int
        rw [hrun, args_map hg, g2.len]
        simp only [builtin, Sem.run_bind]
        simp [Builtin.len_, h0, und_run hu, getObj_run g1, goInt]
  · rename_i e1
    cases he
    have hvs := evs_ok ht hx (vs := [.nilmap]) (by simp [evs, e1])
    generalize hg : c.args.toList.map a.eval = l at hvs
    cases hvs with
    | cons hd hnil =>
      cases hnil
      cases hd
      refine .pure hI (v' := .int .i64 0) ?_ .int
      rw [hrun, args_map hg]
      simp only [builtin, Sem.run_bind]
      simp [Builtin.len_, h0, und_run hu, goInt]
  · cases he
end Go.AE
