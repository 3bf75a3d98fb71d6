/- The abstract evaluator: AEk in one. -/
import Derived.Test.YthdkobfafncpcaaDoorAEj
/- The abstract evaluator, part k: literals of slices, make, strings of bytes and back; and all operations together. -/
namespace Go.AE
open Go
set_option linter.unusedVariables false
set_option linter.unusedSimpArgs false

variable {P : Program} {φ : Fz} {σ : Sg} {t : Tr} {a : Act} {m m' : Mem} {w : World} {p : Prop} {v : AV}

theorem splice_split {c vs : List Value} {k : Nat} (h : k + vs.length ≤ c.length) (o n : Nat) (hd : o + n ≤ k ∨ k + vs.length ≤ o) : ((splice c k vs).drop o).take n = (c.drop o).take n := by
  apply List.ext_getElem?
  intro q
  rw [List.getElem?_take, List.getElem?_take]
  split
  · rw [List.getElem?_drop, List.getElem?_drop, splice_get h, if_neg (by omega)]
  · rfl
theorem splice_at {c vs : List Value} {k : Nat} (h : k + vs.length ≤ c.length) : ((splice c k vs).drop k).take vs.length = vs := by
  apply List.ext_getElem?
  intro q
  rw [List.getElem?_take]
  split
  · rw [List.getElem?_drop, splice_get h, if_pos (by omega)]; congr 1; omega
  · rw [List.getElem?_eq_none (by omega)]

theorem RowsAre.set {sz : Nat} {rows : List (List AV)} {c vs : List Value} {i : Nat} {x : List AV} (h : RowsAre φ sz rows c) (hi : i < rows.length) (hx : VRs φ noS x vs) (hl : vs.length = sz) (h1 : ∀ u ∈ vs, u.oneCell' = true) :
    RowsAre φ sz (rows.set i x) (splice c (i * sz) vs) := by
  have hm : i * sz + sz ≤ rows.length * sz := by rw [← Nat.succ_mul]; exact Nat.mul_le_mul_right _ hi
  have hle : i * sz + vs.length ≤ c.length := by rw [h.1]; omega
  refine ⟨by rw [splice_len hle, h.1, List.length_set], fun u hu => ?_, fun j y hy => ?_⟩
  · obtain ⟨q, hq⟩ := List.getElem?_of_mem hu
    rw [splice_get hle] at hq
    split at hq
    · exact h1 u (List.mem_of_getElem? hq)
    · exact h.2.1 u (List.mem_of_getElem? hq)
  · by_cases e : j = i
    · subst e
      rw [List.getElem?_set_self hi] at hy
      cases hy
      rw [← hl, hl, ← hl]
      have := splice_at hle
      rw [hl] at this ⊢
      rw [this]; exact hx
    · rw [List.getElem?_set_ne (Ne.symm e)] at hy
      rw [splice_split hle]
      · exact h.2.2 j y hy
      · rw [hl]
        rcases Nat.lt_or_gt_of_ne e with h' | h'
        · left; rw [← Nat.succ_mul]; exact Nat.mul_le_mul_right _ h'
        · right; rw [← Nat.succ_mul]; exact Nat.mul_le_mul_right _ h'

theorem slits_ok (ht : TR φ σ t a.tmps) {sz : Nat} : ∀ {parts : List (Nat × Operand)} {ps : List (Nat × Opd)} {rows rows' : List (List AV)} {zc : Array Value},
    cParts1 parts = some ps → slits sz rows ps t = some rows' → RowsAre φ sz rows zc.toList →
    ∃ c : Array Value, Instr.fill (fun i => some (i * sz, sz)) zc (parts.map fun x => (x.1, a.eval x.2)) = some c ∧ RowsAre φ sz rows' c.toList ∧ rows'.length = rows.length
  | [], ps, rows, rows', zc, hp, hb, hz => by simp [cParts1] at hp; subst hp; simp [slits] at hb; subst hb; exact ⟨zc, rfl, hz, rfl⟩
  | (i, x) :: r, ps, rows, rows', zc, hp, hb, hz => by
    simp only [cParts1] at hp
    split at hp
    · rename_i y ys e2 e3
      cases hp
      simp only [slits] at hb
      split at hb
      · rename_i v hv
        split at hb
        · rename_i hn
          simp only [Bool.and_eq_true, beq_iff_eq] at hn
          obtain ⟨⟨hn, hone⟩, hfl⟩ := hn
          split at hb
          · rename_i hi
            have hi : i < rows.length := Nat.blt_eq.mp hi
            have hvr := ev_ok ht e2 hv
            have hcs := cells_ok hvr
            have hsz : (a.eval x).cells.size = sz := by rw [hn, hcs.length]; simp
            have hm : i * sz + sz ≤ rows.length * sz := by rw [← Nat.succ_mul]; exact Nat.mul_le_mul_right _ hi
            have hzl : zc.size = rows.length * sz := by simpa using hz.1
            have hfs := foldl_splice (a.eval x).cells.toList 0 (i * sz) zc (by simp; omega)
            obtain ⟨c, h1, h2, h3⟩ := slits_ok ht (zc := (a.eval x).cells.zipIdx.foldl (fun cs (x : Value × Nat) => cs.setIfInBounds (i * sz + x.2) x.1) zc) e3 hb (by
              rw [← Array.foldl_toList, Array.toList_zipIdx, hfs]
              exact hz.set hi (flats_ok hfl hcs) (by simpa using hsz) (ones_ok hcs hone))
            refine ⟨c, ?_, h2, by rw [h3]; simp⟩
            simp only [List.map_cons, Instr.fill]
            rw [if_neg]
            · exact h1
            · simp; omega
          · cases hb
        · cases hb
      · cases hb
    · cases hp

theorem made_rows {z : List AV} {zc : Array Value} {sz n : Nat} (hz : ∀ (φ : Fz) (σ : Sg), VRs φ σ z zc.toList) (hl : z.length = sz) (h0 : 0 < sz) (h1 : z.all one = true) :
    RowsAre φ sz (List.replicate n z) (madeCells zc (n * sz)).toList := by
  have hzs : zc.size = sz := by rw [← hl]; simpa using (hz φ noS).length.symm
  have hget : ∀ q, q < n * sz → (madeCells zc (n * sz)).toList[q]? = zc.toList[q % sz]? := by
    intro q hq
    have hlt : q % zc.size < zc.size := by rw [hzs]; exact Nat.mod_lt _ h0
    simp [madeCells, hq, hzs]
    rw [hzs] at hlt
    have hlt' : q % sz < zc.size := by omega
    simp [getElem!_def, hlt']
  refine ⟨by simp [size_madeCells], fun u hu => ?_, fun i y hy => ?_⟩
  · obtain ⟨q, hq⟩ := List.getElem?_of_mem hu
    have hlt : q < n * sz := by
      rcases Nat.lt_or_ge q (n * sz) with h | h
      · exact h
      · rw [List.getElem?_eq_none (by simp [size_madeCells]; exact h)] at hq; cases hq
    rw [hget q hlt] at hq
    exact ones_ok (hz φ noS) h1 u (List.mem_of_getElem? hq)
  · rw [List.getElem?_replicate] at hy
    split at hy
    · rename_i hi
      cases hy
      have hm : i * sz + sz ≤ n * sz := by rw [← Nat.succ_mul]; exact Nat.mul_le_mul_right _ hi
      have : ((madeCells zc (n * sz)).toList.drop (i * sz)).take sz = zc.toList := by
        apply List.ext_getElem?
        intro q
        rw [List.getElem?_take]
        split
        · rename_i hq
          rw [List.getElem?_drop, hget _ (by omega), Nat.mul_comm, Nat.mul_add_mod, Nat.mod_eq_of_lt hq]
        · rw [List.getElem?_eq_none (by simp; omega)]
      rw [this]; exact hz φ noS
    · cases hy

theorem ok_bsl (hI : Inv φ σ m w) (ht : TR φ σ t a.tmps) {o : Oper} {ty e : TypeId} {n sz : Nat} {z : List AV} {parts : Array (Nat × Operand)} {ps : List (Nat × Opd)} (ho : o.op = .buildSlice ty n parts)
    (hu : P.underlying ty = some (.slice e)) (hs : szT P e = some sz) (hz : zeroT P e = some z) (hp : cParts1 parts.toList = some ps) (hn : n * sz ≤ 2 ^ 24) (hl : z.length = sz) (h0 : 0 < sz) (h1 : z.all one = true)
    (he : ao (.bsl sz z n ps) t m = some (p, v, m')) : OpOk P o a φ σ m w v m' := by
  simp only [ao, repN_eq] at he
  split at he
  rotate_left
  · cases he
  rename_i rows hrows
  obtain ⟨it, zv, hi, hzv, hzr⟩ := zeroT_ok hz
  have hmr := made_rows (φ := φ) (n := n) hzr hl h0 h1
  obtain ⟨c, g1, g2, g3⟩ := slits_ok ht hp hrows hmr
  have hrl : rows.length = n := by rw [g3]; simp
  have hsz : it.size = sz := by simpa [szT, hi] using hs
  have hrun : (execOp a.eval o).run P w = .ok (.value (.slice (some ⟨w.heap.size, 0, none⟩) n n)) (w.alloc (.cells c e)) := by
    have hfill : Instr.fill (fun i => some (i * it.size, it.size)) (madeCells zv.cells (n * it.size)) (parts.toList.map fun x => (x.1, a.eval x.2)) = some c := by rw [hsz]; exact g1
    have hbig : ¬ (n * it.size > 2 ^ 24) := by rw [hsz]; omega
    have hmap : (parts.map fun (x : Nat × Operand) => match x with | (i, x) => (i, a.eval x)).toList = parts.toList.map fun x => (x.1, a.eval x.2) := by simp
    have hty : ∀ W : World, (typeInfo e).run P W = .ok it W := fun W => by simp [typeInfo, hi]
    have hzv' : ∀ W : World, (zeroValue e).run P W = .ok zv W := fun W => by simp [zeroValue, typeInfo, hi, hzv]
    have hss : ∀ W : World, (sizeOf e).run P W = .ok it.size W := fun W => size_run (by simp [szT, hi])
    simp only [execOp, ho, Instr.buildSlice, Sem.run_bind, und_run hu, Result.andThen_ok, hss, hbig, if_false, Sem.run_pure]
    by_cases hz0 : n * it.size = 0
    · rw [if_pos hz0]
      have hm0 : (Array.range (n * it.size)).map (fun x => (#[] : Array Value)[x % (#[] : Array Value).size]!) = madeCells zv.cells (n * it.size) := by
        rw [hz0]; simp [madeCells]
      have hf0 := hfill
      rw [← hm0] at hf0
      simp only [pure_bind, Array.toList_map, hf0, Sem.run_bind, newRow, run_newObj, Result.andThen_ok, Sem.run_pure]
      rfl
    · rw [if_neg hz0]
      have hf0 := hfill
      unfold madeCells at hf0
      simp only [pure_bind, bind_assoc, Sem.run_bind, hzv', Result.andThen_ok, Array.toList_map, hf0, newRow, run_newObj, Sem.run_pure]
      rfl
  have hce : (φ.upd w.heap.size (.cells c e)) w.heap.size = some (.cells c e) := by simp [Fz.upd]
  have hst := hI.ice (.cells c e)
  split at he
  · cases he
    have hn0 : n = 0 := by rw [← hrl]; rfl
    subst hn0
    exact ⟨_, _, _, _, .inl hrun, hst, .nilsl⟩
  · cases he
    refine ⟨_, _, _, _, .inl hrun, hst, ?_⟩
    have := VR.vsl (φ := φ.upd w.heap.size (.cells c e)) (σ := σ) (sz := sz) (xs := rows) (tight := true) (B := w.heap.size) (o := 0) (cap' := rows.length) hce
      (by have := g2.1; simp at this; omega) (fun q u _ q2 qu => g2.2.1 u (List.mem_of_getElem? (by simpa using qu))) (fun i x hx => by
        simp only [Nat.zero_add]; exact (g2.2.2 i x hx).mono hst.fz (Sg.le_refl _)) (Nat.le_refl _) (fun _ => rfl)
    rw [hrl] at this
    exact this

theorem ok_mksl (hI : Inv φ σ m w) (ht : TR φ σ t a.tmps) {o : Oper} {ty e : TypeId} {sz : Nat} {z : List AV} {i : TypeInfo} {l c : Operand} {l' c' : Opd} (ho : o.op = .makeSlice ty l c) (hl' : cOpd l = some l') (hc' : cOpd c = some c')
    (hu : P.underlying ty = some (.slice e)) (hs : szT P e = some sz) (hz : zeroT P e = some z) (hi : P.info? e = some i) (hl : z.length = sz) (h0 : 0 < sz) (hb : i.bytes ≤ 1024) (h1 : z.all one = true)
    (he : ao (.mksl sz z i.bytes l' c') t m = some (p, v, m')) (hp : p) : OpOk P o a φ σ m w v m' := by
  simp only [ao] at he
  split at he
  rotate_left
  · cases he
  rename_i x y e1 e2
  cases he
  obtain ⟨hx0, rfl, hsm⟩ := hp
  have v1 := ev_ok ht hl' e1
  have v2 := ev_ok ht hc' e2
  generalize hg1 : a.eval l = vl at v1
  generalize hg2 : a.eval c = vc at v2
  cases v1; cases v2
  obtain ⟨it, zv, hi', hzv, hzr⟩ := zeroT_ok hz
  rw [hi] at hi'; cases hi'
  have hsz : i.size = sz := by simpa [szT, hi] using hs
  unfold small at hsm
  have hbytes : (i.bytes : Int) * x ≤ 281474976710656 := by
    have : (i.bytes : Int) * x ≤ 1024 * 2 ^ 30 := Int.mul_le_mul (by omega) (by omega) hx0 (by omega)
    omega
  have hrun := run_make (P := P) w ty e i zv hu hi hzv .i64 .i64 x x hx0 (Int.le_refl _) hbytes (by omega)
  have hmr := made_rows (φ := φ) (n := x.toNat) hzr hl h0 h1
  rw [hsz] at hrun
  obtain ⟨φ', σ', g1, g2⟩ := row_ok (w' := w.alloc (.cells (madeCells zv.cells (x.toNat * sz)) e)) (fr := (0, 0)) (sz := sz) (n := x.toNat) (xs := List.replicate x.toNat z) (cap := x.toNat) (m1 := m) hI
    (fun B hB => alloc_old hB) (by simp) ⟨rfl, rfl, rfl⟩ alloc_new (fun q _ => by simp) rfl (fun _ _ h _ => h) (by simp) (Nat.le_refl _) (size_madeCells _ _)
    (fun q u _ q2 qu => hmr.2.1 u (List.mem_of_getElem? (by simpa using qu))) hmr.2.2
  refine ⟨_, _, φ', σ', .inl ?_, g1, g2 0 x.toNat x.toNat false (Nat.le_refl _) (by omega) (Nat.le_refl _) (by simp)⟩
  simp only [execOp, ho, Sem.run_bind, hg1, hg2]
  rw [hrun]; rfl

theorem ok_cvs (hI : Inv φ σ m w) (ht : TR φ σ t a.tmps) {o : Oper} {s d e : TypeId} {x : Operand} {y : Opd} (ho : o.op = .convert s d x) (hx : cOpd x = some y)
    (hs : P.underlying s = some .string) (hd : P.underlying d = some (.slice e)) (hel : P.underlying e = some (.int .u8)) (he : ao (.cvs y) t m = some (p, v, m')) : OpOk P o a φ σ m w v m' := by
  simp only [ao] at he
  split at he
  rotate_left
  · cases he
  rename_i l hu
  have hv := ev_ok ht hx hu
  cases he
  generalize hg : a.eval x = vx at hv
  cases hv
  have hrun := Lib.run_convert_string_bytes w s d e ⟨l.toArray⟩ hs hd hel
  have hcells : (Lib.bytesCells w e ⟨l.toArray⟩).toList = (l.map fun b => Value.int .u8 b.toNat) ++ List.replicate (grownCap w l.length 0 e - l.length) (.int .u8 0) := by
    simp [Lib.bytesCells, size_mk]
  have hge : l.length ≤ grownCap w l.length 0 e := gc_le
  have hrows := bytes_rows (φ := φ) l
  obtain ⟨φ', σ', g1, g2⟩ := row_ok (w' := Lib.bytesWorld w e ⟨l.toArray⟩) (c := Lib.bytesCells w e ⟨l.toArray⟩) (e := e) (fr := ((Lib.bytesCells w e ⟨l.toArray⟩).size, (Lib.bytesCells w e ⟨l.toArray⟩).size + 1)) (sz := 1) (n := l.length) (xs := bytes l) (cap := grownCap w l.length 0 e) (m1 := m) hI
    (fun B hB => Lib.bytesWorld_at_old w e _ B hB) (by rw [Lib.bytesWorld_size]; omega) ⟨rfl, rfl, rfl⟩ (Lib.bytesWorld_at_new w e _) (fun q hq => by simp; omega) rfl (fun _ _ h _ => h) (by simp [bytes]) hge
    (by have := congrArg List.length hcells; simp at this; rw [this]; omega)
    (fun q u _ q2 qu => by
      have hq : q < l.length := by simpa [bytes] using q2
      have : (Lib.bytesCells w e ⟨l.toArray⟩).toList[q]? = some u := by simpa using qu
      rw [hcells, List.getElem?_append_left (by simpa using hq)] at this
      exact hrows.2.1 u (List.mem_of_getElem? this))
    (fun i x hx => by
      have hi : i < l.length := by
        rcases Nat.lt_or_ge i l.length with h | h
        · exact h
        · rw [List.getElem?_eq_none (by simpa [bytes] using h)] at hx; cases hx
      rw [hcells, List.drop_append_of_le_length (by simp; omega), List.take_append_of_le_length (by simp; omega)]
      exact hrows.2.2 i x hx)
  refine ⟨_, _, φ', σ', .inl ?_, g1, g2 0 l.length l.length false (Nat.le_refl _) (by omega) hge (by simp)⟩
  simp only [execOp, ho, Sem.run_bind, hg]
  rw [hrun, size_mk]; rfl

theorem u8_cells : ∀ {ys : List (List AV)} {cl : List Value}, RowsAre φ 1 ys cl → allU8 ys → ∃ ns : List Int, cl = ns.map (Value.int .u8) ∧ toBytes ys = ns.map fun n => UInt8.ofNat n.toNat := by
  intro ys cl h hu
  have hl := h.1
  rw [Nat.mul_one] at hl
  refine ⟨ys.map fun x => match x with | [.int _ n] => n | _ => 0, ?_, ?_⟩
  · apply List.ext_getElem?
    intro i
    rw [List.map_map, List.getElem?_map]
    cases hy : ys[i]? with
    | none =>
      rw [List.getElem?_eq_none_iff] at hy
      rw [List.getElem?_eq_none (by omega)]; rfl
    | some y =>
      obtain ⟨n, rfl⟩ := hu y (List.mem_of_getElem? hy)
      have hr := h.2.2 i _ hy
      obtain ⟨u, g1, g2⟩ := hr.get (j := 0) rfl
      cases g2
      have := (win_get g1).1
      rw [Nat.mul_one, Nat.add_zero] at this
      rw [this]; rfl
  · simp only [toBytes, List.map_map]
    apply List.map_congr_left
    intro x hx
    obtain ⟨n, rfl⟩ := hu x hx
    rfl

theorem ok_cvb (hI : Inv φ σ m w) (ht : TR φ σ t a.tmps) {o : Oper} {s d e : TypeId} {x : Operand} {y : Opd} (ho : o.op = .convert s d x) (hx : cOpd x = some y)
    (hs : P.underlying s = some (.slice e)) (hd : P.underlying d = some .string) (hel : P.underlying e = some (.int .u8)) (he : ao (.cvb y) t m = some (p, v, m')) (hp : p) : OpOk P o a φ σ m w v m' := by
  simp only [ao] at he
  split at he
  · cases he
  · rename_i u hns hu
    have hv := ev_ok ht hx hu
    split at he
    · rename_i q ys k hel'
      cases he
      obtain ⟨hq, hall⟩ := hp
      obtain ⟨hyl, hlen, cl, hfc, hrows⟩ := elems_ok (P := P) hI hv hel' hq
      obtain ⟨ns, hcl, hby⟩ := u8_cells hrows hall
      generalize hg : a.eval x = vx at *
      have hsl : ∃ A c, vx = .slice A k c := by
        cases hv <;> first | (exact absurd rfl (hns _)) | (simp [elems] at hel'; done) | skip
        all_goals (simp only [elems] at hel'; try (split at hel' <;> try (cases hel'; done)))
        all_goals (try (split at hel' <;> try (cases hel'; done)))
        all_goals (try cases hel')
        all_goals exact ⟨_, _, rfl⟩
      obtain ⟨A, cp, rfl⟩ := hsl
      refine .pure hI (v' := .string ⟨(toBytes ys).toArray⟩) ?_ .str
      have hconv : (convert s d (.slice A k cp)).run P w = .ok (.string ⟨(toBytes ys).toArray⟩) w := by
        cases A with
        | none =>
          rw [run_convert_bytes_nil w s e hs hel k cp d hd]
          have := hfc w rfl
          simp only [Builtin.firstCells, Sem.run_pure] at this
          have hcl0 : cl = [] := by injection this with h1 h2; simpa using h1.symm
          have hys : ys = [] := by
            have := hrows.1; rw [hcl0] at this; simp at this; exact List.eq_nil_of_length_eq_zero (by omega)
          subst hys; rfl
        | some A =>
          have hload := hfc w rfl
          simp only [Builtin.firstCells, Nat.mul_one] at hload
          rw [run_convert_bytes_string w s d e _ k cp hs hel hd, run_bytesToString w _ k cp ns (by rw [hload, hcl]), foldl_push_bytes, hby]
          simp [ByteArray.empty, ByteArray.emptyWithCapacity]
          rfl
      simp only [execOp, ho, Sem.run_bind, hg]
      rw [hconv]; rfl
    · cases he
  · cases he
end Go.AE
