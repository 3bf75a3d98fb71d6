/- The abstract evaluator, part zg: a slice literal that is told as a row of one's own. -/
import Derived.Test.YtcenagdeejbmgaaAEzf
namespace Go.AE
open Go
set_option linter.unusedVariables false
set_option linter.unusedSimpArgs false

variable {P : Program} {n k0 : Nat}

theorem cO_bsl {o : Oper} {sz nn : Nat} {z : List AV} {ps : List (Nat × Opd)} (h : cO P o = some (.bsl sz z nn ps)) : ∃ ty e parts, o.op = .buildSlice ty nn parts ∧ P.underlying ty = some (.slice e) ∧ szT P e = some sz ∧ zeroT P e = some z ∧ cParts1 parts.toList = some ps ∧
    nn * sz ≤ 2 ^ 24 ∧ z.length = sz ∧ 0 < sz ∧ z.all one = true := by
  unfold cO at h
  split at h
  case h_7 ty n ps' ho =>
    split at h
    · rename_i e hu
      split at h
      · rename_i sz' z' l h1 h2 h3
        split at h
        · rename_i hc
          cases h
          exact ⟨ty, e, ps', ho, hu, h1, h2, h3, hc⟩
        · cases h
      · cases h
    · cases h
  all_goals ((repeat' split at h) <;> first | (cases h; done) | (simp at h; done))
/-- A slice literal is told as a row of one's own. -/
theorem sem_bslO {g : Option (Nat × Bool)} {d : Option Nat} {sz nn : Nat} {z : List AV} {ps : List (Nat × Opd)} {k : List C} {t : Tr} {m : Mem} {Q : Exit → Tr → Mem → Prop} (hg : gok t g = some true)
    (hk0 : match slits sz (repN nn z) ps t with | some rows => SemW P n k0 k (sp d t (.sl m.length 0 nn nn false)) (m ++ [.row sz rows]) Q | none => False) : SemW P n k0 (.op g d (.bsl sz z nn ps) :: k) t m Q := by
  cases hs : slits sz (repN nn z) ps t with
  | none => rw [hs] at hk0; exact hk0.elim
  | some rows =>
  rw [hs] at hk0
  have hk := hk0
  intro cs hcs A φ σ a w hG
  cases view_of P n _ cs _ (Nat.le_refl _) hcs with
  | op hc hr h =>
    rename_i ops i is r
    refine h _ a w ?_
    obtain ⟨o0, g', x, ho, hgd, hx, e0, hd⟩ := cOp_inv hc
    cases e0
    have hw := gok_ok hG.tr hgd hg
    obtain ⟨ty, e, parts, hop, hu, h1, h2, hp, hn, hl, h0, hone⟩ := cO_bsl hx
    obtain ⟨v', w', φ', σ', hrun, hst, hv⟩ : OpOk P o0 a φ σ m w (.sl m.length 0 nn nn false) (m ++ [.row sz rows]) := by
      rw [repN_eq] at hs
      obtain ⟨it, zv, hi, hzv, hzr⟩ := zeroT_ok h2
      have hmr := made_rows (φ := φ) (n := nn) hzr hl h0 hone
      obtain ⟨c, g1, g2, g3⟩ := slits_ok hG.tr hp hs hmr
      have hrl : rows.length = nn := by rw [g3]; simp
      have hsz : it.size = sz := by simpa [szT, hi] using h1
      have hrun : (execOp a.eval o0).run P w = .ok (.value (.slice (some ⟨w.heap.size, 0, none⟩) nn nn)) (w.alloc (.cells c e)) := by
        have hfill : Instr.fill (fun i => some (i * it.size, it.size)) (madeCells zv.cells (nn * it.size)) (parts.toList.map fun x => (x.1, a.eval x.2)) = some c := by rw [hsz]; exact g1
        have hbig : ¬ (nn * it.size > 2 ^ 24) := by rw [hsz]; omega
        have hzv' : ∀ W : World, (zeroValue e).run P W = .ok zv W := fun W => by simp [zeroValue, typeInfo, hi, hzv]
        have hss : ∀ W : World, (sizeOf e).run P W = .ok it.size W := fun W => size_run (by simp [szT, hi])
        simp only [execOp, hop, Instr.buildSlice, Sem.run_bind, und_run hu, Result.andThen_ok, hss, hbig, if_false, Sem.run_pure]
        by_cases hz0 : nn * it.size = 0
        · rw [if_pos hz0]
          have hm0 : (Array.range (nn * it.size)).map (fun x => (#[] : Array Value)[x % (#[] : Array Value).size]!) = madeCells zv.cells (nn * it.size) := by
            rw [hz0]; simp [madeCells]
          have hf0 := hfill
          rw [← hm0] at hf0
          simp only [pure_bind, Array.toList_map, hf0, Sem.run_bind, newRow, run_newObj, Result.andThen_ok, Sem.run_pure]
          rfl
        · rw [if_neg hz0]
          have hf0 := hfill
          unfold madeCells at hf0
          simp only [pure_bind, bind_assoc, Sem.run_bind, hzv', Result.andThen_ok, Array.toList_map, hf0, newRow, run_newObj, Sem.run_pure]
          rfl
      obtain ⟨φ', σ', g4, g5⟩ := row_ok (w' := w.alloc (.cells c e)) (fr := (0, 0)) (sz := sz) (n := nn) (xs := rows) (cap := nn) (m1 := m) hG.inv
        (fun B hB => alloc_old hB) (by simp) ⟨rfl, rfl, rfl⟩ alloc_new (fun q _ => by simp) rfl (fun _ _ h _ => h) hrl.symm (Nat.le_refl _) (by have := g2.1; simp at this; rw [hrl] at this; exact this)
        (fun q u _ q2 qu => g2.2.1 u (List.mem_of_getElem? (by simpa using qu))) g2.2.2
      exact ⟨_, _, φ', σ', .inl hrun, g4, g5 0 nn nn false (Nat.le_refl _) (by omega) (Nat.le_refl _) (fun e => by cases e)⟩
    have hG' := hG.put hst (d := o0.dst) (fun i hi => hd i hi) hv
    have hk' := hk _ hr A φ' σ' _ w' hG'
    show wpOps P ops _ (i :: is) a w
    simp only [wpOps, ho, hw, if_true]
    refine .inl ?_
    unfold Oper.wp
    rcases hrun with hrun | ⟨hrun, rfl⟩ <;> rw [hrun] <;> exact hk'
end Go.AE
