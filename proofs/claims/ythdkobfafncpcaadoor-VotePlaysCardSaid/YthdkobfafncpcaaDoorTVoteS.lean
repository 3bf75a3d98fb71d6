/- SortK, TVoteS. -/
import Derived.Test.YthdkobfafncpcaaDoorAEzn
import Derived.Shelf.SlIterI.Nil
import Derived.Shelf.SortM.Plain
import Derived.Shelf.SortM.SortNone
import Derived.Test.YthdkobfafncpcaaDoorProg
import Derived.KernelRfl
/- The abstract evaluator, beside it: the keys of a map, sorted. -/
namespace Go.AE
open Go Go.Proofs Go.Maps
set_option linter.unusedVariables false
set_option linter.unusedSimpArgs false

variable {P : Program}

def SortedSays (P : Program) (fS g : FuncId) (kt et : TypeId) : Prop := ∀ (w : World) (Bm b nn : Nat) (D0 : DataW Unit) (R : Value → Option (DataW Unit × List MemPlace)), w.cell? ⟨Bm, 0, none⟩ = some (.map (some b)) → Bm < w.heap.size →
  w.ownsMap P kt R b nn D0 → Maps.size D0 ≤ maxLen → Maps.size D0 * 8 ≤ 140737488355328 →
  Calls P fS #[.func (.func g) #[] #[.pointer (some ⟨Bm, 0, none⟩)]] w fun e w' => ∃ (v : Value) (ss : List Int), e = .returned v ∧ ss.Perm (intKeys D0) ∧
    w'.ownsRow w.heap.size et 1 v ss.length ((ss.mergeSort (fun x y => decide (x ≤ y))).map encZ) ∧ (v = .slice none 0 0 ↔ ss = []) ∧ Go.RowKit.Below w.heap.size w w'
def SortedSaysN (P : Program) (fS g : FuncId) : Prop := ∀ (w : World) (Bm : Nat), w.cell? ⟨Bm, 0, none⟩ = some (.map none) → Bm < w.heap.size →
  Calls P fS #[.func (.func g) #[] #[.pointer (some ⟨Bm, 0, none⟩)]] w fun e w' => e = .returned (.slice none 0 0) ∧ Go.RowKit.Below w.heap.size w w'
def sortI (l : List Int) : List Int := l.mergeSort (fun x y => decide (x ≤ y))
def keysAre (ks : List Int) (es : List (AV × AV)) : Prop := es.map (·.1) = ks.map fun k => .int .i64 k
theorem keys_fit {φ : Fz} {σ : Sg} : ∀ {es : List (AV × AV)} {ents : List MapEntry} {ks : List Int}, MR φ σ es ents → keysAre ks es → ents.map (·.key) = ks.map encZ
  | [], _, ks, .nil, h => by
    cases ks with
    | nil => rfl
    | cons k ks => simp [keysAre] at h
  | (a, b) :: es, _, ks, .cons hk hv ht, h => by
    cases ks with
    | nil => simp [keysAre] at h
    | cons k ks =>
      simp only [keysAre, List.map_cons, List.cons.injEq] at h
      obtain ⟨h1, h2⟩ := h
      simp only [List.map_cons]
      rw [keys_fit ht h2]
      subst h1
      generalize hx : MapEntry.key _ = x at hk ⊢
      cases hk
      rfl
theorem ownsMap_of {w : World} {b clock : Nat} {ents : Array MapEntry} {ks : List Int} {kt : TypeId} (hkt : P.underlying kt = some (.int .i64)) (hh : w.heap[b]? = some (.map ents clock)) (hk : ents.toList.map (·.key) = ks.map encZ)
    (hb : ∀ e ∈ ents.toList, e.born < clock) (hn : (ents.toList.map (·.born)).Nodup) (hd : ks.Nodup) (hw : ∀ k ∈ ks, (Lit.int .i64 k).wf = true) (hl : ks.length ≤ 1000000) :
    ∃ D0 : DataW Unit, w.ownsMap P kt (fun _ => some (.lit (.bool true), [])) b ents.size D0 ∧ (intKeys D0).Perm ks ∧ Maps.size D0 ≤ 1000000 := by
  have hlen : ents.toList.length = ks.length := by have := congrArg List.length hk; simpa using this
  have hread : ∀ x ∈ ents.toList, ∃ k, k ∈ ks ∧ x.key = encZ k ∧ Go.WideElems.rd (H := Unit) P kt (fun _ => some (.lit (.bool true), [])) x = some (.int .i64 k, .lit (.bool true)) := by
    intro x hx
    have : x.key ∈ ks.map encZ := by rw [← hk]; exact List.mem_map.2 ⟨x, hx, rfl⟩
    obtain ⟨k, hk1, hk2⟩ := List.mem_map.1 this
    refine ⟨k, hk1, hk2.symm, ?_⟩
    unfold Go.WideElems.rd
    rw [← hk2]
    simp [keyOf, hkt, mapKey, encZ, hw k hk1]
  refine ⟨.map ((ents.toList.map (Go.WideElems.rg P kt (fun _ => some (.lit (.bool true), [])))).foldr DataW.insert []), ⟨ents, clock, hh, ⟨?_, ⟨hb, hn, ?_⟩, fun x hx => ?_⟩, Nat.le_refl _, rfl⟩, ?_, ?_⟩
  · have : ents.size = ks.length := by rw [← hlen]; simp
    rw [this]; unfold maxLen; omega
  · rw [hk]
    rw [List.nodup_iff_pairwise_ne, List.pairwise_map]
    exact (List.nodup_iff_pairwise_ne.1 hd).imp fun h e => h (by simpa [encZ] using e)
  · obtain ⟨k, _, _, h⟩ := hread x hx
    exact ⟨_, h⟩
  · have hp : ((ents.toList.map (Go.WideElems.rg (H := Unit) P kt (fun _ => some (.lit (.bool true), [])))).foldr DataW.insert []).Perm (ents.toList.map (Go.WideElems.rg P kt (fun _ => some (.lit (.bool true), [])))) := Go.WideShapes.sorted_perm _
    show (List.map (fun p : Lit × DataW Unit => intOf p.1) _).Perm ks
    refine (hp.map _).trans ?_
    rw [List.map_map]
    have e : ents.toList.map ((fun p : Lit × DataW Unit => intOf p.1) ∘ Go.WideElems.rg P kt (fun _ => some (.lit (.bool true), []))) = ks := by
      have e1 : ents.toList.map ((fun p : Lit × DataW Unit => intOf p.1) ∘ Go.WideElems.rg P kt (fun _ => some (.lit (.bool true), []))) = (ents.toList.map (·.key)).map fun v => match v with | .int _ a => a | _ => 0 := by
        rw [List.map_map]
        apply List.map_congr_left
        intro x hx
        obtain ⟨k, _, h1, h2⟩ := hread x hx
        simp only [Function.comp, Go.WideElems.rg, h2, h1, Option.getD_some, intOf, encZ]
      rw [e1, hk, List.map_map]
      conv => rhs; rw [← List.map_id ks]
      apply List.map_congr_left
      intro k _
      rfl
    rw [e]
  · have hp : ((ents.toList.map (Go.WideElems.rg (H := Unit) P kt (fun _ => some (.lit (.bool true), [])))).foldr DataW.insert []).Perm (ents.toList.map (Go.WideElems.rg P kt (fun _ => some (.lit (.bool true), [])))) := Go.WideShapes.sorted_perm _
    show List.length _ ≤ _
    rw [hp.length_eq, List.length_map, hlen]; exact hl
theorem tri_sorted {fS g : FuncId} {kt et : TypeId} (hf : isFn P fS = true) (hS : SortedSays P fS g kt et) (hkt : P.underlying kt = some (.int .i64)) {es : List (AV × AV)} (ks : List Int) (hk : keysAre ks es) (hd : ks.Nodup)
    (hw : ∀ k ∈ ks, (Lit.int .i64 k).wf = true) (hl : ks.length ≤ 1000000) :
    Tri P fS [.fn g [] [.pbox 0 0]] [.box [.map 1], .map es] (fun v m => v = .sl 2 0 ks.length ks.length false ∧ m = [.box [.map 1], .map es, .row 1 (iv .i64 (sortI ks))]) := by
  refine ⟨hf, fun φ σ w vs hI hv => ?_⟩
  obtain ⟨img0, c, e0, fr, h1, h2, h3, h4, h5, h6⟩ := hI.blk 0 _ rfl
  obtain ⟨img1, ents, cl, g1, g2, g3, g4, g5⟩ := hI.blk 1 _ rfl
  cases hv with
  | cons hv hnil =>
    cases hnil
    cases hv with
    | fn ha hc =>
      cases ha
      cases hc with
      | cons hp hnil =>
        cases hnil
        cases hp with
        | pbox hσ =>
          rw [h1] at hσ
          cases hσ
          have hcell : w.cell? ⟨img0.B, 0, none⟩ = some (.map (some img1.B)) := by
            unfold World.cell?
            rw [h3]
            have hl2 : c.toList = [.map (some img1.B)] := by
              generalize c.toList = l at h5
              cases h5 with
              | cons hm hn =>
                cases hn
                cases hm with
                | map hs => rw [g1] at hs; cases hs; rfl
            have : c[0]? = c.toList[0]? := by simp
            simp only [Option.isSome_none, Bool.false_eq_true, if_false]
            rw [this, hl2]; rfl
          have hB0 := hI.lt (b := 0) rfl rfl h1
          obtain ⟨D0, q1, q2, q3⟩ := ownsMap_of hkt g2 (keys_fit g3 hk) g4 g5 hd hw hl
          have hcall := hS w img0.B img1.B ents.size D0 _ hcell hB0 q1 (by unfold maxLen; omega) (by omega)
          simp only [h2, Nat.add_zero]
          refine hcall.mono ?_
          rintro e w' ⟨v, ss, rfl, r1, r2, r3, r4⟩
          have hperm : ss.Perm ks := r1.trans q2
          have hlen := hperm.length_eq
          have hsort : ss.mergeSort (fun x y => decide (x ≤ y)) = sortI ks := mergeSort_of_perm_i hperm
          rw [hsort] at r2
          have hsl : (sortI ks).length = ks.length := List.length_mergeSort _
          have hN : σ 2 = none := hI.fresh 2 (by simp)
          rcases r2.2 with ⟨rfl, hz⟩ | ⟨gb, cap, cur, rfl, hbase, hgb, s1, s2, s3, s4⟩
          · -- no keys
            have hks : ks = [] := by rw [hlen] at hz; exact List.eq_nil_of_length_eq_zero hz
            subst hks
            have hse : sortI [] = [] := by simp [sortI]
            rw [hse]
            refine ⟨_, rfl, φ, σ, .sl 2 0 0 0 false, _, ⟨rfl, rfl⟩, ?_, .sl0⟩
            refine hI.change w'.heap.size 2 (Sg.le_refl σ) r4.size (fun B _ hB => r4.block B hB) ?_ (.inr r4.size) (fun b hb => hI.fresh b (by simp at hb ⊢; omega)) (fun _ _ => rfl) (by simp) ⟨r4.os, r4.tape, r4.output⟩ ?_ ?_
            · cases hx : φ w'.heap.size with
              | none => rfl
              | some o => have := hI.fz_lt hx; have := r4.size; omega
            · intro b k hb hk hne
              have : b < 2 := by
                rcases Nat.lt_or_ge b 2 with h | h
                · exact h
                · rcases Nat.lt_or_ge b 3 with h' | h'
                  · omega
                  · rw [List.getElem?_eq_none (by simp; omega)] at hb; cases hb
              have hb2 : ([.box [.map 1], .map es] : Mem)[b]? = some k := by
                rcases b with _ | _ | b
                · exact hb
                · exact hb
                · omega
              refine ⟨hb2, rfl, fun i hi => ?_⟩
              have := hI.lt hb2 hk hi; have := r4.size; omega
            · intro k hb _
              simp at hb; subst hb
              exact ⟨.inl ⟨rfl, hN⟩, fun i hi => by rw [hN] at hi; cases hi⟩
          · have hcs : cur.size = cap := by omega
            refine ⟨_, rfl, φ, σ.upd 2 (some ⟨gb, 0, 1, cap⟩), .sl 2 0 ks.length ks.length false, _, ⟨rfl, rfl⟩, ?_, ?_⟩
            · refine hI.change gb 2 (Sg.upd_le hN) r4.size (fun B _ hB => r4.block B hB) ?_ (.inr hbase) (fun b hb => ?_) (fun b hb => ?_) (by simp) ⟨r4.os, r4.tape, r4.output⟩ ?_ ?_
              · cases hx : φ gb with
                | none => rfl
                | some o => have := hI.fz_lt hx; omega
              · simp at hb
                have : b ≠ 2 := by omega
                simp only [Sg.upd, this, if_false]; exact hI.fresh b (by simp; omega)
              · simp at hb
                have : b ≠ 2 := by omega
                simp only [Sg.upd, this, if_false]
              · intro b k hb hk hne
                have : b < 2 := by
                  rcases Nat.lt_or_ge b 2 with h | h
                  · exact h
                  · rcases Nat.lt_or_ge b 3 with h' | h'
                    · omega
                    · rw [List.getElem?_eq_none (by simp; omega)] at hb; cases hb
                have hb2 : ([.box [.map 1], .map es] : Mem)[b]? = some k := by
                  rcases b with _ | _ | b
                  · exact hb
                  · exact hb
                  · omega
                refine ⟨hb2, by simp only [Sg.upd, hne, if_false], fun i hi => ?_⟩
                have := hI.lt hb2 hk hi; omega
              · intro k hb _
                simp at hb; subst hb
                refine ⟨.inr ⟨⟨gb, 0, 1, cap⟩, cur, et, (0, 0), by simp [Sg.upd], rfl, hgb, by simpa using hcs, ?_, ?_, ?_, ?_⟩, fun i hi => by simp [Sg.upd] at hi; rw [← hi]⟩
                · simp [iv, hsl]; omega
                · intro p u hp1 hp2 hu
                  have hpn : p < ss.length := by simp [iv, hsl] at hp2; omega
                  have : (cur.toList.take (ss.length * 1))[p]? = some u := by
                    rw [List.getElem?_take_of_lt (by omega)]; simpa using hu
                  rw [s4, List.getElem?_map, Option.map_eq_some_iff] at this
                  obtain ⟨z, _, rfl⟩ := this
                  rfl
                · intro i x hx
                  simp only [iv, List.getElem?_map, Option.map_eq_some_iff] at hx
                  obtain ⟨z, hz, rfl⟩ := hx
                  have hil : i < ss.length := by
                    rw [hlen, ← hsl]
                    rcases Nat.lt_or_ge i (sortI ks).length with h | h
                    · exact h
                    · rw [List.getElem?_eq_none h] at hz; cases hz
                  have h0 : cur.toList[i]? = some (encZ z) := by
                    have : (cur.toList.take (ss.length * 1))[i]? = some (encZ z) := by rw [s4, List.getElem?_map, hz]; rfl
                    rwa [List.getElem?_take_of_lt (by omega)] at this
                  have h1 : (cur.toList.drop (0 + i * 1)).take 1 = [encZ z] := by
                    rw [show 0 + i * 1 = i by omega]
                    have hlt : i < cur.toList.length := by
                      rcases Nat.lt_or_ge i cur.toList.length with h | h
                      · exact h
                      · rw [List.getElem?_eq_none h] at h0; cases h0
                    rw [List.drop_eq_getElem_cons hlt, List.take_succ_cons, List.take_zero]
                    rw [List.getElem?_eq_getElem hlt] at h0
                    rw [Option.some.inj h0]
                  rw [h1]
                  exact .cons .int .nil
                · intro p hp; simp
            · have hle : ks.length ≤ cap := by omega
              rw [hlen]
              have := VR.sl (φ := φ) (σ := σ.upd 2 (some ⟨gb, 0, 1, cap⟩)) (b := 2) (i := 0) (len := ks.length) (cap := ks.length) (cap' := cap) (tight := false) (img := ⟨gb, 0, 1, cap⟩) (by simp [Sg.upd]) (Nat.le_refl _) hle (fun h => by cases h) (by simp)
              simpa using this
end Go.AE

/- slices.Sorted(maps.Keys(m)), out of the shelf (the layings printed by the kit's tool for this seat). -/
namespace Go.Proofs
open Go.Shelf
def TrydL.keys53_ren : Go.Shelf.Ren := ⟨fun | 7 => 54 | 10 => 58 | n => n, fun | 23 => 70 | 26 => 3 | 3 => 4 | 28 => 90 | 0 => 0 | 27 => 89 | 33 => 50 | 4 => 4 | n => n, fun | n => n⟩
theorem TrydL.keys53 : Go.Proofs.SlLaysZI.n7 Tryd.prog TrydL.keys53_ren := {
  mixed := by kernel_rfl
  f7 := ⟨Tryd.f54.name, by decide, Tryd.func54.trans (congrArg some (by kernel_rfl))⟩
  f10 := ⟨Tryd.f58.name, by decide, Tryd.func58.trans (congrArg some (by kernel_rfl))⟩
  t0 := Tryd.underlying0
  a0 := Tryd.isAgg0
  z0 := Tryd.sizeOf0
  v0 := Tryd.zeroValue0
  t4 := Tryd.underlying4
  a4 := Tryd.isAgg4
  z4 := Tryd.sizeOf4
  v4 := Tryd.zeroValue4
  t23 := Tryd.underlying70
  a23 := Tryd.isAgg70
  z23 := Tryd.sizeOf70
  v23 := Tryd.zeroValue70
  t26 := Tryd.underlying3
  a26 := Tryd.isAgg3
  z26 := Tryd.sizeOf3
  v26 := Tryd.zeroValue3
  t27 := Tryd.underlying89
  a27 := Tryd.isAgg89
  z27 := Tryd.sizeOf89
  v27 := Tryd.zeroValue89
  t28 := Tryd.underlying90
  a28 := Tryd.isAgg90
  z28 := Tryd.sizeOf90
  v28 := Tryd.zeroValue90
  t33 := Tryd.underlying50
  a33 := Tryd.isAgg50
  z33 := Tryd.sizeOf50
  v33 := Tryd.zeroValue50 }
def TrydL.keys51_ren : Go.Shelf.Ren := ⟨fun | 7 => 43 | 10 => 51 | n => n, fun | 23 => 66 | 26 => 3 | 3 => 70 | 28 => 90 | 0 => 0 | 27 => 89 | 33 => 50 | 4 => 4 | n => n, fun | n => n⟩
theorem TrydL.keys51 : Go.Proofs.SlLaysZI.n7 Tryd.prog TrydL.keys51_ren := {
  mixed := by kernel_rfl
  f7 := ⟨Tryd.f43.name, by decide, Tryd.func43.trans (congrArg some (by kernel_rfl))⟩
  f10 := ⟨Tryd.f51.name, by decide, Tryd.func51.trans (congrArg some (by kernel_rfl))⟩
  t0 := Tryd.underlying0
  a0 := Tryd.isAgg0
  z0 := Tryd.sizeOf0
  v0 := Tryd.zeroValue0
  t4 := Tryd.underlying4
  a4 := Tryd.isAgg4
  z4 := Tryd.sizeOf4
  v4 := Tryd.zeroValue4
  t23 := Tryd.underlying66
  a23 := Tryd.isAgg66
  z23 := Tryd.sizeOf66
  v23 := Tryd.zeroValue66
  t26 := Tryd.underlying3
  a26 := Tryd.isAgg3
  z26 := Tryd.sizeOf3
  v26 := Tryd.zeroValue3
  t27 := Tryd.underlying89
  a27 := Tryd.isAgg89
  z27 := Tryd.sizeOf89
  v27 := Tryd.zeroValue89
  t28 := Tryd.underlying90
  a28 := Tryd.isAgg90
  z28 := Tryd.sizeOf90
  v28 := Tryd.zeroValue90
  t33 := Tryd.underlying50
  a33 := Tryd.isAgg50
  z33 := Tryd.sizeOf50
  v33 := Tryd.zeroValue50 }
def TrydL.sorted44_ren : Go.Shelf.Ren := ⟨fun | 6 => 42 | 8 => 49 | 9 => 50 | 11 => 55 | 13 => 57 | 12 => 56 | 23 => 68 | 24 => 69 | 14 => 59 | 15 => 60 | 16 => 61 | 17 => 62 | 18 => 63 | 19 => 64 | 20 => 65 | 21 => 66 | 22 => 67 | 25 => 70 | 26 => 71 | 27 => 72 | 28 => 73 | 29 => 74 | 30 => 75 | 31 => 76 | n => n, fun | 26 => 3 | 28 => 90 | 24 => 22 | 0 => 0 | 3 => 3 | 37 => 102 | 48 => 27 | 50 => 113 | 4 => 4 | 40 => 106 | 39 => 105 | 45 => 93 | 5 => 5 | 9 => 9 | 51 => 114 | 55 => 118 | 57 => 120 | 58 => 121 | 33 => 50 | n => n, fun | n => n⟩
theorem TrydL.sorted44 : Go.Proofs.SlLaysZI.n6 Tryd.prog TrydL.sorted44_ren := {
  mixed := by kernel_rfl
  f6 := ⟨Tryd.f42.name, by decide, Tryd.func42.trans (congrArg some (by kernel_rfl))⟩
  f8 := ⟨Tryd.f49.name, by decide, Tryd.func49.trans (congrArg some (by kernel_rfl))⟩
  f11 := ⟨Tryd.f55.name, by decide, Tryd.func55.trans (congrArg some (by kernel_rfl))⟩
  t0 := Tryd.underlying0
  a0 := Tryd.isAgg0
  z0 := Tryd.sizeOf0
  v0 := Tryd.zeroValue0
  t24 := Tryd.underlying22
  a24 := Tryd.isAgg22
  z24 := Tryd.sizeOf22
  v24 := Tryd.zeroValue22
  t26 := Tryd.underlying3
  a26 := Tryd.isAgg3
  z26 := Tryd.sizeOf3
  v26 := Tryd.zeroValue3
  t28 := Tryd.underlying90
  a28 := Tryd.isAgg90
  z28 := Tryd.sizeOf90
  v28 := Tryd.zeroValue90
  i26 := by kernel_rfl }
def TrydL.sort57_ren : Go.Shelf.Ren := ⟨fun | 5 => 50 | 8 => 57 | 7 => 56 | 19 => 68 | 20 => 69 | 10 => 59 | 11 => 60 | 12 => 61 | 13 => 62 | 14 => 63 | 15 => 64 | 16 => 65 | 17 => 66 | 18 => 67 | 30 => 70 | 31 => 71 | 32 => 72 | 33 => 73 | 34 => 74 | 35 => 75 | 40 => 76 | n => n, fun | 23 => 22 | 25 => 3 | 3 => 3 | 32 => 102 | 22 => 22 | 0 => 0 | 44 => 27 | 46 => 113 | 4 => 4 | 36 => 106 | 35 => 105 | 41 => 93 | 5 => 5 | 9 => 9 | 53 => 114 | 57 => 118 | 63 => 120 | 64 => 121 | n => n, fun | n => n⟩
theorem TrydL.sort57 : Go.Proofs.SlLaysM.n5 Tryd.prog TrydL.sort57_ren := {
  mixed := by kernel_rfl
  f5 := ⟨Tryd.f50.name, by decide, Tryd.func50.trans (congrArg some (by kernel_rfl))⟩
  f7 := ⟨Tryd.f56.name, by decide, Tryd.func56.trans (congrArg some (by kernel_rfl))⟩
  f8 := Tryd.func57.trans (congrArg some (by kernel_rfl))
  f10 := ⟨Tryd.f59.name, by decide, Tryd.func59.trans (congrArg some (by kernel_rfl))⟩
  f11 := ⟨Tryd.f60.name, by decide, Tryd.func60.trans (congrArg some (by kernel_rfl))⟩
  f12 := ⟨Tryd.f61.name, by decide, Tryd.func61.trans (congrArg some (by kernel_rfl))⟩
  f13 := ⟨Tryd.f62.name, by decide, Tryd.func62.trans (congrArg some (by kernel_rfl))⟩
  f14 := ⟨Tryd.f63.name, by decide, Tryd.func63.trans (congrArg some (by kernel_rfl))⟩
  f15 := ⟨Tryd.f64.name, by decide, Tryd.func64.trans (congrArg some (by kernel_rfl))⟩
  f16 := ⟨Tryd.f65.name, by decide, Tryd.func65.trans (congrArg some (by kernel_rfl))⟩
  f17 := ⟨Tryd.f66.name, by decide, Tryd.func66.trans (congrArg some (by kernel_rfl))⟩
  f18 := ⟨Tryd.f67.name, by decide, Tryd.func67.trans (congrArg some (by kernel_rfl))⟩
  f19 := Tryd.func68.trans (congrArg some (by kernel_rfl))
  f20 := Tryd.func69.trans (congrArg some (by kernel_rfl))
  f30 := ⟨Tryd.f70.name, by decide, Tryd.func70.trans (congrArg some (by kernel_rfl))⟩
  f31 := Tryd.func71.trans (congrArg some (by kernel_rfl))
  f32 := Tryd.func72.trans (congrArg some (by kernel_rfl))
  f33 := ⟨Tryd.f73.name, by decide, Tryd.func73.trans (congrArg some (by kernel_rfl))⟩
  f34 := ⟨Tryd.f74.name, by decide, Tryd.func74.trans (congrArg some (by kernel_rfl))⟩
  f35 := ⟨Tryd.f75.name, by decide, Tryd.func75.trans (congrArg some (by kernel_rfl))⟩
  f40 := ⟨Tryd.f76.name, by decide, Tryd.func76.trans (congrArg some (by kernel_rfl))⟩
  t0 := Tryd.underlying0
  a0 := Tryd.isAgg0
  z0 := Tryd.sizeOf0
  v0 := Tryd.zeroValue0
  t3 := Tryd.underlying3
  a3 := Tryd.isAgg3
  z3 := Tryd.sizeOf3
  v3 := Tryd.zeroValue3
  t4 := Tryd.underlying4
  a4 := Tryd.isAgg4
  z4 := Tryd.sizeOf4
  v4 := Tryd.zeroValue4
  t5 := Tryd.underlying5
  a5 := Tryd.isAgg5
  z5 := Tryd.sizeOf5
  v5 := Tryd.zeroValue5
  t9 := Tryd.underlying9
  a9 := Tryd.isAgg9
  z9 := Tryd.sizeOf9
  v9 := Tryd.zeroValue9
  t22 := Tryd.underlying22
  a22 := Tryd.isAgg22
  z22 := Tryd.sizeOf22
  v22 := Tryd.zeroValue22
  t23 := Tryd.underlying22
  a23 := Tryd.isAgg22
  z23 := Tryd.sizeOf22
  v23 := Tryd.zeroValue22
  t25 := Tryd.underlying3
  a25 := Tryd.isAgg3
  z25 := Tryd.sizeOf3
  v25 := Tryd.zeroValue3
  t32 := Tryd.underlying102
  a32 := Tryd.isAgg102
  z32 := Tryd.sizeOf102
  v32 := Tryd.zeroValue102
  t35 := Tryd.underlying105
  a35 := Tryd.isAgg105
  z35 := Tryd.sizeOf105
  v35 := Tryd.zeroValue105
  t36 := Tryd.underlying106
  a36 := Tryd.isAgg106
  z36 := Tryd.sizeOf106
  v36 := Tryd.zeroValue106
  t41 := Tryd.underlying93
  a41 := Tryd.isAgg93
  z41 := Tryd.sizeOf93
  v41 := Tryd.zeroValue93
  t44 := Tryd.underlying27
  a44 := Tryd.isAgg27
  z44 := Tryd.sizeOf27
  v44 := Tryd.zeroValue27
  t46 := Tryd.underlying113
  a46 := Tryd.isAgg113
  z46 := Tryd.sizeOf113
  v46 := Tryd.zeroValue113
  t53 := Tryd.underlying114
  a53 := Tryd.isAgg114
  z53 := Tryd.sizeOf114
  v53 := Tryd.zeroValue114
  t57 := Tryd.underlying118
  a57 := Tryd.isAgg118
  z57 := Tryd.sizeOf118
  v57 := Tryd.zeroValue118
  t63 := Tryd.underlying120
  a63 := Tryd.isAgg120
  z63 := Tryd.sizeOf120
  v63 := Tryd.zeroValue120
  t64 := Tryd.underlying121
  a64 := Tryd.isAgg121
  z64 := Tryd.sizeOf121
  v64 := Tryd.zeroValue121 }
theorem TrydL.sorts44 (m : Nat) : AnyZI.SortsIn Tryd.prog TrydL.sorted44_ren Fence.wide m :=
  ⟨fun blk off cap ss W hH hblk hsz => callsIn_wide.2 (AnyM.slices_Sort_int TrydL.sort57 blk off cap ss W hH hblk hsz),
   fun p cap W => callsIn_wide.2 (AnyM.slices_Sort_int_none TrydL.sort57 p cap W)⟩
set_option maxHeartbeats 1000000 in
theorem TrydL.says53 : Go.AE.SortedSays Tryd.prog 42 58 3 3 := fun w Bm b nn D0 R hcell hBm hown hmax hbytes => by
  refine (callsIn_wide (n := 5)).1 ?_
  have hseq : SeqGives Fence.wide 2 Tryd.prog 58 #[.pointer (some ⟨Bm, 0, none⟩)] encZ (fun ss => ss.Perm (intKeys D0)) (Maps.size D0) w :=
    AnyZI.keys_gives (ρ := TrydL.keys53_ren) { TrydL.keys53 with } Fence.wide _ trivial rfl (by omega) Bm b nn D0 w hBm hcell hown
  exact AnyZI.sorted_in TrydL.sorted44 Fence.wide 5 trivial trivial trivial trivial rfl (by omega) (TrydL.sorts44 _) (enters_of Tryd.func50 (by kernel_rfl) rfl) 58 #[.pointer (some ⟨Bm, 0, none⟩)] trivial (enters_of Tryd.func58 (by kernel_rfl) rfl) _ _ hmax hbytes w hseq
set_option maxHeartbeats 1000000 in
theorem TrydL.says51 : Go.AE.SortedSays Tryd.prog 42 51 3 3 := fun w Bm b nn D0 R hcell hBm hown hmax hbytes => by
  refine (callsIn_wide (n := 5)).1 ?_
  have hseq : SeqGives Fence.wide 2 Tryd.prog 51 #[.pointer (some ⟨Bm, 0, none⟩)] encZ (fun ss => ss.Perm (intKeys D0)) (Maps.size D0) w :=
    AnyZI.keys_gives (ρ := TrydL.keys51_ren) { TrydL.keys51 with } Fence.wide _ trivial rfl (by omega) Bm b nn D0 w hBm hcell hown
  exact AnyZI.sorted_in TrydL.sorted44 Fence.wide 5 trivial trivial trivial trivial rfl (by omega) (TrydL.sorts44 _) (enters_of Tryd.func50 (by kernel_rfl) rfl) 51 #[.pointer (some ⟨Bm, 0, none⟩)] trivial (enters_of Tryd.func51 (by kernel_rfl) rfl) _ _ hmax hbytes w hseq
end Go.Proofs
