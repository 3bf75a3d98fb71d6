/- The abstract evaluator: AEzo in one. -/
import Derived.Test.YthdkobfafncpcaaDoorAEzn
/- The abstract evaluator, part zo: a front that stays, and a few blocks behind it that move. -/
namespace Go.AE
open Go
set_option linter.unusedVariables false
set_option linter.unusedSimpArgs false

variable {P : Program} {n k0 : Nat}

theorem mg_app : ∀ (A ex : Mem) (j : Nat), mg (A ++ ex) (A.length + j) = mg ex j
  | [], ex, j => by simp
  | a :: A, ex, j => by
    have := mg_app A ex j
    rw [List.length_cons, show A.length + 1 + j = (A.length + j) + 1 by omega]
    exact this
theorem mg_app0 (A ex : Mem) : mg (A ++ ex) A.length = mg ex 0 := mg_app A ex 0
theorem ms_app : ∀ (A ex : Mem) (j : Nat) (x : Blk), ms (A ++ ex) (A.length + j) x = A ++ ms ex j x
  | [], ex, j, x => by simp
  | a :: A, ex, j, x => by
    have := ms_app A ex j x
    rw [List.length_cons, show A.length + 1 + j = (A.length + j) + 1 by omega]
    simp only [List.cons_append, ms, this]
theorem ms_app0 (A ex : Mem) (x : Blk) : ms (A ++ ex) A.length x = A ++ ms ex 0 x := ms_app A ex 0 x
theorem rid_pre {n N b : Nat} {π : List Nat} (h : b < n) : rid (idl n 0 ++ π) N b = b := by
  obtain ⟨p, h1, h2⟩ := rid_lt (π := idl n 0 ++ π) (N := N) (j := b) (by rw [List.length_append, idl_len]; omega)
  rw [List.getElem?_append_left (by rw [idl_len]; exact h), idl_get n 0 b h] at h1
  rw [h2]; simp at h1; omega
theorem rid_post {N : Nat} {π : List Nat} : ∀ (n i j : Nat), rid (idl n i ++ π) N (n + j) = rid π N j
  | 0, i, j => by simp [idl]
  | n + 1, i, j => by
    rw [show n + 1 + j = (n + j) + 1 by omega]
    simp only [idl, List.cons_append, rid]
    exact rid_post n (i + 1) j
theorem rid_post0 {N n p : Nat} {π : List Nat} : rid (idl n 0 ++ p :: π) N n = p := rid_post n 0 0
mutual
theorem ren_fix {n N : Nat} {π : List Nat} (hr : ∀ b, b < n → rid π N b = b) : ∀ {v : AV}, ids n v = true → ren π N v = v
  | .bool _, _ | .bsym _, _ | .int _ _, _ | .str _, _ | .nilptr, _ | .pval _ _ _ _, _ | .nilsl, _ | .nil0, _ | .vsl _ _ _, _ | .nilmap, _ | .nilfn, _ | .nilif, _ => rfl
  | .pbox b j, h => by simp only [ren]; rw [hr _ (Nat.blt_eq.mp h)]
  | .parr b j i, h => by simp only [ren]; rw [hr _ (Nat.blt_eq.mp h)]
  | .pelt b i j, h => by simp only [ren]; rw [hr _ (Nat.blt_eq.mp h)]
  | .sl b i l c t, h => by simp only [ren]; rw [hr _ (Nat.blt_eq.mp h)]
  | .asl b j i l c, h => by simp only [ren]; rw [hr _ (Nat.blt_eq.mp h)]
  | .map b, h => by simp only [ren]; rw [hr _ (Nat.blt_eq.mp h)]
  | .fn f a c, h => by simp only [ids, Bool.and_eq_true] at h; simp only [ren]; rw [rens_fix hr h.1, rens_fix hr h.2]
  | .ifc t v, h => by simp only [ren]; rw [ren_fix hr (v := v) h]
  | .agg cs, h => by simp only [ren]; rw [rens_fix hr (vs := cs) h]
  | .tup cs, h => by simp only [ren]; rw [rens_fix hr (vs := cs) h]
theorem rens_fix {n N : Nat} {π : List Nat} (hr : ∀ b, b < n → rid π N b = b) : ∀ {vs : List AV}, idss n vs = true → rens π N vs = vs
  | [], _ => rfl
  | v :: vs, h => by simp only [idss, Bool.and_eq_true] at h; simp only [rens]; rw [ren_fix hr h.1, rens_fix hr h.2]
end
theorem renP_fix {n N : Nat} {π : List Nat} (hr : ∀ b, b < n → rid π N b = b) : ∀ {es : List (AV × AV)}, idsP n es = true → renP π N es = es
  | [], _ => rfl
  | (a, b) :: es, h => by simp only [idsP, Bool.and_eq_true] at h; simp only [renP]; rw [ren_fix hr h.1.1, ren_fix hr h.1.2, renP_fix hr h.2]
theorem renB_fix {n N : Nat} {π : List Nat} (hr : ∀ b, b < n → rid π N b = b) : ∀ {k : Blk}, idsB n k = true → renB π N k = k
  | .box cs, h => by simp only [renB]; rw [rens_fix hr (vs := cs) h]
  | .row _ _, _ => rfl
  | .map es, h => by simp only [renB]; rw [renP_fix hr (es := es) h]
  | .mapb _ _ _ es, h => by simp only [renB]; rw [renP_fix hr (es := es) h]
  | .iter _ _ _ _, _ => rfl
  | .gone, _ => rfl
theorem embM_pre {n N : Nat} {π0 π : List Nat} {ex B : Mem} (hr : ∀ b, b < n → rid π0 N b = b) : ∀ {pm pre : Mem}, idsM n pm = true → embM π0 N (pre ++ (pm ++ ex)) π B → embM π0 N (pre ++ (pm ++ ex)) (idl pm.length pre.length ++ π) (pm ++ B)
  | [], pre, _, hB => by simpa [idl] using hB
  | k :: pm, pre, h, hB => by
    simp only [idsM, Bool.and_eq_true] at h
    have ih := embM_pre (N := N) (π := π) (ex := ex) (B := B) hr (pm := pm) (pre := pre ++ [k]) h.2
    simp only [List.append_assoc, List.singleton_append, List.length_append, List.length_cons, List.length_nil] at ih
    replace ih := ih hB
    have hg : mg (pre ++ k :: (pm ++ ex)) pre.length = renB π0 N k := by
      rw [renB_fix hr h.1]
      clear ih h hB
      induction pre with
      | nil => rfl
      | cons x pre ih => exact ih
    simp only [List.length_cons, idl, List.cons_append]
    cases k with
    | gone => exact ih
    | _ => exact ⟨hg, ih⟩
theorem idl_mem : ∀ {n i p : Nat}, p ∈ idl n i → i ≤ p ∧ p < i + n
  | 0, _, _, h => by simp [idl] at h
  | n + 1, i, p, h => by
    simp only [idl, List.mem_cons] at h
    rcases h with rfl | h
    · omega
    · have := idl_mem h; omega
theorem nodup_app {π : List Nat} : ∀ (n i : Nat), nodupN π = true → (∀ p ∈ π, i + n ≤ p) → nodupN (idl n i ++ π) = true
  | 0, _, h, _ => by simpa [idl] using h
  | n + 1, i, h, hp => by
    simp only [idl, List.cons_append, nodupN, Bool.and_eq_true, Bool.not_eq_true']
    refine ⟨?_, nodup_app n (i + 1) h fun p hp' => by have := hp p hp'; omega⟩
    rw [Bool.eq_false_iff]
    intro hc
    have hm : i ∈ idl n (i + 1) ++ π := by simpa using hc
    rcases List.mem_append.1 hm with hm | hm
    · have := idl_mem hm; omega
    · have := hp i hm; omega
theorem below_app {N : Nat} {π : List Nat} : ∀ (n i : Nat), i + n ≤ N → below N π = true → below N (idl n i ++ π) = true
  | 0, _, _, h => by simpa [idl] using h
  | n + 1, i, hn, h => by
    simp only [idl, List.cons_append, below, below_app n (i + 1) (by omega) h, Bool.and_true]
    exact Nat.blt_eq.mpr (by omega)
theorem fixed_app {π : List Nat} : ∀ (k n i : Nat), k ≤ n → fixed k i (idl n i ++ π) = true
  | 0, _, _, _ => rfl
  | k + 1, 0, i, h => by omega
  | k + 1, n + 1, i, h => by simp only [idl, List.cons_append, fixed, beq_self_eq_true, Bool.true_and]; exact fixed_app k n (i + 1) (by omega)
theorem idsM_appE (n : Nat) : ∀ (a b : Mem), idsM n (a ++ b) = (idsM n a && idsM n b)
  | [], b => by simp [idsM]
  | x :: a, b => by simp only [List.cons_append, idsM, idsM_appE n a b, Bool.and_assoc]
mutual
theorem ids_mono {n n' : Nat} (h : n ≤ n') : ∀ {v : AV}, ids n v = true → ids n' v = true
  | .bool _, _ | .bsym _, _ | .int _ _, _ | .str _, _ | .nilptr, _ | .pval _ _ _ _, _ | .nilsl, _ | .nil0, _ | .vsl _ _ _, _ | .nilmap, _ | .nilfn, _ | .nilif, _ => rfl
  | .pbox b j, e => Nat.blt_eq.mpr (Nat.lt_of_lt_of_le (Nat.blt_eq.mp e) h)
  | .parr b j i, e => Nat.blt_eq.mpr (Nat.lt_of_lt_of_le (Nat.blt_eq.mp e) h)
  | .pelt b i j, e => Nat.blt_eq.mpr (Nat.lt_of_lt_of_le (Nat.blt_eq.mp e) h)
  | .sl b i l c t, e => Nat.blt_eq.mpr (Nat.lt_of_lt_of_le (Nat.blt_eq.mp e) h)
  | .asl b j i l c, e => Nat.blt_eq.mpr (Nat.lt_of_lt_of_le (Nat.blt_eq.mp e) h)
  | .map b, e => Nat.blt_eq.mpr (Nat.lt_of_lt_of_le (Nat.blt_eq.mp e) h)
  | .fn f a c, e => by simp only [ids, Bool.and_eq_true] at e ⊢; exact ⟨idss_mono h e.1, idss_mono h e.2⟩
  | .ifc t v, e => by simp only [ids] at e ⊢; exact ids_mono h e
  | .agg cs, e => by simp only [ids] at e ⊢; exact idss_mono h e
  | .tup cs, e => by simp only [ids] at e ⊢; exact idss_mono h e
theorem idss_mono {n n' : Nat} (h : n ≤ n') : ∀ {vs : List AV}, idss n vs = true → idss n' vs = true
  | [], _ => rfl
  | v :: vs, e => by simp only [idss, Bool.and_eq_true] at e ⊢; exact ⟨ids_mono h e.1, idss_mono h e.2⟩
end
theorem idsP_mono {n n' : Nat} (h : n ≤ n') : ∀ {es : List (AV × AV)}, idsP n es = true → idsP n' es = true
  | [], _ => rfl
  | (a, b) :: es, e => by simp only [idsP, Bool.and_eq_true] at e ⊢; exact ⟨⟨ids_mono h e.1.1, ids_mono h e.1.2⟩, idsP_mono h e.2⟩
theorem idsB_mono {n n' : Nat} (h : n ≤ n') : ∀ {k : Blk}, idsB n k = true → idsB n' k = true
  | .box cs, e => by simp only [idsB] at e ⊢; exact idss_mono h e
  | .row _ _, _ => rfl
  | .map es, e => by simp only [idsB] at e ⊢; exact idsP_mono h e
  | .mapb _ _ _ es, e => by simp only [idsB] at e ⊢; exact idsP_mono h e
  | .iter _ _ _ _, _ => rfl
  | .gone, _ => rfl
theorem idsM_mono {n n' : Nat} (h : n ≤ n') : ∀ {m : Mem}, idsM n m = true → idsM n' m = true
  | [], _ => rfl
  | k :: m, e => by simp only [idsM, Bool.and_eq_true] at e ⊢; exact ⟨idsB_mono h e.1, idsM_mono h e.2⟩
theorem emb_ext {A ex B : Mem} {π : List Nat} {t : Tr} {sl : List (Nat × AV)} (hA : idsM A.length A = true) (hk : k0 ≤ A.length) (hs : idsT (A ++ B).length sl = true) (hB : idsM (A ++ B).length B = true)
    (hn : nodupN π = true) (hp : ∀ p ∈ π, A.length ≤ p) (hb : below (A ++ ex).length π = true) (hT : embT (idl A.length 0 ++ π) (A ++ ex).length t sl) (hM : embM (idl A.length 0 ++ π) (A ++ ex).length (A ++ ex) π B) :
    Emb k0 (idl A.length 0 ++ π) t (A ++ ex) sl (A ++ B) := by
  refine ⟨?_, hT, ?_⟩
  · have h1 : idsM (A ++ B).length (A ++ B) = true := by rw [idsM_appE, hB, idsM_mono (by simp) hA]; rfl
    have h2 := nodup_app A.length 0 hn (by simpa using hp)
    have h3 := below_app (N := (A ++ ex).length) A.length 0 (by simp) hb
    simp only [chk, hs, h1, h2, h3, fixed_app k0 A.length 0 hk, Bool.and_self]
  · have := embM_pre (n := A.length) (N := (A ++ ex).length) (π0 := idl A.length 0 ++ π) (π := π) (ex := ex) (B := B) (fun b hb => rid_pre hb) (pm := A) (pre := []) hA (by simpa using hM)
    simpa using this
theorem embV_ext {A ex B : Mem} {π : List Nat} {v : AV} (hA : idsM A.length A = true) (hk : k0 ≤ A.length) (hv : ids (A ++ B).length v = true) (hB : idsM (A ++ B).length B = true)
    (hn : nodupN π = true) (hp : ∀ p ∈ π, A.length ≤ p) (hb : below (A ++ ex).length π = true) (hM : embM (idl A.length 0 ++ π) (A ++ ex).length (A ++ ex) π B) :
    EmbV k0 (idl A.length 0 ++ π) (ren (idl A.length 0 ++ π) (A ++ ex).length v) (A ++ ex) v (A ++ B) := by
  refine ⟨?_, rfl, ?_⟩
  · have h1 : idsM (A ++ B).length (A ++ B) = true := by rw [idsM_appE, hB, idsM_mono (by simp) hA]; rfl
    have h2 := nodup_app A.length 0 hn (by simpa using hp)
    have h3 := below_app (N := (A ++ ex).length) A.length 0 (by simp) hb
    simp only [hv, h1, h2, h3, fixed_app k0 A.length 0 hk, Bool.and_self]
  · have := embM_pre (n := A.length) (N := (A ++ ex).length) (π0 := idl A.length 0 ++ π) (π := π) (ex := ex) (B := B) (fun b hb => rid_pre hb) (pm := A) (pre := []) hA (by simpa using hM)
    simpa using this
end Go.AE
