/- The abstract evaluator: AEzp in one. -/
import Derived.Test.YthdkobfafncpcaaDoorAEzo
import Derived.Test.YthdkobfafncpcaaDoorAEzc
/- The abstract evaluator, part zp: a contract behind other blocks: all its numbers are greater by so many. -/
namespace Go.AE
open Go
set_option linter.unusedVariables false
set_option linter.unusedSimpArgs false

variable {P : Program} {n k0 : Nat}

mutual
theorem ren_ext {π π' : List Nat} {N N' : Nat} (h : ∀ b, rid π N b = rid π' N' b) : ∀ (v : AV), ren π N v = ren π' N' v
  | .bool _ | .bsym _ | .int _ _ | .str _ | .nilptr | .pval _ _ _ _ | .nilsl | .nil0 | .vsl _ _ _ | .nilmap | .nilfn | .nilif => rfl
  | .pbox b j => by simp only [ren, h]
  | .parr b j i => by simp only [ren, h]
  | .pelt b i j => by simp only [ren, h]
  | .sl b i l c t => by simp only [ren, h]
  | .asl b j i l c => by simp only [ren, h]
  | .map b => by simp only [ren, h]
  | .fn f a c => by simp only [ren, rens_ext h a, rens_ext h c]
  | .ifc t v => by simp only [ren, ren_ext h v]
  | .agg cs => by simp only [ren, rens_ext h cs]
  | .tup cs => by simp only [ren, rens_ext h cs]
theorem rens_ext {π π' : List Nat} {N N' : Nat} (h : ∀ b, rid π N b = rid π' N' b) : ∀ (vs : List AV), rens π N vs = rens π' N' vs
  | [] => rfl
  | v :: vs => by simp only [rens, ren_ext h v, rens_ext h vs]
end
theorem renP_ext {π π' : List Nat} {N N' : Nat} (h : ∀ b, rid π N b = rid π' N' b) : ∀ (es : List (AV × AV)), renP π N es = renP π' N' es
  | [] => rfl
  | (a, b) :: es => by simp only [renP, ren_ext h a, ren_ext h b, renP_ext h es]
theorem renB_ext {π π' : List Nat} {N N' : Nat} (h : ∀ b, rid π N b = rid π' N' b) (k : Blk) : renB π N k = renB π' N' k := by
  cases k with
  | box cs => simp only [renB, rens_ext h]
  | map es => simp only [renB, renP_ext h]
  | mapb bm cl bs es => simp only [renB, renP_ext h]
  | _ => rfl
theorem renM_ext {π π' : List Nat} {N N' : Nat} (h : ∀ b, rid π N b = rid π' N' b) : ∀ (m : Mem), renM π N m = renM π' N' m
  | [] => rfl
  | k :: m => by simp only [renM, renB_ext h, renM_ext h m]
theorem rid_idlN (n d b : Nat) : rid (idl n d) (d + n) b = rid [] d b := by
  show _ = d + b
  rcases Nat.lt_or_ge b n with h | h
  · obtain ⟨p, h1, h2⟩ := rid_lt (π := idl n d) (N := d + n) (j := b) (by rw [idl_len]; exact h)
    rw [idl_get n d b h] at h1
    rw [h2]; simp at h1; omega
  · rw [rid_ge (by rw [idl_len]; exact h), idl_len]; omega
theorem renM_map {π : List Nat} {N : Nat} : ∀ (m : Mem), m.map (renB π N) = renM π N m
  | [] => rfl
  | k :: m => by simp only [List.map_cons, renM, renM_map m]
theorem embM_sh {π0 : List Nat} {N : Nat} : ∀ {m pre : Mem}, embM π0 N (pre ++ renM π0 N m) (idl m.length pre.length) m
  | [], pre => by simp only [List.length_nil, idl]; exact trivial
  | k :: m, pre => by
    have ih := embM_sh (π0 := π0) (N := N) (m := m) (pre := pre ++ [renB π0 N k])
    simp only [List.append_assoc, List.singleton_append, List.length_append, List.length_cons, List.length_nil] at ih
    have hg : mg (pre ++ renB π0 N k :: renM π0 N m) pre.length = renB π0 N k := by
      clear ih
      induction pre with
      | nil => rfl
      | cons x pre ih => exact ih
    simp only [List.length_cons, idl, renM]
    cases k with
    | gone => exact ih
    | _ => exact ⟨hg, ih⟩
theorem ms_at : ∀ (pre : Mem) (k x : Blk) (m : Mem), ms (pre ++ k :: m) pre.length x = pre ++ x :: m
  | [], _, _, _ => rfl
  | p :: pre, k, x, m => by simp only [List.cons_append, List.length_cons, ms, ms_at pre k x m]
theorem mrg_sh {π0 : List Nat} {N : Nat} : ∀ {m m0 pre : Mem}, m.length ≤ m0.length → (∀ k ∈ m, k ≠ .gone) →
    mrg π0 N (idl m.length pre.length) m m0 (pre ++ renM π0 N m) = pre ++ renM π0 N m0
  | [], m0, pre, _, _ => by
    simp only [List.length_nil, idl, renM, List.append_nil]
    have : mrg π0 N [] [] m0 pre = pre ++ m0.map (renB π0 N) := by unfold mrg; rfl
    rw [this, renM_map]
  | k :: m, [], pre, h, _ => by simp at h
  | k :: m, k' :: m0, pre, h, hg => by
    have ih := mrg_sh (π0 := π0) (N := N) (m := m) (m0 := m0) (pre := pre ++ [renB π0 N k']) (by simpa using h) fun x hx => hg x (by simp [hx])
    simp only [List.append_assoc, List.singleton_append, List.length_append, List.length_cons, List.length_nil] at ih
    have hk := hg k (by simp)
    have e : ms (pre ++ renB π0 N k :: renM π0 N m) pre.length (renB π0 N k') = pre ++ renB π0 N k' :: renM π0 N m := ms_at _ _ _ _
    simp only [List.length_cons, idl, renM]
    cases k with
    | gone => exact absurd rfl hk
    | _ => simp only [mrg]; rw [e]; exact ih
theorem Tri.more {f : FuncId} {args : List AV} {m : Mem} {K : AV → Mem → Prop} (h : Tri P f args m K) : Tri P f args m fun v m' => K v m' ∧ m.length ≤ m'.length :=
  ⟨h.1, fun φ σ w vs hI hv => (h.2 φ σ w vs hI hv).mono fun e w' ⟨v', he, φ', σ', v, m', hK, hs, hr⟩ => ⟨v', he, φ', σ', v, m', ⟨hK, hs.len⟩, hs, hr⟩⟩
theorem Tri.behind {f : FuncId} {args : List AV} {m : Mem} {R : AV → Mem → Prop} (pre : Mem) (spec : Tri P f args m R) (ha : idss m.length args = true) (hm : idsM m.length m = true)
    (hg : ∀ k ∈ m, k ≠ .gone) :
    Tri P f (rens [] pre.length args) (pre ++ renM [] pre.length m) fun v m' => ∃ v0 m0, R v0 m0 ∧ v = ren [] pre.length v0 ∧ m' = pre ++ renM [] pre.length m0 := by
  have hN : (pre ++ renM [] pre.length m).length = pre.length + m.length := by rw [List.length_append, renM_len]
  have hr : ∀ b, rid (idl m.length pre.length) (pre ++ renM [] pre.length m).length b = rid [] pre.length b := fun b => by rw [hN]; exact rid_idlN _ _ b
  have h := spec.more.embed (m := pre ++ renM [] pre.length m) (args := rens [] pre.length args) (idl m.length pre.length) (rens_ext hr args).symm
    (by have := embM_sh (π0 := idl m.length pre.length) (N := (pre ++ renM [] pre.length m).length) (m := m) (pre := pre); rwa [renM_ext hr m] at this) ha hm (nodup_idl _ _)
    (fun p hp => by have := idl_mem hp; omega)
  refine h.mono ?_
  rintro _ _ ⟨v0, m0, ⟨hR, hl⟩, rfl, rfl⟩
  refine ⟨v0, m0, hR, ren_ext hr v0, ?_⟩
  have := mrg_sh (π0 := idl m.length pre.length) (N := (pre ++ renM [] pre.length m).length) (m := m) (m0 := m0) (pre := pre) hl hg
  rw [renM_ext hr m, renM_ext hr m0] at this
  exact this
end Go.AE
