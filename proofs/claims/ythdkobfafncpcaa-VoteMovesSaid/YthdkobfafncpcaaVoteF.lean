/- Vote: Move. -/
import Derived.Test.YthdkobfafncpcaaVoteC
namespace Go.AEX
open Go Go.AE Go.Proofs
set_option maxRecDepth 100000
set_option linter.unusedVariables false
set_option linter.unusedSimpArgs false

/-! plain -/
theorem vb_midx {k : Int} {y : Bool} : ∀ (V : Vts) (j i : Nat), (V.map (·.1)).Nodup → V[j]? = some (k, y) → midx (vb V) (.int .i64 k) i = some (i + j, .bsym y)
  | [], j, i, _, h => by simp at h
  | p :: V, j, i, hn, h => by
    have e : kd IntKind.i64 IntKind.i64 = true := rfl
    simp only [List.map_cons, List.nodup_cons] at hn
    simp only [vb, List.map_cons, midx, keq, e, Bool.true_and]
    cases j with
    | zero =>
      simp only [List.getElem?_cons_zero, Option.some.injEq] at h
      subst h
      rw [beq_self_eq_true]; rfl
    | succ j =>
      simp only [List.getElem?_cons_succ] at h
      have hm : k ∈ V.map (·.1) := List.mem_map.2 ⟨(k, y), List.mem_of_getElem? h, rfl⟩
      have hne : (k == p.1) = false := by
        cases hb : (k == p.1) with
        | false => rfl
        | true => exact absurd (by rw [← eq_of_beq hb]; exact hm) hn.1
      rw [hne]
      have ih := vb_midx V j (i + 1) hn.2 h
      unfold vb at ih
      rw [cond_false, ih, show i + 1 + j = i + (j + 1) by omega]
abbrev Zs := List (Nat × (Int × Bool))
def zb (Z : Zs) : List Nat := Z.map (·.1)
def zv (Z : Zs) : Vts := Z.map (·.2)
theorem z_get {Z : Zs} {j b : Nat} {k v : AV} (h1 : (zb Z)[j]? = some b) (h2 : (vb (zv Z))[j]? = some (k, v)) : ∃ p, Z[j]? = some (b, p) ∧ k = .int .i64 p.1 ∧ v = .bsym p.2 := by
  simp only [zb, vb, zv, List.getElem?_map] at h1 h2
  cases h : Z[j]? with
  | none => rw [h] at h1; cases h1
  | some z =>
    obtain ⟨b', p⟩ := z
    rw [h] at h1 h2; cases h1; cases h2
    exact ⟨p, rfl, rfl, rfl⟩
theorem z_del {Z : Zs} {j b : Nat} {p : Int × Bool} (hn : ((zv Z).map (·.1)).Nodup) (h : Z[j]? = some (b, p)) :
    delB (zb Z) (vb (zv Z)) (.int .i64 p.1) = (zb (Z.eraseIdx j), vb (zv (Z.eraseIdx j))) := by
  have hv : (zv Z)[j]? = some (p.1, p.2) := by simp only [zv, List.getElem?_map, h]; rfl
  unfold delB
  rw [vb_midx _ j 0 hn hv]
  simp only [Nat.zero_add, zb, zv, vb, map_eraseIdx']
def unseenZ (bs seen : List Nat) : Nat := (bs.filter fun x => ! seen.contains x).length
theorem unseenZ_dec {bs seen : List Nat} {b : Nat} (h1 : b ∈ bs) (h2 : b ∉ seen) : unseenZ bs (seen ++ [b]) < unseenZ bs seen := by
  unfold unseenZ
  have hsub : ∀ l : List Nat, (l.filter fun x => ! (seen ++ [b]).contains x).length ≤ (l.filter fun x => ! seen.contains x).length := by
    intro l
    induction l with
    | nil => simp
    | cons a l ih =>
      simp only [List.filter_cons]
      by_cases c1 : a ∈ seen
      · simp [c1] at ih ⊢; omega
      · by_cases c2 : a = b
        · subst c2; simp [c1] at ih ⊢; omega
        · simp [c1, c2] at ih ⊢; omega
  induction bs with
  | nil => simp at h1
  | cons a bs ih =>
    simp only [List.filter_cons]
    have hs := hsub bs
    by_cases c2 : a = b
    · subst c2; simp [h2] at hs ⊢; omega
    · have hm : b ∈ bs := by simp at h1; rcases h1 with h | h; exact absurd h.symm c2; exact h
      have := ih hm
      by_cases c1 : a ∈ seen
      · simp [c1, c2] at this ⊢; omega
      · simp [c1, c2] at this ⊢; omega
theorem unseenZ_sub {bs bs' seen : List Nat} (h : bs'.Sublist bs) : unseenZ bs' seen ≤ unseenZ bs seen := (h.filter _).length_le
structure ZOk (keep : Int → Bool) (V : Vts) (clock : Nat) (Z : Zs) (seen : List Nat) : Prop where
  nb : (zb Z).Nodup
  nk : ((zv Z).map (·.1)).Nodup
  lt : ∀ x ∈ zb Z, x < clock
  all : (zv Z).filter (fun p => keep p.1) = V.filter (fun p => keep p.1)
  ok : ∀ z ∈ Z, z.1 ∈ seen → keep z.2.1 = true
theorem ZOk.done {keep : Int → Bool} {V : Vts} {clock : Nat} {Z : Zs} {seen : List Nat} (h : ZOk keep V clock Z seen) (hd : ∀ x ∈ zb Z, x ∈ seen) : zv Z = V.filter (fun p => keep p.1) := by
  rw [← h.all, eq_comm, List.filter_eq_self]
  intro p hp
  obtain ⟨z, hz, rfl⟩ := List.mem_map.1 hp
  exact h.ok z hz (hd _ (List.mem_map.2 ⟨z, hz, rfl⟩))
theorem z_idx {Z : Zs} {j : Nat} {z z' : Nat × (Int × Bool)} (hn : (zb Z).Nodup) (h : Z[j]? = some z) (hz : z' ∈ Z) (he : z'.1 = z.1) : z' = z := by
  obtain ⟨j', hj⟩ := List.getElem?_of_mem hz
  have h1 : (zb Z)[j]? = some z.1 := by simp [zb, h]
  have h2 : (zb Z)[j']? = some z.1 := by simp [zb, hj, he]
  have l1 : j < (zb Z).length := (List.getElem?_eq_some_iff.1 h1).1
  obtain rfl : j = j' := (List.getElem?_inj l1 hn).1 (by rw [h1, h2])
  rw [h] at hj; cases hj; rfl
theorem ZOk.keepS {keep : Int → Bool} {V : Vts} {clock : Nat} {Z : Zs} {seen : List Nat} (h : ZOk keep V clock Z seen) {j b : Nat} {p : Int × Bool} (hj : Z[j]? = some (b, p)) (hk : keep p.1 = true) : ZOk keep V clock Z (seen ++ [b]) := by
  refine ⟨h.nb, h.nk, h.lt, h.all, fun z hz hs => ?_⟩
  rcases List.mem_append.1 hs with hs | hs
  · exact h.ok z hz hs
  · rw [z_idx h.nb hj hz (by simpa using hs)]; exact hk
theorem ZOk.delS {keep : Int → Bool} {V : Vts} {clock : Nat} {Z : Zs} {seen : List Nat} (h : ZOk keep V clock Z seen) {j b : Nat} {p : Int × Bool} (hj : Z[j]? = some (b, p)) (hk : keep p.1 = false) : ZOk keep V clock (Z.eraseIdx j) (seen ++ [b]) := by
  have hsub : (Z.eraseIdx j).Sublist Z := List.eraseIdx_sublist ..
  refine ⟨h.nb.sublist (hsub.map _), h.nk.sublist ((hsub.map _).map _), fun x hx => h.lt x ((hsub.map _).subset hx), ?_, fun z hz hs => ?_⟩
  · rw [← h.all]
    have : ∀ (Z : Zs) (j : Nat), Z[j]? = some (b, p) → (zv (Z.eraseIdx j)).filter (fun p => keep p.1) = (zv Z).filter (fun p => keep p.1) := by
      intro Z
      induction Z with
      | nil => intro j h; simp at h
      | cons z Z ih =>
        intro j h
        cases j with
        | zero =>
          simp only [List.getElem?_cons_zero, Option.some.injEq] at h
          subst h
          simp only [List.eraseIdx_cons_zero, zv, List.map_cons, List.filter_cons, hk]; rfl
        | succ j =>
          simp only [List.getElem?_cons_succ] at h
          have := ih j h
          simp only [zv] at this ⊢
          simp only [List.eraseIdx_cons_succ, List.map_cons, List.filter_cons, this]
    exact this Z j hj
  · rcases List.mem_append.1 hs with hs | hs
    · exact h.ok z (hsub.subset hz) hs
    · exfalso
      have hb : z.1 = b := by simpa using hs
      have hn : (zb Z).Nodup := h.nb
      have hc : b ∉ zb (Z.eraseIdx j) := by
        have h1 : (zb Z)[j]? = some b := by simp [zb, hj]
        have : zb (Z.eraseIdx j) = (zb Z).eraseIdx j := map_eraseIdx' _ _ _
        rw [this]
        intro hm
        obtain ⟨l1, h1'⟩ := List.getElem?_eq_some_iff.1 h1
        rw [List.mem_eraseIdx_iff_getElem?] at hm
        obtain ⟨i, hi, hi2⟩ := hm
        exact hi ((List.getElem?_inj (List.getElem?_eq_some_iff.1 hi2).1 hn).1 (by rw [hi2, h1]))
      exact hc (List.mem_map.2 ⟨z, hz, hb⟩)
theorem z_zip {bs : List Nat} {V : Vts} (h : bs.length = V.length) : zb (bs.zip V) = bs ∧ zv (bs.zip V) = V := by
  unfold zb zv
  exact ⟨List.map_fst_zip (by omega), List.map_snd_zip (by omega)⟩
/-! the walk -/
theorem mv2_spec (S : Nat) (hS : S < 4294967296) (ep p : Int) (y : Bool) : Tri Try.prog 50 [.int .i64 p, .bsym y, .pbox 0 0] [.box [.int .u32 (S : Nat), .int .i64 ep]] (fun v m => v = .bsym (!hasN S p) ∧ m = [.box [.int .u32 (S : Nat), .int .i64 ep]]) := by
  refine Tri.post ?_
  have hh := has_spec S hS ep p
  refine (Tri.enter (rl := r50) (code := c50) (by kernel_rfl) Try.func50 rfl c50_ok (by kernel_rfl) (by kernel_rfl) ?_)
  refine run_ok 4000 _ _ _ _ ?_
  simp (maxSteps := 10000000) only [go_sem, c50, r50]
  refine sem_call rfl rfl (((hh).embed [] rfl trivial rfl rfl rfl (by simp)).mono ?_)
  rintro _ _ ⟨_, _, ⟨rfl, rfl⟩, rfl, rfl⟩
  refine run_ok 4000 _ _ _ _ ?_
  simp (maxSteps := 10000000) only [go_sem]
  refine ⟨_, _, .sub [0] ?_ .done, rfl, rfl⟩
  simp only [EmbV, go_sem]
theorem mv1_spec (S : Nat) (hS : S < 4294967296) (ep p : Int) (k : Nat) (V : Vts) : Tri Try.prog 48 [.int .i64 p, .map 1, .pbox 0 0] [.box [.int .u32 (S : Nat), .int .i64 ep], .map (vb V)] (fun v m => v = .bsym (!hasN S p) ∧ m = [.box [.int .u32 (S : Nat), .int .i64 ep], .map (vb V)]) := by
  refine Tri.post ?_
  have hh := has_spec S hS ep p
  refine (Tri.enter (rl := r48) (code := c48) (by kernel_rfl) Try.func48 rfl c48_ok (by kernel_rfl) (by kernel_rfl) ?_)
  refine run_ok 4000 _ _ _ _ ?_
  simp (maxSteps := 10000000) only [go_sem, c48, r48]
  refine sem_call rfl rfl (((hh).embed [] rfl trivial rfl rfl rfl (by simp)).mono ?_)
  rintro _ _ ⟨_, _, ⟨rfl, rfl⟩, rfl, rfl⟩
  refine run_ok 4000 _ _ _ _ ?_
  simp (maxSteps := 10000000) only [go_sem]
  refine ⟨_, _, .sub [0, 1] ?_ .done, rfl, rfl⟩
  simp only [EmbV, go_sem]
theorem del_spec (S : Nat) (hS : S < 4294967296) (ep : Int) (V : Vts) (hn : (V.map (·.1)).Nodup) : Tri Try.prog 49 [.map 0, .fn 50 [] [.pbox 1 0]] [.map (vb V), .box [.int .u32 (S : Nat), .int .i64 ep]]
    (fun v m => v = .tup [] ∧ m = [.map (vb (V.filter fun p => hasN S p.1)), .box [.int .u32 (S : Nat), .int .i64 ep]]) := by
  refine Tri.post ?_
  refine (Tri.enter (rl := r49) (code := c49) (by kernel_rfl) Try.func49 rfl c49_ok (by kernel_rfl) (by kernel_rfl) ?_)
  refine run_ok 4000 _ _ _ _ ?_
  simp (maxSteps := 10000000) only [go_sem, c49, r49]
  refine sem_births 0 rfl ?_
  intro bm clock bs hl hlt hnb
  have hl : bs.length = V.length := by simpa [vb] using hl
  obtain ⟨z1, z2⟩ := z_zip hl
  generalize hZ : bs.zip V = Z0 at *
  subst z1
  have hz0 : ZOk (hasN S) V clock Z0 [] := ⟨hnb, by rw [z2]; exact hn, hlt, by rw [z2], fun z _ h => by simp at h⟩
  rw [← z2]
  simp (maxSteps := 10000000) only [go_sem]
  refine sem_rng rfl rfl rfl ?_
  refine run_ok 4000 _ _ _ _ ?_
  simp (maxSteps := 10000000) only [go_sem]
  refine sem_rounds (fun x : Zs × List Nat => ZOk (hasN S) V clock x.1 x.2)
    (fun x => [(0, .map 0), (1, .fn 50 [] [.pbox 1 0]), (7, .pbox 2 0)])
    (fun x => [.mapb bm clock (zb x.1) (vb (zv x.1)), .box [.int .u32 (S : Nat), .int .i64 ep], .iter (some bm) clock x.2 clock]) (fun x => unseenZ (zb x.1) x.2) (Z0, []) [0, 1, 2] hz0 ?_ ?_
  · simp only [Emb, go_sem]
  rintro ⟨Z, seen⟩ hz
  simp only at hz ⊢
  refine run_ok 4000 _ _ _ _ ?_
  simp (maxSteps := 10000000) only [go_sem]
  refine sem_nxt (i := 2) (b := 0) rfl rfl rfl rfl hz.lt (Nat.le_refl _) ?_ ?_
  · intro hd
    have e := hz.done hd
    refine run_ok 4000 _ _ _ _ ?_
    simp (maxSteps := 10000000) only [go_sem]
    refine sem_unborn 0 rfl ?_
    rw [e]
    refine run_ok 4000 _ _ _ _ ?_
    simp (maxSteps := 10000000) only [go_sem]
    refine ⟨_, _, .sub [0, 1] ?_ .done, rfl, rfl⟩
    simp only [EmbV, go_sem, z2]
  · intro j born key val h1 h2 h3
    obtain ⟨⟨k, y⟩, hj, rfl, rfl⟩ := z_get h1 h2
    have hmem : born ∈ zb Z := List.mem_of_getElem? h1
    refine run_ok 4000 _ _ _ _ ?_
    simp (maxSteps := 10000000) only [go_sem]
    refine sem_ent (i := 2) (b := 0) (j := j) rfl rfl rfl rfl h1 h2 ?_
    refine run_ok 4000 _ _ _ _ ?_
    simp (maxSteps := 10000000) only [go_sem]
    have hm := mv2_spec S hS ep k y
    cases hk : hasN S k with
    | true =>
      rw [hk] at hm
      refine sem_callv rfl rfl rfl (((hm).embed [1] rfl (by repeat' first | exact trivial | rfl | (simp only [go_sem]; done) | constructor) rfl (by first | rfl | simp only [go_sem]) rfl (by simp)).mono ?_)
      rintro _ _ ⟨_, _, ⟨rfl, rfl⟩, rfl, rfl⟩
      refine run_ok 4000 _ _ _ _ ?_
      simp (maxSteps := 10000000) only [go_sem]
      refine ⟨(Z, seen ++ [born]), unseenZ_dec hmem h3, hz.keepS hj hk, [0, 1, 2], ?_⟩
      simp only [Emb, go_sem]
    | false =>
      rw [hk] at hm
      refine sem_callv rfl rfl rfl (((hm).embed [1] rfl (by repeat' first | exact trivial | rfl | (simp only [go_sem]; done) | constructor) rfl (by first | rfl | simp only [go_sem]) rfl (by simp)).mono ?_)
      rintro _ _ ⟨_, _, ⟨rfl, rfl⟩, rfl, rfl⟩
      refine run_ok 4000 _ _ _ _ ?_
      simp (maxSteps := 10000000) only [go_sem]
      refine sem_mdelb (b := 0) rfl rfl rfl rfl rfl (vb_ok _ _) ?_
      rw [z_del (p := (k, y)) hz.nk hj]
      refine run_ok 4000 _ _ _ _ ?_
      simp (maxSteps := 10000000) only [go_sem]
      refine ⟨(Z.eraseIdx j, seen ++ [born]), Nat.lt_of_le_of_lt (unseenZ_sub ((List.eraseIdx_sublist ..).map _)) (unseenZ_dec hmem h3), hz.delS hj hk, [0, 1, 2], ?_⟩
      simp only [Emb, go_sem]
theorem delK_spec (S : Nat) (hS : S < 4294967296) (ep q : Int) (V : Vts) (hq : hasN S q = true) : Tri Try.prog 47 [.map 0, .fn 48 [] [.pbox 2 0]] [.map [(.int .i64 q, .map 1)], .map (vb V), .box [.int .u32 (S : Nat), .int .i64 ep]]
    (fun v m => v = .tup [] ∧ m = [.map [(.int .i64 q, .map 1)], .map (vb V), .box [.int .u32 (S : Nat), .int .i64 ep]]) := by
  refine Tri.post ?_
  have hm := mv1_spec S hS ep q 0 V
  rw [hq] at hm
  refine (Tri.enter (rl := r47) (code := c47) (by kernel_rfl) Try.func47 rfl c47_ok (by kernel_rfl) (by kernel_rfl) ?_)
  refine run_ok 4000 _ _ _ _ ?_
  simp (maxSteps := 10000000) only [go_sem, c47, r47]
  refine sem_births 0 rfl ?_
  intro bm clock bs hl hlt hnb
  simp (maxSteps := 10000000) only [go_sem]
  refine sem_rng rfl rfl rfl ?_
  refine run_ok 4000 _ _ _ _ ?_
  simp (maxSteps := 10000000) only [go_sem]
  refine sem_rounds (fun x : List Nat => True)
    (fun x => [(0, .map 0), (1, .fn 48 [] [.pbox 2 0]), (7, .pbox 3 0)])
    (fun x => [.mapb bm clock bs [(.int .i64 q, .map 1)], .map (vb V), .box [.int .u32 (S : Nat), .int .i64 ep], .iter (some bm) clock x clock]) (fun x => unseenZ bs x) [] [0, 1, 2, 3] trivial ?_ ?_
  · simp only [Emb, go_sem]
  intro seen _
  refine run_ok 4000 _ _ _ _ ?_
  simp (maxSteps := 10000000) only [go_sem]
  refine sem_nxt (i := 3) (b := 0) rfl rfl rfl rfl hlt (Nat.le_refl _) ?_ ?_
  · intro hd
    refine run_ok 4000 _ _ _ _ ?_
    simp (maxSteps := 10000000) only [go_sem]
    refine sem_unborn 0 rfl ?_
    refine run_ok 4000 _ _ _ _ ?_
    simp (maxSteps := 10000000) only [go_sem]
    refine ⟨_, _, .sub [0, 1, 2] ?_ .done, rfl, rfl⟩
    simp only [EmbV, go_sem]
  · intro j born key val h1 h2 h3
    have hmem : born ∈ bs := List.mem_of_getElem? h1
    obtain ⟨rfl, rfl⟩ : key = .int .i64 q ∧ val = .map 1 := by
      cases j with
      | zero => cases h2; exact ⟨rfl, rfl⟩
      | succ j => simp at h2
    refine run_ok 4000 _ _ _ _ ?_
    simp (maxSteps := 10000000) only [go_sem]
    refine sem_ent (i := 3) (b := 0) (j := j) rfl rfl rfl rfl h1 h2 ?_
    refine run_ok 4000 _ _ _ _ ?_
    simp (maxSteps := 10000000) only [go_sem]
    refine sem_callv rfl rfl rfl (((hm).embed [2, 1] rfl (by repeat' first | exact trivial | rfl | (simp only [go_sem]; done) | constructor) rfl (by first | rfl | simp only [go_sem]) rfl (by simp)).mono ?_)
    rintro _ _ ⟨_, _, ⟨rfl, rfl⟩, rfl, rfl⟩
    refine run_ok 4000 _ _ _ _ ?_
    simp (maxSteps := 10000000) only [go_sem]
    refine ⟨seen ++ [born], unseenZ_dec hmem h3, [0, 1, 2, 3], ?_⟩
    simp only [Emb, go_sem]
theorem delG_spec (S : Nat) (hS : S < 4294967296) (ep q : Int) (V : Vts) (hq : hasN S q = false) : Tri Try.prog 47 [.map 0, .fn 48 [] [.pbox 2 0]] [.map [(.int .i64 q, .map 1)], .map (vb V), .box [.int .u32 (S : Nat), .int .i64 ep]]
    (fun v m => v = .tup [] ∧ m = [.map [], .map (vb V), .box [.int .u32 (S : Nat), .int .i64 ep]]) := by
  refine Tri.post ?_
  have hm := mv1_spec S hS ep q 0 V
  rw [hq] at hm
  refine (Tri.enter (rl := r47) (code := c47) (by kernel_rfl) Try.func47 rfl c47_ok (by kernel_rfl) (by kernel_rfl) ?_)
  refine run_ok 4000 _ _ _ _ ?_
  simp (maxSteps := 10000000) only [go_sem, c47, r47]
  refine sem_births 0 rfl ?_
  intro bm clock bs hl hlt hnb
  obtain ⟨b0, rfl⟩ : ∃ b, bs = [b] := by
    match bs, hl with
    | [b], _ => exact ⟨b, rfl⟩
  simp (maxSteps := 10000000) only [go_sem]
  refine sem_rng rfl rfl rfl ?_
  refine run_ok 4000 _ _ _ _ ?_
  simp (maxSteps := 10000000) only [go_sem]
  refine sem_rounds (fun x : Bool × List Nat => x.1 = true → x.2 = [])
    (fun x => [(0, .map 0), (1, .fn 48 [] [.pbox 2 0]), (7, .pbox 3 0)])
    (fun x => [.mapb bm clock (cond x.1 [b0] []) (cond x.1 [(.int .i64 q, .map 1)] []), .map (vb V), .box [.int .u32 (S : Nat), .int .i64 ep], .iter (some bm) clock x.2 clock]) (fun x => (cond x.1 1 0 : Nat)) (true, []) [0, 1, 2, 3] (fun _ => rfl) ?_ ?_
  · simp only [Emb, go_sem, cond_true]
  rintro ⟨al, seen⟩ hx
  cases al with
  | true =>
    simp only [cond_true]
    obtain rfl : seen = [] := hx rfl
    refine run_ok 4000 _ _ _ _ ?_
    simp (maxSteps := 10000000) only [go_sem]
    refine sem_nxt (i := 3) (b := 0) rfl rfl rfl rfl hlt (Nat.le_refl _) ?_ ?_
    · intro hd; simp at hd
    · intro j born key val h1 h2 h3
      obtain ⟨rfl, rfl⟩ : key = .int .i64 q ∧ val = .map 1 := by
        cases j with
        | zero => cases h2; exact ⟨rfl, rfl⟩
        | succ j => simp at h2
      refine run_ok 4000 _ _ _ _ ?_
      simp (maxSteps := 10000000) only [go_sem]
      refine sem_ent (i := 3) (b := 0) (j := j) (seen := []) rfl rfl rfl rfl h1 h2 ?_
      refine run_ok 4000 _ _ _ _ ?_
      simp (maxSteps := 10000000) only [go_sem]
      refine sem_callv rfl rfl rfl (((hm).embed [2, 1] rfl (by repeat' first | exact trivial | rfl | (simp only [go_sem]; done) | constructor) rfl (by first | rfl | simp only [go_sem]) rfl (by simp)).mono ?_)
      rintro _ _ ⟨_, _, ⟨rfl, rfl⟩, rfl, rfl⟩
      refine run_ok 4000 _ _ _ _ ?_
      simp (maxSteps := 10000000) only [go_sem]
      refine sem_mdelb (b := 0) rfl rfl rfl rfl rfl ⟨rfl, trivial⟩ ?_
      have e : kd IntKind.i64 IntKind.i64 = true := rfl
      rw [show delB [b0] [(AV.int .i64 q, AV.map 1)] (.int .i64 q) = ([], []) by simp [delB, midx, keq, e]]
      refine run_ok 4000 _ _ _ _ ?_
      simp (maxSteps := 10000000) only [go_sem]
      refine ⟨(false, [born]), by simp, by simp, [0, 1, 2, 3], ?_⟩
      simp only [Emb, go_sem, cond_false]
  | false =>
    simp only [cond_false]
    refine run_ok 4000 _ _ _ _ ?_
    simp (maxSteps := 10000000) only [go_sem]
    refine sem_nxt (i := 3) (b := 0) rfl rfl rfl rfl (by simp) (Nat.le_refl _) ?_ ?_
    · intro hd
      refine run_ok 4000 _ _ _ _ ?_
      simp (maxSteps := 10000000) only [go_sem]
      refine sem_unborn 0 rfl ?_
      refine run_ok 4000 _ _ _ _ ?_
      simp (maxSteps := 10000000) only [go_sem]
      refine ⟨_, _, .sub [0, 1, 2] ?_ .done, rfl, rfl⟩
      simp only [EmbV, go_sem]
    · intro j born key val h1 h2 h3
      simp at h1
end Go.AEX
