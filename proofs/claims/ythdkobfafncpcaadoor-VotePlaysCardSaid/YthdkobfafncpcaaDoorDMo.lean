/- DMv, DMo. -/
import Derived.Test.YthdkobfafncpcaaDoorDPm
/- Door seat: boxes: Move. -/
namespace Go.AEX
open Go Go.AE Go.Proofs
set_option maxRecDepth 100000
set_option linter.unusedVariables false
set_option linter.unusedSimpArgs false

/-! plain: births zipped with entries -/
def mb {β : Type} (g : β → AV) (V : List (Int × β)) : List (AV × AV) := V.map fun p => (.int .i64 p.1, g p.2)
theorem mb_midx {β : Type} {g : β → AV} {k : Int} {y : β} : ∀ (V : List (Int × β)) (j i : Nat), (V.map (·.1)).Nodup → V[j]? = some (k, y) → midx (mb g V) (.int .i64 k) i = some (i + j, g y)
  | [], j, i, _, h => by simp at h
  | p :: V, j, i, hn, h => by
    have e : kd IntKind.i64 IntKind.i64 = true := rfl
    simp only [List.map_cons, List.nodup_cons] at hn
    simp only [mb, List.map_cons, midx, keq, e, Bool.true_and]
    cases j with
    | zero =>
      simp only [List.getElem?_cons_zero, Option.some.injEq] at h
      subst h
      rw [beq_self_eq_true]; rfl
    | succ j =>
      simp only [List.getElem?_cons_succ] at h
      have hm : k ∈ V.map (·.1) := List.mem_map.2 ⟨(k, y), List.mem_of_getElem? h, rfl⟩
      have hne : (k == p.1) = false := by
        cases hb : (k == p.1) with
        | false => rfl
        | true => exact absurd (by rw [← eq_of_beq hb]; exact hm) hn.1
      rw [hne]
      have ih := mb_midx (g := g) V j (i + 1) hn.2 h
      unfold mb at ih
      rw [cond_false, ih, show i + 1 + j = i + (j + 1) by omega]
abbrev Zs (β : Type) := List (Nat × (Int × β))
def zb {β : Type} (Z : Zs β) : List Nat := Z.map (·.1)
def zv {β : Type} (Z : Zs β) : List (Int × β) := Z.map (·.2)
theorem z_get {β : Type} {g : β → AV} {Z : Zs β} {j b : Nat} {k v : AV} (h1 : (zb Z)[j]? = some b) (h2 : (mb g (zv Z))[j]? = some (k, v)) : ∃ p, Z[j]? = some (b, p) ∧ k = .int .i64 p.1 ∧ v = g p.2 := by
  simp only [zb, mb, zv, List.getElem?_map] at h1 h2
  cases h : Z[j]? with
  | none => rw [h] at h1; cases h1
  | some z =>
    obtain ⟨b', p⟩ := z
    rw [h] at h1 h2; cases h1; cases h2
    exact ⟨p, rfl, rfl, rfl⟩
theorem z_del {β : Type} {g : β → AV} {Z : Zs β} {j b : Nat} {p : Int × β} (hn : ((zv Z).map (·.1)).Nodup) (h : Z[j]? = some (b, p)) :
    delB (zb Z) (mb g (zv Z)) (.int .i64 p.1) = (zb (Z.eraseIdx j), mb g (zv (Z.eraseIdx j))) := by
  have hv : (zv Z)[j]? = some (p.1, p.2) := by simp only [zv, List.getElem?_map, h]; rfl
  unfold delB
  rw [mb_midx _ j 0 hn hv]
  simp only [Nat.zero_add, zb, zv, mb, map_eraseIdx']
def unseenZ (bs seen : List Nat) : Nat := (bs.filter fun x => ! seen.contains x).length
theorem unseenZ_dec {bs seen : List Nat} {b : Nat} (h1 : b ∈ bs) (h2 : b ∉ seen) : unseenZ bs (seen ++ [b]) < unseenZ bs seen := by
  unfold unseenZ
  have hsub : ∀ l : List Nat, (l.filter fun x => ! (seen ++ [b]).contains x).length ≤ (l.filter fun x => ! seen.contains x).length := by
    intro l
    induction l with
    | nil => simp
    | cons a l ih =>
      simp only [List.filter_cons]
      by_cases c1 : a ∈ seen
      · simp [c1] at ih ⊢; omega
      · by_cases c2 : a = b
        · subst c2; simp [c1] at ih ⊢; omega
        · simp [c1, c2] at ih ⊢; omega
  induction bs with
  | nil => simp at h1
  | cons a bs ih =>
    simp only [List.filter_cons]
    have hs := hsub bs
    by_cases c2 : a = b
    · subst c2; simp [h2] at hs ⊢; omega
    · have hm : b ∈ bs := by simp at h1; rcases h1 with h | h; exact absurd h.symm c2; exact h
      have := ih hm
      by_cases c1 : a ∈ seen
      · simp [c1, c2] at this ⊢; omega
      · simp [c1, c2] at this ⊢; omega
theorem unseenZ_sub {bs bs' seen : List Nat} (h : bs'.Sublist bs) : unseenZ bs' seen ≤ unseenZ bs seen := (h.filter _).length_le
structure ZOk {β : Type} (keep : Int → Bool) (V : List (Int × β)) (clock : Nat) (Z : Zs β) (seen : List Nat) : Prop where
  nb : (zb Z).Nodup
  nk : ((zv Z).map (·.1)).Nodup
  lt : ∀ x ∈ zb Z, x < clock
  all : (zv Z).filter (fun p => keep p.1) = V.filter (fun p => keep p.1)
  ok : ∀ z ∈ Z, z.1 ∈ seen → keep z.2.1 = true
  su : (zv Z).Sublist V
theorem ZOk.done {β : Type} {keep : Int → Bool} {V : List (Int × β)} {clock : Nat} {Z : Zs β} {seen : List Nat} (h : ZOk keep V clock Z seen) (hd : ∀ x ∈ zb Z, x ∈ seen) : zv Z = V.filter (fun p => keep p.1) := by
  rw [← h.all, eq_comm, List.filter_eq_self]
  intro p hp
  obtain ⟨z, hz, rfl⟩ := List.mem_map.1 hp
  exact h.ok z hz (hd _ (List.mem_map.2 ⟨z, hz, rfl⟩))
theorem z_idx {β : Type} {Z : Zs β} {j : Nat} {z z' : Nat × (Int × β)} (hn : (zb Z).Nodup) (h : Z[j]? = some z) (hz : z' ∈ Z) (he : z'.1 = z.1) : z' = z := by
  obtain ⟨j', hj⟩ := List.getElem?_of_mem hz
  have h1 : (zb Z)[j]? = some z.1 := by simp [zb, h]
  have h2 : (zb Z)[j']? = some z.1 := by simp [zb, hj, he]
  have l1 : j < (zb Z).length := (List.getElem?_eq_some_iff.1 h1).1
  obtain rfl : j = j' := (List.getElem?_inj l1 hn).1 (by rw [h1, h2])
  rw [h] at hj; cases hj; rfl
theorem ZOk.keepS {β : Type} {keep : Int → Bool} {V : List (Int × β)} {clock : Nat} {Z : Zs β} {seen : List Nat} (h : ZOk keep V clock Z seen) {j b : Nat} {p : Int × β} (hj : Z[j]? = some (b, p)) (hk : keep p.1 = true) : ZOk keep V clock Z (seen ++ [b]) := by
  refine ⟨h.nb, h.nk, h.lt, h.all, fun z hz hs => ?_, h.su⟩
  rcases List.mem_append.1 hs with hs | hs
  · exact h.ok z hz hs
  · rw [z_idx h.nb hj hz (by simpa using hs)]; exact hk
theorem ZOk.delS {β : Type} {keep : Int → Bool} {V : List (Int × β)} {clock : Nat} {Z : Zs β} {seen : List Nat} (h : ZOk keep V clock Z seen) {j b : Nat} {p : Int × β} (hj : Z[j]? = some (b, p)) (hk : keep p.1 = false) : ZOk keep V clock (Z.eraseIdx j) (seen ++ [b]) := by
  have hsub : (Z.eraseIdx j).Sublist Z := List.eraseIdx_sublist ..
  refine ⟨h.nb.sublist (hsub.map _), h.nk.sublist ((hsub.map _).map _), fun x hx => h.lt x ((hsub.map _).subset hx), ?_, fun z hz hs => ?_, (hsub.map _).trans h.su⟩
  · rw [← h.all]
    have : ∀ (Z : Zs β) (j : Nat), Z[j]? = some (b, p) → (zv (Z.eraseIdx j)).filter (fun p => keep p.1) = (zv Z).filter (fun p => keep p.1) := by
      intro Z
      induction Z with
      | nil => intro j h; simp at h
      | cons z Z ih =>
        intro j h
        cases j with
        | zero =>
          simp only [List.getElem?_cons_zero, Option.some.injEq] at h
          subst h
          simp only [List.eraseIdx_cons_zero, zv, List.map_cons, List.filter_cons, hk]; rfl
        | succ j =>
          simp only [List.getElem?_cons_succ] at h
          have := ih j h
          simp only [zv] at this ⊢
          simp only [List.eraseIdx_cons_succ, List.map_cons, List.filter_cons, this]
    exact this Z j hj
  · rcases List.mem_append.1 hs with hs | hs
    · exact h.ok z (hsub.subset hz) hs
    · exfalso
      have hb : z.1 = b := by simpa using hs
      have hn : (zb Z).Nodup := h.nb
      have hc : b ∉ zb (Z.eraseIdx j) := by
        have h1 : (zb Z)[j]? = some b := by simp [zb, hj]
        have : zb (Z.eraseIdx j) = (zb Z).eraseIdx j := map_eraseIdx' _ _ _
        rw [this]
        intro hm
        obtain ⟨l1, h1'⟩ := List.getElem?_eq_some_iff.1 h1
        rw [List.mem_eraseIdx_iff_getElem?] at hm
        obtain ⟨i, hi, hi2⟩ := hm
        exact hi ((List.getElem?_inj (List.getElem?_eq_some_iff.1 hi2).1 hn).1 (by rw [hi2, h1]))
      exact hc (List.mem_map.2 ⟨z, hz, hb⟩)
theorem z_zip {β : Type} {bs : List Nat} {V : List (Int × β)} (h : bs.length = V.length) : zb (bs.zip V) = bs ∧ zv (bs.zip V) = V := by
  unfold zb zv
  exact ⟨List.map_fst_zip (by omega), List.map_snd_zip (by omega)⟩
/-! the walk -/
theorem mv2_spec (S : Nat) (hS : S < 4294967296) (ep p : Int) (y : Bool) : Tri Tryd.prog 32 [.int .i64 p, .bsym y, .pbox 0 0] [.box [.int .u32 (S : Nat), .int .i64 ep]] (fun v m => v = .bsym (!hasN S p) ∧ m = [.box [.int .u32 (S : Nat), .int .i64 ep]]) := by
  refine Tri.post ?_
  have hh := r_has_spec S hS ep p
  refine (Tri.enter (rl := r32) (code := c32) (by kernel_rfl) Tryd.func32 rfl c32_ok (by kernel_rfl) (by kernel_rfl) ?_)
  refine run_ok 4000 _ _ _ _ ?_
  simp (maxSteps := 10000000) only [go_sem, c32, r32]
  refine sem_call rfl rfl (((hh).embed [] rfl trivial rfl rfl rfl (by simp)).mono ?_)
  rintro _ _ ⟨_, _, ⟨rfl, rfl⟩, rfl, rfl⟩
  refine run_ok 4000 _ _ _ _ ?_
  simp (maxSteps := 10000000) only [go_sem]
  refine ⟨_, _, .sub [0] ?_ .done, rfl, rfl⟩
  simp only [EmbV, go_sem]
theorem del_spec (S : Nat) (hS : S < 4294967296) (ep : Int) (V : Vts) (hn : (V.map (·.1)).Nodup) : Tri Tryd.prog 31 [.map 0, .fn 32 [] [.pbox 1 0]] [.map (vb V), .box [.int .u32 (S : Nat), .int .i64 ep]]
    (fun v m => v = .tup [] ∧ m = [.map (vb (V.filter fun p => hasN S p.1)), .box [.int .u32 (S : Nat), .int .i64 ep]]) := by
  refine Tri.post ?_
  refine (Tri.enter (rl := r31) (code := c31) (by kernel_rfl) Tryd.func31 rfl c31_ok (by kernel_rfl) (by kernel_rfl) ?_)
  refine run_ok 4000 _ _ _ _ ?_
  simp (maxSteps := 10000000) only [go_sem, c31, r31]
  refine sem_births 0 rfl ?_
  intro bm clock bs hl hlt hnb
  have hl : bs.length = V.length := by simpa [vb] using hl
  obtain ⟨z1, z2⟩ := z_zip hl
  generalize hZ : bs.zip V = Z0 at *
  subst z1
  have hz0 : ZOk (hasN S) V clock Z0 [] := ⟨hnb, by rw [z2]; exact hn, hlt, by rw [z2], fun z _ h => by simp at h, by rw [z2]; exact List.Sublist.refl _⟩
  rw [← z2]
  simp (maxSteps := 10000000) only [go_sem]
  refine sem_rng rfl rfl rfl ?_
  refine run_ok 4000 _ _ _ _ ?_
  simp (maxSteps := 10000000) only [go_sem]
  refine sem_rounds (fun x : Zs Bool × List Nat => ZOk (hasN S) V clock x.1 x.2)
    (fun x => [(0, .map 0), (1, .fn 32 [] [.pbox 1 0]), (7, .pbox 2 0)])
    (fun x => [.mapb bm clock (zb x.1) (vb (zv x.1)), .box [.int .u32 (S : Nat), .int .i64 ep], .iter (some bm) clock x.2 clock]) (fun x => unseenZ (zb x.1) x.2) (Z0, []) [0, 1, 2] hz0 ?_ ?_
  · simp only [Emb, go_sem]
  rintro ⟨Z, seen⟩ hz
  simp only at hz ⊢
  refine run_ok 4000 _ _ _ _ ?_
  simp (maxSteps := 10000000) only [go_sem]
  refine sem_nxt (i := 2) (b := 0) rfl rfl rfl rfl hz.lt (Nat.le_refl _) ?_ ?_
  · intro hd
    have e := hz.done hd
    refine run_ok 4000 _ _ _ _ ?_
    simp (maxSteps := 10000000) only [go_sem]
    refine sem_unborn 0 rfl ?_
    rw [e]
    refine run_ok 4000 _ _ _ _ ?_
    simp (maxSteps := 10000000) only [go_sem]
    refine ⟨_, _, .sub [0, 1] ?_ .done, rfl, rfl⟩
    simp only [EmbV, go_sem, z2]
  · intro j born key val h1 h2 h3
    obtain ⟨⟨k, y⟩, hj, rfl, rfl⟩ := z_get (g := AV.bsym) h1 h2
    have hmem : born ∈ zb Z := List.mem_of_getElem? h1
    refine run_ok 4000 _ _ _ _ ?_
    simp (maxSteps := 10000000) only [go_sem]
    refine sem_ent (i := 2) (b := 0) (j := j) rfl rfl rfl rfl h1 h2 ?_
    refine run_ok 4000 _ _ _ _ ?_
    simp (maxSteps := 10000000) only [go_sem]
    have hm := mv2_spec S hS ep k y
    cases hk : hasN S k with
    | true =>
      rw [hk] at hm
      refine sem_callv rfl rfl rfl (((hm).embed [1] rfl (by repeat' first | exact trivial | rfl | (simp only [go_sem]; done) | constructor) rfl (by first | rfl | simp only [go_sem]) rfl (by simp)).mono ?_)
      rintro _ _ ⟨_, _, ⟨rfl, rfl⟩, rfl, rfl⟩
      refine run_ok 4000 _ _ _ _ ?_
      simp (maxSteps := 10000000) only [go_sem]
      refine ⟨(Z, seen ++ [born]), unseenZ_dec hmem h3, hz.keepS hj hk, [0, 1, 2], ?_⟩
      simp only [Emb, go_sem]
    | false =>
      rw [hk] at hm
      refine sem_callv rfl rfl rfl (((hm).embed [1] rfl (by repeat' first | exact trivial | rfl | (simp only [go_sem]; done) | constructor) rfl (by first | rfl | simp only [go_sem]) rfl (by simp)).mono ?_)
      rintro _ _ ⟨_, _, ⟨rfl, rfl⟩, rfl, rfl⟩
      refine run_ok 4000 _ _ _ _ ?_
      simp (maxSteps := 10000000) only [go_sem]
      refine sem_mdelb (b := 0) rfl rfl rfl rfl rfl (vb_ok _ _) ?_
      rw [show delB (zb Z) (vb (zv Z)) (.int .i64 k) = (zb (Z.eraseIdx j), vb (zv (Z.eraseIdx j))) from z_del (g := AV.bsym) (p := (k, y)) hz.nk hj]
      refine run_ok 4000 _ _ _ _ ?_
      simp (maxSteps := 10000000) only [go_sem]
      refine ⟨(Z.eraseIdx j, seen ++ [born]), Nat.lt_of_le_of_lt (unseenZ_sub ((List.eraseIdx_sublist ..).map _)) (unseenZ_dec hmem h3), hz.delS hj hk, [0, 1, 2], ?_⟩
      simp only [Emb, go_sem]
theorem mv1_spec (S : Nat) (hS : S < 4294967296) (ep p : Int) {m : Mem} {N j : Nat} (hm : mg m N = .box [.int .u32 (S : Nat), .int .i64 ep]) : Tri Tryd.prog 30 [.int .i64 p, .map j, .pbox N 0] m (fun v m' => v = .bsym (!hasN S p) ∧ m' = m) := by
  refine Tri.post ?_
  have hh := r_has_spec S hS ep p
  skip
  refine (Tri.enter (rl := r30) (code := c30) (by kernel_rfl) Tryd.func30 rfl c30_ok (by kernel_rfl) (by kernel_rfl) ?_)
  refine run_ok 4000 _ _ _ _ ?_
  simp (maxSteps := 10000000) only [go_sem, c30, r30, hm]
  refine sem_call rfl rfl (((hh).embed [] rfl trivial rfl rfl rfl (by simp)).mono ?_)
  rintro _ _ ⟨_, _, ⟨rfl, rfl⟩, rfl, rfl⟩
  refine run_ok 4000 _ _ _ _ ?_
  simp (maxSteps := 10000000) only [go_sem, hm]
  exact ⟨_, _, .done, rfl, rfl⟩
abbrev xM (S : Nat) (ep : Int) (bm clock : Nat) (Z : Zs Nat) (F : List Vts) (ex : Mem) : Mem := vBox S ep :: .mapb bm clock (zb Z) (ob (zv Z)) :: (vfam F ++ ex)
theorem xM_idsn (S : Nat) (ep : Int) (bm clock : Nat) (Z : Zs Nat) (F : List Vts) (ex : Mem) (h : OkO (zv Z) F) (n : Nat) (hn : F.length + 1 + 1 ≤ n) (he : idsM n ex = true) : idsM n (xM S ep bm clock Z F ex) = true := by
  have h1 := ob_ids (n := n) (zv Z) fun e he => by have := h e he; omega
  have h2 := vfam_ids n F
  simp only [xM, idsM, idsB, h1, idsM_appE, h2, he, Bool.and_true, idss, ids, Bool.true_and]
  simp; omega
theorem xM_len (S : Nat) (ep : Int) (bm clock : Nat) (Z : Zs Nat) (F : List Vts) (ex : Mem) : (xM S ep bm clock Z F ex).length = F.length + ex.length + 1 + 1 := by simp [vfam]
theorem yM_idsn (S : Nat) (ep : Int) (O : Outr) (F : List Vts) (ex : Mem) (h : OkO O F) (n : Nat) (hn : F.length + 1 + 1 ≤ n) (he : idsM n ex = true) : idsM n (vBox S ep :: .map (ob O) :: (vfam F ++ ex)) = true := by
  have h1 := ob_ids (n := n) O fun e he => by have := h e he; omega
  have h2 := vfam_ids n F
  simp only [idsM, idsB, h1, idsM_appE, h2, he, Bool.and_true, idss, ids, Bool.true_and]
  simp; omega
theorem delO_spec (S S' : Nat) (hS : S' < 4294967296) (ep ep' : Int) (O : Outr) (F : List Vts) (hn : (O.map (·.1)).Nodup) (hO : OkO O F) :
    Tri Tryd.prog 29 [.map 1, .fn 30 [] [.pbox ((vfam F).length + 1 + 1) 0]] (vBox S ep :: .map (ob O) :: (vfam F ++ [.box [.int .u32 (S' : Nat), .int .i64 ep']]))
      (fun v m => v = .tup [] ∧ m = vBox S ep :: .map (ob (O.filter fun e => hasN S' e.1)) :: (vfam F ++ [.box [.int .u32 (S' : Nat), .int .i64 ep']])) := by
  refine Tri.post ?_
  have h1 := fun x ex => mg_app0 (vfam F) (x :: ex)
  have h2 := fun x ex j => mg_app (vfam F) (x :: ex) j
  have h3 := fun x ex y => ms_app0 (vfam F) (x :: ex) y
  have h4 := fun x ex j y => ms_app (vfam F) (x :: ex) j y
  have h5 := app_len (vfam F)
  skip
  refine (Tri.enter (rl := r29) (code := c29) (by kernel_rfl) Tryd.func29 rfl c29_ok (by kernel_rfl) (by kernel_rfl) ?_)
  refine run_ok 4000 _ _ _ _ ?_
  simp (maxSteps := 10000000) only [go_sem, c29, r29, h1, h2, h3, h4, h5, List.append_assoc, List.cons_append, List.nil_append]
  refine sem_births 1 rfl ?_
  intro bm clock bs hl hlt hnb
  have hl : bs.length = O.length := by simpa [ob] using hl
  obtain ⟨z1, z2⟩ := z_zip hl
  generalize hZ : bs.zip O = Z0 at *
  subst z1
  have hz0 : ZOk (hasN S') O clock Z0 [] := ⟨hnb, by rw [z2]; exact hn, hlt, by rw [z2], fun z _ h => by simp at h, by rw [z2]; exact List.Sublist.refl _⟩
  rw [← z2]
  simp (maxSteps := 10000000) only [go_sem, h1, h2, h3, h4, h5, List.append_assoc, List.cons_append, List.nil_append]
  refine sem_rng rfl rfl rfl ?_
  refine run_ok 4000 _ _ _ _ ?_
  simp (maxSteps := 10000000) only [go_sem, h1, h2, h3, h4, h5, List.append_assoc, List.cons_append, List.nil_append]
  have hOZ : ∀ Z : Zs Nat, (zv Z).Sublist O → OkO (zv Z) F := fun Z hs e he => hO e (hs.subset he)
  refine sem_roundsJ (fun x : Zs Nat × List Nat => ZOk (hasN S') O clock x.1 x.2)
    (fun x => [(0, .map 1), (1, .fn 30 [] [.pbox ((vfam F).length + 1 + 1) 0]), (7, .pbox ((vfam F).length + 1 + 1 + 1) 0)])
    (fun x => xM S ep bm clock x.1 F [.box [.int .u32 (S' : Nat), .int .i64 ep'], .iter (some bm) clock x.2 clock]) (fun x => unseenZ (zb x.1) x.2) (Z0, []) ?_ ?_ ?_ hz0 ?_ ?_
  · intro x hx; exact xM_idsn _ _ _ _ _ _ _ (hOZ _ hx.su) _ (by rw [xM_len]; simp) (by simp only [go_sem])
  · intro x hx; simp
  · intro x hx; simp [idsT, ids, idss]
  · simp only [go_sem]
  rintro ⟨Z, seen⟩ hz
  simp only at hz ⊢
  have hi1 : ∀ (Z : Zs Nat) (s : List Nat), mg (xM S ep bm clock Z F [.box [.int .u32 (S' : Nat), .int .i64 ep'], .iter (some bm) clock s clock]) ((vfam F).length + 1 + 1 + 1) = .iter (some bm) clock s clock := fun Z s => by
    show mg (vfam F ++ _) ((vfam F).length + 1) = _
    rw [mg_app]; rfl
  have hi0 : ∀ (Z : Zs Nat) (s : List Nat), mg (xM S ep bm clock Z F [.box [.int .u32 (S' : Nat), .int .i64 ep'], .iter (some bm) clock s clock]) ((vfam F).length + 1 + 1) = .box [.int .u32 (S' : Nat), .int .i64 ep'] := fun Z s => by
    show mg (vfam F ++ _) (vfam F).length = _
    rw [mg_app0]; rfl
  refine run_ok 4000 _ _ _ _ ?_
  simp (maxSteps := 10000000) only [go_sem, h1, h2, h3, h4, h5, List.append_assoc, List.cons_append, List.nil_append]
  refine sem_nxt (i := (vfam F).length + 1 + 1 + 1) (b := 1) rfl rfl (hi1 Z seen) rfl hz.lt (Nat.le_refl _) ?_ ?_
  · intro hd
    have e := hz.done hd
    refine run_ok 4000 _ _ _ _ ?_
    simp (maxSteps := 10000000) only [go_sem, h1, h2, h3, h4, h5, List.append_assoc, List.cons_append, List.nil_append]
    refine sem_unborn 1 rfl ?_
    rw [e]
    refine run_ok 4000 _ _ _ _ ?_
    simp (maxSteps := 10000000) only [go_sem, h1, h2, h3, h4, h5, List.append_assoc, List.cons_append, List.nil_append]
    rw [z2]
    have em : (vBox S ep :: .map (ob (O.filter fun e => hasN S' e.1)) :: (vfam F ++ ([.box [.int .u32 (S' : Nat), .int .i64 ep'], .iter (some bm) clock seen clock] : Mem))) = (vBox S ep :: .map (ob (O.filter fun e => hasN S' e.1)) :: (vfam F ++ [.box [.int .u32 (S' : Nat), .int .i64 ep']])) ++ [.iter (some bm) clock seen clock] := by simp
    rw [em]
    exact ⟨_, _, post_front _ (yM_idsn S ep _ F _ (fun e he => hO e (List.mem_filter.1 he).1) _ (by simp [vfam_len]) (by simp only [go_sem])) (by simp) rfl .done, rfl, rfl⟩
  · intro j born key val h1' h2' h3'
    obtain ⟨⟨k, y⟩, hj, rfl, rfl⟩ := z_get (g := fun k => AV.map (k + 1 + 1)) h1' h2'
    have hmem : born ∈ zb Z := List.mem_of_getElem? h1'
    refine run_ok 4000 _ _ _ _ ?_
    simp (maxSteps := 10000000) only [go_sem, h1, h2, h3, h4, h5, List.append_assoc, List.cons_append, List.nil_append]
    refine sem_ent (i := (vfam F).length + 1 + 1 + 1) (b := 1) (j := j) rfl rfl (hi1 Z _) rfl h1' h2' ?_
    refine run_ok 4000 _ _ _ _ ?_
    simp (maxSteps := 10000000) only [go_sem, h1, h2, h3, h4, h5, List.append_assoc, List.cons_append, List.nil_append]
    have hm := mv1_spec S' hS ep' k (j := y + 1 + 1) (hi0 Z (seen ++ [born]))
    cases hk : hasN S' k with
    | true =>
      rw [hk] at hm
      refine sem_callv rfl rfl rfl (hm.mono ?_)
      rintro _ _ ⟨rfl, rfl⟩
      refine run_ok 4000 _ _ _ _ ?_
      simp (maxSteps := 10000000) only [go_sem, h1, h2, h3, h4, h5, List.append_assoc, List.cons_append, List.nil_append]
      refine ⟨(Z, seen ++ [born]), unseenZ_dec hmem h3', hz.keepS hj hk, [], rfl⟩
    | false =>
      rw [hk] at hm
      refine sem_callv rfl rfl rfl (hm.mono ?_)
      rintro _ _ ⟨rfl, rfl⟩
      refine run_ok 4000 _ _ _ _ ?_
      simp (maxSteps := 10000000) only [go_sem, h1, h2, h3, h4, h5, List.append_assoc, List.cons_append, List.nil_append]
      refine sem_mdelb (b := 1) rfl rfl rfl rfl rfl (ob_ok _ _) ?_
      rw [show delB (zb Z) (ob (zv Z)) (.int .i64 k) = (zb (Z.eraseIdx j), ob (zv (Z.eraseIdx j))) from z_del (g := fun k => AV.map (k + 1 + 1)) (p := (k, y)) hz.nk hj]
      refine run_ok 4000 _ _ _ _ ?_
      simp (maxSteps := 10000000) only [go_sem, h1, h2, h3, h4, h5, List.append_assoc, List.cons_append, List.nil_append]
      refine ⟨(Z.eraseIdx j, seen ++ [born]), Nat.lt_of_le_of_lt (unseenZ_sub ((List.eraseIdx_sublist ..).map _)) (unseenZ_dec hmem h3'), hz.delS hj hk, [], rfl⟩
end Go.AEX

/- Door seat: boxes: Move, whole. -/
namespace Go.AEX
open Go Go.AE Go.Proofs
set_option maxRecDepth 100000
set_option linter.unusedVariables false
set_option linter.unusedSimpArgs false

def flt (S : Nat) (V : Vts) : Vts := V.filter fun p => hasN S p.1
def mvF (S : Nat) (O : Outr) (F : List Vts) : List Vts := F.mapIdx fun k V => if k ∈ O.map (·.2) then flt S V else V
theorem mvF_len (S : Nat) (O : Outr) (F : List Vts) : (mvF S O F).length = F.length := by simp [mvF]
def sn (Z : Zs Nat) (seen : List Nat) : List Nat := (Z.filter fun z => decide (z.1 ∈ seen)).map (·.2.2)
structure MOk (S : Nat) (Z0 : Zs Nat) (F0 : List Vts) (seen : List Nat) (F : List Vts) : Prop where
  len : F.length = F0.length
  fw : ∀ k, F[k]? = (F0[k]?).map fun V => if k ∈ sn Z0 seen then flt S V else V
theorem sn_mem {Z : Zs Nat} {seen : List Nat} {k : Nat} : k ∈ sn Z seen ↔ ∃ z ∈ Z, z.1 ∈ seen ∧ z.2.2 = k := by
  unfold sn
  rw [List.mem_map]
  constructor
  · rintro ⟨z, hz, e⟩
    rw [List.mem_filter, decide_eq_true_eq] at hz
    exact ⟨z, hz.1, hz.2, e⟩
  · rintro ⟨z, hz, hs, e⟩
    exact ⟨z, List.mem_filter.2 ⟨hz, decide_eq_true hs⟩, e⟩
theorem MOk.nil (S : Nat) (Z0 : Zs Nat) (F0 : List Vts) : MOk S Z0 F0 [] F0 := ⟨rfl, fun k => by
  have : ∀ k, k ∉ sn Z0 [] := fun k h => by obtain ⟨z, _, h, _⟩ := sn_mem.1 h; simp at h
  simp [this]⟩
theorem MOk.done {S : Nat} {Z0 : Zs Nat} {F0 F : List Vts} {seen : List Nat} (h : MOk S Z0 F0 seen F) (hd : ∀ x ∈ zb Z0, x ∈ seen) : F = mvF S (zv Z0) F0 := by
  refine List.ext_getElem? fun k => ?_
  rw [h.fw k]
  unfold mvF
  rw [List.getElem?_mapIdx]
  have e : k ∈ sn Z0 seen ↔ k ∈ (zv Z0).map (·.2) := by
    rw [sn_mem, List.mem_map]
    constructor
    · rintro ⟨z, hz, _, e⟩; exact ⟨z.2, List.mem_map.2 ⟨z, hz, rfl⟩, e⟩
    · rintro ⟨p, hp, e⟩
      obtain ⟨z, hz, rfl⟩ := List.mem_map.1 hp
      exact ⟨z, hz, hd _ (List.mem_map.2 ⟨z, hz, rfl⟩), e⟩
  cases F0[k]? with
  | none => rfl
  | some V =>
    simp only [Option.map_some]
    by_cases c : k ∈ sn Z0 seen
    · rw [if_pos c, if_pos (e.1 c)]
    · rw [if_neg c, if_neg fun h => c (e.2 h)]
theorem MOk.step {S : Nat} {Z0 : Zs Nat} {F0 F : List Vts} {seen : List Nat} (h : MOk S Z0 F0 seen F) (hb : (zb Z0).Nodup) (hv : ((zv Z0).map (·.2)).Nodup) {j b : Nat} {p : Int} {k : Nat} (hj : Z0[j]? = some (b, (p, k))) (hs : b ∉ seen) {V : Vts} (hV : F0[k]? = some V) :
    F[k]? = some V ∧ MOk S Z0 F0 (seen ++ [b]) (F.set k (flt S V)) := by
  have hz : (b, (p, k)) ∈ Z0 := List.mem_of_getElem? hj
  have uni : ∀ z ∈ Z0, z.2.2 = k → z.1 = b := by
    intro z hz' e
    have h2 : z.2 = (p, k) := nd_map_inj hv (List.mem_map.2 ⟨z, hz', rfl⟩) (List.mem_map.2 ⟨_, hz, rfl⟩) e
    have hvn : ((Z0.map (·.2))).Nodup := nd_of_map (f := fun x : Int × Nat => x.2) (by simpa [zv] using hv)
    have := nd_map_inj hvn hz' hz h2
    rw [this]
  have hno : k ∉ sn Z0 seen := fun hk => by
    obtain ⟨z, hz', h1, h2⟩ := sn_mem.1 hk
    exact hs (uni z hz' h2 ▸ h1)
  have hk0 : F[k]? = some V := by rw [h.fw k, hV]; simp [hno]
  refine ⟨hk0, by rw [List.length_set]; exact h.len, fun i => ?_⟩
  rw [List.getElem?_set]
  by_cases c : k = i
  · subst c
    rw [if_pos rfl, if_pos (lt_of_get hk0), hV]
    have : k ∈ sn Z0 (seen ++ [b]) := sn_mem.2 ⟨_, hz, by simp, rfl⟩
    simp [this]
  · rw [if_neg c, h.fw i]
    have e : i ∈ sn Z0 (seen ++ [b]) ↔ i ∈ sn Z0 seen := by
      rw [sn_mem, sn_mem]
      constructor
      · rintro ⟨z, hz', h1, h2⟩
        rcases List.mem_append.1 h1 with h1 | h1
        · exact ⟨z, hz', h1, h2⟩
        · exfalso
          have hzb : z.1 = b := by simpa using h1
          have := nd_map_inj hb hz' hz hzb
          rw [this] at h2
          exact c h2
      · rintro ⟨z, hz', h1, h2⟩
        exact ⟨z, hz', List.mem_append_left _ h1, h2⟩
    cases F0[i]? with
    | none => rfl
    | some W =>
      simp only [Option.map_some]
      by_cases c2 : i ∈ sn Z0 seen
      · rw [if_pos c2, if_pos (e.2 c2)]
      · rw [if_neg c2, if_neg fun h => c2 (e.1 h)]
theorem bmove_spec (S S' : Nat) (hS : S' < 4294967296) (ep ep' : Int) (O : Outr) (F : List Vts) (hn : (O.map (·.1)).Nodup) (hv : (O.map (·.2)).Nodup) (hO : OkO O F) (hV : ∀ e ∈ O, ∀ V, F[e.2]? = some V → (V.map (·.1)).Nodup) :
    Tri Tryd.prog 20 [.pbox 0 0, ros S' ep'] (bM S ep O F) (fun v m => v = .tup [] ∧ m = bM S' ep' (O.filter fun e => hasN S' e.1) (mvF S' (O.filter fun e => hasN S' e.1) F)) := by
  refine Tri.post ?_
  have hsub : (O.filter fun e => hasN S' e.1).Sublist O := List.filter_sublist
  have hdo := delO_spec S' S' hS ep' ep' O F hn hO
  have hv' : ((O.filter fun e => hasN S' e.1).map (·.2)).Nodup := hv.sublist (hsub.map _)
  have hO' : OkO (O.filter fun e => hasN S' e.1) F := fun e he => hO e (hsub.subset he)
  have hV' : ∀ e ∈ O.filter fun e => hasN S' e.1, ∀ V, F[e.2]? = some V → (V.map (·.1)).Nodup := fun e he => hV e (hsub.subset he)
  generalize (O.filter fun e => hasN S' e.1) = O' at *
  rw [vfam_len] at hdo
  have h1 := fun x ex => mg_app0 (vfam F) (x :: ex)
  have h2 := fun x ex j => mg_app (vfam F) (x :: ex) j
  have h3 := fun x ex y => ms_app0 (vfam F) (x :: ex) y
  have h4 := fun x ex j y => ms_app (vfam F) (x :: ex) j y
  have h5 := app_len (vfam F)
  rw [vfam_len] at h1 h2 h3 h4 h5
  skip
  refine (Tri.enter (rl := r20) (code := c20) (by kernel_rfl) Tryd.func20 rfl c20_ok (by kernel_rfl) (by kernel_rfl) ?_)
  refine run_ok 4000 _ _ _ _ ?_
  simp (maxSteps := 10000000) only [go_sem, c20, r20, h1, h2, h3, h4, h5, vfam_len, List.append_assoc, List.cons_append, List.nil_append]
  refine sem_call rfl rfl ((hdo).mono ?_)
  rintro _ _ ⟨rfl, rfl⟩
  refine run_ok 4000 _ _ _ _ ?_
  simp (maxSteps := 10000000) only [go_sem, h1, h2, h3, h4, h5, vfam_len, List.append_assoc, List.cons_append, List.nil_append]
  refine sem_births 1 rfl ?_
  intro bm clock bs hl hlt hnb
  have hl : bs.length = O'.length := by simpa [ob] using hl
  obtain ⟨z1, z2⟩ := z_zip hl
  generalize hZ : bs.zip O' = Z0 at *
  subst z1
  subst z2
  simp (maxSteps := 10000000) only [go_sem, h1, h2, h3, h4, h5, vfam_len, List.append_assoc, List.cons_append, List.nil_append]
  refine sem_rng rfl rfl rfl ?_
  refine run_ok 4000 _ _ _ _ ?_
  simp (maxSteps := 10000000) only [go_sem, h1, h2, h3, h4, h5, vfam_len, List.append_assoc, List.cons_append, List.nil_append]
  refine sem_roundsJ (fun x : List Nat × List Vts => MOk S' Z0 F x.1 x.2)
    (fun x => [(3, .pbox (F.length + 1 + 1) 0), (20, .pbox (F.length + 1 + 1 + 1) 0)])
    (fun x => xM S' ep' bm clock Z0 x.2 [.box [.int .u32 (S' : Nat), .int .i64 ep'], .iter (some bm) clock x.1 clock]) (fun x => unseenZ (zb Z0) x.1) ([], F) ?_ ?_ ?_ (MOk.nil _ _ _) ?_ ?_
  · intro x hx; exact xM_idsn _ _ _ _ _ _ _ (fun e he => by have := hO' e he; rw [hx.len]; exact this) _ (by rw [xM_len]; simp) (by simp only [go_sem])
  · intro x hx; simp [vfam_len, hx.len]
  · intro x hx; simp [idsT, ids, idss, vfam_len, hx.len]
  · simp only [go_sem]
  rintro ⟨seen, G⟩ hz
  simp only at hz ⊢
  have hi1 : ∀ (G : List Vts) (s : List Nat), G.length = F.length → mg (xM S' ep' bm clock Z0 G [.box [.int .u32 (S' : Nat), .int .i64 ep'], .iter (some bm) clock s clock]) (F.length + 1 + 1 + 1) = .iter (some bm) clock s clock := fun G s h => by
    show mg (vfam G ++ _) (F.length + 1) = _
    rw [← h, ← vfam_len, mg_app]; rfl
  have hi0 : ∀ (G : List Vts) (s : List Nat), G.length = F.length → mg (xM S' ep' bm clock Z0 G [.box [.int .u32 (S' : Nat), .int .i64 ep'], .iter (some bm) clock s clock]) (F.length + 1 + 1) = .box [.int .u32 (S' : Nat), .int .i64 ep'] := fun G s h => by
    show mg (vfam G ++ _) F.length = _
    rw [← h, ← vfam_len, mg_app0]; rfl
  have hlG := hz.len
  have q1 := fun x ex => mg_app0 (vfam G) (x :: ex)
  have q2 := fun x ex j => mg_app (vfam G) (x :: ex) j
  have q3 := fun x ex y => ms_app0 (vfam G) (x :: ex) y
  have q4 := fun x ex j y => ms_app (vfam G) (x :: ex) j y
  rw [vfam_len, hlG] at q1 q2 q3 q4
  skip
  refine run_ok 4000 _ _ _ _ ?_
  simp (maxSteps := 10000000) only [go_sem, q1, q2, q3, q4, List.append_assoc, List.cons_append, List.nil_append]
  refine sem_nxt (i := F.length + 1 + 1 + 1) (b := 1) rfl rfl (hi1 G seen hlG) rfl hlt (Nat.le_refl _) ?_ ?_
  · intro hd
    have e := hz.done hd
    refine run_ok 4000 _ _ _ _ ?_
    simp (maxSteps := 10000000) only [go_sem, q1, q2, q3, q4, List.append_assoc, List.cons_append, List.nil_append]
    refine sem_unborn 1 rfl ?_
    refine run_ok 4000 _ _ _ _ ?_
    simp (maxSteps := 10000000) only [go_sem, q1, q2, q3, q4, List.append_assoc, List.cons_append, List.nil_append]
    have em : (vBox S' ep' :: .map (ob (zv Z0)) :: (vfam G ++ ([.box [.int .u32 (S' : Nat), .int .i64 ep'], .iter (some bm) clock seen clock] : Mem))) = bM S' ep' (zv Z0) G ++ [.box [.int .u32 (S' : Nat), .int .i64 ep'], .iter (some bm) clock seen clock] := rfl
    rw [em]
    refine ⟨_, _, post_front _ (bM_ids S' ep' _ G (fun e he => by have := hO' e he; rw [hlG]; exact this)) (by rw [bM_len, hlG]; exact Nat.le_refl _) rfl .done, rfl, by rw [e]⟩
  · intro j born key val h1' h2' h3'
    obtain ⟨⟨k, y⟩, hj, rfl, rfl⟩ := z_get (g := fun k => AV.map (k + 1 + 1)) h1' h2'
    have hmem : born ∈ zb Z0 := List.mem_of_getElem? h1'
    have hmo : (k, y) ∈ zv Z0 := List.mem_map.2 ⟨_, List.mem_of_getElem? hj, rfl⟩
    have hy : y < F.length := hO' _ hmo
    obtain ⟨V, hVy⟩ : ∃ V, F[y]? = some V := ⟨F[y], List.getElem?_eq_getElem hy⟩
    obtain ⟨hGy, hnx⟩ := hz.step hnb hv' hj h3' hVy
    have hmg := fun ex => mg_front (vfam_get hGy) rfl ex
    have hms : ∀ (W : Vts) (ex : Mem), ms (vfam G ++ ex) y (.map (vb W)) = vfam (G.set y W) ++ ex := fun W ex => by
      rw [ms_front _ (by rw [vfam_len, hlG]; exact hy), vfam_set]
    have hlG2 : (G.set y (flt S' V)).length = F.length := by rw [List.length_set]; exact hlG
    have u3 := fun x ex z => ms_app0 (vfam (G.set y (flt S' V))) (x :: ex) z
    rw [vfam_len, hlG2] at u3
    refine run_ok 4000 _ _ _ _ ?_
    simp (maxSteps := 10000000) only [go_sem, q1, q2, q3, q4, List.append_assoc, List.cons_append, List.nil_append]
    refine sem_ent (i := F.length + 1 + 1 + 1) (b := 1) (j := j) rfl rfl (hi1 G _ hlG) rfl h1' h2' ?_
    refine run_ok 4000 _ _ _ _ ?_
    simp (maxSteps := 10000000) only [go_sem, q1, q2, q3, q4, List.append_assoc, List.cons_append, List.nil_append]
    have hd := del_spec S' hS ep' V (hV' _ hmo V hVy)
    refine sem_call rfl rfl ((hd.embed [y + 1 + 1, F.length + 1 + 1] rfl ⟨by simp only [go_sem, hmg], by simp only [go_sem, q1], trivial⟩ rfl (by simp only [go_sem]) (by simp [nodupN]; omega) (by simp [vfam_len, hlG]; omega)).mono ?_)
    rintro _ _ ⟨_, _, ⟨rfl, rfl⟩, rfl, rfl⟩
    skip
    refine run_ok 4000 _ _ _ _ ?_
    simp (maxSteps := 10000000) only [go_sem, q1, q2, q3, q4, hms, u3, hlG2, show (V.filter fun p => hasN S' p.1) = flt S' V from rfl, List.append_assoc, List.cons_append, List.nil_append]
    refine ⟨(seen ++ [born], G.set y (flt S' V)), unseenZ_dec hmem h3', hnx, [], rfl⟩
end Go.AEX
