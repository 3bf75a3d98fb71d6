/- Vote: VoteMoves. -/
import Derived.Test.YthdkobfafncpcaaVoteG
namespace Go.AEX
open Go Go.AE Go.Proofs
set_option maxRecDepth 100000
set_option linter.unusedVariables false
set_option linter.unusedSimpArgs false

/-! how often each said so -/
abbrev Sd := List (Int × Int)
def sb (M : Sd) : List (AV × AV) := M.map fun p => (.int .i64 p.1, .int .i64 p.2)
theorem sb_ren (π : List Nat) (N : Nat) (M : Sd) : renP π N (sb M) = sb M := by
  induction M with
  | nil => rfl
  | cons p M ih => unfold sb at ih ⊢; simp only [List.map_cons, renP, ren, ih]
theorem sb_ids (k : Nat) (M : Sd) : idsP k (sb M) = true := by
  induction M with
  | nil => rfl
  | cons p M ih => unfold sb at ih ⊢; simp only [List.map_cons, idsP, ids, ih, Bool.and_self]
theorem sb_ok (M : Sd) (v : Int) : keysOk (sb M) (.int .i64 v) := by
  induction M with
  | nil => trivial
  | cons p M ih => exact ⟨rfl, ih⟩
theorem sb_len (M : Sd) : (sb M).length = M.length := by simp [sb]
attribute [go_sem] sb_ren sb_ids sb_ok
def sg : Sd → Int → Int
  | [], _ => 0
  | p :: M, v => if v = p.1 then p.2 else sg M v
def sup : Sd → Int → Sd
  | [], v => [(v, 1)]
  | p :: M, v => if v = p.1 then (p.1, p.2 + 1) :: M else p :: sup M v
def sdl (M : Sd) (v : Int) : Sd := M.filter fun p => !(p.1 == v)
theorem sb_find (v : Int) : ∀ (M : Sd), (mfind (sb M) (.int .i64 v) = none ∧ v ∉ M.map (·.1) ∧ sg M v = 0) ∨ (mfind (sb M) (.int .i64 v) = some (.int .i64 (sg M v)) ∧ v ∈ M.map (·.1))
  | [] => .inl ⟨rfl, by simp, rfl⟩
  | p :: M => by
    have e : kd IntKind.i64 IntKind.i64 = true := rfl
    simp only [sb, List.map_cons, mfind, keq, e, Bool.true_and, sg]
    by_cases c : v = p.1
    · rw [if_pos c, c, beq_self_eq_true]; exact .inr ⟨rfl, by simp⟩
    · have : (v == p.1) = false := by simpa using c
      rw [if_neg c, this]
      rcases sb_find v M with ⟨h1, h2, h3⟩ | ⟨h1, h2⟩
      · exact .inl ⟨h1, by simp only [List.mem_cons, not_or]; exact ⟨c, h2⟩, h3⟩
      · exact .inr ⟨h1, by simp only [List.mem_cons]; exact .inr h2⟩
theorem sb_int (M : Sd) (v : Int) : mint (sb M) (.int .i64 v) = sg M v := by
  unfold mint
  rcases sb_find v M with ⟨h, _, h3⟩ | ⟨h, _⟩ <;> rw [h]
  rw [h3]
theorem sb_val (M : Sd) (v : Int) : valI .i64 (sb M) (.int .i64 v) := fun x h => by
  rcases sb_find v M with ⟨h', _⟩ | ⟨h', _⟩ <;> rw [h'] at h <;> cases h
  exact ⟨_, rfl⟩
theorem sb_set : ∀ (M : Sd) (v : Int), mset (sb M) (.int .i64 v) (.int .i64 (sg M v + 1)) = sb (sup M v)
  | [], v => rfl
  | p :: M, v => by
    have e : kd IntKind.i64 IntKind.i64 = true := rfl
    simp only [sb, List.map_cons, mset, keq, e, Bool.true_and, sg, sup]
    by_cases c : v = p.1
    · rw [if_pos c, if_pos c, c, beq_self_eq_true]; rfl
    · have : (v == p.1) = false := by simpa using c
      rw [if_neg c, if_neg c, this, cond_false]
      have ih := sb_set M v
      unfold sb at ih
      rw [ih]; rfl
def SOk (N i : Nat) (M : Sd) : Prop := (M.map (·.1)).Nodup ∧ ∀ p ∈ M, (0 ≤ p.1 ∧ p.1 < N - 1) ∧ 1 ≤ p.2 ∧ p.2 ≤ i
theorem sup_keys (M : Sd) (v : Int) : (sup M v).map (·.1) = if v ∈ M.map (·.1) then M.map (·.1) else M.map (·.1) ++ [v] := by
  induction M with
  | nil => simp [sup]
  | cons p M ih =>
    unfold sup
    by_cases c : v = p.1
    · rw [if_pos c, if_pos (by simp [c])]; rfl
    · rw [if_neg c, List.map_cons, ih]
      by_cases c2 : v ∈ M.map (·.1)
      · rw [if_pos c2, if_pos (by simp only [List.map_cons, List.mem_cons]; exact .inr c2)]; rfl
      · rw [if_neg c2, if_neg (by simp only [List.map_cons, List.mem_cons, not_or]; exact ⟨c, c2⟩)]; rfl
theorem sg_pos {N i : Nat} {M : Sd} (h : SOk N i M) (v : Int) : (sg M v = 0 ↔ v ∉ M.map (·.1)) ∧ 0 ≤ sg M v ∧ sg M v ≤ i := by
  replace h := h.2
  induction M with
  | nil => simp [sg]
  | cons p M ih =>
    obtain ⟨_, h1, h2⟩ := h p (by simp)
    have ih := ih fun q hq => h q (by simp [hq])
    unfold sg
    by_cases c : v = p.1
    · rw [if_pos c]; refine ⟨⟨fun e => by omega, fun e => by simp [c] at e⟩, by omega, by omega⟩
    · rw [if_neg c]
      refine ⟨?_, ih.2⟩
      rw [ih.1, List.map_cons, List.mem_cons, not_or]
      exact ⟨fun e => ⟨c, e⟩, fun e => e.2⟩
theorem SOk.sup {N i : Nat} {M : Sd} (h : SOk N i M) {v : Int} (hv : 0 ≤ v ∧ v < N - 1) : SOk N (i + 1) (sup M v) := by
  refine ⟨?_, ?_⟩
  · rw [sup_keys]
    split
    · exact h.1
    · rename_i c
      exact List.nodup_append.2 ⟨h.1, by simp, fun a ha b hb => by simp at hb; subst hb; exact fun e => c (e ▸ ha)⟩
  · replace h := h.2
    induction M with
    | nil => intro p hp; simp [AEX.sup] at hp; subst hp; exact ⟨hv, by omega, by simp only; omega⟩
    | cons q M ih =>
      intro p hp
      unfold AEX.sup at hp
      obtain ⟨h0, h1, h2⟩ := h q (by simp)
      by_cases c : v = q.1
      · rw [if_pos c] at hp
        rcases List.mem_cons.1 hp with rfl | hp
        · exact ⟨h0, by simp only; omega, by simp only; omega⟩
        · have := h p (by simp [hp]); exact ⟨this.1, this.2.1, by omega⟩
      · rw [if_neg c] at hp
        rcases List.mem_cons.1 hp with rfl | hp
        · exact ⟨h0, h1, by omega⟩
        · exact ih (fun r hr => h r (by simp [hr])) p hp
def Vy (K : List Int) : Vts := K.map fun k => (k, true)
theorem Vy_keys (K : List Int) : (Vy K).map (·.1) = K := by unfold Vy; rw [List.map_map]; exact List.map_id' K
theorem Vy_get {K : List Int} {v : Int} : vg (Vy K) v = if v ∈ K then some true else none := by
  induction K with
  | nil => rfl
  | cons k K ih =>
    simp only [Vy, List.map_cons, vg]
    by_cases c : v = k
    · rw [if_pos c, if_pos (by simp [c])]
    · rw [if_neg c]; unfold Vy at ih; rw [ih]; simp [c]
theorem Vy_cnt (K : List Int) : (cntV (Vy K) true).length = K.length := by
  unfold cntV
  rw [Vy_keys]
  have : (sortI K).filter (fun v => (vg (Vy K) v).getD false == true) = sortI K := by
    rw [List.filter_eq_self]
    intro v hv
    rw [Vy_get, if_pos ((sort_perm K).mem_iff.1 hv)]; rfl
  rw [this]; exact List.length_mergeSort _
theorem Vy_filter (K : List Int) (f : Int → Bool) : (Vy K).filter (fun p => f p.1) = Vy (K.filter f) := by
  unfold Vy
  rw [List.filter_map]; rfl
theorem sb_del : ∀ (M : Sd) (v : Int), (M.map (·.1)).Nodup → mdel (sb M) (.int .i64 v) = sb (sdl M v)
  | [], v, _ => rfl
  | p :: M, v, hn => by
    have e : kd IntKind.i64 IntKind.i64 = true := rfl
    simp only [List.map_cons, List.nodup_cons] at hn
    have ih := sb_del M v hn.2
    unfold sb at ih
    unfold sb sdl
    simp only [List.map_cons, mdel, keq, e, Bool.true_and, List.filter_cons]
    by_cases c : v = p.1
    · have h1 : (v == p.1) = true := by simpa using c
      have h2 : (p.1 == v) = true := by simpa using c.symm
      rw [h1, h2]
      have : M.filter (fun p => !(p.1 == v)) = M := by
        rw [List.filter_eq_self]
        intro q hq
        have : q.1 ≠ v := fun e => hn.1 (by rw [← c, ← e]; exact List.mem_map.2 ⟨q, hq, rfl⟩)
        simpa using this
      simp [this]
    · have h1 : (v == p.1) = false := by simpa using c
      have h2 : (p.1 == v) = false := by simpa using fun e => c e.symm
      rw [h1, h2, ih]; rfl
theorem sdl_keys (M : Sd) (v : Int) : (sdl M v).map (·.1) = (M.map (·.1)).filter fun k => !(k == v) := by
  unfold sdl; rw [List.filter_map]; rfl
/-! the rosters -/
theorem Sx_lt : ∀ N < 12, ∀ g < N, Sn N ^^^ 2 ^ g < 4294967296 ∧ pc (Sn N ^^^ 2 ^ g) = N - 1 := by decide +kernel
theorem Sx_has' : ∀ N < 12, ∀ g < N, ∀ v < N, hasN (Sn N ^^^ 2 ^ g) (Int.ofNat v) = !(v == g) := by decide +kernel
theorem Sx_has {N g : Nat} (hN : N < 12) (hg : g < N) {v : Int} (h : 0 ≤ v ∧ v < N) : hasN (Sn N ^^^ 2 ^ g) v = !(v == (g : Int)) := by
  have h1 := Sx_has' N hN g hg v.toNat (by omega)
  rw [show Int.ofNat v.toNat = v by simp only [Int.ofNat_eq_natCast]; omega] at h1
  rw [h1]
  congr 1
  by_cases c : v.toNat = g
  · have : v = (g : Int) := by omega
    simp [this]
  · have : v ≠ (g : Int) := by omega
    rw [beq_eq_false_iff_ne.2 c, beq_eq_false_iff_ne.2 this]
theorem Sy_no : ∀ N < 12, ∀ g < N - 1, (Sn N ^^^ 2 ^ g) ^^^ 2 ^ (N - 1) < 4294967296 ∧ hasN ((Sn N ^^^ 2 ^ g) ^^^ 2 ^ (N - 1)) (Int.ofNat (N - 1)) = false := by decide +kernel
/-! the walk -/
theorem ros_spec (S : Nat) (ep q : Int) (V : Vts) : Tri Try.prog 31 [.pbox 0 0] (vM S ep q V) (fun v m => v = ros S ep ∧ m = vM S ep q V) := by
  refine Tri.post ?_
  refine (Tri.enter (rl := r31) (code := c31) (by kernel_rfl) Try.func31 rfl c31_ok (by kernel_rfl) (by kernel_rfl) ?_)
  refine run_ok 4000 _ _ _ _ ?_
  simp (maxSteps := 10000000) only [go_sem, c31, r31]
  refine ⟨_, _, .sub [0, 1, 2] ?_ .done, rfl, rfl⟩
  simp only [EmbV, go_sem]
theorem mkeys_spec (es : List (AV × AV)) : Tri Try.prog 51 [.map 0] [.map es] (fun v m => v = .fn 59 [] [.pbox 1 0] ∧ m = [.map es, .box [.map 0]]) := by
  refine Tri.post ?_
  refine (Tri.enter (rl := r51) (code := c51) (by kernel_rfl) Try.func51 rfl c51_ok (by kernel_rfl) (by kernel_rfl) ?_)
  refine run_ok 4000 _ _ _ _ ?_
  simp (maxSteps := 10000000) only [go_sem, c51, r51]
  exact ⟨_, _, .done, rfl, rfl⟩
theorem sorted0_spec : Tri Try.prog 44 [.fn 59 [] [.pbox 0 0]] [.box [.map 1], .map []]
    (fun v m => v = .sl 2 0 0 0 false ∧ m = [.box [.map 1], .map [], .row 1 []]) := by
  have h := tri_sorted (P := Try.prog) (es := []) (by kernel_rfl) TryL.says51 Try.underlying3 [] rfl (by simp) (by simp) (by simp)
  rw [sort_of (by simp)] at h
  exact h
theorem all_nil (S : Nat) (ep : Int) : Tri Try.prog 35 [.pbox 0 0] (vE S ep) (fun v m => v = .vsl 1 [] false ∧ m = vE S ep) := by
  refine Tri.post ?_
  have h1 := mkeys_spec []
  have h2 := sorted0_spec
  refine (Tri.enter (rl := r35) (code := c35) (by kernel_rfl) Try.func35 rfl c35_ok (by kernel_rfl) (by kernel_rfl) ?_)
  refine run_ok 4000 _ _ _ _ ?_
  simp (maxSteps := 10000000) only [go_sem, c35, r35]
  refine sem_call rfl rfl (((h1).embed [1] rfl (by repeat' first | exact trivial | rfl | (simp only [go_sem]; done) | constructor) rfl (by first | rfl | simp only [go_sem]) rfl (by simp)).mono ?_)
  rintro _ _ ⟨_, _, ⟨rfl, rfl⟩, rfl, rfl⟩
  refine run_ok 4000 _ _ _ _ ?_
  simp (maxSteps := 10000000) only [go_sem]
  refine sem_call rfl rfl (((h2).embed [2, 1] rfl (by repeat' first | exact trivial | rfl | (simp only [go_sem]; done) | constructor) rfl (by first | rfl | simp only [go_sem]) rfl (by simp)).mono ?_)
  rintro _ _ ⟨_, _, ⟨rfl, rfl⟩, rfl, rfl⟩
  refine run_ok 4000 _ _ _ _ ?_
  simp (maxSteps := 10000000) only [go_sem]
  refine ⟨_, _, .fz 3 rfl (by simp [go_sem]) (.sub [0, 1] ?_ .done), rfl, rfl⟩
  simp only [EmbV, go_sem]
  try rfl
end Go.AEX
