/- Window: what was sent, and acks: contracts. -/
import Derived.Test.YtbbokkienmicmaaWinIn
import Derived.Test.YtbbokkienmicmaaAEzj
namespace Go.AEX
open Go Go.AE Go.Proofs
set_option maxRecDepth 100000
set_option linter.unusedVariables false
set_option linter.unusedSimpArgs false

abbrev uv (l : List Int) : List (List AV) := iv .u32 l
theorem uv_app (a b : List Int) : uv a ++ uv b = uv (a ++ b) := by simp [iv]
theorem uv_all (l : List Int) : sub (uv l) 0 l.length = uv l := by rw [iv_sub]; simp
theorem i_get {l : List Itm} {i : Nat} (h : i < l.length) : (irows l)[i]? = some (irow l[i]) := by simp [irows, h]
theorem i_hasI {l : List Itm} {i : Nat} (h : i < l.length) : hasI .u32 (irows l) i 0 := ⟨_, _, i_get h, rfl⟩
theorem i_hasS {l : List Itm} {i : Nat} (h : i < l.length) : hasS (irows l) i 1 := ⟨_, _, i_get h, rfl⟩
theorem i_rint {l : List Itm} {i : Nat} (h : i < l.length) : rint (irows l) i 0 = l[i].1 := by simp [rint, List.getD_eq_getElem?_getD, i_get h, irow]
theorem i_rstr {l : List Itm} {i : Nat} (h : i < l.length) : rstr (irows l) i 1 = l[i].2 := by simp [rstr, List.getD_eq_getElem?_getD, i_get h, irow]
/-- What an ack tells of a thing. -/
def hitG (nx bits : Int) (G : List Int) (x : Itm) : List Int := if hasW nx bits x.1 then G ++ [x.1] else G
theorem hitW_spec (nx bits : Int) (x : Itm) (G : List Int) (hG : G.length ≤ 100000) : Tri Try.prog 45 [.agg (irow x), .pbox 0 0, .pbox 1 0] [.box [.int .u32 nx, .int .u32 bits], .box [.sl 2 0 G.length G.length false], .row 1 (uv G)]
    (fun v m => v = .bsym (hasW nx bits x.1) ∧ m = [.box [.int .u32 nx, .int .u32 bits], .box [.sl 3 0 (hitG nx bits G x).length (hitG nx bits G x).length false], .gone, .row 1 (uv (hitG nx bits G x))]) := by
  refine Tri.asS (Tri.post ?_)
  have hh := has_spec nx bits x.1
  unfold hitG
  skip
  refine (Tri.enter (rl := r45) (code := c45) (by kernel_rfl) Try.func45 rfl c45_ok (by kernel_rfl) (by kernel_rfl) ?_)
  refine run_ok 4000 _ _ _ _ ?_
  simp (maxSteps := 10000000) only [go_sem, c45, r45, irow]
  refine sem_move 2 rfl ?_
  simp (maxSteps := 10000000) only [go_sem, irow]
  cases hb : hasW nx bits x.1 with
  | true =>
    rw [hb] at hh
    have hone : [[AV.int .u32 x.1]] = uv [x.1] := rfl
    skip
    refine sem_call rfl rfl (((hh).embed [] rfl (by repeat' first | exact trivial | rfl | (simp only [go_sem]; done) | constructor) rfl (by first | rfl | simp only [go_sem]) rfl (by simp)).mono ?_)
    rintro _ _ ⟨_, _, ⟨rfl, rfl⟩, rfl, rfl⟩
    refine run_ok 4000 _ _ _ _ ?_
    simp (maxSteps := 10000000) only [go_sem, uv_all, iv_len]
    rw [hone, uv_app]
    refine ⟨by unfold small; omega, .bool true, _, .sub [0, 1, 2, 5] ?_ .done, rfl, rfl⟩
    simp only [EmbV, go_sem, if_true, List.length_append]
  | false =>
    rw [hb] at hh
    skip
    refine sem_call rfl rfl (((hh).embed [] rfl (by repeat' first | exact trivial | rfl | (simp only [go_sem]; done) | constructor) rfl (by first | rfl | simp only [go_sem]) rfl (by simp)).mono ?_)
    rintro _ _ ⟨_, _, ⟨rfl, rfl⟩, rfl, rfl⟩
    refine run_ok 4000 _ _ _ _ ?_
    simp (maxSteps := 10000000) only [go_sem]
    refine ⟨.bool false, _, .sub [0, 1, 2, 4] ?_ .done, rfl, rfl⟩
    simp only [EmbV, go_sem]
/-- A function of a thing that takes note of what it tells. -/
theorem windex_spec (nx bits : Int) (L : List Itm) (hL : L.length ≤ 100000) : Tri Try.prog 47 [.sl 0 0 L.length L.length false, .fn 45 [] [.pbox 1 0, .pbox 2 0]]
    [.row 2 (irows L), .box [.int .u32 nx, .int .u32 bits], .box [.sl 3 0 0 0 false], .row 1 []]
    (fun v m => v = .int .i64 (if L.any (fun x => hasW nx bits x.1) then ((L.findIdx (fun x => hasW nx bits x.1) : Nat) : Int) else -1) ∧
      m = [.row 2 (irows L), .box [.int .u32 nx, .int .u32 bits], .box [.sl 4 0 ((L.take (L.findIdx (fun x => hasW nx bits x.1) + 1)).filter (fun x => hasW nx bits x.1)).length ((L.take (L.findIdx (fun x => hasW nx bits x.1) + 1)).filter (fun x => hasW nx bits x.1)).length false], .gone,
        .row 1 (uv (((L.take (L.findIdx (fun x => hasW nx bits x.1) + 1)).filter (fun x => hasW nx bits x.1)).map (·.1)))]) := by
  refine Tri.post ?_
  refine (Tri.enter (rl := r47) (code := c47) (by kernel_rfl) Try.func47 rfl c47_ok (by kernel_rfl) (by kernel_rfl) ?_)
  refine run_ok 4000 _ _ _ _ ?_
  simp (maxSteps := 10000000) only [go_sem, c47, r47]
  refine sem_move 3 rfl ?_
  simp (maxSteps := 10000000) only [go_sem]
  refine sem_rounds (fun i => i ≤ L.length ∧ ∀ j, (h : j < i) → ∀ h2 : j < L.length, hasW nx bits L[j].1 = false)
    (fun i => [(0, .sl 0 0 L.length L.length false), (1, .fn 45 [] [.pbox 1 0, .pbox 2 0]), (7, .int .i64 L.length), (8, .int .i64 (i : Nat))])
    (fun i => [.row 2 (irows L), .box [.int .u32 nx, .int .u32 bits], .box [.sl 4 0 0 0 false], .gone, .row 1 []]) (fun i => L.length - i) 0 [0, 1, 2, 3, 4] ⟨by simp, by intro j h; omega⟩ ?_ ?_
  · simp only [Emb, go_sem]
  rintro i ⟨h1, h2⟩
  refine run_ok 4000 _ _ _ _ ?_
  simp (maxSteps := 10000000) only [go_sem]
  refine ⟨fun hlt => ?_, fun hge => ?_⟩
  · have hlt : i < L.length := by omega
    have hin : (i : Int) < (L.length : Int) := by omega
    have hcl := hitW_spec nx bits L[i] [] (by simp)
    skip
    cases hb : hasW nx bits L[i].1 with
    | true =>
      have e : hitG nx bits [] L[i] = [L[i].1] := by unfold hitG; rw [hb]; rfl
      rw [hb, e] at hcl
      unfold irow at hcl
      simp (maxSteps := 10000000) only [go_sem, i_hasI hlt, i_hasS hlt, i_rint hlt, i_rstr hlt, hin, Int.natCast_nonneg, inc64 (show i < 1000000000000 by omega)]
      refine sem_callv rfl rfl rfl (((hcl).embed [1, 2, 4] rfl (by repeat' first | exact trivial | rfl | (simp only [go_sem]; done) | constructor) rfl (by first | rfl | simp only [go_sem]) rfl (by simp)).mono ?_)
      rintro _ _ ⟨_, _, ⟨rfl, rfl⟩, rfl, rfl⟩
      refine run_ok 4000 _ _ _ _ ?_
      simp (maxSteps := 10000000) only [go_sem, i_hasI hlt, i_hasS hlt, i_rint hlt, i_rstr hlt, hin, Int.natCast_nonneg, inc64 (show i < 1000000000000 by omega)]
      have ha : L.any (fun x => hasW nx bits x.1) = true := by rw [List.any_eq_true]; exact ⟨L[i], List.getElem_mem hlt, hb⟩
      have hf : L.findIdx (fun x => hasW nx bits x.1) = i := by
        rw [List.findIdx_eq hlt]
        exact ⟨hb, fun j hj => h2 j hj (by omega)⟩
      have hpre : (L.take i).filter (fun x => hasW nx bits x.1) = [] := by
        rw [List.filter_eq_nil_iff]
        intro x hx
        obtain ⟨j, hj, rfl⟩ := List.getElem_of_mem hx
        rw [List.length_take] at hj
        rw [List.getElem_take, h2 j (by omega) (by omega)]; simp
      have hfl : (L.take (i + 1)).filter (fun x => hasW nx bits x.1) = [L[i]] := by
        rw [List.take_succ_eq_append_getElem hlt, List.filter_append, hpre]; simp [hb]
      rw [hf, hfl]
      refine ⟨_, _, .sub [0, 1, 2, 3, 5] ?_ .done, rfl, rfl⟩
      simp only [EmbV, go_sem, ha, if_true, List.length_cons, List.length_nil, List.map_cons, List.map_nil]
    | false =>
      have e : hitG nx bits [] L[i] = [] := by unfold hitG; rw [hb]; rfl
      rw [hb, e] at hcl
      unfold irow at hcl
      simp (maxSteps := 10000000) only [go_sem, i_hasI hlt, i_hasS hlt, i_rint hlt, i_rstr hlt, hin, Int.natCast_nonneg, inc64 (show i < 1000000000000 by omega)]
      refine sem_callv rfl rfl rfl (((hcl).embed [1, 2, 4] rfl (by repeat' first | exact trivial | rfl | (simp only [go_sem]; done) | constructor) rfl (by first | rfl | simp only [go_sem]) rfl (by simp)).mono ?_)
      rintro _ _ ⟨_, _, ⟨rfl, rfl⟩, rfl, rfl⟩
      refine run_ok 4000 _ _ _ _ ?_
      simp (maxSteps := 10000000) only [go_sem, i_hasI hlt, i_hasS hlt, i_rint hlt, i_rstr hlt, hin, Int.natCast_nonneg, inc64 (show i < 1000000000000 by omega)]
      refine ⟨i + 1, by omega, ⟨by omega, ?_⟩, [0, 1, 2, 3, 5], ?_⟩
      · intro j hj hj2
        by_cases e : j = i
        · subst e; exact hb
        · exact h2 j (by omega) hj2
      · simp only [Emb, go_sem, iv, List.map_nil]
  · have ha : L.any (fun x => hasW nx bits x.1) = false := by
      rw [List.any_eq_false]
      intro x hx
      obtain ⟨j, hj, rfl⟩ := List.getElem_of_mem hx
      rw [h2 j (by omega) hj]; simp
    have hfl : (L.take (L.findIdx (fun x => hasW nx bits x.1) + 1)).filter (fun x => hasW nx bits x.1) = [] := by
      rw [List.filter_eq_nil_iff]
      intro x hx
      rw [List.any_eq_false] at ha
      exact ha x (List.mem_of_mem_take hx)
    rw [hfl]
    skip
    refine run_ok 4000 _ _ _ _ ?_
    simp (maxSteps := 10000000) only [go_sem]
    refine ⟨_, _, .sub [0, 1, 2, 3, 4] ?_ .done, rfl, rfl⟩
    simp only [EmbV, go_sem, ha, List.length_nil, List.map_nil, iv]
theorem gfilt_yes {α : Type} {L : List α} {p : Nat} (hp : p < L.length) {H : α → Bool} (h : H L[p] = true) : (L.take (p + 1)).filter (fun x => !H x) = (L.take p).filter (fun x => !H x) ∧ (L.take (p + 1)).filter H = (L.take p).filter H ++ [L[p]] := by
  rw [List.take_succ_eq_append_getElem hp, List.filter_append, List.filter_append]
  simp [h]
theorem gfilt_no {α : Type} {L : List α} {p : Nat} (hp : p < L.length) {H : α → Bool} (h : H L[p] = false) : (L.take (p + 1)).filter (fun x => !H x) = (L.take p).filter (fun x => !H x) ++ [L[p]] ∧ (L.take (p + 1)).filter H = (L.take p).filter H := by
  rw [List.take_succ_eq_append_getElem hp, List.filter_append, List.filter_append]
  simp [h]
theorem gdrop_get {α : Type} {L M : List α} {j : Nat} (h : j < L.length) (hl : M.length = L.length) (hd : M.drop j = L.drop j) : M[j]'(by omega) = L[j] := by
  have h1 : M.drop j = M[j]'(by omega) :: M.drop (j + 1) := List.drop_eq_getElem_cons (by omega)
  have h2 : L.drop j = L[j] :: L.drop (j + 1) := List.drop_eq_getElem_cons h
  rw [h1, h2] at hd
  injection hd
theorem gdrop_next {α : Type} {L M : List α} {j : Nat} (hd : M.drop j = L.drop j) : M.drop (j + 1) = L.drop (j + 1) := by
  rw [← List.drop_drop, ← List.drop_drop, hd]
theorem i_inR0 {l : List Itm} {i : Nat} (h : i < l.length) : inR (irows l) i 0 2 := ⟨_, i_get h, by simp [irow]⟩
theorem i_rput0 {l : List Itm} {i : Nat} (h : i < l.length) (x : Itm) : rput (irows l) i 0 [.int .u32 x.1, .str x.2] = irows (l.set i x) := by
  unfold rput irows
  apply List.ext_getElem?
  intro j
  rw [List.getElem?_modify, List.getElem?_map, List.getElem?_map, List.getElem?_set]
  by_cases hj : i = j
  · subst hj; simp [h, irow]
  · simp [hj]
/-- What is told, and what isn't. -/
def toldW (nx bits : Int) (L : List Itm) : List Int := (L.filter fun x => hasW nx bits x.1).map (·.1)
def leftW (nx bits : Int) (L : List Itm) : List Itm := L.filter fun x => !hasW nx bits x.1
set_option maxHeartbeats 4000000 in
theorem wdelete_spec (nx bits : Int) (L : List Itm) (hL : L.length ≤ 10000) : Tri Try.prog 43 [.sl 0 0 L.length L.length false, .fn 45 [] [.pbox 1 0, .pbox 2 0]]
    [.row 2 (irows L), .box [.int .u32 nx, .int .u32 bits], .box [.sl 3 0 0 0 false], .row 1 []]
    (fun v m => v = .sl 0 0 (leftW nx bits L).length (leftW nx bits L).length false ∧
      m = [.row 2 (irows (leftW nx bits L)), .box [.int .u32 nx, .int .u32 bits], .box [.sl 4 0 (toldW nx bits L).length (toldW nx bits L).length false], .gone, .row 1 (uv (toldW nx bits L))]) := by
  refine Tri.post ?_
  have hx := windex_spec nx bits L (by omega)
  unfold leftW toldW
  by_cases ha : L.any (fun x => hasW nx bits x.1) = true
  case neg =>
    have ha : L.any (fun x => hasW nx bits x.1) = false := by simpa using ha
    have hf : (L.filter fun x => !hasW nx bits x.1) = L := by
      rw [List.filter_eq_self]; intro x hx; rw [List.any_eq_false] at ha; simpa using ha x hx
    have hf2 : (L.filter fun x => hasW nx bits x.1) = [] := by
      rw [List.filter_eq_nil_iff]; intro x hx; rw [List.any_eq_false] at ha; exact ha x hx
    have hfl : (L.take (L.findIdx (fun x => hasW nx bits x.1) + 1)).filter (fun x => hasW nx bits x.1) = [] := by
      rw [List.filter_eq_nil_iff]; intro x hx; rw [List.any_eq_false] at ha; exact ha x (List.mem_of_mem_take hx)
    rw [hf, hf2]
    rw [ha, hfl] at hx
    simp only [Bool.false_eq_true, if_false, List.length_nil, List.map_nil, iv] at hx
    refine (Tri.enter (rl := r43) (code := c43) (by kernel_rfl) Try.func43 rfl c43_ok (by kernel_rfl) (by kernel_rfl) ?_)
    refine run_ok 4000 _ _ _ _ ?_
    simp (maxSteps := 10000000) only [go_sem, c43, r43]
    refine sem_call rfl rfl (((hx).embed [0, 1, 2, 3] rfl (by repeat' first | exact trivial | rfl | (simp only [go_sem]; done) | constructor) rfl (by first | rfl | simp only [go_sem]) rfl (by simp)).mono ?_)
    rintro _ _ ⟨_, _, ⟨rfl, rfl⟩, rfl, rfl⟩
    refine run_ok 4000 _ _ _ _ ?_
    simp (maxSteps := 10000000) only [go_sem]
    refine ⟨_, _, .sub [0, 1, 2, 3, 4] ?_ .done, rfl, rfl⟩
    simp only [EmbV, go_sem, List.length_nil, List.map_nil, iv]
  rw [ha, if_pos rfl] at hx
  have hp : L.findIdx (fun x => hasW nx bits x.1) < L.length := by rw [List.findIdx_lt_length]; simpa using ha
  have hpre : (L.take (L.findIdx (fun x => hasW nx bits x.1))).filter (fun x => !hasW nx bits x.1) = L.take (L.findIdx (fun x => hasW nx bits x.1)) := by
    rw [List.filter_eq_self]
    intro x hx
    obtain ⟨j, hj, rfl⟩ := List.getElem_of_mem hx
    rw [List.length_take] at hj
    rw [List.getElem_take]
    have := List.not_of_lt_findIdx (xs := L) (p := fun x => hasW nx bits x.1) (i := j) (by omega)
    simp only [this]; rfl
  have hhit : hasW nx bits (L[L.findIdx (fun x => hasW nx bits x.1)]).1 = true := List.findIdx_getElem (xs := L) (p := fun x => hasW nx bits x.1) (w := hp)
  generalize L.findIdx (fun x => hasW nx bits x.1) = p at *
  have hne : ((p : Int) == (-1)) = false := by rw [beq_eq_false_iff_ne]; omega
  have hf0 := gfilt_yes (H := fun x : Itm => hasW nx bits x.1) hp hhit
  generalize hG0 : ((L.take (p + 1)).filter fun x => hasW nx bits x.1) = G0 at *
  have hml : G0.length = (G0.map (·.1)).length := by simp
  rw [hml] at hx
  obtain ⟨G1, hG1⟩ : ∃ G1, G1 = G0.map (·.1) := ⟨_, rfl⟩
  rw [← hG1] at hx
  skip
  refine (Tri.enter (rl := r43) (code := c43) (by kernel_rfl) Try.func43 rfl c43_ok (by kernel_rfl) (by kernel_rfl) ?_)
  refine run_ok 4000 _ _ _ _ ?_
  simp (maxSteps := 10000000) only [go_sem, c43, r43, hne, inc64 (show p < 1000000000000 by omega)]
  refine sem_call rfl rfl (((hx).embed [0, 1, 2, 3] rfl (by repeat' first | exact trivial | rfl | (simp only [go_sem]; done) | constructor) rfl (by first | rfl | simp only [go_sem]) rfl (by simp)).mono ?_)
  rintro _ _ ⟨_, _, ⟨rfl, rfl⟩, rfl, rfl⟩
  refine run_ok 4000 _ _ _ _ ?_
  simp (maxSteps := 10000000) only [go_sem, hne, inc64 (show p < 1000000000000 by omega)]
  refine sem_rounds (fun x : Nat × Nat × List Itm × List Int => x.1 ≤ L.length ∧ x.2.1 < x.1 ∧ x.2.2.1.length = L.length ∧ x.2.2.1.take x.2.1 = (L.take x.1).filter (fun x => !hasW nx bits x.1) ∧ x.2.2.1.drop x.1 = L.drop x.1 ∧ x.2.2.2 = ((L.take x.1).filter (fun x => hasW nx bits x.1)).map (·.1))
    (fun x => [(0, .sl 0 0 L.length L.length false), (1, .fn 45 [] [.pbox 1 0, .pbox 2 0]), (5, .int .i64 (x.2.1 : Nat)), (6, .int .i64 (x.1 : Nat))])
    (fun x => [.row 2 (irows x.2.2.1), .box [.int .u32 nx, .int .u32 bits], .box [.sl 4 0 x.2.2.2.length x.2.2.2.length false], .gone, .row 1 (uv x.2.2.2)]) (fun x => L.length - x.1) (p + 1, p, L, G1) [0, 1, 2, 3, 4]
    ⟨by simp only; omega, by simp only; omega, rfl, by simp only; rw [hf0.1, hpre], rfl, by simp only; rw [hG0, hG1]⟩ ?_ ?_
  · simp only [Emb, go_sem]
  rintro ⟨j, i, M, G⟩ ⟨h1, h2, h3, h4, h5, h6⟩
  simp only at h1 h2 h3 h4 h5 h6
  have hGl : G.length ≤ 10000 := by rw [h6, List.length_map]; have := List.length_filter_le (fun x : Itm => hasW nx bits x.1) (L.take j); rw [List.length_take] at this; omega
  refine run_ok 4000 _ _ _ _ ?_
  simp (maxSteps := 10000000) only [go_sem, hne, inc64 (show p < 1000000000000 by omega)]
  refine ⟨fun hlt => ?_, fun hge => ?_⟩
  · have hlt : j < L.length := by omega
    have hltM : j < M.length := by omega
    have hin : (j : Int) < (L.length : Int) := by omega
    have hii : (i : Int) < (L.length : Int) := by omega
    have hga := gdrop_get hlt h3 h5
    have hdn := gdrop_next h5
    have hcl := hitW_spec nx bits M[j] G (by omega)
    unfold irow at hcl
    skip
    simp (maxSteps := 10000000) only [go_sem, i_hasI hltM, i_hasS hltM, i_rint hltM, i_rstr hltM, hin, hii, Int.natCast_nonneg, inc64 (show j < 1000000000000 by omega), inc64 (show i < 1000000000000 by omega)]
    refine sem_callv rfl rfl rfl (((hcl).embed [1, 2, 4] rfl (by repeat' first | exact trivial | rfl | (simp only [go_sem]; done) | constructor) rfl (by first | rfl | simp only [go_sem]) rfl (by simp)).mono ?_)
    rintro _ _ ⟨_, _, ⟨rfl, rfl⟩, rfl, rfl⟩
    refine run_ok 4000 _ _ _ _ ?_
    simp (maxSteps := 10000000) only [go_sem, i_hasI hltM, i_hasS hltM, i_rint hltM, i_rstr hltM, hin, hii, Int.natCast_nonneg, inc64 (show j < 1000000000000 by omega), inc64 (show i < 1000000000000 by omega)]
    refine ⟨fun hh => ?_, fun hh => ?_⟩
    · have hh : hasW nx bits M[j].1 = false := by simpa using hh
      have hL : hasW nx bits L[j].1 = false := by rw [← hga]; exact hh
      have hiM : i < M.length := by omega
      have hf := gfilt_no (H := fun x : Itm => hasW nx bits x.1) hlt hL
      have hGn : hitG nx bits G M[j] = G := by unfold hitG; rw [hh]; rfl
      rw [hGn]
      refine ⟨i_inR0 hiM, (j + 1, i + 1, M.set i M[j], G), by simp only; omega, ⟨by simp only; omega, by simp only; omega, by simp only [List.length_set]; exact h3, ?_, ?_, ?_⟩, [0, 1, 2, 3, 6], ?_⟩
      · simp only
        rw [hf.1, ← h4, List.take_succ_eq_append_getElem (by rw [List.length_set]; exact hiM), List.getElem_set_self, hga, List.take_set_of_le (Nat.le_refl _)]
      · simp only
        rw [List.drop_set_of_lt (by omega)]; exact hdn
      · simp only
        rw [hf.2]; exact h6
      · rw [i_rput0 hiM]
        simp only [Emb, go_sem]
    · have hh : hasW nx bits M[j].1 = true := by simpa using hh
      have hL : hasW nx bits L[j].1 = true := by rw [← hga]; exact hh
      have hf := gfilt_yes (H := fun x : Itm => hasW nx bits x.1) hlt hL
      have hGn : hitG nx bits G M[j] = G ++ [M[j].1] := by unfold hitG; rw [hh]; rfl
      rw [hGn]
      refine ⟨(j + 1, i, M, G ++ [M[j].1]), by simp only; omega, ⟨by simp only; omega, by simp only; omega, h3, ?_, hdn, ?_⟩, [0, 1, 2, 3, 6], ?_⟩
      · simp only
        rw [hf.1]; exact h4
      · simp only
        rw [hf.2, List.map_append, ← h6, hga]; rfl
      · simp only [Emb, go_sem]
  · have hj : j = L.length := by omega
    subst hj
    rw [List.take_length] at h4 h6
    have hk : (L.filter fun x => !hasW nx bits x.1).length = i := by rw [← h4, List.length_take]; omega
    have hbk : (irows M).take i = irows (L.filter fun x => !hasW nx bits x.1) := by rw [← h4, irows, irows, List.map_take]
    have hbl : ((irows M).take i).length = i := by rw [List.length_take, irows_len]; omega
    have f1 : (i : Int) ≤ (L.length : Int) := by omega
    refine sem_tell 0 i rfl ?_
    skip
    skip
    refine run_ok 3 _ _ _ _ ?_
    simp (maxSteps := 10000000) only [go_sem, f1, Int.natCast_nonneg]
    skip
    refine sem_clrT rfl rfl rfl (by rw [hbl]; exact Nat.le_refl _) ?_
    skip
    refine run_ok 4000 _ _ _ _ ?_
    simp (maxSteps := 10000000) only [go_sem, f1, Int.natCast_nonneg, Nat.sub_zero]
    rw [← h6]
    refine ⟨_, _, .like Like.cap (.sub [0, 1, 2, 3, 4] ?_ .done), rfl, rfl⟩
    simp only [EmbV, go_sem, hk, hbk]
end Go.AEX
