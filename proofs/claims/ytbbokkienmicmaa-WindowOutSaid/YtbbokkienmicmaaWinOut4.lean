/- WinOut, WinOut2, WinLaw, WinOut3, WinOL, WinOut4 in one. -/
import Derived.Test.YtbbokkienmicmaaWinIn
import Derived.Test.YtbbokkienmicmaaAEzj
import Derived.Test.YtbbokkienmicmaaAEsa
/- Window: what was sent, and acks: contracts. -/
namespace Go.AEX
open Go Go.AE Go.Proofs
set_option maxRecDepth 100000
set_option linter.unusedVariables false
set_option linter.unusedSimpArgs false

abbrev uv (l : List Int) : List (List AV) := iv .u32 l
theorem uv_app (a b : List Int) : uv a ++ uv b = uv (a ++ b) := by simp [iv]
theorem uv_all (l : List Int) : sub (uv l) 0 l.length = uv l := by rw [iv_sub]; simp
theorem i_get {l : List Itm} {i : Nat} (h : i < l.length) : (irows l)[i]? = some (irow l[i]) := by simp [irows, h]
theorem i_hasI {l : List Itm} {i : Nat} (h : i < l.length) : hasI .u32 (irows l) i 0 := ⟨_, _, i_get h, rfl⟩
theorem i_hasS {l : List Itm} {i : Nat} (h : i < l.length) : hasS (irows l) i 1 := ⟨_, _, i_get h, rfl⟩
theorem i_rint {l : List Itm} {i : Nat} (h : i < l.length) : rint (irows l) i 0 = l[i].1 := by simp [rint, List.getD_eq_getElem?_getD, i_get h, irow]
theorem i_rstr {l : List Itm} {i : Nat} (h : i < l.length) : rstr (irows l) i 1 = l[i].2 := by simp [rstr, List.getD_eq_getElem?_getD, i_get h, irow]
/-- What an ack tells of a thing. -/
def hitG (nx bits : Int) (G : List Int) (x : Itm) : List Int := if hasW nx bits x.1 then G ++ [x.1] else G
theorem hitW_spec (nx bits : Int) (x : Itm) (G : List Int) (hG : G.length ≤ 100000) : Tri Try.prog 45 [.agg (irow x), .pbox 0 0, .pbox 1 0] [.box [.int .u32 nx, .int .u32 bits], .box [.sl 2 0 G.length G.length false], .row 1 (uv G)]
    (fun v m => v = .bsym (hasW nx bits x.1) ∧ m = [.box [.int .u32 nx, .int .u32 bits], .box [.sl 3 0 (hitG nx bits G x).length (hitG nx bits G x).length false], .gone, .row 1 (uv (hitG nx bits G x))]) := by
  refine Tri.asS (Tri.post ?_)
  have hh := has_spec nx bits x.1
  unfold hitG
  skip
  refine (Tri.enter (rl := r45) (code := c45) (by kernel_rfl) Try.func45 rfl c45_ok (by kernel_rfl) (by kernel_rfl) ?_)
  refine run_ok 4000 _ _ _ _ ?_
  simp (maxSteps := 10000000) only [go_sem, c45, r45, irow]
  refine sem_move 2 rfl ?_
  simp (maxSteps := 10000000) only [go_sem, irow]
  cases hb : hasW nx bits x.1 with
  | true =>
    rw [hb] at hh
    have hone : [[AV.int .u32 x.1]] = uv [x.1] := rfl
    skip
    refine sem_call rfl rfl (((hh).embed [] rfl (by repeat' first | exact trivial | rfl | (simp only [go_sem]; done) | constructor) rfl (by first | rfl | simp only [go_sem]) rfl (by simp)).mono ?_)
    rintro _ _ ⟨_, _, ⟨rfl, rfl⟩, rfl, rfl⟩
    refine run_ok 4000 _ _ _ _ ?_
    simp (maxSteps := 10000000) only [go_sem, uv_all, iv_len]
    rw [hone, uv_app]
    refine ⟨by unfold small; omega, .bool true, _, .sub [0, 1, 2, 5] ?_ .done, rfl, rfl⟩
    simp only [EmbV, go_sem, if_true, List.length_append]
  | false =>
    rw [hb] at hh
    skip
    refine sem_call rfl rfl (((hh).embed [] rfl (by repeat' first | exact trivial | rfl | (simp only [go_sem]; done) | constructor) rfl (by first | rfl | simp only [go_sem]) rfl (by simp)).mono ?_)
    rintro _ _ ⟨_, _, ⟨rfl, rfl⟩, rfl, rfl⟩
    refine run_ok 4000 _ _ _ _ ?_
    simp (maxSteps := 10000000) only [go_sem]
    refine ⟨.bool false, _, .sub [0, 1, 2, 4] ?_ .done, rfl, rfl⟩
    simp only [EmbV, go_sem]
/-- A function of a thing that takes note of what it tells. -/
theorem windex_spec (nx bits : Int) (L : List Itm) (hL : L.length ≤ 100000) : Tri Try.prog 47 [.sl 0 0 L.length L.length false, .fn 45 [] [.pbox 1 0, .pbox 2 0]]
    [.row 2 (irows L), .box [.int .u32 nx, .int .u32 bits], .box [.sl 3 0 0 0 false], .row 1 []]
    (fun v m => v = .int .i64 (if L.any (fun x => hasW nx bits x.1) then ((L.findIdx (fun x => hasW nx bits x.1) : Nat) : Int) else -1) ∧
      m = [.row 2 (irows L), .box [.int .u32 nx, .int .u32 bits], .box [.sl 4 0 ((L.take (L.findIdx (fun x => hasW nx bits x.1) + 1)).filter (fun x => hasW nx bits x.1)).length ((L.take (L.findIdx (fun x => hasW nx bits x.1) + 1)).filter (fun x => hasW nx bits x.1)).length false], .gone,
        .row 1 (uv (((L.take (L.findIdx (fun x => hasW nx bits x.1) + 1)).filter (fun x => hasW nx bits x.1)).map (·.1)))]) := by
  refine Tri.post ?_
  refine (Tri.enter (rl := r47) (code := c47) (by kernel_rfl) Try.func47 rfl c47_ok (by kernel_rfl) (by kernel_rfl) ?_)
  refine run_ok 4000 _ _ _ _ ?_
  simp (maxSteps := 10000000) only [go_sem, c47, r47]
  refine sem_move 3 rfl ?_
  simp (maxSteps := 10000000) only [go_sem]
  refine sem_rounds (fun i => i ≤ L.length ∧ ∀ j, (h : j < i) → ∀ h2 : j < L.length, hasW nx bits L[j].1 = false)
    (fun i => [(0, .sl 0 0 L.length L.length false), (1, .fn 45 [] [.pbox 1 0, .pbox 2 0]), (7, .int .i64 L.length), (8, .int .i64 (i : Nat))])
    (fun i => [.row 2 (irows L), .box [.int .u32 nx, .int .u32 bits], .box [.sl 4 0 0 0 false], .gone, .row 1 []]) (fun i => L.length - i) 0 [0, 1, 2, 3, 4] ⟨by simp, by intro j h; omega⟩ ?_ ?_
  · simp only [Emb, go_sem]
  rintro i ⟨h1, h2⟩
  refine run_ok 4000 _ _ _ _ ?_
  simp (maxSteps := 10000000) only [go_sem]
  refine ⟨fun hlt => ?_, fun hge => ?_⟩
  · have hlt : i < L.length := by omega
    have hin : (i : Int) < (L.length : Int) := by omega
    have hcl := hitW_spec nx bits L[i] [] (by simp)
    skip
    cases hb : hasW nx bits L[i].1 with
    | true =>
      have e : hitG nx bits [] L[i] = [L[i].1] := by unfold hitG; rw [hb]; rfl
      rw [hb, e] at hcl
      unfold irow at hcl
      simp (maxSteps := 10000000) only [go_sem, i_hasI hlt, i_hasS hlt, i_rint hlt, i_rstr hlt, hin, Int.natCast_nonneg, inc64 (show i < 1000000000000 by omega)]
      refine sem_callv rfl rfl rfl (((hcl).embed [1, 2, 4] rfl (by repeat' first | exact trivial | rfl | (simp only [go_sem]; done) | constructor) rfl (by first | rfl | simp only [go_sem]) rfl (by simp)).mono ?_)
      rintro _ _ ⟨_, _, ⟨rfl, rfl⟩, rfl, rfl⟩
      refine run_ok 4000 _ _ _ _ ?_
      simp (maxSteps := 10000000) only [go_sem, i_hasI hlt, i_hasS hlt, i_rint hlt, i_rstr hlt, hin, Int.natCast_nonneg, inc64 (show i < 1000000000000 by omega)]
      have ha : L.any (fun x => hasW nx bits x.1) = true := by rw [List.any_eq_true]; exact ⟨L[i], List.getElem_mem hlt, hb⟩
      have hf : L.findIdx (fun x => hasW nx bits x.1) = i := by
        rw [List.findIdx_eq hlt]
        exact ⟨hb, fun j hj => h2 j hj (by omega)⟩
      have hpre : (L.take i).filter (fun x => hasW nx bits x.1) = [] := by
        rw [List.filter_eq_nil_iff]
        intro x hx
        obtain ⟨j, hj, rfl⟩ := List.getElem_of_mem hx
        rw [List.length_take] at hj
        rw [List.getElem_take, h2 j (by omega) (by omega)]; simp
      have hfl : (L.take (i + 1)).filter (fun x => hasW nx bits x.1) = [L[i]] := by
        rw [List.take_succ_eq_append_getElem hlt, List.filter_append, hpre]; simp [hb]
      rw [hf, hfl]
      refine ⟨_, _, .sub [0, 1, 2, 3, 5] ?_ .done, rfl, rfl⟩
      simp only [EmbV, go_sem, ha, if_true, List.length_cons, List.length_nil, List.map_cons, List.map_nil]
    | false =>
      have e : hitG nx bits [] L[i] = [] := by unfold hitG; rw [hb]; rfl
      rw [hb, e] at hcl
      unfold irow at hcl
      simp (maxSteps := 10000000) only [go_sem, i_hasI hlt, i_hasS hlt, i_rint hlt, i_rstr hlt, hin, Int.natCast_nonneg, inc64 (show i < 1000000000000 by omega)]
      refine sem_callv rfl rfl rfl (((hcl).embed [1, 2, 4] rfl (by repeat' first | exact trivial | rfl | (simp only [go_sem]; done) | constructor) rfl (by first | rfl | simp only [go_sem]) rfl (by simp)).mono ?_)
      rintro _ _ ⟨_, _, ⟨rfl, rfl⟩, rfl, rfl⟩
      refine run_ok 4000 _ _ _ _ ?_
      simp (maxSteps := 10000000) only [go_sem, i_hasI hlt, i_hasS hlt, i_rint hlt, i_rstr hlt, hin, Int.natCast_nonneg, inc64 (show i < 1000000000000 by omega)]
      refine ⟨i + 1, by omega, ⟨by omega, ?_⟩, [0, 1, 2, 3, 5], ?_⟩
      · intro j hj hj2
        by_cases e : j = i
        · subst e; exact hb
        · exact h2 j (by omega) hj2
      · simp only [Emb, go_sem, iv, List.map_nil]
  · have ha : L.any (fun x => hasW nx bits x.1) = false := by
      rw [List.any_eq_false]
      intro x hx
      obtain ⟨j, hj, rfl⟩ := List.getElem_of_mem hx
      rw [h2 j (by omega) hj]; simp
    have hfl : (L.take (L.findIdx (fun x => hasW nx bits x.1) + 1)).filter (fun x => hasW nx bits x.1) = [] := by
      rw [List.filter_eq_nil_iff]
      intro x hx
      rw [List.any_eq_false] at ha
      exact ha x (List.mem_of_mem_take hx)
    rw [hfl]
    skip
    refine run_ok 4000 _ _ _ _ ?_
    simp (maxSteps := 10000000) only [go_sem]
    refine ⟨_, _, .sub [0, 1, 2, 3, 4] ?_ .done, rfl, rfl⟩
    simp only [EmbV, go_sem, ha, List.length_nil, List.map_nil, iv]
theorem gfilt_yes {α : Type} {L : List α} {p : Nat} (hp : p < L.length) {H : α → Bool} (h : H L[p] = true) : (L.take (p + 1)).filter (fun x => !H x) = (L.take p).filter (fun x => !H x) ∧ (L.take (p + 1)).filter H = (L.take p).filter H ++ [L[p]] := by
  rw [List.take_succ_eq_append_getElem hp, List.filter_append, List.filter_append]
  simp [h]
theorem gfilt_no {α : Type} {L : List α} {p : Nat} (hp : p < L.length) {H : α → Bool} (h : H L[p] = false) : (L.take (p + 1)).filter (fun x => !H x) = (L.take p).filter (fun x => !H x) ++ [L[p]] ∧ (L.take (p + 1)).filter H = (L.take p).filter H := by
  rw [List.take_succ_eq_append_getElem hp, List.filter_append, List.filter_append]
  simp [h]
theorem gdrop_get {α : Type} {L M : List α} {j : Nat} (h : j < L.length) (hl : M.length = L.length) (hd : M.drop j = L.drop j) : M[j]'(by omega) = L[j] := by
  have h1 : M.drop j = M[j]'(by omega) :: M.drop (j + 1) := List.drop_eq_getElem_cons (by omega)
  have h2 : L.drop j = L[j] :: L.drop (j + 1) := List.drop_eq_getElem_cons h
  rw [h1, h2] at hd
  injection hd
theorem gdrop_next {α : Type} {L M : List α} {j : Nat} (hd : M.drop j = L.drop j) : M.drop (j + 1) = L.drop (j + 1) := by
  rw [← List.drop_drop, ← List.drop_drop, hd]
theorem i_inR0 {l : List Itm} {i : Nat} (h : i < l.length) : inR (irows l) i 0 2 := ⟨_, i_get h, by simp [irow]⟩
theorem i_rput0 {l : List Itm} {i : Nat} (h : i < l.length) (x : Itm) : rput (irows l) i 0 [.int .u32 x.1, .str x.2] = irows (l.set i x) := by
  unfold rput irows
  apply List.ext_getElem?
  intro j
  rw [List.getElem?_modify, List.getElem?_map, List.getElem?_map, List.getElem?_set]
  by_cases hj : i = j
  · subst hj; simp [h, irow]
  · simp [hj]
/-- What is told, and what isn't. -/
def toldW (nx bits : Int) (L : List Itm) : List Int := (L.filter fun x => hasW nx bits x.1).map (·.1)
def leftW (nx bits : Int) (L : List Itm) : List Itm := L.filter fun x => !hasW nx bits x.1
set_option maxHeartbeats 4000000 in
theorem wdelete_spec (nx bits : Int) (L : List Itm) (hL : L.length ≤ 10000) : Tri Try.prog 43 [.sl 0 0 L.length L.length false, .fn 45 [] [.pbox 1 0, .pbox 2 0]]
    [.row 2 (irows L), .box [.int .u32 nx, .int .u32 bits], .box [.sl 3 0 0 0 false], .row 1 []]
    (fun v m => v = .sl 0 0 (leftW nx bits L).length (leftW nx bits L).length false ∧
      m = [.row 2 (irows (leftW nx bits L)), .box [.int .u32 nx, .int .u32 bits], .box [.sl 4 0 (toldW nx bits L).length (toldW nx bits L).length false], .gone, .row 1 (uv (toldW nx bits L))]) := by
  refine Tri.post ?_
  have hx := windex_spec nx bits L (by omega)
  unfold leftW toldW
  by_cases ha : L.any (fun x => hasW nx bits x.1) = true
  case neg =>
    have ha : L.any (fun x => hasW nx bits x.1) = false := by simpa using ha
    have hf : (L.filter fun x => !hasW nx bits x.1) = L := by
      rw [List.filter_eq_self]; intro x hx; rw [List.any_eq_false] at ha; simpa using ha x hx
    have hf2 : (L.filter fun x => hasW nx bits x.1) = [] := by
      rw [List.filter_eq_nil_iff]; intro x hx; rw [List.any_eq_false] at ha; exact ha x hx
    have hfl : (L.take (L.findIdx (fun x => hasW nx bits x.1) + 1)).filter (fun x => hasW nx bits x.1) = [] := by
      rw [List.filter_eq_nil_iff]; intro x hx; rw [List.any_eq_false] at ha; exact ha x (List.mem_of_mem_take hx)
    rw [hf, hf2]
    rw [ha, hfl] at hx
    simp only [Bool.false_eq_true, if_false, List.length_nil, List.map_nil, iv] at hx
    refine (Tri.enter (rl := r43) (code := c43) (by kernel_rfl) Try.func43 rfl c43_ok (by kernel_rfl) (by kernel_rfl) ?_)
    refine run_ok 4000 _ _ _ _ ?_
    simp (maxSteps := 10000000) only [go_sem, c43, r43]
    refine sem_call rfl rfl (((hx).embed [0, 1, 2, 3] rfl (by repeat' first | exact trivial | rfl | (simp only [go_sem]; done) | constructor) rfl (by first | rfl | simp only [go_sem]) rfl (by simp)).mono ?_)
    rintro _ _ ⟨_, _, ⟨rfl, rfl⟩, rfl, rfl⟩
    refine run_ok 4000 _ _ _ _ ?_
    simp (maxSteps := 10000000) only [go_sem]
    refine ⟨_, _, .sub [0, 1, 2, 3, 4] ?_ .done, rfl, rfl⟩
    simp only [EmbV, go_sem, List.length_nil, List.map_nil, iv]
  rw [ha, if_pos rfl] at hx
  have hp : L.findIdx (fun x => hasW nx bits x.1) < L.length := by rw [List.findIdx_lt_length]; simpa using ha
  have hpre : (L.take (L.findIdx (fun x => hasW nx bits x.1))).filter (fun x => !hasW nx bits x.1) = L.take (L.findIdx (fun x => hasW nx bits x.1)) := by
    rw [List.filter_eq_self]
    intro x hx
    obtain ⟨j, hj, rfl⟩ := List.getElem_of_mem hx
    rw [List.length_take] at hj
    rw [List.getElem_take]
    have := List.not_of_lt_findIdx (xs := L) (p := fun x => hasW nx bits x.1) (i := j) (by omega)
    simp only [this]; rfl
  have hhit : hasW nx bits (L[L.findIdx (fun x => hasW nx bits x.1)]).1 = true := List.findIdx_getElem (xs := L) (p := fun x => hasW nx bits x.1) (w := hp)
  generalize L.findIdx (fun x => hasW nx bits x.1) = p at *
  have hne : ((p : Int) == (-1)) = false := by rw [beq_eq_false_iff_ne]; omega
  have hf0 := gfilt_yes (H := fun x : Itm => hasW nx bits x.1) hp hhit
  generalize hG0 : ((L.take (p + 1)).filter fun x => hasW nx bits x.1) = G0 at *
  have hml : G0.length = (G0.map (·.1)).length := by simp
  rw [hml] at hx
  obtain ⟨G1, hG1⟩ : ∃ G1, G1 = G0.map (·.1) := ⟨_, rfl⟩
  rw [← hG1] at hx
  skip
  refine (Tri.enter (rl := r43) (code := c43) (by kernel_rfl) Try.func43 rfl c43_ok (by kernel_rfl) (by kernel_rfl) ?_)
  refine run_ok 4000 _ _ _ _ ?_
  simp (maxSteps := 10000000) only [go_sem, c43, r43, hne, inc64 (show p < 1000000000000 by omega)]
  refine sem_call rfl rfl (((hx).embed [0, 1, 2, 3] rfl (by repeat' first | exact trivial | rfl | (simp only [go_sem]; done) | constructor) rfl (by first | rfl | simp only [go_sem]) rfl (by simp)).mono ?_)
  rintro _ _ ⟨_, _, ⟨rfl, rfl⟩, rfl, rfl⟩
  refine run_ok 4000 _ _ _ _ ?_
  simp (maxSteps := 10000000) only [go_sem, hne, inc64 (show p < 1000000000000 by omega)]
  refine sem_rounds (fun x : Nat × Nat × List Itm × List Int => x.1 ≤ L.length ∧ x.2.1 < x.1 ∧ x.2.2.1.length = L.length ∧ x.2.2.1.take x.2.1 = (L.take x.1).filter (fun x => !hasW nx bits x.1) ∧ x.2.2.1.drop x.1 = L.drop x.1 ∧ x.2.2.2 = ((L.take x.1).filter (fun x => hasW nx bits x.1)).map (·.1))
    (fun x => [(0, .sl 0 0 L.length L.length false), (1, .fn 45 [] [.pbox 1 0, .pbox 2 0]), (5, .int .i64 (x.2.1 : Nat)), (6, .int .i64 (x.1 : Nat))])
    (fun x => [.row 2 (irows x.2.2.1), .box [.int .u32 nx, .int .u32 bits], .box [.sl 4 0 x.2.2.2.length x.2.2.2.length false], .gone, .row 1 (uv x.2.2.2)]) (fun x => L.length - x.1) (p + 1, p, L, G1) [0, 1, 2, 3, 4]
    ⟨by simp only; omega, by simp only; omega, rfl, by simp only; rw [hf0.1, hpre], rfl, by simp only; rw [hG0, hG1]⟩ ?_ ?_
  · simp only [Emb, go_sem]
  rintro ⟨j, i, M, G⟩ ⟨h1, h2, h3, h4, h5, h6⟩
  simp only at h1 h2 h3 h4 h5 h6
  have hGl : G.length ≤ 10000 := by rw [h6, List.length_map]; have := List.length_filter_le (fun x : Itm => hasW nx bits x.1) (L.take j); rw [List.length_take] at this; omega
  refine run_ok 4000 _ _ _ _ ?_
  simp (maxSteps := 10000000) only [go_sem, hne, inc64 (show p < 1000000000000 by omega)]
  refine ⟨fun hlt => ?_, fun hge => ?_⟩
  · have hlt : j < L.length := by omega
    have hltM : j < M.length := by omega
    have hin : (j : Int) < (L.length : Int) := by omega
    have hii : (i : Int) < (L.length : Int) := by omega
    have hga := gdrop_get hlt h3 h5
    have hdn := gdrop_next h5
    have hcl := hitW_spec nx bits M[j] G (by omega)
    unfold irow at hcl
    skip
    simp (maxSteps := 10000000) only [go_sem, i_hasI hltM, i_hasS hltM, i_rint hltM, i_rstr hltM, hin, hii, Int.natCast_nonneg, inc64 (show j < 1000000000000 by omega), inc64 (show i < 1000000000000 by omega)]
    refine sem_callv rfl rfl rfl (((hcl).embed [1, 2, 4] rfl (by repeat' first | exact trivial | rfl | (simp only [go_sem]; done) | constructor) rfl (by first | rfl | simp only [go_sem]) rfl (by simp)).mono ?_)
    rintro _ _ ⟨_, _, ⟨rfl, rfl⟩, rfl, rfl⟩
    refine run_ok 4000 _ _ _ _ ?_
    simp (maxSteps := 10000000) only [go_sem, i_hasI hltM, i_hasS hltM, i_rint hltM, i_rstr hltM, hin, hii, Int.natCast_nonneg, inc64 (show j < 1000000000000 by omega), inc64 (show i < 1000000000000 by omega)]
    refine ⟨fun hh => ?_, fun hh => ?_⟩
    · have hh : hasW nx bits M[j].1 = false := by simpa using hh
      have hL : hasW nx bits L[j].1 = false := by rw [← hga]; exact hh
      have hiM : i < M.length := by omega
      have hf := gfilt_no (H := fun x : Itm => hasW nx bits x.1) hlt hL
      have hGn : hitG nx bits G M[j] = G := by unfold hitG; rw [hh]; rfl
      rw [hGn]
      refine ⟨i_inR0 hiM, (j + 1, i + 1, M.set i M[j], G), by simp only; omega, ⟨by simp only; omega, by simp only; omega, by simp only [List.length_set]; exact h3, ?_, ?_, ?_⟩, [0, 1, 2, 3, 6], ?_⟩
      · simp only
        rw [hf.1, ← h4, List.take_succ_eq_append_getElem (by rw [List.length_set]; exact hiM), List.getElem_set_self, hga, List.take_set_of_le (Nat.le_refl _)]
      · simp only
        rw [List.drop_set_of_lt (by omega)]; exact hdn
      · simp only
        rw [hf.2]; exact h6
      · rw [i_rput0 hiM]
        simp only [Emb, go_sem]
    · have hh : hasW nx bits M[j].1 = true := by simpa using hh
      have hL : hasW nx bits L[j].1 = true := by rw [← hga]; exact hh
      have hf := gfilt_yes (H := fun x : Itm => hasW nx bits x.1) hlt hL
      have hGn : hitG nx bits G M[j] = G ++ [M[j].1] := by unfold hitG; rw [hh]; rfl
      rw [hGn]
      refine ⟨(j + 1, i, M, G ++ [M[j].1]), by simp only; omega, ⟨by simp only; omega, by simp only; omega, h3, ?_, hdn, ?_⟩, [0, 1, 2, 3, 6], ?_⟩
      · simp only
        rw [hf.1]; exact h4
      · simp only
        rw [hf.2, List.map_append, ← h6, hga]; rfl
      · simp only [Emb, go_sem]
  · have hj : j = L.length := by omega
    subst hj
    rw [List.take_length] at h4 h6
    have hk : (L.filter fun x => !hasW nx bits x.1).length = i := by rw [← h4, List.length_take]; omega
    have hbk : (irows M).take i = irows (L.filter fun x => !hasW nx bits x.1) := by rw [← h4, irows, irows, List.map_take]
    have hbl : ((irows M).take i).length = i := by rw [List.length_take, irows_len]; omega
    have f1 : (i : Int) ≤ (L.length : Int) := by omega
    refine sem_tell 0 i rfl ?_
    skip
    skip
    refine run_ok 3 _ _ _ _ ?_
    simp (maxSteps := 10000000) only [go_sem, f1, Int.natCast_nonneg]
    skip
    refine sem_clrT rfl rfl rfl (by rw [hbl]; exact Nat.le_refl _) ?_
    skip
    refine run_ok 4000 _ _ _ _ ?_
    simp (maxSteps := 10000000) only [go_sem, f1, Int.natCast_nonneg, Nat.sub_zero]
    rw [← h6]
    refine ⟨_, _, .like Like.cap (.sub [0, 1, 2, 3, 4] ?_ .done), rfl, rfl⟩
    simp only [EmbV, go_sem, hk, hbk]
end Go.AEX

/- Window: acks of what was sent, and the reference: contracts. -/
namespace Go.AEX
open Go Go.AE Go.Proofs
set_option maxRecDepth 100000
set_option linter.unusedVariables false
set_option linter.unusedSimpArgs false

theorem wclone_spec (L : List Itm) (hL : L.length ≤ 100000) : Tri Try.prog 44 [.sl 0 0 L.length L.length false] [.row 2 (irows L)] (fun v m => v = .sl 1 0 L.length L.length false ∧ m = [.row 2 (irows L), .row 2 (irows L)]) := by
  refine Tri.post ?_
  refine (Tri.enter (rl := r44) (code := c44) (by kernel_rfl) Try.func44 rfl c44_ok (by kernel_rfl) (by kernel_rfl) ?_)
  refine run_ok 4000 _ _ _ _ ?_
  simp (maxSteps := 10000000) only [go_sem, c44, r44]
  refine sem_eqn rfl rfl rfl fun b hb => ?_
  cases b with
  | false =>
    skip
    refine run_ok 4000 _ _ _ _ ?_
    simp (maxSteps := 10000000) only [go_sem, sub_irows]
    refine ⟨by unfold small; omega, _, _, .sub [0, 1] ?_ .done, rfl, rfl⟩
    simp only [EmbV, go_sem]
  | true =>
    have h0 : L.length = 0 := by
      by_cases h : L.length = 0
      · exact h
      · exact absurd (hb h) (by simp)
    have : L = [] := List.length_eq_zero_iff.1 h0
    subst this
    skip
    refine run_ok 2 _ _ _ _ ?_
    simp (maxSteps := 10000000) only [go_sem, sub_irows]
    skip
    refine sem_virt 2 2 rfl ?_
    refine run_ok 4000 _ _ _ _ ?_
    simp (maxSteps := 10000000) only [go_sem, sub_irows]
    refine ⟨_, _, .sub [0, 1] ?_ .done, rfl, rfl⟩
    simp only [EmbV, go_sem, irows, List.map_nil]
theorem all_spec (next : Int) (l : List Itm) (hl : l.length ≤ 100000) : Tri Try.prog 36 [.pbox 0 0] (outW next l) (fun v m => v = .vsl 2 (irows l) false ∧ m = outW next l) := by
  refine Tri.post ?_
  have hc := wclone_spec l hl
  refine (Tri.enter (rl := r36) (code := c36) (by kernel_rfl) Try.func36 rfl c36_ok (by kernel_rfl) (by kernel_rfl) ?_)
  refine run_ok 4000 _ _ _ _ ?_
  simp (maxSteps := 10000000) only [go_sem, c36, r36]
  refine sem_call rfl rfl (((hc).embed [1] rfl (by repeat' first | exact trivial | rfl | (simp only [go_sem]; done) | constructor) rfl (by first | rfl | simp only [go_sem]) rfl (by simp)).mono ?_)
  rintro _ _ ⟨_, _, ⟨rfl, rfl⟩, rfl, rfl⟩
  refine run_ok 4000 _ _ _ _ ?_
  simp (maxSteps := 10000000) only [go_sem]
  refine ⟨_, _, .fz 2 rfl (by simp only [go_sem, Nat.le_refl]) (.sub [0, 1] ?_ .done), rfl, rfl⟩
  simp only [EmbV, go_sem]
theorem olen_spec (next : Int) (l : List Itm) : Tri Try.prog 35 [.pbox 0 0] (outW next l) (fun v m => v = .int .i64 l.length ∧ m = outW next l) := by
  refine Tri.post ?_
  refine (Tri.enter (rl := r35) (code := c35) (by kernel_rfl) Try.func35 rfl c35_ok (by kernel_rfl) (by kernel_rfl) ?_)
  refine run_ok 4000 _ _ _ _ ?_
  simp (maxSteps := 10000000) only [go_sem, c35, r35]
  exact ⟨_, _, .sub [0, 1] (by simp only [EmbV, go_sem]) .done, rfl, rfl⟩
theorem onext_spec (next : Int) (l : List Itm) : Tri Try.prog 39 [.pbox 0 0] (outW next l) (fun v m => v = .int .u32 next ∧ m = outW next l) := by
  refine Tri.post ?_
  refine (Tri.enter (rl := r39) (code := c39) (by kernel_rfl) Try.func39 rfl c39_ok (by kernel_rfl) (by kernel_rfl) ?_)
  refine run_ok 4000 _ _ _ _ ?_
  simp (maxSteps := 10000000) only [go_sem, c39, r39]
  exact ⟨_, _, .sub [0, 1] (by simp only [EmbV, go_sem]) .done, rfl, rfl⟩
theorem oack_spec (next : Int) (l : List Itm) (nx bits : Int) (hl : l.length ≤ 10000) (hn : ¬ u32 (next - nx) ≥ 2147483648) :
    Tri Try.prog 34 [.pbox 0 0, .agg [.int .u32 nx, .int .u32 bits]] (outW next l)
      (fun v m => v = .vsl 1 (uv (toldW nx bits l)) false ∧ m = outW2 next (leftW nx bits l)) := by
  refine Tri.post ?_
  have hc := wclone_spec l (by omega)
  have hd := wdelete_spec nx bits l hl
  unfold u32 at hn
  generalize toldW nx bits l = T at *
  generalize leftW nx bits l = K at *
  skip
  refine (Tri.enter (rl := r34) (code := c34) (by kernel_rfl) Try.func34 rfl c34_ok (by kernel_rfl) (by kernel_rfl) ?_)
  refine run_ok 4000 _ _ _ _ ?_
  simp (maxSteps := 10000000) only [go_sem, c34, r34, hn]
  refine sem_drawG l34_0_ok (by kernel_rfl) ?_
  intro KK hKK
  simp (maxSteps := 10000000) only [go_sem, l34_0, hn]
  subst hKK
  simp (maxSteps := 10000000) only [go_sem, hn]
  refine sem_nilbox 3 0 1 rfl rfl ?_
  refine sem_move 1 rfl ?_
  refine run_ok 4000 _ _ _ _ ?_
  simp (maxSteps := 10000000) only [go_sem, hn]
  refine sem_call rfl rfl (((hc).embed [5] rfl (by repeat' first | exact trivial | rfl | (simp only [go_sem]; done) | constructor) rfl (by first | rfl | simp only [go_sem]) rfl (by simp)).mono ?_)
  rintro _ _ ⟨_, _, ⟨rfl, rfl⟩, rfl, rfl⟩
  refine run_ok 4000 _ _ _ _ ?_
  simp (maxSteps := 10000000) only [go_sem, hn]
  refine sem_call rfl rfl (((hd).embed [6, 2, 3, 4] rfl (by repeat' first | exact trivial | rfl | (simp only [go_sem]; done) | constructor) rfl (by first | rfl | simp only [go_sem]) rfl (by simp)).mono ?_)
  rintro _ _ ⟨_, _, ⟨rfl, rfl⟩, rfl, rfl⟩
  refine run_ok 4000 _ _ _ _ ?_
  simp (maxSteps := 10000000) only [go_sem, hn]
  refine ⟨_, _, .fz 7 rfl (by simp only [go_sem, iv_len, Nat.le_refl]) (.sub [0, 1, 6] ?_ .done), rfl, rfl⟩
  simp only [EmbV, go_sem, uv_all]
theorem oack_no (next : Int) (l : List Itm) (nx bits : Int) (hl : l.length ≤ 10000) (hn : u32 (next - nx) ≥ 2147483648) :
    Tri Try.prog 34 [.pbox 0 0, .agg [.int .u32 nx, .int .u32 bits]] (outW next l)
      (fun v m => v = .vsl 1 (uv []) false ∧ m = outW2 next l) := by
  refine Tri.post ?_
  unfold u32 at hn
  skip
  skip
  refine (Tri.enter (rl := r34) (code := c34) (by kernel_rfl) Try.func34 rfl c34_ok (by kernel_rfl) (by kernel_rfl) ?_)
  refine run_ok 1 _ _ _ _ ?_
  simp (maxSteps := 10000000) only [go_sem, c34, r34, hn]
  skip
  refine sem_move 1 rfl ?_
  refine run_ok 4000 _ _ _ _ ?_
  simp (maxSteps := 10000000) only [go_sem, hn]
  refine sem_drawG l34_0_ok (by kernel_rfl) ?_
  intro KK hKK
  simp (maxSteps := 10000000) only [go_sem, l34_0, hn]
  subst hKK
  simp (maxSteps := 10000000) only [go_sem, hn]
  refine ⟨_, _, .like (Like.nilv 1 false) (.sub [0, 1, 3] ?_ .done), rfl, rfl⟩
  simp only [EmbV, go_sem, iv, List.map_nil]
/-! ### the reference -/
theorem jrows_all (l : Ent) : sub (jrows l) 0 l.length = jrows l := sub_jrows l
def refO (n : Int) (L : Ent) : AV := .agg [.int .i64 n, .vsl 2 (jrows L) false]
theorem rpush_nil (n : Int) (s : List UInt8) (hn : 0 ≤ n ∧ n ≤ 1000000) :
    Tri Try.prog 37 [refO n [], .str s] [] (fun v m => v = .tup [refO (n + 1) [(n, s)], .bool true] ∧ m = []) := by
  refine Tri.post ?_
  have w1 : iwrap .i64 (n + 1) = n + 1 := iwrap_i64_in (by omega)
  have e1 : sub (jrows []) 0 0 = [] := rfl
  have f0 : ¬ (0 : Int) > 0 := by omega
  skip
  refine (Tri.enter (rl := r37) (code := c37) (by kernel_rfl) Try.func37 rfl c37_ok (by kernel_rfl) (by kernel_rfl) ?_)
  refine run_ok 4000 _ _ _ _ ?_
  simp (maxSteps := 10000000) only [go_sem, c37, r37, refO, w1, f0]
  refine sem_drawG l37_0_ok (by kernel_rfl) ?_
  intro KK hKK
  simp (maxSteps := 10000000) only [go_sem, l37_0, refO, w1, f0]
  subst hKK
  simp (maxSteps := 10000000) only [go_sem, refO, w1, f0]
  refine sem_drawG l37_1_ok (by kernel_rfl) ?_
  intro KK hKK
  simp (maxSteps := 10000000) only [go_sem, l37_1, refO, w1, f0]
  subst hKK
  simp (maxSteps := 10000000) only [go_sem, refO, w1, f0]
  have hone : sub (jrows []) 0 0 ++ [[AV.int .i64 n, AV.str s]] = jrows [(n, s)] := rfl
  rw [hone]
  have hm : max 1 0 = 1 := rfl
  have hs : sub (jrows [(n, s)]) 0 1 = jrows [(n, s)] := rfl
  have hl1 : (jrows [(n, s)]).length = 1 := rfl
  rw [hm]
  refine ⟨by unfold small; decide, by unfold small; decide, _, _, .fz 3 rfl (by simp only [go_sem, hl1, Nat.le_refl]) (.sub [] ?_ .done), rfl, rfl⟩
  simp only [EmbV, go_sem, refO, hs]
theorem rpush_spec (n : Int) (p : Int × List UInt8) (L : Ent) (s : List UInt8) (hn : 0 ≤ n ∧ n ≤ 1000000) (hL : L.length ≤ 1000) (hp : 0 ≤ p.1 ∧ p.1 ≤ 1000000) (hf : n - p.1 < 32) :
    Tri Try.prog 37 [refO n (p :: L), .str s] [] (fun v m => v = .tup [refO (n + 1) (p :: L ++ [(n, s)]), .bool true] ∧ m = []) := by
  refine Tri.post ?_
  have w1 : iwrap .i64 (n + 1) = n + 1 := iwrap_i64_in (by omega)
  have w2 : iwrap .i64 (n - p.1) = n - p.1 := iwrap_i64_in (by omega)
  have h0 : 0 < (p :: L).length := by simp
  have f0 : ((p :: L).length : Int) > 0 := by simp
  have f1 : (0 : Int) < ((p :: L).length : Int) := by omega
  have f2 : ¬ (n - p.1) ≥ 32 := by omega
  have hg : (p :: L)[0] = p := rfl
  have r0 := j_rint h0
  rw [hg] at r0
  have hLl : (p :: L).length = L.length + 1 := rfl
  generalize hM : p :: L = M at *
  have hs := jrows_all M
  skip
  refine (Tri.enter (rl := r37) (code := c37) (by kernel_rfl) Try.func37 rfl c37_ok (by kernel_rfl) (by kernel_rfl) ?_)
  refine run_ok 4000 _ _ _ _ ?_
  simp (maxSteps := 10000000) only [go_sem, c37, r37, refO, w1, w2, f0, f1, f2, j_hasI h0, r0, jrows_len, hs]
  refine sem_drawG l37_0_ok (by kernel_rfl) ?_
  intro KK hKK
  simp (maxSteps := 10000000) only [go_sem, l37_0, refO, w1, w2, f0, f1, f2, j_hasI h0, r0, jrows_len, hs]
  subst hKK
  simp (maxSteps := 10000000) only [go_sem, refO, w1, w2, f0, f1, f2, j_hasI h0, r0, jrows_len, hs]
  refine sem_drawG l37_1_ok (by kernel_rfl) ?_
  intro KK hKK
  simp (maxSteps := 10000000) only [go_sem, l37_1, refO, w1, w2, f0, f1, f2, j_hasI h0, r0, jrows_len, hs]
  subst hKK
  simp (maxSteps := 10000000) only [go_sem, refO, w1, w2, f0, f1, f2, j_hasI h0, r0, jrows_len, hs]
  have hone : [[AV.int .i64 n, AV.str s]] = jrows [(n, s)] := rfl
  rw [hone, jrows_app]
  refine ⟨by unfold small; omega, by unfold small; omega, _, _, .fz 3 rfl (by simp only [go_sem, jrows_len, List.length_append, List.length_cons, List.length_nil, Nat.le_refl]) (.sub [] ?_ .done), rfl, rfl⟩
  have hs2 : sub (jrows (M ++ [(n, s)])) 0 (M.length + 1) = jrows (M ++ [(n, s)]) := by have := jrows_all (M ++ [(n, s)]); rwa [List.length_append] at this
  simp only [EmbV, go_sem, refO, hs2]
theorem rpush_full (n : Int) (p : Int × List UInt8) (L : Ent) (s : List UInt8) (hn : 0 ≤ n ∧ n ≤ 1000000) (hL : L.length ≤ 1000) (hp : 0 ≤ p.1 ∧ p.1 ≤ 1000000) (hf : 32 ≤ n - p.1) :
    Tri Try.prog 37 [refO n (p :: L), .str s] [] (fun v m => v = .tup [refO n (p :: L), .bool false] ∧ m = []) := by
  refine Tri.post ?_
  have w2 : iwrap .i64 (n - p.1) = n - p.1 := iwrap_i64_in (by omega)
  have h0 : 0 < (p :: L).length := by simp
  have f0 : ((p :: L).length : Int) > 0 := by simp
  have f1 : (0 : Int) < ((p :: L).length : Int) := by omega
  have f2 : (n - p.1) ≥ 32 := by omega
  have hg : (p :: L)[0] = p := rfl
  have r0 := j_rint h0
  rw [hg] at r0
  generalize hM : p :: L = M at *
  skip
  refine (Tri.enter (rl := r37) (code := c37) (by kernel_rfl) Try.func37 rfl c37_ok (by kernel_rfl) (by kernel_rfl) ?_)
  refine run_ok 4000 _ _ _ _ ?_
  simp (maxSteps := 10000000) only [go_sem, c37, r37, refO, w2, f0, f1, f2, j_hasI h0, r0, jrows_len]
  refine sem_drawG l37_0_ok (by kernel_rfl) ?_
  intro KK hKK
  simp (maxSteps := 10000000) only [go_sem, l37_0, refO, w2, f0, f1, f2, j_hasI h0, r0, jrows_len]
  subst hKK
  simp (maxSteps := 10000000) only [go_sem, refO, w2, f0, f1, f2, j_hasI h0, r0, jrows_len]
  refine ⟨_, _, .sub [] ?_ .done, rfl, rfl⟩
  simp only [EmbV, go_sem, refO]
/-- Does an ack tell it, over numbers without an end? -/
def hasR (next : Int) (b : Nat) (n : Int) : Bool :=
  if n < next then true else if n - next - 1 < 0 ∨ n - next - 1 > 31 then false else (b / 2 ^ (n - next - 1).toNat) % 2 == 1
theorem rhas_spec (next : Int) (b : Nat) (n : Int) (hn : -1000 ≤ next ∧ next ≤ 1000000) (hk : 0 ≤ n ∧ n ≤ 1000000) (hb : b < 4294967296) : Tri Try.prog 46 [.int .i64 next, .int .u32 (b : Nat), .int .i64 n] []
    (fun v m => v = .bsym (hasR next b n) ∧ m = []) := by
  refine Tri.asS (Tri.post ?_)
  unfold hasR
  by_cases c0 : n < next
  · rw [if_pos c0]
    skip
    refine (Tri.enter (rl := r46) (code := c46) (by kernel_rfl) Try.func46 rfl c46_ok (by kernel_rfl) (by kernel_rfl) ?_)
    refine run_ok 4000 _ _ _ _ ?_
    simp (maxSteps := 10000000) only [go_sem, c46, r46, c0]
    exact ⟨.bool true, _, .sub [] (by simp only [EmbV, go_sem]) .done, rfl, rfl⟩
  rw [if_neg c0]
  have w1 : iwrap .i64 (n - next) = n - next := iwrap_i64_in (by omega)
  have w2 : iwrap .i64 (n - next - 1) = n - next - 1 := iwrap_i64_in (by omega)
  by_cases c1 : n - next - 1 < 0
  · rw [if_pos (.inl c1)]
    skip
    refine (Tri.enter (rl := r46) (code := c46) (by kernel_rfl) Try.func46 rfl c46_ok (by kernel_rfl) (by kernel_rfl) ?_)
    refine run_ok 4000 _ _ _ _ ?_
    simp (maxSteps := 10000000) only [go_sem, c46, r46, c0, c1, w1, w2]
    exact ⟨.bool false, _, .sub [] (by simp only [EmbV, go_sem]) .done, rfl, rfl⟩
  by_cases c2 : n - next - 1 > 31
  · rw [if_pos (.inr c2)]
    skip
    refine (Tri.enter (rl := r46) (code := c46) (by kernel_rfl) Try.func46 rfl c46_ok (by kernel_rfl) (by kernel_rfl) ?_)
    refine run_ok 4000 _ _ _ _ ?_
    simp (maxSteps := 10000000) only [go_sem, c46, r46, c0, c1, c2, w1, w2]
    exact ⟨.bool false, _, .sub [] (by simp only [EmbV, go_sem]) .done, rfl, rfl⟩
  rw [if_neg (by omega)]
  obtain ⟨k, hk⟩ : ∃ k : Nat, n - next - 1 = (k : Int) := ⟨(n - next - 1).toNat, by omega⟩
  have hkn : (n - next - 1).toNat = k := by omega
  rw [hkn]
  have hk31 : k ≤ 31 := by omega
  have w3 : iwrap .i64 (n - next - 1) = (k : Int) := by rw [w2]; exact hk
  have c3 : ¬ (k : Int) < 0 := by omega
  have c4 : ¬ (k : Int) > 31 := by omega
  skip
  refine (Tri.enter (rl := r46) (code := c46) (by kernel_rfl) Try.func46 rfl c46_ok (by kernel_rfl) (by kernel_rfl) ?_)
  refine run_ok 4000 _ _ _ _ ?_
  simp (maxSteps := 10000000) only [go_sem, c46, r46, c0, c3, c4, w1, w3]
  refine sem_rounds (fun i => i ≤ k) (fun i => [(7, .int .i64 (k : Nat)), (8, .int .u32 ((b / 2 ^ i : Nat) : Int)), (9, .int .i64 (i : Nat))]) (fun i => []) (fun i => k - i) 0 [] (by omega) ?_ ?_
  · simp only [Emb, go_sem, Nat.pow_zero, Nat.div_one]
  intro i hi
  skip
  refine run_ok 4000 _ _ _ _ ?_
  simp (maxSteps := 10000000) only [go_sem]
  refine ⟨fun hlt => ?_, fun hge => ?_⟩
  · have e : iwrap .u32 (((b / 2 ^ i : Nat) : Int).tdiv 2) = ((b / 2 ^ (i + 1) : Nat) : Int) := by
      rw [Nat.pow_succ, ← Nat.div_div_eq_div_mul]
      have : b / 2 ^ i ≤ b := Nat.div_le_self _ _
      generalize b / 2 ^ i = q at *
      rw [Int.tdiv_eq_ediv_of_nonneg (by omega), iwrap_u32]
      omega
    skip
    simp (maxSteps := 10000000) only [go_sem, e, inc64 (show i < 1000000000000 by omega)]
    refine ⟨i + 1, by omega, by omega, [], ?_⟩
    simp only [Emb, go_sem]
  · have : i = k := by omega
    subst this
    have e : ((b / 2 ^ i : Nat) : Int).tmod 2 = ((b / 2 ^ i % 2 : Nat) : Int) := by
      generalize b / 2 ^ i = q at *
      rw [Int.tmod_eq_emod_of_nonneg (by omega)]; rfl
    have e2 : (((b / 2 ^ i % 2 : Nat) : Int) == 1) = (b / 2 ^ i % 2 == 1) := by
      generalize b / 2 ^ i = q at *
      rw [Bool.eq_iff_iff]; simp; omega
    skip
    refine run_ok 4000 _ _ _ _ ?_
    simp (maxSteps := 10000000) only [go_sem, e]
    refine ⟨.bsym _, _, .sub [] ?_ .done, rfl, rfl⟩
    simp only [EmbV, go_sem, e2]
end Go.AEX

/- Window, what came: the plain law: numbers that go round against numbers without an end. -/
namespace Go.AEX
open Go Go.AE
set_option linter.unusedVariables false
set_option linter.unusedSimpArgs false

/-- A number that goes round. -/
def kap (F N : Int) : Int := iwrap .u32 (F + iwrap .u32 (N - 1000))
theorem kap_eq (F N : Int) : kap F N = (F + (N - 1000)) % 4294967296 := by unfold kap; rw [iwrap_u32, iwrap_u32]; omega
theorem kap_inj {F a b : Int} (h : kap F a = kap F b) (h1 : a - b < 2147483648) (h2 : b - a < 2147483648) : a = b := by rw [kap_eq, kap_eq] at h; omega
theorem kap_next (F a : Int) : kap F (a + 1) = u32 (kap F a + 1) := by unfold u32; rw [kap_eq, kap_eq, iwrap_u32]; omega
theorem kap_add (F a k : Int) : kap F (a + k) = u32 (kap F a + k) := by unfold u32; rw [kap_eq, kap_eq, iwrap_u32]; omega
def mapK (F : Int) (L : Ent) : Ent := L.map fun p => (kap F p.1, p.2)
def Near (L : Ent) (k : Int) (d : Int) : Prop := ∀ p ∈ L, p.1 - k ≤ d ∧ k - p.1 ≤ d
theorem lk_map {F k d : Int} (hd : d < 2147483648) : ∀ {L : Ent}, Near L k d → lkE (mapK F L) (kap F k) = lkE L k
  | [], _ => rfl
  | p :: L, h => by
    have ih := lk_map (F := F) hd fun q hq => h q (List.mem_cons_of_mem _ hq)
    obtain ⟨h1, h2⟩ := h p (List.mem_cons_self ..)
    simp only [mapK, List.map_cons, lkE] at ih ⊢
    by_cases e : k = p.1
    · simp [e]
    · have : ¬ kap F k = kap F p.1 := fun e' => e (kap_inj e' (by omega) (by omega))
      simp only [e, this, if_false]; exact ih
theorem del_map {F k d : Int} (hd : d < 2147483648) : ∀ {L : Ent}, Near L k d → delE (mapK F L) (kap F k) = mapK F (delE L k)
  | [], _ => rfl
  | p :: L, h => by
    have ih := del_map (F := F) hd fun q hq => h q (List.mem_cons_of_mem _ hq)
    obtain ⟨h1, h2⟩ := h p (List.mem_cons_self ..)
    simp only [mapK, List.map_cons, delE] at ih ⊢
    by_cases e : k = p.1
    · simp [e]
    · have : ¬ kap F k = kap F p.1 := fun e' => e (kap_inj e' (by omega) (by omega))
      simp only [e, this, if_false, List.map_cons]; rw [ih]
theorem del_sub : ∀ {L : Ent} {k : Int} {p : Int × List UInt8}, p ∈ delE L k → p ∈ L
  | [], _, _, h => h
  | q :: L, k, p, h => by
    simp only [delE] at h
    split at h
    · exact List.mem_cons_of_mem _ h
    · rcases List.mem_cons.1 h with e | h
      · rw [e]; simp
      · exact List.mem_cons_of_mem _ (del_sub h)
theorem drain_map {F : Int} : ∀ (f : Nat) {nx : Int} {L : Ent} {o : List (List UInt8)}, Near L nx (2000 - f) → f ≤ 1000 → drain f (kap F nx) (mapK F L) o = (kap F (drainR f nx L o).1, mapK F (drainR f nx L o).2.1, (drainR f nx L o).2.2)
  | 0, _, _, _, _, _ => rfl
  | f + 1, nx, L, o, h, hf => by
    have e := lk_map (F := F) (d := 2000 - ((f + 1 : Nat) : Int)) (by omega) h
    simp only [drain, drainR, e]
    cases hl : lkE L nx with
    | none => rfl
    | some s =>
      simp only
      rw [del_map (d := 2000 - ((f + 1 : Nat) : Int)) (by omega) h, ← kap_next]
      exact drain_map f (fun p hp => by have := h p (del_sub hp); omega) (by omega)
theorem drainR_fuel : ∀ (n : Nat) {f g : Nat} {nx : Int} {L : Ent} {o : List (List UInt8)}, L.length ≤ n → n < f → n < g → drainR f nx L o = drainR g nx L o
  | n, f + 1, g + 1, nx, L, o, hl, hf, hg => by
    simp only [drainR]
    cases h : lkE L nx with
    | none => rfl
    | some s =>
      have := delE_len L nx (by rw [h]; rfl)
      cases n with
      | zero => omega
      | succ n => exact drainR_fuel n (by omega) (by omega) (by omega)
  | n, 0, _, _, _, _, _, hf, _ => by omega
  | n, _, 0, _, _, _, _, _, hg => by omega
theorem drain_fuel : ∀ (n : Nat) {f : Nat} {nx : Int} {L : Ent} {o : List (List UInt8)}, L.length ≤ n → n ≤ f → drain f nx L o = drain (f + 1) nx L o
  | n, 0, nx, L, o, hl, hf => by
    have : L = [] := List.eq_nil_of_length_eq_zero (by omega)
    subst this; rfl
  | n, f + 1, nx, L, o, hl, hf => by
    rw [drain, drain]
    cases h : lkE L nx with
    | none => rfl
    | some s =>
      have := delE_len L nx (by rw [h]; rfl)
      cases n with
      | zero => omega
      | succ n => exact drain_fuel n (by omega) (by omega)
/-- What waits lies behind the awaited number, each number once. -/
structure WOk (nx : Int) (L : Ent) : Prop where
  lo : ∀ p ∈ L, nx < p.1
  hi : ∀ p ∈ L, p.1 ≤ nx + 32
  nd : (L.map (·.1)).Nodup
theorem pigeon : ∀ (n : Nat) (l : List Int) (a : Int), l.Nodup → (∀ x ∈ l, a < x ∧ x ≤ a + n) → l.length ≤ n
  | 0, l, a, _, h => by
    cases l with
    | nil => simp
    | cons x l => have := h x (by simp); omega
  | n + 1, l, a, hn, h => by
    have ih := pigeon n (l.erase (a + (n + 1 : Nat))) a (hn.erase _) fun x hx => by
      have h1 := (hn.mem_erase_iff).1 hx
      have := h x h1.2
      have := h1.1
      omega
    by_cases hm : a + ((n + 1 : Nat) : Int) ∈ l
    · rw [List.length_erase_of_mem hm] at ih; omega
    · rw [List.erase_of_not_mem hm] at ih; omega
theorem WOk.len {nx : Int} {L : Ent} (h : WOk nx L) : L.length ≤ 32 := by
  have := pigeon 32 (L.map (·.1)) nx h.nd fun x hx => by
    obtain ⟨p, hp, rfl⟩ := List.mem_map.1 hx
    have := h.lo p hp; have := h.hi p hp; omega
  simpa using this
theorem lk_none {k : Int} : ∀ {L : Ent}, lkE L k = none → ∀ p ∈ L, p.1 ≠ k
  | [], _, _, h => by cases h
  | q :: L, h, p, hp => by
    simp only [lkE] at h
    split at h
    · cases h
    · rename_i hk
      rcases List.mem_cons.1 hp with rfl | hp
      · exact fun e => hk e.symm
      · exact lk_none h p hp
theorem del_nd {k : Int} : ∀ {L : Ent}, (L.map (·.1)).Nodup → ((delE L k).map (·.1)).Nodup ∧ ∀ p ∈ delE L k, p.1 ≠ k ∨ lkE L k = none
  | [], _ => ⟨by simp [delE], fun p h => by cases h⟩
  | q :: L, h => by
    simp only [List.map_cons, List.nodup_cons] at h
    obtain ⟨h1, h2⟩ := h
    obtain ⟨g1, g2⟩ := del_nd (k := k) h2
    simp only [delE, lkE]
    by_cases e : k = q.1
    · simp only [e, if_true]
      refine ⟨h2, fun p hp => .inl fun e' => h1 ?_⟩
      rw [← e']; exact List.mem_map.2 ⟨p, hp, rfl⟩
    · simp only [e, if_false, List.map_cons, List.nodup_cons]
      refine ⟨⟨fun hm => h1 ?_, g1⟩, fun p hp => ?_⟩
      · obtain ⟨p, hp, he⟩ := List.mem_map.1 hm
        rw [← he]; exact List.mem_map.2 ⟨p, del_sub hp, rfl⟩
      · rcases List.mem_cons.1 hp with rfl | hp
        · exact .inl fun e' => e e'.symm
        · exact g2 p hp
theorem drainR_ok : ∀ (f : Nat) {nx nx0 : Int} {L : Ent} {o : List (List UInt8)}, L.length < f → (∀ p ∈ L, nx ≤ p.1 ∧ p.1 ≤ nx0 + 32) → nx0 ≤ nx → (L.map (·.1)).Nodup →
    WOk (drainR f nx L o).1 (drainR f nx L o).2.1 ∧ nx ≤ (drainR f nx L o).1 ∧ (drainR f nx L o).1 ≤ nx + f ∧ (drainR f nx L o).2.2.length ≤ o.length + L.length
  | 0, _, _, _, _, h, _, _, _ => by omega
  | f + 1, nx, nx0, L, o, hl, hk, h0, hn => by
    simp only [drainR]
    cases h : lkE L nx with
    | none =>
      simp only
      refine ⟨⟨fun p hp => ?_, fun p hp => ?_, hn⟩, by omega, by omega, by omega⟩
      · have := hk p hp; have := lk_none h p hp; omega
      · have := hk p hp; omega
    | some s =>
      simp only
      have hd := delE_len L nx (by rw [h]; rfl)
      obtain ⟨g1, g2⟩ := del_nd (k := nx) hn
      obtain ⟨r1, r2, r3, r4⟩ := drainR_ok f (nx := nx + 1) (nx0 := nx0) (L := delE L nx) (o := o ++ [s]) (by omega) (fun p hp => by
        have := hk p (del_sub hp)
        rcases g2 p hp with h' | h'
        · omega
        · rw [h] at h'; cases h') (by omega) g1
      refine ⟨r1, by omega, by omega, ?_⟩
      simp at r4; omega
theorem put_map {F nx n : Int} {L : Ent} {s : List UInt8} (hw : WOk nx L) (h1 : nx - 40 ≤ n) (h2 : n ≤ nx + 87) :
    putW (kap F nx) (mapK F L) (kap F n) s = ((kap F (putR nx L n s).1.1, mapK F (putR nx L n s).1.2), (putR nx L n s).2) ∧
    WOk (putR nx L n s).1.1 (putR nx L n s).1.2 ∧ nx ≤ (putR nx L n s).1.1 ∧ (putR nx L n s).1.1 ≤ nx + 40 ∧ (putR nx L n s).2.1.length ≤ 33 := by
  have hl := hw.len
  have hd : u32 (kap F n - kap F nx) = (n - nx) % 4294967296 := by unfold u32; rw [kap_eq, kap_eq, iwrap_u32]; omega
  have hnear : Near L n 200 := fun p hp => by have := hw.lo p hp; have := hw.hi p hp; omega
  unfold putW putR
  simp only [hd]
  by_cases c1 : n < nx
  · have : (n - nx) % 4294967296 ≥ 2147483648 := by omega
    simp only [this, c1, if_true]
    exact ⟨trivial, hw, by omega, by omega, by simp⟩
  · have e : (n - nx) % 4294967296 = n - nx := by omega
    have c1' : ¬ n - nx ≥ 2147483648 := by omega
    simp only [e, c1, c1', if_false]
    by_cases c2 : n > nx + 32
    · have : n - nx > 32 := by omega
      simp only [this, c2, if_true]
      exact ⟨trivial, hw, by omega, by omega, by simp⟩
    · have c2' : ¬ n - nx > 32 := by omega
      simp only [c2, c2', if_false, lk_map (F := F) (d := 200) (by omega) hnear]
      by_cases c3 : (lkE L n).isSome = true
      · simp only [c3, if_true]
        exact ⟨trivial, hw, by omega, by omega, by simp⟩
      · have c3' : (lkE L n).isSome = false := by simpa using c3
        have c4 : lkE L n = none := by cases h : lkE L n with | none => rfl | some x => rw [h] at c3; simp at c3
        simp only [c3', Bool.false_eq_true, if_false]
        have em : mapK F L ++ [(kap F n, s)] = mapK F (L ++ [(n, s)]) := by simp [mapK]
        have el : (mapK F L).length = L.length := by simp [mapK]
        have hnd : ((L ++ [(n, s)]).map (·.1)).Nodup := by
          rw [List.map_append, List.nodup_append]
          refine ⟨hw.nd, by simp, fun a ha b hb => ?_⟩
          simp at hb; subst hb
          obtain ⟨p, hp, rfl⟩ := List.mem_map.1 ha
          exact lk_none c4 p hp
        have hb : ∀ p ∈ L ++ [(n, s)], nx ≤ p.1 ∧ p.1 ≤ nx + 32 := by
          intro p hp
          rcases List.mem_append.1 hp with hp | hp
          · have := hw.lo p hp; have := hw.hi p hp; omega
          · simp at hp; subst hp; simp only; omega
        have hdm := drain_map (F := F) (L.length + 1) (nx := nx) (L := L ++ [(n, s)]) (o := []) (fun p hp => by have := hb p hp; omega) (by omega)
        have hfu := drainR_fuel 33 (f := 40) (g := 41) (nx := nx) (L := L ++ [(n, s)]) (o := []) (by simp; omega) (by omega) (by omega)
        obtain ⟨r1, r2, r3, r4⟩ := drainR_ok 40 (nx := nx) (nx0 := nx) (L := L ++ [(n, s)]) (o := []) (by simp; omega) hb (by omega) hnd
        rw [em, el]
        have hfu2 := drainR_fuel (L.length + 1) (f := L.length + 2) (g := 40) (nx := nx) (L := L ++ [(n, s)]) (o := []) (by simp) (by omega) (by omega)
        have hfu3 := drain_fuel (L.length + 1) (f := L.length + 1) (nx := kap F nx) (L := mapK F (L ++ [(n, s)])) (o := []) (by simp [mapK]) (Nat.le_refl _)
        have hdm2 := drain_map (F := F) (L.length + 2) (nx := nx) (L := L ++ [(n, s)]) (o := []) (fun p hp => by have := hb p hp; omega) (by omega)
        rw [hfu2] at hdm2
        rw [hfu3, hdm2]
        exact ⟨rfl, r1, r2, r3, by simp at r4; omega⟩
theorem bits_map {F nx : Int} {L : Ent} (hw : WOk nx L) : ∀ k, k ≤ 32 → bitsW (kap F nx) (mapK F L) k = bitsR nx L k
  | 0, _ => rfl
  | k + 1, h => by
    have ih := bits_map (F := F) hw k (by omega)
    simp only [bitsW, bitsR, ← kap_add, ih]
    rw [lk_map (F := F) (d := 200) (by omega) fun p hp => by have := hw.lo p hp; have := hw.hi p hp; omega]
end Go.AEX

/- Window: the reference's acks; the law of what is sent. -/
namespace Go.AEX
open Go Go.AE Go.Proofs
set_option maxRecDepth 100000
set_option linter.unusedVariables false
set_option linter.unusedSimpArgs false

def toldR (nx : Int) (b : Nat) (L : Ent) : List Int := (L.filter fun x => hasR nx b x.1).map (·.1)
def leftR (nx : Int) (b : Nat) (L : Ent) : Ent := L.filter fun x => !hasR nx b x.1
theorem ivi_app (a b : List Int) : iv .i64 a ++ iv .i64 b = iv .i64 (a ++ b) := by simp [iv]
theorem ivi_all (l : List Int) : sub (iv .i64 l) 0 l.length = iv .i64 l := by rw [iv_sub]; simp
theorem rack_spec (n : Int) (L : Ent) (nx : Int) (b : Nat) (hL : L.length ≤ 1000) (hb : b < 4294967296) (hx : -1000 ≤ nx ∧ nx ≤ 1000000) (hp : ∀ p ∈ L, 0 ≤ p.1 ∧ p.1 ≤ 1000000) (hn : ¬ nx > n) :
    Tri Try.prog 38 [refO n L, .int .i64 nx, .int .u32 (b : Nat)] [] (fun v m => v = .tup [refO n (leftR nx b L), .vsl 1 (iv .i64 (toldR nx b L)) false] ∧ m = []) := by
  refine Tri.post ?_
  skip
  refine (Tri.enter (rl := r38) (code := c38) (by kernel_rfl) Try.func38 rfl c38_ok (by kernel_rfl) (by kernel_rfl) ?_)
  refine run_ok 4000 _ _ _ _ ?_
  simp (maxSteps := 10000000) only [go_sem, c38, r38, refO, hn, jrows_len]
  refine sem_nilbox 2 1 2 rfl rfl ?_
  refine sem_virt 9 1 rfl ?_
  refine sem_rounds (fun i => i ≤ L.length) (fun i => [(1, .int .i64 nx), (2, .int .u32 (b : Nat)), (6, .pbox 1 0), (8, .pbox 2 0), (9, .sl 4 0 (toldR nx b (L.take i)).length (toldR nx b (L.take i)).length false), (22, .vsl 2 (jrows L) false), (23, .int .i64 L.length), (24, .int .i64 (i : Nat))])
    (fun i => [.box [.int .i64 n, .vsl 2 (jrows L) false], .box [.int .i64 0, .nilsl], .box [.int .i64 n, .sl 3 0 (leftR nx b (L.take i)).length (leftR nx b (L.take i)).length false], .row 2 (jrows (leftR nx b (L.take i))), .row 1 (iv .i64 (toldR nx b (L.take i)))])
    (fun i => L.length - i) 0 [0, 1, 2, 3, 4] (by omega) ?_ ?_
  · simp only [Emb, go_sem, leftR, toldR, List.take_zero, List.filter_nil, List.map_nil, List.length_nil, iv, jrows]
  intro i hi
  refine run_ok 4000 _ _ _ _ ?_
  simp (maxSteps := 10000000) only [go_sem, refO, hn, jrows_len]
  refine ⟨fun hlt => ?_, fun hge => ?_⟩
  · have hlt : i < L.length := by omega
    have hin : (i : Int) < (L.length : Int) := by omega
    have hpi := hp _ (List.getElem_mem hlt)
    have hh := rhas_spec nx b L[i].1 hx hpi hb
    have hl1 : (leftR nx b (L.take i)).length ≤ i := by have := List.length_filter_le (fun x : Int × List UInt8 => !hasR nx b x.1) (L.take i); rw [List.length_take] at this; unfold leftR; omega
    have hl2 : (toldR nx b (L.take i)).length ≤ i := by unfold toldR; rw [List.length_map]; have := List.length_filter_le (fun x : Int × List UInt8 => hasR nx b x.1) (L.take i); rw [List.length_take] at this; omega
    skip
    cases hc : hasR nx b L[i].1 with
    | true =>
      rw [hc] at hh
      have hf := gfilt_yes (H := fun x : Int × List UInt8 => hasR nx b x.1) hlt hc
      have e1 : leftR nx b (L.take (i + 1)) = leftR nx b (L.take i) := hf.1
      have e2 : toldR nx b (L.take (i + 1)) = toldR nx b (L.take i) ++ [L[i].1] := by unfold toldR; rw [hf.2, List.map_append]; rfl
      simp (maxSteps := 10000000) only [go_sem, j_hasI hlt, j_hasS hlt, j_rint hlt, j_rstr hlt, hin, jrows_all, ivi_all, iv_len, Int.natCast_nonneg, inc64 (show i < 1000000000000 by omega)]
      refine sem_call rfl rfl (((hh).embed [] rfl (by repeat' first | exact trivial | rfl | (simp only [go_sem]; done) | constructor) rfl (by first | rfl | simp only [go_sem]) rfl (by simp)).mono ?_)
      rintro _ _ ⟨_, _, ⟨rfl, rfl⟩, rfl, rfl⟩
      refine run_ok 4000 _ _ _ _ ?_
      simp (maxSteps := 10000000) only [go_sem, j_hasI hlt, j_hasS hlt, j_rint hlt, j_rstr hlt, hin, jrows_all, ivi_all, iv_len, Int.natCast_nonneg, inc64 (show i < 1000000000000 by omega)]
      have hone : [[AV.int .i64 L[i].1]] = iv .i64 [L[i].1] := rfl
      rw [hone, ivi_app]
      refine ⟨by unfold small; omega, i + 1, by omega, by omega, [0, 1, 2, 3, 6], ?_⟩
      simp only [Emb, go_sem, e1, e2, List.length_append, List.length_cons, List.length_nil]
    | false =>
      rw [hc] at hh
      have hf := gfilt_no (H := fun x : Int × List UInt8 => hasR nx b x.1) hlt hc
      have e1 : leftR nx b (L.take (i + 1)) = leftR nx b (L.take i) ++ [L[i]] := hf.1
      have e2 : toldR nx b (L.take (i + 1)) = toldR nx b (L.take i) := by unfold toldR; rw [hf.2]
      simp (maxSteps := 10000000) only [go_sem, j_hasI hlt, j_hasS hlt, j_rint hlt, j_rstr hlt, hin, jrows_all, ivi_all, iv_len, Int.natCast_nonneg, inc64 (show i < 1000000000000 by omega)]
      refine sem_call rfl rfl (((hh).embed [] rfl (by repeat' first | exact trivial | rfl | (simp only [go_sem]; done) | constructor) rfl (by first | rfl | simp only [go_sem]) rfl (by simp)).mono ?_)
      rintro _ _ ⟨_, _, ⟨rfl, rfl⟩, rfl, rfl⟩
      refine run_ok 4000 _ _ _ _ ?_
      simp (maxSteps := 10000000) only [go_sem, j_hasI hlt, j_hasS hlt, j_rint hlt, j_rstr hlt, hin, jrows_all, ivi_all, iv_len, Int.natCast_nonneg, inc64 (show i < 1000000000000 by omega)]
      have hone : [[AV.int .i64 L[i].1, AV.str L[i].2]] = jrows [L[i]] := rfl
      rw [hone, jrows_app]
      refine ⟨by unfold small; omega, i + 1, by omega, by omega, [0, 1, 2, 6, 4], ?_⟩
      simp only [Emb, go_sem, e1, e2, List.length_append, List.length_cons, List.length_nil]
  · have hi : i = L.length := by omega
    subst hi
    rw [List.take_length]
    generalize leftR nx b L = K at *
    generalize toldR nx b L = T at *
    skip
    refine run_ok 4000 _ _ _ _ ?_
    simp (maxSteps := 10000000) only [go_sem]
    refine ⟨_, _, .fz 3 rfl (by simp only [go_sem, jrows_len, Nat.le_refl]) (.fz 4 rfl (by simp only [go_sem, iv_len, Nat.le_refl]) (.sub [] ?_ .done)), rfl, rfl⟩
    simp only [EmbV, go_sem, refO, jrows_all, ivi_all]
theorem rack_no (n : Int) (L : Ent) (nx : Int) (b : Nat) (hn : nx > n) :
    Tri Try.prog 38 [refO n L, .int .i64 nx, .int .u32 (b : Nat)] [] (fun v m => v = .tup [refO n L, .nilsl] ∧ m = []) := by
  refine Tri.post ?_
  skip
  refine (Tri.enter (rl := r38) (code := c38) (by kernel_rfl) Try.func38 rfl c38_ok (by kernel_rfl) (by kernel_rfl) ?_)
  refine run_ok 4000 _ _ _ _ ?_
  simp (maxSteps := 10000000) only [go_sem, c38, r38, refO, hn]
  refine ⟨_, _, .sub [] ?_ .done, rfl, rfl⟩
  simp only [EmbV, go_sem, refO]
end Go.AEX

/- Window: what is sent, in plain words. -/
namespace Go.AEX
open Go Go.AE Go.Proofs
set_option maxRecDepth 100000
set_option linter.unusedVariables false
set_option linter.unusedSimpArgs false

theorem shr_u32n (b k : Nat) (hk : k ≤ 31) : ishr .u32 (b : Int) (k : Int) = ((b / 2 ^ k : Nat) : Int) := by
  show (b : Int).fdiv (2 ^ min (Int.toNat (k : Int)) 32) = _
  rw [Int.toNat_natCast, Nat.min_eq_left (by omega), Int.fdiv_eq_ediv_of_nonneg _ (by exact_mod_cast Nat.zero_le _)]
  norm_cast
theorem and1_u32 (n : Nat) (h : n < 4294967296) : ibits .and .u32 (n : Int) 1 = ((n % 2 : Nat) : Int) := by
  show iwrap .u32 ((BitVec.ofInt 32 (n : Int) &&& BitVec.ofInt 32 ((1 : Nat) : Int)).toNat : Int) = _
  rw [BitVec.ofInt_natCast, BitVec.ofInt_natCast, BitVec.toNat_and, BitVec.toNat_ofNat, BitVec.toNat_ofNat, Nat.mod_eq_of_lt (show n < 2 ^ 32 by omega), Nat.mod_eq_of_lt (show 1 < 2 ^ 32 by omega), Nat.and_one_is_mod, iwrap_u32]
  omega
theorem has_map (F nx n : Int) (b : Nat) (hb : b < 4294967296) (h1 : n - nx < 1000000) (h2 : nx - n < 1000000) : hasW (kap F nx) (b : Int) (kap F n) = hasR nx b n := by
  have hd : iwrap .u32 (kap F n - kap F nx) = (n - nx) % 4294967296 := by rw [kap_eq, kap_eq, iwrap_u32]; omega
  unfold hasW hasR
  simp only [u32, hd]
  by_cases c0 : n < nx
  · rw [if_pos c0]
    have : (n - nx) % 4294967296 ≥ 2147483648 := by omega
    simp [this]
  rw [if_neg c0]
  have c1 : ¬ (n - nx) % 4294967296 ≥ 2147483648 := by omega
  by_cases c2 : n - nx - 1 < 0 ∨ n - nx - 1 > 31
  · rw [if_pos c2]
    rcases c2 with c2 | c2
    · have d1 : ¬ (n - nx) % 4294967296 ≥ 1 := by omega
      simp only [c1, d1, decide_false, Bool.false_or, Bool.false_and]
    · have d2 : ¬ (n - nx) % 4294967296 ≤ 32 := by omega
      simp only [c1, d2, decide_false, Bool.false_or, Bool.false_and, Bool.and_false]
  · rw [if_neg c2]
    obtain ⟨k, hk⟩ : ∃ k : Nat, n - nx - 1 = (k : Int) := ⟨(n - nx - 1).toNat, by omega⟩
    have hkn : (n - nx - 1).toNat = k := by omega
    have hw : iwrap .u32 ((n - nx) % 4294967296 - 1) = (k : Int) := by rw [iwrap_u32]; omega
    have hle : b / 2 ^ k ≤ b := Nat.div_le_self _ _
    have hs := shr_u32n b k (by omega)
    have ha := and1_u32 (b / 2 ^ k) (by omega)
    rw [hkn]
    have d1 : (n - nx) % 4294967296 ≥ 1 := by omega
    have d2 : (n - nx) % 4294967296 ≤ 32 := by omega
    rw [hw, hs, ha]
    simp only [c1, d1, d2, decide_false, decide_true, Bool.false_or, Bool.true_and]
    generalize b / 2 ^ k = q at *
    rw [Bool.eq_iff_iff]; simp; omega
theorem told_map (F nx : Int) (b : Nat) (hb : b < 4294967296) : ∀ {L : Ent}, (∀ p ∈ L, p.1 - nx < 1000000 ∧ nx - p.1 < 1000000) → toldW (kap F nx) b (mapK F L) = (toldR nx b L).map (kap F) ∧ leftW (kap F nx) b (mapK F L) = mapK F (leftR nx b L)
  | [], _ => ⟨rfl, rfl⟩
  | p :: L, h => by
    obtain ⟨i1, i2⟩ := told_map F nx b hb (L := L) (fun q hq => h q (by simp [hq]))
    have hp := h p (by simp)
    have hh := has_map F nx p.1 b hb hp.1 hp.2
    unfold toldW leftW toldR leftR mapK at *
    simp only [List.map_cons, List.filter_cons, hh]
    cases hasR nx b p.1 with
    | true => simp only [if_true, Bool.not_true, Bool.false_eq_true, if_false, List.map_cons, i1, i2, and_self]
    | false => simp only [Bool.not_false, if_true, Bool.false_eq_true, if_false, List.map_cons, i1, i2, and_self]
/-- What stands between two calls. -/
structure OOk (i : Nat) (N : Int) (L : Ent) : Prop where
  lo : 1000 ≤ N
  hi : N ≤ 1000 + i
  sorted : L.Pairwise (fun a b => a.1 < b.1)
  near : ∀ p ∈ L, N - 32 ≤ p.1 ∧ p.1 < N
  low : ∀ p ∈ L, 1000 ≤ p.1
theorem OOk.len {i : Nat} {N : Int} {L : Ent} (h : OOk i N L) : L.length ≤ 32 := by
  have hnd : (L.map (·.1)).Nodup := by
    rw [List.nodup_iff_pairwise_ne, List.pairwise_map]
    exact h.sorted.imp fun hab => by omega
  have := pigeon 32 (L.map (·.1)) (N - 33) hnd (fun x hx => by
    obtain ⟨p, hp, rfl⟩ := List.mem_map.1 hx
    have := h.near p hp
    omega)
  rwa [List.length_map] at this
theorem OOk.more {i : Nat} {N : Int} {L : Ent} (h : OOk i N L) : OOk (i + 1) N L := ⟨h.lo, by have := h.hi; omega, h.sorted, h.near, h.low⟩
theorem OOk.push {i : Nat} {N : Int} {L : Ent} (h : OOk i N L) (s : List UInt8) (hr : ∀ p ∈ L, N - p.1 < 32) : OOk (i + 1) (N + 1) (L ++ [(N, s)]) where
  lo := by have := h.lo; omega
  hi := by have := h.hi; omega
  sorted := by
    rw [List.pairwise_append]
    refine ⟨h.sorted, by simp, fun a ha b hb => ?_⟩
    simp at hb; subst hb
    exact (h.near a ha).2
  near := fun p hp => by
    rcases List.mem_append.1 hp with hp | hp
    · have := h.near p hp; have := hr p hp; omega
    · simp at hp; subst hp; simp only; omega
  low := fun p hp => by
    rcases List.mem_append.1 hp with hp | hp
    · exact h.low p hp
    · simp at hp; subst hp; exact h.lo
theorem OOk.sub {i : Nat} {N : Int} {L : Ent} (h : OOk i N L) (nx : Int) (b : Nat) : OOk (i + 1) N (leftR nx b L) where
  lo := h.lo
  hi := by have := h.hi; omega
  sorted := h.sorted.filter _
  near := fun p hp => h.near p (List.mem_filter.1 hp).1
  low := fun p hp => h.low p (List.mem_filter.1 hp).1
/-- The first one is the oldest. -/
theorem OOk.first {i : Nat} {N : Int} {p : Int × List UInt8} {L : Ent} (h : OOk i N (p :: L)) : ∀ q ∈ p :: L, p.1 ≤ q.1 := fun q hq => by
  rcases List.mem_cons.1 hq with rfl | hq
  · exact Int.le_refl _
  · have := (List.pairwise_cons.1 h.sorted).1 q hq; omega
theorem room_map (F : Int) {i : Nat} {N : Int} {p : Int × List UInt8} {L : Ent} (h : OOk i N (p :: L)) : roomW (kap F N) (mapK F (p :: L)) = decide (N - p.1 < 32) := by
  have hn := h.near p (by simp)
  have : iwrap .u32 (kap F N - kap F p.1) = N - p.1 := by rw [kap_eq, kap_eq, iwrap_u32]; omega
  show decide (iwrap .u32 (kap F N - kap F p.1) < 32) = _
  simp only [this]
end Go.AEX

/- Window: any calls of what is sent (WindowOut), the law's evaluation. -/
namespace Go.AEX
open Go Go.AE Go.Proofs
set_option maxRecDepth 100000
set_option linter.unusedVariables false
set_option linter.unusedSimpArgs false

theorem sem_tail {P : Program} {n k0 : Nat} {α : Type} (J : α → Prop) (sl : α → List (Nat × AV)) (mm : α → Mem) {k : List C} {Q : Exit → Tr → Mem → Prop} {S : Prop} (h : (∀ x, J x → SemW P n k0 k (mkP (sl x)) (mm x) Q) → S)
    (ht : ∀ x, J x → SemW P n k0 k (mkP (sl x)) (mm x) Q) : S := h ht
theorem act_rowO {x : List AV} (h : HasL [.int .i64, .int .i64, .int .u32, .str] x) : ∃ (a b : Int) (c : Nat) (s : List UInt8), x = [.int .i64 a, .int .i64 b, .int .u32 (c : Int), .str s] ∧ (Lit.int .i64 b).wf = true ∧ c < 4294967296 := by
  simp only [HasL, Has] at h
  obtain ⟨_, _, rfl, ⟨k, rfl, _⟩, _, _, rfl, ⟨b, rfl, hb⟩, _, _, rfl, ⟨c, rfl, hc⟩, _, _, rfl, ⟨s, rfl, _⟩, rfl⟩ := h
  have : 0 ≤ c ∧ c < 4294967296 := by simp [Lit.wf, IntKind.min, IntKind.max, IntKind.bits, IntKind.signed] at hc; omega
  refine ⟨k, b, c.toNat, s, ?_, hb, by omega⟩
  rw [Int.toNat_of_nonneg this.1]
theorem mapK_len (F : Int) (L : Ent) : (mapK F L).length = L.length := by simp [mapK]
set_option maxHeartbeats 4000000 in
theorem windowOut_spec (F : Int) (hF : (Lit.int .u32 F).wf = true) (l : AV) (hl : Has (.sl [.int .i64, .int .i64, .int .u32, .str]) l) :
    Tri Try.prog 11 [.int .u32 F, l] [] (fun v m => v = .bool true) := by
  simp only [Has] at hl
  obtain ⟨xs, rfl, hxl, hx⟩ := hl
  simp only [List.length_cons, List.length_nil]
  refine (Tri.asB (Tri.enter (rl := r11) (code := c11) (by kernel_rfl) Try.func11 rfl c11_ok (by kernel_rfl) (by kernel_rfl) ?_))
  refine run_ok 4000 _ _ _ _ ?_
  simp (maxSteps := 10000000) only [go_sem, c11, r11]
  refine sem_call rfl rfl (((awake13_spec).embed [] rfl trivial rfl rfl rfl (by simp)).mono ?_)
  rintro _ _ ⟨_, _, ⟨rfl, rfl⟩, rfl, rfl⟩
  refine run_ok 4000 _ _ _ _ ?_
  simp (maxSteps := 10000000) only [go_sem]
  refine sem_call rfl rfl (((begin_spec F).embed [] rfl trivial rfl rfl rfl (by simp)).mono ?_)
  rintro _ _ ⟨_, _, ⟨rfl, rfl⟩, rfl, rfl⟩
  refine run_ok 4000 _ _ _ _ ?_
  simp (maxSteps := 10000000) only [go_sem]
  refine sem_nilbox 0 1 2 rfl rfl ?_
  refine sem_likebox 1 1 (.vsl 2 (jrows []) false) rfl rfl (Like.nilv 2 false) ?_
  refine sem_rounds (fun x : Nat × Int × Ent => x.1 ≤ 120 ∧ OOk x.1 x.2.1 x.2.2)
    (fun x => [(0, .int .u32 F), (1, .vsl 4 xs false), (5, .pbox 0 0), (6, .pbox 2 0), (7, .int .i64 (x.1 : Nat))])
    (fun x => [.box [.int .u32 (kap F x.2.1), .sl 1 0 x.2.2.length x.2.2.length false], .row 2 (irows (mapK F x.2.2)), .box [.int .i64 x.2.1, .vsl 2 (jrows x.2.2) false]]) (fun x => 120 - x.1) (0, 1000, []) [0, 2, 1] ⟨by simp, ⟨by simp, by simp, by simp, by simp, by simp⟩⟩ ?_ ?_
  · have hk : kap F 1000 = F := by
      have : 0 ≤ F ∧ F < 4294967296 := by simp [Lit.wf, IntKind.min, IntKind.max, IntKind.bits, IntKind.signed] at hF; omega
      rw [kap_eq]; omega
    simp only [Emb, go_sem, hk, mapK, List.map_nil, irows]
  rintro ⟨i, N, L⟩ ⟨h1, hk0⟩
  simp only at h1 hk0
  have hlen := hk0.len; have hlo := hk0.lo; have hhi := hk0.hi
  refine run_ok 4000 _ _ _ _ ?_
  simp (maxSteps := 10000000) only [go_sem]
  refine ⟨fun hlt => ⟨fun h8 => ?_, fun h8 => ?_⟩, fun hge => ?_⟩
  · have hlt : i < xs.length := by omega
    have hin : (i : Int) < (xs.length : Int) := by omega
    obtain ⟨a, b, c, s, hrow, hb, hc⟩ := act_rowO (hx _ (List.getElem_mem hlt))
    have hg : xs[i]? = some [.int .i64 a, .int .i64 b, .int .u32 (c : Int), .str s] := by rw [List.getElem?_eq_getElem hlt, hrow]
    have e0 : rint xs i 0 = a := by simp [rint, List.getD_eq_getElem?_getD, hg]
    have e1 : rint xs i 1 = b := by simp [rint, List.getD_eq_getElem?_getD, hg]
    have e2 : rint xs i 2 = (c : Int) := by simp [rint, List.getD_eq_getElem?_getD, hg]
    have e3 : rstr xs i 3 = s := by simp [rstr, List.getD_eq_getElem?_getD, hg]
    have i0 : hasI .i64 xs i 0 := ⟨_, a, hg, rfl⟩
    have i1 : hasI .i64 xs i 1 := ⟨_, b, hg, rfl⟩
    have i2 : hasI .u32 xs i 2 := ⟨_, (c : Int), hg, rfl⟩
    have i3 : hasS xs i 3 := ⟨_, s, hg, rfl⟩
    apply sem_tail (fun x : Int × Ent => OOk (i + 1) x.1 x.2)
      (fun x => [(0, .int .u32 F), (1, .vsl 4 xs false), (5, .pbox 0 0), (6, .pbox 2 0), (7, .int .i64 (i : Nat)), (152, .pbox 0 0)])
      (fun x => [.box [.int .u32 (kap F x.1), .sl 1 0 x.2.length x.2.length false], .row 2 (irows (mapK F x.2)), .box [.int .i64 x.1, .vsl 2 (jrows x.2) false]])
    · intro hT
      by_cases kk : a = 1
      · rw [kk] at e0
        have hps := push_spec (kap F N) (mapK F L) (s.take 6) (by rw [kap_eq]; unfold U32; omega) (by rw [mapK_len]; omega)
        have hkn : u32 (kap F N + 1) = kap F (N + 1) := (kap_next F N).symm
        have hmp : mapK F L ++ [(kap F N, s.take 6)] = mapK F (L ++ [(N, s.take 6)]) := by simp [mapK]
        have w1 : iwrap .i64 (N - 1000) = N - 1000 := iwrap_i64_in (by omega)
        have hkN : iwrap .u32 (F + iwrap .u32 (N - 1000)) = kap F N := rfl
        have s2 : (kap F N != kap F N) = false := by simp
        unfold outW outW2 pushW at hps
        by_cases hroom : ∀ p ∈ L, N - p.1 < 32
        · have hk1 := hk0.push (s.take 6) hroom
          have hrw : roomW (kap F N) (mapK F L) = true ∧ Tri Try.prog 37 [refO N L, .str (s.take 6)] [] (fun v m => v = .tup [refO (N + 1) (L ++ [(N, s.take 6)]), .bool true] ∧ m = []) := by
            cases L with
            | nil => exact ⟨rfl, rpush_nil N (s.take 6) ⟨by omega, by omega⟩⟩
            | cons p L =>
              have hp := hroom p (by simp)
              have hpn := hk0.near p (by simp); have hpl := hk0.low p (by simp)
              have hll : L.length ≤ 1000 := by have := hk0.len; simp at this; omega
              exact ⟨by rw [room_map F hk0]; simp only [hp, decide_true], rpush_spec N p L (s.take 6) ⟨by omega, by omega⟩ hll ⟨by omega, by omega⟩ hp⟩
          obtain ⟨hr1, hr2⟩ := hrw
          rw [hr1] at hps
          simp only [if_true, hmp, hkn, mapK_len] at hps
          unfold refO at hr2
          skip
          simp (maxSteps := 10000000) only [go_sem, hin, e0, e1, e2, e3, i0, i1, i2, i3, w1, hkN, s2, Int.natCast_nonneg]
          refine sem_call rfl rfl (((cut_spec s 6 (by decide)).embed [] rfl trivial rfl rfl rfl (by simp)).mono ?_)
          rintro _ _ ⟨_, _, ⟨rfl, rfl⟩, rfl, rfl⟩
          refine run_ok 4000 _ _ _ _ ?_
          simp (maxSteps := 10000000) only [go_sem, hin, e0, e1, e2, e3, i0, i1, i2, i3, w1, hkN, s2, Int.natCast_nonneg]
          refine sem_call rfl rfl (((hps).embed [0, 1] rfl (by repeat' first | exact trivial | rfl | (simp only [go_sem]; done) | constructor) rfl (by first | rfl | simp only [go_sem]) rfl (by simp)).mono ?_)
          rintro _ _ ⟨_, _, ⟨rfl, rfl⟩, rfl, rfl⟩
          refine run_ok 4000 _ _ _ _ ?_
          simp (maxSteps := 10000000) only [go_sem, hin, e0, e1, e2, e3, i0, i1, i2, i3, w1, hkN, s2, Int.natCast_nonneg]
          refine sem_call rfl rfl (((hr2).embed [] rfl trivial rfl rfl rfl (by simp)).mono ?_)
          rintro _ _ ⟨_, _, ⟨rfl, rfl⟩, rfl, rfl⟩
          refine run_ok 4000 _ _ _ _ ?_
          simp (maxSteps := 10000000) only [go_sem, hin, e0, e1, e2, e3, i0, i1, i2, i3, w1, hkN, s2, Int.natCast_nonneg]
          refine sem_sub (sl := [(0, .int .u32 F), (1, .vsl 4 xs false), (5, .pbox 0 0), (6, .pbox 2 0), (7, .int .i64 (i : Nat)), (152, .pbox 0 0)])
            (m2 := [.box [.int .u32 (kap F (N + 1)), .sl 1 0 (L ++ [(N, s.take 6)]).length (L ++ [(N, s.take 6)]).length false], .row 2 (irows (mapK F (L ++ [(N, s.take 6)]))), .box [.int .i64 (N + 1), .vsl 2 (jrows (L ++ [(N, s.take 6)])) false]]) [0, 4, 2] ?_ ?_
          · simp only [Emb, go_sem, mapK_len]
          exact hT ((N + 1), (L ++ [(N, s.take 6)])) (hk1)
        · have hrw : roomW (kap F N) (mapK F L) = false ∧ Tri Try.prog 37 [refO N L, .str (s.take 6)] [] (fun v m => v = .tup [refO N L, .bool false] ∧ m = []) := by
            cases L with
            | nil => exact absurd (by simp) hroom
            | cons p L =>
              have hp : 32 ≤ N - p.1 := by
                by_cases h : 32 ≤ N - p.1
                · exact h
                · exact absurd (fun q hq => by have := hk0.first q hq; omega) hroom
              have hpn := hk0.near p (by simp); have hpl := hk0.low p (by simp)
              have hll : L.length ≤ 1000 := by have := hk0.len; simp at this; omega
              have hp2 : ¬ N - p.1 < 32 := by omega
              exact ⟨by rw [room_map F hk0]; simp only [hp2, decide_false], rpush_full N p L (s.take 6) ⟨by omega, by omega⟩ hll ⟨by omega, by omega⟩ hp⟩
          obtain ⟨hr1, hr2⟩ := hrw
          rw [hr1] at hps
          simp only [Bool.false_eq_true, if_false, mapK_len] at hps
          unfold refO at hr2
          skip
          simp (maxSteps := 10000000) only [go_sem, hin, e0, e1, e2, e3, i0, i1, i2, i3, w1, hkN, s2, Int.natCast_nonneg]
          refine sem_call rfl rfl (((cut_spec s 6 (by decide)).embed [] rfl trivial rfl rfl rfl (by simp)).mono ?_)
          rintro _ _ ⟨_, _, ⟨rfl, rfl⟩, rfl, rfl⟩
          refine run_ok 4000 _ _ _ _ ?_
          simp (maxSteps := 10000000) only [go_sem, hin, e0, e1, e2, e3, i0, i1, i2, i3, w1, hkN, s2, Int.natCast_nonneg]
          refine sem_call rfl rfl (((hps).embed [0, 1] rfl (by repeat' first | exact trivial | rfl | (simp only [go_sem]; done) | constructor) rfl (by first | rfl | simp only [go_sem]) rfl (by simp)).mono ?_)
          rintro _ _ ⟨_, _, ⟨rfl, rfl⟩, rfl, rfl⟩
          refine run_ok 4000 _ _ _ _ ?_
          simp (maxSteps := 10000000) only [go_sem, hin, e0, e1, e2, e3, i0, i1, i2, i3, w1, hkN, s2, Int.natCast_nonneg]
          refine sem_call rfl rfl (((hr2).embed [] rfl trivial rfl rfl rfl (by simp)).mono ?_)
          rintro _ _ ⟨_, _, ⟨rfl, rfl⟩, rfl, rfl⟩
          refine run_ok 4000 _ _ _ _ ?_
          simp (maxSteps := 10000000) only [go_sem, hin, e0, e1, e2, e3, i0, i1, i2, i3, w1, hkN, s2, Int.natCast_nonneg]
          refine sem_sub (sl := [(0, .int .u32 F), (1, .vsl 4 xs false), (5, .pbox 0 0), (6, .pbox 2 0), (7, .int .i64 (i : Nat)), (152, .pbox 0 0)])
            (m2 := [.box [.int .u32 (kap F (N)), .sl 1 0 (L).length (L).length false], .row 2 (irows (mapK F (L))), .box [.int .i64 (N), .vsl 2 (jrows (L)) false]]) [0, 4, 2] ?_ ?_
          · simp only [Emb, go_sem, mapK_len]
          exact hT ((N), (L)) (hk0.more)
      by_cases kk : a = 2
      · rw [kk] at e0
        by_cases hL0 : L.length = 0
        · have f0 : ¬ (L.length : Int) > 0 := by omega
          obtain ⟨B, hB, hB2⟩ := and_i64 b (k := 127) (by decide)
          have hB : ibits .and .i64 b 127 = (B : Int) := hB
          have w1 : iwrap .i64 ((B : Int) - 40) = (B : Int) - 40 := iwrap_i64_in (by omega)
          obtain ⟨X, hX⟩ : ∃ X, X = N + ((B : Int) - 40) := ⟨_, rfl⟩
          have w2 : iwrap .i64 (N + ((B : Int) - 40)) = X := by rw [hX]; exact iwrap_i64_in (by omega)
          have hx1 : -1000 ≤ X ∧ X ≤ 1000000 := by omega
          have hx2 : X - N < 100000 ∧ N - X < 100000 := by omega
          have w3 : iwrap .i64 (X - 1000) = X - 1000 := iwrap_i64_in (by omega)
          have hkX : iwrap .u32 (F + iwrap .u32 (X - 1000)) = kap F X := rfl
          have hd : u32 (kap F N - kap F X) = (N - X) % 4294967296 := by unfold u32; rw [kap_eq, kap_eq, iwrap_u32]; omega
          by_cases hXN : X > N
          · have ho := oack_no (kap F N) (mapK F L) (kap F X) (c : Int) (by rw [mapK_len]; omega) (by rw [hd]; omega)
            have hr := rack_no N L X c hXN
            unfold outW outW2 at ho
            unfold refO at hr
            rw [mapK_len] at ho
            skip
            simp (maxSteps := 10000000) only [go_sem, hin, e0, e1, e2, e3, i0, i1, i2, i3, hB, w1, w2, w3, hkX, iv_len, jrows_len, Int.natCast_nonneg, f0]
            refine sem_call rfl rfl (((cut_spec s 6 (by decide)).embed [] rfl trivial rfl rfl rfl (by simp)).mono ?_)
            rintro _ _ ⟨_, _, ⟨rfl, rfl⟩, rfl, rfl⟩
            refine run_ok 4000 _ _ _ _ ?_
            simp (maxSteps := 10000000) only [go_sem, hin, e0, e1, e2, e3, i0, i1, i2, i3, hB, w1, w2, w3, hkX, iv_len, jrows_len, Int.natCast_nonneg, f0]
            refine sem_call rfl rfl (((ho).embed [0, 1] rfl (by repeat' first | exact trivial | rfl | (simp only [go_sem]; done) | constructor) rfl (by first | rfl | simp only [go_sem]) rfl (by simp)).mono ?_)
            rintro _ _ ⟨_, _, ⟨rfl, rfl⟩, rfl, rfl⟩
            refine run_ok 4000 _ _ _ _ ?_
            simp (maxSteps := 10000000) only [go_sem, hin, e0, e1, e2, e3, i0, i1, i2, i3, hB, w1, w2, w3, hkX, iv_len, jrows_len, Int.natCast_nonneg, f0]
            refine sem_call rfl rfl (((hr).embed [] rfl trivial rfl rfl rfl (by simp)).mono ?_)
            rintro _ _ ⟨_, _, ⟨rfl, rfl⟩, rfl, rfl⟩
            refine run_ok 4000 _ _ _ _ ?_
            simp (maxSteps := 10000000) only [go_sem, hin, e0, e1, e2, e3, i0, i1, i2, i3, hB, w1, w2, w3, hkX, iv_len, jrows_len, Int.natCast_nonneg, f0]
            refine sem_like 17 (.vsl 1 (iv .i64 []) false) rfl (Like.nilv 1 false) ?_
            refine sem_rounds (fun j : Nat => j = 0) (fun j => [(0, .int .u32 F), (1, .vsl 4 xs false), (5, .pbox 0 0), (6, .pbox 2 0), (7, .int .i64 (i : Nat)), (134, .int .i64 0), (135, .int .i64 (j : Nat))])
              (fun j => [.box [.int .u32 (kap F N), .sl 1 0 L.length L.length false], .row 2 (irows (mapK F L)), .box [.int .i64 N, .vsl 2 (jrows L) false]]) (fun j => j) 0 [0, 4, 2] rfl ?_ ?_
            · simp only [Emb, go_sem, mapK_len]
            rintro j rfl
            have z0 : ¬ ((0 : Nat) : Int) < 0 := by omega
            skip
            refine run_ok 4000 _ _ _ _ ?_
            simp (maxSteps := 10000000) only [go_sem, z0]
            refine run_ok 4000 _ _ _ _ ?_
            simp (maxSteps := 10000000) only [go_sem, z0]
            refine sem_sub (sl := [(0, .int .u32 F), (1, .vsl 4 xs false), (5, .pbox 0 0), (6, .pbox 2 0), (7, .int .i64 (i : Nat)), (152, .pbox 0 0)])
              (m2 := [.box [.int .u32 (kap F (N)), .sl 1 0 (L).length (L).length false], .row 2 (irows (mapK F (L))), .box [.int .i64 (N), .vsl 2 (jrows (L)) false]]) [0, 1, 2] ?_ ?_
            · simp only [Emb, go_sem, mapK_len]
            exact hT ((N), (L)) (hk0.more)
          · have hnear : ∀ p ∈ L, p.1 - X < 1000000 ∧ X - p.1 < 1000000 := fun p hp => by have := hk0.near p hp; omega
            obtain ⟨m1, m2⟩ := told_map F X c hc hnear
            have ho := oack_spec (kap F N) (mapK F L) (kap F X) (c : Int) (by rw [mapK_len]; omega) (by rw [hd]; omega)
            have hr := rack_spec N L X c (by omega) hc hx1 (fun p hp => by have := hk0.near p hp; have := hk0.low p hp; omega) hXN
            have hk1 := hk0.sub X c
            have hTb : ∀ t ∈ toldR X c L, 1000 ≤ t ∧ t ≤ 100000 := fun t ht => by
              obtain ⟨p, hp, rfl⟩ := List.mem_map.1 ht
              have hp := (List.mem_filter.1 hp).1
              have := hk0.near p hp; have := hk0.low p hp; omega
            rw [m1, m2] at ho
            unfold outW outW2 at ho
            unfold refO at hr
            have hTl : (toldR X c L).length ≤ 1000 := by unfold toldR; rw [List.length_map]; have := List.length_filter_le (fun x : Int × List UInt8 => hasR X c x.1) L; omega
            generalize toldR X c L = T at *
            generalize leftR X c L = K at *
            rw [mapK_len, mapK_len] at ho
            have s1 : ((T.length : Int) != (T.length : Int)) = false := by simp
            skip
            simp (maxSteps := 10000000) only [go_sem, hin, e0, e1, e2, e3, i0, i1, i2, i3, hB, w1, w2, w3, hkX, iv_len, jrows_len, List.length_map, s1, Int.natCast_nonneg, f0]
            refine sem_call rfl rfl (((cut_spec s 6 (by decide)).embed [] rfl trivial rfl rfl rfl (by simp)).mono ?_)
            rintro _ _ ⟨_, _, ⟨rfl, rfl⟩, rfl, rfl⟩
            refine run_ok 4000 _ _ _ _ ?_
            simp (maxSteps := 10000000) only [go_sem, hin, e0, e1, e2, e3, i0, i1, i2, i3, hB, w1, w2, w3, hkX, iv_len, jrows_len, List.length_map, s1, Int.natCast_nonneg, f0]
            refine sem_call rfl rfl (((ho).embed [0, 1] rfl (by repeat' first | exact trivial | rfl | (simp only [go_sem]; done) | constructor) rfl (by first | rfl | simp only [go_sem]) rfl (by simp)).mono ?_)
            rintro _ _ ⟨_, _, ⟨rfl, rfl⟩, rfl, rfl⟩
            refine run_ok 4000 _ _ _ _ ?_
            simp (maxSteps := 10000000) only [go_sem, hin, e0, e1, e2, e3, i0, i1, i2, i3, hB, w1, w2, w3, hkX, iv_len, jrows_len, List.length_map, s1, Int.natCast_nonneg, f0]
            refine sem_call rfl rfl (((hr).embed [] rfl trivial rfl rfl rfl (by simp)).mono ?_)
            rintro _ _ ⟨_, _, ⟨rfl, rfl⟩, rfl, rfl⟩
            refine run_ok 4000 _ _ _ _ ?_
            simp (maxSteps := 10000000) only [go_sem, hin, e0, e1, e2, e3, i0, i1, i2, i3, hB, w1, w2, w3, hkX, iv_len, jrows_len, List.length_map, s1, Int.natCast_nonneg, f0]
            refine sem_rounds (fun j : Nat => j ≤ T.length) (fun j => [(0, .int .u32 F), (1, .vsl 4 xs false), (5, .pbox 0 0), (6, .pbox 2 0), (7, .int .i64 (i : Nat)), (15, .vsl 1 (uv (T.map (kap F))) false), (17, .vsl 1 (iv .i64 T) false), (134, .int .i64 T.length), (135, .int .i64 (j : Nat))])
              (fun j => [.box [.int .u32 (kap F N), .sl 1 0 K.length K.length false], .row 2 (irows (mapK F K)), .box [.int .i64 N, .vsl 2 (jrows K) false]]) (fun j => T.length - j) 0 [0, 4, 2] (Nat.zero_le _) ?_ ?_
            · simp only [Emb, go_sem, mapK_len]
            intro j hj
            skip
            refine run_ok 4000 _ _ _ _ ?_
            simp (maxSteps := 10000000) only [go_sem]
            refine ⟨fun hlt => ?_, fun hge => ?_⟩
            · have hlt : j < T.length := by omega
              have hltm : j < (T.map (kap F)).length := by rw [List.length_map]; exact hlt
              have hin : (j : Int) < (T.length : Int) := by omega
              have hb := hTb _ (List.getElem_mem hlt)
              have w4 : iwrap .i64 (T[j] - 1000) = T[j] - 1000 := iwrap_i64_in (by omega)
              have hkj : iwrap .u32 (F + iwrap .u32 (T[j] - 1000)) = kap F T[j] := rfl
              have s4 : (kap F T[j] != kap F T[j]) = false := by simp
              have r0 := iv_rint (k := .u32) hltm
              rw [List.getElem_map] at r0
              skip
              simp (maxSteps := 10000000) only [go_sem, iv_hasI hltm, r0, iv_hasI hlt, iv_rint hlt, hin, iv_len, List.length_map, w4, hkj, s4, Int.natCast_nonneg, inc64 (show j < 1000000000000 by omega)]
              refine sem_drawG l11_0_ok (by kernel_rfl) ?_
              intro KK hKK
              simp (maxSteps := 10000000) only [go_sem, l11_0, iv_hasI hltm, r0, iv_hasI hlt, iv_rint hlt, hin, iv_len, List.length_map, w4, hkj, s4, Int.natCast_nonneg, inc64 (show j < 1000000000000 by omega)]
              subst hKK
              simp (maxSteps := 10000000) only [go_sem, iv_hasI hltm, r0, iv_hasI hlt, iv_rint hlt, hin, iv_len, List.length_map, w4, hkj, s4, Int.natCast_nonneg, inc64 (show j < 1000000000000 by omega)]
              refine ⟨j + 1, by omega, by omega, [0, 1, 2], ?_⟩
              simp only [Emb, go_sem]
            · skip
              refine run_ok 4000 _ _ _ _ ?_
              simp (maxSteps := 10000000) only [go_sem]
              refine sem_sub (sl := [(0, .int .u32 F), (1, .vsl 4 xs false), (5, .pbox 0 0), (6, .pbox 2 0), (7, .int .i64 (i : Nat)), (152, .pbox 0 0)])
                (m2 := [.box [.int .u32 (kap F (N)), .sl 1 0 (K).length (K).length false], .row 2 (irows (mapK F (K))), .box [.int .i64 (N), .vsl 2 (jrows (K)) false]]) [0, 1, 2] ?_ ?_
              · simp only [Emb, go_sem, mapK_len]
              exact hT ((N), (K)) (hk1)
        · have hL0 : 0 < L.length := by omega
          have f0 : (L.length : Int) > 0 := by omega
          have f1 : (0 : Int) < (L.length : Int) := by omega
          have hA1 := hk0.near _ (List.getElem_mem hL0)
          have hA2 := hk0.low _ (List.getElem_mem hL0)
          have r0 := j_rint hL0
          generalize L[0].1 = A at *
          obtain ⟨B, hB, hB2⟩ := and_i64 b (k := 127) (by decide)
          have hB : ibits .and .i64 b 127 = (B : Int) := hB
          have w1 : iwrap .i64 ((B : Int) - 40) = (B : Int) - 40 := iwrap_i64_in (by omega)
          obtain ⟨X, hX⟩ : ∃ X, X = A + ((B : Int) - 40) := ⟨_, rfl⟩
          have w2 : iwrap .i64 (A + ((B : Int) - 40)) = X := by rw [hX]; exact iwrap_i64_in (by omega)
          have hx1 : -1000 ≤ X ∧ X ≤ 1000000 := by omega
          have hx2 : X - N < 100000 ∧ N - X < 100000 := by omega
          have w3 : iwrap .i64 (X - 1000) = X - 1000 := iwrap_i64_in (by omega)
          have hkX : iwrap .u32 (F + iwrap .u32 (X - 1000)) = kap F X := rfl
          have hd : u32 (kap F N - kap F X) = (N - X) % 4294967296 := by unfold u32; rw [kap_eq, kap_eq, iwrap_u32]; omega
          by_cases hXN : X > N
          · have ho := oack_no (kap F N) (mapK F L) (kap F X) (c : Int) (by rw [mapK_len]; omega) (by rw [hd]; omega)
            have hr := rack_no N L X c hXN
            unfold outW outW2 at ho
            unfold refO at hr
            rw [mapK_len] at ho
            skip
            simp (maxSteps := 10000000) only [go_sem, hin, e0, e1, e2, e3, i0, i1, i2, i3, hB, w1, w2, w3, hkX, iv_len, jrows_len, Int.natCast_nonneg, f0, f1, r0, j_hasI hL0]
            refine sem_call rfl rfl (((cut_spec s 6 (by decide)).embed [] rfl trivial rfl rfl rfl (by simp)).mono ?_)
            rintro _ _ ⟨_, _, ⟨rfl, rfl⟩, rfl, rfl⟩
            refine run_ok 4000 _ _ _ _ ?_
            simp (maxSteps := 10000000) only [go_sem, hin, e0, e1, e2, e3, i0, i1, i2, i3, hB, w1, w2, w3, hkX, iv_len, jrows_len, Int.natCast_nonneg, f0, f1, r0, j_hasI hL0]
            refine sem_call rfl rfl (((ho).embed [0, 1] rfl (by repeat' first | exact trivial | rfl | (simp only [go_sem]; done) | constructor) rfl (by first | rfl | simp only [go_sem]) rfl (by simp)).mono ?_)
            rintro _ _ ⟨_, _, ⟨rfl, rfl⟩, rfl, rfl⟩
            refine run_ok 4000 _ _ _ _ ?_
            simp (maxSteps := 10000000) only [go_sem, hin, e0, e1, e2, e3, i0, i1, i2, i3, hB, w1, w2, w3, hkX, iv_len, jrows_len, Int.natCast_nonneg, f0, f1, r0, j_hasI hL0]
            refine sem_call rfl rfl (((hr).embed [] rfl trivial rfl rfl rfl (by simp)).mono ?_)
            rintro _ _ ⟨_, _, ⟨rfl, rfl⟩, rfl, rfl⟩
            refine run_ok 4000 _ _ _ _ ?_
            simp (maxSteps := 10000000) only [go_sem, hin, e0, e1, e2, e3, i0, i1, i2, i3, hB, w1, w2, w3, hkX, iv_len, jrows_len, Int.natCast_nonneg, f0, f1, r0, j_hasI hL0]
            refine sem_like 17 (.vsl 1 (iv .i64 []) false) rfl (Like.nilv 1 false) ?_
            refine sem_rounds (fun j : Nat => j = 0) (fun j => [(0, .int .u32 F), (1, .vsl 4 xs false), (5, .pbox 0 0), (6, .pbox 2 0), (7, .int .i64 (i : Nat)), (134, .int .i64 0), (135, .int .i64 (j : Nat))])
              (fun j => [.box [.int .u32 (kap F N), .sl 1 0 L.length L.length false], .row 2 (irows (mapK F L)), .box [.int .i64 N, .vsl 2 (jrows L) false]]) (fun j => j) 0 [0, 4, 2] rfl ?_ ?_
            · simp only [Emb, go_sem, mapK_len]
            rintro j rfl
            have z0 : ¬ ((0 : Nat) : Int) < 0 := by omega
            skip
            refine run_ok 4000 _ _ _ _ ?_
            simp (maxSteps := 10000000) only [go_sem, z0]
            refine run_ok 4000 _ _ _ _ ?_
            simp (maxSteps := 10000000) only [go_sem, z0]
            refine sem_sub (sl := [(0, .int .u32 F), (1, .vsl 4 xs false), (5, .pbox 0 0), (6, .pbox 2 0), (7, .int .i64 (i : Nat)), (152, .pbox 0 0)])
              (m2 := [.box [.int .u32 (kap F (N)), .sl 1 0 (L).length (L).length false], .row 2 (irows (mapK F (L))), .box [.int .i64 (N), .vsl 2 (jrows (L)) false]]) [0, 1, 2] ?_ ?_
            · simp only [Emb, go_sem, mapK_len]
            exact hT ((N), (L)) (hk0.more)
          · have hnear : ∀ p ∈ L, p.1 - X < 1000000 ∧ X - p.1 < 1000000 := fun p hp => by have := hk0.near p hp; omega
            obtain ⟨m1, m2⟩ := told_map F X c hc hnear
            have ho := oack_spec (kap F N) (mapK F L) (kap F X) (c : Int) (by rw [mapK_len]; omega) (by rw [hd]; omega)
            have hr := rack_spec N L X c (by omega) hc hx1 (fun p hp => by have := hk0.near p hp; have := hk0.low p hp; omega) hXN
            have hk1 := hk0.sub X c
            have hTb : ∀ t ∈ toldR X c L, 1000 ≤ t ∧ t ≤ 100000 := fun t ht => by
              obtain ⟨p, hp, rfl⟩ := List.mem_map.1 ht
              have hp := (List.mem_filter.1 hp).1
              have := hk0.near p hp; have := hk0.low p hp; omega
            rw [m1, m2] at ho
            unfold outW outW2 at ho
            unfold refO at hr
            have hTl : (toldR X c L).length ≤ 1000 := by unfold toldR; rw [List.length_map]; have := List.length_filter_le (fun x : Int × List UInt8 => hasR X c x.1) L; omega
            generalize toldR X c L = T at *
            generalize leftR X c L = K at *
            rw [mapK_len, mapK_len] at ho
            have s1 : ((T.length : Int) != (T.length : Int)) = false := by simp
            skip
            simp (maxSteps := 10000000) only [go_sem, hin, e0, e1, e2, e3, i0, i1, i2, i3, hB, w1, w2, w3, hkX, iv_len, jrows_len, List.length_map, s1, Int.natCast_nonneg, f0, f1, r0, j_hasI hL0]
            refine sem_call rfl rfl (((cut_spec s 6 (by decide)).embed [] rfl trivial rfl rfl rfl (by simp)).mono ?_)
            rintro _ _ ⟨_, _, ⟨rfl, rfl⟩, rfl, rfl⟩
            refine run_ok 4000 _ _ _ _ ?_
            simp (maxSteps := 10000000) only [go_sem, hin, e0, e1, e2, e3, i0, i1, i2, i3, hB, w1, w2, w3, hkX, iv_len, jrows_len, List.length_map, s1, Int.natCast_nonneg, f0, f1, r0, j_hasI hL0]
            refine sem_call rfl rfl (((ho).embed [0, 1] rfl (by repeat' first | exact trivial | rfl | (simp only [go_sem]; done) | constructor) rfl (by first | rfl | simp only [go_sem]) rfl (by simp)).mono ?_)
            rintro _ _ ⟨_, _, ⟨rfl, rfl⟩, rfl, rfl⟩
            refine run_ok 4000 _ _ _ _ ?_
            simp (maxSteps := 10000000) only [go_sem, hin, e0, e1, e2, e3, i0, i1, i2, i3, hB, w1, w2, w3, hkX, iv_len, jrows_len, List.length_map, s1, Int.natCast_nonneg, f0, f1, r0, j_hasI hL0]
            refine sem_call rfl rfl (((hr).embed [] rfl trivial rfl rfl rfl (by simp)).mono ?_)
            rintro _ _ ⟨_, _, ⟨rfl, rfl⟩, rfl, rfl⟩
            refine run_ok 4000 _ _ _ _ ?_
            simp (maxSteps := 10000000) only [go_sem, hin, e0, e1, e2, e3, i0, i1, i2, i3, hB, w1, w2, w3, hkX, iv_len, jrows_len, List.length_map, s1, Int.natCast_nonneg, f0, f1, r0, j_hasI hL0]
            refine sem_rounds (fun j : Nat => j ≤ T.length) (fun j => [(0, .int .u32 F), (1, .vsl 4 xs false), (5, .pbox 0 0), (6, .pbox 2 0), (7, .int .i64 (i : Nat)), (15, .vsl 1 (uv (T.map (kap F))) false), (17, .vsl 1 (iv .i64 T) false), (134, .int .i64 T.length), (135, .int .i64 (j : Nat))])
              (fun j => [.box [.int .u32 (kap F N), .sl 1 0 K.length K.length false], .row 2 (irows (mapK F K)), .box [.int .i64 N, .vsl 2 (jrows K) false]]) (fun j => T.length - j) 0 [0, 4, 2] (Nat.zero_le _) ?_ ?_
            · simp only [Emb, go_sem, mapK_len]
            intro j hj
            skip
            refine run_ok 4000 _ _ _ _ ?_
            simp (maxSteps := 10000000) only [go_sem]
            refine ⟨fun hlt => ?_, fun hge => ?_⟩
            · have hlt : j < T.length := by omega
              have hltm : j < (T.map (kap F)).length := by rw [List.length_map]; exact hlt
              have hin : (j : Int) < (T.length : Int) := by omega
              have hb := hTb _ (List.getElem_mem hlt)
              have w4 : iwrap .i64 (T[j] - 1000) = T[j] - 1000 := iwrap_i64_in (by omega)
              have hkj : iwrap .u32 (F + iwrap .u32 (T[j] - 1000)) = kap F T[j] := rfl
              have s4 : (kap F T[j] != kap F T[j]) = false := by simp
              have r0 := iv_rint (k := .u32) hltm
              rw [List.getElem_map] at r0
              skip
              simp (maxSteps := 10000000) only [go_sem, iv_hasI hltm, r0, iv_hasI hlt, iv_rint hlt, hin, iv_len, List.length_map, w4, hkj, s4, Int.natCast_nonneg, inc64 (show j < 1000000000000 by omega)]
              refine sem_drawG l11_0_ok (by kernel_rfl) ?_
              intro KK hKK
              simp (maxSteps := 10000000) only [go_sem, l11_0, iv_hasI hltm, r0, iv_hasI hlt, iv_rint hlt, hin, iv_len, List.length_map, w4, hkj, s4, Int.natCast_nonneg, inc64 (show j < 1000000000000 by omega)]
              subst hKK
              simp (maxSteps := 10000000) only [go_sem, iv_hasI hltm, r0, iv_hasI hlt, iv_rint hlt, hin, iv_len, List.length_map, w4, hkj, s4, Int.natCast_nonneg, inc64 (show j < 1000000000000 by omega)]
              refine ⟨j + 1, by omega, by omega, [0, 1, 2], ?_⟩
              simp only [Emb, go_sem]
            · skip
              refine run_ok 4000 _ _ _ _ ?_
              simp (maxSteps := 10000000) only [go_sem]
              refine sem_sub (sl := [(0, .int .u32 F), (1, .vsl 4 xs false), (5, .pbox 0 0), (6, .pbox 2 0), (7, .int .i64 (i : Nat)), (152, .pbox 0 0)])
                (m2 := [.box [.int .u32 (kap F (N)), .sl 1 0 (K).length (K).length false], .row 2 (irows (mapK F (K))), .box [.int .i64 (N), .vsl 2 (jrows (K)) false]]) [0, 1, 2] ?_ ?_
              · simp only [Emb, go_sem, mapK_len]
              exact hT ((N), (K)) (hk1)
      have n1 : (a == 1) = false := by rw [beq_eq_false_iff_ne]; assumption
      have n2 : (a == 2) = false := by rw [beq_eq_false_iff_ne]; assumption
      skip
      simp (maxSteps := 10000000) only [go_sem, hin, e0, e1, e2, e3, i0, i1, i2, i3, n1, n2, Int.natCast_nonneg]
      refine sem_call rfl rfl (((cut_spec s 6 (by decide)).embed [] rfl trivial rfl rfl rfl (by simp)).mono ?_)
      rintro _ _ ⟨_, _, ⟨rfl, rfl⟩, rfl, rfl⟩
      refine run_ok 4000 _ _ _ _ ?_
      simp (maxSteps := 10000000) only [go_sem, hin, e0, e1, e2, e3, i0, i1, i2, i3, n1, n2, Int.natCast_nonneg]
      refine sem_sub (sl := [(0, .int .u32 F), (1, .vsl 4 xs false), (5, .pbox 0 0), (6, .pbox 2 0), (7, .int .i64 (i : Nat)), (152, .pbox 0 0)])
        (m2 := [.box [.int .u32 (kap F (N)), .sl 1 0 (L).length (L).length false], .row 2 (irows (mapK F (L))), .box [.int .i64 (N), .vsl 2 (jrows (L)) false]]) [0, 1, 2] ?_ ?_
      · simp only [Emb, go_sem, mapK_len]
      exact hT ((N), (L)) (hk0.more)
    · rintro ⟨N', L'⟩ hk
      simp only at hk
      have hlen := hk.len; have hlo := hk.lo; have hhi := hk.hi
      have ha := all_spec (kap F N') (mapK F L') (by rw [mapK_len]; omega)
      have hl := olen_spec (kap F N') (mapK F L')
      have hn := onext_spec (kap F N') (mapK F L')
      have w1 : iwrap .i64 (N' - 1000) = N' - 1000 := iwrap_i64_in (by omega)
      have hkN : iwrap .u32 (F + iwrap .u32 (N' - 1000)) = kap F N' := rfl
      have s1 : ((L'.length : Int) != (L'.length : Int)) = false := by simp
      have s2 : (kap F N' != kap F N') = false := by simp
      have s3 : ¬ (L'.length : Int) > 32 := by omega
      unfold outW at ha hl hn
      rw [mapK_len] at ha hl hn
      skip
      refine run_ok 4000 _ _ _ _ ?_
      simp (maxSteps := 10000000) only [go_sem, irows_len, mapK_len, jrows_len, w1, hkN, s1, s2, s3]
      refine sem_call rfl rfl (((ha).embed [0, 1] rfl (by repeat' first | exact trivial | rfl | (simp only [go_sem]; done) | constructor) rfl (by first | rfl | simp only [go_sem]) rfl (by simp)).mono ?_)
      rintro _ _ ⟨_, _, ⟨rfl, rfl⟩, rfl, rfl⟩
      refine run_ok 4000 _ _ _ _ ?_
      simp (maxSteps := 10000000) only [go_sem, irows_len, mapK_len, jrows_len, w1, hkN, s1, s2, s3]
      refine sem_drawG l11_1_ok (by kernel_rfl) ?_
      intro KK hKK
      simp (maxSteps := 10000000) only [go_sem, l11_1, irows_len, mapK_len, jrows_len, w1, hkN, s1, s2, s3]
      refine TriZ.of (((hl).embed [0, 1] rfl (by repeat' first | exact trivial | rfl | (simp only [go_sem]; done) | constructor) rfl (by first | rfl | simp only [go_sem]) rfl (by simp)).mono ?_)
      rintro _ _ ⟨_, _, ⟨rfl, rfl⟩, rfl, rfl⟩
      simp (maxSteps := 10000000) only [go_sem, irows_len, mapK_len, jrows_len, w1, hkN, s1, s2, s3]
      refine TriZ.of (((hn).embed [0, 1] rfl (by repeat' first | exact trivial | rfl | (simp only [go_sem]; done) | constructor) rfl (by first | rfl | simp only [go_sem]) rfl (by simp)).mono ?_)
      rintro _ _ ⟨_, _, ⟨rfl, rfl⟩, rfl, rfl⟩
      simp (maxSteps := 10000000) only [go_sem, irows_len, mapK_len, jrows_len, w1, hkN, s1, s2, s3]
      subst hKK
      simp (maxSteps := 10000000) only [go_sem, irows_len, mapK_len, jrows_len, w1, hkN, s1, s2, s3]
      refine sem_rounds (fun j : Nat => j ≤ L'.length)
        (fun j => [(0, .int .u32 F), (1, .vsl 4 xs false), (5, .pbox 0 0), (6, .pbox 2 0), (7, .int .i64 (i : Nat)), (19, .vsl 2 (irows (mapK F L')) false), (185, .vsl 2 (jrows L') false), (186, .int .i64 L'.length), (187, .int .i64 (j : Nat))])
        (fun j => [.box [.int .u32 (kap F N'), .sl 1 0 L'.length L'.length false], .row 2 (irows (mapK F L')), .box [.int .i64 N', .vsl 2 (jrows L') false]]) (fun j => L'.length - j) 0 [0, 1, 2] (by simp) ?_ ?_
      · simp only [Emb, go_sem]
      intro j hj
      skip
      refine run_ok 4000 _ _ _ _ ?_
      simp (maxSteps := 10000000) only [go_sem]
      refine ⟨fun hlt => ?_, fun hge => ?_⟩
      · have hlt : j < L'.length := by omega
        have hltK : j < (mapK F L').length := by rw [mapK_len]; exact hlt
        have hin : (j : Int) < (L'.length : Int) := by omega
        have hpj := hk.low _ (List.getElem_mem hlt)
        have hpn := hk.near _ (List.getElem_mem hlt)
        have hg : (mapK F L')[j] = (kap F L'[j].1, L'[j].2) := by simp [mapK]
        have r0 := i_rint hltK
        have r1 := i_rstr hltK
        rw [hg] at r0 r1
        simp only at r0 r1
        have w2 : iwrap .i64 (L'[j].1 - 1000) = L'[j].1 - 1000 := iwrap_i64_in (by omega)
        have hkj : iwrap .u32 (F + iwrap .u32 (L'[j].1 - 1000)) = kap F L'[j].1 := rfl
        have s4 : (kap F L'[j].1 != kap F L'[j].1) = false := by simp
        skip
        simp (maxSteps := 10000000) only [go_sem, j_hasI hlt, j_hasS hlt, j_rint hlt, j_rstr hlt, i_hasI hltK, i_hasS hltK, r0, r1, hin, irows_len, mapK_len, w2, hkj, s4, seqb_self, Bool.not_true, Int.natCast_nonneg, inc64 (show j < 1000000000000 by omega)]
        refine sem_drawG l11_2_ok (by kernel_rfl) ?_
        intro KK hKK
        simp (maxSteps := 10000000) only [go_sem, l11_2, j_hasI hlt, j_hasS hlt, j_rint hlt, j_rstr hlt, i_hasI hltK, i_hasS hltK, r0, r1, hin, irows_len, mapK_len, w2, hkj, s4, seqb_self, Bool.not_true, Int.natCast_nonneg, inc64 (show j < 1000000000000 by omega)]
        subst hKK
        simp (maxSteps := 10000000) only [go_sem, j_hasI hlt, j_hasS hlt, j_rint hlt, j_rstr hlt, i_hasI hltK, i_hasS hltK, r0, r1, hin, irows_len, mapK_len, w2, hkj, s4, seqb_self, Bool.not_true, Int.natCast_nonneg, inc64 (show j < 1000000000000 by omega)]
        refine ⟨j + 1, by omega, by omega, [0, 1, 2], ?_⟩
        simp only [Emb, go_sem]
      · skip
        refine run_ok 4000 _ _ _ _ ?_
        simp (maxSteps := 10000000) only [go_sem, inc64 (show i < 1000000000000 by omega)]
        refine ⟨(i + 1, N', L'), by simp only; omega, ⟨by simp only; omega, hk⟩, [0, 1, 2], ?_⟩
        simp only [Emb, go_sem]
  · skip
    refine run_ok 4000 _ _ _ _ ?_
    simp (maxSteps := 10000000) only [go_sem]
  · skip
    refine run_ok 4000 _ _ _ _ ?_
    simp (maxSteps := 10000000) only [go_sem]
end Go.AEX
