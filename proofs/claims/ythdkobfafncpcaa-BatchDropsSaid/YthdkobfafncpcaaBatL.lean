/- Batch tables: the calls, told by what each player gave. -/
import Derived.Test.YthdkobfafncpcaaBatK
namespace Go.AEX
open Go Go.AE Go.Proofs
set_option maxRecDepth 100000
set_option linter.unusedVariables false
set_option linter.unusedSimpArgs false

def upd (g : Int → List (List Ord)) (p : Int) (l : List (List Ord)) : Int → List (List Ord) := fun q => if q = p then l else g q
theorem upd_same (g : Int → List (List Ord)) (p : Int) (l : List (List Ord)) : upd g p l p = l := by simp [upd]
theorem upd_else (g : Int → List (List Ord)) {p q : Int} (l : List (List Ord)) (h : q ≠ p) : upd g p l q = g q := by simp [upd, h]
def hasB' (g : Int → List (List Ord)) (p : Int) : Bool := !(g p).isEmpty
theorem hasT {nx : Int} {O : Outr} {F : List Inn} {g : Int → List (List Ord)} (h : TOk nx O F g) (p : Int) : Tri Try.prog 14 [.pbox 0 0, .int .i64 p] (tM nx O F) fun v m => v = .bsym (hasB' g p) ∧ m = tM nx O F := by
  rcases h.og p with ⟨h1, h2⟩ | ⟨k, h1, h2, h3⟩
  · have := has_none nx O F p h1
    rwa [show hasB' g p = false by simp [hasB', h2]]
  · have := has_some nx O F p k _ h1 h2
    cases e : g p with
    | nil => exact absurd e h3
    | cons L r =>
      rw [show (ig (num nx (g p)) nx).isSome = true by rw [e]; simp [num, ig]] at this
      rwa [show hasB' g p = true by simp [hasB', e]]
theorem givenT {nx : Int} {O : Outr} {F : List Inn} {g : Int → List (List Ord)} (h : TOk nx O F g) (p : Int) (hn : 0 ≤ nx ∧ nx ≤ 1000000) (hl : (g p).length ≤ 100) :
    Tri Try.prog 15 [.pbox 0 0, .int .i64 p] (tM nx O F) fun v m => v = .int .i64 (nx + (g p).length) ∧ m = tM nx O F := by
  rcases h.og p with ⟨h1, h2⟩ | ⟨k, h1, h2, h3⟩
  · have := given_none nx O F p h1 (by omega)
    rwa [show nx + ((g p).length : Int) = nx by rw [h2]; simp]
  · have := given_some nx O F p k _ h1 h2 (by omega) (by rw [num_len]; omega)
    rwa [num_len] at this
theorem missT {nx : Int} {O : Outr} {F : List Inn} {g : Int → List (List Ord)} (h : TOk nx O F g) (l : List Int) (tight : Bool) (hl : l.length ≤ 100000) :
    Tri Try.prog 29 [.pbox 0 0, .vsl 1 (iv .i64 l) tight] (tM nx O F) fun v m => v = .vsl 1 (iv .i64 (l.filter fun x => !hasB' g x)) false ∧ m = tM nx O F :=
  missing_spec nx O F h.okO (hasB' g) (hasT h) l tight hl
theorem takeNo {nx : Int} {O : Outr} {F : List Inn} {g : Int → List (List Ord)} (h : TOk nx O F g) (l : List Int) (tight : Bool) (hl : l.length ≤ 100000) (hm : ∃ p ∈ l, g p = []) :
    Tri Try.prog 16 [.pbox 0 0, .vsl 1 (iv .i64 l) tight] (tM nx O F) fun v m => v = .tup [.nilsl, .bool false] ∧ m = tM nx O F := by
  obtain ⟨p, hp, he⟩ := hm
  exact take_no nx O F h.okO (hasB' g) (hasT h) l tight hl (List.length_pos_of_mem (List.mem_filter.2 ⟨hp, by simp [hasB', he]⟩))
def hdT (g : Int → List (List Ord)) (p : Int) : List Ord := (g p).headD []
theorem takeYes {nx : Int} {O : Outr} {F : List Inn} {g : Int → List (List Ord)} (h : TOk nx O F g) (l : List Int) (tight : Bool) (hl : l.length ≤ 100000) (hn : 0 ≤ nx ∧ nx ≤ 1000000) (hm : ∀ p ∈ l, g p ≠ []) :
    Tri Try.prog 16 [.pbox 0 0, .vsl 1 (iv .i64 l) tight] (tM nx O F) fun v m => v = .tup [.vsl 2 (pws (hdT g) l) false, .bool true] ∧ ∃ O' F', TOk (nx + 1) O' F' (fun p => (g p).tail) ∧ m = tM (nx + 1) O' F' := by
  refine take_yes nx O F g h l tight hl (hdT g) hn (fun p hp => ?_) ?_
  · cases e : g p with
    | nil => exact absurd e (hm p hp)
    | cons L r => exact ⟨r, by simp [hdT, e]⟩
  · have := missT h l tight hl
    rwa [show (l.filter fun x => !hasB' g x) = [] by
      rw [List.filter_eq_nil_iff]; intro p hp; have := hm p hp; simp [hasB', this]] at this
theorem TOk.push {nx : Int} {O : Outr} {F : List Inn} {g : Int → List (List Ord)} (h : TOk nx O F g) {p : Int} {k : Nat} (L : List Ord) (h1 : AEX.og O p = some k) (h2 : F[k]? = some (num nx (g p))) :
    TOk nx O (F.set k (num nx (g p) ++ [(nx + (g p).length, L)])) (upd g p (g p ++ [L])) := by
  have hk : k < F.length := (List.getElem?_eq_some_iff.1 h2).1
  have hm := og_mem h1
  refine ⟨h.nk, h.nv, fun q j hq => ?_, fun q hq => ?_⟩
  · by_cases e : q = p
    · subst e
      have : j = k := by have := nd_fst h.nk hq hm rfl; simpa using this
      subst this
      rw [List.getElem?_set_self hk, upd_same, num_app]
      exact ⟨rfl, by simp⟩
    · have hjk : j ≠ k := fun ejk => e (by have := nd_fst h.nv hq hm ejk; simpa using congrArg Prod.fst this)
      rw [List.getElem?_set_ne (Ne.symm hjk), upd_else _ _ e]
      exact h.ok q j hq
  · by_cases e : q = p
    · subst e; exact absurd hm (hq k)
    · rw [upd_else _ _ e]; exact h.no q hq
theorem TOk.add {nx : Int} {O : Outr} {F : List Inn} {g : Int → List (List Ord)} (h : TOk nx O F g) {p : Int} (L : List Ord) (h1 : AEX.og O p = none) : TOk nx (O ++ [(p, F.length)]) (F ++ [[(nx, L)]]) (upd g p [L]) := by
  have hno := og_not h1
  refine ⟨?_, ?_, fun q j hq => ?_, fun q hq => ?_⟩
  · rw [List.map_append, List.nodup_append]
    refine ⟨h.nk, by simp, fun a ha b hb => ?_⟩
    simp at hb; subst hb
    rintro rfl
    obtain ⟨⟨a', j⟩, he, hx⟩ := List.mem_map.1 ha
    simp only at hx; subst hx
    exact hno j he
  · rw [List.map_append, List.nodup_append]
    refine ⟨h.nv, by simp, fun a ha b hb => ?_⟩
    simp at hb; subst hb
    rintro rfl
    obtain ⟨⟨a', j⟩, he, hx⟩ := List.mem_map.1 ha
    simp only at hx; subst hx
    have := h.okO _ he
    simp at this
  · rcases List.mem_append.1 hq with hq1 | hq1
    · have hne : q ≠ p := by rintro rfl; exact hno j hq1
      have hj := h.okO _ hq1
      simp only at hj
      rw [upd_else _ _ hne, List.getElem?_append_left hj]
      exact h.ok q j hq1
    · simp at hq1
      obtain ⟨rfl, rfl⟩ := hq1
      rw [upd_same]
      exact ⟨by simp [num], by simp⟩
  · have hne : q ≠ p := by rintro rfl; exact hq F.length (by simp)
    rw [upd_else _ _ hne]
    exact h.no q fun k hk => hq k (by simp [hk])
theorem putT {nx : Int} {O : Outr} {F : List Inn} {g : Int → List (List Ord)} (h : TOk nx O F g) (p T : Int) (L : List Ord) (hT : T = nx + (g p).length) (hn : 0 ≤ nx ∧ nx ≤ 100000) (hg : (g p).length < 8) (hp : 0 ≤ p ∧ p < 32) (hL : L.length ≤ 8) (hok : ∀ o ∈ L, okO o) :
    Tri Try.prog 12 [.pbox 0 0, .int .i64 p, .int .i64 T, .vsl 4 (orows L) false] (tM nx O F) fun v m => v = .int .i64 0 ∧ ∃ O' F', TOk nx O' F' (upd g p (g p ++ [L])) ∧ m = tM nx O' F' := by
  subst hT
  rcases h.og p with ⟨h1, h2⟩ | ⟨k, h1, h2, h3⟩
  · have := put_none nx O F p L h1 hn hp hL hok
    rw [show nx + ((g p).length : Int) = nx by rw [h2]; simp]
    refine this.mono ?_
    rintro _ _ ⟨rfl, rfl⟩
    refine ⟨rfl, _, _, ?_, rfl⟩
    have := h.add L h1
    rwa [h2, List.nil_append]
  · have hn0 := num_free nx (g p)
    have := put_some nx O F p k _ L h1 h2 hn (by rw [num_len]; exact hg) hp hL hok (by rw [num_len]; exact hn0)
    rw [num_len] at this
    refine this.mono ?_
    rintro _ _ ⟨rfl, rfl⟩
    exact ⟨rfl, _, _, h.push L h1 h2, rfl⟩
theorem putN {nx : Int} {O : Outr} {F : List Inn} {g : Int → List (List Ord)} (h : TOk nx O F g) (p T : Int) (hT : T = nx + (g p).length) (hn : 0 ≤ nx ∧ nx ≤ 100000) (hg : (g p).length < 8) (hp : 0 ≤ p ∧ p < 32) :
    Tri Try.prog 12 [.pbox 0 0, .int .i64 p, .int .i64 T, .nilsl] (tM nx O F) fun v m => v = .int .i64 0 ∧ ∃ O' F', TOk nx O' F' (upd g p (g p ++ [[]])) ∧ m = tM nx O' F' := by
  have := putT h p T [] hT hn hg hp (by simp) (by simp)
  refine this.recast fun φ σ vs hv => ?_
  cases hv with | cons a hv => cases hv with | cons b hv => cases hv with | cons c hv => cases hv with | cons d hv =>
    cases hv
    exact .cons a (.cons b (.cons c (.cons (d.nilv 4 false) .nil)))
theorem dropT {nx : Int} {O : Outr} {F : List Inn} {g : Int → List (List Ord)} (h : TOk nx O F g) (p : Int) (hg : g p ≠ []) :
    Tri Try.prog 13 [.pbox 0 0, .int .i64 p] (tM nx O F) fun v m => v = .int .i64 (g p).length ∧ ∃ O' F', TOk nx O' F' (upd g p []) ∧ m = tM nx O' F' := by
  rcases h.og p with ⟨h1, h2⟩ | ⟨k, h1, h2, h3⟩
  · exact absurd h2 hg
  · refine (drop_some nx O F p k _ h1 h2 h.nk).mono ?_
    rintro _ _ ⟨rfl, rfl⟩
    refine ⟨by rw [num_len], _, _, ⟨h.nk.sublist ((List.filter_sublist ..).map _), h.nv.sublist ((List.filter_sublist ..).map _), fun q j hq => ?_, fun q hq => ?_⟩, rfl⟩
    · obtain ⟨h4, h5⟩ := List.mem_filter.1 hq
      have hne : q ≠ p := by simpa using h5
      rw [upd_else _ _ hne]; exact h.ok q j h4
    · by_cases e : q = p
      · subst e; rw [upd_same]
      · rw [upd_else _ _ e]
        exact h.no q fun j hj => hq j (List.mem_filter.2 ⟨hj, by simpa using e⟩)
end Go.AEX
