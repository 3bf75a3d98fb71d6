/- The abstract evaluator: AEl in one. -/
import Derived.Test.YthdkobfafncpcaaDoorAEkb
/- The abstract evaluator, part l: every operation that the evaluator takes is done as it says. -/
namespace Go.AE
open Go
set_option linter.unusedVariables false
set_option linter.unusedSimpArgs false

variable {P : Program} {φ : Fz} {σ : Sg} {t : Tr} {a : Act} {m m' : Mem} {w : World} {p : Prop} {v : AV}

theorem ao_ok (hI : Inv φ σ m w) (ht : TR φ σ t a.tmps) {o : Oper} {c : O} (hc : cO P o = some c) (he : ao c t m = some (p, v, m')) (hp : p) : OpOk P o a φ σ m w v m' := by
  unfold cO at hc
  split at hc
  case h_1 x ho =>
    simp only [Option.map_eq_some_iff] at hc
    obtain ⟨y, hy, rfl⟩ := hc
    exact ok_mv hI ht (.inl ho) hy he
  case h_2 x ho =>
    simp only [Option.map_eq_some_iff] at hc
    obtain ⟨y, hy, rfl⟩ := hc
    exact ok_mv hI ht (.inr ho) hy he
  case h_3 c0 x y ho =>
    split at hc
    · rename_i h1 h2 h3; cases hc; exact ok_pick hI ht ho h1 h2 h3 he
    · cases hc
  case h_4 e ho =>
    simp only [Option.map_eq_some_iff] at hc
    obtain ⟨z, hz, rfl⟩ := hc
    exact ok_alloc hI ho hz he
  case h_5 e x ho =>
    simp only [Option.map_eq_some_iff] at hc
    obtain ⟨y, hy, rfl⟩ := hc
    exact ok_box hI ht ho hy he
  case h_6 ty ps ho =>
    split at hc
    · rename_i fs z hu hz
      split at hc
      · rename_i places hpl
        simp only [Option.map_eq_some_iff] at hc
        obtain ⟨ps', hps, rfl⟩ := hc
        exact ok_build hI ht ho hz hps (.inl ⟨fs, places, hu, hpl, rfl⟩) he
      · cases hc
    · rename_i n e z hu hz
      split at hc
      · rename_i k hk
        simp only [Option.map_eq_some_iff] at hc
        obtain ⟨ps', hps, rfl⟩ := hc
        exact ok_build hI ht ho hz hps (.inr ⟨n, e, k, hu, hk, rfl⟩) he
      · cases hc
    · cases hc
  case h_7 ty n ps ho =>
    split at hc
    · rename_i e hu
      split at hc
      · rename_i sz z l h1 h2 h3
        split at hc
        · rename_i hcond
          cases hc
          exact ok_bsl hI ht ho hu h1 h2 h3 hcond.1 hcond.2.1 hcond.2.2.1 hcond.2.2.2 he
        · cases hc
      · cases hc
    · cases hc
  case h_8 ty x ho =>
    split at hc
    · rename_i y ks h1 h2
      split at hc
      · rename_i hagg
        split at hc
        · rename_i hs; cases hc; exact ok_ldn hI ht ho h1 h2 hagg hs he hp
        · cases hc
      · rename_i hagg
        split at hc
        · rename_i k
          cases hc
          exact ok_ld hI ht ho h1 h2 (by simpa using hagg) he hp
        · cases hc
    · cases hc
  case h_9 ty x y ho =>
    split at hc
    · rename_i h1 h2 h3; cases hc; exact ok_st hI ht ho h1 h2 h3 he hp
    · cases hc
  case h_10 x ho =>
    simp only [Option.map_eq_some_iff] at hc
    obtain ⟨y, hy, rfl⟩ := hc
    exact ok_nck hI ht ho hy he
  case h_11 op xt x y yt ho =>
    split at hc
    rotate_left
    · cases hc
    rename_i x' y' h1 h2
    have hop : ∀ (q : op = .eql ∨ op = .neq), (match P.underlying xt with
        | some (.int _) | some .string => some (O.bin op x' y')
        | some .bool => some (.eqb (op == .neq) x' y')
        | some (.pointer e) => match szT P e with
          | some n => if n ≠ 0 then some (.eqp 0 (op == .neq) x' y') else none
          | none => none
        | some (.map _ _) => some (.eqp 1 (op == .neq) x' y')
        | some (.func _ _ _) => some (.eqp 2 (op == .neq) x' y')
        | some (.slice _) => if isNilC y = true then some (.eqn (op == .neq) x') else none
        | some (.struct fs) => match flatFs P 0 fs.toList with
          | some ks => if P.eqGuardType P.depth xt = false ∧ P.stoodInHeld xt = false then some (.eqa (op == .neq) ks x' y') else none
          | none => none
        | _ => none) = some c → OpOk P o a φ σ m w v m' := by
      intro q hc
      split at hc
      · cases hc; exact ok_bin hI ht ho h1 h2 he hp
      · cases hc; exact ok_bin hI ht ho h1 h2 he hp
      · rename_i hu; cases hc; exact ok_eqb hI ht ho q hu h1 h2 he
      · rename_i e hu
        split at hc
        · split at hc
          · cases hc; exact ok_eqp hI ht ho q (.inl ⟨rfl, e, hu⟩) h1 h2 he
          · cases hc
        · cases hc
      · rename_i e f hu; cases hc; exact ok_eqp hI ht ho q (.inr (.inl ⟨rfl, e, f, hu⟩)) h1 h2 he
      · rename_i e f g hu; cases hc; exact ok_eqp hI ht ho q (.inr (.inr ⟨rfl, e, f, g, hu⟩)) h1 h2 he
      · split at hc
        · cases hc; cases he
        · cases hc
      · rename_i fs hu
        split at hc
        · rename_i ks hf
          split at hc
          · rename_i hg; cases hc; exact ok_eqa hI ht ho q hu hf hg.1 hg.2 h1 h2 he
          · cases hc
        · cases hc
      · cases hc
    split at hc
    · exact hop (.inl rfl) hc
    · exact hop (.inr rfl) hc
    · cases hc; exact ok_bin hI ht ho h1 h2 he hp
  case h_12 op xt x ho =>
    simp only [Option.map_eq_some_iff] at hc
    obtain ⟨y, hy, rfl⟩ := hc
    exact ok_un hI ht ho hy he
  case h_13 s d x ho =>
    split at hc
    rotate_left
    · cases hc
    rename_i x' us ud h1 h2 h3
    split at hc
    · cases hc; exact ok_cvi hI ht ho h1 h2 h3 he
    · cases hc; exact ok_cvt hI ht ho h1 h2 h3 he
    · rename_i e
      split at hc
      · rename_i hel; cases hc; exact ok_cvs hI ht ho h1 h2 h3 hel he
      · cases hc
    · rename_i e
      split at hc
      · rename_i hel; cases hc; exact ok_cvb hI ht ho h1 h2 h3 hel he hp
      · cases hc
    · cases hc
  case h_14 ty x ho =>
    split at hc
    · cases hc
    · cases hc
    · rename_i u hu hn
      simp only [Option.map_eq_some_iff] at hc
      obtain ⟨y, hy, rfl⟩ := hc
      exact ok_ifc hI ht ho hy hn (fun ms e => hu ms e) he
  case h_15 f xs ys ho =>
    split at hc
    · rename_i h1 h2; cases hc; exact ok_mkfn hI ht ho h1 h2 he
    · cases hc
  case h_16 ty ho => cases hc; exact ok_mkmap hI ho he
  case h_17 ty l c0 ho =>
    split at hc
    · rename_i e l' c' hu h1 h2
      split at hc
      · rename_i sz z i h3 h4 h5
        split at hc
        · rename_i hcond
          cases hc
          exact ok_mksl hI ht ho h1 h2 hu h3 h4 h5 hcond.1 hcond.2.1 hcond.2.2.1 hcond.2.2.2 he hp
        · cases hc
      · cases hc
    · cases hc
  case h_18 ty x lo hi mx ho =>
    split at hc
    · rename_i x' lo' hi' hu h1 h2 h3 h4
      cases hc
      rcases cOpt_cases h4 with ⟨rfl, _⟩ | ⟨_, _, _, e0, _⟩
      · exact ok_ssl hI ht ho h1 h2 h3 hu he hp
      · cases e0
    · rename_i e x' lo' hi' mx' hu h1 h2 h3 h4
      split at hc
      · rename_i sz hs
        split at hc
        · cases hc; exact ok_lsl hI ht ho h1 h2 h3 h4 hu hs he hp
        · cases hc
      · cases hc
    · rename_i n e x' lo' hi' hu h1 h2 h3 h4
      split at hc
      · rename_i hs
        cases hc
        rcases cOpt_cases h4 with ⟨rfl, _⟩ | ⟨_, _, _, e0, _⟩
        · exact ok_asl hI ht ho h1 h2 h3 hu hs he hp
        · cases e0
      · cases hc
    · cases hc
  case h_19 s x i ho =>
    split at hc
    · rename_i fs x' hu h1
      split at hc
      · rename_i f hf
        split at hc
        · cases hc
        · rename_i hn
          cases hc
          cases hs : szT P f.type with
          | none => exact absurd (.inr hs) hn
          | some n => exact ok_fad hI ht ho h1 hu hf hs (fun e => hn (.inl (by rw [hs, e]))) he
      · cases hc
    · cases hc
  case h_20 s x i ho =>
    split at hc
    · rename_i fs x' hu h1
      split at hc
      · rename_i f hf
        split at hc
        · rename_i hagg
          simp only [Option.map_eq_some_iff] at hc
          obtain ⟨n, hn, rfl⟩ := hc
          have : ∃ d, P.underlying f.type = some d := by
            cases hd : P.underlying f.type with
            | some d => exact ⟨d, rfl⟩
            | none => simp [isAggB, hd] at hagg
          obtain ⟨d, hd⟩ := this
          exact ok_fld hI ht ho h1 hu hf hd (.inl ⟨hagg, n, rfl, hn⟩) he
        · rename_i hagg
          split at hc
          · rename_i hd
            cases hc
            obtain ⟨d, hd⟩ := Option.isSome_iff_exists.1 hd
            exact ok_fld hI ht ho h1 hu hf hd (.inr ⟨by simpa using hagg, rfl⟩) he
          · cases hc
      · cases hc
    · cases hc
  case h_21 ty x i ho =>
    split at hc
    · rename_i g k l hg
      split at hc
      · rename_i n e i' hu h2
        split at hc
        · rename_i hs; cases hc; obtain ⟨hs, rfl⟩ := hs; exact ok_iag hI ht ho hg h2 hu hs he hp
        · cases hc
      · cases hc
    split at hc
    · rename_i e x' i' hu h1 h2
      simp only [Option.map_eq_some_iff] at hc
      obtain ⟨sz, hs, rfl⟩ := hc
      exact ok_iad hI ht ho h1 h2 hu hs he hp
    · rename_i n e x' i' hu h1 h2
      split at hc
      · rename_i hs; cases hc; exact ok_iaa hI ht ho h1 h2 hu hs he hp
      · cases hc
    · cases hc
  case h_22 ty x i ho =>
    split at hc
    · rename_i x' i' hu h1 h2; cases hc; exact ok_ist hI ht ho h1 h2 hu he hp
    · rename_i n e x' i' hu h1 h2
      split at hc
      · rename_i ck hs hk
        split at hc
        · cases hc
        · rename_i ha; cases hc; exact ok_ixa hI ht ho h1 h2 hu hs hk (by simpa using ha) he hp
      · cases hc
    · cases hc
  case h_23 x i ho =>
    simp only [Option.map_eq_some_iff] at hc
    obtain ⟨y, hy, rfl⟩ := hc
    exact ok_ext hI ht ho hy he
  case h_24 xt x k ok ho =>
    split at hc
    · rename_i kt e x' k' hu h1 h2
      split at hc
      · rename_i z q ck hz hk hck
        split at hc
        · cases hc
        · cases hc; exact ok_look hI ht ho h1 h2 hu (.inl ⟨rfl, q, hk⟩) hz he hp
      · rename_i z ck hz hk hck
        split at hc
        · cases hc
        · cases hc; exact ok_look hI ht ho h1 h2 hu (.inr ⟨rfl, hk⟩) hz he hp
      · cases hc
    · cases hc
  case h_25 xt x k y ho =>
    split at hc
    · rename_i kt e x' k' y' hu h1 h2 h3
      split at hc
      · rename_i q hk; cases hc; exact ok_mput hI ht ho h1 h2 h3 hu (.inl ⟨rfl, q, hk⟩) he hp
      · rename_i hk; cases hc; exact ok_mput hI ht ho h1 h2 h3 hu (.inr ⟨rfl, hk⟩) he hp
      · cases hc
    · cases hc
  case h_26 cl ho =>
    split at hc
    · cases hc; cases he
    · cases hc; cases he
    · simp only [Option.map_eq_some_iff] at hc; obtain ⟨_, _, rfl⟩ := hc; cases he
    · rename_i x h1 h2
      split at hc
      · rename_i hu
        cases hc
        simp only [Option.bind_eq_some_iff] at hu
        obtain ⟨ty, h3, hu⟩ := hu
        exact ok_len hI ht ho h1 h2 h3 (.inl ⟨rfl, hu⟩) he
      · rename_i e hu
        cases hc
        simp only [Option.bind_eq_some_iff] at hu
        obtain ⟨ty, h3, hu⟩ := hu
        exact ok_len hI ht ho h1 h2 h3 (.inr ⟨rfl, e, hu⟩) he
      · rename_i kt e hu
        cases hc
        simp only [Option.bind_eq_some_iff] at hu
        obtain ⟨ty, h3, hu⟩ := hu
        exact ok_lenm hI ht ho h1 h2 h3 hu he
      · cases hc
    · rename_i x y h1 h2
      split at hc
      · rename_i e yt hu hux
        simp only [Option.bind_eq_some_iff] at hu hux
        obtain ⟨st, h3, hu⟩ := hu
        obtain ⟨xt, h4, hux⟩ := hux
        split at hc
        · rename_i i z h5 h6
          split at hc
          · rename_i hcond
            cases hc
            exact ok_app hI ht ho h1 h2 h3 h4 hu hux hcond.2.2.2.2 h5 h6 hcond.1 hcond.2.1 hcond.2.2.1 hcond.2.2.2.1 he hp
          · cases hc
        · cases hc
      · cases hc
    · rename_i x h1 h2
      split at hc
      · rename_i e hu
        simp only [Option.bind_eq_some_iff] at hu
        obtain ⟨st, h3, hu⟩ := hu
        split at hc
        · rename_i n z h4 h5
          split at hc
          · rename_i hcond; cases hc; exact ok_clr hI ht ho h1 h2 h3 hu h5 hcond.1 hcond.2.1 hcond.2.2 he hp
          · cases hc
        · cases hc
      · cases hc
    · rename_i x y h1 h2
      split at hc
      · rename_i e hu
        simp only [Option.bind_eq_some_iff] at hu
        obtain ⟨st, h3, hu⟩ := hu
        split at hc
        · rename_i n h4
          split at hc
          · rename_i hcond; cases hc; exact ok_cpy hI ht ho h1 h2 h3 hu h4 hcond he hp
          · cases hc
        · cases hc
      · cases hc
    · rename_i x k h1 h2
      split at hc
      · rename_i kt e hu
        simp only [Option.bind_eq_some_iff] at hu
        obtain ⟨st, h3, hu⟩ := hu
        split at hc
        · rename_i q hk; cases hc; exact ok_mdel hI ht ho h1 h2 h3 hu (.inl ⟨rfl, q, hk⟩) he hp
        · rename_i hk; cases hc; exact ok_mdel hI ht ho h1 h2 h3 hu (.inr ⟨rfl, hk⟩) he hp
        · cases hc
      · cases hc
    · rename_i xs h1 h2; cases hc; exact ok_mx hI ht ho h1 h2 he
    · rename_i xs h1 h2; cases hc; exact ok_mn hI ht ho h1 h2 he
    · cases hc
  case h_27 =>
    split at hc
    · cases hc
    · split at hc
      · simp only [Option.map_eq_some_iff] at hc
        obtain ⟨n, _, rfl⟩ := hc
        cases he
      · cases hc; cases he
    · cases hc
  case h_28 =>
    split at hc
    · cases hc; cases he
    · cases hc
  case h_29 =>
    simp only [Option.map_eq_some_iff] at hc
    obtain ⟨n, _, rfl⟩ := hc
    cases he
  case h_30 =>
    simp only [Option.map_eq_some_iff] at hc
    obtain ⟨n, _, rfl⟩ := hc
    cases he
  case h_31 => cases hc; cases he
  case h_32 => cases hc
end Go.AE
