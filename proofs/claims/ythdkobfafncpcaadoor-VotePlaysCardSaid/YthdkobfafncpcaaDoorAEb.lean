/- The abstract evaluator: AEb in one. -/
import Derived.Test.YthdkobfafncpcaaDoorAEa
/- The abstract evaluator, part b: compact code, how it is made of the program's code, and the evaluator. -/
namespace Go.AE
open Go
set_option linter.unusedVariables false
set_option linter.unusedSimpArgs false

inductive Opd where
  | t (i : Nat)
  | c (v : AV)
inductive CK where
  | int (k : IntKind) | bool | str | any
inductive O where
  | mv (x : Opd)
  | pick (c a b : Opd)
  | alloc (cs : List AV)
  | box (x : Opd)
  | build (zero : List AV) (parts : List (Nat × Nat × Opd))
  | bsl (sz : Nat) (zero : List AV) (len : Nat) (parts : List (Nat × Opd))
  | ld (k : CK) (a : Opd)
  | ldn (ks : List CK) (a : Opd)
  | st (n : Nat) (a v : Opd)
  | nck (x : Opd)
  | bin (op : BinOp) (x y : Opd)
  | eqp (k : Nat) (neg : Bool) (x y : Opd)
  | eqb (neg : Bool) (x y : Opd)
  | eqn (neg : Bool) (x : Opd)
  | eqa (neg : Bool) (ks : List CK) (x y : Opd)
  | un (op : UnOp) (x : Opd)
  | cvi (k : IntKind) (x : Opd)
  | cvs (x : Opd)
  | cvb (x : Opd)
  | cvt (x : Opd)
  | ifc (t : TypeId) (x : Opd)
  | mkfn (f : FuncId) (first cap : List Opd)
  | mkmap
  | mksl (sz : Nat) (zero : List AV) (bytes : Nat) (l c : Opd)
  | ssl (x : Opd) (lo hi : Option Opd)
  | lsl (sz : Nat) (x : Opd) (lo hi mx : Option Opd)
  | asl (n : Nat) (x : Opd) (lo hi : Option Opd)
  | fad (off : Nat) (x : Opd)
  | fld (off : Nat) (n : Option Nat) (x : Opd)
  | iad (sz : Nat) (x i : Opd)
  | iaa (n : Nat) (x i : Opd)
  | iag (g : Nat) (k : IntKind) (l : List Int) (i : Opd)
  | ist (x i : Opd)
  | ixa (n : Nat) (ck : CK) (x i : Opd)
  | ext (x : Opd) (i : Nat)
  | len (s : Bool) (x : Opd)
  | lenm (x : Opd)
  | app (sz : Nat) (x y : Opd)
  | clr (sz : Nat) (zero : List AV) (x : Opd)
  | cpy (sz : Nat) (x y : Opd)
  | mx (xs : List Opd)
  | mn (xs : List Opd)
  | look (s : Bool) (ck : CK) (zero : AV) (ok : Bool) (x k : Opd)
  | mput (s : Bool) (x k v : Opd)
  | mdel (s : Bool) (x k : Opd)
  | tas (to : TypeId) (zero : Option AV) (x : Opd)
  | rng (x : Opd)
  | nxt (x : Opd)
  | ent (x : Opd)
  | call (f : FuncId) (xs : List Opd)
  | callv (x : Opd) (xs : List Opd)
  | inv (x : Opd) (nm : String) (xs : List Opd)
  | other

inductive C where
  | op (g : Option (Nat × Bool)) (d : Option Nat) (o : O)
  | cond (x : Opd) (a b : List C)
  | blk (id : Nat) (b : List C)
  | endb (id : Nat)
  | loop (b : List C)
  | exit (id : Nat)
  | ret
  | draw (r : List (Option (Nat × Bool) × Option Nat × O × List Nat))

/-! ### how compact code is made -/
mutual
def AV.ofV : Nat → Value → Option AV
  | 0, _ => none
  | _ + 1, .bool b => some (.bool b)
  | _ + 1, .int k n => some (.int k n)
  | _ + 1, .string s => some (.str s.data.toList)
  | _ + 1, .pointer none => some .nilptr
  | _ + 1, .slice none 0 0 => some .nilsl
  | _ + 1, .map none => some .nilmap
  | _ + 1, .nilFunc => some .nilfn
  | _ + 1, .nilIface => some .nilif
  | f + 1, .agg cs => (AV.ofVs f cs.toList).map .agg
  | _ + 1, _ => none
def AV.ofVs : Nat → List Value → Option (List AV)
  | 0, _ => none
  | _ + 1, [] => some []
  | f + 1, v :: vs => match AV.ofV f v, AV.ofVs f vs with
    | some a, some as => some (a :: as)
    | _, _ => none
end
def cOpd : Operand → Option Opd
  | .tmp i => some (.t i)
  | .const v => (AV.ofV 300 v).map .c
  | .func f => some (.c (.fn f [] []))
  | .global _ => none
def cOpds : List Operand → Option (List Opd)
  | [] => some []
  | x :: xs => match cOpd x, cOpds xs with
    | some y, some ys => some (y :: ys)
    | _, _ => none
def cOpt : Option Operand → Option (Option Opd)
  | none => some none
  | some x => (cOpd x).map some
def cks (P : Program) : Nat → TypeId → Option (List CK)
  | 0, _ => none
  | f + 1, t => match P.underlying t with
    | some (.struct fs) => fs.toList.foldr (fun x acc => match cks P f x.type, acc with | some a, some b => some (a ++ b) | _, _ => none) (some [])
    | some (.array n e) => (cks P f e).map fun ks => (List.replicate n ks).flatten
    | some (.int k) => some [.int k]
    | some .bool => some [.bool]
    | some .string => some [.str]
    | some _ => some [.any]
    | none => none
def isIntD : TypeDesc → Bool
  | .int _ => true
  | _ => false
def isAggB (P : Program) (t : TypeId) : Bool := match P.underlying t with
  | some (.struct _) | some (.array _ _) => true
  | _ => false
def szT (P : Program) (t : TypeId) : Option Nat := (P.info? t).map (·.size)
def zeroT (P : Program) (t : TypeId) : Option (List AV) := ((P.info? t).bind (·.zero)).bind fun v => AV.ofVs 300 v.cells.toList
def zero1 (P : Program) (t : TypeId) : Option AV := ((P.info? t).bind (·.zero)).bind (AV.ofV 300)

def cParts : (Nat → Option (Nat × Nat)) → List (Nat × Operand) → Option (List (Nat × Nat × Opd))
  | _, [] => some []
  | pl, (i, x) :: r => match pl i, cOpd x, cParts pl r with
    | some (o, n), some y, some ys => some ((o, n, y) :: ys)
    | _, _, _ => none
def cParts1 : List (Nat × Operand) → Option (List (Nat × Opd))
  | [] => some []
  | (i, x) :: r => match cOpd x, cParts1 r with
    | some y, some ys => some ((i, y) :: ys)
    | _, _ => none
def flatFs (P : Program) : Nat → List Field → Option (List CK)
  | _, [] => some []
  | i, f :: fs => match f.name != "_" && f.offset == i, P.underlying f.type, flatFs P (i + 1) fs with
    | true, some (.int k), some ks => some (.int k :: ks)
    | true, some .bool, some ks => some (.bool :: ks)
    | true, some .string, some ks => some (.str :: ks)
    | _, _, _ => none

def one : AV → Bool
  | .agg _ | .tup _ => false
  | _ => true
def isNilV : Value → Bool
  | .slice none n m => n == 0 && m == 0
  | _ => false
def isNilC : Operand → Bool
  | .const v => isNilV v
  | _ => false
def gOpd : Operand → Option (Nat × IntKind × List Int)
  | .global g => (laidAt g).map fun x => (g, x.1, x.2)
  | _ => none
theorem gOpd_ok {x : Operand} {g : Nat} {k : IntKind} {l : List Int} (h : gOpd x = some (g, k, l)) : x = .global g ∧ (g, k, l) ∈ laidG := by
  cases x with
  | global g' =>
    simp only [gOpd] at h
    obtain ⟨y, h1, h2⟩ := Option.map_eq_some_iff.1 h
    cases h2
    exact ⟨rfl, laidAt_ok h1⟩
  | _ => simp [gOpd] at h
def cO (P : Program) (o : Oper) : Option O :=
  match o.op with
  | .move x | .assign x => (cOpd x).map .mv
  | .pick c a b => match cOpd c, cOpd a, cOpd b with
    | some c, some a, some b => some (.pick c a b)
    | _, _, _ => none
  | .alloc e => (zeroT P e).map .alloc
  | .box _ x => (cOpd x).map .box
  | .build t ps => match P.underlying t, zeroT P t with
    | some (.struct fs), some z => match fs.toList.mapM (fun f => (P.info? f.type).map fun i => (f.offset, i.size)) with
      | some places => (cParts (fun i => places[i]?) ps.toList).map (.build z)
      | none => none
    | some (.array _ e), some z => match szT P e with
      | some n => (cParts (fun i => some (i * n, n)) ps.toList).map (.build z)
      | none => none
    | _, _ => none
  | .buildSlice t n ps => match P.underlying t with
    | some (.slice e) => match szT P e, zeroT P e, cParts1 ps.toList with
      | some sz, some z, some l => if n * sz ≤ 2 ^ 24 ∧ z.length = sz ∧ 0 < sz ∧ z.all one = true then some (.bsl sz z n l) else none
      | _, _, _ => none
    | _ => none
  | .load t a => match cOpd a, cks P 20 t with
    | some x, some ks => if isAggB P t then (if szT P t = some ks.length then some (.ldn ks x) else none) else (match ks with | [k] => some (.ld k x) | _ => none)
    | _, _ => none
  | .store t a v => match cOpd a, cOpd v, szT P t with
    | some x, some y, some n => some (.st n x y)
    | _, _, _ => none
  | .nilCheck x => (cOpd x).map .nck
  | .binOp op xt x y _ => match cOpd x, cOpd y with
    | some a, some b => match op with
      | .eql | .neq => match P.underlying xt with
        | some (.int _) | some .string => some (.bin op a b)
        | some .bool => some (.eqb (op == .neq) a b)
        | some (.pointer e) => match szT P e with
          | some n => if n ≠ 0 then some (.eqp 0 (op == .neq) a b) else none
          | none => none
        | some (.map _ _) => some (.eqp 1 (op == .neq) a b)
        | some (.func _ _ _) => some (.eqp 2 (op == .neq) a b)
        | some (.slice _) => if isNilC y = true then some (.eqn (op == .neq) a) else none
        | some (.struct fs) => match flatFs P 0 fs.toList with
          | some ks => if P.eqGuardType P.depth xt = false ∧ P.stoodInHeld xt = false then some (.eqa (op == .neq) ks a b) else none
          | none => none
        | _ => none
      | _ => some (.bin op a b)
    | _, _ => none
  | .unOp op _ x => (cOpd x).map (.un op)
  | .convert s d x => match cOpd x, P.underlying s, P.underlying d with
    | some a, some us, some ud => match us, ud with
      | .int _, .int k => some (.cvi k a)
      | .string, .string => some (.cvt a)
      | .string, .slice e => match P.underlying e with
        | some (.int .u8) => some (.cvs a)
        | _ => none
      | .slice e, .string => match P.underlying e with
        | some (.int .u8) => some (.cvb a)
        | _ => none
      | _, _ => none
    | _, _, _ => none
  | .makeInterface t x => match P.underlying t with
    | some (.interface _) | none => none
    | some _ => (cOpd x).map (.ifc t)
  | .makeFunc (.func f) first cap => match cOpds first.toList, cOpds cap.toList with
    | some a, some b => some (.mkfn f a b)
    | _, _ => none
  | .makeMap _ none => some .mkmap
  | .makeSlice t l c => match P.underlying t, cOpd l, cOpd c with
    | some (.slice e), some a, some b => match szT P e, zeroT P e, P.info? e with
      | some sz, some z, some i => if z.length = sz ∧ 0 < sz ∧ i.bytes ≤ 1024 ∧ z.all one = true then some (.mksl sz z i.bytes a b) else none
      | _, _, _ => none
    | _, _, _ => none
  | .slice t x lo hi mx => match P.underlying t, cOpd x, cOpt lo, cOpt hi, cOpt mx with
    | some .string, some a, some l, some h, some none => some (.ssl a l h)
    | some (.slice e), some a, some l, some h, some m => match szT P e with
      | some sz => if 0 < sz then some (.lsl sz a l h m) else none
      | none => none
    | some (.array n e), some a, some l, some h, some none => if szT P e = some 1 then some (.asl n a l h) else none
    | _, _, _, _, _ => none
  | .fieldAddr s x i => match P.underlying s, cOpd x with
    | some (.struct fs), some a => match fs[i]? with
      | some f => if szT P f.type = some 0 ∨ szT P f.type = none then none else some (.fad f.offset a)
      | none => none
    | _, _ => none
  | .field t x i => match P.underlying t, cOpd x with
    | some (.struct fs), some a => match fs[i]? with
      | some f => if isAggB P f.type then (szT P f.type).map fun n => .fld f.offset (some n) a else (if (P.underlying f.type).isSome then some (.fld f.offset none a) else none)
      | none => none
    | _, _ => none
  | .indexAddr t x i => match gOpd x with
    | some (g, k, l) => match P.underlying t, cOpd i with
      | some (.array n e), some b => if szT P e = some 1 ∧ n = l.length then some (.iag g k l b) else none
      | _, _ => none
    | none => match P.underlying t, cOpd x, cOpd i with
      | some (.slice e), some a, some b => (szT P e).map fun sz => .iad sz a b
      | some (.array n e), some a, some b => if szT P e = some 1 then some (.iaa n a b) else none
      | _, _, _ => none
  | .index t x i => match P.underlying t, cOpd x, cOpd i with
    | some .string, some a, some b => some (.ist a b)
    | some (.array n e), some a, some b => match szT P e, cks P 20 e with
      | some 1, some [ck] => if isAggB P e then none else some (.ixa n ck a b)
      | _, _ => none
    | _, _, _ => none
  | .extract x i => (cOpd x).map fun a => .ext a i
  | .lookup t x k ok => match P.underlying t, cOpd x, cOpd k with
    | some (.map kt e), some a, some b => match zero1 P e, P.underlying kt, cks P 20 e with
      | some z, some (.int _), some [ck] => if isAggB P e then none else some (.look false ck z ok a b)
      | some z, some .string, some [ck] => if isAggB P e then none else some (.look true ck z ok a b)
      | _, _, _ => none
    | _, _, _ => none
  | .mapUpdate t x k v => match P.underlying t, cOpd x, cOpd k, cOpd v with
    | some (.map kt _), some a, some b, some c => match P.underlying kt with
      | some (.int _) => some (.mput false a b c)
      | some .string => some (.mput true a b c)
      | _ => none
    | _, _, _, _ => none
  | .call c => match c.callee, cOpds c.args.toList with
    | .value (.func f), some xs => some (.call f xs)
    | .value (.tmp i), some xs => some (.callv (.t i) xs)
    | .invoke r nm, some xs => (cOpd r).map fun a => .inv a nm xs
    | .builtin .len, some [x] => match (c.argTypes[0]?).bind P.underlying with
      | some .string => some (.len true x)
      | some (.slice _) => some (.len false x)
      | some (.map _ _) => some (.lenm x)
      | _ => none
    | .builtin .append, some [x, y] => match (c.argTypes[0]?).bind P.underlying, (c.argTypes[1]?).bind P.underlying with
      | some (.slice e), some yt => match P.info? e, zeroT P e with
        | some i, some z => if z.length = i.size ∧ 0 < i.size ∧ i.bytes ≤ 1024 ∧ 0 < i.bytes ∧ isIntD yt = false then some (.app i.size x y) else none
        | _, _ => none
      | _, _ => none
    | .builtin .clear, some [x] => match (c.argTypes[0]?).bind P.underlying with
      | some (.slice e) => match szT P e, zeroT P e with
        | some n, some z => if z.length = n ∧ 0 < n ∧ z.all one = true then some (.clr n z x) else none
        | _, _ => none
      | _ => none
    | .builtin .copy, some [x, y] => match (c.argTypes[0]?).bind P.underlying with
      | some (.slice e) => match szT P e with
        | some n => if 0 < n then some (.cpy n x y) else none
        | none => none
      | _ => none
    | .builtin .delete, some [x, k] => match (c.argTypes[0]?).bind P.underlying with
      | some (.map kt _) => match P.underlying kt with
        | some (.int _) => some (.mdel false x k)
        | some .string => some (.mdel true x k)
        | _ => none
      | _ => none
    | .builtin .max, some xs => some (.mx xs)
    | .builtin .min, some xs => some (.mn xs)
    | _, _ => none
  | .typeAssert x xt to ok => match P.underlying to, cOpd x with
    | some (.interface _), _ => none
    | some _, some a => if ok then (zero1 P to).map fun z => .tas to (some z) a else some (.tas to none a)
    | _, _ => none
  | .range t x => match P.underlying t, cOpd x with
    | some (.map _ _), some a => some (.rng a)
    | _, _ => none
  | .next x false => (cOpd x).map .nxt
  | .entry x => (cOpd x).map .ent
  | .panic _ => some .other
  | _ => none

def gd (ops : Array Oper) (o : Oper) : Option (Option (Nat × Bool)) :=
  match o.guard with
  | none => some none
  | some (j, b) => ((ops[j]?).bind (·.dst)).map fun d => some (d, b)
def cOp (P : Program) (n : Nat) (ops : Array Oper) (i : Nat) : Option C :=
  match ops[i]? with
  | none => none
  | some o => match gd ops o, cO P o with
    | some g, some c => match o.dst with
      | none => some (.op g none c)
      | some d => if d < n then some (.op g (some d) c) else none
    | _, _ => none
def cOps (P : Program) (n : Nat) (ops : Array Oper) : List Nat → Option (List C)
  | [] => some []
  | i :: is => match cOp P n ops i, cOps P n ops is with
    | some c, some cs => some (c :: cs)
    | _, _ => none
def preds (o : Oper) : List Nat := o.after.toList.filterMap fun e => if Region.binds .any e then some e.on else none
def cDraw (P : Program) (n : Nat) (ops : Array Oper) : List Nat → Option (List (Option (Nat × Bool) × Option Nat × O × List Nat))
  | [] => some []
  | i :: is => match ops[i]?, cOp P n ops i, cDraw P n ops is with
    | some o, some (.op g d c), some cs => some ((g, d, c, preds o) :: cs)
    | _, _, _ => none
def cC (P : Program) (n : Nat) : Code → Option (List C)
  | .skip => some []
  | .region _ ops false => cOps P n ops (List.range ops.size)
  | .region _ ops true => (cDraw P n ops (List.range ops.size)).map fun r => [.draw r]
  | .seq a b => match cC P n a, cC P n b with
    | some x, some y => some (x ++ y)
    | _, _ => none
  | .cond x a b => match cOpd x, cC P n a, cC P n b with
    | some y, some p, some q => some [.cond y p q]
    | _, _, _ => none
  | .block id b => (cC P n b).map fun x => [.blk id x]
  | .loop b => (cC P n b).map fun x => [.loop x]
  | .exit id => some [.exit id]
  | .ret => some [.ret]
  | _ => none

/-! ### the evaluator -/
def ev (t : Tr) : Opd → Option AV
  | .t i => t.get i
  | .c v => some v
def evs (t : Tr) : List Opd → Option (List AV)
  | [] => some []
  | x :: xs => match ev t x, evs t xs with
    | some v, some vs => some (v :: vs)
    | _, _ => none

def nz : Nat → Bool
  | 0 => false
  | _ + 1 => true
def mg : Mem → Nat → Blk
  | [], _ => .gone
  | k :: _, 0 => k
  | _ :: m, b + 1 => mg m b
def ms : Mem → Nat → Blk → Mem
  | [], _, _ => []
  | _ :: m, 0, x => x :: m
  | k :: m, b + 1, x => k :: ms m b x
def lg : List AV → Nat → Option AV
  | [], _ => none
  | v :: _, 0 => some v
  | _ :: l, j + 1 => lg l j
def ls : List AV → Nat → AV → List AV
  | [], _, _ => []
  | _ :: l, 0, x => x :: l
  | v :: l, j + 1, x => v :: ls l j x
def ldr : Nat → List AV → List AV
  | 0, l => l
  | n + 1, [] => []
  | n + 1, _ :: l => ldr n l
def ltk : Nat → List AV → Option (List AV)
  | 0, _ => some []
  | _ + 1, [] => none
  | n + 1, v :: l => match ltk n l with
    | some r => some (v :: r)
    | none => none
def lput : List AV → Nat → List AV → Option (List AV)
  | l, _, [] => some l
  | [], _, _ :: _ => none
  | _ :: l, 0, v :: vs => match lput l 0 vs with
    | some r => some (v :: r)
    | none => none
  | u :: l, j + 1, vs => match lput l j vs with
    | some r => some (u :: r)
    | none => none

/-! What is read out of rows: total functions, and when they tell the truth. -/
def rint (xs : List (List AV)) (i j : Nat) : Int := match (xs.getD i []).getD j (.bool false) with | .int _ n => n | _ => 0
def rbool (xs : List (List AV)) (i j : Nat) : Bool := match (xs.getD i []).getD j (.bool false) with | .bool b => b | .bsym b => b | _ => false
def rstr (xs : List (List AV)) (i j : Nat) : List UInt8 := match (xs.getD i []).getD j (.bool false) with | .str s => s | _ => []
def hasI (k : IntKind) (xs : List (List AV)) (i j : Nat) : Prop := ∃ x n, xs[i]? = some x ∧ x[j]? = some (.int k n)
def hasB (xs : List (List AV)) (i j : Nat) : Prop := ∃ x b, xs[i]? = some x ∧ (x[j]? = some (.bool b) ∨ x[j]? = some (.bsym b))
def hasS (xs : List (List AV)) (i j : Nat) : Prop := ∃ x s, xs[i]? = some x ∧ x[j]? = some (.str s)
def rany (xs : List (List AV)) (i j : Nat) : AV := (xs.getD i []).getD j .nilptr
def hasA (xs : List (List AV)) (i j : Nat) : Prop := ∃ x u, xs[i]? = some x ∧ x[j]? = some u
def rd1 (k : CK) (xs : List (List AV)) (i j : Nat) : Option (Prop × AV) :=
  match k with
  | .int k => some (hasI k xs i j, .int k (rint xs i j))
  | .bool => some (hasB xs i j, .bsym (rbool xs i j))
  | .str => some (hasS xs i j, .str (rstr xs i j))
  | .any => some (hasA xs i j, rany xs i j)
def rdn : List CK → List (List AV) → Nat → Nat → Option (Prop × List AV)
  | [], _, _, _ => some (True, [])
  | k :: ks, xs, i, j => match rd1 k xs i j, rdn ks xs i (j + 1) with
    | some (p, v), some (q, vs) => some (p ∧ q, v :: vs)
    | _, _ => none
def rput (xs : List (List AV)) (i j : Nat) (vs : List AV) : List (List AV) :=
  xs.modify i fun x => x.take j ++ vs ++ x.drop (j + vs.length)
def inR (xs : List (List AV)) (i j n : Nat) : Prop := ∃ x, xs[i]? = some x ∧ j + n ≤ x.length

abbrev Rs := Option (Prop × AV × Mem)

def ldA (k : CK) (m : Mem) : AV → Rs
  | .pbox b j => match mg m b with
    | .box cs => match lg cs j with
      | some v => some (True, v, m)
      | none => none
    | _ => none
  | .parr b j i => match mg m b with
    | .box cs => match rd1 k (cs.map fun c => [c]) (j + i) 0 with
      | some (p, v) => some (p, v, m)
      | none => none
    | _ => none
  | .pelt b i j => match mg m b with
    | .row _ xs => match rd1 k xs i j with
      | some (p, v) => some (p, v, m)
      | none => none
    | _ => none
  | .pval _ xs i j => match rd1 k xs i j with
    | some (p, v) => some (p, v, m)
    | none => none
  | _ => none
def ldN (ks : List CK) (m : Mem) : AV → Rs
  | .pbox b j => match mg m b with
    | .box cs => match ltk ks.length (ldr j cs) with
      | some vs => some (True, .agg vs, m)
      | none => none
    | _ => none
  | .pelt b i j => match mg m b with
    | .row _ xs => match rdn ks xs i j with
      | some (p, vs) => some (p, .agg vs, m)
      | none => none
    | _ => none
  | .pval _ xs i j => match rdn ks xs i j with
    | some (p, vs) => some (p, .agg vs, m)
    | none => none
  | _ => none
def cells : AV → List AV
  | .agg cs => cs
  | v => [v]
mutual
def flat : AV → Bool
  | .bool _ | .bsym _ | .int _ _ | .str _ | .nilptr | .pval _ _ _ _ | .nilsl | .nil0 | .vsl _ _ _ | .nilmap | .nilfn | .nilif => true
  | .fn _ a b => flats a && flats b
  | .ifc _ v => flat v
  | .agg _ | .tup _ => false
  | _ => false
def flats : List AV → Bool
  | [] => true
  | v :: vs => flat v && flats vs
end
def stA (n : Nat) (m : Mem) (p v : AV) : Rs :=
  match nz n && n == (cells v).length && (cells v).all one with
  | false => none
  | true => match p with
    | .pbox b j => match mg m b with
      | .box cs => match lput cs j (cells v) with
        | some cs' => some (True, .tup [], ms m b (.box cs'))
        | none => none
      | _ => none
    | .parr b j i => match mg m b with
      | .box cs => match cells v with
        | [u] => some (j + i < cs.length, .tup [], ms m b (.box (cs.set (j + i) u)))
        | _ => none
      | _ => none
    | .pelt b i j => match mg m b with
      | .row sz xs => match flats (cells v) with
        | true => some (inR xs i j n, .tup [], ms m b (.row sz (rput xs i j (cells v))))
        | false => none
      | _ => none
    | _ => none

def iwrap (k : IntKind) (n : Int) : Int := k.wrap n
def ibits (op : BinOp) (k : IntKind) (x y : Int) : Int :=
  let a := BitVec.ofInt k.bits x
  let b := BitVec.ofInt k.bits y
  match op with
  | .and => k.wrap (a &&& b).toNat
  | .or => k.wrap (a ||| b).toNat
  | .xor => k.wrap (a ^^^ b).toNat
  | _ => k.wrap (a &&& ~~~b).toNat
def ishl (k : IntKind) (x y : Int) : Int := k.wrap (x * 2 ^ min y.toNat k.bits)
def ishr (k : IntKind) (x y : Int) : Int := x.fdiv (2 ^ min y.toNat k.bits)
def slt (x y : List UInt8) : Bool := Op.bytesLess x y
def seqb (x y : List UInt8) : Bool := x == y
def kd (a b : IntKind) : Bool := a == b
def small (n : Nat) : Prop := n ≤ 2 ^ 30

def binI (op : BinOp) (k : IntKind) (x y : Int) : Option (Prop × AV) :=
  match op with
  | .add => some (True, .int k (iwrap k (x + y)))
  | .sub => some (True, .int k (iwrap k (x - y)))
  | .mul => some (True, .int k (iwrap k (x * y)))
  | .quo => some (y ≠ 0, .int k (iwrap k (x.tdiv y)))
  | .rem => some (y ≠ 0, .int k (x.tmod y))
  | .and => some (True, .int k (ibits .and k x y))
  | .or => some (True, .int k (ibits .or k x y))
  | .xor => some (True, .int k (ibits .xor k x y))
  | .andNot => some (True, .int k (ibits .andNot k x y))
  | .eql => some (True, .bsym (x == y))
  | .neq => some (True, .bsym (x != y))
  | .lss => some (True, .bsym (decide (x < y)))
  | .leq => some (True, .bsym (decide (x ≤ y)))
  | .gtr => some (True, .bsym (decide (x > y)))
  | .geq => some (True, .bsym (decide (x ≥ y)))
  | _ => none
def binS (op : BinOp) (x y : List UInt8) : Option (Prop × AV) :=
  match op with
  | .add => some (x.length + y.length ≤ 2 ^ 62, .str (x ++ y))
  | .eql => some (True, .bsym (seqb x y))
  | .neq => some (True, .bsym (!seqb x y))
  | .lss => some (True, .bsym (slt x y))
  | .leq => some (True, .bsym (slt x y || seqb x y))
  | .gtr => some (True, .bsym (!(slt x y || seqb x y)))
  | .geq => some (True, .bsym (!slt x y))
  | _ => none
def bin (op : BinOp) : AV → AV → Option (Prop × AV)
  | .int k x, .int l y => match op with
    | .shl => some (0 ≤ y, .int k (ishl k x y))
    | .shr => some (0 ≤ y, .int k (ishr k x y))
    | _ => match kd k l with
      | true => binI op k x y
      | false => none
  | .str x, .str y => binS op x y
  | _, _ => none
def eqb (neg : Bool) : AV → AV → Option AV
  | .bool x, .bool y => some (.bsym (bif neg then !(x == y) else x == y))
  | .bool x, .bsym y => some (.bsym (bif neg then !(x == y) else x == y))
  | .bsym x, .bool y => some (.bsym (bif neg then !(x == y) else x == y))
  | .bsym x, .bsym y => some (.bsym (bif neg then !(x == y) else x == y))
  | _, _ => none
def isNil : AV → Option Bool
  | .nilptr | .nilmap | .nilfn => some true
  | .pbox _ _ | .parr _ _ _ | .pelt _ _ _ | .pval _ _ _ _ | .map _ | .fn _ _ _ => some false
  | _ => none
def isK : Nat → AV → Option Bool
  | 0, .nilptr => some true
  | 0, .pbox _ _ | 0, .parr _ _ _ | 0, .pelt _ _ _ | 0, .pval _ _ _ _ => some false
  | 1, .nilmap => some true
  | 1, .map _ => some false
  | 2, .nilfn => some true
  | 2, .fn _ _ _ => some false
  | _, _ => none
def eqp (k : Nat) (neg : Bool) (x y : AV) : Option AV :=
  match isK k x, isK k y with
  | some true, some true => some (.bool (!neg))
  | some true, some false => some (.bool neg)
  | some false, some true => some (.bool neg)
  | _, _ => none
def eqc : List CK → List AV → List AV → Option Bool
  | [], [], [] => some true
  | .int _ :: ks, .int k x :: l, .int k' y :: r => match kd k k', eqc ks l r with
    | true, some b => some (x == y && b)
    | _, _ => none
  | .str :: ks, .str x :: l, .str y :: r => match eqc ks l r with
    | some b => some (seqb x y && b)
    | none => none
  | .bool :: ks, .bsym x :: l, .bsym y :: r => match eqc ks l r with
    | some b => some ((x == y) && b)
    | none => none
  | .bool :: ks, .bool x :: l, .bsym y :: r => match eqc ks l r with
    | some b => some ((x == y) && b)
    | none => none
  | .bool :: ks, .bsym x :: l, .bool y :: r => match eqc ks l r with
    | some b => some ((x == y) && b)
    | none => none
  | .bool :: ks, .bool x :: l, .bool y :: r => match eqc ks l r with
    | some b => some ((x == y) && b)
    | none => none
  | _, _, _ => none
def un (op : UnOp) : AV → Option AV
  | .int k n => match op with
    | .neg => some (.int k (iwrap k (0 - n)))
    | .xor => some (.int k (ibits .xor k (bif k.signed then -1 else k.max) n))
    | _ => none
  | .bool b => match op with
    | .not => some (.bool (!b))
    | _ => none
  | .bsym b => match op with
    | .not => some (.bsym (!b))
    | _ => none
  | _ => none

def sub (xs : List (List AV)) (i n : Nat) : List (List AV) := (xs.drop i).take n
def ones (l : List AV) : List (List AV) := l.map fun c => [c]
def bytes (s : List UInt8) : List (List AV) := s.map fun b => [.int .u8 b.toNat]
def elems (sz : Nat) (m : Mem) : AV → Option (Prop × List (List AV) × Nat)
  | .nilsl => some (True, [], 0)
  | .vsl s xs _ => match s == sz with
    | true => some (True, xs, xs.length)
    | false => none
  | .sl b i n _ _ => match mg m b with
    | .row s xs => match s == sz with
      | true => some (i + n ≤ xs.length, sub xs i n, n)
      | false => none
    | _ => none
  | .str s => match sz == 1 with
    | true => some (True, bytes s, s.length)
    | false => none
  | _ => none
def toBytes (ys : List (List AV)) : List UInt8 := ys.map fun x => match x with | [.int _ n] => UInt8.ofNat n.toNat | _ => 0
def allU8 (ys : List (List AV)) : Prop := ∀ x ∈ ys, ∃ n : Int, x = [.int .u8 n]
def apA (sz : Nat) (m : Mem) (s x : AV) : Rs :=
  match elems sz m x with
  | none => none
  | some (p, ys, k) => match s with
    | .nilsl => some (p ∧ small k, .sl m.length 0 k k false, m ++ [.row sz ys])
    | .vsl s0 xs tight => match tight, s0 == sz with
      | true, true => some (p ∧ 0 < k ∧ small (xs.length + k), .sl m.length 0 (xs.length + k) (xs.length + k) false, m ++ [.row sz (xs ++ ys)])
      | _, _ => none
    | .sl b i n c _ => match mg m b with
      | .row s0 xs => match s0 == sz with
        | true => some (p ∧ i + n ≤ xs.length ∧ small (n + k), .sl m.length 0 (n + k) (max (n + k) c) false, ms m b .gone ++ [.row sz (sub xs i n ++ ys)])
        | false => none
      | _ => none
    | _ => none

def inb (k : Int) (n : Nat) : Prop := 0 ≤ k ∧ k < n
def addi (i : Nat) (k : Int) : Nat := i + k.toNat
def isRow (m : Mem) (b sz : Nat) : Bool := match mg m b with
  | .row s _ => s == sz
  | _ => false
def iadA (sz : Nat) (m : Mem) : AV → AV → Option (Prop × AV)
  | .sl b i n _ _, .int _ k => match isRow m b sz with
    | true => some (inb k n, .pelt b (addi i k) 0)
    | false => none
  | .asl b j i n _, .int _ k => match sz == 1 with
    | true => some (inb k n, .parr b j (addi i k))
    | false => none
  | .vsl s xs _, .int _ k => match s == sz with
    | true => some (inb k xs.length, .pval s xs (addi 0 k) 0)
    | false => none
  | _, _ => none
def sget (s : List UInt8) (k : Int) : Int := ((s.getD k.toNat 0).toNat : Int)
def ssub (s : List UInt8) (l h : Nat) : List UInt8 := (s.drop l).take (h - l)
def bnds (len : Nat) (t : Tr) (lo hi : Option Opd) (most : Nat) : Option (Prop × Nat × Nat) :=
  match lo, hi with
  | none, none => some (True, 0, len)
  | some l, none => match ev t l with
    | some (.int _ x) => some (0 ≤ x ∧ x ≤ (len : Int), x.toNat, len)
    | _ => none
  | none, some h => match ev t h with
    | some (.int _ y) => some (0 ≤ y ∧ y ≤ (most : Int), 0, y.toNat)
    | _ => none
  | some l, some h => match ev t l, ev t h with
    | some (.int _ x), some (.int _ y) => some (0 ≤ x ∧ x ≤ y ∧ y ≤ (most : Int), x.toNat, y.toNat)
    | _, _ => none
def tgt (hi : Option Opd) (b : Bool) : Bool := match hi with | none => b | some _ => false
def lslA (sz : Nat) (m : Mem) (x : AV) (t : Tr) (lo hi mx : Option Opd) : Option (Prop × AV) :=
  match x with
  | .nilsl => match mx with
    | none => match bnds 0 t lo hi 0 with
      | some (p, _, _) => some (p, .nilsl)
      | none => none
    | some _ => none
  | .vsl s xs tight => match s == sz with
    | false => none
    | true => match mx, hi with
      | none, _ => match bnds xs.length t lo hi xs.length with
        | some (p, l, h) => some (p, .vsl sz (sub xs l (h - l)) (tgt hi tight))
        | none => none
      | some m, some _ => match ev t m with
        | some (.int _ z) => match bnds xs.length t lo hi z.toNat with
          | some (p, l, h) => some (p ∧ 0 ≤ z ∧ z ≤ (xs.length : Int) ∧ z.toNat = h, .vsl sz (sub xs l (h - l)) true)
          | none => none
        | _ => none
      | some _, none => none
  | .sl b i n c tight => match isRow m b sz with
    | false => none
    | true => match mx, hi with
      | none, _ => match bnds n t lo hi c with
        | some (p, l, h) => some (p, .sl b (i + l) (h - l) (c - l) tight)
        | none => none
      | some m, some _ => match ev t m with
        | some (.int _ z) => match bnds n t lo hi z.toNat with
          | some (p, l, h) => some (p ∧ 0 ≤ z ∧ z ≤ (c : Int), .sl b (i + l) (h - l) (z.toNat - l) true)
          | none => none
        | _ => none
      | some _, none => none
  | .asl b j i n c => match sz == 1 with
    | false => none
    | true => match mx with
      | none => match bnds n t lo hi c with
        | some (p, l, h) => some (p, .asl b j (i + l) (h - l) (c - l))
        | none => none
      | some _ => none
  | _ => none

def fadA (off : Nat) : AV → Option AV
  | .pbox b j => some (.pbox b (j + off))
  | .pelt b i j => some (.pelt b i (j + off))
  | .pval s xs i j => some (.pval s xs i (j + off))
  | _ => none
def bputs : List AV → List (Nat × Nat × Opd) → Tr → Option (List AV)
  | z, [], _ => some z
  | z, (o, n, x) :: ps, t => match ev t x with
    | some v => match nz n && n == (cells v).length && (cells v).all one with
      | true => match lput z o (cells v) with
        | some z' => bputs z' ps t
        | none => none
      | false => none
    | none => none
def repN : Nat → List AV → List (List AV)
  | 0, _ => []
  | n + 1, z => z :: repN n z
theorem repN_eq : ∀ (n : Nat) (z : List AV), repN n z = List.replicate n z
  | 0, _ => rfl
  | n + 1, z => by simp [repN, repN_eq n z, List.replicate_succ]
def slits (sz : Nat) : List (List AV) → List (Nat × Opd) → Tr → Option (List (List AV))
  | rows, [], _ => some rows
  | rows, (i, x) :: ps, t => match ev t x with
    | some v => match sz == (cells v).length && (cells v).all one && flats (cells v) with
      | true => match Nat.blt i rows.length with
        | true => slits sz (rows.set i (cells v)) ps t
        | false => none
      | false => none
    | none => none
def lenA (s : Bool) : AV → Option AV
  | .str l => match s with
    | true => some (.int .i64 l.length)
    | false => none
  | .nilsl => match s with
    | true => none
    | false => some (.int .i64 0)
  | .sl _ _ n _ _ => match s with
    | true => none
    | false => some (.int .i64 n)
  | .asl _ _ _ n _ => match s with
    | true => none
    | false => some (.int .i64 n)
  | .vsl _ xs _ => match s with
    | true => none
    | false => some (.int .i64 xs.length)
  | _ => none
def mxI : List AV → Option AV
  | [.int k x, .int k' y] => match kd k k' with
    | true => some (.int k (if y > x then y else x))
    | false => none
  | _ => none
def mnI : List AV → Option AV
  | [.int k x, .int k' y] => match kd k k' with
    | true => some (.int k (if y < x then y else x))
    | false => none
  | _ => none

/-! ### maps -/
def keq : AV → AV → Bool
  | .int k x, .int l y => kd k l && (x == y)
  | .str x, .str y => seqb x y
  | _, _ => false
def keyOk : AV → AV → Prop
  | .int k _, .int l _ => k = l
  | .str _, .str _ => True
  | _, _ => False
def keysOk : List (AV × AV) → AV → Prop
  | [], _ => True
  | e :: es, k => keyOk k e.1 ∧ keysOk es k
def isKey : Bool → AV → Bool
  | false, .int _ _ => true
  | true, .str _ => true
  | _, _ => false
def mfind : List (AV × AV) → AV → Option AV
  | [], _ => none
  | e :: es, k => bif keq k e.1 then some e.2 else mfind es k
def mset : List (AV × AV) → AV → AV → List (AV × AV)
  | [], k, v => [(k, v)]
  | e :: es, k, v => bif keq k e.1 then (e.1, v) :: es else e :: mset es k v
def mdel : List (AV × AV) → AV → List (AV × AV)
  | [], _ => []
  | e :: es, k => bif keq k e.1 then es else e :: mdel es k
def mint (es : List (AV × AV)) (k : AV) : Int := match mfind es k with | some (.int _ n) => n | _ => 0
def mbool (es : List (AV × AV)) (k : AV) : Bool := match mfind es k with | some (.bool b) => b | some (.bsym b) => b | _ => false
def mstr (es : List (AV × AV)) (k : AV) : List UInt8 := match mfind es k with | some (.str s) => s | _ => []
def mhas (es : List (AV × AV)) (k : AV) : Bool := (mfind es k).isSome
def valI (c : IntKind) (es : List (AV × AV)) (k : AV) : Prop := ∀ v, mfind es k = some v → ∃ n, v = .int c n
def valB (es : List (AV × AV)) (k : AV) : Prop := ∀ v, mfind es k = some v → ∃ b, v = .bool b ∨ v = .bsym b
def valS (es : List (AV × AV)) (k : AV) : Prop := ∀ v, mfind es k = some v → ∃ s, v = .str s
def okv (ok : Bool) (v : AV) (b : Bool) : AV := match ok with | true => .tup [v, .bsym b] | false => v
def lookA (ck : CK) (zero : AV) (ok : Bool) (es : List (AV × AV)) (k : AV) : Option (Prop × AV) :=
  match ck, zero with
  | .int c, .int c' z => match kd c c', z == 0 with
    | true, true => some (keysOk es k ∧ valI c es k, okv ok (.int c (mint es k)) (mhas es k))
    | _, _ => none
  | .bool, .bool z => match z with
    | false => some (keysOk es k ∧ valB es k, okv ok (.bsym (mbool es k)) (mhas es k))
    | true => none
  | .str, .str z => match z with
    | [] => some (keysOk es k ∧ valS es k, okv ok (.str (mstr es k)) (mhas es k))
    | _ => none
  | _, z => match mfind es k with
    | some v => some (keysOk es k, okv ok v true)
    | none => some (keysOk es k, okv ok z false)

def ao (o : O) (t : Tr) (m : Mem) : Rs :=
  match o with
  | .mv x => match ev t x with
    | some v => some (True, v, m)
    | none => none
  | .pick c a b => match ev t c with
    | some (.bool true) => match ev t a with
      | some v => some (True, v, m)
      | none => none
    | some (.bool false) => match ev t b with
      | some v => some (True, v, m)
      | none => none
    | _ => none
  | .alloc cs => some (True, .pbox m.length 0, m ++ [.box cs])
  | .box x => match ev t x with
    | some v => some (True, .pbox m.length 0, m ++ [.box (cells v)])
    | none => none
  | .build z ps => match bputs z ps t with
    | some cs => some (True, .agg cs, m)
    | none => none
  | .bsl sz z n ps => match slits sz (repN n z) ps t with
    | some rows => match rows with
      | [] => some (True, .nilsl, m)
      | _ => some (True, .vsl sz rows true, m)
    | none => none
  | .ld k a => match ev t a with
    | some p => ldA k m p
    | none => none
  | .ldn ks a => match ev t a with
    | some p => ldN ks m p
    | none => none
  | .st n a v => match ev t a, ev t v with
    | some p, some x => stA n m p x
    | _, _ => none
  | .nck x => match ev t x with
    | some v => match isNil v with
      | some false => some (True, v, m)
      | _ => none
    | none => none
  | .bin op x y => match ev t x, ev t y with
    | some a, some b => match bin op a b with
      | some (p, v) => some (p, v, m)
      | none => none
    | _, _ => none
  | .eqp k neg x y => match ev t x, ev t y with
    | some a, some b => match eqp k neg a b with
      | some v => some (True, v, m)
      | none => none
    | _, _ => none
  | .eqb neg x y => match ev t x, ev t y with
    | some a, some b => match eqb neg a b with
      | some v => some (True, v, m)
      | none => none
    | _, _ => none
  | .eqa neg ks x y => match ev t x, ev t y with
    | some (.agg cs), some (.agg ds) => match eqc ks cs ds with
      | some b => some (True, .bsym (bif neg then !b else b), m)
      | none => none
    | _, _ => none
  | .cpy sz x y => match ev t x, ev t y with
    | some (.sl b i n _ _), some v => match mg m b, elems sz m v with
      | .row s xs, some (p, ys, k) => match s == sz with
        | true => some (p ∧ i + n ≤ xs.length, .int .i64 (min k n : Nat), ms m b (.row s (xs.take i ++ ys.take (min k n) ++ xs.drop (i + min k n))))
        | false => none
      | _, _ => none
    | _, _ => none
  | .clr sz z x => match ev t x with
    | some (.sl b i n _ _) => match mg m b, flats z with
      | .row s xs, true => match s == sz with
        | true => some (i + n ≤ xs.length, .tup [], ms m b (.row s (xs.take i ++ List.replicate n z ++ xs.drop (i + n))))
        | false => none
      | _, _ => none
    | some .nilsl => some (True, .tup [], m)
    | _ => none
  | .look s ck z ok x k => match ev t x, ev t k with
    | some (.map b), some k => match mg m b, isKey s k with
      | .map es, true => match lookA ck z ok es k with
        | some (p, v) => some (p, v, m)
        | none => none
      | _, _ => none
    | some .nilmap, some k => match isKey s k with
      | true => match lookA ck z ok [] k with
        | some (p, v) => some (p, v, m)
        | none => none
      | false => none
    | _, _ => none
  | .mput s x k v => match ev t x, ev t k, ev t v with
    | some (.map b), some k, some v => match mg m b, isKey s k && one v with
      | .map es, true => some (keysOk es k, .tup [], ms m b (.map (mset es k v)))
      | _, _ => none
    | _, _, _ => none
  | .mdel s x k => match ev t x, ev t k with
    | some (.map b), some k => match mg m b, isKey s k with
      | .map es, true => some (keysOk es k, .tup [], ms m b (.map (mdel es k)))
      | _, _ => none
    | some .nilmap, some k => match isKey s k with
      | true => some (True, .tup [], m)
      | false => none
    | _, _ => none
  | .lenm x => match ev t x with
    | some (.map b) => match mg m b with
      | .map es => some (True, .int .i64 es.length, m)
      | _ => none
    | some .nilmap => some (True, .int .i64 0, m)
    | _ => none
  | .un op x => match ev t x with
    | some a => match un op a with
      | some v => some (True, v, m)
      | none => none
    | none => none
  | .cvi k x => match ev t x with
    | some (.int _ n) => some (True, .int k (iwrap k n), m)
    | _ => none
  | .cvt x => match ev t x with
    | some (.str s) => some (True, .str s, m)
    | _ => none
  | .cvb x => match ev t x with
    | some (.str _) => none
    | some v => match elems 1 m v with
      | some (p, ys, _) => some (p ∧ allU8 ys, .str (toBytes ys), m)
      | none => none
    | none => none
  | .cvs x => match ev t x with
    | some (.str s) => some (small s.length, .sl m.length 0 s.length s.length false, m ++ [.row 1 (bytes s)])
    | _ => none
  | .ifc ty x => match ev t x with
    | some v => some (True, .ifc ty v, m)
    | none => none
  | .mkfn f a c => match evs t a, evs t c with
    | some x, some y => some (True, .fn f x y, m)
    | _, _ => none
  | .mkmap => some (True, .map m.length, m ++ [.map []])
  | .mksl sz z by_ l c => match ev t l, ev t c with
    | some (.int .i64 x), some (.int .i64 y) => some (0 ≤ x ∧ x = y ∧ small y.toNat, .sl m.length 0 x.toNat x.toNat false, m ++ [.row sz (List.replicate x.toNat z)])
    | _, _ => none
  | .ssl x lo hi => match ev t x with
    | some (.str s) => match bnds s.length t lo hi s.length with
      | some (p, l, h) => some (p, .str (ssub s l h), m)
      | none => none
    | _ => none
  | .lsl sz x lo hi mx => match ev t x with
    | some v => match lslA sz m v t lo hi mx with
      | some (p, u) => some (p, u, m)
      | none => none
    | none => none
  | .asl n x lo hi => match ev t x with
    | some (.pbox b j) => match bnds n t lo hi n, mg m b with
      | some (p, l, h), .box cs => some (p ∧ j + n ≤ cs.length, .asl b j l (h - l) (n - l), m)
      | _, _ => none
    | _ => none
  | .fad off x => match ev t x with
    | some p => match fadA off p with
      | some v => some (True, v, m)
      | none => none
    | none => none
  | .fld off n x => match ev t x with
    | some (.agg cs) => match n with
      | none => match lg cs off with
        | some v => some (True, v, m)
        | none => none
      | some k => match ltk k (ldr off cs) with
        | some vs => some (True, .agg vs, m)
        | none => none
    | _ => none
  | .iad sz x i => match ev t x, ev t i with
    | some a, some b => match iadA sz m a b with
      | some (p, v) => some (p, v, m)
      | none => none
    | _, _ => none
  | .iaa n x i => match ev t x, ev t i with
    | some (.pbox b j), some (.int _ k) => some (inb k n, .parr b j k.toNat, m)
    | _, _ => none
  | .iag g k l i => match ev t i with
    | some (.int _ z) => some (inb z l.length, .pval 1 (l.map fun n => [.int k n]) z.toNat 0, m)
    | _ => none
  | .ist x i => match ev t x, ev t i with
    | some (.str s), some (.int _ k) => some (inb k s.length, .int .u8 (sget s k), m)
    | _, _ => none
  | .ixa n ck x i => match ev t x, ev t i with
    | some (.agg cs), some (.int _ k) => match rd1 ck (ones cs) k.toNat 0 with
      | some (q, v) => some (inb k n ∧ q, v, m)
      | none => none
    | _, _ => none
  | .ext x i => match ev t x with
    | some (.tup vs) => match lg vs i with
      | some v => some (True, v, m)
      | none => none
    | _ => none
  | .len s x => match ev t x with
    | some a => match lenA s a with
      | some v => some (True, v, m)
      | none => none
    | none => none
  | .app sz x y => match ev t x, ev t y with
    | some a, some b => apA sz m a b
    | _, _ => none
  | .mx xs => match evs t xs with
    | some l => match mxI l with
      | some v => some (True, v, m)
      | none => none
    | none => none
  | .mn xs => match evs t xs with
    | some l => match mnI l with
      | some v => some (True, v, m)
      | none => none
    | none => none
  | _ => none

def exk (id : Nat) : List C → Option (List C)
  | [] => none
  | c :: k => match c with
    | .endb j => match Nat.beq j id with
      | true => some k
      | false => exk id k
    | _ => exk id k
def sp (d : Option Nat) (t : Tr) (v : AV) : Tr := match d with | some i => t.set i v | none => t
def fk (q : Bool) (A B : Prop) : Prop := (q = true → A) ∧ (q = false → B)
theorem fk_true (A B : Prop) : fk true A B = A := by simp [fk]
theorem fk_false (A B : Prop) : fk false A B = B := by simp [fk]
theorem fk_def (q : Bool) (A B : Prop) : fk q A B = ((q = true → A) ∧ (q = false → B)) := rfl
def exec (S : List C → Tr → Mem → (Exit → Tr → Mem → Prop) → Prop) : Nat → List C → Tr → Mem → (Exit → Tr → Mem → Prop) → Prop
  | 0, k, t, m, Q => S k t m Q
  | _ + 1, [], t, m, Q => Q .normal t m
  | n + 1, c :: k, t, m, Q => match c with
    | .ret => Q .ret t m
    | .endb _ => exec S n k t m Q
    | .exit id => match exk id k with
      | some k' => exec S n k' t m Q
      | none => Q (.exit id) t m
    | .blk id b => exec S n (b ++ .endb id :: k) t m Q
    | .cond x a b => match ev t x with
      | some (.bool true) => exec S n (a ++ k) t m Q
      | some (.bool false) => exec S n (b ++ k) t m Q
      | some (.bsym q) => fk q (exec S n (a ++ k) t m Q) (exec S n (b ++ k) t m Q)
      | _ => S (c :: k) t m Q
    | .op g d o => match g with
      | none => match ao o t m with
        | some (p, v, m') => p ∧ exec S n k (sp d t v) m' Q
        | none => S (c :: k) t m Q
      | some (j, w) => match t.get j, w with
        | some (.bool true), true => match ao o t m with
          | some (p, v, m') => p ∧ exec S n k (sp d t v) m' Q
          | none => S (c :: k) t m Q
        | some (.bool false), false => match ao o t m with
          | some (p, v, m') => p ∧ exec S n k (sp d t v) m' Q
          | none => S (c :: k) t m Q
        | some (.bool _), _ => exec S n k (sp d t (.tup [])) m Q
        | some (.tup _), _ => exec S n k (sp d t (.tup [])) m Q
        | some (.bsym q), _ => fk q (exec S n (c :: k) (t.set j (.bool true)) m Q) (exec S n (c :: k) (t.set j (.bool false)) m Q)
        | _, _ => S (c :: k) t m Q
    | _ => S (c :: k) t m Q
end Go.AE
