/- The abstract evaluator, part r: the words of an evaluation. -/
import Derived.Test.YtcenagdeejbmgaaAEq
namespace Go.AE
open Go
set_option linter.unusedVariables false
set_option linter.unusedSimpArgs false

theorem asB_bool (b : Bool) : asB (.bool b) = .bool b := rfl
theorem asB_bsym (b : Bool) : asB (.bsym b) = .bool b := rfl
theorem asB_int (k : IntKind) (n : Int) : asB (.int k n) = .int k n := rfl
theorem asB_str (s : List UInt8) : asB (.str s) = .str s := rfl
theorem asB_tup (s : List AV) : asB (.tup s) = .tup s := rfl
theorem asB_agg (s : List AV) : asB (.agg s) = .agg s := rfl
theorem asS_bool (b : Bool) : asS (.bool b) = .bsym b := rfl
theorem asS_bsym (b : Bool) : asS (.bsym b) = .bsym b := rfl
theorem blt_dec (a b : Nat) : Nat.blt a b = decide (a < b) := by
  cases h : Nat.blt a b with
  | true => simp only [Nat.blt_eq] at h; simp [h]
  | false => simp only [Nat.blt_eq, ← Bool.not_eq_true] at h; simp [h]
attribute [go_sem ↓] fk_true fk_false
attribute [go_sem] fk_def asB_bool asB_bsym asB_int asB_str asB_tup asB_agg asS_bool asS_bsym blt_dec List.contains_cons List.contains_nil Bool.or_false Bool.false_or Nxt exec ao bin binI binS ev evs sp Tr.get Tr.set Tr.put mkT mg ms lg ls ldr ltk lput kd isNil isK fadA ldA ldN stA cells nz Rt RtR res resV resVs one eqp eqb un
  lenA keysOk keyOk isKey mfind mset mdel keq lookA okv eqc lenA iadA isRow lslA bnds tgt elems apA bputs slits exk mxI mnI inb flat flats gok rd1 rdn
  List.length_cons List.length_nil List.all_cons List.all_nil List.cons_append List.nil_append repN List.set_cons_zero List.set_cons_succ List.append_nil List.map_cons List.map_nil List.drop_succ_cons List.drop_zero List.take_succ_cons List.take_zero Bool.and_true Bool.true_and Bool.and_false Bool.false_and true_and and_true cond_true cond_false
  Nat.reduceAdd Nat.reduceMod Nat.reduceDiv Nat.reduceBEq Nat.reduceSub Nat.reduceLT Nat.reduceLeDiff beq_self_eq_true decide_true decide_false Bool.not_true Bool.not_false Nat.beq
  ids idss idsP idsB idsM embT embM idsT fixed below chk nodupN rid ren rens renP renB mrg mkP ne_eq not_true_eq_false not_false_eq_true reduceCtorEq
  Int.reduceLE Int.reduceLT Int.reduceEq Int.reduceNe Int.reduceToNat Int.reduceAdd Int.reduceSub Int.reduceNeg Int.reduceBEq Int.reduceBNe decide_eq_true_eq decide_eq_false_iff_not eq_self true_implies Bool.false_eq_true Bool.true_eq_false false_implies implies_true forall_const and_self
end Go.AE
