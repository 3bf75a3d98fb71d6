/- Compact codes, printed by gen.py from the given form; each is checked by its theorem. -/
import Derived.Test.YtpggjeeoknjnjaaAEzb
import Derived.Test.YtpggjeeoknjnjaaProg
import Derived.KernelRfl
namespace Go.AEX
open Go Go.AE Go.Proofs
set_option maxRecDepth 100000

def c3 : List C :=
  [C.op none (some 2) (O.mv (Opd.c (AV.bool false))), C.op none (some 3) (O.mv (Opd.t 0)),
    C.op none (some 4) (O.len false (Opd.t 3)),
    C.op none (some 5) (O.bin BinOp.gtr (Opd.t 4) (Opd.c (AV.int IntKind.i64 20))),
    C.cond (Opd.t 5)
      [C.op none (some 6) (O.mv (Opd.t 0)),
        C.op none (some 7) (O.lsl 1 (Opd.t 6) none (some (Opd.c (AV.int IntKind.i64 20))) none),
        C.op none (some 0) (O.mv (Opd.t 7))]
      [],
    C.op none (some 8) (O.call 11 []), C.op none (some 9) (O.mv (Opd.t 8)),
    C.op (some (9, true)) (some 10) (O.mv (Opd.t 0)), C.op (some (9, true)) (some 11) (O.call 12 [Opd.t 10]),
    C.op (some (9, true)) (some 12) (O.mv (Opd.t 0)), C.op (some (9, true)) (some 13) (O.call 13 [Opd.t 12]),
    C.op (some (9, true)) (some 14) (O.bin BinOp.eql (Opd.t 11) (Opd.t 13)),
    C.op none (some 15) (O.pick (Opd.t 9) (Opd.t 14) (Opd.c (AV.bool false))), C.op none (some 16) (O.mv (Opd.t 15)),
    C.op (some (16, true)) (some 17) (O.call 12 [Opd.c AV.nilsl]),
    C.op (some (16, true)) (some 18) (O.bin BinOp.eql (Opd.t 17) (Opd.c (AV.int IntKind.u64 0))),
    C.op none (some 19) (O.pick (Opd.t 16) (Opd.t 18) (Opd.c (AV.bool false))), C.op none (some 2) (O.mv (Opd.t 19)),
    C.ret]
def r3 : List RV := [RV.t 2]
theorem c3_ok : cC Try.prog Try.f3.ntmps (Try.f3.body.getD .skip) = some c3 := by kernel_rfl

def c4 : List C :=
  [C.op none (some 2) (O.mv (Opd.c (AV.bool false))), C.op none (some 3) (O.mv (Opd.t 0)),
    C.op none (some 4) (O.call 14 [Opd.t 3, Opd.c (AV.int IntKind.i64 200)]),
    C.op none (some 0) (O.mv (Opd.t 4)), C.op none (some 5) (O.call 15 []), C.op none (some 6) (O.mv (Opd.t 5)),
    C.op (some (6, true)) (some 7) (O.mv (Opd.t 0)),
    C.op (some (6, true)) (some 8) (O.bsl 1 [AV.str []] 1 [(0, Opd.t 7)]),
    C.op (some (6, true)) (some 9) (O.call 16 [Opd.t 8]), C.op (some (6, true)) (some 10) (O.mv (Opd.t 0)),
    C.op (some (6, true)) (some 11) (O.call 17 [Opd.t 10]),
    C.op (some (6, true)) (some 12) (O.bin BinOp.eql (Opd.t 9) (Opd.t 11)),
    C.op none (some 13) (O.pick (Opd.t 6) (Opd.t 12) (Opd.c (AV.bool false))), C.op none (some 14) (O.mv (Opd.t 13)),
    C.op (some (14, true)) (some 15) (O.mv (Opd.t 0)),
    C.op (some (14, true)) (some 16) (O.bsl 1 [AV.str []] 1 [(0, Opd.t 15)]),
    C.op (some (14, true)) (some 17) (O.call 18 [Opd.t 16]), C.op (some (14, true)) (some 18) (O.mv (Opd.t 0)),
    C.op (some (14, true)) (some 19) (O.call 19 [Opd.t 18]),
    C.op (some (14, true)) (some 20) (O.bin BinOp.eql (Opd.t 17) (Opd.t 19)),
    C.op none (some 21) (O.pick (Opd.t 14) (Opd.t 20) (Opd.c (AV.bool false))), C.op none (some 2) (O.mv (Opd.t 21)),
    C.ret]
def r4 : List RV := [RV.t 2]
theorem c4_ok : cC Try.prog Try.f4.ntmps (Try.f4.body.getD .skip) = some c4 := by kernel_rfl

def c5 : List C :=
  [C.op none (some 2) (O.mv (Opd.c (AV.bool false))), C.op none (some 10) (O.mv (Opd.t 0)),
    C.op none (some 11)
      (O.call 20 [Opd.t 10, Opd.c (AV.int IntKind.i64 8), Opd.c (AV.int IntKind.i64 40)]),
    C.op none (some 9) (O.mv (Opd.t 11)), C.op none (some 12) (O.ext (Opd.t 9) 0),
    C.op none (some 13) (O.ext (Opd.t 9) 1), C.op none (some 3) (O.mv (Opd.t 12)), C.op none (some 4) (O.mv (Opd.t 13)),
    C.op none (some 14) (O.call 15 []), C.op none (some 15) (O.un UnOp.not (Opd.t 14)),
    C.cond (Opd.t 15) [C.op none (some 2) (O.mv (Opd.c (AV.bool false))), C.ret] [],
    C.op none (some 5) (O.mv (Opd.c (AV.int IntKind.u64 14695981039346656037))),
    C.op none (some 6) (O.mv (Opd.c (AV.int IntKind.u32 0))), C.op none (some 16) (O.mv (Opd.t 3)),
    C.op none (some 17) (O.len false (Opd.t 16)), C.op none (some 18) (O.mv (Opd.c (AV.int IntKind.i64 0))),
    C.blk 0
      [C.loop
          [C.op none (some 19) (O.bin BinOp.lss (Opd.t 18) (Opd.t 17)), C.cond (Opd.t 19) [] [C.exit 0],
            C.blk 1
              [C.op none (some 20) (O.iad 1 (Opd.t 16) (Opd.t 18)), C.op none (some 21) (O.ld CK.str (Opd.t 20)),
                C.op none (some 8) (O.mv (Opd.t 21)), C.op none (some 22) (O.mv (Opd.t 5)),
                C.op none (some 23) (O.mv (Opd.t 8)), C.op none (some 24) (O.bsl 1 [AV.str []] 1 [(0, Opd.t 23)]),
                C.op none (some 25) (O.call 21 [Opd.t 22, Opd.t 24]), C.op none (some 5) (O.mv (Opd.t 25)),
                C.op none (some 26) (O.mv (Opd.t 6)), C.op none (some 27) (O.mv (Opd.t 8)),
                C.op none (some 28) (O.bsl 1 [AV.str []] 1 [(0, Opd.t 27)]),
                C.op none (some 29) (O.call 22 [Opd.t 26, Opd.t 28]), C.op none (some 6) (O.mv (Opd.t 29))],
            C.op none (some 30) (O.bin BinOp.add (Opd.t 18) (Opd.c (AV.int IntKind.i64 1))),
            C.op none (some 18) (O.mv (Opd.t 30))]],
    C.op none (some 31) (O.mv (Opd.t 5)), C.op none (some 32) (O.mv (Opd.t 4)),
    C.op none (some 33) (O.call 17 [Opd.t 32]), C.op none (some 34) (O.bin BinOp.eql (Opd.t 31) (Opd.t 33)),
    C.op none (some 35) (O.mv (Opd.t 34)), C.op (some (35, true)) (some 36) (O.mv (Opd.t 6)),
    C.op (some (35, true)) (some 37) (O.mv (Opd.t 4)), C.op (some (35, true)) (some 38) (O.call 19 [Opd.t 37]),
    C.op (some (35, true)) (some 39) (O.bin BinOp.eql (Opd.t 36) (Opd.t 38)),
    C.op none (some 40) (O.pick (Opd.t 35) (Opd.t 39) (Opd.c (AV.bool false))), C.op none (some 41) (O.mv (Opd.t 40)),
    C.op (some (41, true)) (some 42) (O.mv (Opd.t 3)), C.op (some (41, true)) (some 43) (O.call 16 [Opd.t 42]),
    C.op (some (41, true)) (some 44) (O.mv (Opd.t 4)), C.op (some (41, true)) (some 45) (O.call 17 [Opd.t 44]),
    C.op (some (41, true)) (some 46) (O.bin BinOp.eql (Opd.t 43) (Opd.t 45)),
    C.op none (some 47) (O.pick (Opd.t 41) (Opd.t 46) (Opd.c (AV.bool false))), C.op none (some 48) (O.mv (Opd.t 47)),
    C.op (some (48, true)) (some 49) (O.mv (Opd.t 3)), C.op (some (48, true)) (some 50) (O.call 18 [Opd.t 49]),
    C.op (some (48, true)) (some 51) (O.mv (Opd.t 4)), C.op (some (48, true)) (some 52) (O.call 19 [Opd.t 51]),
    C.op (some (48, true)) (some 53) (O.bin BinOp.eql (Opd.t 50) (Opd.t 52)),
    C.op none (some 54) (O.pick (Opd.t 48) (Opd.t 53) (Opd.c (AV.bool false))), C.op none (some 55) (O.mv (Opd.t 54)),
    C.op (some (55, true)) (some 56) (O.call 18 [Opd.c AV.nilsl]), C.op (some (55, true)) (some 57) (O.mv (Opd.t 3)),
    C.op (some (55, true)) (some 58) (O.call 22 [Opd.t 56, Opd.t 57]),
    C.op (some (55, true)) (some 59) (O.mv (Opd.t 6)),
    C.op (some (55, true)) (some 60) (O.bin BinOp.eql (Opd.t 58) (Opd.t 59)),
    C.op none (some 61) (O.pick (Opd.t 55) (Opd.t 60) (Opd.c (AV.bool false))), C.op none (some 2) (O.mv (Opd.t 61)),
    C.ret]
def r5 : List RV := [RV.t 2]
theorem c5_ok : cC Try.prog Try.f5.ntmps (Try.f5.body.getD .skip) = some c5 := by kernel_rfl

def c6 : List C :=
  [C.op none (some 6) (O.mv (Opd.c (AV.bool false))), C.op none (some 8) (O.mv (Opd.t 0)),
    C.op none (some 9) (O.call 14 [Opd.t 8, Opd.c (AV.int IntKind.i64 200)]),
    C.op none (some 0) (O.mv (Opd.t 9)), C.op none (some 10) (O.call 15 []),
    C.op none (some 11) (O.un UnOp.not (Opd.t 10)), C.op none (some 12) (O.mv (Opd.t 11)),
    C.op (some (12, false)) (some 13) (O.mv (Opd.t 1)),
    C.op (some (12, false)) (some 14) (O.bin BinOp.lss (Opd.t 13) (Opd.c (AV.int IntKind.i64 0))),
    C.op none (some 15) (O.pick (Opd.t 12) (Opd.c (AV.bool true)) (Opd.t 14)), C.op none (some 16) (O.mv (Opd.t 15)),
    C.op (some (16, false)) (some 17) (O.mv (Opd.t 1)), C.op (some (16, false)) (some 18) (O.mv (Opd.t 0)),
    C.op (some (16, false)) (some 19) (O.len true (Opd.t 18)),
    C.op (some (16, false)) (some 20) (O.bin BinOp.geq (Opd.t 17) (Opd.t 19)),
    C.op none (some 21) (O.pick (Opd.t 16) (Opd.c (AV.bool true)) (Opd.t 20)), C.op none (some 22) (O.mv (Opd.t 21)),
    C.op (some (22, false)) (some 23) (O.mv (Opd.t 2)),
    C.op (some (22, false)) (some 24) (O.bin BinOp.eql (Opd.t 23) (Opd.c (AV.int IntKind.u8 0))),
    C.op none (some 25) (O.pick (Opd.t 22) (Opd.c (AV.bool true)) (Opd.t 24)),
    C.cond (Opd.t 25) [C.op none (some 26) (O.call 15 []), C.op none (some 6) (O.mv (Opd.t 26)), C.ret] [],
    C.op none (some 27) (O.mv (Opd.t 0)), C.op none (some 28) (O.cvs (Opd.t 27)), C.op none (some 7) (O.mv (Opd.t 28)),
    C.op none (some 29) (O.mv (Opd.t 7)), C.op none (some 30) (O.mv (Opd.t 1)),
    C.op none (some 31) (O.iad 1 (Opd.t 29) (Opd.t 30)), C.op none (some 32) (O.ld (CK.int IntKind.u8) (Opd.t 31)),
    C.op none (some 33) (O.mv (Opd.t 2)), C.op none (some 34) (O.bin BinOp.xor (Opd.t 32) (Opd.t 33)),
    C.op none (some 35) (O.iad 1 (Opd.t 29) (Opd.t 30)), C.op none none (O.st 1 (Opd.t 35) (Opd.t 34)),
    C.op none (some 36) (O.mv (Opd.t 7)), C.op none (some 37) (O.cvb (Opd.t 36)),
    C.op none (some 38) (O.bsl 1 [AV.str []] 1 [(0, Opd.t 37)]), C.op none (some 39) (O.call 18 [Opd.t 38]),
    C.op none (some 40) (O.mv (Opd.t 0)), C.op none (some 41) (O.bsl 1 [AV.str []] 1 [(0, Opd.t 40)]),
    C.op none (some 42) (O.call 18 [Opd.t 41]), C.op none (some 43) (O.bin BinOp.neq (Opd.t 39) (Opd.t 42)),
    C.op none (some 6) (O.mv (Opd.t 43)), C.ret]
def r6 : List RV := [RV.t 6]
theorem c6_ok : cC Try.prog Try.f6.ntmps (Try.f6.body.getD .skip) = some c6 := by kernel_rfl

def c7 : List C :=
  [C.op none (some 4) (O.mv (Opd.c (AV.bool false))), C.op none (some 6) (O.mv (Opd.t 0)),
    C.op none (some 7) (O.bin BinOp.and (Opd.t 6) (Opd.c (AV.int IntKind.i64 15))),
    C.op none (some 8) (O.mksl 1 [AV.str []] 16 (Opd.t 7) (Opd.t 7)), C.op none (some 5) (O.mv (Opd.t 8)),
    C.op none (some 9) (O.call 15 []), C.op none (some 10) (O.mv (Opd.t 9)),
    C.op (some (10, true)) (some 11) (O.mv (Opd.t 5)), C.op (some (10, true)) (some 12) (O.call 16 [Opd.t 11]),
    C.op (some (10, true)) (some 13)
      (O.bin BinOp.eql (Opd.t 12) (Opd.c (AV.int IntKind.u64 14695981039346656037))),
    C.op none (some 14) (O.pick (Opd.t 10) (Opd.t 13) (Opd.c (AV.bool false))), C.op none (some 15) (O.mv (Opd.t 14)),
    C.op (some (15, true)) (some 16) (O.mv (Opd.t 5)), C.op (some (15, true)) (some 17) (O.call 18 [Opd.t 16]),
    C.op (some (15, true)) (some 18) (O.bin BinOp.eql (Opd.t 17) (Opd.c (AV.int IntKind.u32 0))),
    C.op none (some 19) (O.pick (Opd.t 15) (Opd.t 18) (Opd.c (AV.bool false))), C.op none (some 20) (O.mv (Opd.t 19)),
    C.op (some (20, true)) (some 21) (O.mv (Opd.t 1)), C.op (some (20, true)) (some 22) (O.mv (Opd.t 5)),
    C.op (some (20, true)) (some 23) (O.call 22 [Opd.t 21, Opd.t 22]),
    C.op (some (20, true)) (some 24) (O.mv (Opd.t 1)),
    C.op (some (20, true)) (some 25) (O.bin BinOp.eql (Opd.t 23) (Opd.t 24)),
    C.op none (some 26) (O.pick (Opd.t 20) (Opd.t 25) (Opd.c (AV.bool false))), C.op none (some 27) (O.mv (Opd.t 26)),
    C.op (some (27, true)) (some 28) (O.mv (Opd.t 5)),
    C.op (some (27, true)) (some 29)
      (O.call 21 [Opd.c (AV.int IntKind.u64 14695981039346656037), Opd.t 28]),
    C.op (some (27, true)) (some 30)
      (O.bin BinOp.eql (Opd.t 29) (Opd.c (AV.int IntKind.u64 14695981039346656037))),
    C.op none (some 31) (O.pick (Opd.t 27) (Opd.t 30) (Opd.c (AV.bool false))), C.op none (some 4) (O.mv (Opd.t 31)),
    C.ret]
def r7 : List RV := [RV.t 4]
theorem c7_ok : cC Try.prog Try.f7.ntmps (Try.f7.body.getD .skip) = some c7 := by kernel_rfl

def c8 : List C :=
  [C.op none (some 6) (O.mv (Opd.c (AV.bool false))), C.op none (some 9) (O.call 11 []),
    C.op none (some 10) (O.un UnOp.not (Opd.t 9)),
    C.cond (Opd.t 10) [C.op none (some 6) (O.mv (Opd.c (AV.bool false))), C.ret] [],
    C.op none (some 11) (O.mv (Opd.t 0)), C.op none (some 12) (O.call 23 [Opd.t 11]),
    C.op none (some 7) (O.mv (Opd.t 12)), C.op none (some 13) (O.mv (Opd.t 1)),
    C.op none (some 14) (O.bin BinOp.and (Opd.t 13) (Opd.c (AV.int IntKind.i64 31))),
    C.op none (some 15) (O.mv (Opd.c (AV.int IntKind.i64 0))),
    C.blk 0
      [C.loop
          [C.op none (some 16) (O.bin BinOp.lss (Opd.t 15) (Opd.t 14)), C.cond (Opd.t 16) [] [C.exit 0],
            C.blk 1 [C.op none (some 17) (O.mv (Opd.t 7)), C.op none (some 18) (O.call 24 [Opd.t 17])],
            C.op none (some 19) (O.bin BinOp.add (Opd.t 15) (Opd.c (AV.int IntKind.i64 1))),
            C.op none (some 15) (O.mv (Opd.t 19))]],
    C.op none (some 20) (O.mv (Opd.t 7)), C.op none (some 21) (O.call 25 [Opd.t 20]),
    C.op none (some 22) (O.call 23 [Opd.t 21]), C.op none (some 8) (O.mv (Opd.t 22)),
    C.op none (some 23) (O.mv (Opd.t 2)),
    C.op none (some 24) (O.bin BinOp.and (Opd.t 23) (Opd.c (AV.int IntKind.i64 31))),
    C.op none (some 25) (O.mv (Opd.c (AV.int IntKind.i64 0))),
    C.blk 2
      [C.loop
          [C.op none (some 26) (O.bin BinOp.lss (Opd.t 25) (Opd.t 24)), C.cond (Opd.t 26) [] [C.exit 2],
            C.blk 3
              [C.op none (some 27) (O.mv (Opd.t 7)), C.op none (some 28) (O.call 24 [Opd.t 27]),
                C.op none (some 29) (O.mv (Opd.t 8)), C.op none (some 30) (O.call 24 [Opd.t 29]),
                C.op none (some 31) (O.bin BinOp.neq (Opd.t 28) (Opd.t 30)), C.op none (some 32) (O.mv (Opd.t 31)),
                C.op (some (32, false)) (some 33) (O.mv (Opd.t 7)),
                C.op (some (32, false)) (some 34) (O.call 25 [Opd.t 33]),
                C.op (some (32, false)) (some 35) (O.mv (Opd.t 8)),
                C.op (some (32, false)) (some 36) (O.call 25 [Opd.t 35]),
                C.op (some (32, false)) (some 37) (O.bin BinOp.neq (Opd.t 34) (Opd.t 36)),
                C.op none (some 38) (O.pick (Opd.t 32) (Opd.c (AV.bool true)) (Opd.t 37)),
                C.cond (Opd.t 38) [C.op none (some 6) (O.mv (Opd.c (AV.bool false))), C.ret] []],
            C.op none (some 39) (O.bin BinOp.add (Opd.t 25) (Opd.c (AV.int IntKind.i64 1))),
            C.op none (some 25) (O.mv (Opd.t 39))]],
    C.op none (some 40) (O.mv (Opd.t 7)),
    C.op none (some 41) (O.call 26 [Opd.t 40, Opd.c (AV.int IntKind.i64 100)]),
    C.op none (some 42) (O.mv (Opd.t 8)),
    C.op none (some 43) (O.call 26 [Opd.t 42, Opd.c (AV.int IntKind.i64 100)]),
    C.op none (some 44) (O.bin BinOp.eql (Opd.t 41) (Opd.t 43)), C.op none (some 6) (O.mv (Opd.t 44)), C.ret]
def r8 : List RV := [RV.t 6]
theorem c8_ok : cC Try.prog Try.f8.ntmps (Try.f8.body.getD .skip) = some c8 := by kernel_rfl

def c9 : List C :=
  [C.op none (some 6) (O.mv (Opd.c (AV.bool false))), C.op none (some 12) (O.call 11 []),
    C.op none (some 13) (O.un UnOp.not (Opd.t 12)),
    C.cond (Opd.t 13) [C.op none (some 6) (O.mv (Opd.c (AV.bool false))), C.ret] [],
    C.op none (some 14) (O.mv (Opd.t 1)),
    C.op none (some 15) (O.bin BinOp.and (Opd.t 14) (Opd.c (AV.int IntKind.i64 65535))),
    C.op none (some 16) (O.bin BinOp.add (Opd.c (AV.int IntKind.i64 1)) (Opd.t 15)),
    C.op none (some 1) (O.mv (Opd.t 16)), C.op none (some 17) (O.mv (Opd.t 0)),
    C.op none (some 18) (O.call 23 [Opd.t 17]), C.op none (some 19) (O.mv (Opd.t 0)),
    C.op none (some 20) (O.call 23 [Opd.t 19]), C.op none (some 21) (O.mv (Opd.t 0)),
    C.op none (some 22) (O.bin BinOp.add (Opd.t 21) (Opd.c (AV.int IntKind.u64 1))),
    C.op none (some 23) (O.call 23 [Opd.t 22]), C.op none (some 7) (O.mv (Opd.t 18)),
    C.op none (some 8) (O.mv (Opd.t 20)), C.op none (some 9) (O.mv (Opd.t 23)), C.op none (some 24) (O.mv (Opd.t 2)),
    C.op none (some 25) (O.bin BinOp.and (Opd.t 24) (Opd.c (AV.int IntKind.i64 31))),
    C.op none (some 26) (O.mv (Opd.c (AV.int IntKind.i64 0))),
    C.blk 0
      [C.loop
          [C.op none (some 27) (O.bin BinOp.lss (Opd.t 26) (Opd.t 25)), C.cond (Opd.t 27) [] [C.exit 0],
            C.blk 1
              [C.op none (some 28) (O.mv (Opd.t 9)), C.op none (some 29) (O.call 24 [Opd.t 28]),
                C.op none (some 30) (O.mv (Opd.t 7)), C.op none (some 31) (O.mv (Opd.t 1)),
                C.op none (some 32) (O.call 26 [Opd.t 30, Opd.t 31]), C.op none (some 33) (O.mv (Opd.t 8)),
                C.op none (some 34) (O.mv (Opd.t 1)),
                C.op none (some 35) (O.bin BinOp.mul (Opd.c (AV.int IntKind.i64 2)) (Opd.t 34)),
                C.op none (some 36) (O.call 26 [Opd.t 33, Opd.t 35]), C.op none (some 10) (O.mv (Opd.t 32)),
                C.op none (some 11) (O.mv (Opd.t 36)), C.op none (some 37) (O.mv (Opd.t 10)),
                C.op none (some 38) (O.mv (Opd.t 11)),
                C.op none (some 39) (O.bin BinOp.quo (Opd.t 38) (Opd.c (AV.int IntKind.i64 2))),
                C.op none (some 40) (O.bin BinOp.neq (Opd.t 37) (Opd.t 39)), C.op none (some 41) (O.mv (Opd.t 40)),
                C.op (some (41, false)) (some 42) (O.mv (Opd.t 7)),
                C.op (some (41, false)) (some 43) (O.call 25 [Opd.t 42]),
                C.op (some (41, false)) (some 44) (O.mv (Opd.t 8)),
                C.op (some (41, false)) (some 45) (O.call 25 [Opd.t 44]),
                C.op (some (41, false)) (some 46) (O.bin BinOp.neq (Opd.t 43) (Opd.t 45)),
                C.op none (some 47) (O.pick (Opd.t 41) (Opd.c (AV.bool true)) (Opd.t 46)),
                C.cond (Opd.t 47) [C.op none (some 6) (O.mv (Opd.c (AV.bool false))), C.ret] []],
            C.op none (some 48) (O.bin BinOp.add (Opd.t 26) (Opd.c (AV.int IntKind.i64 1))),
            C.op none (some 26) (O.mv (Opd.t 48))]],
    C.op none (some 49) (O.mv (Opd.t 7)), C.op none (some 50) (O.call 24 [Opd.t 49]),
    C.op none (some 51) (O.mv (Opd.t 8)), C.op none (some 52) (O.call 24 [Opd.t 51]),
    C.op none (some 53) (O.bin BinOp.eql (Opd.t 50) (Opd.t 52)), C.op none (some 6) (O.mv (Opd.t 53)), C.ret]
def r9 : List RV := [RV.t 6]
theorem c9_ok : cC Try.prog Try.f9.ntmps (Try.f9.body.getD .skip) = some c9 := by kernel_rfl

def c10 : List C :=
  [C.op none (some 4) (O.mv (Opd.c (AV.bool false))), C.op none (some 14) (O.call 11 []),
    C.op none (some 15) (O.un UnOp.not (Opd.t 14)),
    C.cond (Opd.t 15) [C.op none (some 4) (O.mv (Opd.c (AV.bool false))), C.ret] [],
    C.op none (some 16) (O.mv (Opd.t 0)), C.op none (some 17) (O.call 23 [Opd.t 16]),
    C.op none (some 5) (O.mv (Opd.t 17)), C.op none (some 18) (O.mv (Opd.t 0)), C.op none (some 6) (O.mv (Opd.t 18)),
    C.op none (some 7) (O.mv (Opd.c (AV.int IntKind.i64 0))),
    C.blk 0
      [C.loop
          [C.op none (some 19) (O.mv (Opd.t 7)), C.op none (some 20) (O.mv (Opd.t 1)),
            C.op none (some 21) (O.len false (Opd.t 20)), C.op none (some 22) (O.bin BinOp.lss (Opd.t 19) (Opd.t 21)),
            C.op none (some 23) (O.mv (Opd.t 22)), C.op (some (23, true)) (some 24) (O.mv (Opd.t 7)),
            C.op (some (23, true)) (some 25) (O.bin BinOp.lss (Opd.t 24) (Opd.c (AV.int IntKind.i64 100))),
            C.op none (some 26) (O.pick (Opd.t 23) (Opd.t 25) (Opd.c (AV.bool false))), C.cond (Opd.t 26) [] [C.exit 0],
            C.blk 1
              [C.op none (some 29) (O.mv (Opd.t 7)),
                C.op none (some 30) (O.bin BinOp.rem (Opd.t 29) (Opd.c (AV.int IntKind.i64 3))),
                C.op none (some 31) (O.bin BinOp.eql (Opd.t 30) (Opd.c (AV.int IntKind.i64 2))),
                C.cond (Opd.t 31)
                  [C.op none (some 32) (O.mv (Opd.t 5)), C.op none (some 33) (O.call 24 [Opd.t 32]),
                    C.op none (some 8) (O.mv (Opd.t 33)), C.op none (some 35) (O.mv (Opd.t 6)),
                    C.op none (some 36) (O.call 27 [Opd.t 35]), C.op none (some 34) (O.mv (Opd.t 36)),
                    C.op none (some 37) (O.ext (Opd.t 34) 0), C.op none (some 38) (O.ext (Opd.t 34) 1),
                    C.op none (some 9) (O.mv (Opd.t 37)), C.op none (some 10) (O.mv (Opd.t 38)),
                    C.op none (some 39) (O.mv (Opd.t 9)), C.op none (some 6) (O.mv (Opd.t 39)),
                    C.op none (some 40) (O.mv (Opd.t 8)), C.op none (some 41) (O.mv (Opd.t 10)),
                    C.op none (some 42) (O.bin BinOp.neq (Opd.t 40) (Opd.t 41)),
                    C.cond (Opd.t 42) [C.op none (some 4) (O.mv (Opd.c (AV.bool false))), C.ret] []]
                  [C.op none (some 43) (O.mv (Opd.t 5)), C.op none (some 44) (O.mv (Opd.t 1)),
                    C.op none (some 45) (O.mv (Opd.t 7)), C.op none (some 46) (O.iad 1 (Opd.t 44) (Opd.t 45)),
                    C.op none (some 47) (O.ld (CK.int IntKind.i64) (Opd.t 46)),
                    C.op none (some 48) (O.call 26 [Opd.t 43, Opd.t 47]), C.op none (some 11) (O.mv (Opd.t 48)),
                    C.op none (some 50) (O.mv (Opd.t 6)), C.op none (some 51) (O.mv (Opd.t 1)),
                    C.op none (some 52) (O.mv (Opd.t 7)), C.op none (some 53) (O.iad 1 (Opd.t 51) (Opd.t 52)),
                    C.op none (some 54) (O.ld (CK.int IntKind.i64) (Opd.t 53)),
                    C.op none (some 55) (O.call 28 [Opd.t 50, Opd.t 54]), C.op none (some 49) (O.mv (Opd.t 55)),
                    C.op none (some 56) (O.ext (Opd.t 49) 0), C.op none (some 57) (O.ext (Opd.t 49) 1),
                    C.op none (some 12) (O.mv (Opd.t 56)), C.op none (some 13) (O.mv (Opd.t 57)),
                    C.op none (some 58) (O.mv (Opd.t 12)), C.op none (some 6) (O.mv (Opd.t 58)),
                    C.op none (some 59) (O.mv (Opd.t 11)), C.op none (some 60) (O.mv (Opd.t 13)),
                    C.op none (some 61) (O.bin BinOp.neq (Opd.t 59) (Opd.t 60)), C.op none (some 62) (O.mv (Opd.t 61)),
                    C.op (some (62, false)) (some 63) (O.mv (Opd.t 11)),
                    C.op (some (62, false)) (some 64)
                      (O.bin BinOp.lss (Opd.t 63) (Opd.c (AV.int IntKind.i64 0))),
                    C.op none (some 65) (O.pick (Opd.t 62) (Opd.c (AV.bool true)) (Opd.t 64)),
                    C.op none (some 66) (O.mv (Opd.t 65)), C.op (some (66, false)) (some 67) (O.mv (Opd.t 1)),
                    C.op (some (66, false)) (some 68) (O.mv (Opd.t 7)),
                    C.op (some (66, false)) (some 69) (O.iad 1 (Opd.t 67) (Opd.t 68)),
                    C.op (some (66, false)) (some 70) (O.ld (CK.int IntKind.i64) (Opd.t 69)),
                    C.op (some (66, false)) (some 71)
                      (O.bin BinOp.gtr (Opd.t 70) (Opd.c (AV.int IntKind.i64 0))),
                    C.op (some (66, false)) (some 72) (O.mv (Opd.t 71)),
                    C.op (some (72, true)) (some 73) (O.mv (Opd.t 11)),
                    C.op (some (72, true)) (some 74) (O.mv (Opd.t 1)),
                    C.op (some (72, true)) (some 75) (O.mv (Opd.t 7)),
                    C.op (some (72, true)) (some 76) (O.iad 1 (Opd.t 74) (Opd.t 75)),
                    C.op (some (72, true)) (some 77) (O.ld (CK.int IntKind.i64) (Opd.t 76)),
                    C.op (some (72, true)) (some 78) (O.bin BinOp.geq (Opd.t 73) (Opd.t 77)),
                    C.op (some (66, false)) (some 79) (O.pick (Opd.t 72) (Opd.t 78) (Opd.c (AV.bool false))),
                    C.op none (some 80) (O.pick (Opd.t 66) (Opd.c (AV.bool true)) (Opd.t 79)),
                    C.op none (some 81) (O.mv (Opd.t 80)), C.op (some (81, false)) (some 82) (O.mv (Opd.t 1)),
                    C.op (some (81, false)) (some 83) (O.mv (Opd.t 7)),
                    C.op (some (81, false)) (some 84) (O.iad 1 (Opd.t 82) (Opd.t 83)),
                    C.op (some (81, false)) (some 85) (O.ld (CK.int IntKind.i64) (Opd.t 84)),
                    C.op (some (81, false)) (some 86)
                      (O.bin BinOp.lss (Opd.t 85) (Opd.c (AV.int IntKind.i64 1))),
                    C.op (some (81, false)) (some 87) (O.mv (Opd.t 86)),
                    C.op (some (87, true)) (some 88) (O.mv (Opd.t 11)),
                    C.op (some (87, true)) (some 89)
                      (O.bin BinOp.neq (Opd.t 88) (Opd.c (AV.int IntKind.i64 0))),
                    C.op (some (81, false)) (some 90) (O.pick (Opd.t 87) (Opd.t 89) (Opd.c (AV.bool false))),
                    C.op none (some 91) (O.pick (Opd.t 81) (Opd.c (AV.bool true)) (Opd.t 90)),
                    C.cond (Opd.t 91) [C.op none (some 4) (O.mv (Opd.c (AV.bool false))), C.ret] []],
                C.op none (some 92) (O.mv (Opd.t 5)), C.op none (some 93) (O.call 25 [Opd.t 92]),
                C.op none (some 94) (O.mv (Opd.t 6)), C.op none (some 95) (O.bin BinOp.neq (Opd.t 93) (Opd.t 94)),
                C.op none (some 96) (O.mv (Opd.t 95)), C.op (some (96, false)) (some 97) (O.mv (Opd.t 5)),
                C.op (some (96, false)) (some 98) (O.call 29 [Opd.t 97]),
                C.op (some (96, false)) (some 99) (O.mv (Opd.t 6)),
                C.op (some (96, false)) (some 100) (O.call 30 [Opd.t 99]),
                C.op (some (96, false)) (some 101) (O.bin BinOp.neq (Opd.t 98) (Opd.t 100)),
                C.op none (some 102) (O.pick (Opd.t 96) (Opd.c (AV.bool true)) (Opd.t 101)),
                C.cond (Opd.t 102) [C.op none (some 4) (O.mv (Opd.c (AV.bool false))), C.ret] []],
            C.op none (some 27) (O.mv (Opd.t 7)),
            C.op none (some 28) (O.bin BinOp.add (Opd.t 27) (Opd.c (AV.int IntKind.i64 1))),
            C.op none (some 7) (O.mv (Opd.t 28))]],
    C.op none (some 4) (O.mv (Opd.c (AV.bool true))), C.ret]
def r10 : List RV := [RV.t 4]
theorem c10_ok : cC Try.prog Try.f10.ntmps (Try.f10.body.getD .skip) = some c10 := by kernel_rfl

def c11 : List C :=
  [C.op none (some 0) (O.mv (Opd.c (AV.bool false))),
    C.op none (some 2) (O.call 23 [Opd.c (AV.int IntKind.u64 0)]), C.op none (some 1) (O.mv (Opd.t 2)),
    C.op none (some 3) (O.mv (Opd.t 1)), C.op none (some 4) (O.eqp 0 true (Opd.t 3) (Opd.c AV.nilptr)),
    C.op none (some 5) (O.mv (Opd.t 4)), C.op (some (5, true)) (some 6) (O.mv (Opd.t 1)),
    C.op (some (5, true)) (some 7) (O.call 24 [Opd.t 6]),
    C.op (some (5, true)) (some 8)
      (O.bin BinOp.eql (Opd.t 7) (Opd.c (AV.int IntKind.u64 16294208416658607535))),
    C.op none (some 9) (O.pick (Opd.t 5) (Opd.t 8) (Opd.c (AV.bool false))), C.op none (some 0) (O.mv (Opd.t 9)), C.ret]
def r11 : List RV := [RV.t 0]
theorem c11_ok : cC Try.prog Try.f11.ntmps (Try.f11.body.getD .skip) = some c11 := by kernel_rfl

def c12 : List C :=
  [C.op none (some 2) (O.mv (Opd.c (AV.int IntKind.u64 0))),
    C.op none (some 6) (O.call 23 [Opd.c (AV.int IntKind.u64 0)]), C.op none (some 3) (O.mv (Opd.t 6)),
    C.op none (some 7) (O.mv (Opd.t 0)), C.op none (some 8) (O.len false (Opd.t 7)),
    C.op none (some 9) (O.mv (Opd.c (AV.int IntKind.i64 0))),
    C.blk 0
      [C.loop
          [C.op none (some 10) (O.bin BinOp.lss (Opd.t 9) (Opd.t 8)), C.cond (Opd.t 10) [] [C.exit 0],
            C.blk 1
              [C.op none (some 11) (O.iad 1 (Opd.t 7) (Opd.t 9)),
                C.op none (some 12) (O.ld (CK.int IntKind.u64) (Opd.t 11)), C.op none (some 5) (O.mv (Opd.t 12)),
                C.op none (some 13) (O.mv (Opd.t 3)), C.op none (some 14) (O.nck (Opd.t 13)),
                C.op none (some 15) (O.fad 0 (Opd.t 14)), C.op none (some 16) (O.ld (CK.int IntKind.u64) (Opd.t 15)),
                C.op none (some 17) (O.mv (Opd.t 5)), C.op none (some 18) (O.bin BinOp.xor (Opd.t 16) (Opd.t 17)),
                C.op none (some 19) (O.nck (Opd.t 13)), C.op none (some 20) (O.fad 0 (Opd.t 19)),
                C.op none none (O.st 1 (Opd.t 20) (Opd.t 18)), C.op none (some 21) (O.mv (Opd.t 3)),
                C.op none (some 22) (O.mv (Opd.t 3)), C.op none (some 23) (O.call 24 [Opd.t 22]),
                C.op none (some 24) (O.nck (Opd.t 21)), C.op none (some 25) (O.fad 0 (Opd.t 24)),
                C.op none none (O.st 1 (Opd.t 25) (Opd.t 23))],
            C.op none (some 26) (O.bin BinOp.add (Opd.t 9) (Opd.c (AV.int IntKind.i64 1))),
            C.op none (some 9) (O.mv (Opd.t 26))]],
    C.op none (some 27) (O.mv (Opd.t 3)), C.op none (some 28) (O.nck (Opd.t 27)),
    C.op none (some 29) (O.fad 0 (Opd.t 28)), C.op none (some 30) (O.ld (CK.int IntKind.u64) (Opd.t 29)),
    C.op none (some 2) (O.mv (Opd.t 30)), C.ret]
def r12 : List RV := [RV.t 2]
theorem c12_ok : cC Try.prog Try.f12.ntmps (Try.f12.body.getD .skip) = some c12 := by kernel_rfl

def c13 : List C :=
  [C.op none (some 2) (O.mv (Opd.c (AV.int IntKind.u64 0))),
    C.op none (some 3) (O.mv (Opd.c (AV.int IntKind.u64 0))), C.op none (some 8) (O.mv (Opd.t 0)),
    C.op none (some 9) (O.len false (Opd.t 8)), C.op none (some 10) (O.mv (Opd.c (AV.int IntKind.i64 0))),
    C.blk 0
      [C.loop
          [C.op none (some 11) (O.bin BinOp.lss (Opd.t 10) (Opd.t 9)), C.cond (Opd.t 11) [] [C.exit 0],
            C.blk 1
              [C.op none (some 12) (O.iad 1 (Opd.t 8) (Opd.t 10)),
                C.op none (some 13) (O.ld (CK.int IntKind.u64) (Opd.t 12)), C.op none (some 5) (O.mv (Opd.t 13)),
                C.op none (some 15) (O.mv (Opd.t 3)), C.op none (some 16) (O.mv (Opd.t 5)),
                C.op none (some 17) (O.bin BinOp.xor (Opd.t 15) (Opd.t 16)), C.op none (some 18) (O.call 27 [Opd.t 17]),
                C.op none (some 14) (O.mv (Opd.t 18)), C.op none (some 19) (O.ext (Opd.t 14) 0),
                C.op none (some 20) (O.ext (Opd.t 14) 1), C.op none (some 6) (O.mv (Opd.t 19)),
                C.op none (some 7) (O.mv (Opd.t 20)), C.op none (some 21) (O.mv (Opd.t 7)),
                C.op none (some 3) (O.mv (Opd.t 21))],
            C.op none (some 22) (O.bin BinOp.add (Opd.t 10) (Opd.c (AV.int IntKind.i64 1))),
            C.op none (some 10) (O.mv (Opd.t 22))]],
    C.op none (some 23) (O.mv (Opd.t 3)), C.op none (some 2) (O.mv (Opd.t 23)), C.ret]
def r13 : List RV := [RV.t 2]
theorem c13_ok : cC Try.prog Try.f13.ntmps (Try.f13.body.getD .skip) = some c13 := by kernel_rfl

def c14 : List C :=
  [C.op none (some 4) (O.mv (Opd.c (AV.str []))), C.op none (some 5) (O.mv (Opd.t 0)),
    C.op none (some 6) (O.len true (Opd.t 5)), C.op none (some 7) (O.mv (Opd.t 1)),
    C.op none (some 8) (O.bin BinOp.gtr (Opd.t 6) (Opd.t 7)),
    C.cond (Opd.t 8)
      [C.op none (some 9) (O.mv (Opd.t 0)), C.op none (some 10) (O.mv (Opd.t 1)),
        C.op none (some 11) (O.ssl (Opd.t 9) none (some (Opd.t 10))), C.op none (some 4) (O.mv (Opd.t 11)), C.ret]
      [],
    C.op none (some 12) (O.mv (Opd.t 0)), C.op none (some 4) (O.mv (Opd.t 12)), C.ret]
def r14 : List RV := [RV.t 4]
theorem c14_ok : cC Try.prog Try.f14.ntmps (Try.f14.body.getD .skip) = some c14 := by kernel_rfl

def c15 : List C :=
  [C.op none (some 0) (O.mv (Opd.c (AV.bool false))),
    C.op none (some 1)
      (O.bsl 1 [AV.str []] 1
        [(0, Opd.c (AV.str [97]))]),
    C.op none (some 2) (O.call 16 [Opd.t 1]),
    C.op none (some 3) (O.bin BinOp.eql (Opd.t 2) (Opd.c (AV.int IntKind.u64 12638187200555641996))),
    C.op none (some 4) (O.mv (Opd.t 3)),
    C.op (some (4, true)) (some 5)
      (O.bsl 1 [AV.str []] 1
        [(0,
            Opd.c
              (AV.str
                [49,
                  50,
                  51,
                  52,
                  53,
                  54,
                  55,
                  56,
                  57]))]),
    C.op (some (4, true)) (some 6) (O.call 18 [Opd.t 5]),
    C.op (some (4, true)) (some 7) (O.bin BinOp.eql (Opd.t 6) (Opd.c (AV.int IntKind.u32 3421780262))),
    C.op none (some 8) (O.pick (Opd.t 4) (Opd.t 7) (Opd.c (AV.bool false))), C.op none (some 0) (O.mv (Opd.t 8)), C.ret]
def r15 : List RV := [RV.t 0]
theorem c15_ok : cC Try.prog Try.f15.ntmps (Try.f15.body.getD .skip) = some c15 := by kernel_rfl

def c16 : List C :=
  [C.op none (some 2) (O.mv (Opd.c (AV.int IntKind.u64 0))), C.op none (some 3) (O.mv (Opd.t 0)),
    C.op none (some 4) (O.call 21 [Opd.c (AV.int IntKind.u64 14695981039346656037), Opd.t 3]),
    C.op none (some 2) (O.mv (Opd.t 4)), C.ret]
def r16 : List RV := [RV.t 2]
theorem c16_ok : cC Try.prog Try.f16.ntmps (Try.f16.body.getD .skip) = some c16 := by kernel_rfl

def c17 : List C :=
  [C.op none (some 2) (O.mv (Opd.c (AV.int IntKind.u64 0))),
    C.op none (some 3) (O.mv (Opd.c (AV.int IntKind.u64 14695981039346656037))),
    C.op none (some 4) (O.mv (Opd.c (AV.int IntKind.i64 0))),
    C.blk 0
      [C.loop
          [C.op none (some 5) (O.mv (Opd.t 4)), C.op none (some 6) (O.mv (Opd.t 0)),
            C.op none (some 7) (O.len true (Opd.t 6)), C.op none (some 8) (O.bin BinOp.lss (Opd.t 5) (Opd.t 7)),
            C.cond (Opd.t 8) [] [C.exit 0],
            C.blk 1
              [C.op none (some 11) (O.mv (Opd.t 3)), C.op none (some 12) (O.mv (Opd.t 0)),
                C.op none (some 13) (O.mv (Opd.t 4)), C.op none (some 14) (O.ist (Opd.t 12) (Opd.t 13)),
                C.op none (some 15) (O.cvi IntKind.u64 (Opd.t 14)),
                C.op none (some 16) (O.bin BinOp.xor (Opd.t 11) (Opd.t 15)),
                C.op none (some 17) (O.bin BinOp.mul (Opd.t 16) (Opd.c (AV.int IntKind.u64 1099511628211))),
                C.op none (some 3) (O.mv (Opd.t 17))],
            C.op none (some 9) (O.mv (Opd.t 4)),
            C.op none (some 10) (O.bin BinOp.add (Opd.t 9) (Opd.c (AV.int IntKind.i64 1))),
            C.op none (some 4) (O.mv (Opd.t 10))]],
    C.op none (some 18) (O.mv (Opd.t 3)), C.op none (some 2) (O.mv (Opd.t 18)), C.ret]
def r17 : List RV := [RV.t 2]
theorem c17_ok : cC Try.prog Try.f17.ntmps (Try.f17.body.getD .skip) = some c17 := by kernel_rfl

def c18 : List C :=
  [C.op none (some 2) (O.mv (Opd.c (AV.int IntKind.u32 0))), C.op none (some 3) (O.mv (Opd.t 0)),
    C.op none (some 4) (O.call 22 [Opd.c (AV.int IntKind.u32 0), Opd.t 3]),
    C.op none (some 2) (O.mv (Opd.t 4)), C.ret]
def r18 : List RV := [RV.t 2]
theorem c18_ok : cC Try.prog Try.f18.ntmps (Try.f18.body.getD .skip) = some c18 := by kernel_rfl

def c19 : List C :=
  [C.op none (some 2) (O.mv (Opd.c (AV.int IntKind.u32 0))),
    C.op none (some 3) (O.mv (Opd.c (AV.int IntKind.u32 4294967295))),
    C.op none (some 4) (O.mv (Opd.c (AV.int IntKind.i64 0))),
    C.blk 0
      [C.loop
          [C.op none (some 8) (O.mv (Opd.t 4)), C.op none (some 9) (O.mv (Opd.t 0)),
            C.op none (some 10) (O.len true (Opd.t 9)), C.op none (some 11) (O.bin BinOp.lss (Opd.t 8) (Opd.t 10)),
            C.cond (Opd.t 11) [] [C.exit 0],
            C.blk 1
              [C.op none (some 14) (O.mv (Opd.t 0)), C.op none (some 15) (O.mv (Opd.t 4)),
                C.op none (some 16) (O.ist (Opd.t 14) (Opd.t 15)), C.op none (some 17) (O.cvi IntKind.u32 (Opd.t 16)),
                C.op none (some 5) (O.mv (Opd.t 17)),
                C.op none (some 6) (O.mv (Opd.c (AV.int IntKind.i64 0))),
                C.blk 2
                  [C.loop
                      [C.op none (some 18) (O.mv (Opd.t 6)),
                        C.op none (some 19) (O.bin BinOp.lss (Opd.t 18) (Opd.c (AV.int IntKind.i64 8))),
                        C.cond (Opd.t 19) [] [C.exit 2],
                        C.blk 3
                          [C.op none (some 22) (O.mv (Opd.t 3)), C.op none (some 23) (O.mv (Opd.t 5)),
                            C.op none (some 24) (O.bin BinOp.add (Opd.t 22) (Opd.t 23)),
                            C.op none (some 25) (O.bin BinOp.rem (Opd.t 24) (Opd.c (AV.int IntKind.u32 2))),
                            C.op none (some 26) (O.bin BinOp.eql (Opd.t 25) (Opd.c (AV.int IntKind.u32 1))),
                            C.op none (some 7) (O.mv (Opd.t 26)), C.op none (some 27) (O.mv (Opd.t 3)),
                            C.op none (some 28) (O.bin BinOp.quo (Opd.t 27) (Opd.c (AV.int IntKind.u32 2))),
                            C.op none (some 3) (O.mv (Opd.t 28)), C.op none (some 29) (O.mv (Opd.t 5)),
                            C.op none (some 30) (O.bin BinOp.quo (Opd.t 29) (Opd.c (AV.int IntKind.u32 2))),
                            C.op none (some 5) (O.mv (Opd.t 30)), C.op none (some 31) (O.mv (Opd.t 7)),
                            C.cond (Opd.t 31)
                              [C.op none (some 32) (O.mv (Opd.t 3)),
                                C.op none (some 33)
                                  (O.bin BinOp.xor (Opd.t 32) (Opd.c (AV.int IntKind.u32 3988292384))),
                                C.op none (some 3) (O.mv (Opd.t 33))]
                              []],
                        C.op none (some 20) (O.mv (Opd.t 6)),
                        C.op none (some 21) (O.bin BinOp.add (Opd.t 20) (Opd.c (AV.int IntKind.i64 1))),
                        C.op none (some 6) (O.mv (Opd.t 21))]]],
            C.op none (some 12) (O.mv (Opd.t 4)),
            C.op none (some 13) (O.bin BinOp.add (Opd.t 12) (Opd.c (AV.int IntKind.i64 1))),
            C.op none (some 4) (O.mv (Opd.t 13))]],
    C.op none (some 34) (O.mv (Opd.t 3)),
    C.op none (some 35) (O.bin BinOp.sub (Opd.c (AV.int IntKind.u32 4294967295)) (Opd.t 34)),
    C.op none (some 2) (O.mv (Opd.t 35)), C.ret]
def r19 : List RV := [RV.t 2]
theorem c19_ok : cC Try.prog Try.f19.ntmps (Try.f19.body.getD .skip) = some c19 := by kernel_rfl

def c20 : List C :=
  [C.op none (some 6) (O.mv (Opd.c AV.nilsl)), C.op none (some 7) (O.mv (Opd.c (AV.str []))),
    C.op none (some 11) (O.bsl 1 [AV.str []] 0 []), C.op none (some 8) (O.mv (Opd.t 11)),
    C.op none (some 9) (O.mv (Opd.c (AV.str []))),
    C.op none (some 10) (O.mv (Opd.c (AV.int IntKind.i64 0))),
    C.blk 0
      [C.loop
          [C.op none (some 12) (O.mv (Opd.t 10)), C.op none (some 13) (O.mv (Opd.t 0)),
            C.op none (some 14) (O.len false (Opd.t 13)), C.op none (some 15) (O.bin BinOp.lss (Opd.t 12) (Opd.t 14)),
            C.op none (some 16) (O.mv (Opd.t 15)), C.op (some (16, true)) (some 17) (O.mv (Opd.t 10)),
            C.op (some (16, true)) (some 18) (O.mv (Opd.t 1)),
            C.op (some (16, true)) (some 19) (O.bin BinOp.lss (Opd.t 17) (Opd.t 18)),
            C.op none (some 20) (O.pick (Opd.t 16) (Opd.t 19) (Opd.c (AV.bool false))), C.cond (Opd.t 20) [] [C.exit 0],
            C.blk 1
              [C.op none (some 23) (O.mv (Opd.t 8)), C.op none (some 24) (O.mv (Opd.t 0)),
                C.op none (some 25) (O.mv (Opd.t 10)), C.op none (some 26) (O.iad 1 (Opd.t 24) (Opd.t 25)),
                C.op none (some 27) (O.ld CK.str (Opd.t 26)), C.op none (some 28) (O.mv (Opd.t 2)),
                C.op none (some 29) (O.call 14 [Opd.t 27, Opd.t 28]),
                C.op none (some 30) (O.bsl 1 [AV.str []] 1 [(0, Opd.t 29)]),
                C.op none (some 31) (O.app 1 (Opd.t 23) (Opd.t 30)), C.op none (some 8) (O.mv (Opd.t 31)),
                C.op none (some 32) (O.mv (Opd.t 9)), C.op none (some 33) (O.mv (Opd.t 0)),
                C.op none (some 34) (O.mv (Opd.t 10)), C.op none (some 35) (O.iad 1 (Opd.t 33) (Opd.t 34)),
                C.op none (some 36) (O.ld CK.str (Opd.t 35)), C.op none (some 37) (O.mv (Opd.t 2)),
                C.op none (some 38) (O.call 14 [Opd.t 36, Opd.t 37]),
                C.op none (some 39) (O.bin BinOp.add (Opd.t 32) (Opd.t 38)), C.op none (some 9) (O.mv (Opd.t 39))],
            C.op none (some 21) (O.mv (Opd.t 10)),
            C.op none (some 22) (O.bin BinOp.add (Opd.t 21) (Opd.c (AV.int IntKind.i64 1))),
            C.op none (some 10) (O.mv (Opd.t 22))]],
    C.op none (some 40) (O.mv (Opd.t 8)), C.op none (some 41) (O.mv (Opd.t 9)), C.op none (some 6) (O.mv (Opd.t 40)),
    C.op none (some 7) (O.mv (Opd.t 41)), C.ret]
def r20 : List RV := [RV.t 6, RV.t 7]
theorem c20_ok : cC Try.prog Try.f20.ntmps (Try.f20.body.getD .skip) = some c20 := by kernel_rfl

def c21 : List C :=
  [C.op none (some 4) (O.mv (Opd.c (AV.int IntKind.u64 0))), C.op none (some 8) (O.mv (Opd.t 1)),
    C.op none (some 9) (O.len false (Opd.t 8)), C.op none (some 10) (O.mv (Opd.c (AV.int IntKind.i64 0))),
    C.blk 0
      [C.loop
          [C.op none (some 11) (O.bin BinOp.lss (Opd.t 10) (Opd.t 9)), C.cond (Opd.t 11) [] [C.exit 0],
            C.blk 1
              [C.op none (some 12) (O.iad 1 (Opd.t 8) (Opd.t 10)), C.op none (some 13) (O.ld CK.str (Opd.t 12)),
                C.op none (some 6) (O.mv (Opd.t 13)), C.op none (some 14) (O.mv (Opd.t 6)),
                C.op none (some 15) (O.len true (Opd.t 14)),
                C.op none (some 16) (O.mv (Opd.c (AV.int IntKind.i64 0))),
                C.blk 2
                  [C.loop
                      [C.op none (some 17) (O.bin BinOp.lss (Opd.t 16) (Opd.t 15)), C.cond (Opd.t 17) [] [C.exit 2],
                        C.blk 3
                          [C.op none (some 18) (O.mv (Opd.t 16)), C.op none (some 7) (O.mv (Opd.t 18)),
                            C.op none (some 19) (O.mv (Opd.t 0)), C.op none (some 20) (O.mv (Opd.t 6)),
                            C.op none (some 21) (O.mv (Opd.t 7)), C.op none (some 22) (O.ist (Opd.t 20) (Opd.t 21)),
                            C.op none (some 23) (O.cvi IntKind.u64 (Opd.t 22)),
                            C.op none (some 24) (O.bin BinOp.xor (Opd.t 19) (Opd.t 23)),
                            C.op none (some 25)
                              (O.bin BinOp.mul (Opd.t 24) (Opd.c (AV.int IntKind.u64 1099511628211))),
                            C.op none (some 0) (O.mv (Opd.t 25))],
                        C.op none (some 26) (O.bin BinOp.add (Opd.t 16) (Opd.c (AV.int IntKind.i64 1))),
                        C.op none (some 16) (O.mv (Opd.t 26))]]],
            C.op none (some 27) (O.bin BinOp.add (Opd.t 10) (Opd.c (AV.int IntKind.i64 1))),
            C.op none (some 10) (O.mv (Opd.t 27))]],
    C.op none (some 28) (O.mv (Opd.t 0)), C.op none (some 4) (O.mv (Opd.t 28)), C.ret]
def r21 : List RV := [RV.t 4]
theorem c21_ok : cC Try.prog Try.f21.ntmps (Try.f21.body.getD .skip) = some c21 := by kernel_rfl

def c22 : List C :=
  [C.op none (some 4) (O.mv (Opd.c (AV.int IntKind.u32 0))), C.op none (some 8) (O.mv (Opd.t 0)),
    C.op none (some 9) (O.un UnOp.xor (Opd.t 8)), C.op none (some 0) (O.mv (Opd.t 9)),
    C.op none (some 10) (O.mv (Opd.t 1)), C.op none (some 11) (O.len false (Opd.t 10)),
    C.op none (some 12) (O.mv (Opd.c (AV.int IntKind.i64 0))),
    C.blk 0
      [C.loop
          [C.op none (some 13) (O.bin BinOp.lss (Opd.t 12) (Opd.t 11)), C.cond (Opd.t 13) [] [C.exit 0],
            C.blk 1
              [C.op none (some 14) (O.iad 1 (Opd.t 10) (Opd.t 12)), C.op none (some 15) (O.ld CK.str (Opd.t 14)),
                C.op none (some 6) (O.mv (Opd.t 15)), C.op none (some 16) (O.mv (Opd.t 6)),
                C.op none (some 17) (O.len true (Opd.t 16)),
                C.op none (some 18) (O.mv (Opd.c (AV.int IntKind.i64 0))),
                C.blk 2
                  [C.loop
                      [C.op none (some 19) (O.bin BinOp.lss (Opd.t 18) (Opd.t 17)), C.cond (Opd.t 19) [] [C.exit 2],
                        C.blk 3
                          [C.op none (some 20) (O.mv (Opd.t 18)), C.op none (some 7) (O.mv (Opd.t 20)),
                            C.op none (some 21) (O.mv (Opd.t 0)),
                            C.op none (some 22) (O.bin BinOp.shr (Opd.t 21) (Opd.c (AV.int IntKind.u64 8))),
                            C.op none (some 23) (O.mv (Opd.t 0)), C.op none (some 24) (O.mv (Opd.t 6)),
                            C.op none (some 25) (O.mv (Opd.t 7)), C.op none (some 26) (O.ist (Opd.t 24) (Opd.t 25)),
                            C.op none (some 27) (O.cvi IntKind.u32 (Opd.t 26)),
                            C.op none (some 28) (O.bin BinOp.xor (Opd.t 23) (Opd.t 27)),
                            C.op none (some 29)
                              (O.bin BinOp.and (Opd.t 28) (Opd.c (AV.int IntKind.u32 255))),
                            C.op none (some 30) (O.call 31 [Opd.t 29]),
                            C.op none (some 31) (O.bin BinOp.xor (Opd.t 22) (Opd.t 30)),
                            C.op none (some 0) (O.mv (Opd.t 31))],
                        C.op none (some 32) (O.bin BinOp.add (Opd.t 18) (Opd.c (AV.int IntKind.i64 1))),
                        C.op none (some 18) (O.mv (Opd.t 32))]]],
            C.op none (some 33) (O.bin BinOp.add (Opd.t 12) (Opd.c (AV.int IntKind.i64 1))),
            C.op none (some 12) (O.mv (Opd.t 33))]],
    C.op none (some 34) (O.mv (Opd.t 0)), C.op none (some 35) (O.un UnOp.xor (Opd.t 34)),
    C.op none (some 4) (O.mv (Opd.t 35)), C.ret]
def r22 : List RV := [RV.t 4]
theorem c22_ok : cC Try.prog Try.f22.ntmps (Try.f22.body.getD .skip) = some c22 := by kernel_rfl

def c23 : List C :=
  [C.op none (some 2) (O.mv (Opd.c AV.nilptr)), C.op none (some 3) (O.mv (Opd.t 0)),
    C.op none (some 4) (O.build [AV.int IntKind.u64 0] [(0, 1, Opd.t 3)]),
    C.op none (some 5) (O.box (Opd.t 4)), C.op none (some 2) (O.mv (Opd.t 5)), C.ret]
def r23 : List RV := [RV.t 2]
theorem c23_ok : cC Try.prog Try.f23.ntmps (Try.f23.body.getD .skip) = some c23 := by kernel_rfl

def c24 : List C :=
  [C.op none (some 2) (O.mv (Opd.c (AV.int IntKind.u64 0))), C.op none (some 4) (O.mv (Opd.t 0)),
    C.op none (some 5) (O.nck (Opd.t 4)), C.op none (some 6) (O.fad 0 (Opd.t 5)),
    C.op none (some 7) (O.ld (CK.int IntKind.u64) (Opd.t 6)),
    C.op none (some 8) (O.bin BinOp.add (Opd.t 7) (Opd.c (AV.int IntKind.u64 11400714819323198485))),
    C.op none (some 9) (O.nck (Opd.t 4)), C.op none (some 10) (O.fad 0 (Opd.t 9)),
    C.op none none (O.st 1 (Opd.t 10) (Opd.t 8)), C.op none (some 11) (O.mv (Opd.t 0)),
    C.op none (some 12) (O.nck (Opd.t 11)), C.op none (some 13) (O.fad 0 (Opd.t 12)),
    C.op none (some 14) (O.ld (CK.int IntKind.u64) (Opd.t 13)), C.op none (some 3) (O.mv (Opd.t 14)),
    C.op none (some 15) (O.mv (Opd.t 3)), C.op none (some 16) (O.mv (Opd.t 3)),
    C.op none (some 17) (O.bin BinOp.shr (Opd.t 16) (Opd.c (AV.int IntKind.u64 30))),
    C.op none (some 18) (O.bin BinOp.xor (Opd.t 15) (Opd.t 17)),
    C.op none (some 19) (O.bin BinOp.mul (Opd.t 18) (Opd.c (AV.int IntKind.u64 13787848793156543929))),
    C.op none (some 3) (O.mv (Opd.t 19)), C.op none (some 20) (O.mv (Opd.t 3)), C.op none (some 21) (O.mv (Opd.t 3)),
    C.op none (some 22) (O.bin BinOp.shr (Opd.t 21) (Opd.c (AV.int IntKind.u64 27))),
    C.op none (some 23) (O.bin BinOp.xor (Opd.t 20) (Opd.t 22)),
    C.op none (some 24) (O.bin BinOp.mul (Opd.t 23) (Opd.c (AV.int IntKind.u64 10723151780598845931))),
    C.op none (some 3) (O.mv (Opd.t 24)), C.op none (some 25) (O.mv (Opd.t 3)), C.op none (some 26) (O.mv (Opd.t 3)),
    C.op none (some 27) (O.bin BinOp.shr (Opd.t 26) (Opd.c (AV.int IntKind.u64 31))),
    C.op none (some 28) (O.bin BinOp.xor (Opd.t 25) (Opd.t 27)), C.op none (some 2) (O.mv (Opd.t 28)), C.ret]
def r24 : List RV := [RV.t 2]
theorem c24_ok : cC Try.prog Try.f24.ntmps (Try.f24.body.getD .skip) = some c24 := by kernel_rfl

def c25 : List C :=
  [C.op none (some 2) (O.mv (Opd.c (AV.int IntKind.u64 0))), C.op none (some 3) (O.mv (Opd.t 0)),
    C.op none (some 4) (O.nck (Opd.t 3)), C.op none (some 5) (O.fad 0 (Opd.t 4)),
    C.op none (some 6) (O.ld (CK.int IntKind.u64) (Opd.t 5)), C.op none (some 2) (O.mv (Opd.t 6)), C.ret]
def r25 : List RV := [RV.t 2]
theorem c25_ok : cC Try.prog Try.f25.ntmps (Try.f25.body.getD .skip) = some c25 := by kernel_rfl

def c26 : List C :=
  [C.op none (some 4) (O.mv (Opd.c (AV.int IntKind.i64 0))), C.op none (some 7) (O.mv (Opd.t 1)),
    C.op none (some 8) (O.bin BinOp.lss (Opd.t 7) (Opd.c (AV.int IntKind.i64 1))),
    C.cond (Opd.t 8) [C.op none (some 4) (O.mv (Opd.c (AV.int IntKind.i64 0))), C.ret] [],
    C.op none (some 10) (O.mv (Opd.t 0)), C.op none (some 11) (O.call 24 [Opd.t 10]),
    C.op none (some 12) (O.mv (Opd.t 1)), C.op none (some 13) (O.cvi IntKind.u64 (Opd.t 12)),
    C.op none (some 14) (O.call 32 [Opd.t 11, Opd.t 13]), C.op none (some 9) (O.mv (Opd.t 14)),
    C.op none (some 15) (O.ext (Opd.t 9) 0), C.op none (some 16) (O.ext (Opd.t 9) 1),
    C.op none (some 5) (O.mv (Opd.t 15)), C.op none (some 6) (O.mv (Opd.t 16)), C.op none (some 17) (O.mv (Opd.t 5)),
    C.op none (some 18) (O.cvi IntKind.i64 (Opd.t 17)), C.op none (some 4) (O.mv (Opd.t 18)), C.ret]
def r26 : List RV := [RV.t 4]
theorem c26_ok : cC Try.prog Try.f26.ntmps (Try.f26.body.getD .skip) = some c26 := by kernel_rfl

def c27 : List C :=
  [C.op none (some 2) (O.mv (Opd.c (AV.int IntKind.u64 0))),
    C.op none (some 3) (O.mv (Opd.c (AV.int IntKind.u64 0))), C.op none (some 5) (O.mv (Opd.t 0)),
    C.op none (some 6) (O.bin BinOp.add (Opd.t 5) (Opd.c (AV.int IntKind.u64 11400714819323198485))),
    C.op none (some 0) (O.mv (Opd.t 6)), C.op none (some 7) (O.mv (Opd.t 0)), C.op none (some 4) (O.mv (Opd.t 7)),
    C.op none (some 8) (O.mv (Opd.t 4)), C.op none (some 9) (O.mv (Opd.t 4)),
    C.op none (some 10) (O.bin BinOp.quo (Opd.t 9) (Opd.c (AV.int IntKind.u64 1073741824))),
    C.op none (some 11) (O.bin BinOp.xor (Opd.t 8) (Opd.t 10)),
    C.op none (some 12) (O.bin BinOp.mul (Opd.t 11) (Opd.c (AV.int IntKind.u64 13787848793156543929))),
    C.op none (some 4) (O.mv (Opd.t 12)), C.op none (some 13) (O.mv (Opd.t 4)), C.op none (some 14) (O.mv (Opd.t 4)),
    C.op none (some 15) (O.bin BinOp.quo (Opd.t 14) (Opd.c (AV.int IntKind.u64 134217728))),
    C.op none (some 16) (O.bin BinOp.xor (Opd.t 13) (Opd.t 15)),
    C.op none (some 17) (O.bin BinOp.mul (Opd.t 16) (Opd.c (AV.int IntKind.u64 10723151780598845931))),
    C.op none (some 4) (O.mv (Opd.t 17)), C.op none (some 18) (O.mv (Opd.t 0)), C.op none (some 19) (O.mv (Opd.t 4)),
    C.op none (some 20) (O.mv (Opd.t 4)),
    C.op none (some 21) (O.bin BinOp.quo (Opd.t 20) (Opd.c (AV.int IntKind.u64 2147483648))),
    C.op none (some 22) (O.bin BinOp.xor (Opd.t 19) (Opd.t 21)), C.op none (some 2) (O.mv (Opd.t 18)),
    C.op none (some 3) (O.mv (Opd.t 22)), C.ret]
def r27 : List RV := [RV.t 2, RV.t 3]
theorem c27_ok : cC Try.prog Try.f27.ntmps (Try.f27.body.getD .skip) = some c27 := by kernel_rfl

def c28 : List C :=
  [C.op none (some 4) (O.mv (Opd.c (AV.int IntKind.u64 0))),
    C.op none (some 5) (O.mv (Opd.c (AV.int IntKind.i64 0))), C.op none (some 8) (O.mv (Opd.t 1)),
    C.op none (some 9) (O.bin BinOp.lss (Opd.t 8) (Opd.c (AV.int IntKind.i64 1))),
    C.cond (Opd.t 9)
      [C.op none (some 10) (O.mv (Opd.t 0)), C.op none (some 4) (O.mv (Opd.t 10)),
        C.op none (some 5) (O.mv (Opd.c (AV.int IntKind.i64 0))), C.ret]
      [],
    C.op none (some 12) (O.mv (Opd.t 0)), C.op none (some 13) (O.call 27 [Opd.t 12]),
    C.op none (some 11) (O.mv (Opd.t 13)), C.op none (some 14) (O.ext (Opd.t 11) 0),
    C.op none (some 15) (O.ext (Opd.t 11) 1), C.op none (some 6) (O.mv (Opd.t 14)),
    C.op none (some 7) (O.mv (Opd.t 15)), C.op none (some 16) (O.mv (Opd.t 6)), C.op none (some 17) (O.mv (Opd.t 7)),
    C.op none (some 18) (O.mv (Opd.t 1)), C.op none (some 19) (O.cvi IntKind.u64 (Opd.t 18)),
    C.op none (some 20) (O.call 33 [Opd.t 17, Opd.t 19]), C.op none (some 21) (O.cvi IntKind.i64 (Opd.t 20)),
    C.op none (some 4) (O.mv (Opd.t 16)), C.op none (some 5) (O.mv (Opd.t 21)), C.ret]
def r28 : List RV := [RV.t 4, RV.t 5]
theorem c28_ok : cC Try.prog Try.f28.ntmps (Try.f28.body.getD .skip) = some c28 := by kernel_rfl

def c29 : List C :=
  [C.op none (some 2) (O.mv (Opd.c (AV.str []))), C.op none (some 3) (O.alloc [AV.nilsl]),
    C.op none (some 4) (O.mv (Opd.t 0)), C.op none (some 5) (O.nck (Opd.t 4)), C.op none (some 6) (O.fad 0 (Opd.t 5)),
    C.op none (some 7) (O.ld (CK.int IntKind.u64) (Opd.t 6)),
    C.op none (some 8) (O.bsl 1 [AV.int IntKind.u64 0] 1 [(0, Opd.t 7)]),
    C.op none (some 9) (O.call 34 [Opd.t 3, Opd.t 8]), C.op none (some 10) (O.call 35 [Opd.t 9]),
    C.op none (some 2) (O.mv (Opd.t 10)), C.ret]
def r29 : List RV := [RV.t 2]
theorem c29_ok : cC Try.prog Try.f29.ntmps (Try.f29.body.getD .skip) = some c29 := by kernel_rfl

def c30 : List C :=
  [C.op none (some 2) (O.mv (Opd.c (AV.str []))), C.op none (some 3) (O.mv (Opd.c (AV.str []))),
    C.op none (some 4) (O.mv (Opd.c (AV.int IntKind.i64 0))),
    C.blk 0
      [C.loop
          [C.op none (some 5) (O.mv (Opd.t 4)),
            C.op none (some 6) (O.bin BinOp.lss (Opd.t 5) (Opd.c (AV.int IntKind.i64 10))),
            C.op none (some 7) (O.mv (Opd.t 6)), C.op (some (7, true)) (some 8) (O.mv (Opd.t 0)),
            C.op (some (7, true)) (some 9) (O.bin BinOp.gtr (Opd.t 8) (Opd.c (AV.int IntKind.u64 127))),
            C.op none (some 10) (O.pick (Opd.t 7) (Opd.t 9) (Opd.c (AV.bool false))), C.cond (Opd.t 10) [] [C.exit 0],
            C.blk 1
              [C.op none (some 13) (O.mv (Opd.t 3)), C.op none (some 14) (O.mv (Opd.t 0)),
                C.op none (some 15) (O.bin BinOp.rem (Opd.t 14) (Opd.c (AV.int IntKind.u64 128))),
                C.op none (some 16) (O.bin BinOp.add (Opd.c (AV.int IntKind.u64 128)) (Opd.t 15)),
                C.op none (some 17) (O.cvi IntKind.u8 (Opd.t 16)),
                C.op none (some 18) (O.bsl 1 [AV.int IntKind.u8 0] 1 [(0, Opd.t 17)]),
                C.op none (some 19) (O.cvb (Opd.t 18)), C.op none (some 20) (O.bin BinOp.add (Opd.t 13) (Opd.t 19)),
                C.op none (some 3) (O.mv (Opd.t 20)), C.op none (some 21) (O.mv (Opd.t 0)),
                C.op none (some 22) (O.bin BinOp.quo (Opd.t 21) (Opd.c (AV.int IntKind.u64 128))),
                C.op none (some 0) (O.mv (Opd.t 22))],
            C.op none (some 11) (O.mv (Opd.t 4)),
            C.op none (some 12) (O.bin BinOp.add (Opd.t 11) (Opd.c (AV.int IntKind.i64 1))),
            C.op none (some 4) (O.mv (Opd.t 12))]],
    C.op none (some 23) (O.mv (Opd.t 3)), C.op none (some 24) (O.mv (Opd.t 0)),
    C.op none (some 25) (O.cvi IntKind.u8 (Opd.t 24)),
    C.op none (some 26) (O.bsl 1 [AV.int IntKind.u8 0] 1 [(0, Opd.t 25)]),
    C.op none (some 27) (O.cvb (Opd.t 26)), C.op none (some 28) (O.bin BinOp.add (Opd.t 23) (Opd.t 27)),
    C.op none (some 2) (O.mv (Opd.t 28)), C.ret]
def r30 : List RV := [RV.t 2]
theorem c30_ok : cC Try.prog Try.f30.ntmps (Try.f30.body.getD .skip) = some c30 := by kernel_rfl

def c31 : List C :=
  [C.op none (some 2) (O.mv (Opd.c (AV.int IntKind.u32 0))),
    C.op none (some 3) (O.mv (Opd.c (AV.int IntKind.i64 0))),
    C.blk 0
      [C.loop
          [C.op none (some 4) (O.bin BinOp.lss (Opd.t 3) (Opd.c (AV.int IntKind.i64 8))),
            C.cond (Opd.t 4) [] [C.exit 0],
            C.blk 1
              [C.op none (some 5) (O.mv (Opd.t 0)),
                C.op none (some 6) (O.bin BinOp.and (Opd.t 5) (Opd.c (AV.int IntKind.u32 1))),
                C.op none (some 7) (O.bin BinOp.eql (Opd.t 6) (Opd.c (AV.int IntKind.u32 1))),
                C.cond (Opd.t 7)
                  [C.op none (some 8) (O.mv (Opd.t 0)),
                    C.op none (some 9) (O.bin BinOp.shr (Opd.t 8) (Opd.c (AV.int IntKind.u64 1))),
                    C.op none (some 10) (O.bin BinOp.xor (Opd.t 9) (Opd.c (AV.int IntKind.u32 3988292384))),
                    C.op none (some 0) (O.mv (Opd.t 10))]
                  [C.op none (some 11) (O.mv (Opd.t 0)),
                    C.op none (some 12) (O.bin BinOp.shr (Opd.t 11) (Opd.c (AV.int IntKind.u64 1))),
                    C.op none (some 0) (O.mv (Opd.t 12))]],
            C.op none (some 13) (O.bin BinOp.add (Opd.t 3) (Opd.c (AV.int IntKind.i64 1))),
            C.op none (some 3) (O.mv (Opd.t 13))]],
    C.op none (some 14) (O.mv (Opd.t 0)), C.op none (some 2) (O.mv (Opd.t 14)), C.ret]
def r31 : List RV := [RV.t 2]
theorem c31_ok : cC Try.prog Try.f31.ntmps (Try.f31.body.getD .skip) = some c31 := by kernel_rfl

def c32 : List C :=
  [C.op none (some 4) (O.mv (Opd.c (AV.int IntKind.u64 0))),
    C.op none (some 5) (O.mv (Opd.c (AV.int IntKind.u64 0))), C.op none (some 14) (O.mv (Opd.t 0)),
    C.op none (some 15) (O.bin BinOp.and (Opd.t 14) (Opd.c (AV.int IntKind.u64 4294967295))),
    C.op none (some 6) (O.mv (Opd.t 15)), C.op none (some 16) (O.mv (Opd.t 0)),
    C.op none (some 17) (O.bin BinOp.shr (Opd.t 16) (Opd.c (AV.int IntKind.u64 32))),
    C.op none (some 7) (O.mv (Opd.t 17)), C.op none (some 18) (O.mv (Opd.t 1)),
    C.op none (some 19) (O.bin BinOp.and (Opd.t 18) (Opd.c (AV.int IntKind.u64 4294967295))),
    C.op none (some 8) (O.mv (Opd.t 19)), C.op none (some 20) (O.mv (Opd.t 1)),
    C.op none (some 21) (O.bin BinOp.shr (Opd.t 20) (Opd.c (AV.int IntKind.u64 32))),
    C.op none (some 9) (O.mv (Opd.t 21)), C.op none (some 22) (O.mv (Opd.t 6)), C.op none (some 23) (O.mv (Opd.t 8)),
    C.op none (some 24) (O.bin BinOp.mul (Opd.t 22) (Opd.t 23)), C.op none (some 10) (O.mv (Opd.t 24)),
    C.op none (some 25) (O.mv (Opd.t 7)), C.op none (some 26) (O.mv (Opd.t 8)),
    C.op none (some 27) (O.bin BinOp.mul (Opd.t 25) (Opd.t 26)), C.op none (some 28) (O.mv (Opd.t 10)),
    C.op none (some 29) (O.bin BinOp.shr (Opd.t 28) (Opd.c (AV.int IntKind.u64 32))),
    C.op none (some 30) (O.bin BinOp.add (Opd.t 27) (Opd.t 29)), C.op none (some 11) (O.mv (Opd.t 30)),
    C.op none (some 31) (O.mv (Opd.t 11)),
    C.op none (some 32) (O.bin BinOp.and (Opd.t 31) (Opd.c (AV.int IntKind.u64 4294967295))),
    C.op none (some 12) (O.mv (Opd.t 32)), C.op none (some 33) (O.mv (Opd.t 11)),
    C.op none (some 34) (O.bin BinOp.shr (Opd.t 33) (Opd.c (AV.int IntKind.u64 32))),
    C.op none (some 13) (O.mv (Opd.t 34)), C.op none (some 35) (O.mv (Opd.t 12)), C.op none (some 36) (O.mv (Opd.t 6)),
    C.op none (some 37) (O.mv (Opd.t 9)), C.op none (some 38) (O.bin BinOp.mul (Opd.t 36) (Opd.t 37)),
    C.op none (some 39) (O.bin BinOp.add (Opd.t 35) (Opd.t 38)), C.op none (some 12) (O.mv (Opd.t 39)),
    C.op none (some 40) (O.mv (Opd.t 7)), C.op none (some 41) (O.mv (Opd.t 9)),
    C.op none (some 42) (O.bin BinOp.mul (Opd.t 40) (Opd.t 41)), C.op none (some 43) (O.mv (Opd.t 13)),
    C.op none (some 44) (O.bin BinOp.add (Opd.t 42) (Opd.t 43)), C.op none (some 45) (O.mv (Opd.t 12)),
    C.op none (some 46) (O.bin BinOp.shr (Opd.t 45) (Opd.c (AV.int IntKind.u64 32))),
    C.op none (some 47) (O.bin BinOp.add (Opd.t 44) (Opd.t 46)), C.op none (some 4) (O.mv (Opd.t 47)),
    C.op none (some 48) (O.mv (Opd.t 0)), C.op none (some 49) (O.mv (Opd.t 1)),
    C.op none (some 50) (O.bin BinOp.mul (Opd.t 48) (Opd.t 49)), C.op none (some 5) (O.mv (Opd.t 50)), C.ret]
def r32 : List RV := [RV.t 4, RV.t 5]
theorem c32_ok : cC Try.prog Try.f32.ntmps (Try.f32.body.getD .skip) = some c32 := by kernel_rfl

def d33_0 : List It :=
  [(none, some 10, O.mv (Opd.t 0), []), (none, some 11, O.mv (Opd.t 5), []),
        (none, some 12, O.bin BinOp.rem (Opd.t 10) (Opd.t 11), [0, 1]), (none, some 13, O.mv (Opd.t 1), []),
        (none, some 14, O.mv (Opd.t 5), []), (none, some 15, O.bin BinOp.rem (Opd.t 13) (Opd.t 14), [3, 4]),
        (none, some 16, O.bin BinOp.mul (Opd.t 12) (Opd.t 15), [2, 5]),
        (none, some 6, O.mv (Opd.t 16), [6, 0, 1, 2, 3, 4, 5, 6])]
def o33_0 : List (Nat × Bool) := [(0, false), (1, false), (2, false), (3, false), (4, false), (5, false), (6, false), (7, false)]
def l33_0 : List (Nat × Bool × It) :=
  [(0, false, (none, some 10, O.mv (Opd.t 0), [])),
   (1, false, (none, some 11, O.mv (Opd.t 5), [])),
   (2, false, (none, some 12, O.bin BinOp.rem (Opd.t 10) (Opd.t 11), [0, 1])),
   (3, false, (none, some 13, O.mv (Opd.t 1), [])),
   (4, false, (none, some 14, O.mv (Opd.t 5), [])),
   (5, false, (none, some 15, O.bin BinOp.rem (Opd.t 13) (Opd.t 14), [3, 4])),
   (6, false, (none, some 16, O.bin BinOp.mul (Opd.t 12) (Opd.t 15), [2, 5])),
   (7, false, (none, some 6, O.mv (Opd.t 16), [6, 0, 1, 2, 3, 4, 5, 6]))]
theorem l33_0_ok : okDraw d33_0 o33_0 = true ∧ mkL d33_0 o33_0 = some l33_0 := ⟨by kernel_rfl, by kernel_rfl⟩

def d33_1 : List It :=
  [(none, some 17, O.mv (Opd.t 0), []), (none, some 18, O.mv (Opd.t 5), []),
        (none, some 19, O.bin BinOp.quo (Opd.t 17) (Opd.t 18), [0, 1]), (none, some 20, O.mv (Opd.t 1), []),
        (none, some 21, O.mv (Opd.t 5), []), (none, some 22, O.bin BinOp.rem (Opd.t 20) (Opd.t 21), [3, 4]),
        (none, some 23, O.bin BinOp.mul (Opd.t 19) (Opd.t 22), [2, 5]),
        (none, some 7, O.mv (Opd.t 23), [6, 0, 1, 2, 3, 4, 5, 6])]
def o33_1 : List (Nat × Bool) := [(0, false), (1, false), (2, false), (3, false), (4, false), (5, false), (6, false), (7, false)]
def l33_1 : List (Nat × Bool × It) :=
  [(0, false, (none, some 17, O.mv (Opd.t 0), [])),
   (1, false, (none, some 18, O.mv (Opd.t 5), [])),
   (2, false, (none, some 19, O.bin BinOp.quo (Opd.t 17) (Opd.t 18), [0, 1])),
   (3, false, (none, some 20, O.mv (Opd.t 1), [])),
   (4, false, (none, some 21, O.mv (Opd.t 5), [])),
   (5, false, (none, some 22, O.bin BinOp.rem (Opd.t 20) (Opd.t 21), [3, 4])),
   (6, false, (none, some 23, O.bin BinOp.mul (Opd.t 19) (Opd.t 22), [2, 5])),
   (7, false, (none, some 7, O.mv (Opd.t 23), [6, 0, 1, 2, 3, 4, 5, 6]))]
theorem l33_1_ok : okDraw d33_1 o33_1 = true ∧ mkL d33_1 o33_1 = some l33_1 := ⟨by kernel_rfl, by kernel_rfl⟩

def d33_2 : List It :=
  [(none, some 24, O.mv (Opd.t 0), []), (none, some 25, O.mv (Opd.t 5), []),
        (none, some 26, O.bin BinOp.rem (Opd.t 24) (Opd.t 25), [0, 1]), (none, some 27, O.mv (Opd.t 1), []),
        (none, some 28, O.mv (Opd.t 5), []), (none, some 29, O.bin BinOp.quo (Opd.t 27) (Opd.t 28), [3, 4]),
        (none, some 30, O.bin BinOp.mul (Opd.t 26) (Opd.t 29), [2, 5]),
        (none, some 8, O.mv (Opd.t 30), [6, 0, 1, 2, 3, 4, 5, 6])]
def o33_2 : List (Nat × Bool) := [(0, false), (1, false), (2, false), (3, false), (4, false), (5, false), (6, false), (7, false)]
def l33_2 : List (Nat × Bool × It) :=
  [(0, false, (none, some 24, O.mv (Opd.t 0), [])),
   (1, false, (none, some 25, O.mv (Opd.t 5), [])),
   (2, false, (none, some 26, O.bin BinOp.rem (Opd.t 24) (Opd.t 25), [0, 1])),
   (3, false, (none, some 27, O.mv (Opd.t 1), [])),
   (4, false, (none, some 28, O.mv (Opd.t 5), [])),
   (5, false, (none, some 29, O.bin BinOp.quo (Opd.t 27) (Opd.t 28), [3, 4])),
   (6, false, (none, some 30, O.bin BinOp.mul (Opd.t 26) (Opd.t 29), [2, 5])),
   (7, false, (none, some 8, O.mv (Opd.t 30), [6, 0, 1, 2, 3, 4, 5, 6]))]
theorem l33_2_ok : okDraw d33_2 o33_2 = true ∧ mkL d33_2 o33_2 = some l33_2 := ⟨by kernel_rfl, by kernel_rfl⟩

def d33_3 : List It :=
  [(none, some 31, O.mv (Opd.t 6), []), (none, some 32, O.mv (Opd.t 5), []),
        (none, some 33, O.bin BinOp.quo (Opd.t 31) (Opd.t 32), [0, 1]), (none, some 34, O.mv (Opd.t 7), []),
        (none, some 35, O.mv (Opd.t 5), []), (none, some 36, O.bin BinOp.rem (Opd.t 34) (Opd.t 35), [3, 4]),
        (none, some 37, O.bin BinOp.add (Opd.t 33) (Opd.t 36), [2, 5]), (none, some 38, O.mv (Opd.t 8), []),
        (none, some 39, O.mv (Opd.t 5), []), (none, some 40, O.bin BinOp.rem (Opd.t 38) (Opd.t 39), [7, 8]),
        (none, some 41, O.bin BinOp.add (Opd.t 37) (Opd.t 40), [6, 9]), (none, some 42, O.mv (Opd.t 5), []),
        (none, some 43, O.bin BinOp.quo (Opd.t 41) (Opd.t 42), [10, 11]),
        (none, some 9, O.mv (Opd.t 43), [12, 0, 1, 2, 3, 4, 5, 6, 7, 8, 9, 10, 11, 12])]
def o33_3 : List (Nat × Bool) := [(0, false), (1, false), (2, false), (3, false), (4, false), (5, false), (6, false), (7, false), (8, false), (9, false), (10, false), (11, false), (12, false), (13, false)]
def l33_3 : List (Nat × Bool × It) :=
  [(0, false, (none, some 31, O.mv (Opd.t 6), [])),
   (1, false, (none, some 32, O.mv (Opd.t 5), [])),
   (2, false, (none, some 33, O.bin BinOp.quo (Opd.t 31) (Opd.t 32), [0, 1])),
   (3, false, (none, some 34, O.mv (Opd.t 7), [])),
   (4, false, (none, some 35, O.mv (Opd.t 5), [])),
   (5, false, (none, some 36, O.bin BinOp.rem (Opd.t 34) (Opd.t 35), [3, 4])),
   (6, false, (none, some 37, O.bin BinOp.add (Opd.t 33) (Opd.t 36), [2, 5])),
   (7, false, (none, some 38, O.mv (Opd.t 8), [])),
   (8, false, (none, some 39, O.mv (Opd.t 5), [])),
   (9, false, (none, some 40, O.bin BinOp.rem (Opd.t 38) (Opd.t 39), [7, 8])),
   (10, false, (none, some 41, O.bin BinOp.add (Opd.t 37) (Opd.t 40), [6, 9])),
   (11, false, (none, some 42, O.mv (Opd.t 5), [])),
   (12, false, (none, some 43, O.bin BinOp.quo (Opd.t 41) (Opd.t 42), [10, 11])),
   (13, false, (none, some 9, O.mv (Opd.t 43), [12, 0, 1, 2, 3, 4, 5, 6, 7, 8, 9, 10, 11, 12]))]
theorem l33_3_ok : okDraw d33_3 o33_3 = true ∧ mkL d33_3 o33_3 = some l33_3 := ⟨by kernel_rfl, by kernel_rfl⟩

def d33_4 : List It :=
  [(none, some 44, O.mv (Opd.t 0), []), (none, some 45, O.mv (Opd.t 5), []),
        (none, some 46, O.bin BinOp.quo (Opd.t 44) (Opd.t 45), [0, 1]), (none, some 47, O.mv (Opd.t 1), []),
        (none, some 48, O.mv (Opd.t 5), []), (none, some 49, O.bin BinOp.quo (Opd.t 47) (Opd.t 48), [3, 4]),
        (none, some 50, O.bin BinOp.mul (Opd.t 46) (Opd.t 49), [2, 5]), (none, some 51, O.mv (Opd.t 7), []),
        (none, some 52, O.mv (Opd.t 5), []), (none, some 53, O.bin BinOp.quo (Opd.t 51) (Opd.t 52), [7, 8]),
        (none, some 54, O.bin BinOp.add (Opd.t 50) (Opd.t 53), [6, 9]), (none, some 55, O.mv (Opd.t 8), []),
        (none, some 56, O.mv (Opd.t 5), []), (none, some 57, O.bin BinOp.quo (Opd.t 55) (Opd.t 56), [11, 12]),
        (none, some 58, O.bin BinOp.add (Opd.t 54) (Opd.t 57), [10, 13]), (none, some 59, O.mv (Opd.t 9), []),
        (none, some 60, O.bin BinOp.add (Opd.t 58) (Opd.t 59), [14, 15]),
        (none, some 4, O.mv (Opd.t 60), [16, 0, 1, 2, 3, 4, 5, 6, 7, 8, 9, 10, 11, 12, 13, 14, 15, 16])]
def o33_4 : List (Nat × Bool) := [(0, false), (1, false), (2, false), (3, false), (4, false), (5, false), (6, false), (7, false), (8, false), (9, false), (10, false), (11, false), (12, false), (13, false), (14, false), (15, false), (16, false), (17, false)]
def l33_4 : List (Nat × Bool × It) :=
  [(0, false, (none, some 44, O.mv (Opd.t 0), [])),
   (1, false, (none, some 45, O.mv (Opd.t 5), [])),
   (2, false, (none, some 46, O.bin BinOp.quo (Opd.t 44) (Opd.t 45), [0, 1])),
   (3, false, (none, some 47, O.mv (Opd.t 1), [])),
   (4, false, (none, some 48, O.mv (Opd.t 5), [])),
   (5, false, (none, some 49, O.bin BinOp.quo (Opd.t 47) (Opd.t 48), [3, 4])),
   (6, false, (none, some 50, O.bin BinOp.mul (Opd.t 46) (Opd.t 49), [2, 5])),
   (7, false, (none, some 51, O.mv (Opd.t 7), [])),
   (8, false, (none, some 52, O.mv (Opd.t 5), [])),
   (9, false, (none, some 53, O.bin BinOp.quo (Opd.t 51) (Opd.t 52), [7, 8])),
   (10, false, (none, some 54, O.bin BinOp.add (Opd.t 50) (Opd.t 53), [6, 9])),
   (11, false, (none, some 55, O.mv (Opd.t 8), [])),
   (12, false, (none, some 56, O.mv (Opd.t 5), [])),
   (13, false, (none, some 57, O.bin BinOp.quo (Opd.t 55) (Opd.t 56), [11, 12])),
   (14, false, (none, some 58, O.bin BinOp.add (Opd.t 54) (Opd.t 57), [10, 13])),
   (15, false, (none, some 59, O.mv (Opd.t 9), [])),
   (16, false, (none, some 60, O.bin BinOp.add (Opd.t 58) (Opd.t 59), [14, 15])),
   (17, false, (none, some 4, O.mv (Opd.t 60), [16, 0, 1, 2, 3, 4, 5, 6, 7, 8, 9, 10, 11, 12, 13, 14, 15, 16]))]
theorem l33_4_ok : okDraw d33_4 o33_4 = true ∧ mkL d33_4 o33_4 = some l33_4 := ⟨by kernel_rfl, by kernel_rfl⟩

def c33 : List C :=
  [C.op none (some 4) (O.mv (Opd.c (AV.int IntKind.u64 0))),
    C.op none (some 5) (O.mv (Opd.c (AV.int IntKind.u64 4294967296))),
    C.draw d33_0,
    C.draw d33_1,
    C.draw d33_2,
    C.draw d33_3,
    C.draw d33_4,
    C.ret]
def r33 : List RV := [RV.t 4]
theorem c33_ok : cC Try.prog Try.f33.ntmps (Try.f33.body.getD .skip) = some c33 := by kernel_rfl

def c34 : List C :=
  [C.op none (some 4) (O.mv (Opd.c AV.nilptr)), C.op none (some 7) (O.mv (Opd.t 1)),
    C.op none (some 8) (O.len false (Opd.t 7)), C.op none (some 9) (O.mv (Opd.c (AV.int IntKind.i64 0))),
    C.blk 0
      [C.loop
          [C.op none (some 10) (O.bin BinOp.lss (Opd.t 9) (Opd.t 8)), C.cond (Opd.t 10) [] [C.exit 0],
            C.blk 1
              [C.op none (some 11) (O.iad 1 (Opd.t 7) (Opd.t 9)),
                C.op none (some 12) (O.ld (CK.int IntKind.u64) (Opd.t 11)), C.op none (some 6) (O.mv (Opd.t 12)),
                C.blk 2
                  [C.loop
                      [C.op none (some 13) (O.mv (Opd.t 6)),
                        C.op none (some 14) (O.bin BinOp.gtr (Opd.t 13) (Opd.c (AV.int IntKind.u64 127))),
                        C.cond (Opd.t 14) [] [C.exit 2],
                        C.blk 3
                          [C.op none (some 15) (O.mv (Opd.t 0)), C.op none (some 16) (O.mv (Opd.t 0)),
                            C.op none (some 17) (O.nck (Opd.t 16)), C.op none (some 18) (O.fad 0 (Opd.t 17)),
                            C.op none (some 19) (O.ld CK.any (Opd.t 18)), C.op none (some 20) (O.mv (Opd.t 6)),
                            C.op none (some 21) (O.cvi IntKind.u8 (Opd.t 20)),
                            C.op none (some 22) (O.bin BinOp.or (Opd.t 21) (Opd.c (AV.int IntKind.u8 128))),
                            C.op none (some 23) (O.bsl 1 [AV.int IntKind.u8 0] 1 [(0, Opd.t 22)]),
                            C.op none (some 24) (O.app 1 (Opd.t 19) (Opd.t 23)), C.op none (some 25) (O.nck (Opd.t 15)),
                            C.op none (some 26) (O.fad 0 (Opd.t 25)), C.op none none (O.st 1 (Opd.t 26) (Opd.t 24)),
                            C.op none (some 27) (O.mv (Opd.t 6)),
                            C.op none (some 28) (O.bin BinOp.shr (Opd.t 27) (Opd.c (AV.int IntKind.u64 7))),
                            C.op none (some 6) (O.mv (Opd.t 28))]]],
                C.op none (some 29) (O.mv (Opd.t 0)), C.op none (some 30) (O.mv (Opd.t 0)),
                C.op none (some 31) (O.nck (Opd.t 30)), C.op none (some 32) (O.fad 0 (Opd.t 31)),
                C.op none (some 33) (O.ld CK.any (Opd.t 32)), C.op none (some 34) (O.mv (Opd.t 6)),
                C.op none (some 35) (O.cvi IntKind.u8 (Opd.t 34)),
                C.op none (some 36) (O.bsl 1 [AV.int IntKind.u8 0] 1 [(0, Opd.t 35)]),
                C.op none (some 37) (O.app 1 (Opd.t 33) (Opd.t 36)), C.op none (some 38) (O.nck (Opd.t 29)),
                C.op none (some 39) (O.fad 0 (Opd.t 38)), C.op none none (O.st 1 (Opd.t 39) (Opd.t 37))],
            C.op none (some 40) (O.bin BinOp.add (Opd.t 9) (Opd.c (AV.int IntKind.i64 1))),
            C.op none (some 9) (O.mv (Opd.t 40))]],
    C.op none (some 41) (O.mv (Opd.t 0)), C.op none (some 4) (O.mv (Opd.t 41)), C.ret]
def r34 : List RV := [RV.t 4]
theorem c34_ok : cC Try.prog Try.f34.ntmps (Try.f34.body.getD .skip) = some c34 := by kernel_rfl

def c35 : List C :=
  [C.op none (some 2) (O.mv (Opd.c (AV.str []))), C.op none (some 3) (O.mv (Opd.t 0)),
    C.op none (some 4) (O.nck (Opd.t 3)), C.op none (some 5) (O.fad 0 (Opd.t 4)),
    C.op none (some 6) (O.ld CK.any (Opd.t 5)), C.op none (some 7) (O.cvb (Opd.t 6)),
    C.op none (some 2) (O.mv (Opd.t 7)), C.ret]
def r35 : List RV := [RV.t 2]
theorem c35_ok : cC Try.prog Try.f35.ntmps (Try.f35.body.getD .skip) = some c35 := by kernel_rfl

end Go.AEX
