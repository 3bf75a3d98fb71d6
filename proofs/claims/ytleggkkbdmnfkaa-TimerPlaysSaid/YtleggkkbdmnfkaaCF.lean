/- Compact codes, printed by gen.py from the given form; each is checked by its theorem. -/
import Derived.Test.YtleggkkbdmnfkaaAEzh
import Derived.Test.YtleggkkbdmnfkaaProg
import Derived.KernelRfl
namespace Go.AEX
open Go Go.AE Go.Proofs
set_option maxRecDepth 100000

def c3 : List C :=
  [C.op none (some 4) (O.mv (Opd.c (AV.bool false))), C.op none (some 9) (O.mv (Opd.t 0)),
    C.op none (some 10) (O.mv (Opd.t 1)),
    C.op none (some 11)
      (O.build [AV.int IntKind.i64 0, AV.int IntKind.i64 0]
        [(0, 1, Opd.t 9), (1, 1, Opd.t 10)]),
    C.op none (some 12) (O.call 8 [Opd.t 11]), C.op none (some 8) (O.mv (Opd.t 12)),
    C.op none (some 13) (O.ext (Opd.t 8) 0), C.op none (some 14) (O.ext (Opd.t 8) 1),
    C.op none (some 5) (O.mv (Opd.t 13)), C.op none (some 6) (O.mv (Opd.t 14)), C.op none (some 15) (O.mv (Opd.t 0)),
    C.op none (some 16) (O.bin BinOp.geq (Opd.t 15) (Opd.c (AV.int IntKind.i64 1))),
    C.op none (some 17) (O.mv (Opd.t 16)), C.op (some (17, true)) (some 18) (O.mv (Opd.t 1)),
    C.op (some (17, true)) (some 19) (O.mv (Opd.t 0)),
    C.op (some (17, true)) (some 20) (O.bin BinOp.geq (Opd.t 18) (Opd.t 19)),
    C.op none (some 21) (O.pick (Opd.t 17) (Opd.t 20) (Opd.c (AV.bool false))), C.op none (some 22) (O.mv (Opd.t 21)),
    C.op (some (22, true)) (some 23) (O.mv (Opd.t 1)),
    C.op (some (22, true)) (some 24) (O.bin BinOp.leq (Opd.t 23) (Opd.c (AV.int IntKind.i64 1048576))),
    C.op none (some 25) (O.pick (Opd.t 22) (Opd.t 24) (Opd.c (AV.bool false))), C.op none (some 7) (O.mv (Opd.t 25)),
    C.op none (some 26) (O.call 9 []), C.op none (some 27) (O.mv (Opd.t 26)),
    C.op (some (27, true)) (some 28) (O.mv (Opd.t 6)),
    C.op (some (27, true)) (some 29) (O.bin BinOp.eql (Opd.t 28) (Opd.c (AV.int IntKind.i64 0))),
    C.op (some (27, true)) (some 30) (O.mv (Opd.t 7)),
    C.op (some (27, true)) (some 31) (O.eqb false (Opd.t 29) (Opd.t 30)),
    C.op none (some 32) (O.pick (Opd.t 27) (Opd.t 31) (Opd.c (AV.bool false))), C.op none (some 33) (O.mv (Opd.t 32)),
    C.op (some (33, true)) (some 34) (O.mv (Opd.t 5)),
    C.op (some (33, true)) (some 35) (O.eqp 0 true (Opd.t 34) (Opd.c AV.nilptr)),
    C.op (some (33, true)) (some 36) (O.mv (Opd.t 7)),
    C.op (some (33, true)) (some 37) (O.eqb false (Opd.t 35) (Opd.t 36)),
    C.op none (some 38) (O.pick (Opd.t 33) (Opd.t 37) (Opd.c (AV.bool false))), C.op none (some 39) (O.mv (Opd.t 38)),
    C.op (some (39, true)) (some 40) (O.mv (Opd.t 7)), C.op (some (39, true)) (some 41) (O.mv (Opd.t 40)),
    C.op (some (41, false)) (some 42) (O.mv (Opd.t 6)),
    C.op (some (41, false)) (some 43) (O.bin BinOp.eql (Opd.t 42) (Opd.c (AV.int IntKind.i64 4))),
    C.op (some (39, true)) (some 44) (O.pick (Opd.t 41) (Opd.c (AV.bool true)) (Opd.t 43)),
    C.op none (some 45) (O.pick (Opd.t 39) (Opd.t 44) (Opd.c (AV.bool false))), C.op none (some 4) (O.mv (Opd.t 45)),
    C.ret]
def r3 : List RV := [RV.t 4]
theorem c3_ok : cC Try.prog Try.f3.ntmps (Try.f3.body.getD .skip) = some c3 := by kernel_rfl

def c4 : List C :=
  [C.op none (some 4) (O.mv (Opd.c (AV.bool false))), C.op none (some 15) (O.mv (Opd.t 1)),
    C.op none (some 16) (O.bin BinOp.and (Opd.t 15) (Opd.c (AV.int IntKind.i64 7))),
    C.op none (some 17) (O.bin BinOp.add (Opd.c (AV.int IntKind.i64 1)) (Opd.t 16)),
    C.op none (some 1) (O.mv (Opd.t 17)), C.op none (some 19) (O.mv (Opd.t 1)),
    C.op none (some 20)
      (O.build [AV.int IntKind.i64 0, AV.int IntKind.i64 0]
        [(0, 1, Opd.t 19), (1, 1, Opd.c (AV.int IntKind.i64 1000))]),
    C.op none (some 21) (O.call 8 [Opd.t 20]), C.op none (some 18) (O.mv (Opd.t 21)),
    C.op none (some 22) (O.ext (Opd.t 18) 0), C.op none (some 23) (O.ext (Opd.t 18) 1),
    C.op none (some 5) (O.mv (Opd.t 22)), C.op none (some 6) (O.mv (Opd.t 23)), C.op none (some 24) (O.call 9 []),
    C.op none (some 25) (O.un UnOp.not (Opd.t 24)), C.op none (some 26) (O.mv (Opd.t 25)),
    C.op (some (26, false)) (some 27) (O.mv (Opd.t 6)),
    C.op (some (26, false)) (some 28) (O.bin BinOp.neq (Opd.t 27) (Opd.c (AV.int IntKind.i64 0))),
    C.op none (some 29) (O.pick (Opd.t 26) (Opd.c (AV.bool true)) (Opd.t 28)),
    C.cond (Opd.t 29) [C.op none (some 4) (O.mv (Opd.c (AV.bool false))), C.ret] [],
    C.op none (some 7) (O.mv (Opd.c (AV.int IntKind.i64 0))),
    C.op none (some 30) (O.bsl 1 [AV.int IntKind.i64 0] 0 []), C.op none (some 8) (O.mv (Opd.t 30)),
    C.op none (some 9) (O.mv (Opd.c (AV.int IntKind.i64 0))),
    C.blk 0
      [C.loop
          [C.op none (some 31) (O.mv (Opd.t 9)), C.op none (some 32) (O.mv (Opd.t 0)),
            C.op none (some 33) (O.len false (Opd.t 32)), C.op none (some 34) (O.bin BinOp.lss (Opd.t 31) (Opd.t 33)),
            C.op none (some 35) (O.mv (Opd.t 34)), C.op (some (35, true)) (some 36) (O.mv (Opd.t 9)),
            C.op (some (35, true)) (some 37) (O.bin BinOp.lss (Opd.t 36) (Opd.c (AV.int IntKind.i64 20))),
            C.op none (some 38) (O.pick (Opd.t 35) (Opd.t 37) (Opd.c (AV.bool false))), C.cond (Opd.t 38) [] [C.exit 0],
            C.blk 1
              [C.op none (some 41) (O.mv (Opd.t 7)), C.op none (some 42) (O.mv (Opd.t 0)),
                C.op none (some 43) (O.mv (Opd.t 9)), C.op none (some 44) (O.iad 1 (Opd.t 42) (Opd.t 43)),
                C.op none (some 45) (O.ld (CK.int IntKind.i64) (Opd.t 44)),
                C.op none (some 46) (O.bin BinOp.and (Opd.t 45) (Opd.c (AV.int IntKind.i64 3))),
                C.op none (some 47) (O.bin BinOp.add (Opd.t 41) (Opd.t 46)), C.op none (some 7) (O.mv (Opd.t 47)),
                C.op none (some 48) (O.mv (Opd.t 8)), C.op none (some 49) (O.mv (Opd.t 7)),
                C.op none (some 50) (O.bsl 1 [AV.int IntKind.i64 0] 1 [(0, Opd.t 49)]),
                C.op none (some 51) (O.app 1 (Opd.t 48) (Opd.t 50)), C.op none (some 8) (O.mv (Opd.t 51)),
                C.op none (some 52) (O.mv (Opd.t 5)), C.op none (some 53) (O.mv (Opd.t 9)),
                C.op none (some 54) (O.cvi IntKind.u32 (Opd.t 53)), C.op none (some 55) (O.mv (Opd.t 7)),
                C.op none (some 56) (O.call 10 [Opd.t 52, Opd.t 54, Opd.t 55]),
                C.op none (some 57) (O.un UnOp.not (Opd.t 56)), C.op none (some 58) (O.mv (Opd.t 57)),
                C.op (some (58, false)) (some 59) (O.mv (Opd.t 5)), C.op (some (58, false)) (some 60) (O.mv (Opd.t 9)),
                C.op (some (58, false)) (some 61) (O.cvi IntKind.u32 (Opd.t 60)),
                C.op (some (58, false)) (some 62) (O.mv (Opd.t 7)),
                C.op (some (58, false)) (some 63) (O.call 10 [Opd.t 59, Opd.t 61, Opd.t 62]),
                C.op none (some 64) (O.pick (Opd.t 58) (Opd.c (AV.bool true)) (Opd.t 63)),
                C.cond (Opd.t 64) [C.op none (some 4) (O.mv (Opd.c (AV.bool false))), C.ret] []],
            C.op none (some 39) (O.mv (Opd.t 9)),
            C.op none (some 40) (O.bin BinOp.add (Opd.t 39) (Opd.c (AV.int IntKind.i64 1))),
            C.op none (some 9) (O.mv (Opd.t 40))]],
    C.op none (some 65) (O.mv (Opd.t 5)), C.op none (some 66) (O.mv (Opd.t 7)), C.op none (some 67) (O.mv (Opd.t 1)),
    C.op none (some 68) (O.bin BinOp.add (Opd.t 66) (Opd.t 67)), C.op none (some 69) (O.call 11 [Opd.t 65, Opd.t 68]),
    C.op none (some 10) (O.mv (Opd.t 69)), C.op none (some 70) (O.mv (Opd.t 10)),
    C.op none (some 71) (O.len false (Opd.t 70)), C.op none (some 72) (O.mv (Opd.t 8)),
    C.op none (some 73) (O.len false (Opd.t 72)), C.op none (some 74) (O.bin BinOp.neq (Opd.t 71) (Opd.t 73)),
    C.cond (Opd.t 74) [C.op none (some 4) (O.mv (Opd.c (AV.bool false))), C.ret] [],
    C.op none (some 75) (O.mv (Opd.t 10)), C.op none (some 76) (O.len false (Opd.t 75)),
    C.op none (some 77) (O.mv (Opd.c (AV.int IntKind.i64 0))),
    C.blk 2
      [C.loop
          [C.op none (some 78) (O.bin BinOp.lss (Opd.t 77) (Opd.t 76)), C.cond (Opd.t 78) [] [C.exit 2],
            C.blk 3
              [C.op none (some 79) (O.mv (Opd.t 77)), C.op none (some 80) (O.iad 1 (Opd.t 75) (Opd.t 77)),
                C.op none (some 81) (O.ld (CK.int IntKind.u32) (Opd.t 80)), C.op none (some 11) (O.mv (Opd.t 79)),
                C.op none (some 12) (O.mv (Opd.t 81)), C.op none (some 82) (O.mv (Opd.t 12)),
                C.op none (some 83) (O.mv (Opd.t 11)), C.op none (some 84) (O.cvi IntKind.u32 (Opd.t 83)),
                C.op none (some 85) (O.bin BinOp.neq (Opd.t 82) (Opd.t 84)),
                C.cond (Opd.t 85) [C.op none (some 4) (O.mv (Opd.c (AV.bool false))), C.ret] [],
                C.op none (some 87) (O.mv (Opd.t 5)), C.op none (some 88) (O.mv (Opd.t 12)),
                C.op none (some 89) (O.call 12 [Opd.t 87, Opd.t 88]), C.op none (some 86) (O.mv (Opd.t 89)),
                C.op none (some 90) (O.ext (Opd.t 86) 0), C.op none (some 91) (O.ext (Opd.t 86) 1),
                C.op none (some 13) (O.mv (Opd.t 90)), C.op none (some 14) (O.mv (Opd.t 91)),
                C.op none (some 92) (O.mv (Opd.t 13)),
                C.op none (some 93) (O.bin BinOp.neq (Opd.t 92) (Opd.c (AV.int IntKind.i64 1))),
                C.op none (some 94) (O.mv (Opd.t 93)), C.op (some (94, false)) (some 95) (O.mv (Opd.t 14)),
                C.op (some (94, false)) (some 96) (O.un UnOp.not (Opd.t 95)),
                C.op none (some 97) (O.pick (Opd.t 94) (Opd.c (AV.bool true)) (Opd.t 96)),
                C.cond (Opd.t 97) [C.op none (some 4) (O.mv (Opd.c (AV.bool false))), C.ret] []],
            C.op none (some 98) (O.bin BinOp.add (Opd.t 77) (Opd.c (AV.int IntKind.i64 1))),
            C.op none (some 77) (O.mv (Opd.t 98))]],
    C.op none (some 99) (O.mv (Opd.t 5)), C.op none (some 100) (O.mv (Opd.t 7)), C.op none (some 101) (O.mv (Opd.t 1)),
    C.op none (some 102) (O.bin BinOp.add (Opd.t 100) (Opd.t 101)),
    C.op none (some 103) (O.call 11 [Opd.t 99, Opd.t 102]), C.op none (some 104) (O.len false (Opd.t 103)),
    C.op none (some 105) (O.bin BinOp.eql (Opd.t 104) (Opd.c (AV.int IntKind.i64 0))),
    C.op none (some 106) (O.mv (Opd.t 105)), C.op (some (106, true)) (some 107) (O.mv (Opd.t 5)),
    C.op (some (106, true)) (some 108) (O.mv (Opd.t 7)), C.op (some (106, true)) (some 109) (O.mv (Opd.t 1)),
    C.op (some (106, true)) (some 110) (O.bin BinOp.mul (Opd.c (AV.int IntKind.i64 3)) (Opd.t 109)),
    C.op (some (106, true)) (some 111) (O.bin BinOp.add (Opd.t 108) (Opd.t 110)),
    C.op (some (106, true)) (some 112) (O.call 11 [Opd.t 107, Opd.t 111]),
    C.op (some (106, true)) (some 113) (O.len false (Opd.t 112)), C.op (some (106, true)) (some 114) (O.mv (Opd.t 8)),
    C.op (some (106, true)) (some 115) (O.len false (Opd.t 114)),
    C.op (some (106, true)) (some 116) (O.bin BinOp.eql (Opd.t 113) (Opd.t 115)),
    C.op none (some 117) (O.pick (Opd.t 106) (Opd.t 116) (Opd.c (AV.bool false))),
    C.op none (some 4) (O.mv (Opd.t 117)), C.ret]
def r4 : List RV := [RV.t 4]
theorem c4_ok : cC Try.prog Try.f4.ntmps (Try.f4.body.getD .skip) = some c4 := by kernel_rfl

def c5 : List C :=
  [C.op none (some 6) (O.mv (Opd.c (AV.bool false))), C.op none (some 14) (O.mv (Opd.t 0)),
    C.op none (some 15) (O.bin BinOp.and (Opd.t 14) (Opd.c (AV.int IntKind.i64 7))),
    C.op none (some 16) (O.bin BinOp.add (Opd.c (AV.int IntKind.i64 1)) (Opd.t 15)),
    C.op none (some 0) (O.mv (Opd.t 16)), C.op none (some 17) (O.mv (Opd.t 0)), C.op none (some 18) (O.mv (Opd.t 1)),
    C.op none (some 19) (O.bin BinOp.and (Opd.t 18) (Opd.c (AV.int IntKind.i64 63))),
    C.op none (some 20) (O.bin BinOp.add (Opd.t 17) (Opd.t 19)), C.op none (some 1) (O.mv (Opd.t 20)),
    C.op none (some 22) (O.mv (Opd.t 0)), C.op none (some 23) (O.mv (Opd.t 1)),
    C.op none (some 24)
      (O.build [AV.int IntKind.i64 0, AV.int IntKind.i64 0]
        [(0, 1, Opd.t 22), (1, 1, Opd.t 23)]),
    C.op none (some 25) (O.call 8 [Opd.t 24]), C.op none (some 21) (O.mv (Opd.t 25)),
    C.op none (some 26) (O.ext (Opd.t 21) 0), C.op none (some 27) (O.ext (Opd.t 21) 1),
    C.op none (some 7) (O.mv (Opd.t 26)), C.op none (some 8) (O.mv (Opd.t 27)), C.op none (some 28) (O.call 9 []),
    C.op none (some 29) (O.un UnOp.not (Opd.t 28)), C.op none (some 30) (O.mv (Opd.t 29)),
    C.op (some (30, false)) (some 31) (O.mv (Opd.t 8)),
    C.op (some (30, false)) (some 32) (O.bin BinOp.neq (Opd.t 31) (Opd.c (AV.int IntKind.i64 0))),
    C.op none (some 33) (O.pick (Opd.t 30) (Opd.c (AV.bool true)) (Opd.t 32)), C.op none (some 34) (O.mv (Opd.t 33)),
    C.op (some (34, false)) (some 35) (O.mv (Opd.t 7)),
    C.op (some (34, false)) (some 36)
      (O.call 10 [Opd.t 35, Opd.c (AV.int IntKind.u32 5), Opd.c (AV.int IntKind.i64 10)]),
    C.op (some (34, false)) (some 37) (O.un UnOp.not (Opd.t 36)),
    C.op none (some 38) (O.pick (Opd.t 34) (Opd.c (AV.bool true)) (Opd.t 37)),
    C.cond (Opd.t 38) [C.op none (some 6) (O.mv (Opd.c (AV.bool false))), C.ret] [],
    C.op none (some 39) (O.mv (Opd.t 0)), C.op none (some 9) (O.mv (Opd.c (AV.int IntKind.i64 10))),
    C.op none (some 10) (O.mv (Opd.t 39)), C.op none (some 40) (O.mv (Opd.t 2)),
    C.op none (some 41) (O.mx [Opd.t 40, Opd.c (AV.int IntKind.i64 0)]),
    C.op none (some 42) (O.mn [Opd.t 41, Opd.c (AV.int IntKind.i64 300)]),
    C.op none (some 43) (O.bin BinOp.add (Opd.c (AV.int IntKind.i64 11)) (Opd.t 42)),
    C.op none (some 11) (O.mv (Opd.t 43)), C.op none (some 12) (O.mv (Opd.c (AV.int IntKind.i64 11))),
    C.blk 0
      [C.loop
          [C.op none (some 44) (O.mv (Opd.t 12)), C.op none (some 45) (O.mv (Opd.t 11)),
            C.op none (some 46) (O.bin BinOp.lss (Opd.t 44) (Opd.t 45)), C.cond (Opd.t 46) [] [C.exit 0],
            C.blk 1
              [C.op none (some 49) (O.mv (Opd.t 7)), C.op none (some 50) (O.mv (Opd.t 12)),
                C.op none (some 51) (O.call 11 [Opd.t 49, Opd.t 50]), C.op none (some 13) (O.mv (Opd.t 51)),
                C.op none (some 52) (O.mv (Opd.t 13)), C.op none (some 53) (O.len false (Opd.t 52)),
                C.op none (some 54) (O.bin BinOp.eql (Opd.t 53) (Opd.c (AV.int IntKind.i64 0))),
                C.cond (Opd.t 54)
                  [C.op none (some 55) (O.mv (Opd.t 12)), C.op none (some 56) (O.mv (Opd.t 9)),
                    C.op none (some 57) (O.bin BinOp.sub (Opd.t 55) (Opd.t 56)), C.op none (some 58) (O.mv (Opd.t 1)),
                    C.op none (some 59) (O.bin BinOp.geq (Opd.t 57) (Opd.t 58)),
                    C.cond (Opd.t 59) [C.op none (some 6) (O.mv (Opd.c (AV.bool false))), C.ret] [], C.exit 1]
                  [],
                C.op none (some 60) (O.mv (Opd.t 13)), C.op none (some 61) (O.len false (Opd.t 60)),
                C.op none (some 62) (O.bin BinOp.neq (Opd.t 61) (Opd.c (AV.int IntKind.i64 1))),
                C.op none (some 63) (O.mv (Opd.t 62)), C.op (some (63, false)) (some 64) (O.mv (Opd.t 13)),
                C.op (some (63, false)) (some 65) (O.iad 1 (Opd.t 64) (Opd.c (AV.int IntKind.i64 0))),
                C.op (some (63, false)) (some 66) (O.ld (CK.int IntKind.u32) (Opd.t 65)),
                C.op (some (63, false)) (some 67)
                  (O.bin BinOp.neq (Opd.t 66) (Opd.c (AV.int IntKind.u32 5))),
                C.op none (some 68) (O.pick (Opd.t 63) (Opd.c (AV.bool true)) (Opd.t 67)),
                C.op none (some 69) (O.mv (Opd.t 68)), C.op (some (69, false)) (some 70) (O.mv (Opd.t 12)),
                C.op (some (69, false)) (some 71) (O.mv (Opd.t 9)),
                C.op (some (69, false)) (some 72) (O.bin BinOp.sub (Opd.t 70) (Opd.t 71)),
                C.op (some (69, false)) (some 73) (O.mv (Opd.t 0)),
                C.op (some (69, false)) (some 74) (O.bin BinOp.lss (Opd.t 72) (Opd.t 73)),
                C.op none (some 75) (O.pick (Opd.t 69) (Opd.c (AV.bool true)) (Opd.t 74)),
                C.op none (some 76) (O.mv (Opd.t 75)), C.op (some (76, false)) (some 77) (O.mv (Opd.t 12)),
                C.op (some (76, false)) (some 78) (O.mv (Opd.t 9)),
                C.op (some (76, false)) (some 79) (O.bin BinOp.sub (Opd.t 77) (Opd.t 78)),
                C.op (some (76, false)) (some 80) (O.mv (Opd.t 1)),
                C.op (some (76, false)) (some 81) (O.bin BinOp.gtr (Opd.t 79) (Opd.t 80)),
                C.op none (some 82) (O.pick (Opd.t 76) (Opd.c (AV.bool true)) (Opd.t 81)),
                C.op none (some 83) (O.mv (Opd.t 82)), C.op (some (83, false)) (some 84) (O.mv (Opd.t 12)),
                C.op (some (83, false)) (some 85) (O.mv (Opd.t 9)),
                C.op (some (83, false)) (some 86) (O.bin BinOp.sub (Opd.t 84) (Opd.t 85)),
                C.op (some (83, false)) (some 87) (O.mv (Opd.t 10)),
                C.op (some (83, false)) (some 88) (O.bin BinOp.lss (Opd.t 86) (Opd.t 87)),
                C.op none (some 89) (O.pick (Opd.t 83) (Opd.c (AV.bool true)) (Opd.t 88)),
                C.cond (Opd.t 89) [C.op none (some 6) (O.mv (Opd.c (AV.bool false))), C.ret] [],
                C.op none (some 90) (O.mv (Opd.t 12)), C.op none (some 91) (O.mv (Opd.t 12)),
                C.op none (some 92) (O.mv (Opd.t 9)), C.op none (some 93) (O.bin BinOp.sub (Opd.t 91) (Opd.t 92)),
                C.op none (some 9) (O.mv (Opd.t 90)), C.op none (some 10) (O.mv (Opd.t 93))],
            C.op none (some 47) (O.mv (Opd.t 12)),
            C.op none (some 48) (O.bin BinOp.add (Opd.t 47) (Opd.c (AV.int IntKind.i64 1))),
            C.op none (some 12) (O.mv (Opd.t 48))]],
    C.op none (some 94) (O.mv (Opd.t 7)),
    C.op none (some 95)
      (O.bsl 1 [AV.int IntKind.u32 0] 3
        [(0, Opd.c (AV.int IntKind.u32 5)), (1, Opd.c (AV.int IntKind.u32 5)),
          (2, Opd.c (AV.int IntKind.u32 6))]),
    C.op none (some 96) (O.call 13 [Opd.t 94, Opd.t 95]),
    C.op none (some 97) (O.bin BinOp.eql (Opd.t 96) (Opd.c (AV.int IntKind.i64 1))),
    C.op none (some 98) (O.mv (Opd.t 97)), C.op (some (98, true)) (some 99) (O.mv (Opd.t 7)),
    C.op (some (98, true)) (some 100) (O.mv (Opd.t 11)),
    C.op (some (98, true)) (some 101) (O.bin BinOp.add (Opd.t 100) (Opd.c (AV.int IntKind.i64 1000))),
    C.op (some (98, true)) (some 102) (O.call 11 [Opd.t 99, Opd.t 101]),
    C.op (some (98, true)) (some 103) (O.len false (Opd.t 102)),
    C.op (some (98, true)) (some 104) (O.bin BinOp.eql (Opd.t 103) (Opd.c (AV.int IntKind.i64 0))),
    C.op none (some 105) (O.pick (Opd.t 98) (Opd.t 104) (Opd.c (AV.bool false))), C.op none (some 6) (O.mv (Opd.t 105)),
    C.ret]
def r5 : List RV := [RV.t 6]
theorem c5_ok : cC Try.prog Try.f5.ntmps (Try.f5.body.getD .skip) = some c5 := by kernel_rfl

def c6 : List C :=
  [C.op none (some 4) (O.mv (Opd.c (AV.bool false))),
    C.op none (some 16)
      (O.build [AV.int IntKind.i64 0, AV.int IntKind.i64 0]
        [(0, 1, Opd.c (AV.int IntKind.i64 3)), (1, 1, Opd.c (AV.int IntKind.i64 9))]),
    C.op none (some 17) (O.call 8 [Opd.t 16]), C.op none (some 15) (O.mv (Opd.t 17)),
    C.op none (some 18) (O.ext (Opd.t 15) 0), C.op none (some 19) (O.ext (Opd.t 15) 1),
    C.op none (some 5) (O.mv (Opd.t 18)), C.op none (some 6) (O.mv (Opd.t 19)), C.op none (some 20) (O.call 9 []),
    C.op none (some 21) (O.un UnOp.not (Opd.t 20)), C.op none (some 22) (O.mv (Opd.t 21)),
    C.op (some (22, false)) (some 23) (O.mv (Opd.t 6)),
    C.op (some (22, false)) (some 24) (O.bin BinOp.neq (Opd.t 23) (Opd.c (AV.int IntKind.i64 0))),
    C.op none (some 25) (O.pick (Opd.t 22) (Opd.c (AV.bool true)) (Opd.t 24)),
    C.cond (Opd.t 25) [C.op none (some 4) (O.mv (Opd.c (AV.bool false))), C.ret] [],
    C.op none (some 26) (O.mv (Opd.t 0)),
    C.op none (some 27) (O.bin BinOp.and (Opd.t 26) (Opd.c (AV.int IntKind.i64 15))),
    C.op none (some 0) (O.mv (Opd.t 27)), C.op none (some 28) (O.mv (Opd.t 0)),
    C.op none (some 29) (O.mv (Opd.c (AV.int IntKind.i64 0))),
    C.blk 0
      [C.loop
          [C.op none (some 30) (O.bin BinOp.lss (Opd.t 29) (Opd.t 28)), C.cond (Opd.t 30) [] [C.exit 0],
            C.blk 1
              [C.op none (some 31) (O.mv (Opd.t 29)), C.op none (some 7) (O.mv (Opd.t 31)),
                C.op none (some 32) (O.mv (Opd.t 5)), C.op none (some 33) (O.mv (Opd.t 7)),
                C.op none (some 34) (O.cvi IntKind.u32 (Opd.t 33)),
                C.op none (some 35) (O.call 10 [Opd.t 32, Opd.t 34, Opd.c (AV.int IntKind.i64 0)])],
            C.op none (some 36) (O.bin BinOp.add (Opd.t 29) (Opd.c (AV.int IntKind.i64 1))),
            C.op none (some 29) (O.mv (Opd.t 36))]],
    C.op none (some 37) (O.mv (Opd.t 1)), C.op none (some 38) (O.len false (Opd.t 37)),
    C.op none (some 39) (O.bin BinOp.gtr (Opd.t 38) (Opd.c (AV.int IntKind.i64 12))),
    C.cond (Opd.t 39)
      [C.op none (some 40) (O.mv (Opd.t 1)),
        C.op none (some 41) (O.lsl 1 (Opd.t 40) none (some (Opd.c (AV.int IntKind.i64 12))) none),
        C.op none (some 1) (O.mv (Opd.t 41))]
      [],
    C.op none (some 42) O.mkmap, C.op none (some 8) (O.mv (Opd.t 42)), C.op none (some 43) (O.mv (Opd.t 1)),
    C.op none (some 44) (O.len false (Opd.t 43)), C.op none (some 45) (O.mv (Opd.c (AV.int IntKind.i64 0))),
    C.blk 2
      [C.loop
          [C.op none (some 46) (O.bin BinOp.lss (Opd.t 45) (Opd.t 44)), C.cond (Opd.t 46) [] [C.exit 2],
            C.blk 3
              [C.op none (some 47) (O.iad 1 (Opd.t 43) (Opd.t 45)),
                C.op none (some 48) (O.ld (CK.int IntKind.u32) (Opd.t 47)), C.op none (some 10) (O.mv (Opd.t 48)),
                C.op none (some 49) (O.mv (Opd.t 10)), C.op none (some 50) (O.mv (Opd.t 0)),
                C.op none (some 51) (O.cvi IntKind.u32 (Opd.t 50)),
                C.op none (some 52) (O.bin BinOp.lss (Opd.t 49) (Opd.t 51)),
                C.cond (Opd.t 52)
                  [C.op none (some 53) (O.mv (Opd.t 8)), C.op none (some 54) (O.mv (Opd.t 10)),
                    C.op none (some 55)
                      (O.look false (CK.int IntKind.i64) (AV.int IntKind.i64 0) false (Opd.t 53)
                        (Opd.t 54)),
                    C.op none (some 56) (O.bin BinOp.add (Opd.t 55) (Opd.c (AV.int IntKind.i64 1))),
                    C.op none none (O.mput false (Opd.t 53) (Opd.t 54) (Opd.t 56))]
                  []],
            C.op none (some 57) (O.bin BinOp.add (Opd.t 45) (Opd.c (AV.int IntKind.i64 1))),
            C.op none (some 45) (O.mv (Opd.t 57))]],
    C.op none (some 58) (O.mv (Opd.t 5)), C.op none (some 59) (O.mv (Opd.t 1)),
    C.op none (some 60) (O.call 13 [Opd.t 58, Opd.t 59]), C.op none (some 61) (O.mv (Opd.t 8)),
    C.op none (some 62) (O.lenm (Opd.t 61)), C.op none (some 63) (O.bin BinOp.neq (Opd.t 60) (Opd.t 62)),
    C.op none (some 64) (O.mv (Opd.t 63)), C.op (some (64, false)) (some 65) (O.mv (Opd.t 5)),
    C.op (some (64, false)) (some 66) (O.call 14 [Opd.t 65]), C.op (some (64, false)) (some 67) (O.mv (Opd.t 0)),
    C.op (some (64, false)) (some 68) (O.mv (Opd.t 8)), C.op (some (64, false)) (some 69) (O.lenm (Opd.t 68)),
    C.op (some (64, false)) (some 70) (O.bin BinOp.sub (Opd.t 67) (Opd.t 69)),
    C.op (some (64, false)) (some 71) (O.bin BinOp.neq (Opd.t 66) (Opd.t 70)),
    C.op none (some 72) (O.pick (Opd.t 64) (Opd.c (AV.bool true)) (Opd.t 71)),
    C.cond (Opd.t 72) [C.op none (some 4) (O.mv (Opd.c (AV.bool false))), C.ret] [],
    C.op none (some 73) (O.mv (Opd.t 5)),
    C.op none (some 74) (O.call 11 [Opd.t 73, Opd.c (AV.int IntKind.i64 3)]),
    C.op none (some 75) (O.len false (Opd.t 74)), C.op none (some 76) (O.mv (Opd.c (AV.int IntKind.i64 0))),
    C.blk 4
      [C.loop
          [C.op none (some 77) (O.bin BinOp.lss (Opd.t 76) (Opd.t 75)), C.cond (Opd.t 77) [] [C.exit 4],
            C.blk 5
              [C.op none (some 78) (O.iad 1 (Opd.t 74) (Opd.t 76)),
                C.op none (some 79) (O.ld (CK.int IntKind.u32) (Opd.t 78)), C.op none (some 12) (O.mv (Opd.t 79)),
                C.op none (some 80) (O.mv (Opd.t 8)), C.op none (some 81) (O.mv (Opd.t 12)),
                C.op none (some 82)
                  (O.look false (CK.int IntKind.i64) (AV.int IntKind.i64 0) false (Opd.t 80) (Opd.t 81)),
                C.op none (some 83) (O.bin BinOp.gtr (Opd.t 82) (Opd.c (AV.int IntKind.i64 0))),
                C.cond (Opd.t 83) [C.op none (some 4) (O.mv (Opd.c (AV.bool false))), C.ret] []],
            C.op none (some 84) (O.bin BinOp.add (Opd.t 76) (Opd.c (AV.int IntKind.i64 1))),
            C.op none (some 76) (O.mv (Opd.t 84))]],
    C.op none (some 86) (O.mv (Opd.t 5)), C.op none (some 87) (O.call 15 [Opd.t 86]),
    C.op none (some 85) (O.mv (Opd.t 87)), C.op none (some 88) (O.ext (Opd.t 85) 0),
    C.op none (some 89) (O.ext (Opd.t 85) 1), C.op none (some 13) (O.mv (Opd.t 88)),
    C.op none (some 14) (O.mv (Opd.t 89)), C.op none (some 90) (O.mv (Opd.t 14)), C.op none (some 91) (O.mv (Opd.t 0)),
    C.op none (some 92) (O.mv (Opd.t 8)), C.op none (some 93) (O.lenm (Opd.t 92)),
    C.op none (some 94) (O.bin BinOp.gtr (Opd.t 91) (Opd.t 93)),
    C.op none (some 95) (O.eqb false (Opd.t 90) (Opd.t 94)), C.op none (some 96) (O.mv (Opd.t 95)),
    C.op (some (96, true)) (some 97) (O.mv (Opd.t 5)), C.op (some (96, true)) (some 98) (O.mv (Opd.t 1)),
    C.op (some (96, true)) (some 99) (O.call 13 [Opd.t 97, Opd.t 98]),
    C.op (some (96, true)) (some 100) (O.bin BinOp.eql (Opd.t 99) (Opd.c (AV.int IntKind.i64 0))),
    C.op none (some 101) (O.pick (Opd.t 96) (Opd.t 100) (Opd.c (AV.bool false))), C.op none (some 4) (O.mv (Opd.t 101)),
    C.ret]
def r6 : List RV := [RV.t 4]
theorem c6_ok : cC Try.prog Try.f6.ntmps (Try.f6.body.getD .skip) = some c6 := by kernel_rfl

def d7_0 : List It :=
  [(none, some 85,
                                  O.bsl 4
                                    [AV.int IntKind.u32 0, AV.int IntKind.i64 0,
                                      AV.int IntKind.i64 0, AV.int IntKind.i64 0]
                                    0 [],
                                  []),
                                (none, some 86, O.mv (Opd.t 9), []),
                                (none, some 87, O.app 4 (Opd.t 85) (Opd.t 86), [0, 1]),
                                (none, some 88, O.fad 2 (Opd.t 12), []),
                                (none, some 89, O.ld (CK.int IntKind.u32) (Opd.t 88), [3]),
                                (none, some 90, O.mv (Opd.t 10), []), (none, some 91, O.mv (Opd.t 0), []),
                                (none, some 92, O.bin BinOp.add (Opd.t 90) (Opd.t 91), [5, 6]),
                                (none, some 93, O.mv (Opd.t 0), []),
                                (none, some 94,
                                  O.build
                                    [AV.int IntKind.u32 0, AV.int IntKind.i64 0,
                                      AV.int IntKind.i64 0, AV.int IntKind.i64 0]
                                    [(0, 1, Opd.t 89), (1, 1, Opd.t 92), (2, 1, Opd.t 93)],
                                  [4, 7, 8]),
                                (none, some 95,
                                  O.bsl 4
                                    [AV.int IntKind.u32 0, AV.int IntKind.i64 0,
                                      AV.int IntKind.i64 0, AV.int IntKind.i64 0]
                                    1 [(0, Opd.t 94)],
                                  [9]),
                                (none, some 96, O.app 4 (Opd.t 87) (Opd.t 95), [2, 10, 2]),
                                (none, some 9, O.mv (Opd.t 96), [11, 11, 0, 1, 2, 3, 4, 5, 6, 7, 8, 9, 10, 11])]
def o7_0 : List (Nat × Bool) := [(0, false), (1, false), (3, false), (4, false), (5, false), (6, false), (7, false), (8, false), (9, false), (10, false), (2, true), (11, true), (12, true)]
def l7_0 : List (Nat × Bool × It) :=
  [(0, false, (none, some 85,
                                  O.bsl 4
                                    [AV.int IntKind.u32 0, AV.int IntKind.i64 0,
                                      AV.int IntKind.i64 0, AV.int IntKind.i64 0]
                                    0 [],
                                  [])),
   (1, false, (none, some 86, O.mv (Opd.t 9), [])),
   (3, false, (none, some 88, O.fad 2 (Opd.t 12), [])),
   (4, false, (none, some 89, O.ld (CK.int IntKind.u32) (Opd.t 88), [3])),
   (5, false, (none, some 90, O.mv (Opd.t 10), [])),
   (6, false, (none, some 91, O.mv (Opd.t 0), [])),
   (7, false, (none, some 92, O.bin BinOp.add (Opd.t 90) (Opd.t 91), [5, 6])),
   (8, false, (none, some 93, O.mv (Opd.t 0), [])),
   (9, false, (none, some 94,
                                  O.build
                                    [AV.int IntKind.u32 0, AV.int IntKind.i64 0,
                                      AV.int IntKind.i64 0, AV.int IntKind.i64 0]
                                    [(0, 1, Opd.t 89), (1, 1, Opd.t 92), (2, 1, Opd.t 93)],
                                  [4, 7, 8])),
   (10, false, (none, some 95,
                                  O.bsl 4
                                    [AV.int IntKind.u32 0, AV.int IntKind.i64 0,
                                      AV.int IntKind.i64 0, AV.int IntKind.i64 0]
                                    1 [(0, Opd.t 94)],
                                  [9])),
   (2, true, (none, some 87, O.app 4 (Opd.t 85) (Opd.t 86), [0, 1])),
   (11, true, (none, some 96, O.app 4 (Opd.t 87) (Opd.t 95), [2, 10, 2])),
   (12, true, (none, some 9, O.mv (Opd.t 96), [11, 11, 0, 1, 2, 3, 4, 5, 6, 7, 8, 9, 10, 11]))]
theorem l7_0_ok : okDraw d7_0 o7_0 = true ∧ mkL d7_0 o7_0 = some l7_0 := ⟨by kernel_rfl, by kernel_rfl⟩

def d7_1 : List It :=
  [(none, some 149, O.mv (Opd.t 18), []),
                                                (none, some 150, O.mv (Opd.t 21), []),
                                                (none, some 151, O.iad 1 (Opd.t 149) (Opd.t 150), [0, 1]),
                                                (none, some 152, O.ld (CK.int IntKind.u32) (Opd.t 151), [2]),
                                                (none, some 153, O.mv (Opd.t 20), []),
                                                (none, some 154, O.mv (Opd.t 21), []),
                                                (none, some 155, O.iad 1 (Opd.t 153) (Opd.t 154), [4, 5]),
                                                (none, some 156, O.ld (CK.int IntKind.u32) (Opd.t 155), [6]),
                                                (none, some 157, O.bin BinOp.neq (Opd.t 152) (Opd.t 156), [3, 7])]
def o7_1 : List (Nat × Bool) := [(0, false), (1, false), (2, false), (3, false), (4, false), (5, false), (6, false), (7, false), (8, false)]
def l7_1 : List (Nat × Bool × It) :=
  [(0, false, (none, some 149, O.mv (Opd.t 18), [])),
   (1, false, (none, some 150, O.mv (Opd.t 21), [])),
   (2, false, (none, some 151, O.iad 1 (Opd.t 149) (Opd.t 150), [0, 1])),
   (3, false, (none, some 152, O.ld (CK.int IntKind.u32) (Opd.t 151), [2])),
   (4, false, (none, some 153, O.mv (Opd.t 20), [])),
   (5, false, (none, some 154, O.mv (Opd.t 21), [])),
   (6, false, (none, some 155, O.iad 1 (Opd.t 153) (Opd.t 154), [4, 5])),
   (7, false, (none, some 156, O.ld (CK.int IntKind.u32) (Opd.t 155), [6])),
   (8, false, (none, some 157, O.bin BinOp.neq (Opd.t 152) (Opd.t 156), [3, 7]))]
theorem l7_1_ok : okDraw d7_1 o7_1 = true ∧ mkL d7_1 o7_1 = some l7_1 := ⟨by kernel_rfl, by kernel_rfl⟩

def c7 : List C :=
  [C.op none (some 6) (O.mv (Opd.c (AV.bool false))), C.op none (some 27) (O.mv (Opd.t 0)),
    C.op none (some 28) (O.bin BinOp.and (Opd.t 27) (Opd.c (AV.int IntKind.i64 7))),
    C.op none (some 29) (O.bin BinOp.add (Opd.c (AV.int IntKind.i64 1)) (Opd.t 28)),
    C.op none (some 0) (O.mv (Opd.t 29)), C.op none (some 30) (O.mv (Opd.t 0)), C.op none (some 31) (O.mv (Opd.t 1)),
    C.op none (some 32) (O.bin BinOp.and (Opd.t 31) (Opd.c (AV.int IntKind.i64 31))),
    C.op none (some 33) (O.bin BinOp.add (Opd.t 30) (Opd.t 32)), C.op none (some 1) (O.mv (Opd.t 33)),
    C.op none (some 35) (O.mv (Opd.t 0)), C.op none (some 36) (O.mv (Opd.t 1)),
    C.op none (some 37)
      (O.build [AV.int IntKind.i64 0, AV.int IntKind.i64 0]
        [(0, 1, Opd.t 35), (1, 1, Opd.t 36)]),
    C.op none (some 38) (O.call 8 [Opd.t 37]), C.op none (some 34) (O.mv (Opd.t 38)),
    C.op none (some 39) (O.ext (Opd.t 34) 0), C.op none (some 40) (O.ext (Opd.t 34) 1),
    C.op none (some 7) (O.mv (Opd.t 39)), C.op none (some 8) (O.mv (Opd.t 40)), C.op none (some 41) (O.call 9 []),
    C.op none (some 42) (O.un UnOp.not (Opd.t 41)), C.op none (some 43) (O.mv (Opd.t 42)),
    C.op (some (43, false)) (some 44) (O.mv (Opd.t 8)),
    C.op (some (43, false)) (some 45) (O.bin BinOp.neq (Opd.t 44) (Opd.c (AV.int IntKind.i64 0))),
    C.op none (some 46) (O.pick (Opd.t 43) (Opd.c (AV.bool true)) (Opd.t 45)),
    C.cond (Opd.t 46) [C.op none (some 6) (O.mv (Opd.c (AV.bool false))), C.ret] [],
    C.op none (some 47)
      (O.bsl 4
        [AV.int IntKind.u32 0, AV.int IntKind.i64 0, AV.int IntKind.i64 0,
          AV.int IntKind.i64 0]
        0 []),
    C.op none (some 9) (O.mv (Opd.t 47)), C.op none (some 10) (O.mv (Opd.c (AV.int IntKind.i64 0))),
    C.op none (some 11) (O.mv (Opd.c (AV.int IntKind.i64 0))),
    C.blk 0
      [C.loop
          [C.op none (some 48) (O.mv (Opd.t 11)), C.op none (some 49) (O.mv (Opd.t 2)),
            C.op none (some 50) (O.len false (Opd.t 49)), C.op none (some 51) (O.bin BinOp.lss (Opd.t 48) (Opd.t 50)),
            C.op none (some 52) (O.mv (Opd.t 51)), C.op (some (52, true)) (some 53) (O.mv (Opd.t 11)),
            C.op (some (52, true)) (some 54) (O.bin BinOp.lss (Opd.t 53) (Opd.c (AV.int IntKind.i64 120))),
            C.op none (some 55) (O.pick (Opd.t 52) (Opd.t 54) (Opd.c (AV.bool false))), C.cond (Opd.t 55) [] [C.exit 0],
            C.blk 1
              [C.op none (some 58) (O.mv (Opd.t 2)), C.op none (some 59) (O.mv (Opd.t 11)),
                C.op none (some 60) (O.iad 4 (Opd.t 58) (Opd.t 59)),
                C.op none (some 61)
                  (O.ldn [CK.int IntKind.i64, CK.int IntKind.i64, CK.int IntKind.u32, CK.any] (Opd.t 60)),
                C.op none (some 12)
                  (O.alloc
                    [AV.int IntKind.i64 0, AV.int IntKind.i64 0,
                      AV.int IntKind.u32 0, AV.nilsl]),
                C.op none none (O.st 4 (Opd.t 12) (Opd.t 61)), C.op none (some 62) (O.mv (Opd.t 10)),
                C.op none (some 63) (O.fad 1 (Opd.t 12)), C.op none (some 64) (O.ld (CK.int IntKind.i64) (Opd.t 63)),
                C.op none (some 65) (O.bin BinOp.and (Opd.t 64) (Opd.c (AV.int IntKind.i64 15))),
                C.op none (some 66) (O.bin BinOp.add (Opd.t 62) (Opd.t 65)), C.op none (some 10) (O.mv (Opd.t 66)),
                C.op none (some 67) (O.fad 0 (Opd.t 12)), C.op none (some 68) (O.ld (CK.int IntKind.i64) (Opd.t 67)),
                C.blk 2
                  [C.op none (some 70) (O.bin BinOp.eql (Opd.t 68) (Opd.c (AV.int IntKind.i64 1))),
                    C.op none (some 69) (O.mv (Opd.t 70)),
                    C.cond (Opd.t 69)
                      [C.op none (some 71) (O.mv (Opd.t 9)), C.op none (some 72) (O.fad 2 (Opd.t 12)),
                        C.op none (some 73) (O.ld (CK.int IntKind.u32) (Opd.t 72)),
                        C.op none (some 74) (O.call 16 [Opd.t 71, Opd.t 73]),
                        C.op none (some 75) (O.bin BinOp.geq (Opd.t 74) (Opd.c (AV.int IntKind.i64 0))),
                        C.op none (some 13) (O.mv (Opd.t 75)), C.op none (some 76) (O.mv (Opd.t 7)),
                        C.op none (some 77) (O.fad 2 (Opd.t 12)),
                        C.op none (some 78) (O.ld (CK.int IntKind.u32) (Opd.t 77)),
                        C.op none (some 79) (O.mv (Opd.t 10)),
                        C.op none (some 80) (O.call 10 [Opd.t 76, Opd.t 78, Opd.t 79]),
                        C.op none (some 81) (O.mv (Opd.t 13)), C.op none (some 82) (O.eqb false (Opd.t 80) (Opd.t 81)),
                        C.cond (Opd.t 82) [C.op none (some 6) (O.mv (Opd.c (AV.bool false))), C.ret] [],
                        C.op none (some 83) (O.mv (Opd.t 13)), C.op none (some 84) (O.un UnOp.not (Opd.t 83)),
                        C.cond (Opd.t 84)
                          [C.draw d7_0]
                          []]
                      [C.op none (some 98) (O.bin BinOp.eql (Opd.t 68) (Opd.c (AV.int IntKind.i64 2))),
                        C.op none (some 97) (O.mv (Opd.t 98)),
                        C.cond (Opd.t 97)
                          [C.op none (some 99) (O.mv (Opd.t 9)), C.op none (some 100) (O.len false (Opd.t 99)),
                            C.op none (some 14) (O.mv (Opd.t 100)), C.op none (some 101) (O.fad 3 (Opd.t 12)),
                            C.op none (some 102) (O.ld CK.any (Opd.t 101)), C.op none (some 15) (O.mv (Opd.t 102)),
                            C.op none (some 103) (O.mv (Opd.t 15)), C.op none (some 104) (O.len false (Opd.t 103)),
                            C.op none (some 105)
                              (O.bin BinOp.gtr (Opd.t 104) (Opd.c (AV.int IntKind.i64 6))),
                            C.cond (Opd.t 105)
                              [C.op none (some 106) (O.mv (Opd.t 15)),
                                C.op none (some 107)
                                  (O.lsl 1 (Opd.t 106) none (some (Opd.c (AV.int IntKind.i64 6))) none),
                                C.op none (some 15) (O.mv (Opd.t 107))]
                              [],
                            C.op none (some 108) (O.mv (Opd.t 15)), C.op none (some 109) (O.len false (Opd.t 108)),
                            C.op none (some 110) (O.mv (Opd.c (AV.int IntKind.i64 0))),
                            C.blk 3
                              [C.loop
                                  [C.op none (some 111) (O.bin BinOp.lss (Opd.t 110) (Opd.t 109)),
                                    C.cond (Opd.t 111) [] [C.exit 3],
                                    C.blk 4
                                      [C.op none (some 112) (O.iad 1 (Opd.t 108) (Opd.t 110)),
                                        C.op none (some 113) (O.ld (CK.int IntKind.u32) (Opd.t 112)),
                                        C.op none (some 17) (O.mv (Opd.t 113)), C.op none (some 114) (O.mv (Opd.t 9)),
                                        C.op none (some 115) (O.mv (Opd.t 17)),
                                        C.op none (some 116) (O.call 17 [Opd.t 114, Opd.t 115]),
                                        C.op none (some 9) (O.mv (Opd.t 116))],
                                    C.op none (some 117)
                                      (O.bin BinOp.add (Opd.t 110) (Opd.c (AV.int IntKind.i64 1))),
                                    C.op none (some 110) (O.mv (Opd.t 117))]],
                            C.op none (some 118) (O.mv (Opd.t 7)), C.op none (some 119) (O.mv (Opd.t 15)),
                            C.op none (some 120) (O.call 13 [Opd.t 118, Opd.t 119]),
                            C.op none (some 121) (O.mv (Opd.t 14)), C.op none (some 122) (O.mv (Opd.t 9)),
                            C.op none (some 123) (O.len false (Opd.t 122)),
                            C.op none (some 124) (O.bin BinOp.sub (Opd.t 121) (Opd.t 123)),
                            C.op none (some 125) (O.bin BinOp.neq (Opd.t 120) (Opd.t 124)),
                            C.cond (Opd.t 125) [C.op none (some 6) (O.mv (Opd.c (AV.bool false))), C.ret] []]
                          [C.op none (some 127) (O.bin BinOp.eql (Opd.t 68) (Opd.c (AV.int IntKind.i64 3))),
                            C.op none (some 126) (O.mv (Opd.t 127)),
                            C.cond (Opd.t 126)
                              [C.op none (some 128) (O.mv (Opd.t 7)), C.op none (some 129) (O.mv (Opd.t 10)),
                                C.op none (some 130) (O.call 11 [Opd.t 128, Opd.t 129]),
                                C.op none (some 18) (O.mv (Opd.t 130)), C.op none (some 132) (O.mv (Opd.t 9)),
                                C.op none (some 133) (O.mv (Opd.t 1)), C.op none (some 134) (O.mv (Opd.t 10)),
                                C.op none (some 135) (O.call 18 [Opd.t 132, Opd.t 133, Opd.t 134]),
                                C.op none (some 131) (O.mv (Opd.t 135)), C.op none (some 136) (O.ext (Opd.t 131) 0),
                                C.op none (some 137) (O.ext (Opd.t 131) 1), C.op none (some 19) (O.mv (Opd.t 136)),
                                C.op none (some 20) (O.mv (Opd.t 137)), C.op none (some 138) (O.mv (Opd.t 19)),
                                C.op none (some 9) (O.mv (Opd.t 138)), C.op none (some 139) (O.mv (Opd.t 18)),
                                C.op none (some 140) (O.len false (Opd.t 139)), C.op none (some 141) (O.mv (Opd.t 20)),
                                C.op none (some 142) (O.len false (Opd.t 141)),
                                C.op none (some 143) (O.bin BinOp.neq (Opd.t 140) (Opd.t 142)),
                                C.cond (Opd.t 143) [C.op none (some 6) (O.mv (Opd.c (AV.bool false))), C.ret] [],
                                C.op none (some 144) (O.mv (Opd.t 20)), C.op none (some 145) (O.len false (Opd.t 144)),
                                C.op none (some 146) (O.mv (Opd.c (AV.int IntKind.i64 0))),
                                C.blk 5
                                  [C.loop
                                      [C.op none (some 147) (O.bin BinOp.lss (Opd.t 146) (Opd.t 145)),
                                        C.cond (Opd.t 147) [] [C.exit 5],
                                        C.blk 6
                                          [C.op none (some 148) (O.mv (Opd.t 146)),
                                            C.op none (some 21) (O.mv (Opd.t 148)),
                                            C.draw d7_1,
                                            C.cond (Opd.t 157)
                                              [C.op none (some 6) (O.mv (Opd.c (AV.bool false))), C.ret] []],
                                        C.op none (some 158)
                                          (O.bin BinOp.add (Opd.t 146) (Opd.c (AV.int IntKind.i64 1))),
                                        C.op none (some 146) (O.mv (Opd.t 158))]]]
                              []]]],
                C.op none (some 160) (O.mv (Opd.t 7)), C.op none (some 161) (O.call 15 [Opd.t 160]),
                C.op none (some 159) (O.mv (Opd.t 161)), C.op none (some 162) (O.ext (Opd.t 159) 0),
                C.op none (some 163) (O.ext (Opd.t 159) 1), C.op none (some 22) (O.mv (Opd.t 162)),
                C.op none (some 23) (O.mv (Opd.t 163)), C.op none (some 165) (O.mv (Opd.t 7)),
                C.op none (some 166) (O.fad 2 (Opd.t 12)), C.op none (some 167) (O.ld (CK.int IntKind.u32) (Opd.t 166)),
                C.op none (some 168) (O.call 12 [Opd.t 165, Opd.t 167]), C.op none (some 164) (O.mv (Opd.t 168)),
                C.op none (some 169) (O.ext (Opd.t 164) 0), C.op none (some 170) (O.ext (Opd.t 164) 1),
                C.op none (some 24) (O.mv (Opd.t 169)), C.op none (some 25) (O.mv (Opd.t 170)),
                C.op none (some 171) (O.mv (Opd.t 9)), C.op none (some 172) (O.fad 2 (Opd.t 12)),
                C.op none (some 173) (O.ld (CK.int IntKind.u32) (Opd.t 172)),
                C.op none (some 174) (O.call 16 [Opd.t 171, Opd.t 173]), C.op none (some 26) (O.mv (Opd.t 174)),
                C.op none (some 175) (O.mv (Opd.t 7)), C.op none (some 176) (O.call 14 [Opd.t 175]),
                C.op none (some 177) (O.mv (Opd.t 9)), C.op none (some 178) (O.len false (Opd.t 177)),
                C.op none (some 179) (O.bin BinOp.neq (Opd.t 176) (Opd.t 178)), C.op none (some 180) (O.mv (Opd.t 179)),
                C.op (some (180, false)) (some 181) (O.mv (Opd.t 23)),
                C.op (some (180, false)) (some 182) (O.mv (Opd.t 9)),
                C.op (some (180, false)) (some 183) (O.len false (Opd.t 182)),
                C.op (some (180, false)) (some 184)
                  (O.bin BinOp.gtr (Opd.t 183) (Opd.c (AV.int IntKind.i64 0))),
                C.op (some (180, false)) (some 185) (O.eqb true (Opd.t 181) (Opd.t 184)),
                C.op none (some 186) (O.pick (Opd.t 180) (Opd.c (AV.bool true)) (Opd.t 185)),
                C.op none (some 187) (O.mv (Opd.t 186)), C.op (some (187, false)) (some 188) (O.mv (Opd.t 23)),
                C.op (some (187, false)) (some 189) (O.mv (Opd.t 188)),
                C.op (some (189, true)) (some 190) (O.mv (Opd.t 22)),
                C.op (some (189, true)) (some 191) (O.mv (Opd.t 9)),
                C.op (some (189, true)) (some 192) (O.call 19 [Opd.t 191]),
                C.op (some (189, true)) (some 193) (O.bin BinOp.neq (Opd.t 190) (Opd.t 192)),
                C.op (some (187, false)) (some 194) (O.pick (Opd.t 189) (Opd.t 193) (Opd.c (AV.bool false))),
                C.op none (some 195) (O.pick (Opd.t 187) (Opd.c (AV.bool true)) (Opd.t 194)),
                C.op none (some 196) (O.mv (Opd.t 195)), C.op (some (196, false)) (some 197) (O.mv (Opd.t 25)),
                C.op (some (196, false)) (some 198) (O.mv (Opd.t 26)),
                C.op (some (196, false)) (some 199)
                  (O.bin BinOp.geq (Opd.t 198) (Opd.c (AV.int IntKind.i64 0))),
                C.op (some (196, false)) (some 200) (O.eqb true (Opd.t 197) (Opd.t 199)),
                C.op none (some 201) (O.pick (Opd.t 196) (Opd.c (AV.bool true)) (Opd.t 200)),
                C.op none (some 202) (O.mv (Opd.t 201)), C.op (some (202, false)) (some 203) (O.mv (Opd.t 25)),
                C.op (some (202, false)) (some 204) (O.mv (Opd.t 203)),
                C.op (some (204, true)) (some 205) (O.mv (Opd.t 24)),
                C.op (some (204, true)) (some 206) (O.mv (Opd.t 9)),
                C.op (some (204, true)) (some 207) (O.mv (Opd.t 26)),
                C.op (some (204, true)) (some 208) (O.iad 4 (Opd.t 206) (Opd.t 207)),
                C.op (some (204, true)) (some 209) (O.fad 3 (Opd.t 208)),
                C.op (some (204, true)) (some 210) (O.ld (CK.int IntKind.i64) (Opd.t 209)),
                C.op (some (204, true)) (some 211) (O.bin BinOp.neq (Opd.t 205) (Opd.t 210)),
                C.op (some (202, false)) (some 212) (O.pick (Opd.t 204) (Opd.t 211) (Opd.c (AV.bool false))),
                C.op none (some 213) (O.pick (Opd.t 202) (Opd.c (AV.bool true)) (Opd.t 212)),
                C.op none (some 214) (O.mv (Opd.t 213)), C.op (some (214, false)) (some 215) (O.mv (Opd.t 25)),
                C.op (some (214, false)) (some 216) (O.un UnOp.not (Opd.t 215)),
                C.op (some (214, false)) (some 217) (O.mv (Opd.t 216)),
                C.op (some (217, true)) (some 218) (O.mv (Opd.t 24)),
                C.op (some (217, true)) (some 219)
                  (O.bin BinOp.neq (Opd.t 218) (Opd.c (AV.int IntKind.i64 0))),
                C.op (some (214, false)) (some 220) (O.pick (Opd.t 217) (Opd.t 219) (Opd.c (AV.bool false))),
                C.op none (some 221) (O.pick (Opd.t 214) (Opd.c (AV.bool true)) (Opd.t 220)),
                C.cond (Opd.t 221) [C.op none (some 6) (O.mv (Opd.c (AV.bool false))), C.ret] []],
            C.op none (some 56) (O.mv (Opd.t 11)),
            C.op none (some 57) (O.bin BinOp.add (Opd.t 56) (Opd.c (AV.int IntKind.i64 1))),
            C.op none (some 11) (O.mv (Opd.t 57))]],
    C.op none (some 6) (O.mv (Opd.c (AV.bool true))), C.ret]
def r7 : List RV := [RV.t 6]
theorem c7_ok : cC Try.prog Try.f7.ntmps (Try.f7.body.getD .skip) = some c7 := by kernel_rfl

def c8 : List C :=
  [C.op none (some 1) (O.box (Opd.t 0)), C.op none (some 2) (O.mv (Opd.c AV.nilptr)),
    C.op none (some 3) (O.mv (Opd.c (AV.int IntKind.i64 0))),
    C.op none (some 5) (O.ldn [CK.int IntKind.i64, CK.int IntKind.i64] (Opd.t 1)),
    C.op none (some 6) (O.call 20 [Opd.t 5]), C.op none (some 4) (O.mv (Opd.t 6)), C.op none (some 7) (O.mv (Opd.t 4)),
    C.op none (some 8) (O.bin BinOp.neq (Opd.t 7) (Opd.c (AV.int IntKind.i64 0))),
    C.cond (Opd.t 8)
      [C.op none (some 9) (O.mv (Opd.t 4)), C.op none (some 2) (O.mv (Opd.c AV.nilptr)),
        C.op none (some 3) (O.mv (Opd.t 9)), C.ret]
      [],
    C.op none (some 10) (O.ldn [CK.int IntKind.i64, CK.int IntKind.i64] (Opd.t 1)),
    C.op none (some 11)
      (O.build [AV.int IntKind.i64 0, AV.int IntKind.i64 0, AV.nilsl] [(0, 2, Opd.t 10)]),
    C.op none (some 12) (O.box (Opd.t 11)), C.op none (some 2) (O.mv (Opd.t 12)),
    C.op none (some 3) (O.mv (Opd.c (AV.int IntKind.i64 0))), C.ret]
def r8 : List RV := [RV.t 2, RV.t 3]
theorem c8_ok : cC Try.prog Try.f8.ntmps (Try.f8.body.getD .skip) = some c8 := by kernel_rfl

def c9 : List C :=
  [C.op none (some 0) (O.mv (Opd.c (AV.bool false))),
    C.op none (some 7)
      (O.build [AV.int IntKind.i64 0, AV.int IntKind.i64 0]
        [(0, 1, Opd.c (AV.int IntKind.i64 2)), (1, 1, Opd.c (AV.int IntKind.i64 5))]),
    C.op none (some 8) (O.call 8 [Opd.t 7]), C.op none (some 6) (O.mv (Opd.t 8)),
    C.op none (some 9) (O.ext (Opd.t 6) 0), C.op none (some 10) (O.ext (Opd.t 6) 1),
    C.op none (some 1) (O.mv (Opd.t 9)), C.op none (some 2) (O.mv (Opd.t 10)), C.op none (some 11) (O.mv (Opd.t 2)),
    C.op none (some 12) (O.bin BinOp.neq (Opd.t 11) (Opd.c (AV.int IntKind.i64 0))),
    C.op none (some 13) (O.mv (Opd.t 12)), C.op (some (13, false)) (some 14) (O.mv (Opd.t 1)),
    C.op (some (13, false)) (some 15) (O.eqp 0 false (Opd.t 14) (Opd.c AV.nilptr)),
    C.op none (some 16) (O.pick (Opd.t 13) (Opd.c (AV.bool true)) (Opd.t 15)), C.op none (some 17) (O.mv (Opd.t 16)),
    C.op (some (17, false)) (some 18) (O.mv (Opd.t 1)),
    C.op (some (17, false)) (some 19)
      (O.call 10 [Opd.t 18, Opd.c (AV.int IntKind.u32 7), Opd.c (AV.int IntKind.i64 0)]),
    C.op (some (17, false)) (some 20) (O.un UnOp.not (Opd.t 19)),
    C.op none (some 21) (O.pick (Opd.t 17) (Opd.c (AV.bool true)) (Opd.t 20)),
    C.cond (Opd.t 21) [C.op none (some 0) (O.mv (Opd.c (AV.bool false))), C.ret] [],
    C.op none (some 3) (O.mv (Opd.c (AV.int IntKind.i64 0))),
    C.op none (some 4) (O.mv (Opd.c (AV.int IntKind.i64 1))),
    C.blk 0
      [C.loop
          [C.op none (some 22) (O.mv (Opd.t 4)),
            C.op none (some 23) (O.bin BinOp.leq (Opd.t 22) (Opd.c (AV.int IntKind.i64 16))),
            C.cond (Opd.t 23) [] [C.exit 0],
            C.blk 1
              [C.op none (some 26) (O.mv (Opd.t 1)), C.op none (some 27) (O.mv (Opd.t 4)),
                C.op none (some 28) (O.call 11 [Opd.t 26, Opd.t 27]), C.op none (some 5) (O.mv (Opd.t 28)),
                C.op none (some 29) (O.mv (Opd.t 5)), C.op none (some 30) (O.len false (Opd.t 29)),
                C.op none (some 31) (O.bin BinOp.eql (Opd.t 30) (Opd.c (AV.int IntKind.i64 1))),
                C.op none (some 32) (O.mv (Opd.t 31)), C.op (some (32, true)) (some 33) (O.mv (Opd.t 5)),
                C.op (some (32, true)) (some 34) (O.iad 1 (Opd.t 33) (Opd.c (AV.int IntKind.i64 0))),
                C.op (some (32, true)) (some 35) (O.ld (CK.int IntKind.u32) (Opd.t 34)),
                C.op (some (32, true)) (some 36)
                  (O.bin BinOp.eql (Opd.t 35) (Opd.c (AV.int IntKind.u32 7))),
                C.op none (some 37) (O.pick (Opd.t 32) (Opd.t 36) (Opd.c (AV.bool false))),
                C.cond (Opd.t 37)
                  [C.op none (some 38) (O.mv (Opd.t 3)),
                    C.op none (some 39) (O.bin BinOp.mul (Opd.c (AV.int IntKind.i64 100)) (Opd.t 38)),
                    C.op none (some 40) (O.mv (Opd.t 4)), C.op none (some 41) (O.bin BinOp.add (Opd.t 39) (Opd.t 40)),
                    C.op none (some 3) (O.mv (Opd.t 41))]
                  []],
            C.op none (some 24) (O.mv (Opd.t 4)),
            C.op none (some 25) (O.bin BinOp.add (Opd.t 24) (Opd.c (AV.int IntKind.i64 1))),
            C.op none (some 4) (O.mv (Opd.t 25))]],
    C.op none (some 42) (O.mv (Opd.t 3)),
    C.op none (some 43) (O.bin BinOp.eql (Opd.t 42) (Opd.c (AV.int IntKind.i64 2061116))),
    C.op none (some 44) (O.mv (Opd.t 43)), C.op (some (44, true)) (some 45) (O.mv (Opd.t 1)),
    C.op (some (44, true)) (some 46) (O.call 14 [Opd.t 45]),
    C.op (some (44, true)) (some 47) (O.bin BinOp.eql (Opd.t 46) (Opd.c (AV.int IntKind.i64 1))),
    C.op none (some 48) (O.pick (Opd.t 44) (Opd.t 47) (Opd.c (AV.bool false))), C.op none (some 0) (O.mv (Opd.t 48)),
    C.ret]
def r9 : List RV := [RV.t 0]
theorem c9_ok : cC Try.prog Try.f9.ntmps (Try.f9.body.getD .skip) = some c9 := by kernel_rfl

def d10_0 : List It :=
  [(none, some 11, O.mv (Opd.t 0), []), (none, some 12, O.mv (Opd.t 0), []), (none, some 13, O.nck (Opd.t 12), [1]),
        (none, some 14, O.fad 2 (Opd.t 13), [2]), (none, some 15, O.ld CK.any (Opd.t 14), [3]),
        (none, some 16, O.mv (Opd.t 1), []), (none, some 17, O.mv (Opd.t 2), []), (none, some 18, O.mv (Opd.t 0), []),
        (none, some 19, O.nck (Opd.t 18), [7]), (none, some 20, O.fad 0 (Opd.t 19), [8]),
        (none, some 21, O.fad 0 (Opd.t 20), [9]), (none, some 22, O.ld (CK.int IntKind.i64) (Opd.t 21), [10]),
        (none, some 23, O.bin BinOp.add (Opd.t 17) (Opd.t 22), [6, 11]), (none, some 24, O.mv (Opd.t 0), []),
        (none, some 25, O.nck (Opd.t 24), [13]), (none, some 26, O.fad 0 (Opd.t 25), [14]),
        (none, some 27, O.fad 0 (Opd.t 26), [15]), (none, some 28, O.ld (CK.int IntKind.i64) (Opd.t 27), [16]),
        (none, some 29,
          O.build
            [AV.int IntKind.u32 0, AV.int IntKind.i64 0, AV.int IntKind.i64 0,
              AV.int IntKind.i64 0]
            [(0, 1, Opd.t 16), (1, 1, Opd.t 23), (2, 1, Opd.t 28), (3, 1, Opd.c (AV.int IntKind.i64 0))],
          [5, 12, 17]),
        (none, some 30,
          O.bsl 4
            [AV.int IntKind.u32 0, AV.int IntKind.i64 0, AV.int IntKind.i64 0,
              AV.int IntKind.i64 0]
            1 [(0, Opd.t 29)],
          [18]),
        (none, some 31, O.app 4 (Opd.t 15) (Opd.t 30), [4, 19]),
        (none, some 32, O.nck (Opd.t 11),
          [0, 0, 1, 2, 3, 4, 5, 6, 7, 8, 9, 10, 11, 12, 13, 14, 15, 16, 17, 18, 19, 20]),
        (none, some 33, O.fad 2 (Opd.t 32),
          [21, 0, 1, 2, 3, 4, 5, 6, 7, 8, 9, 10, 11, 12, 13, 14, 15, 16, 17, 18, 19, 20]),
        (none, none, O.st 1 (Opd.t 33) (Opd.t 31),
          [22, 20, 20, 0, 1, 2, 3, 4, 5, 6, 7, 8, 9, 10, 11, 12, 13, 14, 15, 16, 17, 18, 19, 20])]
def o10_0 : List (Nat × Bool) := [(0, false), (1, false), (2, false), (3, false), (4, false), (5, false), (6, false), (7, false), (8, false), (9, false), (10, false), (11, false), (12, false), (13, false), (14, false), (15, false), (16, false), (17, false), (18, false), (19, false), (20, true), (21, false), (22, false), (23, true)]
def l10_0 : List (Nat × Bool × It) :=
  [(0, false, (none, some 11, O.mv (Opd.t 0), [])),
   (1, false, (none, some 12, O.mv (Opd.t 0), [])),
   (2, false, (none, some 13, O.nck (Opd.t 12), [1])),
   (3, false, (none, some 14, O.fad 2 (Opd.t 13), [2])),
   (4, false, (none, some 15, O.ld CK.any (Opd.t 14), [3])),
   (5, false, (none, some 16, O.mv (Opd.t 1), [])),
   (6, false, (none, some 17, O.mv (Opd.t 2), [])),
   (7, false, (none, some 18, O.mv (Opd.t 0), [])),
   (8, false, (none, some 19, O.nck (Opd.t 18), [7])),
   (9, false, (none, some 20, O.fad 0 (Opd.t 19), [8])),
   (10, false, (none, some 21, O.fad 0 (Opd.t 20), [9])),
   (11, false, (none, some 22, O.ld (CK.int IntKind.i64) (Opd.t 21), [10])),
   (12, false, (none, some 23, O.bin BinOp.add (Opd.t 17) (Opd.t 22), [6, 11])),
   (13, false, (none, some 24, O.mv (Opd.t 0), [])),
   (14, false, (none, some 25, O.nck (Opd.t 24), [13])),
   (15, false, (none, some 26, O.fad 0 (Opd.t 25), [14])),
   (16, false, (none, some 27, O.fad 0 (Opd.t 26), [15])),
   (17, false, (none, some 28, O.ld (CK.int IntKind.i64) (Opd.t 27), [16])),
   (18, false, (none, some 29,
          O.build
            [AV.int IntKind.u32 0, AV.int IntKind.i64 0, AV.int IntKind.i64 0,
              AV.int IntKind.i64 0]
            [(0, 1, Opd.t 16), (1, 1, Opd.t 23), (2, 1, Opd.t 28), (3, 1, Opd.c (AV.int IntKind.i64 0))],
          [5, 12, 17])),
   (19, false, (none, some 30,
          O.bsl 4
            [AV.int IntKind.u32 0, AV.int IntKind.i64 0, AV.int IntKind.i64 0,
              AV.int IntKind.i64 0]
            1 [(0, Opd.t 29)],
          [18])),
   (20, true, (none, some 31, O.app 4 (Opd.t 15) (Opd.t 30), [4, 19])),
   (21, false, (none, some 32, O.nck (Opd.t 11),
          [0, 0, 1, 2, 3, 4, 5, 6, 7, 8, 9, 10, 11, 12, 13, 14, 15, 16, 17, 18, 19, 20])),
   (22, false, (none, some 33, O.fad 2 (Opd.t 32),
          [21, 0, 1, 2, 3, 4, 5, 6, 7, 8, 9, 10, 11, 12, 13, 14, 15, 16, 17, 18, 19, 20])),
   (23, true, (none, none, O.st 1 (Opd.t 33) (Opd.t 31),
          [22, 20, 20, 0, 1, 2, 3, 4, 5, 6, 7, 8, 9, 10, 11, 12, 13, 14, 15, 16, 17, 18, 19, 20]))]
theorem l10_0_ok : okDraw d10_0 o10_0 = true ∧ mkL d10_0 o10_0 = some l10_0 := ⟨by kernel_rfl, by kernel_rfl⟩

def c10 : List C :=
  [C.op none (some 6) (O.mv (Opd.c (AV.bool false))), C.op none (some 7) (O.mv (Opd.t 0)),
    C.op none (some 8) (O.mv (Opd.t 1)), C.op none (some 9) (O.call 21 [Opd.t 7, Opd.t 8]),
    C.op none (some 10) (O.bin BinOp.geq (Opd.t 9) (Opd.c (AV.int IntKind.i64 0))),
    C.cond (Opd.t 10) [C.op none (some 6) (O.mv (Opd.c (AV.bool false))), C.ret] [],
    C.draw d10_0,
    C.op none (some 6) (O.mv (Opd.c (AV.bool true))), C.ret]
def r10 : List RV := [RV.t 6]
theorem c10_ok : cC Try.prog Try.f10.ntmps (Try.f10.body.getD .skip) = some c10 := by kernel_rfl

def d11_0 : List It :=
  [(none, some 29, O.fad 2 (Opd.t 7), []), (none, some 30, O.ld (CK.int IntKind.i64) (Opd.t 29), [0]),
                    (none, some 31, O.bin BinOp.mul (Opd.c (AV.int IntKind.i64 2)) (Opd.t 30), [1]),
                    (none, some 32, O.mv (Opd.t 0), []), (none, some 33, O.nck (Opd.t 32), [3]),
                    (none, some 34, O.fad 0 (Opd.t 33), [4]), (none, some 35, O.fad 1 (Opd.t 34), [5]),
                    (none, some 36, O.ld (CK.int IntKind.i64) (Opd.t 35), [6]),
                    (none, some 37, O.mn [Opd.t 31, Opd.t 36], [2, 7]),
                    (none, some 38, O.fad 2 (Opd.t 7), [0, 1, 2, 3, 4, 5, 6, 7, 8]),
                    (none, none, O.st 1 (Opd.t 38) (Opd.t 37), [9, 8, 0, 1, 2, 3, 4, 5, 6, 7, 8])]
def o11_0 : List (Nat × Bool) := [(0, false), (1, false), (2, false), (3, false), (4, false), (5, false), (6, false), (7, false), (8, false), (9, false), (10, true)]
def l11_0 : List (Nat × Bool × It) :=
  [(0, false, (none, some 29, O.fad 2 (Opd.t 7), [])),
   (1, false, (none, some 30, O.ld (CK.int IntKind.i64) (Opd.t 29), [0])),
   (2, false, (none, some 31, O.bin BinOp.mul (Opd.c (AV.int IntKind.i64 2)) (Opd.t 30), [1])),
   (3, false, (none, some 32, O.mv (Opd.t 0), [])),
   (4, false, (none, some 33, O.nck (Opd.t 32), [3])),
   (5, false, (none, some 34, O.fad 0 (Opd.t 33), [4])),
   (6, false, (none, some 35, O.fad 1 (Opd.t 34), [5])),
   (7, false, (none, some 36, O.ld (CK.int IntKind.i64) (Opd.t 35), [6])),
   (8, false, (none, some 37, O.mn [Opd.t 31, Opd.t 36], [2, 7])),
   (9, false, (none, some 38, O.fad 2 (Opd.t 7), [0, 1, 2, 3, 4, 5, 6, 7, 8])),
   (10, true, (none, none, O.st 1 (Opd.t 38) (Opd.t 37), [9, 8, 0, 1, 2, 3, 4, 5, 6, 7, 8]))]
theorem l11_0_ok : okDraw d11_0 o11_0 = true ∧ mkL d11_0 o11_0 = some l11_0 := ⟨by kernel_rfl, by kernel_rfl⟩

def d11_1 : List It :=
  [(none, some 48, O.mv (Opd.t 0), []), (none, some 49, O.nck (Opd.t 48), [0]),
                    (none, some 50, O.fad 2 (Opd.t 49), [1]), (none, some 51, O.ld CK.any (Opd.t 50), [2]),
                    (none, some 52, O.mv (Opd.t 6), []),
                    (none, some 53,
                      O.ldn [CK.int IntKind.u32, CK.int IntKind.i64, CK.int IntKind.i64, CK.int IntKind.i64] (Opd.t 7),
                      []),
                    (none, some 54, O.iad 4 (Opd.t 51) (Opd.t 52), [3, 4, 0, 1, 2, 3, 4, 5]),
                    (none, none, O.st 4 (Opd.t 54) (Opd.t 53), [6, 5, 0, 1, 2, 3, 4, 5])]
def o11_1 : List (Nat × Bool) := [(0, false), (1, false), (2, false), (3, false), (4, false), (5, false), (6, false), (7, true)]
def l11_1 : List (Nat × Bool × It) :=
  [(0, false, (none, some 48, O.mv (Opd.t 0), [])),
   (1, false, (none, some 49, O.nck (Opd.t 48), [0])),
   (2, false, (none, some 50, O.fad 2 (Opd.t 49), [1])),
   (3, false, (none, some 51, O.ld CK.any (Opd.t 50), [2])),
   (4, false, (none, some 52, O.mv (Opd.t 6), [])),
   (5, false, (none, some 53,
                      O.ldn [CK.int IntKind.u32, CK.int IntKind.i64, CK.int IntKind.i64, CK.int IntKind.i64] (Opd.t 7),
                      [])),
   (6, false, (none, some 54, O.iad 4 (Opd.t 51) (Opd.t 52), [3, 4, 0, 1, 2, 3, 4, 5])),
   (7, true, (none, none, O.st 4 (Opd.t 54) (Opd.t 53), [6, 5, 0, 1, 2, 3, 4, 5]))]
theorem l11_1_ok : okDraw d11_1 o11_1 = true ∧ mkL d11_1 o11_1 = some l11_1 := ⟨by kernel_rfl, by kernel_rfl⟩

def c11 : List C :=
  [C.op none (some 4) (O.mv (Opd.c AV.nilsl)), C.op none (some 5) (O.mv (Opd.c AV.nilsl)),
    C.op none (some 11) (O.mv (Opd.t 0)), C.op none (some 12) (O.nck (Opd.t 11)),
    C.op none (some 13) (O.fad 2 (Opd.t 12)), C.op none (some 14) (O.ld CK.any (Opd.t 13)),
    C.op none (some 15) (O.len false (Opd.t 14)), C.op none (some 16) (O.mv (Opd.c (AV.int IntKind.i64 0))),
    C.blk 0
      [C.loop
          [C.op none (some 17) (O.bin BinOp.lss (Opd.t 16) (Opd.t 15)), C.cond (Opd.t 17) [] [C.exit 0],
            C.blk 1
              [C.op none (some 18) (O.mv (Opd.t 16)), C.op none (some 19) (O.iad 4 (Opd.t 14) (Opd.t 16)),
                C.op none (some 20)
                  (O.ldn [CK.int IntKind.u32, CK.int IntKind.i64, CK.int IntKind.i64, CK.int IntKind.i64] (Opd.t 19)),
                C.op none (some 7)
                  (O.alloc
                    [AV.int IntKind.u32 0, AV.int IntKind.i64 0,
                      AV.int IntKind.i64 0, AV.int IntKind.i64 0]),
                C.op none (some 6) (O.mv (Opd.t 18)), C.op none none (O.st 4 (Opd.t 7) (Opd.t 20)),
                C.op none (some 21) (O.fad 1 (Opd.t 7)), C.op none (some 22) (O.ld (CK.int IntKind.i64) (Opd.t 21)),
                C.op none (some 23) (O.mv (Opd.t 1)), C.op none (some 24) (O.bin BinOp.gtr (Opd.t 22) (Opd.t 23)),
                C.cond (Opd.t 24) [C.exit 1] [], C.op none (some 25) (O.mv (Opd.t 5)),
                C.op none (some 26)
                  (O.ldn [CK.int IntKind.u32, CK.int IntKind.i64, CK.int IntKind.i64, CK.int IntKind.i64] (Opd.t 7)),
                C.op none (some 27)
                  (O.bsl 4
                    [AV.int IntKind.u32 0, AV.int IntKind.i64 0,
                      AV.int IntKind.i64 0, AV.int IntKind.i64 0]
                    1 [(0, Opd.t 26)]),
                C.op none (some 28) (O.app 4 (Opd.t 25) (Opd.t 27)), C.op none (some 5) (O.mv (Opd.t 28)),
                C.draw d11_0,
                C.op none (some 39) (O.mv (Opd.t 1)), C.op none (some 40) (O.fad 2 (Opd.t 7)),
                C.op none (some 41) (O.ld (CK.int IntKind.i64) (Opd.t 40)),
                C.op none (some 42) (O.bin BinOp.add (Opd.t 39) (Opd.t 41)), C.op none (some 43) (O.fad 1 (Opd.t 7)),
                C.op none none (O.st 1 (Opd.t 43) (Opd.t 42)), C.op none (some 44) (O.fad 3 (Opd.t 7)),
                C.op none (some 45) (O.ld (CK.int IntKind.i64) (Opd.t 44)),
                C.op none (some 46) (O.bin BinOp.add (Opd.t 45) (Opd.c (AV.int IntKind.i64 1))),
                C.op none (some 47) (O.fad 3 (Opd.t 7)), C.op none none (O.st 1 (Opd.t 47) (Opd.t 46)),
                C.draw d11_1],
            C.op none (some 55) (O.bin BinOp.add (Opd.t 16) (Opd.c (AV.int IntKind.i64 1))),
            C.op none (some 16) (O.mv (Opd.t 55))]],
    C.op none (some 56) (O.mv (Opd.t 5)), C.op none (some 57) (O.call 22 [Opd.t 56, Opd.c (AV.fn 23 [] [])]),
    C.op none (some 8) (O.mv (Opd.c AV.nilsl)), C.op none (some 58) (O.mv (Opd.t 5)),
    C.op none (some 59) (O.len false (Opd.t 58)), C.op none (some 60) (O.mv (Opd.c (AV.int IntKind.i64 0))),
    C.blk 2
      [C.loop
          [C.op none (some 61) (O.bin BinOp.lss (Opd.t 60) (Opd.t 59)), C.cond (Opd.t 61) [] [C.exit 2],
            C.blk 3
              [C.op none (some 62) (O.iad 4 (Opd.t 58) (Opd.t 60)),
                C.op none (some 63)
                  (O.ldn [CK.int IntKind.u32, CK.int IntKind.i64, CK.int IntKind.i64, CK.int IntKind.i64] (Opd.t 62)),
                C.op none (some 10)
                  (O.alloc
                    [AV.int IntKind.u32 0, AV.int IntKind.i64 0,
                      AV.int IntKind.i64 0, AV.int IntKind.i64 0]),
                C.op none none (O.st 4 (Opd.t 10) (Opd.t 63)), C.op none (some 64) (O.mv (Opd.t 8)),
                C.op none (some 65) (O.fad 0 (Opd.t 10)), C.op none (some 66) (O.ld (CK.int IntKind.u32) (Opd.t 65)),
                C.op none (some 67) (O.bsl 1 [AV.int IntKind.u32 0] 1 [(0, Opd.t 66)]),
                C.op none (some 68) (O.app 1 (Opd.t 64) (Opd.t 67)), C.op none (some 8) (O.mv (Opd.t 68))],
            C.op none (some 69) (O.bin BinOp.add (Opd.t 60) (Opd.c (AV.int IntKind.i64 1))),
            C.op none (some 60) (O.mv (Opd.t 69))]],
    C.op none (some 70) (O.mv (Opd.t 8)), C.op none (some 4) (O.mv (Opd.t 70)), C.ret]
def r11 : List RV := [RV.t 4]
theorem c11_ok : cC Try.prog Try.f11.ntmps (Try.f11.body.getD .skip) = some c11 := by kernel_rfl

def c12 : List C :=
  [C.op none (some 4) (O.mv (Opd.c (AV.int IntKind.i64 0))),
    C.op none (some 5) (O.mv (Opd.c (AV.bool false))), C.op none (some 7) (O.mv (Opd.t 0)),
    C.op none (some 8) (O.mv (Opd.t 1)), C.op none (some 9) (O.call 21 [Opd.t 7, Opd.t 8]),
    C.op none (some 6) (O.mv (Opd.t 9)), C.op none (some 10) (O.mv (Opd.t 6)),
    C.op none (some 11) (O.bin BinOp.lss (Opd.t 10) (Opd.c (AV.int IntKind.i64 0))),
    C.cond (Opd.t 11)
      [C.op none (some 4) (O.mv (Opd.c (AV.int IntKind.i64 0))),
        C.op none (some 5) (O.mv (Opd.c (AV.bool false))), C.ret]
      [],
    C.op none (some 12) (O.mv (Opd.t 0)), C.op none (some 13) (O.nck (Opd.t 12)),
    C.op none (some 14) (O.fad 2 (Opd.t 13)), C.op none (some 15) (O.ld CK.any (Opd.t 14)),
    C.op none (some 16) (O.mv (Opd.t 6)), C.op none (some 17) (O.iad 4 (Opd.t 15) (Opd.t 16)),
    C.op none (some 18) (O.fad 3 (Opd.t 17)), C.op none (some 19) (O.ld (CK.int IntKind.i64) (Opd.t 18)),
    C.op none (some 4) (O.mv (Opd.t 19)), C.op none (some 5) (O.mv (Opd.c (AV.bool true))), C.ret]
def r12 : List RV := [RV.t 4, RV.t 5]
theorem c12_ok : cC Try.prog Try.f12.ntmps (Try.f12.body.getD .skip) = some c12 := by kernel_rfl

def c13 : List C :=
  [C.op none (some 3) (O.box (Opd.t 1)), C.op none (some 4) (O.mv (Opd.c (AV.int IntKind.i64 0))),
    C.op none (some 6) (O.mv (Opd.t 0)), C.op none (some 7) (O.nck (Opd.t 6)), C.op none (some 8) (O.fad 2 (Opd.t 7)),
    C.op none (some 9) (O.ld CK.any (Opd.t 8)), C.op none (some 10) (O.len false (Opd.t 9)),
    C.op none (some 5) (O.mv (Opd.t 10)), C.op none (some 11) (O.mv (Opd.t 0)), C.op none (some 12) (O.mv (Opd.t 0)),
    C.op none (some 13) (O.nck (Opd.t 12)), C.op none (some 14) (O.fad 2 (Opd.t 13)),
    C.op none (some 15) (O.ld CK.any (Opd.t 14)), C.op none (some 16) (O.call 26 [Opd.t 15]),
    C.op none (some 17) (O.mkfn 27 [] [Opd.t 3]), C.op none (some 18) (O.call 25 [Opd.t 16, Opd.t 17]),
    C.op none (some 19) (O.nck (Opd.t 11)), C.op none (some 20) (O.fad 2 (Opd.t 19)),
    C.op none none (O.st 1 (Opd.t 20) (Opd.t 18)), C.op none (some 21) (O.mv (Opd.t 5)),
    C.op none (some 22) (O.mv (Opd.t 0)), C.op none (some 23) (O.nck (Opd.t 22)),
    C.op none (some 24) (O.fad 2 (Opd.t 23)), C.op none (some 25) (O.ld CK.any (Opd.t 24)),
    C.op none (some 26) (O.len false (Opd.t 25)), C.op none (some 27) (O.bin BinOp.sub (Opd.t 21) (Opd.t 26)),
    C.op none (some 4) (O.mv (Opd.t 27)), C.ret]
def r13 : List RV := [RV.t 4]
theorem c13_ok : cC Try.prog Try.f13.ntmps (Try.f13.body.getD .skip) = some c13 := by kernel_rfl

def c14 : List C :=
  [C.op none (some 2) (O.mv (Opd.c (AV.int IntKind.i64 0))), C.op none (some 3) (O.mv (Opd.t 0)),
    C.op none (some 4) (O.nck (Opd.t 3)), C.op none (some 5) (O.fad 2 (Opd.t 4)),
    C.op none (some 6) (O.ld CK.any (Opd.t 5)), C.op none (some 7) (O.len false (Opd.t 6)),
    C.op none (some 2) (O.mv (Opd.t 7)), C.ret]
def r14 : List RV := [RV.t 2]
theorem c14_ok : cC Try.prog Try.f14.ntmps (Try.f14.body.getD .skip) = some c14 := by kernel_rfl

def c15 : List C :=
  [C.op none (some 2) (O.mv (Opd.c (AV.int IntKind.i64 0))),
    C.op none (some 3) (O.mv (Opd.c (AV.bool false))), C.op none (some 4) (O.mv (Opd.t 0)),
    C.op none (some 5) (O.nck (Opd.t 4)), C.op none (some 6) (O.fad 2 (Opd.t 5)),
    C.op none (some 7) (O.ld CK.any (Opd.t 6)), C.op none (some 8) (O.len false (Opd.t 7)),
    C.op none (some 9) (O.bin BinOp.eql (Opd.t 8) (Opd.c (AV.int IntKind.i64 0))),
    C.cond (Opd.t 9)
      [C.op none (some 2) (O.mv (Opd.c (AV.int IntKind.i64 0))),
        C.op none (some 3) (O.mv (Opd.c (AV.bool false))), C.ret]
      [],
    C.op none (some 10) (O.mv (Opd.t 0)), C.op none (some 11) (O.nck (Opd.t 10)),
    C.op none (some 12) (O.fad 2 (Opd.t 11)), C.op none (some 13) (O.ld CK.any (Opd.t 12)),
    C.op none (some 14) (O.call 29 [Opd.t 13, Opd.c (AV.fn 30 [] [])]), C.op none (some 15) (O.fld 1 none (Opd.t 14)),
    C.op none (some 2) (O.mv (Opd.t 15)), C.op none (some 3) (O.mv (Opd.c (AV.bool true))), C.ret]
def r15 : List RV := [RV.t 2, RV.t 3]
theorem c15_ok : cC Try.prog Try.f15.ntmps (Try.f15.body.getD .skip) = some c15 := by kernel_rfl

def c16 : List C :=
  [C.op none (some 4) (O.mv (Opd.c (AV.int IntKind.i64 0))), C.op none (some 7) (O.mv (Opd.t 0)),
    C.op none (some 8) (O.len false (Opd.t 7)), C.op none (some 9) (O.mv (Opd.c (AV.int IntKind.i64 0))),
    C.blk 0
      [C.loop
          [C.op none (some 10) (O.bin BinOp.lss (Opd.t 9) (Opd.t 8)), C.cond (Opd.t 10) [] [C.exit 0],
            C.blk 1
              [C.op none (some 11) (O.mv (Opd.t 9)), C.op none (some 12) (O.iad 4 (Opd.t 7) (Opd.t 9)),
                C.op none (some 13)
                  (O.ldn [CK.int IntKind.u32, CK.int IntKind.i64, CK.int IntKind.i64, CK.int IntKind.i64] (Opd.t 12)),
                C.op none (some 6)
                  (O.alloc
                    [AV.int IntKind.u32 0, AV.int IntKind.i64 0,
                      AV.int IntKind.i64 0, AV.int IntKind.i64 0]),
                C.op none (some 5) (O.mv (Opd.t 11)), C.op none none (O.st 4 (Opd.t 6) (Opd.t 13)),
                C.op none (some 14) (O.fad 0 (Opd.t 6)), C.op none (some 15) (O.ld (CK.int IntKind.u32) (Opd.t 14)),
                C.op none (some 16) (O.mv (Opd.t 1)), C.op none (some 17) (O.bin BinOp.eql (Opd.t 15) (Opd.t 16)),
                C.cond (Opd.t 17) [C.op none (some 18) (O.mv (Opd.t 5)), C.op none (some 4) (O.mv (Opd.t 18)), C.ret]
                  []],
            C.op none (some 19) (O.bin BinOp.add (Opd.t 9) (Opd.c (AV.int IntKind.i64 1))),
            C.op none (some 9) (O.mv (Opd.t 19))]],
    C.op none (some 4) (O.mv (Opd.c (AV.int IntKind.i64 (-1)))), C.ret]
def r16 : List RV := [RV.t 4]
theorem c16_ok : cC Try.prog Try.f16.ntmps (Try.f16.body.getD .skip) = some c16 := by kernel_rfl

def c17 : List C :=
  [C.op none (some 4) (O.mv (Opd.c AV.nilsl)),
    C.op none (some 8)
      (O.bsl 4
        [AV.int IntKind.u32 0, AV.int IntKind.i64 0, AV.int IntKind.i64 0,
          AV.int IntKind.i64 0]
        0 []),
    C.op none (some 5) (O.mv (Opd.t 8)), C.op none (some 9) (O.mv (Opd.t 0)),
    C.op none (some 10) (O.len false (Opd.t 9)), C.op none (some 11) (O.mv (Opd.c (AV.int IntKind.i64 0))),
    C.blk 0
      [C.loop
          [C.op none (some 12) (O.bin BinOp.lss (Opd.t 11) (Opd.t 10)), C.cond (Opd.t 12) [] [C.exit 0],
            C.blk 1
              [C.op none (some 13) (O.iad 4 (Opd.t 9) (Opd.t 11)),
                C.op none (some 14)
                  (O.ldn [CK.int IntKind.u32, CK.int IntKind.i64, CK.int IntKind.i64, CK.int IntKind.i64] (Opd.t 13)),
                C.op none (some 7)
                  (O.alloc
                    [AV.int IntKind.u32 0, AV.int IntKind.i64 0,
                      AV.int IntKind.i64 0, AV.int IntKind.i64 0]),
                C.op none none (O.st 4 (Opd.t 7) (Opd.t 14)), C.op none (some 15) (O.fad 0 (Opd.t 7)),
                C.op none (some 16) (O.ld (CK.int IntKind.u32) (Opd.t 15)), C.op none (some 17) (O.mv (Opd.t 1)),
                C.op none (some 18) (O.bin BinOp.neq (Opd.t 16) (Opd.t 17)),
                C.cond (Opd.t 18)
                  [C.op none (some 19) (O.mv (Opd.t 5)),
                    C.op none (some 20)
                      (O.ldn [CK.int IntKind.u32, CK.int IntKind.i64, CK.int IntKind.i64, CK.int IntKind.i64]
                        (Opd.t 7)),
                    C.op none (some 21)
                      (O.bsl 4
                        [AV.int IntKind.u32 0, AV.int IntKind.i64 0,
                          AV.int IntKind.i64 0, AV.int IntKind.i64 0]
                        1 [(0, Opd.t 20)]),
                    C.op none (some 22) (O.app 4 (Opd.t 19) (Opd.t 21)), C.op none (some 5) (O.mv (Opd.t 22))]
                  []],
            C.op none (some 23) (O.bin BinOp.add (Opd.t 11) (Opd.c (AV.int IntKind.i64 1))),
            C.op none (some 11) (O.mv (Opd.t 23))]],
    C.op none (some 24) (O.mv (Opd.t 5)), C.op none (some 4) (O.mv (Opd.t 24)), C.ret]
def r17 : List RV := [RV.t 4]
theorem c17_ok : cC Try.prog Try.f17.ntmps (Try.f17.body.getD .skip) = some c17 := by kernel_rfl

def d18_0 : List It :=
  [(none, some 33, O.fad 1 (Opd.t 13), []),
                                (none, some 34, O.ld (CK.int IntKind.i64) (Opd.t 33), [0]),
                                (none, some 35, O.mv (Opd.t 2), []),
                                (none, some 36, O.bin BinOp.leq (Opd.t 34) (Opd.t 35), [1, 2]),
                                (none, some 37, O.mv (Opd.t 36), [3]),
                                (some (37, true), some 38, O.fad 3 (Opd.t 13), [4]),
                                (some (37, true), some 39, O.ld (CK.int IntKind.i64) (Opd.t 38), [5, 4]),
                                (some (37, true), some 40, O.mv (Opd.t 0), [4]),
                                (some (37, true), some 41, O.mv (Opd.t 12), [4]),
                                (some (37, true), some 42, O.iad 4 (Opd.t 40) (Opd.t 41), [7, 8, 4]),
                                (some (37, true), some 43, O.fad 3 (Opd.t 42), [9, 4]),
                                (some (37, true), some 44, O.ld (CK.int IntKind.i64) (Opd.t 43), [10, 4]),
                                (some (37, true), some 45, O.bin BinOp.eql (Opd.t 39) (Opd.t 44), [6, 11, 4]),
                                (none, some 46, O.pick (Opd.t 37) (Opd.t 45) (Opd.c (AV.bool false)), [4, 12]),
                                (none, some 47, O.mv (Opd.t 46), [13, 4]),
                                (some (47, true), some 48, O.mv (Opd.t 11), [14]),
                                (some (47, true), some 49,
                                  O.bin BinOp.lss (Opd.t 48) (Opd.c (AV.int IntKind.i64 0)), [15, 14]),
                                (some (47, true), some 50, O.mv (Opd.t 49), [16, 14, 14]),
                                (some (50, false), some 51, O.fad 1 (Opd.t 13), [17]),
                                (some (50, false), some 52, O.ld (CK.int IntKind.i64) (Opd.t 51), [18, 17]),
                                (some (50, false), some 53, O.mv (Opd.t 8), [17]),
                                (some (50, false), some 54, O.mv (Opd.t 11), [17]),
                                (some (50, false), some 55, O.iad 4 (Opd.t 53) (Opd.t 54), [20, 21, 17]),
                                (some (50, false), some 56, O.fad 1 (Opd.t 55), [22, 17]),
                                (some (50, false), some 57, O.ld (CK.int IntKind.i64) (Opd.t 56), [23, 17]),
                                (some (50, false), some 58, O.bin BinOp.lss (Opd.t 52) (Opd.t 57), [19, 24, 17]),
                                (some (47, true), some 59, O.pick (Opd.t 50) (Opd.c (AV.bool true)) (Opd.t 58),
                                  [17, 25, 14]),
                                (none, some 60, O.pick (Opd.t 47) (Opd.t 59) (Opd.c (AV.bool false)), [14, 26])]
def o18_0 : List (Nat × Bool) := [(0, false), (1, false), (2, false), (3, false), (4, false), (5, false), (6, false), (7, false), (8, false), (9, false), (10, false), (11, false), (12, false), (13, false), (14, false), (15, false), (16, false), (17, false), (18, false), (19, false), (20, false), (21, false), (22, false), (23, false), (24, false), (25, false), (26, false), (27, false)]
def l18_0 : List (Nat × Bool × It) :=
  [(0, false, (none, some 33, O.fad 1 (Opd.t 13), [])),
   (1, false, (none, some 34, O.ld (CK.int IntKind.i64) (Opd.t 33), [0])),
   (2, false, (none, some 35, O.mv (Opd.t 2), [])),
   (3, false, (none, some 36, O.bin BinOp.leq (Opd.t 34) (Opd.t 35), [1, 2])),
   (4, false, (none, some 37, O.mv (Opd.t 36), [3])),
   (5, false, (some (37, true), some 38, O.fad 3 (Opd.t 13), [4])),
   (6, false, (some (37, true), some 39, O.ld (CK.int IntKind.i64) (Opd.t 38), [5, 4])),
   (7, false, (some (37, true), some 40, O.mv (Opd.t 0), [4])),
   (8, false, (some (37, true), some 41, O.mv (Opd.t 12), [4])),
   (9, false, (some (37, true), some 42, O.iad 4 (Opd.t 40) (Opd.t 41), [7, 8, 4])),
   (10, false, (some (37, true), some 43, O.fad 3 (Opd.t 42), [9, 4])),
   (11, false, (some (37, true), some 44, O.ld (CK.int IntKind.i64) (Opd.t 43), [10, 4])),
   (12, false, (some (37, true), some 45, O.bin BinOp.eql (Opd.t 39) (Opd.t 44), [6, 11, 4])),
   (13, false, (none, some 46, O.pick (Opd.t 37) (Opd.t 45) (Opd.c (AV.bool false)), [4, 12])),
   (14, false, (none, some 47, O.mv (Opd.t 46), [13, 4])),
   (15, false, (some (47, true), some 48, O.mv (Opd.t 11), [14])),
   (16, false, (some (47, true), some 49,
                                  O.bin BinOp.lss (Opd.t 48) (Opd.c (AV.int IntKind.i64 0)), [15, 14])),
   (17, false, (some (47, true), some 50, O.mv (Opd.t 49), [16, 14, 14])),
   (18, false, (some (50, false), some 51, O.fad 1 (Opd.t 13), [17])),
   (19, false, (some (50, false), some 52, O.ld (CK.int IntKind.i64) (Opd.t 51), [18, 17])),
   (20, false, (some (50, false), some 53, O.mv (Opd.t 8), [17])),
   (21, false, (some (50, false), some 54, O.mv (Opd.t 11), [17])),
   (22, false, (some (50, false), some 55, O.iad 4 (Opd.t 53) (Opd.t 54), [20, 21, 17])),
   (23, false, (some (50, false), some 56, O.fad 1 (Opd.t 55), [22, 17])),
   (24, false, (some (50, false), some 57, O.ld (CK.int IntKind.i64) (Opd.t 56), [23, 17])),
   (25, false, (some (50, false), some 58, O.bin BinOp.lss (Opd.t 52) (Opd.t 57), [19, 24, 17])),
   (26, false, (some (47, true), some 59, O.pick (Opd.t 50) (Opd.c (AV.bool true)) (Opd.t 58),
                                  [17, 25, 14])),
   (27, false, (none, some 60, O.pick (Opd.t 47) (Opd.t 59) (Opd.c (AV.bool false)), [14, 26]))]
theorem l18_0_ok : okDraw d18_0 o18_0 = true ∧ mkL d18_0 o18_0 = some l18_0 := ⟨by kernel_rfl, by kernel_rfl⟩

def c18 : List C :=
  [C.op none (some 6) (O.mv (Opd.c AV.nilsl)), C.op none (some 7) (O.mv (Opd.c AV.nilsl)),
    C.op none (some 16)
      (O.bsl 4
        [AV.int IntKind.u32 0, AV.int IntKind.i64 0, AV.int IntKind.i64 0,
          AV.int IntKind.i64 0]
        0 []),
    C.op none (some 17) (O.mv (Opd.t 0)), C.op none (some 18) (O.app 4 (Opd.t 16) (Opd.t 17)),
    C.op none (some 8) (O.mv (Opd.t 18)), C.op none (some 19) (O.bsl 1 [AV.int IntKind.u32 0] 0 []),
    C.op none (some 9) (O.mv (Opd.t 19)), C.op none (some 10) (O.mv (Opd.c (AV.int IntKind.i64 0))),
    C.blk 0
      [C.loop
          [C.op none (some 20) (O.mv (Opd.t 10)), C.op none (some 21) (O.mv (Opd.t 0)),
            C.op none (some 22) (O.len false (Opd.t 21)), C.op none (some 23) (O.bin BinOp.lss (Opd.t 20) (Opd.t 22)),
            C.cond (Opd.t 23) [] [C.exit 0],
            C.blk 1
              [C.op none (some 11) (O.mv (Opd.c (AV.int IntKind.i64 (-1)))),
                C.op none (some 26) (O.mv (Opd.t 8)), C.op none (some 27) (O.len false (Opd.t 26)),
                C.op none (some 28) (O.mv (Opd.c (AV.int IntKind.i64 0))),
                C.blk 2
                  [C.loop
                      [C.op none (some 29) (O.bin BinOp.lss (Opd.t 28) (Opd.t 27)), C.cond (Opd.t 29) [] [C.exit 2],
                        C.blk 3
                          [C.op none (some 30) (O.mv (Opd.t 28)), C.op none (some 31) (O.iad 4 (Opd.t 26) (Opd.t 28)),
                            C.op none (some 32)
                              (O.ldn [CK.int IntKind.u32, CK.int IntKind.i64, CK.int IntKind.i64, CK.int IntKind.i64]
                                (Opd.t 31)),
                            C.op none (some 13)
                              (O.alloc
                                [AV.int IntKind.u32 0, AV.int IntKind.i64 0,
                                  AV.int IntKind.i64 0, AV.int IntKind.i64 0]),
                            C.op none (some 12) (O.mv (Opd.t 30)), C.op none none (O.st 4 (Opd.t 13) (Opd.t 32)),
                            C.draw d18_0,
                            C.cond (Opd.t 60)
                              [C.op none (some 61) (O.mv (Opd.t 12)), C.op none (some 11) (O.mv (Opd.t 61))] []],
                        C.op none (some 62) (O.bin BinOp.add (Opd.t 28) (Opd.c (AV.int IntKind.i64 1))),
                        C.op none (some 28) (O.mv (Opd.t 62))]],
                C.op none (some 63) (O.mv (Opd.t 11)),
                C.op none (some 64) (O.bin BinOp.lss (Opd.t 63) (Opd.c (AV.int IntKind.i64 0))),
                C.cond (Opd.t 64)
                  [C.op none (some 65) (O.mv (Opd.t 8)), C.op none (some 66) (O.mv (Opd.t 9)),
                    C.op none (some 6) (O.mv (Opd.t 65)), C.op none (some 7) (O.mv (Opd.t 66)), C.ret]
                  [],
                C.op none (some 67) (O.mv (Opd.t 8)), C.op none (some 68) (O.mv (Opd.t 11)),
                C.op none (some 69) (O.iad 4 (Opd.t 67) (Opd.t 68)),
                C.op none (some 70)
                  (O.ldn [CK.int IntKind.u32, CK.int IntKind.i64, CK.int IntKind.i64, CK.int IntKind.i64] (Opd.t 69)),
                C.op none (some 14)
                  (O.alloc
                    [AV.int IntKind.u32 0, AV.int IntKind.i64 0,
                      AV.int IntKind.i64 0, AV.int IntKind.i64 0]),
                C.op none none (O.st 4 (Opd.t 14) (Opd.t 70)), C.op none (some 71) (O.mv (Opd.t 9)),
                C.op none (some 72) (O.fad 0 (Opd.t 14)), C.op none (some 73) (O.ld (CK.int IntKind.u32) (Opd.t 72)),
                C.op none (some 74) (O.bsl 1 [AV.int IntKind.u32 0] 1 [(0, Opd.t 73)]),
                C.op none (some 75) (O.app 1 (Opd.t 71) (Opd.t 74)), C.op none (some 9) (O.mv (Opd.t 75)),
                C.op none (some 76) (O.fad 2 (Opd.t 14)), C.op none (some 77) (O.ld (CK.int IntKind.i64) (Opd.t 76)),
                C.op none (some 78) (O.bin BinOp.mul (Opd.c (AV.int IntKind.i64 2)) (Opd.t 77)),
                C.op none (some 79) (O.mv (Opd.t 1)), C.op none (some 80) (O.mn [Opd.t 78, Opd.t 79]),
                C.op none (some 15) (O.mv (Opd.t 80)), C.op none (some 81) (O.mv (Opd.t 8)),
                C.op none (some 82) (O.mv (Opd.t 11)), C.op none (some 83) (O.fad 0 (Opd.t 14)),
                C.op none (some 84) (O.ld (CK.int IntKind.u32) (Opd.t 83)), C.op none (some 85) (O.mv (Opd.t 2)),
                C.op none (some 86) (O.mv (Opd.t 15)), C.op none (some 87) (O.bin BinOp.add (Opd.t 85) (Opd.t 86)),
                C.op none (some 88) (O.mv (Opd.t 15)), C.op none (some 89) (O.fad 3 (Opd.t 14)),
                C.op none (some 90) (O.ld (CK.int IntKind.i64) (Opd.t 89)),
                C.op none (some 91) (O.bin BinOp.add (Opd.t 90) (Opd.c (AV.int IntKind.i64 1))),
                C.op none (some 92)
                  (O.build
                    [AV.int IntKind.u32 0, AV.int IntKind.i64 0,
                      AV.int IntKind.i64 0, AV.int IntKind.i64 0]
                    [(0, 1, Opd.t 84), (1, 1, Opd.t 87), (2, 1, Opd.t 88), (3, 1, Opd.t 91)]),
                C.op none (some 93) (O.iad 4 (Opd.t 81) (Opd.t 82)), C.op none none (O.st 4 (Opd.t 93) (Opd.t 92))],
            C.op none (some 24) (O.mv (Opd.t 10)),
            C.op none (some 25) (O.bin BinOp.add (Opd.t 24) (Opd.c (AV.int IntKind.i64 1))),
            C.op none (some 10) (O.mv (Opd.t 25))]],
    C.op none (some 94) (O.mv (Opd.t 8)), C.op none (some 95) (O.mv (Opd.t 9)), C.op none (some 6) (O.mv (Opd.t 94)),
    C.op none (some 7) (O.mv (Opd.t 95)), C.ret]
def r18 : List RV := [RV.t 6, RV.t 7]
theorem c18_ok : cC Try.prog Try.f18.ntmps (Try.f18.body.getD .skip) = some c18 := by kernel_rfl

def c19 : List C :=
  [C.op none (some 2) (O.mv (Opd.c (AV.int IntKind.i64 0))), C.op none (some 6) (O.mv (Opd.t 0)),
    C.op none (some 7) (O.iad 4 (Opd.t 6) (Opd.c (AV.int IntKind.i64 0))),
    C.op none (some 8) (O.fad 1 (Opd.t 7)), C.op none (some 9) (O.ld (CK.int IntKind.i64) (Opd.t 8)),
    C.op none (some 3) (O.mv (Opd.t 9)), C.op none (some 10) (O.mv (Opd.t 0)),
    C.op none (some 11) (O.len false (Opd.t 10)), C.op none (some 12) (O.mv (Opd.c (AV.int IntKind.i64 0))),
    C.blk 0
      [C.loop
          [C.op none (some 13) (O.bin BinOp.lss (Opd.t 12) (Opd.t 11)), C.cond (Opd.t 13) [] [C.exit 0],
            C.blk 1
              [C.op none (some 14) (O.iad 4 (Opd.t 10) (Opd.t 12)),
                C.op none (some 15)
                  (O.ldn [CK.int IntKind.u32, CK.int IntKind.i64, CK.int IntKind.i64, CK.int IntKind.i64] (Opd.t 14)),
                C.op none (some 5)
                  (O.alloc
                    [AV.int IntKind.u32 0, AV.int IntKind.i64 0,
                      AV.int IntKind.i64 0, AV.int IntKind.i64 0]),
                C.op none none (O.st 4 (Opd.t 5) (Opd.t 15)), C.op none (some 16) (O.mv (Opd.t 3)),
                C.op none (some 17) (O.fad 1 (Opd.t 5)), C.op none (some 18) (O.ld (CK.int IntKind.i64) (Opd.t 17)),
                C.op none (some 19) (O.mn [Opd.t 16, Opd.t 18]), C.op none (some 3) (O.mv (Opd.t 19))],
            C.op none (some 20) (O.bin BinOp.add (Opd.t 12) (Opd.c (AV.int IntKind.i64 1))),
            C.op none (some 12) (O.mv (Opd.t 20))]],
    C.op none (some 21) (O.mv (Opd.t 3)), C.op none (some 2) (O.mv (Opd.t 21)), C.ret]
def r19 : List RV := [RV.t 2]
theorem c19_ok : cC Try.prog Try.f19.ntmps (Try.f19.body.getD .skip) = some c19 := by kernel_rfl

def c20 : List C :=
  [C.op none (some 1) (O.box (Opd.t 0)), C.op none (some 2) (O.mv (Opd.c (AV.int IntKind.i64 0))),
    C.op none (some 3) (O.fad 0 (Opd.t 1)), C.op none (some 4) (O.ld (CK.int IntKind.i64) (Opd.t 3)),
    C.op none (some 5) (O.bin BinOp.lss (Opd.t 4) (Opd.c (AV.int IntKind.i64 1))),
    C.op none (some 6) (O.mv (Opd.t 5)), C.op (some (6, false)) (some 7) (O.fad 1 (Opd.t 1)),
    C.op (some (6, false)) (some 8) (O.ld (CK.int IntKind.i64) (Opd.t 7)),
    C.op (some (6, false)) (some 9) (O.fad 0 (Opd.t 1)),
    C.op (some (6, false)) (some 10) (O.ld (CK.int IntKind.i64) (Opd.t 9)),
    C.op (some (6, false)) (some 11) (O.bin BinOp.lss (Opd.t 8) (Opd.t 10)),
    C.op none (some 12) (O.pick (Opd.t 6) (Opd.c (AV.bool true)) (Opd.t 11)), C.op none (some 13) (O.mv (Opd.t 12)),
    C.op (some (13, false)) (some 14) (O.fad 1 (Opd.t 1)),
    C.op (some (13, false)) (some 15) (O.ld (CK.int IntKind.i64) (Opd.t 14)),
    C.op (some (13, false)) (some 16) (O.bin BinOp.gtr (Opd.t 15) (Opd.c (AV.int IntKind.i64 1048576))),
    C.op none (some 17) (O.pick (Opd.t 13) (Opd.c (AV.bool true)) (Opd.t 16)),
    C.cond (Opd.t 17) [C.op none (some 2) (O.mv (Opd.c (AV.int IntKind.i64 4))), C.ret] [],
    C.op none (some 2) (O.mv (Opd.c (AV.int IntKind.i64 0))), C.ret]
def r20 : List RV := [RV.t 2]
theorem c20_ok : cC Try.prog Try.f20.ntmps (Try.f20.body.getD .skip) = some c20 := by kernel_rfl

def c21 : List C :=
  [C.op none (some 3) (O.box (Opd.t 1)), C.op none (some 4) (O.mv (Opd.c (AV.int IntKind.i64 0))),
    C.op none (some 5) (O.mv (Opd.t 0)), C.op none (some 6) (O.nck (Opd.t 5)), C.op none (some 7) (O.fad 2 (Opd.t 6)),
    C.op none (some 8) (O.ld CK.any (Opd.t 7)), C.op none (some 9) (O.mkfn 32 [] [Opd.t 3]),
    C.op none (some 10) (O.call 31 [Opd.t 8, Opd.t 9]), C.op none (some 4) (O.mv (Opd.t 10)), C.ret]
def r21 : List RV := [RV.t 4]
theorem c21_ok : cC Try.prog Try.f21.ntmps (Try.f21.body.getD .skip) = some c21 := by kernel_rfl

def c22 : List C :=
  [C.op none (some 4) (O.mv (Opd.t 0)), C.op none (some 5) (O.mv (Opd.t 0)), C.op none (some 6) (O.len false (Opd.t 5)),
    C.op none (some 7) (O.mv (Opd.t 1)), C.op none (some 8) (O.call 33 [Opd.t 4, Opd.t 6, Opd.t 7])]
def r22 : List RV := []
theorem c22_ok : cC Try.prog Try.f22.ntmps (Try.f22.body.getD .skip) = some c22 := by kernel_rfl

def c23 : List C :=
  [C.op none (some 2) (O.box (Opd.t 0)), C.op none (some 3) (O.box (Opd.t 1)),
    C.op none (some 4) (O.mv (Opd.c (AV.int IntKind.i64 0))), C.op none (some 5) (O.fad 1 (Opd.t 2)),
    C.op none (some 6) (O.ld (CK.int IntKind.i64) (Opd.t 5)), C.op none (some 7) (O.fad 1 (Opd.t 3)),
    C.op none (some 8) (O.ld (CK.int IntKind.i64) (Opd.t 7)), C.op none (some 9) (O.call 24 [Opd.t 6, Opd.t 8]),
    C.op none (some 4) (O.mv (Opd.t 9)), C.ret]
def r23 : List RV := [RV.t 4]
theorem c23_ok : cC Try.prog Try.f23.ntmps (Try.f23.body.getD .skip) = some c23 := by kernel_rfl

def c24 : List C :=
  [C.op none (some 4) (O.mv (Opd.c (AV.int IntKind.i64 0))), C.op none (some 7) (O.mv (Opd.t 0)),
    C.op none (some 8) (O.call 34 [Opd.t 7]), C.op none (some 5) (O.mv (Opd.t 8)), C.op none (some 9) (O.mv (Opd.t 1)),
    C.op none (some 10) (O.call 34 [Opd.t 9]), C.op none (some 6) (O.mv (Opd.t 10)),
    C.op none (some 11) (O.mv (Opd.t 5)),
    C.cond (Opd.t 11)
      [C.op none (some 12) (O.mv (Opd.t 6)),
        C.cond (Opd.t 12) [C.op none (some 4) (O.mv (Opd.c (AV.int IntKind.i64 0))), C.ret] [],
        C.op none (some 4) (O.mv (Opd.c (AV.int IntKind.i64 (-1)))), C.ret]
      [],
    C.op none (some 13) (O.mv (Opd.t 6)),
    C.cond (Opd.t 13) [C.op none (some 4) (O.mv (Opd.c (AV.int IntKind.i64 1))), C.ret] [],
    C.op none (some 14) (O.mv (Opd.t 0)), C.op none (some 15) (O.mv (Opd.t 1)),
    C.op none (some 16) (O.bin BinOp.lss (Opd.t 14) (Opd.t 15)),
    C.cond (Opd.t 16) [C.op none (some 4) (O.mv (Opd.c (AV.int IntKind.i64 (-1)))), C.ret] [],
    C.op none (some 17) (O.mv (Opd.t 0)), C.op none (some 18) (O.mv (Opd.t 1)),
    C.op none (some 19) (O.bin BinOp.gtr (Opd.t 17) (Opd.t 18)),
    C.cond (Opd.t 19) [C.op none (some 4) (O.mv (Opd.c (AV.int IntKind.i64 1))), C.ret] [],
    C.op none (some 4) (O.mv (Opd.c (AV.int IntKind.i64 0))), C.ret]
def r24 : List RV := [RV.t 4]
theorem c24_ok : cC Try.prog Try.f24.ntmps (Try.f24.body.getD .skip) = some c24 := by kernel_rfl

def c25 : List C :=
  [C.op none (some 4) (O.mv (Opd.c AV.nilsl)), C.op none (some 8) (O.mv (Opd.t 0)), C.op none (some 9) (O.mv (Opd.t 1)),
    C.op none (some 10) (O.call 31 [Opd.t 8, Opd.t 9]), C.op none (some 5) (O.mv (Opd.t 10)),
    C.op none (some 11) (O.mv (Opd.t 5)),
    C.op none (some 12) (O.bin BinOp.eql (Opd.t 11) (Opd.c (AV.int IntKind.i64 (-1)))),
    C.cond (Opd.t 12) [C.op none (some 13) (O.mv (Opd.t 0)), C.op none (some 4) (O.mv (Opd.t 13)), C.ret] [],
    C.op none (some 14) (O.mv (Opd.t 5)),
    C.op none (some 15) (O.bin BinOp.add (Opd.t 14) (Opd.c (AV.int IntKind.i64 1))),
    C.op none (some 6) (O.mv (Opd.t 15)),
    C.blk 0
      [C.loop
          [C.op none (some 16) (O.mv (Opd.t 6)), C.op none (some 17) (O.mv (Opd.t 0)),
            C.op none (some 18) (O.len false (Opd.t 17)), C.op none (some 19) (O.bin BinOp.lss (Opd.t 16) (Opd.t 18)),
            C.cond (Opd.t 19) [] [C.exit 0],
            C.blk 1
              [C.op none (some 22) (O.mv (Opd.t 0)), C.op none (some 23) (O.mv (Opd.t 6)),
                C.op none (some 24) (O.iad 4 (Opd.t 22) (Opd.t 23)),
                C.op none (some 25)
                  (O.ldn [CK.int IntKind.u32, CK.int IntKind.i64, CK.int IntKind.i64, CK.int IntKind.i64] (Opd.t 24)),
                C.op none (some 7)
                  (O.alloc
                    [AV.int IntKind.u32 0, AV.int IntKind.i64 0,
                      AV.int IntKind.i64 0, AV.int IntKind.i64 0]),
                C.op none none (O.st 4 (Opd.t 7) (Opd.t 25)), C.op none (some 26) (O.mv (Opd.t 1)),
                C.op none (some 27)
                  (O.ldn [CK.int IntKind.u32, CK.int IntKind.i64, CK.int IntKind.i64, CK.int IntKind.i64] (Opd.t 7)),
                C.op none (some 28) (O.callv (Opd.t 26) [Opd.t 27]), C.op none (some 29) (O.un UnOp.not (Opd.t 28)),
                C.cond (Opd.t 29)
                  [C.op none (some 30) (O.mv (Opd.t 0)), C.op none (some 31) (O.mv (Opd.t 5)),
                    C.op none (some 32)
                      (O.ldn [CK.int IntKind.u32, CK.int IntKind.i64, CK.int IntKind.i64, CK.int IntKind.i64]
                        (Opd.t 7)),
                    C.op none (some 33) (O.iad 4 (Opd.t 30) (Opd.t 31)), C.op none none (O.st 4 (Opd.t 33) (Opd.t 32)),
                    C.op none (some 34) (O.mv (Opd.t 5)),
                    C.op none (some 35) (O.bin BinOp.add (Opd.t 34) (Opd.c (AV.int IntKind.i64 1))),
                    C.op none (some 5) (O.mv (Opd.t 35))]
                  []],
            C.op none (some 20) (O.mv (Opd.t 6)),
            C.op none (some 21) (O.bin BinOp.add (Opd.t 20) (Opd.c (AV.int IntKind.i64 1))),
            C.op none (some 6) (O.mv (Opd.t 21))]],
    C.op none (some 36) (O.mv (Opd.t 0)), C.op none (some 37) (O.mv (Opd.t 5)),
    C.op none (some 38) (O.lsl 4 (Opd.t 36) (some (Opd.t 37)) none none),
    C.op none none
      (O.clr 4
        [AV.int IntKind.u32 0, AV.int IntKind.i64 0, AV.int IntKind.i64 0,
          AV.int IntKind.i64 0]
        (Opd.t 38)),
    C.op none (some 39) (O.mv (Opd.t 0)), C.op none (some 40) (O.mv (Opd.t 5)),
    C.op none (some 41) (O.lsl 4 (Opd.t 39) none (some (Opd.t 40)) none), C.op none (some 4) (O.mv (Opd.t 41)), C.ret]
def r25 : List RV := [RV.t 4]
theorem c25_ok : cC Try.prog Try.f25.ntmps (Try.f25.body.getD .skip) = some c25 := by kernel_rfl

def c26 : List C :=
  [C.op none (some 2) (O.mv (Opd.c AV.nilsl)), C.op none (some 3) (O.mv (Opd.t 0)),
    C.op none (some 4) (O.eqn false (Opd.t 3)), C.cond (Opd.t 4) [C.op none (some 2) (O.mv (Opd.c AV.nilsl)), C.ret] [],
    C.op none (some 5)
      (O.bsl 4
        [AV.int IntKind.u32 0, AV.int IntKind.i64 0, AV.int IntKind.i64 0,
          AV.int IntKind.i64 0]
        0 []),
    C.op none (some 6) (O.mv (Opd.t 0)), C.op none (some 7) (O.app 4 (Opd.t 5) (Opd.t 6)),
    C.op none (some 2) (O.mv (Opd.t 7)), C.ret]
def r26 : List RV := [RV.t 2]
theorem c26_ok : cC Try.prog Try.f26.ntmps (Try.f26.body.getD .skip) = some c26 := by kernel_rfl

def c27 : List C :=
  [C.op none (some 2) (O.box (Opd.t 0)), C.op none (some 3) (O.mv (Opd.c (AV.bool false))),
    C.op none (some 4) (O.ld CK.any (Opd.t 1)), C.op none (some 5) (O.fad 0 (Opd.t 2)),
    C.op none (some 6) (O.ld (CK.int IntKind.u32) (Opd.t 5)), C.op none (some 7) (O.call 28 [Opd.t 4, Opd.t 6]),
    C.op none (some 3) (O.mv (Opd.t 7)), C.ret]
def r27 : List RV := [RV.t 3]
theorem c27_ok : cC Try.prog Try.f27.ntmps (Try.f27.body.getD .skip) = some c27 := by kernel_rfl

def c28 : List C :=
  [C.op none (some 4) (O.mv (Opd.c (AV.bool false))), C.op none (some 5) (O.mv (Opd.t 0)),
    C.op none (some 6) (O.mv (Opd.t 1)), C.op none (some 7) (O.call 35 [Opd.t 5, Opd.t 6]),
    C.op none (some 8) (O.bin BinOp.geq (Opd.t 7) (Opd.c (AV.int IntKind.i64 0))),
    C.op none (some 4) (O.mv (Opd.t 8)), C.ret]
def r28 : List RV := [RV.t 4]
theorem c28_ok : cC Try.prog Try.f28.ntmps (Try.f28.body.getD .skip) = some c28 := by kernel_rfl

def d29_0 : List It :=
  [(none, some 20, O.mv (Opd.t 1), []), (none, some 21, O.mv (Opd.t 0), []),
                    (none, some 22, O.mv (Opd.t 6), []), (none, some 23, O.iad 4 (Opd.t 21) (Opd.t 22), [1, 2]),
                    (none, some 24,
                      O.ldn [CK.int IntKind.u32, CK.int IntKind.i64, CK.int IntKind.i64, CK.int IntKind.i64] (Opd.t 23),
                      [3]),
                    (none, some 25,
                      O.ldn [CK.int IntKind.u32, CK.int IntKind.i64, CK.int IntKind.i64, CK.int IntKind.i64] (Opd.t 5),
                      []),
                    (none, some 26, O.callv (Opd.t 20) [Opd.t 24, Opd.t 25], [0, 4, 5]),
                    (none, some 27, O.bin BinOp.lss (Opd.t 26) (Opd.c (AV.int IntKind.i64 0)), [6])]
def o29_0 : List (Nat × Bool) := [(0, false), (1, false), (2, false), (3, false), (4, false), (5, false), (6, true), (7, false)]
def l29_0 : List (Nat × Bool × It) :=
  [(0, false, (none, some 20, O.mv (Opd.t 1), [])),
   (1, false, (none, some 21, O.mv (Opd.t 0), [])),
   (2, false, (none, some 22, O.mv (Opd.t 6), [])),
   (3, false, (none, some 23, O.iad 4 (Opd.t 21) (Opd.t 22), [1, 2])),
   (4, false, (none, some 24,
                      O.ldn [CK.int IntKind.u32, CK.int IntKind.i64, CK.int IntKind.i64, CK.int IntKind.i64] (Opd.t 23),
                      [3])),
   (5, false, (none, some 25,
                      O.ldn [CK.int IntKind.u32, CK.int IntKind.i64, CK.int IntKind.i64, CK.int IntKind.i64] (Opd.t 5),
                      [])),
   (6, true, (none, some 26, O.callv (Opd.t 20) [Opd.t 24, Opd.t 25], [0, 4, 5])),
   (7, false, (none, some 27, O.bin BinOp.lss (Opd.t 26) (Opd.c (AV.int IntKind.i64 0)), [6]))]
theorem l29_0_ok : okDraw d29_0 o29_0 = true ∧ mkL d29_0 o29_0 = some l29_0 := ⟨by kernel_rfl, by kernel_rfl⟩

def c29 : List C :=
  [C.op none (some 4)
      (O.alloc
        [AV.int IntKind.u32 0, AV.int IntKind.i64 0, AV.int IntKind.i64 0,
          AV.int IntKind.i64 0]),
    C.op none (some 7) (O.mv (Opd.t 0)), C.op none (some 8) (O.len false (Opd.t 7)),
    C.op none (some 9) (O.bin BinOp.lss (Opd.t 8) (Opd.c (AV.int IntKind.i64 1))),
    C.cond (Opd.t 9)
      [C.op none (some 10)
          (O.ifc 9
            (Opd.c
              (AV.str
                [115,
                  108,
                  105,
                  99,
                  101,
                  115,
                  46,
                  77,
                  105,
                  110,
                  70,
                  117,
                  110,
                  99,
                  58,
                  32,
                  101,
                  109,
                  112,
                  116,
                  121,
                  32,
                  108,
                  105,
                  115,
                  116]))),
        C.op none none O.other]
      [],
    C.op none (some 11) (O.mv (Opd.t 0)),
    C.op none (some 12) (O.iad 4 (Opd.t 11) (Opd.c (AV.int IntKind.i64 0))),
    C.op none (some 13)
      (O.ldn [CK.int IntKind.u32, CK.int IntKind.i64, CK.int IntKind.i64, CK.int IntKind.i64] (Opd.t 12)),
    C.op none (some 5)
      (O.alloc
        [AV.int IntKind.u32 0, AV.int IntKind.i64 0, AV.int IntKind.i64 0,
          AV.int IntKind.i64 0]),
    C.op none none (O.st 4 (Opd.t 5) (Opd.t 13)), C.op none (some 6) (O.mv (Opd.c (AV.int IntKind.i64 1))),
    C.blk 0
      [C.loop
          [C.op none (some 14) (O.mv (Opd.t 6)), C.op none (some 15) (O.mv (Opd.t 0)),
            C.op none (some 16) (O.len false (Opd.t 15)), C.op none (some 17) (O.bin BinOp.lss (Opd.t 14) (Opd.t 16)),
            C.cond (Opd.t 17) [] [C.exit 0],
            C.blk 1
              [C.draw d29_0,
                C.cond (Opd.t 27)
                  [C.op none (some 28) (O.mv (Opd.t 0)), C.op none (some 29) (O.mv (Opd.t 6)),
                    C.op none (some 30) (O.iad 4 (Opd.t 28) (Opd.t 29)),
                    C.op none (some 31)
                      (O.ldn [CK.int IntKind.u32, CK.int IntKind.i64, CK.int IntKind.i64, CK.int IntKind.i64]
                        (Opd.t 30)),
                    C.op none none (O.st 4 (Opd.t 5) (Opd.t 31))]
                  []],
            C.op none (some 18) (O.mv (Opd.t 6)),
            C.op none (some 19) (O.bin BinOp.add (Opd.t 18) (Opd.c (AV.int IntKind.i64 1))),
            C.op none (some 6) (O.mv (Opd.t 19))]],
    C.op none (some 32)
      (O.ldn [CK.int IntKind.u32, CK.int IntKind.i64, CK.int IntKind.i64, CK.int IntKind.i64] (Opd.t 5)),
    C.op none none (O.st 4 (Opd.t 4) (Opd.t 32)), C.ret]
def r29 : List RV := [RV.cn 4 4]
theorem c29_ok : cC Try.prog Try.f29.ntmps (Try.f29.body.getD .skip) = some c29 := by kernel_rfl

def c30 : List C :=
  [C.op none (some 2) (O.box (Opd.t 0)), C.op none (some 3) (O.box (Opd.t 1)),
    C.op none (some 4) (O.mv (Opd.c (AV.int IntKind.i64 0))), C.op none (some 5) (O.fad 1 (Opd.t 2)),
    C.op none (some 6) (O.ld (CK.int IntKind.i64) (Opd.t 5)), C.op none (some 7) (O.fad 1 (Opd.t 3)),
    C.op none (some 8) (O.ld (CK.int IntKind.i64) (Opd.t 7)), C.op none (some 9) (O.call 24 [Opd.t 6, Opd.t 8]),
    C.op none (some 4) (O.mv (Opd.t 9)), C.ret]
def r30 : List RV := [RV.t 4]
theorem c30_ok : cC Try.prog Try.f30.ntmps (Try.f30.body.getD .skip) = some c30 := by kernel_rfl

def c31 : List C :=
  [C.op none (some 4) (O.mv (Opd.c (AV.int IntKind.i64 0))), C.op none (some 6) (O.mv (Opd.t 0)),
    C.op none (some 7) (O.len false (Opd.t 6)), C.op none (some 8) (O.mv (Opd.c (AV.int IntKind.i64 0))),
    C.blk 0
      [C.loop
          [C.op none (some 9) (O.bin BinOp.lss (Opd.t 8) (Opd.t 7)), C.cond (Opd.t 9) [] [C.exit 0],
            C.blk 1
              [C.op none (some 10) (O.mv (Opd.t 8)), C.op none (some 5) (O.mv (Opd.t 10)),
                C.op none (some 11) (O.mv (Opd.t 1)), C.op none (some 12) (O.mv (Opd.t 0)),
                C.op none (some 13) (O.mv (Opd.t 5)), C.op none (some 14) (O.iad 4 (Opd.t 12) (Opd.t 13)),
                C.op none (some 15)
                  (O.ldn [CK.int IntKind.u32, CK.int IntKind.i64, CK.int IntKind.i64, CK.int IntKind.i64] (Opd.t 14)),
                C.op none (some 16) (O.callv (Opd.t 11) [Opd.t 15]),
                C.cond (Opd.t 16) [C.op none (some 17) (O.mv (Opd.t 5)), C.op none (some 4) (O.mv (Opd.t 17)), C.ret]
                  []],
            C.op none (some 18) (O.bin BinOp.add (Opd.t 8) (Opd.c (AV.int IntKind.i64 1))),
            C.op none (some 8) (O.mv (Opd.t 18))]],
    C.op none (some 4) (O.mv (Opd.c (AV.int IntKind.i64 (-1)))), C.ret]
def r31 : List RV := [RV.t 4]
theorem c31_ok : cC Try.prog Try.f31.ntmps (Try.f31.body.getD .skip) = some c31 := by kernel_rfl

def c32 : List C :=
  [C.op none (some 2) (O.box (Opd.t 0)), C.op none (some 3) (O.mv (Opd.c (AV.bool false))),
    C.op none (some 4) (O.fad 0 (Opd.t 2)), C.op none (some 5) (O.ld (CK.int IntKind.u32) (Opd.t 4)),
    C.op none (some 6) (O.ld (CK.int IntKind.u32) (Opd.t 1)), C.op none (some 7) (O.bin BinOp.eql (Opd.t 5) (Opd.t 6)),
    C.op none (some 3) (O.mv (Opd.t 7)), C.ret]
def r32 : List RV := [RV.t 3]
theorem c32_ok : cC Try.prog Try.f32.ntmps (Try.f32.body.getD .skip) = some c32 := by kernel_rfl

def c33 : List C :=
  [C.op none (some 6) (O.mv (Opd.c (AV.int IntKind.i64 20))), C.op none (some 10) (O.mv (Opd.t 6)),
    C.op none (some 7) (O.mv (Opd.c (AV.int IntKind.i64 0))), C.op none (some 8) (O.mv (Opd.t 10)),
    C.blk 0
      [C.loop
          [C.op none (some 11) (O.mv (Opd.t 8)), C.op none (some 12) (O.mv (Opd.t 1)),
            C.op none (some 13) (O.bin BinOp.leq (Opd.t 11) (Opd.t 12)), C.cond (Opd.t 13) [] [C.exit 0],
            C.blk 1
              [C.op none (some 14) (O.mv (Opd.t 0)), C.op none (some 15) (O.mv (Opd.t 7)),
                C.op none (some 16) (O.mv (Opd.t 8)), C.op none (some 17) (O.mv (Opd.t 2)),
                C.op none (some 18) (O.call 36 [Opd.t 14, Opd.t 15, Opd.t 16, Opd.t 17]),
                C.op none (some 19) (O.mv (Opd.t 8)), C.op none (some 7) (O.mv (Opd.t 19)),
                C.op none (some 20) (O.mv (Opd.t 8)), C.op none (some 21) (O.mv (Opd.t 6)),
                C.op none (some 22) (O.bin BinOp.add (Opd.t 20) (Opd.t 21)), C.op none (some 8) (O.mv (Opd.t 22))]]],
    C.op none (some 23) (O.mv (Opd.t 0)), C.op none (some 24) (O.mv (Opd.t 7)), C.op none (some 25) (O.mv (Opd.t 1)),
    C.op none (some 26) (O.mv (Opd.t 2)), C.op none (some 27) (O.call 36 [Opd.t 23, Opd.t 24, Opd.t 25, Opd.t 26]),
    C.blk 2
      [C.loop
          [C.op none (some 28) (O.mv (Opd.t 6)), C.op none (some 29) (O.mv (Opd.t 1)),
            C.op none (some 30) (O.bin BinOp.lss (Opd.t 28) (Opd.t 29)), C.cond (Opd.t 30) [] [C.exit 2],
            C.blk 3
              [C.op none (some 31) (O.mv (Opd.t 6)),
                C.op none (some 32) (O.bin BinOp.mul (Opd.c (AV.int IntKind.i64 2)) (Opd.t 31)),
                C.op none (some 7) (O.mv (Opd.c (AV.int IntKind.i64 0))),
                C.op none (some 8) (O.mv (Opd.t 32)),
                C.blk 4
                  [C.loop
                      [C.op none (some 33) (O.mv (Opd.t 8)), C.op none (some 34) (O.mv (Opd.t 1)),
                        C.op none (some 35) (O.bin BinOp.leq (Opd.t 33) (Opd.t 34)), C.cond (Opd.t 35) [] [C.exit 4],
                        C.blk 5
                          [C.op none (some 36) (O.mv (Opd.t 0)), C.op none (some 37) (O.mv (Opd.t 7)),
                            C.op none (some 38) (O.mv (Opd.t 7)), C.op none (some 39) (O.mv (Opd.t 6)),
                            C.op none (some 40) (O.bin BinOp.add (Opd.t 38) (Opd.t 39)),
                            C.op none (some 41) (O.mv (Opd.t 8)), C.op none (some 42) (O.mv (Opd.t 2)),
                            C.op none (some 43) (O.call 37 [Opd.t 36, Opd.t 37, Opd.t 40, Opd.t 41, Opd.t 42]),
                            C.op none (some 44) (O.mv (Opd.t 8)), C.op none (some 7) (O.mv (Opd.t 44)),
                            C.op none (some 45) (O.mv (Opd.t 8)), C.op none (some 46) (O.mv (Opd.t 6)),
                            C.op none (some 47) (O.bin BinOp.mul (Opd.c (AV.int IntKind.i64 2)) (Opd.t 46)),
                            C.op none (some 48) (O.bin BinOp.add (Opd.t 45) (Opd.t 47)),
                            C.op none (some 8) (O.mv (Opd.t 48))]]],
                C.op none (some 49) (O.mv (Opd.t 7)), C.op none (some 50) (O.mv (Opd.t 6)),
                C.op none (some 51) (O.bin BinOp.add (Opd.t 49) (Opd.t 50)), C.op none (some 9) (O.mv (Opd.t 51)),
                C.op none (some 52) (O.mv (Opd.t 9)), C.op none (some 53) (O.mv (Opd.t 1)),
                C.op none (some 54) (O.bin BinOp.lss (Opd.t 52) (Opd.t 53)),
                C.cond (Opd.t 54)
                  [C.op none (some 55) (O.mv (Opd.t 0)), C.op none (some 56) (O.mv (Opd.t 7)),
                    C.op none (some 57) (O.mv (Opd.t 9)), C.op none (some 58) (O.mv (Opd.t 1)),
                    C.op none (some 59) (O.mv (Opd.t 2)),
                    C.op none (some 60) (O.call 37 [Opd.t 55, Opd.t 56, Opd.t 57, Opd.t 58, Opd.t 59])]
                  [],
                C.op none (some 61) (O.mv (Opd.t 6)),
                C.op none (some 62) (O.bin BinOp.mul (Opd.t 61) (Opd.c (AV.int IntKind.i64 2))),
                C.op none (some 6) (O.mv (Opd.t 62))]]]]
def r33 : List RV := []
theorem c33_ok : cC Try.prog Try.f33.ntmps (Try.f33.body.getD .skip) = some c33 := by kernel_rfl

def c34 : List C :=
  [C.op none (some 2) (O.mv (Opd.c (AV.bool false))), C.op none (some 3) (O.mv (Opd.t 0)),
    C.op none (some 4) (O.mv (Opd.t 0)), C.op none (some 5) (O.bin BinOp.neq (Opd.t 3) (Opd.t 4)),
    C.op none (some 2) (O.mv (Opd.t 5)), C.ret]
def r34 : List RV := [RV.t 2]
theorem c34_ok : cC Try.prog Try.f34.ntmps (Try.f34.body.getD .skip) = some c34 := by kernel_rfl

def c35 : List C :=
  [C.op none (some 4) (O.mv (Opd.c (AV.int IntKind.i64 0))), C.op none (some 6) (O.mv (Opd.t 0)),
    C.op none (some 7) (O.len false (Opd.t 6)), C.op none (some 8) (O.mv (Opd.c (AV.int IntKind.i64 0))),
    C.blk 0
      [C.loop
          [C.op none (some 9) (O.bin BinOp.lss (Opd.t 8) (Opd.t 7)), C.cond (Opd.t 9) [] [C.exit 0],
            C.blk 1
              [C.op none (some 10) (O.mv (Opd.t 8)), C.op none (some 5) (O.mv (Opd.t 10)),
                C.op none (some 11) (O.mv (Opd.t 1)), C.op none (some 12) (O.mv (Opd.t 0)),
                C.op none (some 13) (O.mv (Opd.t 5)), C.op none (some 14) (O.iad 1 (Opd.t 12) (Opd.t 13)),
                C.op none (some 15) (O.ld (CK.int IntKind.u32) (Opd.t 14)),
                C.op none (some 16) (O.bin BinOp.eql (Opd.t 11) (Opd.t 15)),
                C.cond (Opd.t 16) [C.op none (some 17) (O.mv (Opd.t 5)), C.op none (some 4) (O.mv (Opd.t 17)), C.ret]
                  []],
            C.op none (some 18) (O.bin BinOp.add (Opd.t 8) (Opd.c (AV.int IntKind.i64 1))),
            C.op none (some 8) (O.mv (Opd.t 18))]],
    C.op none (some 4) (O.mv (Opd.c (AV.int IntKind.i64 (-1)))), C.ret]
def r35 : List RV := [RV.t 4]
theorem c35_ok : cC Try.prog Try.f35.ntmps (Try.f35.body.getD .skip) = some c35 := by kernel_rfl

def d36_0 : List It :=
  [(none, some 18, O.mv (Opd.t 9), []), (none, some 19, O.mv (Opd.t 1), []),
                            (none, some 20, O.bin BinOp.gtr (Opd.t 18) (Opd.t 19), [0, 1]),
                            (none, some 21, O.mv (Opd.t 20), [2]), (some (21, true), some 22, O.mv (Opd.t 3), [3]),
                            (some (21, true), some 23, O.mv (Opd.t 0), [3]),
                            (some (21, true), some 24, O.mv (Opd.t 9), [3]),
                            (some (21, true), some 25, O.iad 4 (Opd.t 23) (Opd.t 24), [5, 6, 3]),
                            (some (21, true), some 26,
                              O.ldn [CK.int IntKind.u32, CK.int IntKind.i64, CK.int IntKind.i64, CK.int IntKind.i64]
                                (Opd.t 25),
                              [7, 3]),
                            (some (21, true), some 27, O.mv (Opd.t 0), [3]),
                            (some (21, true), some 28, O.mv (Opd.t 9), [3]),
                            (some (21, true), some 29,
                              O.bin BinOp.sub (Opd.t 28) (Opd.c (AV.int IntKind.i64 1)), [10, 3]),
                            (some (21, true), some 30, O.iad 4 (Opd.t 27) (Opd.t 29), [9, 11, 3]),
                            (some (21, true), some 31,
                              O.ldn [CK.int IntKind.u32, CK.int IntKind.i64, CK.int IntKind.i64, CK.int IntKind.i64]
                                (Opd.t 30),
                              [12, 3]),
                            (some (21, true), some 32, O.callv (Opd.t 22) [Opd.t 26, Opd.t 31], [4, 8, 13, 3, 3]),
                            (some (21, true), some 33,
                              O.bin BinOp.lss (Opd.t 32) (Opd.c (AV.int IntKind.i64 0)), [14, 3]),
                            (none, some 34, O.pick (Opd.t 21) (Opd.t 33) (Opd.c (AV.bool false)), [3, 15])]
def o36_0 : List (Nat × Bool) := [(0, false), (1, false), (2, false), (3, false), (4, false), (5, false), (6, false), (7, false), (8, false), (9, false), (10, false), (11, false), (12, false), (13, false), (14, true), (15, false), (16, false)]
def l36_0 : List (Nat × Bool × It) :=
  [(0, false, (none, some 18, O.mv (Opd.t 9), [])),
   (1, false, (none, some 19, O.mv (Opd.t 1), [])),
   (2, false, (none, some 20, O.bin BinOp.gtr (Opd.t 18) (Opd.t 19), [0, 1])),
   (3, false, (none, some 21, O.mv (Opd.t 20), [2])),
   (4, false, (some (21, true), some 22, O.mv (Opd.t 3), [3])),
   (5, false, (some (21, true), some 23, O.mv (Opd.t 0), [3])),
   (6, false, (some (21, true), some 24, O.mv (Opd.t 9), [3])),
   (7, false, (some (21, true), some 25, O.iad 4 (Opd.t 23) (Opd.t 24), [5, 6, 3])),
   (8, false, (some (21, true), some 26,
                              O.ldn [CK.int IntKind.u32, CK.int IntKind.i64, CK.int IntKind.i64, CK.int IntKind.i64]
                                (Opd.t 25),
                              [7, 3])),
   (9, false, (some (21, true), some 27, O.mv (Opd.t 0), [3])),
   (10, false, (some (21, true), some 28, O.mv (Opd.t 9), [3])),
   (11, false, (some (21, true), some 29,
                              O.bin BinOp.sub (Opd.t 28) (Opd.c (AV.int IntKind.i64 1)), [10, 3])),
   (12, false, (some (21, true), some 30, O.iad 4 (Opd.t 27) (Opd.t 29), [9, 11, 3])),
   (13, false, (some (21, true), some 31,
                              O.ldn [CK.int IntKind.u32, CK.int IntKind.i64, CK.int IntKind.i64, CK.int IntKind.i64]
                                (Opd.t 30),
                              [12, 3])),
   (14, true, (some (21, true), some 32, O.callv (Opd.t 22) [Opd.t 26, Opd.t 31], [4, 8, 13, 3, 3])),
   (15, false, (some (21, true), some 33,
                              O.bin BinOp.lss (Opd.t 32) (Opd.c (AV.int IntKind.i64 0)), [14, 3])),
   (16, false, (none, some 34, O.pick (Opd.t 21) (Opd.t 33) (Opd.c (AV.bool false)), [3, 15]))]
theorem l36_0_ok : okDraw d36_0 o36_0 = true ∧ mkL d36_0 o36_0 = some l36_0 := ⟨by kernel_rfl, by kernel_rfl⟩

def d36_1 : List It :=
  [(none, some 37, O.mv (Opd.t 0), []), (none, some 38, O.mv (Opd.t 9), []),
                                (none, some 39, O.mv (Opd.t 0), []), (none, some 40, O.mv (Opd.t 9), []),
                                (none, some 41, O.bin BinOp.sub (Opd.t 40) (Opd.c (AV.int IntKind.i64 1)),
                                  [3]),
                                (none, some 42, O.mv (Opd.t 0), []), (none, some 43, O.mv (Opd.t 9), []),
                                (none, some 44, O.bin BinOp.sub (Opd.t 43) (Opd.c (AV.int IntKind.i64 1)),
                                  [6]),
                                (none, some 45, O.iad 4 (Opd.t 42) (Opd.t 44), [5, 7]),
                                (none, some 46,
                                  O.ldn [CK.int IntKind.u32, CK.int IntKind.i64, CK.int IntKind.i64, CK.int IntKind.i64]
                                    (Opd.t 45),
                                  [8]),
                                (none, some 47, O.mv (Opd.t 0), []), (none, some 48, O.mv (Opd.t 9), []),
                                (none, some 49, O.iad 4 (Opd.t 47) (Opd.t 48), [10, 11]),
                                (none, some 50,
                                  O.ldn [CK.int IntKind.u32, CK.int IntKind.i64, CK.int IntKind.i64, CK.int IntKind.i64]
                                    (Opd.t 49),
                                  [12]),
                                (none, some 51, O.iad 4 (Opd.t 37) (Opd.t 38), [0, 1, 0, 1, 5, 6, 7, 8, 9, 13]),
                                (none, none, O.st 4 (Opd.t 51) (Opd.t 46), [14, 9, 0, 1, 5, 6, 7, 8, 9, 13]),
                                (none, some 52, O.iad 4 (Opd.t 39) (Opd.t 41),
                                  [2, 4, 0, 1, 2, 3, 4, 5, 6, 7, 8, 9, 10, 11, 12, 13, 14, 15]),
                                (none, none, O.st 4 (Opd.t 52) (Opd.t 50),
                                  [16, 13, 15, 0, 1, 2, 3, 4, 5, 6, 7, 8, 9, 10, 11, 12, 13, 14, 15])]
def o36_1 : List (Nat × Bool) := [(0, false), (1, false), (2, false), (3, false), (4, false), (5, false), (6, false), (7, false), (8, false), (9, false), (10, false), (11, false), (12, false), (13, false), (14, false), (15, true), (16, false), (17, true)]
def l36_1 : List (Nat × Bool × It) :=
  [(0, false, (none, some 37, O.mv (Opd.t 0), [])),
   (1, false, (none, some 38, O.mv (Opd.t 9), [])),
   (2, false, (none, some 39, O.mv (Opd.t 0), [])),
   (3, false, (none, some 40, O.mv (Opd.t 9), [])),
   (4, false, (none, some 41, O.bin BinOp.sub (Opd.t 40) (Opd.c (AV.int IntKind.i64 1)),
                                  [3])),
   (5, false, (none, some 42, O.mv (Opd.t 0), [])),
   (6, false, (none, some 43, O.mv (Opd.t 9), [])),
   (7, false, (none, some 44, O.bin BinOp.sub (Opd.t 43) (Opd.c (AV.int IntKind.i64 1)),
                                  [6])),
   (8, false, (none, some 45, O.iad 4 (Opd.t 42) (Opd.t 44), [5, 7])),
   (9, false, (none, some 46,
                                  O.ldn [CK.int IntKind.u32, CK.int IntKind.i64, CK.int IntKind.i64, CK.int IntKind.i64]
                                    (Opd.t 45),
                                  [8])),
   (10, false, (none, some 47, O.mv (Opd.t 0), [])),
   (11, false, (none, some 48, O.mv (Opd.t 9), [])),
   (12, false, (none, some 49, O.iad 4 (Opd.t 47) (Opd.t 48), [10, 11])),
   (13, false, (none, some 50,
                                  O.ldn [CK.int IntKind.u32, CK.int IntKind.i64, CK.int IntKind.i64, CK.int IntKind.i64]
                                    (Opd.t 49),
                                  [12])),
   (14, false, (none, some 51, O.iad 4 (Opd.t 37) (Opd.t 38), [0, 1, 0, 1, 5, 6, 7, 8, 9, 13])),
   (15, true, (none, none, O.st 4 (Opd.t 51) (Opd.t 46), [14, 9, 0, 1, 5, 6, 7, 8, 9, 13])),
   (16, false, (none, some 52, O.iad 4 (Opd.t 39) (Opd.t 41),
                                  [2, 4, 0, 1, 2, 3, 4, 5, 6, 7, 8, 9, 10, 11, 12, 13, 14, 15])),
   (17, true, (none, none, O.st 4 (Opd.t 52) (Opd.t 50),
                                  [16, 13, 15, 0, 1, 2, 3, 4, 5, 6, 7, 8, 9, 10, 11, 12, 13, 14, 15]))]
theorem l36_1_ok : okDraw d36_1 o36_1 = true ∧ mkL d36_1 o36_1 = some l36_1 := ⟨by kernel_rfl, by kernel_rfl⟩

def c36 : List C :=
  [C.op none (some 10) (O.mv (Opd.t 1)),
    C.op none (some 11) (O.bin BinOp.add (Opd.t 10) (Opd.c (AV.int IntKind.i64 1))),
    C.op none (some 8) (O.mv (Opd.t 11)),
    C.blk 0
      [C.loop
          [C.op none (some 12) (O.mv (Opd.t 8)), C.op none (some 13) (O.mv (Opd.t 2)),
            C.op none (some 14) (O.bin BinOp.lss (Opd.t 12) (Opd.t 13)), C.cond (Opd.t 14) [] [C.exit 0],
            C.blk 1
              [C.op none (some 17) (O.mv (Opd.t 8)), C.op none (some 9) (O.mv (Opd.t 17)),
                C.blk 2
                  [C.loop
                      [C.draw d36_0,
                        C.cond (Opd.t 34) [] [C.exit 2],
                        C.blk 3
                          [C.draw d36_1],
                        C.op none (some 35) (O.mv (Opd.t 9)),
                        C.op none (some 36) (O.bin BinOp.sub (Opd.t 35) (Opd.c (AV.int IntKind.i64 1))),
                        C.op none (some 9) (O.mv (Opd.t 36))]]],
            C.op none (some 15) (O.mv (Opd.t 8)),
            C.op none (some 16) (O.bin BinOp.add (Opd.t 15) (Opd.c (AV.int IntKind.i64 1))),
            C.op none (some 8) (O.mv (Opd.t 16))]]]
def r36 : List RV := []
theorem c36_ok : cC Try.prog Try.f36.ntmps (Try.f36.body.getD .skip) = some c36 := by kernel_rfl

def d37_0 : List It :=
  [(none, some 40, O.mv (Opd.t 4), []), (none, some 41, O.mv (Opd.t 0), []),
                        (none, some 42, O.mv (Opd.t 12), []), (none, some 43, O.iad 4 (Opd.t 41) (Opd.t 42), [1, 2]),
                        (none, some 44,
                          O.ldn [CK.int IntKind.u32, CK.int IntKind.i64, CK.int IntKind.i64, CK.int IntKind.i64]
                            (Opd.t 43),
                          [3]),
                        (none, some 45, O.mv (Opd.t 0), []), (none, some 46, O.mv (Opd.t 1), []),
                        (none, some 47, O.iad 4 (Opd.t 45) (Opd.t 46), [5, 6]),
                        (none, some 48,
                          O.ldn [CK.int IntKind.u32, CK.int IntKind.i64, CK.int IntKind.i64, CK.int IntKind.i64]
                            (Opd.t 47),
                          [7]),
                        (none, some 49, O.callv (Opd.t 40) [Opd.t 44, Opd.t 48], [0, 4, 8]),
                        (none, some 50, O.bin BinOp.lss (Opd.t 49) (Opd.c (AV.int IntKind.i64 0)), [9])]
def o37_0 : List (Nat × Bool) := [(0, false), (1, false), (2, false), (3, false), (4, false), (5, false), (6, false), (7, false), (8, false), (9, true), (10, false)]
def l37_0 : List (Nat × Bool × It) :=
  [(0, false, (none, some 40, O.mv (Opd.t 4), [])),
   (1, false, (none, some 41, O.mv (Opd.t 0), [])),
   (2, false, (none, some 42, O.mv (Opd.t 12), [])),
   (3, false, (none, some 43, O.iad 4 (Opd.t 41) (Opd.t 42), [1, 2])),
   (4, false, (none, some 44,
                          O.ldn [CK.int IntKind.u32, CK.int IntKind.i64, CK.int IntKind.i64, CK.int IntKind.i64]
                            (Opd.t 43),
                          [3])),
   (5, false, (none, some 45, O.mv (Opd.t 0), [])),
   (6, false, (none, some 46, O.mv (Opd.t 1), [])),
   (7, false, (none, some 47, O.iad 4 (Opd.t 45) (Opd.t 46), [5, 6])),
   (8, false, (none, some 48,
                          O.ldn [CK.int IntKind.u32, CK.int IntKind.i64, CK.int IntKind.i64, CK.int IntKind.i64]
                            (Opd.t 47),
                          [7])),
   (9, true, (none, some 49, O.callv (Opd.t 40) [Opd.t 44, Opd.t 48], [0, 4, 8])),
   (10, false, (none, some 50, O.bin BinOp.lss (Opd.t 49) (Opd.c (AV.int IntKind.i64 0)), [9]))]
theorem l37_0_ok : okDraw d37_0 o37_0 = true ∧ mkL d37_0 o37_0 = some l37_0 := ⟨by kernel_rfl, by kernel_rfl⟩

def d37_1 : List It :=
  [(none, some 61, O.mv (Opd.t 0), []), (none, some 62, O.mv (Opd.t 13), []),
                        (none, some 63, O.mv (Opd.t 0), []), (none, some 64, O.mv (Opd.t 13), []),
                        (none, some 65, O.bin BinOp.add (Opd.t 64) (Opd.c (AV.int IntKind.i64 1)), [3]),
                        (none, some 66, O.mv (Opd.t 0), []), (none, some 67, O.mv (Opd.t 13), []),
                        (none, some 68, O.bin BinOp.add (Opd.t 67) (Opd.c (AV.int IntKind.i64 1)), [6]),
                        (none, some 69, O.iad 4 (Opd.t 66) (Opd.t 68), [5, 7]),
                        (none, some 70,
                          O.ldn [CK.int IntKind.u32, CK.int IntKind.i64, CK.int IntKind.i64, CK.int IntKind.i64]
                            (Opd.t 69),
                          [8]),
                        (none, some 71, O.mv (Opd.t 0), []), (none, some 72, O.mv (Opd.t 13), []),
                        (none, some 73, O.iad 4 (Opd.t 71) (Opd.t 72), [10, 11]),
                        (none, some 74,
                          O.ldn [CK.int IntKind.u32, CK.int IntKind.i64, CK.int IntKind.i64, CK.int IntKind.i64]
                            (Opd.t 73),
                          [12]),
                        (none, some 75, O.iad 4 (Opd.t 61) (Opd.t 62), [0, 1, 0, 1, 5, 6, 7, 8, 9, 13]),
                        (none, none, O.st 4 (Opd.t 75) (Opd.t 70), [14, 9, 0, 1, 5, 6, 7, 8, 9, 13]),
                        (none, some 76, O.iad 4 (Opd.t 63) (Opd.t 65),
                          [2, 4, 0, 1, 2, 3, 4, 5, 6, 7, 8, 9, 10, 11, 12, 13, 14, 15]),
                        (none, none, O.st 4 (Opd.t 76) (Opd.t 74),
                          [16, 13, 15, 0, 1, 2, 3, 4, 5, 6, 7, 8, 9, 10, 11, 12, 13, 14, 15])]
def o37_1 : List (Nat × Bool) := [(0, false), (1, false), (2, false), (3, false), (4, false), (5, false), (6, false), (7, false), (8, false), (9, false), (10, false), (11, false), (12, false), (13, false), (14, false), (15, true), (16, false), (17, true)]
def l37_1 : List (Nat × Bool × It) :=
  [(0, false, (none, some 61, O.mv (Opd.t 0), [])),
   (1, false, (none, some 62, O.mv (Opd.t 13), [])),
   (2, false, (none, some 63, O.mv (Opd.t 0), [])),
   (3, false, (none, some 64, O.mv (Opd.t 13), [])),
   (4, false, (none, some 65, O.bin BinOp.add (Opd.t 64) (Opd.c (AV.int IntKind.i64 1)), [3])),
   (5, false, (none, some 66, O.mv (Opd.t 0), [])),
   (6, false, (none, some 67, O.mv (Opd.t 13), [])),
   (7, false, (none, some 68, O.bin BinOp.add (Opd.t 67) (Opd.c (AV.int IntKind.i64 1)), [6])),
   (8, false, (none, some 69, O.iad 4 (Opd.t 66) (Opd.t 68), [5, 7])),
   (9, false, (none, some 70,
                          O.ldn [CK.int IntKind.u32, CK.int IntKind.i64, CK.int IntKind.i64, CK.int IntKind.i64]
                            (Opd.t 69),
                          [8])),
   (10, false, (none, some 71, O.mv (Opd.t 0), [])),
   (11, false, (none, some 72, O.mv (Opd.t 13), [])),
   (12, false, (none, some 73, O.iad 4 (Opd.t 71) (Opd.t 72), [10, 11])),
   (13, false, (none, some 74,
                          O.ldn [CK.int IntKind.u32, CK.int IntKind.i64, CK.int IntKind.i64, CK.int IntKind.i64]
                            (Opd.t 73),
                          [12])),
   (14, false, (none, some 75, O.iad 4 (Opd.t 61) (Opd.t 62), [0, 1, 0, 1, 5, 6, 7, 8, 9, 13])),
   (15, true, (none, none, O.st 4 (Opd.t 75) (Opd.t 70), [14, 9, 0, 1, 5, 6, 7, 8, 9, 13])),
   (16, false, (none, some 76, O.iad 4 (Opd.t 63) (Opd.t 65),
                          [2, 4, 0, 1, 2, 3, 4, 5, 6, 7, 8, 9, 10, 11, 12, 13, 14, 15])),
   (17, true, (none, none, O.st 4 (Opd.t 76) (Opd.t 74),
                          [16, 13, 15, 0, 1, 2, 3, 4, 5, 6, 7, 8, 9, 10, 11, 12, 13, 14, 15]))]
theorem l37_1_ok : okDraw d37_1 o37_1 = true ∧ mkL d37_1 o37_1 = some l37_1 := ⟨by kernel_rfl, by kernel_rfl⟩

def d37_2 : List It :=
  [(none, some 92, O.mv (Opd.t 4), []), (none, some 93, O.mv (Opd.t 0), []),
                        (none, some 94, O.mv (Opd.t 2), []), (none, some 95, O.iad 4 (Opd.t 93) (Opd.t 94), [1, 2]),
                        (none, some 96,
                          O.ldn [CK.int IntKind.u32, CK.int IntKind.i64, CK.int IntKind.i64, CK.int IntKind.i64]
                            (Opd.t 95),
                          [3]),
                        (none, some 97, O.mv (Opd.t 0), []), (none, some 98, O.mv (Opd.t 16), []),
                        (none, some 99, O.iad 4 (Opd.t 97) (Opd.t 98), [5, 6]),
                        (none, some 100,
                          O.ldn [CK.int IntKind.u32, CK.int IntKind.i64, CK.int IntKind.i64, CK.int IntKind.i64]
                            (Opd.t 99),
                          [7]),
                        (none, some 101, O.callv (Opd.t 92) [Opd.t 96, Opd.t 100], [0, 4, 8]),
                        (none, some 102, O.bin BinOp.lss (Opd.t 101) (Opd.c (AV.int IntKind.i64 0)), [9]),
                        (none, some 103, O.un UnOp.not (Opd.t 102), [10])]
def o37_2 : List (Nat × Bool) := [(0, false), (1, false), (2, false), (3, false), (4, false), (5, false), (6, false), (7, false), (8, false), (9, true), (10, false), (11, false)]
def l37_2 : List (Nat × Bool × It) :=
  [(0, false, (none, some 92, O.mv (Opd.t 4), [])),
   (1, false, (none, some 93, O.mv (Opd.t 0), [])),
   (2, false, (none, some 94, O.mv (Opd.t 2), [])),
   (3, false, (none, some 95, O.iad 4 (Opd.t 93) (Opd.t 94), [1, 2])),
   (4, false, (none, some 96,
                          O.ldn [CK.int IntKind.u32, CK.int IntKind.i64, CK.int IntKind.i64, CK.int IntKind.i64]
                            (Opd.t 95),
                          [3])),
   (5, false, (none, some 97, O.mv (Opd.t 0), [])),
   (6, false, (none, some 98, O.mv (Opd.t 16), [])),
   (7, false, (none, some 99, O.iad 4 (Opd.t 97) (Opd.t 98), [5, 6])),
   (8, false, (none, some 100,
                          O.ldn [CK.int IntKind.u32, CK.int IntKind.i64, CK.int IntKind.i64, CK.int IntKind.i64]
                            (Opd.t 99),
                          [7])),
   (9, true, (none, some 101, O.callv (Opd.t 92) [Opd.t 96, Opd.t 100], [0, 4, 8])),
   (10, false, (none, some 102, O.bin BinOp.lss (Opd.t 101) (Opd.c (AV.int IntKind.i64 0)), [9])),
   (11, false, (none, some 103, O.un UnOp.not (Opd.t 102), [10]))]
theorem l37_2_ok : okDraw d37_2 o37_2 = true ∧ mkL d37_2 o37_2 = some l37_2 := ⟨by kernel_rfl, by kernel_rfl⟩

def d37_3 : List It :=
  [(none, some 113, O.mv (Opd.t 0), []), (none, some 114, O.mv (Opd.t 17), []),
                        (none, some 115, O.mv (Opd.t 0), []), (none, some 116, O.mv (Opd.t 17), []),
                        (none, some 117, O.bin BinOp.sub (Opd.t 116) (Opd.c (AV.int IntKind.i64 1)), [3]),
                        (none, some 118, O.mv (Opd.t 0), []), (none, some 119, O.mv (Opd.t 17), []),
                        (none, some 120, O.bin BinOp.sub (Opd.t 119) (Opd.c (AV.int IntKind.i64 1)), [6]),
                        (none, some 121, O.iad 4 (Opd.t 118) (Opd.t 120), [5, 7]),
                        (none, some 122,
                          O.ldn [CK.int IntKind.u32, CK.int IntKind.i64, CK.int IntKind.i64, CK.int IntKind.i64]
                            (Opd.t 121),
                          [8]),
                        (none, some 123, O.mv (Opd.t 0), []), (none, some 124, O.mv (Opd.t 17), []),
                        (none, some 125, O.iad 4 (Opd.t 123) (Opd.t 124), [10, 11]),
                        (none, some 126,
                          O.ldn [CK.int IntKind.u32, CK.int IntKind.i64, CK.int IntKind.i64, CK.int IntKind.i64]
                            (Opd.t 125),
                          [12]),
                        (none, some 127, O.iad 4 (Opd.t 113) (Opd.t 114), [0, 1, 0, 1, 5, 6, 7, 8, 9, 13]),
                        (none, none, O.st 4 (Opd.t 127) (Opd.t 122), [14, 9, 0, 1, 5, 6, 7, 8, 9, 13]),
                        (none, some 128, O.iad 4 (Opd.t 115) (Opd.t 117),
                          [2, 4, 0, 1, 2, 3, 4, 5, 6, 7, 8, 9, 10, 11, 12, 13, 14, 15]),
                        (none, none, O.st 4 (Opd.t 128) (Opd.t 126),
                          [16, 13, 15, 0, 1, 2, 3, 4, 5, 6, 7, 8, 9, 10, 11, 12, 13, 14, 15])]
def o37_3 : List (Nat × Bool) := [(0, false), (1, false), (2, false), (3, false), (4, false), (5, false), (6, false), (7, false), (8, false), (9, false), (10, false), (11, false), (12, false), (13, false), (14, false), (15, true), (16, false), (17, true)]
def l37_3 : List (Nat × Bool × It) :=
  [(0, false, (none, some 113, O.mv (Opd.t 0), [])),
   (1, false, (none, some 114, O.mv (Opd.t 17), [])),
   (2, false, (none, some 115, O.mv (Opd.t 0), [])),
   (3, false, (none, some 116, O.mv (Opd.t 17), [])),
   (4, false, (none, some 117, O.bin BinOp.sub (Opd.t 116) (Opd.c (AV.int IntKind.i64 1)), [3])),
   (5, false, (none, some 118, O.mv (Opd.t 0), [])),
   (6, false, (none, some 119, O.mv (Opd.t 17), [])),
   (7, false, (none, some 120, O.bin BinOp.sub (Opd.t 119) (Opd.c (AV.int IntKind.i64 1)), [6])),
   (8, false, (none, some 121, O.iad 4 (Opd.t 118) (Opd.t 120), [5, 7])),
   (9, false, (none, some 122,
                          O.ldn [CK.int IntKind.u32, CK.int IntKind.i64, CK.int IntKind.i64, CK.int IntKind.i64]
                            (Opd.t 121),
                          [8])),
   (10, false, (none, some 123, O.mv (Opd.t 0), [])),
   (11, false, (none, some 124, O.mv (Opd.t 17), [])),
   (12, false, (none, some 125, O.iad 4 (Opd.t 123) (Opd.t 124), [10, 11])),
   (13, false, (none, some 126,
                          O.ldn [CK.int IntKind.u32, CK.int IntKind.i64, CK.int IntKind.i64, CK.int IntKind.i64]
                            (Opd.t 125),
                          [12])),
   (14, false, (none, some 127, O.iad 4 (Opd.t 113) (Opd.t 114), [0, 1, 0, 1, 5, 6, 7, 8, 9, 13])),
   (15, true, (none, none, O.st 4 (Opd.t 127) (Opd.t 122), [14, 9, 0, 1, 5, 6, 7, 8, 9, 13])),
   (16, false, (none, some 128, O.iad 4 (Opd.t 115) (Opd.t 117),
                          [2, 4, 0, 1, 2, 3, 4, 5, 6, 7, 8, 9, 10, 11, 12, 13, 14, 15])),
   (17, true, (none, none, O.st 4 (Opd.t 128) (Opd.t 126),
                          [16, 13, 15, 0, 1, 2, 3, 4, 5, 6, 7, 8, 9, 10, 11, 12, 13, 14, 15]))]
theorem l37_3_ok : okDraw d37_3 o37_3 = true ∧ mkL d37_3 o37_3 = some l37_3 := ⟨by kernel_rfl, by kernel_rfl⟩

def d37_4 : List It :=
  [(none, some 158, O.mv (Opd.t 4), []), (none, some 159, O.mv (Opd.t 0), []),
                    (none, some 160, O.mv (Opd.t 22), []), (none, some 161, O.mv (Opd.t 23), []),
                    (none, some 162, O.bin BinOp.sub (Opd.t 160) (Opd.t 161), [2, 3]),
                    (none, some 163, O.iad 4 (Opd.t 159) (Opd.t 162), [1, 4]),
                    (none, some 164,
                      O.ldn [CK.int IntKind.u32, CK.int IntKind.i64, CK.int IntKind.i64, CK.int IntKind.i64]
                        (Opd.t 163),
                      [5]),
                    (none, some 165, O.mv (Opd.t 0), []), (none, some 166, O.mv (Opd.t 23), []),
                    (none, some 167, O.iad 4 (Opd.t 165) (Opd.t 166), [7, 8]),
                    (none, some 168,
                      O.ldn [CK.int IntKind.u32, CK.int IntKind.i64, CK.int IntKind.i64, CK.int IntKind.i64]
                        (Opd.t 167),
                      [9]),
                    (none, some 169, O.callv (Opd.t 158) [Opd.t 164, Opd.t 168], [0, 6, 10]),
                    (none, some 170, O.bin BinOp.lss (Opd.t 169) (Opd.c (AV.int IntKind.i64 0)), [11]),
                    (none, some 171, O.un UnOp.not (Opd.t 170), [12])]
def o37_4 : List (Nat × Bool) := [(0, false), (1, false), (2, false), (3, false), (4, false), (5, false), (6, false), (7, false), (8, false), (9, false), (10, false), (11, true), (12, false), (13, false)]
def l37_4 : List (Nat × Bool × It) :=
  [(0, false, (none, some 158, O.mv (Opd.t 4), [])),
   (1, false, (none, some 159, O.mv (Opd.t 0), [])),
   (2, false, (none, some 160, O.mv (Opd.t 22), [])),
   (3, false, (none, some 161, O.mv (Opd.t 23), [])),
   (4, false, (none, some 162, O.bin BinOp.sub (Opd.t 160) (Opd.t 161), [2, 3])),
   (5, false, (none, some 163, O.iad 4 (Opd.t 159) (Opd.t 162), [1, 4])),
   (6, false, (none, some 164,
                      O.ldn [CK.int IntKind.u32, CK.int IntKind.i64, CK.int IntKind.i64, CK.int IntKind.i64]
                        (Opd.t 163),
                      [5])),
   (7, false, (none, some 165, O.mv (Opd.t 0), [])),
   (8, false, (none, some 166, O.mv (Opd.t 23), [])),
   (9, false, (none, some 167, O.iad 4 (Opd.t 165) (Opd.t 166), [7, 8])),
   (10, false, (none, some 168,
                      O.ldn [CK.int IntKind.u32, CK.int IntKind.i64, CK.int IntKind.i64, CK.int IntKind.i64]
                        (Opd.t 167),
                      [9])),
   (11, true, (none, some 169, O.callv (Opd.t 158) [Opd.t 164, Opd.t 168], [0, 6, 10])),
   (12, false, (none, some 170, O.bin BinOp.lss (Opd.t 169) (Opd.c (AV.int IntKind.i64 0)), [11])),
   (13, false, (none, some 171, O.un UnOp.not (Opd.t 170), [12]))]
theorem l37_4_ok : okDraw d37_4 o37_4 = true ∧ mkL d37_4 o37_4 = some l37_4 := ⟨by kernel_rfl, by kernel_rfl⟩

def c37 : List C :=
  [C.op none (some 25) (O.mv (Opd.t 2)), C.op none (some 26) (O.mv (Opd.t 1)),
    C.op none (some 27) (O.bin BinOp.sub (Opd.t 25) (Opd.t 26)),
    C.op none (some 28) (O.bin BinOp.eql (Opd.t 27) (Opd.c (AV.int IntKind.i64 1))),
    C.cond (Opd.t 28)
      [C.op none (some 29) (O.mv (Opd.t 2)), C.op none (some 10) (O.mv (Opd.t 29)),
        C.op none (some 30) (O.mv (Opd.t 3)), C.op none (some 11) (O.mv (Opd.t 30)),
        C.blk 0
          [C.loop
              [C.op none (some 31) (O.mv (Opd.t 10)), C.op none (some 32) (O.mv (Opd.t 11)),
                C.op none (some 33) (O.bin BinOp.lss (Opd.t 31) (Opd.t 32)), C.cond (Opd.t 33) [] [C.exit 0],
                C.blk 1
                  [C.op none (some 34) (O.mv (Opd.t 10)), C.op none (some 35) (O.mv (Opd.t 11)),
                    C.op none (some 36) (O.bin BinOp.add (Opd.t 34) (Opd.t 35)),
                    C.op none (some 37) (O.cvi IntKind.u64 (Opd.t 36)),
                    C.op none (some 38) (O.bin BinOp.shr (Opd.t 37) (Opd.c (AV.int IntKind.u64 1))),
                    C.op none (some 39) (O.cvi IntKind.i64 (Opd.t 38)), C.op none (some 12) (O.mv (Opd.t 39)),
                    C.draw d37_0,
                    C.cond (Opd.t 50)
                      [C.op none (some 51) (O.mv (Opd.t 12)),
                        C.op none (some 52) (O.bin BinOp.add (Opd.t 51) (Opd.c (AV.int IntKind.i64 1))),
                        C.op none (some 10) (O.mv (Opd.t 52))]
                      [C.op none (some 53) (O.mv (Opd.t 12)), C.op none (some 11) (O.mv (Opd.t 53))]]]],
        C.op none (some 54) (O.mv (Opd.t 1)), C.op none (some 13) (O.mv (Opd.t 54)),
        C.blk 2
          [C.loop
              [C.op none (some 55) (O.mv (Opd.t 13)), C.op none (some 56) (O.mv (Opd.t 10)),
                C.op none (some 57) (O.bin BinOp.sub (Opd.t 56) (Opd.c (AV.int IntKind.i64 1))),
                C.op none (some 58) (O.bin BinOp.lss (Opd.t 55) (Opd.t 57)), C.cond (Opd.t 58) [] [C.exit 2],
                C.blk 3
                  [C.draw d37_1],
                C.op none (some 59) (O.mv (Opd.t 13)),
                C.op none (some 60) (O.bin BinOp.add (Opd.t 59) (Opd.c (AV.int IntKind.i64 1))),
                C.op none (some 13) (O.mv (Opd.t 60))]],
        C.ret]
      [],
    C.op none (some 77) (O.mv (Opd.t 3)), C.op none (some 78) (O.mv (Opd.t 2)),
    C.op none (some 79) (O.bin BinOp.sub (Opd.t 77) (Opd.t 78)),
    C.op none (some 80) (O.bin BinOp.eql (Opd.t 79) (Opd.c (AV.int IntKind.i64 1))),
    C.cond (Opd.t 80)
      [C.op none (some 81) (O.mv (Opd.t 1)), C.op none (some 14) (O.mv (Opd.t 81)),
        C.op none (some 82) (O.mv (Opd.t 2)), C.op none (some 15) (O.mv (Opd.t 82)),
        C.blk 4
          [C.loop
              [C.op none (some 83) (O.mv (Opd.t 14)), C.op none (some 84) (O.mv (Opd.t 15)),
                C.op none (some 85) (O.bin BinOp.lss (Opd.t 83) (Opd.t 84)), C.cond (Opd.t 85) [] [C.exit 4],
                C.blk 5
                  [C.op none (some 86) (O.mv (Opd.t 14)), C.op none (some 87) (O.mv (Opd.t 15)),
                    C.op none (some 88) (O.bin BinOp.add (Opd.t 86) (Opd.t 87)),
                    C.op none (some 89) (O.cvi IntKind.u64 (Opd.t 88)),
                    C.op none (some 90) (O.bin BinOp.shr (Opd.t 89) (Opd.c (AV.int IntKind.u64 1))),
                    C.op none (some 91) (O.cvi IntKind.i64 (Opd.t 90)), C.op none (some 16) (O.mv (Opd.t 91)),
                    C.draw d37_2,
                    C.cond (Opd.t 103)
                      [C.op none (some 104) (O.mv (Opd.t 16)),
                        C.op none (some 105) (O.bin BinOp.add (Opd.t 104) (Opd.c (AV.int IntKind.i64 1))),
                        C.op none (some 14) (O.mv (Opd.t 105))]
                      [C.op none (some 106) (O.mv (Opd.t 16)), C.op none (some 15) (O.mv (Opd.t 106))]]]],
        C.op none (some 107) (O.mv (Opd.t 2)), C.op none (some 17) (O.mv (Opd.t 107)),
        C.blk 6
          [C.loop
              [C.op none (some 108) (O.mv (Opd.t 17)), C.op none (some 109) (O.mv (Opd.t 14)),
                C.op none (some 110) (O.bin BinOp.gtr (Opd.t 108) (Opd.t 109)), C.cond (Opd.t 110) [] [C.exit 6],
                C.blk 7
                  [C.draw d37_3],
                C.op none (some 111) (O.mv (Opd.t 17)),
                C.op none (some 112) (O.bin BinOp.sub (Opd.t 111) (Opd.c (AV.int IntKind.i64 1))),
                C.op none (some 17) (O.mv (Opd.t 112))]],
        C.ret]
      [],
    C.op none (some 129) (O.mv (Opd.t 1)), C.op none (some 130) (O.mv (Opd.t 3)),
    C.op none (some 131) (O.bin BinOp.add (Opd.t 129) (Opd.t 130)),
    C.op none (some 132) (O.cvi IntKind.u64 (Opd.t 131)),
    C.op none (some 133) (O.bin BinOp.shr (Opd.t 132) (Opd.c (AV.int IntKind.u64 1))),
    C.op none (some 134) (O.cvi IntKind.i64 (Opd.t 133)), C.op none (some 18) (O.mv (Opd.t 134)),
    C.op none (some 135) (O.mv (Opd.t 18)), C.op none (some 136) (O.mv (Opd.t 2)),
    C.op none (some 137) (O.bin BinOp.add (Opd.t 135) (Opd.t 136)), C.op none (some 19) (O.mv (Opd.t 137)),
    C.op none (some 20) (O.mv (Opd.c (AV.int IntKind.i64 0))),
    C.op none (some 21) (O.mv (Opd.c (AV.int IntKind.i64 0))), C.op none (some 138) (O.mv (Opd.t 2)),
    C.op none (some 139) (O.mv (Opd.t 18)), C.op none (some 140) (O.bin BinOp.gtr (Opd.t 138) (Opd.t 139)),
    C.cond (Opd.t 140)
      [C.op none (some 141) (O.mv (Opd.t 19)), C.op none (some 142) (O.mv (Opd.t 3)),
        C.op none (some 143) (O.bin BinOp.sub (Opd.t 141) (Opd.t 142)), C.op none (some 20) (O.mv (Opd.t 143)),
        C.op none (some 144) (O.mv (Opd.t 18)), C.op none (some 21) (O.mv (Opd.t 144))]
      [C.op none (some 145) (O.mv (Opd.t 1)), C.op none (some 20) (O.mv (Opd.t 145)),
        C.op none (some 146) (O.mv (Opd.t 2)), C.op none (some 21) (O.mv (Opd.t 146))],
    C.op none (some 147) (O.mv (Opd.t 19)),
    C.op none (some 148) (O.bin BinOp.sub (Opd.t 147) (Opd.c (AV.int IntKind.i64 1))),
    C.op none (some 22) (O.mv (Opd.t 148)),
    C.blk 8
      [C.loop
          [C.op none (some 149) (O.mv (Opd.t 20)), C.op none (some 150) (O.mv (Opd.t 21)),
            C.op none (some 151) (O.bin BinOp.lss (Opd.t 149) (Opd.t 150)), C.cond (Opd.t 151) [] [C.exit 8],
            C.blk 9
              [C.op none (some 152) (O.mv (Opd.t 20)), C.op none (some 153) (O.mv (Opd.t 21)),
                C.op none (some 154) (O.bin BinOp.add (Opd.t 152) (Opd.t 153)),
                C.op none (some 155) (O.cvi IntKind.u64 (Opd.t 154)),
                C.op none (some 156) (O.bin BinOp.shr (Opd.t 155) (Opd.c (AV.int IntKind.u64 1))),
                C.op none (some 157) (O.cvi IntKind.i64 (Opd.t 156)), C.op none (some 23) (O.mv (Opd.t 157)),
                C.draw d37_4,
                C.cond (Opd.t 171)
                  [C.op none (some 172) (O.mv (Opd.t 23)),
                    C.op none (some 173) (O.bin BinOp.add (Opd.t 172) (Opd.c (AV.int IntKind.i64 1))),
                    C.op none (some 20) (O.mv (Opd.t 173))]
                  [C.op none (some 174) (O.mv (Opd.t 23)), C.op none (some 21) (O.mv (Opd.t 174))]]]],
    C.op none (some 175) (O.mv (Opd.t 19)), C.op none (some 176) (O.mv (Opd.t 20)),
    C.op none (some 177) (O.bin BinOp.sub (Opd.t 175) (Opd.t 176)), C.op none (some 24) (O.mv (Opd.t 177)),
    C.op none (some 178) (O.mv (Opd.t 20)), C.op none (some 179) (O.mv (Opd.t 2)),
    C.op none (some 180) (O.bin BinOp.lss (Opd.t 178) (Opd.t 179)), C.op none (some 181) (O.mv (Opd.t 180)),
    C.op (some (181, true)) (some 182) (O.mv (Opd.t 2)), C.op (some (181, true)) (some 183) (O.mv (Opd.t 24)),
    C.op (some (181, true)) (some 184) (O.bin BinOp.lss (Opd.t 182) (Opd.t 183)),
    C.op none (some 185) (O.pick (Opd.t 181) (Opd.t 184) (Opd.c (AV.bool false))),
    C.cond (Opd.t 185)
      [C.op none (some 186) (O.mv (Opd.t 0)), C.op none (some 187) (O.mv (Opd.t 20)),
        C.op none (some 188) (O.mv (Opd.t 2)), C.op none (some 189) (O.mv (Opd.t 24)),
        C.op none (some 190) (O.mv (Opd.t 4)),
        C.op none (some 191) (O.call 38 [Opd.t 186, Opd.t 187, Opd.t 188, Opd.t 189, Opd.t 190])]
      [],
    C.op none (some 192) (O.mv (Opd.t 1)), C.op none (some 193) (O.mv (Opd.t 20)),
    C.op none (some 194) (O.bin BinOp.lss (Opd.t 192) (Opd.t 193)), C.op none (some 195) (O.mv (Opd.t 194)),
    C.op (some (195, true)) (some 196) (O.mv (Opd.t 20)), C.op (some (195, true)) (some 197) (O.mv (Opd.t 18)),
    C.op (some (195, true)) (some 198) (O.bin BinOp.lss (Opd.t 196) (Opd.t 197)),
    C.op none (some 199) (O.pick (Opd.t 195) (Opd.t 198) (Opd.c (AV.bool false))),
    C.cond (Opd.t 199)
      [C.op none (some 200) (O.mv (Opd.t 0)), C.op none (some 201) (O.mv (Opd.t 1)),
        C.op none (some 202) (O.mv (Opd.t 20)), C.op none (some 203) (O.mv (Opd.t 18)),
        C.op none (some 204) (O.mv (Opd.t 4)),
        C.op none (some 205) (O.call 37 [Opd.t 200, Opd.t 201, Opd.t 202, Opd.t 203, Opd.t 204])]
      [],
    C.op none (some 206) (O.mv (Opd.t 18)), C.op none (some 207) (O.mv (Opd.t 24)),
    C.op none (some 208) (O.bin BinOp.lss (Opd.t 206) (Opd.t 207)), C.op none (some 209) (O.mv (Opd.t 208)),
    C.op (some (209, true)) (some 210) (O.mv (Opd.t 24)), C.op (some (209, true)) (some 211) (O.mv (Opd.t 3)),
    C.op (some (209, true)) (some 212) (O.bin BinOp.lss (Opd.t 210) (Opd.t 211)),
    C.op none (some 213) (O.pick (Opd.t 209) (Opd.t 212) (Opd.c (AV.bool false))),
    C.cond (Opd.t 213)
      [C.op none (some 214) (O.mv (Opd.t 0)), C.op none (some 215) (O.mv (Opd.t 18)),
        C.op none (some 216) (O.mv (Opd.t 24)), C.op none (some 217) (O.mv (Opd.t 3)),
        C.op none (some 218) (O.mv (Opd.t 4)),
        C.op none (some 219) (O.call 37 [Opd.t 214, Opd.t 215, Opd.t 216, Opd.t 217, Opd.t 218])]
      []]
def r37 : List RV := []
theorem c37_ok : cC Try.prog Try.f37.ntmps (Try.f37.body.getD .skip) = some c37 := by kernel_rfl

def c38 : List C :=
  [C.op none (some 12) (O.mv (Opd.t 2)), C.op none (some 13) (O.mv (Opd.t 1)),
    C.op none (some 14) (O.bin BinOp.sub (Opd.t 12) (Opd.t 13)), C.op none (some 10) (O.mv (Opd.t 14)),
    C.op none (some 15) (O.mv (Opd.t 3)), C.op none (some 16) (O.mv (Opd.t 2)),
    C.op none (some 17) (O.bin BinOp.sub (Opd.t 15) (Opd.t 16)), C.op none (some 11) (O.mv (Opd.t 17)),
    C.blk 0
      [C.loop
          [C.op none (some 18) (O.mv (Opd.t 10)), C.op none (some 19) (O.mv (Opd.t 11)),
            C.op none (some 20) (O.bin BinOp.neq (Opd.t 18) (Opd.t 19)), C.cond (Opd.t 20) [] [C.exit 0],
            C.blk 1
              [C.op none (some 21) (O.mv (Opd.t 10)), C.op none (some 22) (O.mv (Opd.t 11)),
                C.op none (some 23) (O.bin BinOp.gtr (Opd.t 21) (Opd.t 22)),
                C.cond (Opd.t 23)
                  [C.op none (some 24) (O.mv (Opd.t 0)), C.op none (some 25) (O.mv (Opd.t 2)),
                    C.op none (some 26) (O.mv (Opd.t 10)), C.op none (some 27) (O.bin BinOp.sub (Opd.t 25) (Opd.t 26)),
                    C.op none (some 28) (O.mv (Opd.t 2)), C.op none (some 29) (O.mv (Opd.t 11)),
                    C.op none (some 30) (O.mv (Opd.t 4)),
                    C.op none (some 31) (O.call 39 [Opd.t 24, Opd.t 27, Opd.t 28, Opd.t 29, Opd.t 30]),
                    C.op none (some 32) (O.mv (Opd.t 10)), C.op none (some 33) (O.mv (Opd.t 11)),
                    C.op none (some 34) (O.bin BinOp.sub (Opd.t 32) (Opd.t 33)), C.op none (some 10) (O.mv (Opd.t 34))]
                  [C.op none (some 35) (O.mv (Opd.t 0)), C.op none (some 36) (O.mv (Opd.t 2)),
                    C.op none (some 37) (O.mv (Opd.t 10)), C.op none (some 38) (O.bin BinOp.sub (Opd.t 36) (Opd.t 37)),
                    C.op none (some 39) (O.mv (Opd.t 2)), C.op none (some 40) (O.mv (Opd.t 11)),
                    C.op none (some 41) (O.bin BinOp.add (Opd.t 39) (Opd.t 40)), C.op none (some 42) (O.mv (Opd.t 10)),
                    C.op none (some 43) (O.bin BinOp.sub (Opd.t 41) (Opd.t 42)), C.op none (some 44) (O.mv (Opd.t 10)),
                    C.op none (some 45) (O.mv (Opd.t 4)),
                    C.op none (some 46) (O.call 39 [Opd.t 35, Opd.t 38, Opd.t 43, Opd.t 44, Opd.t 45]),
                    C.op none (some 47) (O.mv (Opd.t 11)), C.op none (some 48) (O.mv (Opd.t 10)),
                    C.op none (some 49) (O.bin BinOp.sub (Opd.t 47) (Opd.t 48)),
                    C.op none (some 11) (O.mv (Opd.t 49))]]]],
    C.op none (some 50) (O.mv (Opd.t 0)), C.op none (some 51) (O.mv (Opd.t 2)), C.op none (some 52) (O.mv (Opd.t 10)),
    C.op none (some 53) (O.bin BinOp.sub (Opd.t 51) (Opd.t 52)), C.op none (some 54) (O.mv (Opd.t 2)),
    C.op none (some 55) (O.mv (Opd.t 10)), C.op none (some 56) (O.mv (Opd.t 4)),
    C.op none (some 57) (O.call 39 [Opd.t 50, Opd.t 53, Opd.t 54, Opd.t 55, Opd.t 56])]
def r38 : List RV := []
theorem c38_ok : cC Try.prog Try.f38.ntmps (Try.f38.body.getD .skip) = some c38 := by kernel_rfl

def d39_0 : List It :=
  [(none, some 16, O.mv (Opd.t 0), []), (none, some 17, O.mv (Opd.t 1), []),
                    (none, some 18, O.mv (Opd.t 10), []),
                    (none, some 19, O.bin BinOp.add (Opd.t 17) (Opd.t 18), [1, 2]), (none, some 20, O.mv (Opd.t 0), []),
                    (none, some 21, O.mv (Opd.t 2), []), (none, some 22, O.mv (Opd.t 10), []),
                    (none, some 23, O.bin BinOp.add (Opd.t 21) (Opd.t 22), [5, 6]), (none, some 24, O.mv (Opd.t 0), []),
                    (none, some 25, O.mv (Opd.t 2), []), (none, some 26, O.mv (Opd.t 10), []),
                    (none, some 27, O.bin BinOp.add (Opd.t 25) (Opd.t 26), [9, 10]),
                    (none, some 28, O.iad 4 (Opd.t 24) (Opd.t 27), [8, 11]),
                    (none, some 29,
                      O.ldn [CK.int IntKind.u32, CK.int IntKind.i64, CK.int IntKind.i64, CK.int IntKind.i64] (Opd.t 28),
                      [12]),
                    (none, some 30, O.mv (Opd.t 0), []), (none, some 31, O.mv (Opd.t 1), []),
                    (none, some 32, O.mv (Opd.t 10), []),
                    (none, some 33, O.bin BinOp.add (Opd.t 31) (Opd.t 32), [15, 16]),
                    (none, some 34, O.iad 4 (Opd.t 30) (Opd.t 33), [14, 17]),
                    (none, some 35,
                      O.ldn [CK.int IntKind.u32, CK.int IntKind.i64, CK.int IntKind.i64, CK.int IntKind.i64] (Opd.t 34),
                      [18]),
                    (none, some 36, O.iad 4 (Opd.t 16) (Opd.t 19), [0, 3, 0, 1, 2, 3, 8, 9, 10, 11, 12, 13, 19]),
                    (none, none, O.st 4 (Opd.t 36) (Opd.t 29), [20, 13, 0, 1, 2, 3, 8, 9, 10, 11, 12, 13, 19]),
                    (none, some 37, O.iad 4 (Opd.t 20) (Opd.t 23),
                      [4, 7, 0, 1, 2, 3, 4, 5, 6, 7, 8, 9, 10, 11, 12, 13, 14, 15, 16, 17, 18, 19, 20, 21]),
                    (none, none, O.st 4 (Opd.t 37) (Opd.t 35),
                      [22, 19, 21, 0, 1, 2, 3, 4, 5, 6, 7, 8, 9, 10, 11, 12, 13, 14, 15, 16, 17, 18, 19, 20, 21])]
def o39_0 : List (Nat × Bool) := [(0, false), (1, false), (2, false), (3, false), (4, false), (5, false), (6, false), (7, false), (8, false), (9, false), (10, false), (11, false), (12, false), (13, false), (14, false), (15, false), (16, false), (17, false), (18, false), (19, false), (20, false), (21, true), (22, false), (23, true)]
def l39_0 : List (Nat × Bool × It) :=
  [(0, false, (none, some 16, O.mv (Opd.t 0), [])),
   (1, false, (none, some 17, O.mv (Opd.t 1), [])),
   (2, false, (none, some 18, O.mv (Opd.t 10), [])),
   (3, false, (none, some 19, O.bin BinOp.add (Opd.t 17) (Opd.t 18), [1, 2])),
   (4, false, (none, some 20, O.mv (Opd.t 0), [])),
   (5, false, (none, some 21, O.mv (Opd.t 2), [])),
   (6, false, (none, some 22, O.mv (Opd.t 10), [])),
   (7, false, (none, some 23, O.bin BinOp.add (Opd.t 21) (Opd.t 22), [5, 6])),
   (8, false, (none, some 24, O.mv (Opd.t 0), [])),
   (9, false, (none, some 25, O.mv (Opd.t 2), [])),
   (10, false, (none, some 26, O.mv (Opd.t 10), [])),
   (11, false, (none, some 27, O.bin BinOp.add (Opd.t 25) (Opd.t 26), [9, 10])),
   (12, false, (none, some 28, O.iad 4 (Opd.t 24) (Opd.t 27), [8, 11])),
   (13, false, (none, some 29,
                      O.ldn [CK.int IntKind.u32, CK.int IntKind.i64, CK.int IntKind.i64, CK.int IntKind.i64] (Opd.t 28),
                      [12])),
   (14, false, (none, some 30, O.mv (Opd.t 0), [])),
   (15, false, (none, some 31, O.mv (Opd.t 1), [])),
   (16, false, (none, some 32, O.mv (Opd.t 10), [])),
   (17, false, (none, some 33, O.bin BinOp.add (Opd.t 31) (Opd.t 32), [15, 16])),
   (18, false, (none, some 34, O.iad 4 (Opd.t 30) (Opd.t 33), [14, 17])),
   (19, false, (none, some 35,
                      O.ldn [CK.int IntKind.u32, CK.int IntKind.i64, CK.int IntKind.i64, CK.int IntKind.i64] (Opd.t 34),
                      [18])),
   (20, false, (none, some 36, O.iad 4 (Opd.t 16) (Opd.t 19), [0, 3, 0, 1, 2, 3, 8, 9, 10, 11, 12, 13, 19])),
   (21, true, (none, none, O.st 4 (Opd.t 36) (Opd.t 29), [20, 13, 0, 1, 2, 3, 8, 9, 10, 11, 12, 13, 19])),
   (22, false, (none, some 37, O.iad 4 (Opd.t 20) (Opd.t 23),
                      [4, 7, 0, 1, 2, 3, 4, 5, 6, 7, 8, 9, 10, 11, 12, 13, 14, 15, 16, 17, 18, 19, 20, 21])),
   (23, true, (none, none, O.st 4 (Opd.t 37) (Opd.t 35),
                      [22, 19, 21, 0, 1, 2, 3, 4, 5, 6, 7, 8, 9, 10, 11, 12, 13, 14, 15, 16, 17, 18, 19, 20, 21]))]
theorem l39_0_ok : okDraw d39_0 o39_0 = true ∧ mkL d39_0 o39_0 = some l39_0 := ⟨by kernel_rfl, by kernel_rfl⟩

def c39 : List C :=
  [C.op none (some 10) (O.mv (Opd.c (AV.int IntKind.i64 0))),
    C.blk 0
      [C.loop
          [C.op none (some 11) (O.mv (Opd.t 10)), C.op none (some 12) (O.mv (Opd.t 3)),
            C.op none (some 13) (O.bin BinOp.lss (Opd.t 11) (Opd.t 12)), C.cond (Opd.t 13) [] [C.exit 0],
            C.blk 1
              [C.draw d39_0],
            C.op none (some 14) (O.mv (Opd.t 10)),
            C.op none (some 15) (O.bin BinOp.add (Opd.t 14) (Opd.c (AV.int IntKind.i64 1))),
            C.op none (some 10) (O.mv (Opd.t 15))]]]
def r39 : List RV := []
theorem c39_ok : cC Try.prog Try.f39.ntmps (Try.f39.body.getD .skip) = some c39 := by kernel_rfl

end Go.AEX
