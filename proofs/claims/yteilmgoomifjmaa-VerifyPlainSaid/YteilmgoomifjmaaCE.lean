/- Compact codes, printed by gen.py from the given form; each is checked by its theorem. -/
import Derived.Test.YteilmgoomifjmaaAEzh
import Derived.Test.YteilmgoomifjmaaProg
import Derived.KernelRfl
namespace Go.AEX
open Go Go.AE Go.Proofs
set_option maxRecDepth 100000

def c3 : List C :=
  [C.op none (some 6) (O.mv (Opd.c (AV.bool false))), C.op none (some 14) (O.call 11 []),
    C.op none (some 15) (O.un UnOp.not (Opd.t 14)),
    C.cond (Opd.t 15) [C.op none (some 6) (O.mv (Opd.c (AV.bool false))), C.ret] [],
    C.op none (some 7)
      (O.alloc
        [AV.int IntKind.i64 0, AV.int IntKind.i64 0, AV.int IntKind.i64 0,
          AV.int IntKind.i64 0, AV.int IntKind.i64 0, AV.int IntKind.i64 0,
          AV.int IntKind.i64 0, AV.int IntKind.i64 0, AV.int IntKind.i64 0,
          AV.int IntKind.i64 0, AV.int IntKind.i64 0, AV.int IntKind.i64 0,
          AV.int IntKind.i64 0, AV.int IntKind.i64 0, AV.int IntKind.i64 0,
          AV.int IntKind.i64 0, AV.int IntKind.i64 0, AV.int IntKind.i64 0,
          AV.int IntKind.i64 0, AV.int IntKind.i64 0, AV.int IntKind.i64 0,
          AV.int IntKind.i64 0, AV.int IntKind.i64 0, AV.int IntKind.i64 0,
          AV.int IntKind.i64 0, AV.int IntKind.i64 0, AV.int IntKind.i64 0,
          AV.int IntKind.i64 0, AV.int IntKind.i64 0, AV.int IntKind.i64 0,
          AV.int IntKind.i64 0, AV.int IntKind.i64 0, AV.int IntKind.i64 0,
          AV.int IntKind.i64 0, AV.int IntKind.i64 0, AV.int IntKind.i64 0,
          AV.int IntKind.i64 0, AV.int IntKind.i64 0, AV.int IntKind.i64 0,
          AV.int IntKind.i64 0, AV.int IntKind.i64 0, AV.int IntKind.i64 0,
          AV.int IntKind.i64 0, AV.int IntKind.i64 0, AV.int IntKind.i64 0,
          AV.int IntKind.i64 0, AV.int IntKind.i64 0, AV.int IntKind.i64 0,
          AV.int IntKind.i64 0, AV.int IntKind.i64 0, AV.int IntKind.i64 0,
          AV.int IntKind.i64 0, AV.int IntKind.i64 0, AV.int IntKind.i64 0,
          AV.int IntKind.i64 0, AV.int IntKind.i64 0, AV.int IntKind.i64 0,
          AV.int IntKind.i64 0, AV.int IntKind.i64 0, AV.int IntKind.i64 0,
          AV.int IntKind.i64 0, AV.int IntKind.i64 0, AV.int IntKind.i64 0,
          AV.int IntKind.i64 0]),
    C.op none (some 8)
      (O.alloc
        [AV.int IntKind.i64 0, AV.int IntKind.i64 0, AV.int IntKind.i64 0,
          AV.int IntKind.i64 0, AV.int IntKind.i64 0, AV.int IntKind.i64 0,
          AV.int IntKind.i64 0, AV.int IntKind.i64 0, AV.int IntKind.i64 0,
          AV.int IntKind.i64 0, AV.int IntKind.i64 0, AV.int IntKind.i64 0,
          AV.int IntKind.i64 0, AV.int IntKind.i64 0, AV.int IntKind.i64 0,
          AV.int IntKind.i64 0, AV.int IntKind.i64 0, AV.int IntKind.i64 0,
          AV.int IntKind.i64 0, AV.int IntKind.i64 0, AV.int IntKind.i64 0,
          AV.int IntKind.i64 0, AV.int IntKind.i64 0, AV.int IntKind.i64 0,
          AV.int IntKind.i64 0, AV.int IntKind.i64 0, AV.int IntKind.i64 0,
          AV.int IntKind.i64 0, AV.int IntKind.i64 0, AV.int IntKind.i64 0,
          AV.int IntKind.i64 0, AV.int IntKind.i64 0, AV.int IntKind.i64 0,
          AV.int IntKind.i64 0, AV.int IntKind.i64 0, AV.int IntKind.i64 0,
          AV.int IntKind.i64 0, AV.int IntKind.i64 0, AV.int IntKind.i64 0,
          AV.int IntKind.i64 0, AV.int IntKind.i64 0, AV.int IntKind.i64 0,
          AV.int IntKind.i64 0, AV.int IntKind.i64 0, AV.int IntKind.i64 0,
          AV.int IntKind.i64 0, AV.int IntKind.i64 0, AV.int IntKind.i64 0,
          AV.int IntKind.i64 0, AV.int IntKind.i64 0, AV.int IntKind.i64 0,
          AV.int IntKind.i64 0, AV.int IntKind.i64 0, AV.int IntKind.i64 0,
          AV.int IntKind.i64 0, AV.int IntKind.i64 0, AV.int IntKind.i64 0,
          AV.int IntKind.i64 0, AV.int IntKind.i64 0, AV.int IntKind.i64 0,
          AV.int IntKind.i64 0, AV.int IntKind.i64 0, AV.int IntKind.i64 0,
          AV.int IntKind.i64 0]),
    C.op none (some 9) (O.mv (Opd.c (AV.int IntKind.i64 0))),
    C.blk 0
      [C.loop
          [C.op none (some 16) (O.mv (Opd.t 9)), C.op none (some 17) (O.mv (Opd.t 0)),
            C.op none (some 18) (O.len false (Opd.t 17)), C.op none (some 19) (O.bin BinOp.lss (Opd.t 16) (Opd.t 18)),
            C.op none (some 20) (O.mv (Opd.t 19)), C.op (some (20, true)) (some 21) (O.mv (Opd.t 9)),
            C.op (some (20, true)) (some 22) (O.bin BinOp.lss (Opd.t 21) (Opd.c (AV.int IntKind.i64 64))),
            C.op none (some 23) (O.pick (Opd.t 20) (Opd.t 22) (Opd.c (AV.bool false))), C.cond (Opd.t 23) [] [C.exit 0],
            C.blk 1
              [C.op none (some 26) (O.mv (Opd.t 9)), C.op none (some 27) (O.mv (Opd.t 0)),
                C.op none (some 28) (O.mv (Opd.t 9)), C.op none (some 29) (O.iad 1 (Opd.t 27) (Opd.t 28)),
                C.op none (some 30) (O.ld (CK.int IntKind.i64) (Opd.t 29)),
                C.op none (some 31) (O.call 12 [Opd.t 7, Opd.t 26, Opd.t 30])],
            C.op none (some 24) (O.mv (Opd.t 9)),
            C.op none (some 25) (O.bin BinOp.add (Opd.t 24) (Opd.c (AV.int IntKind.i64 1))),
            C.op none (some 9) (O.mv (Opd.t 25))]],
    C.op none (some 32) (O.mv (Opd.t 0)), C.op none (some 33) (O.len false (Opd.t 32)),
    C.op none (some 34) (O.mn [Opd.t 33, Opd.c (AV.int IntKind.i64 64)]),
    C.op none (some 35) (O.bin BinOp.sub (Opd.t 34) (Opd.c (AV.int IntKind.i64 1))),
    C.op none (some 10) (O.mv (Opd.t 35)),
    C.blk 2
      [C.loop
          [C.op none (some 36) (O.mv (Opd.t 10)),
            C.op none (some 37) (O.bin BinOp.geq (Opd.t 36) (Opd.c (AV.int IntKind.i64 0))),
            C.cond (Opd.t 37) [] [C.exit 2],
            C.blk 3
              [C.op none (some 40) (O.mv (Opd.t 10)),
                C.op none (some 41) (O.call 12 [Opd.t 8, Opd.t 40, Opd.c (AV.int IntKind.i64 77)]),
                C.op none (some 42) (O.mv (Opd.t 10)), C.op none (some 43) (O.mv (Opd.t 0)),
                C.op none (some 44) (O.mv (Opd.t 10)), C.op none (some 45) (O.iad 1 (Opd.t 43) (Opd.t 44)),
                C.op none (some 46) (O.ld (CK.int IntKind.i64) (Opd.t 45)),
                C.op none (some 47) (O.call 12 [Opd.t 8, Opd.t 42, Opd.t 46])],
            C.op none (some 38) (O.mv (Opd.t 10)),
            C.op none (some 39) (O.bin BinOp.sub (Opd.t 38) (Opd.c (AV.int IntKind.i64 1))),
            C.op none (some 10) (O.mv (Opd.t 39))]],
    C.op none (some 48) (O.call 13 [Opd.t 7]), C.op none (some 11) (O.mv (Opd.t 48)),
    C.op none (some 49) (O.mv (Opd.t 11)), C.op none (some 50) (O.call 13 [Opd.t 8]),
    C.op none (some 51) (O.bin BinOp.neq (Opd.t 49) (Opd.t 50)),
    C.cond (Opd.t 51) [C.op none (some 6) (O.mv (Opd.c (AV.bool false))), C.ret] [],
    C.op none (some 52) (O.mv (Opd.t 1)),
    C.op none (some 53) (O.bin BinOp.and (Opd.t 52) (Opd.c (AV.int IntKind.i64 63))),
    C.op none (some 1) (O.mv (Opd.t 53)), C.op none (some 55) (O.mv (Opd.t 1)),
    C.op none (some 56) (O.call 14 [Opd.t 7, Opd.t 55]), C.op none (some 54) (O.mv (Opd.t 56)),
    C.op none (some 57) (O.ext (Opd.t 54) 0), C.op none (some 58) (O.ext (Opd.t 54) 1),
    C.op none (some 12) (O.mv (Opd.t 57)), C.op none (some 13) (O.mv (Opd.t 58)), C.op none (some 59) (O.mv (Opd.t 13)),
    C.op none (some 60) (O.mv (Opd.t 59)), C.op (some (60, true)) (some 61) (O.mv (Opd.t 1)),
    C.op (some (60, true)) (some 62) (O.mv (Opd.t 2)),
    C.op (some (60, true)) (some 63) (O.call 12 [Opd.t 7, Opd.t 61, Opd.t 62]),
    C.op none (some 64) (O.pick (Opd.t 60) (Opd.t 63) (Opd.c (AV.bool false))), C.op none (some 65) (O.mv (Opd.t 64)),
    C.op (some (65, true)) (some 66) (O.call 13 [Opd.t 7]), C.op (some (65, true)) (some 67) (O.mv (Opd.t 11)),
    C.op (some (65, true)) (some 68) (O.bin BinOp.eql (Opd.t 66) (Opd.t 67)),
    C.op (some (65, true)) (some 69) (O.mv (Opd.t 2)), C.op (some (65, true)) (some 70) (O.mv (Opd.t 12)),
    C.op (some (65, true)) (some 71) (O.bin BinOp.eql (Opd.t 69) (Opd.t 70)),
    C.op (some (65, true)) (some 72) (O.eqb false (Opd.t 68) (Opd.t 71)),
    C.op none (some 73) (O.pick (Opd.t 65) (Opd.t 72) (Opd.c (AV.bool false))), C.op none (some 74) (O.mv (Opd.t 73)),
    C.op (some (74, true)) (some 75) (O.mv (Opd.t 1)), C.op (some (74, true)) (some 76) (O.mv (Opd.t 12)),
    C.op (some (74, true)) (some 77) (O.call 12 [Opd.t 7, Opd.t 75, Opd.t 76]),
    C.op none (some 78) (O.pick (Opd.t 74) (Opd.t 77) (Opd.c (AV.bool false))), C.op none (some 79) (O.mv (Opd.t 78)),
    C.op (some (79, true)) (some 80) (O.call 13 [Opd.t 7]), C.op (some (79, true)) (some 81) (O.mv (Opd.t 11)),
    C.op (some (79, true)) (some 82) (O.bin BinOp.eql (Opd.t 80) (Opd.t 81)),
    C.op none (some 83) (O.pick (Opd.t 79) (Opd.t 82) (Opd.c (AV.bool false))), C.op none (some 6) (O.mv (Opd.t 83)),
    C.ret]
def r3 : List RV := [RV.t 6]
theorem c3_ok : cC Try.prog Try.f3.ntmps (Try.f3.body.getD .skip) = some c3 := by kernel_rfl

def c4 : List C :=
  [C.op none (some 8) (O.mv (Opd.c (AV.bool false))), C.op none (some 19) (O.call 11 []),
    C.op none (some 20) (O.un UnOp.not (Opd.t 19)),
    C.cond (Opd.t 20) [C.op none (some 8) (O.mv (Opd.c (AV.bool false))), C.ret] [],
    C.op none (some 21) (O.mv (Opd.t 2)), C.op none (some 22) (O.len false (Opd.t 21)),
    C.op none (some 23) (O.bin BinOp.gtr (Opd.t 22) (Opd.c (AV.int IntKind.i64 20))),
    C.cond (Opd.t 23)
      [C.op none (some 24) (O.mv (Opd.t 2)),
        C.op none (some 25) (O.lsl 1 (Opd.t 24) none (some (Opd.c (AV.int IntKind.i64 20))) none),
        C.op none (some 2) (O.mv (Opd.t 25))]
      [],
    C.op none (some 26) (O.mv (Opd.t 0)), C.op none (some 27) (O.mv (Opd.t 1)), C.op none (some 28) (O.mv (Opd.t 2)),
    C.op none (some 29) (O.call 15 [Opd.t 26, Opd.t 27, Opd.t 28]), C.op none (some 9) (O.mv (Opd.t 29)),
    C.op none (some 30) (O.bsl 1 [AV.int IntKind.i64 0] 0 []), C.op none (some 31) (O.mv (Opd.t 1)),
    C.op none (some 32) (O.mv (Opd.t 2)), C.op none (some 33) (O.call 16 [Opd.t 31, Opd.t 32]),
    C.op none (some 10) (O.mv (Opd.t 30)), C.op none (some 11) (O.mv (Opd.t 33)),
    C.op none (some 12) (O.mv (Opd.c (AV.int IntKind.i64 0))),
    C.blk 0
      [C.loop
          [C.op none (some 34) (O.mv (Opd.t 12)), C.op none (some 35) (O.mv (Opd.t 3)),
            C.op none (some 36) (O.len false (Opd.t 35)), C.op none (some 37) (O.bin BinOp.lss (Opd.t 34) (Opd.t 36)),
            C.op none (some 38) (O.mv (Opd.t 37)), C.op (some (38, true)) (some 39) (O.mv (Opd.t 12)),
            C.op (some (38, true)) (some 40) (O.bin BinOp.lss (Opd.t 39) (Opd.c (AV.int IntKind.i64 80))),
            C.op none (some 41) (O.pick (Opd.t 38) (Opd.t 40) (Opd.c (AV.bool false))), C.cond (Opd.t 41) [] [C.exit 0],
            C.blk 1
              [C.op none (some 44) (O.mv (Opd.t 3)), C.op none (some 45) (O.mv (Opd.t 12)),
                C.op none (some 46) (O.iad 4 (Opd.t 44) (Opd.t 45)),
                C.op none (some 47)
                  (O.ldn [CK.int IntKind.i64, CK.int IntKind.i64, CK.int IntKind.i64, CK.any] (Opd.t 46)),
                C.op none (some 13)
                  (O.alloc
                    [AV.int IntKind.i64 0, AV.int IntKind.i64 0,
                      AV.int IntKind.i64 0, AV.nilsl]),
                C.op none none (O.st 4 (Opd.t 13) (Opd.t 47)), C.op none (some 48) (O.fad 0 (Opd.t 13)),
                C.op none (some 49) (O.ld (CK.int IntKind.i64) (Opd.t 48)),
                C.blk 2
                  [C.op none (some 51) (O.bin BinOp.eql (Opd.t 49) (Opd.c (AV.int IntKind.i64 1))),
                    C.op none (some 50) (O.mv (Opd.t 51)),
                    C.cond (Opd.t 50) []
                      [C.op none (some 52) (O.bin BinOp.eql (Opd.t 49) (Opd.c (AV.int IntKind.i64 2))),
                        C.op none (some 50) (O.mv (Opd.t 52)),
                        C.cond (Opd.t 50) []
                          [C.op none (some 53) (O.bin BinOp.eql (Opd.t 49) (Opd.c (AV.int IntKind.i64 3))),
                            C.op none (some 50) (O.mv (Opd.t 53))]],
                    C.cond (Opd.t 50)
                      [C.op none (some 55) (O.mv (Opd.t 9)), C.op none (some 56) (O.mv (Opd.t 10)),
                        C.op none (some 57)
                          (O.ldn [CK.int IntKind.i64, CK.int IntKind.i64, CK.int IntKind.i64, CK.any] (Opd.t 13)),
                        C.op none (some 58) (O.call 17 [Opd.t 55, Opd.t 56, Opd.t 57]),
                        C.op none (some 54) (O.mv (Opd.t 58)), C.op none (some 59) (O.ext (Opd.t 54) 0),
                        C.op none (some 60) (O.ext (Opd.t 54) 1), C.op none (some 14) (O.mv (Opd.t 59)),
                        C.op none (some 15) (O.mv (Opd.t 60)), C.op none (some 61) (O.mv (Opd.t 14)),
                        C.op none (some 10) (O.mv (Opd.t 61)), C.op none (some 62) (O.mv (Opd.t 15)),
                        C.op none (some 63) (O.un UnOp.not (Opd.t 62)),
                        C.cond (Opd.t 63) [C.op none (some 8) (O.mv (Opd.c (AV.bool false))), C.ret] []]
                      [C.op none (some 65) (O.bin BinOp.eql (Opd.t 49) (Opd.c (AV.int IntKind.i64 5))),
                        C.op none (some 64) (O.mv (Opd.t 65)),
                        C.cond (Opd.t 64)
                          [C.op none (some 66) (O.fad 1 (Opd.t 13)),
                            C.op none (some 67) (O.ld (CK.int IntKind.i64) (Opd.t 66)),
                            C.op none (some 68) (O.bin BinOp.geq (Opd.t 67) (Opd.c (AV.int IntKind.i64 0))),
                            C.op none (some 69) (O.mv (Opd.t 68)),
                            C.op (some (69, true)) (some 70) (O.fad 1 (Opd.t 13)),
                            C.op (some (69, true)) (some 71) (O.ld (CK.int IntKind.i64) (Opd.t 70)),
                            C.op (some (69, true)) (some 72) (O.mv (Opd.t 11)),
                            C.op (some (69, true)) (some 73) (O.len false (Opd.t 72)),
                            C.op (some (69, true)) (some 74) (O.bin BinOp.lss (Opd.t 71) (Opd.t 73)),
                            C.op none (some 75) (O.pick (Opd.t 69) (Opd.t 74) (Opd.c (AV.bool false))),
                            C.op none (some 16) (O.mv (Opd.t 75)), C.op none (some 76) (O.mv (Opd.t 9)),
                            C.op none (some 77) (O.fad 1 (Opd.t 13)),
                            C.op none (some 78) (O.ld (CK.int IntKind.i64) (Opd.t 77)),
                            C.op none (some 79) (O.fad 2 (Opd.t 13)),
                            C.op none (some 80) (O.ld (CK.int IntKind.i64) (Opd.t 79)),
                            C.op none (some 81) (O.call 18 [Opd.t 76, Opd.t 78, Opd.t 80]),
                            C.op none (some 82) (O.mv (Opd.t 16)),
                            C.op none (some 83) (O.eqb true (Opd.t 81) (Opd.t 82)),
                            C.cond (Opd.t 83) [C.op none (some 8) (O.mv (Opd.c (AV.bool false))), C.ret] [],
                            C.op none (some 84) (O.mv (Opd.t 16)),
                            C.cond (Opd.t 84)
                              [C.op none (some 85) (O.mv (Opd.t 11)), C.op none (some 86) (O.fad 1 (Opd.t 13)),
                                C.op none (some 87) (O.ld (CK.int IntKind.i64) (Opd.t 86)),
                                C.op none (some 88) (O.fad 2 (Opd.t 13)),
                                C.op none (some 89) (O.ld (CK.int IntKind.i64) (Opd.t 88)),
                                C.op none (some 90) (O.iad 1 (Opd.t 85) (Opd.t 87)),
                                C.op none none (O.st 1 (Opd.t 90) (Opd.t 89))]
                              []]
                          []]],
                C.op none (some 91) (O.mv (Opd.t 9)), C.op none (some 92) (O.nck (Opd.t 91)),
                C.op none (some 93) (O.fad 0 (Opd.t 92)), C.op none (some 94) (O.ld CK.any (Opd.t 93)),
                C.op none (some 95) (O.call 19 [Opd.t 94]), C.op none (some 96) (O.mv (Opd.t 10)),
                C.op none (some 97) (O.len false (Opd.t 96)),
                C.op none (some 98) (O.bin BinOp.neq (Opd.t 95) (Opd.t 97)), C.op none (some 99) (O.mv (Opd.t 98)),
                C.op (some (99, false)) (some 100) (O.mv (Opd.t 9)),
                C.op (some (99, false)) (some 101) (O.nck (Opd.t 100)),
                C.op (some (99, false)) (some 102) (O.fad 0 (Opd.t 101)),
                C.op (some (99, false)) (some 103) (O.ld CK.any (Opd.t 102)),
                C.op (some (99, false)) (some 104) (O.call 19 [Opd.t 103]),
                C.op (some (99, false)) (some 105)
                  (O.bin BinOp.gtr (Opd.t 104) (Opd.c (AV.int IntKind.i64 64))),
                C.op none (some 106) (O.pick (Opd.t 99) (Opd.c (AV.bool true)) (Opd.t 105)),
                C.op none (some 107) (O.mv (Opd.t 106)), C.op (some (107, false)) (some 108) (O.mv (Opd.t 9)),
                C.op (some (107, false)) (some 109) (O.nck (Opd.t 108)),
                C.op (some (107, false)) (some 110) (O.fad 1 (Opd.t 109)),
                C.op (some (107, false)) (some 111) (O.ld (CK.int IntKind.i64) (Opd.t 110)),
                C.op (some (107, false)) (some 112) (O.mv (Opd.t 0)),
                C.op (some (107, false)) (some 113) (O.bin BinOp.neq (Opd.t 111) (Opd.t 112)),
                C.op none (some 114) (O.pick (Opd.t 107) (Opd.c (AV.bool true)) (Opd.t 113)),
                C.op none (some 115) (O.mv (Opd.t 114)), C.op (some (115, false)) (some 116) (O.mv (Opd.t 9)),
                C.op (some (115, false)) (some 117) (O.nck (Opd.t 116)),
                C.op (some (115, false)) (some 118) (O.fad 2 (Opd.t 117)),
                C.op (some (115, false)) (some 119) (O.ld (CK.int IntKind.i64) (Opd.t 118)),
                C.op (some (115, false)) (some 120)
                  (O.bin BinOp.neq (Opd.t 119) (Opd.c (AV.int IntKind.i64 0))),
                C.op none (some 121) (O.pick (Opd.t 115) (Opd.c (AV.bool true)) (Opd.t 120)),
                C.cond (Opd.t 121) [C.op none (some 8) (O.mv (Opd.c (AV.bool false))), C.ret] [],
                C.op none (some 17) (O.mv (Opd.c (AV.int IntKind.i64 (-1)))),
                C.blk 3
                  [C.loop
                      [C.op none (some 122) (O.mv (Opd.t 17)),
                        C.op none (some 123) (O.bin BinOp.leq (Opd.t 122) (Opd.c (AV.int IntKind.i64 16))),
                        C.cond (Opd.t 123) [] [C.exit 3],
                        C.blk 4
                          [C.op none (some 18) (O.mv (Opd.c (AV.int IntKind.i64 0))),
                            C.op none (some 126) (O.mv (Opd.t 17)),
                            C.op none (some 127)
                              (O.bin BinOp.geq (Opd.t 126) (Opd.c (AV.int IntKind.i64 0))),
                            C.op none (some 128) (O.mv (Opd.t 127)),
                            C.op (some (128, true)) (some 129) (O.mv (Opd.t 17)),
                            C.op (some (128, true)) (some 130) (O.mv (Opd.t 11)),
                            C.op (some (128, true)) (some 131) (O.len false (Opd.t 130)),
                            C.op (some (128, true)) (some 132) (O.bin BinOp.lss (Opd.t 129) (Opd.t 131)),
                            C.op none (some 133) (O.pick (Opd.t 128) (Opd.t 132) (Opd.c (AV.bool false))),
                            C.cond (Opd.t 133)
                              [C.op none (some 134) (O.mv (Opd.t 11)), C.op none (some 135) (O.mv (Opd.t 17)),
                                C.op none (some 136) (O.iad 1 (Opd.t 134) (Opd.t 135)),
                                C.op none (some 137) (O.ld (CK.int IntKind.i64) (Opd.t 136)),
                                C.op none (some 18) (O.mv (Opd.t 137))]
                              [],
                            C.op none (some 138) (O.mv (Opd.t 9)), C.op none (some 139) (O.mv (Opd.t 17)),
                            C.op none (some 140) (O.call 20 [Opd.t 138, Opd.t 139]),
                            C.op none (some 141) (O.mv (Opd.t 18)),
                            C.op none (some 142) (O.bin BinOp.neq (Opd.t 140) (Opd.t 141)),
                            C.cond (Opd.t 142) [C.op none (some 8) (O.mv (Opd.c (AV.bool false))), C.ret] []],
                        C.op none (some 124) (O.mv (Opd.t 17)),
                        C.op none (some 125) (O.bin BinOp.add (Opd.t 124) (Opd.c (AV.int IntKind.i64 1))),
                        C.op none (some 17) (O.mv (Opd.t 125))]]],
            C.op none (some 42) (O.mv (Opd.t 12)),
            C.op none (some 43) (O.bin BinOp.add (Opd.t 42) (Opd.c (AV.int IntKind.i64 1))),
            C.op none (some 12) (O.mv (Opd.t 43))]],
    C.op none (some 8) (O.mv (Opd.c (AV.bool true))), C.ret]
def r4 : List RV := [RV.t 8]
theorem c4_ok : cC Try.prog Try.f4.ntmps (Try.f4.body.getD .skip) = some c4 := by kernel_rfl

def c5 : List C :=
  [C.op none (some 4) (O.mv (Opd.c (AV.bool false))), C.op none (some 11) (O.call 11 []),
    C.op none (some 12) (O.un UnOp.not (Opd.t 11)),
    C.cond (Opd.t 12) [C.op none (some 4) (O.mv (Opd.c (AV.bool false))), C.ret] [],
    C.op none (some 13) (O.mv (Opd.t 0)), C.op none (some 14) (O.len false (Opd.t 13)),
    C.op none (some 15) (O.bin BinOp.gtr (Opd.t 14) (Opd.c (AV.int IntKind.i64 10))),
    C.cond (Opd.t 15)
      [C.op none (some 16) (O.mv (Opd.t 0)),
        C.op none (some 17) (O.lsl 1 (Opd.t 16) none (some (Opd.c (AV.int IntKind.i64 10))) none),
        C.op none (some 0) (O.mv (Opd.t 17))]
      [],
    C.op none (some 18) (O.bsl 1 [AV.int IntKind.i64 0] 0 []), C.op none (some 19) (O.mv (Opd.t 0)),
    C.op none (some 20) (O.app 1 (Opd.t 18) (Opd.t 19)), C.op none (some 0) (O.mv (Opd.t 20)),
    C.op none (some 21) (O.mv (Opd.t 0)),
    C.op none (some 22)
      (O.call 15 [Opd.c (AV.int IntKind.i64 1), Opd.c (AV.int IntKind.i64 16), Opd.t 21]),
    C.op none (some 23) (O.mv (Opd.t 0)),
    C.op none (some 24)
      (O.call 15 [Opd.c (AV.int IntKind.i64 2), Opd.c (AV.int IntKind.i64 16), Opd.t 23]),
    C.op none (some 5) (O.mv (Opd.t 22)), C.op none (some 6) (O.mv (Opd.t 24)), C.op none (some 25) (O.mv (Opd.t 5)),
    C.op none (some 26) (O.nck (Opd.t 25)), C.op none (some 27) (O.fad 0 (Opd.t 26)),
    C.op none (some 28) (O.ld CK.any (Opd.t 27)),
    C.op none (some 29)
      (O.bsl 1 [AV.int IntKind.i64 0] 2
        [(0, Opd.c (AV.int IntKind.i64 1)), (1, Opd.c (AV.int IntKind.i64 2))]),
    C.op none (some 30) (O.call 21 [Opd.t 28, Opd.t 29]), C.op none (some 31) (O.mv (Opd.t 0)),
    C.op none (some 32) (O.len false (Opd.t 31)), C.op none (some 33) (O.mv (Opd.c (AV.int IntKind.i64 0))),
    C.blk 0
      [C.loop
          [C.op none (some 34) (O.bin BinOp.lss (Opd.t 33) (Opd.t 32)), C.cond (Opd.t 34) [] [C.exit 0],
            C.blk 1
              [C.op none (some 35) (O.mv (Opd.t 33)), C.op none (some 7) (O.mv (Opd.t 35)),
                C.op none (some 36) (O.mv (Opd.t 0)), C.op none (some 37) (O.mv (Opd.t 7)),
                C.op none (some 38) (O.iad 1 (Opd.t 36) (Opd.t 37)),
                C.op none (some 39) (O.ld (CK.int IntKind.i64) (Opd.t 38)), C.op none (some 8) (O.mv (Opd.t 39)),
                C.op none (some 40) (O.mv (Opd.t 0)), C.op none (some 41) (O.mv (Opd.t 7)),
                C.op none (some 42) (O.iad 1 (Opd.t 40) (Opd.t 41)),
                C.op none (some 43) (O.ld (CK.int IntKind.i64) (Opd.t 42)),
                C.op none (some 44) (O.bin BinOp.add (Opd.t 43) (Opd.c (AV.int IntKind.i64 1))),
                C.op none (some 45) (O.iad 1 (Opd.t 40) (Opd.t 41)), C.op none none (O.st 1 (Opd.t 45) (Opd.t 44)),
                C.op none (some 46) (O.mv (Opd.t 5)), C.op none (some 47) (O.mv (Opd.t 7)),
                C.op none (some 48) (O.call 20 [Opd.t 46, Opd.t 47]), C.op none (some 49) (O.mv (Opd.t 8)),
                C.op none (some 50) (O.bin BinOp.neq (Opd.t 48) (Opd.t 49)), C.op none (some 51) (O.mv (Opd.t 50)),
                C.op (some (51, false)) (some 52) (O.mv (Opd.t 5)), C.op (some (51, false)) (some 53) (O.mv (Opd.t 7)),
                C.op (some (51, false)) (some 54) (O.mv (Opd.t 1)),
                C.op (some (51, false)) (some 55) (O.call 18 [Opd.t 52, Opd.t 53, Opd.t 54]),
                C.op (some (51, false)) (some 56) (O.un UnOp.not (Opd.t 55)),
                C.op none (some 57) (O.pick (Opd.t 51) (Opd.c (AV.bool true)) (Opd.t 56)),
                C.op none (some 58) (O.mv (Opd.t 57)), C.op (some (58, false)) (some 59) (O.mv (Opd.t 6)),
                C.op (some (58, false)) (some 60) (O.mv (Opd.t 7)),
                C.op (some (58, false)) (some 61) (O.call 20 [Opd.t 59, Opd.t 60]),
                C.op (some (58, false)) (some 62) (O.mv (Opd.t 8)),
                C.op (some (58, false)) (some 63) (O.bin BinOp.neq (Opd.t 61) (Opd.t 62)),
                C.op none (some 64) (O.pick (Opd.t 58) (Opd.c (AV.bool true)) (Opd.t 63)),
                C.cond (Opd.t 64) [C.op none (some 4) (O.mv (Opd.c (AV.bool false))), C.ret] []],
            C.op none (some 65) (O.bin BinOp.add (Opd.t 33) (Opd.c (AV.int IntKind.i64 1))),
            C.op none (some 33) (O.mv (Opd.t 65))]],
    C.op none (some 67) (O.mv (Opd.t 5)), C.op none (some 68) (O.nck (Opd.t 67)),
    C.op none (some 69) (O.fad 0 (Opd.t 68)), C.op none (some 70) (O.ld CK.any (Opd.t 69)),
    C.op none (some 71) (O.call 22 [Opd.t 70, Opd.c (AV.int IntKind.i64 1)]),
    C.op none (some 66) (O.mv (Opd.t 71)), C.op none (some 72) (O.ext (Opd.t 66) 0),
    C.op none (some 73) (O.ext (Opd.t 66) 1), C.op none (some 9) (O.mv (Opd.t 72)),
    C.op none (some 10) (O.mv (Opd.t 73)), C.op none (some 74) (O.mv (Opd.t 5)), C.op none (some 75) (O.nck (Opd.t 74)),
    C.op none (some 76) (O.fad 0 (Opd.t 75)), C.op none (some 77) (O.ld CK.any (Opd.t 76)),
    C.op none (some 78) (O.bsl 1 [AV.int IntKind.i64 0] 1 [(0, Opd.c (AV.int IntKind.i64 9))]),
    C.op none (some 79) (O.call 21 [Opd.t 77, Opd.t 78]), C.op none (some 80) (O.mv (Opd.t 6)),
    C.op none (some 81) (O.nck (Opd.t 80)), C.op none (some 82) (O.fad 0 (Opd.t 81)),
    C.op none (some 83) (O.ld CK.any (Opd.t 82)), C.op none (some 84) (O.call 19 [Opd.t 83]),
    C.op none (some 85) (O.bin BinOp.eql (Opd.t 84) (Opd.c (AV.int IntKind.i64 0))),
    C.op none (some 86) (O.mv (Opd.t 85)), C.op (some (86, true)) (some 87) (O.mv (Opd.t 9)),
    C.op (some (86, true)) (some 88) (O.len false (Opd.t 87)),
    C.op (some (86, true)) (some 89) (O.bin BinOp.eql (Opd.t 88) (Opd.c (AV.int IntKind.i64 1))),
    C.op none (some 90) (O.pick (Opd.t 86) (Opd.t 89) (Opd.c (AV.bool false))), C.op none (some 91) (O.mv (Opd.t 90)),
    C.op (some (91, true)) (some 92) (O.mv (Opd.t 9)),
    C.op (some (91, true)) (some 93) (O.iad 1 (Opd.t 92) (Opd.c (AV.int IntKind.i64 0))),
    C.op (some (91, true)) (some 94) (O.ld (CK.int IntKind.i64) (Opd.t 93)),
    C.op (some (91, true)) (some 95) (O.bin BinOp.eql (Opd.t 94) (Opd.c (AV.int IntKind.i64 2))),
    C.op none (some 96) (O.pick (Opd.t 91) (Opd.t 95) (Opd.c (AV.bool false))), C.op none (some 97) (O.mv (Opd.t 96)),
    C.op (some (97, true)) (some 98) (O.mv (Opd.t 5)), C.op (some (97, true)) (some 99) (O.nck (Opd.t 98)),
    C.op (some (97, true)) (some 100) (O.fad 0 (Opd.t 99)), C.op (some (97, true)) (some 101) (O.ld CK.any (Opd.t 100)),
    C.op (some (97, true)) (some 102) (O.call 23 [Opd.t 101]),
    C.op (some (97, true)) (some 103) (O.bin BinOp.eql (Opd.t 102) (Opd.c (AV.int IntKind.i64 9))),
    C.op none (some 104) (O.pick (Opd.t 97) (Opd.t 103) (Opd.c (AV.bool false))),
    C.op none (some 105) (O.mv (Opd.t 104)), C.op (some (105, true)) (some 106) (O.mv (Opd.t 5)),
    C.op (some (105, true)) (some 107) (O.nck (Opd.t 106)), C.op (some (105, true)) (some 108) (O.fad 1 (Opd.t 107)),
    C.op (some (105, true)) (some 109) (O.ld (CK.int IntKind.i64) (Opd.t 108)),
    C.op (some (105, true)) (some 110) (O.bin BinOp.eql (Opd.t 109) (Opd.c (AV.int IntKind.i64 1))),
    C.op none (some 111) (O.pick (Opd.t 105) (Opd.t 110) (Opd.c (AV.bool false))),
    C.op none (some 112) (O.mv (Opd.t 111)), C.op (some (112, true)) (some 113) (O.mv (Opd.t 6)),
    C.op (some (112, true)) (some 114) (O.nck (Opd.t 113)), C.op (some (112, true)) (some 115) (O.fad 1 (Opd.t 114)),
    C.op (some (112, true)) (some 116) (O.ld (CK.int IntKind.i64) (Opd.t 115)),
    C.op (some (112, true)) (some 117) (O.bin BinOp.eql (Opd.t 116) (Opd.c (AV.int IntKind.i64 2))),
    C.op none (some 118) (O.pick (Opd.t 112) (Opd.t 117) (Opd.c (AV.bool false))),
    C.op none (some 4) (O.mv (Opd.t 118)), C.ret]
def r5 : List RV := [RV.t 4]
theorem c5_ok : cC Try.prog Try.f5.ntmps (Try.f5.body.getD .skip) = some c5 := by kernel_rfl

def c6 : List C :=
  [C.op none (some 4) (O.mv (Opd.c (AV.bool false))),
    C.op none (some 5) (O.mv (Opd.c (AV.int IntKind.i64 4))), C.op none (some 6) (O.mv (Opd.t 1)),
    C.op none (some 7) (O.bin BinOp.eql (Opd.t 6) (Opd.c (AV.int IntKind.i64 0))),
    C.cond (Opd.t 7) [C.op none (some 5) (O.mv (Opd.c (AV.int IntKind.i64 1)))] [],
    C.op none (some 8) (O.call 24 []), C.op none (some 9) (O.mv (Opd.t 8)),
    C.op (some (9, true)) (some 10) (O.mv (Opd.t 0)), C.op (some (9, true)) (some 11) (O.call 25 [Opd.t 10]),
    C.op (some (9, true)) (some 12) (O.mv (Opd.t 0)), C.op (some (9, true)) (some 13) (O.call 26 [Opd.t 12]),
    C.op (some (9, true)) (some 14) (O.bin BinOp.eql (Opd.t 11) (Opd.t 13)),
    C.op none (some 15) (O.pick (Opd.t 9) (Opd.t 14) (Opd.c (AV.bool false))), C.op none (some 16) (O.mv (Opd.t 15)),
    C.op (some (16, true)) (some 17) (O.mv (Opd.t 1)), C.op (some (16, true)) (some 18) (O.call 27 [Opd.t 17]),
    C.op (some (16, true)) (some 19) (O.mv (Opd.t 5)),
    C.op (some (16, true)) (some 20) (O.bin BinOp.eql (Opd.t 18) (Opd.t 19)),
    C.op none (some 21) (O.pick (Opd.t 16) (Opd.t 20) (Opd.c (AV.bool false))), C.op none (some 22) (O.mv (Opd.t 21)),
    C.op (some (22, true)) (some 23) (O.call 28 [Opd.c AV.nilsl]),
    C.op (some (22, true)) (some 24) (O.len true (Opd.t 23)),
    C.op (some (22, true)) (some 25) (O.bin BinOp.eql (Opd.t 24) (Opd.c (AV.int IntKind.i64 1))),
    C.op none (some 26) (O.pick (Opd.t 22) (Opd.t 25) (Opd.c (AV.bool false))), C.op none (some 4) (O.mv (Opd.t 26)),
    C.ret]
def r6 : List RV := [RV.t 4]
theorem c6_ok : cC Try.prog Try.f6.ntmps (Try.f6.body.getD .skip) = some c6 := by kernel_rfl

def c7 : List C :=
  [C.op none (some 4) (O.mv (Opd.c (AV.bool false))), C.op none (some 10) (O.call 24 []),
    C.op none (some 11) (O.un UnOp.not (Opd.t 10)),
    C.cond (Opd.t 11) [C.op none (some 4) (O.mv (Opd.c (AV.bool false))), C.ret] [],
    C.op none (some 12) (O.mv (Opd.t 0)),
    C.op none (some 13) (O.bin BinOp.and (Opd.t 12) (Opd.c (AV.int IntKind.i64 255))),
    C.op none (some 14) (O.bin BinOp.rem (Opd.t 13) (Opd.c (AV.int IntKind.i64 80))),
    C.op none (some 15) (O.bin BinOp.add (Opd.c (AV.int IntKind.i64 1)) (Opd.t 14)),
    C.op none (some 0) (O.mv (Opd.t 15)), C.op none (some 16) (O.mv (Opd.t 1)),
    C.op none (some 17) (O.bin BinOp.and (Opd.t 16) (Opd.c (AV.int IntKind.i64 255))),
    C.op none (some 18) (O.mv (Opd.t 0)),
    C.op none (some 19) (O.bin BinOp.add (Opd.t 18) (Opd.c (AV.int IntKind.i64 2))),
    C.op none (some 20) (O.bin BinOp.rem (Opd.t 17) (Opd.t 19)), C.op none (some 1) (O.mv (Opd.t 20)),
    C.op none (some 5) (O.mv (Opd.c AV.nilsl)), C.op none (some 21) (O.mv (Opd.t 0)),
    C.op none (some 22) (O.mv (Opd.c (AV.int IntKind.i64 0))),
    C.blk 0
      [C.loop
          [C.op none (some 23) (O.bin BinOp.lss (Opd.t 22) (Opd.t 21)), C.cond (Opd.t 23) [] [C.exit 0],
            C.blk 1
              [C.op none (some 24) (O.mv (Opd.t 5)),
                C.op none (some 25)
                  (O.bsl 1 [AV.int IntKind.i64 0] 1 [(0, Opd.c (AV.int IntKind.i64 1))]),
                C.op none (some 26) (O.call 29 [Opd.c (AV.int IntKind.u8 1), Opd.t 25]),
                C.op none (some 27)
                  (O.bsl 2 [AV.int IntKind.u8 0, AV.int IntKind.i64 0] 1 [(0, Opd.t 26)]),
                C.op none (some 28) (O.app 2 (Opd.t 24) (Opd.t 27)), C.op none (some 5) (O.mv (Opd.t 28))],
            C.op none (some 29) (O.bin BinOp.add (Opd.t 22) (Opd.c (AV.int IntKind.i64 1))),
            C.op none (some 22) (O.mv (Opd.t 29))]],
    C.op none (some 30) (O.mv (Opd.t 1)), C.op none (some 31) (O.mv (Opd.c (AV.int IntKind.i64 0))),
    C.blk 2
      [C.loop
          [C.op none (some 32) (O.bin BinOp.lss (Opd.t 31) (Opd.t 30)), C.cond (Opd.t 32) [] [C.exit 2],
            C.blk 3
              [C.op none (some 33) (O.mv (Opd.t 5)),
                C.op none (some 34) (O.call 29 [Opd.c (AV.int IntKind.u8 2), Opd.c AV.nilsl]),
                C.op none (some 35)
                  (O.bsl 2 [AV.int IntKind.u8 0, AV.int IntKind.i64 0] 1 [(0, Opd.t 34)]),
                C.op none (some 36) (O.app 2 (Opd.t 33) (Opd.t 35)), C.op none (some 5) (O.mv (Opd.t 36))],
            C.op none (some 37) (O.bin BinOp.add (Opd.t 31) (Opd.c (AV.int IntKind.i64 1))),
            C.op none (some 31) (O.mv (Opd.t 37))]],
    C.op none (some 38) (O.mv (Opd.t 5)),
    C.op none (some 39) (O.call 29 [Opd.c (AV.int IntKind.u8 16), Opd.c AV.nilsl]),
    C.op none (some 40) (O.bsl 2 [AV.int IntKind.u8 0, AV.int IntKind.i64 0] 1 [(0, Opd.t 39)]),
    C.op none (some 41) (O.app 2 (Opd.t 38) (Opd.t 40)), C.op none (some 5) (O.mv (Opd.t 41)),
    C.op none (some 42) (O.mv (Opd.t 5)), C.op none (some 43) (O.len false (Opd.t 42)),
    C.op none (some 44) (O.bin BinOp.gtr (Opd.t 43) (Opd.c (AV.int IntKind.i64 128))),
    C.cond (Opd.t 44) [C.op none (some 4) (O.mv (Opd.c (AV.bool true))), C.ret] [],
    C.op none (some 6) (O.mv (Opd.c (AV.fn 30 [] []))), C.op none (some 46) (O.mv (Opd.t 6)),
    C.op none (some 47) (O.callv (Opd.t 46) [Opd.c (AV.int IntKind.i64 1)]),
    C.op none (some 48) (O.mv (Opd.t 6)),
    C.op none (some 49) (O.callv (Opd.t 48) [Opd.c (AV.int IntKind.i64 4)]),
    C.op none (some 50) (O.mv (Opd.t 5)),
    C.op none (some 51)
      (O.call 31 [Opd.c (AV.int IntKind.i64 0), Opd.c (AV.int IntKind.i64 0), Opd.t 50]),
    C.op none (some 52)
      (O.bsl 3 [AV.int IntKind.i64 0, AV.int IntKind.i64 0, AV.nilsl] 3
        [(0, Opd.t 47), (1, Opd.t 49), (2, Opd.t 51)]),
    C.op none (some 53) (O.build [AV.nilsl] [(0, 1, Opd.t 52)]), C.op none (some 54) (O.call 32 [Opd.t 53]),
    C.op none (some 45) (O.mv (Opd.t 54)), C.op none (some 55) (O.ext (Opd.t 45) 0),
    C.op none (some 56) (O.ext (Opd.t 45) 1),
    C.op none (some 7) (O.alloc [AV.int IntKind.i64 0, AV.int IntKind.i64 0]),
    C.op none none (O.st 2 (Opd.t 7) (Opd.t 55)), C.op none (some 8) (O.mv (Opd.t 56)),
    C.op none (some 57) (O.mv (Opd.t 0)),
    C.op none (some 58) (O.bin BinOp.leq (Opd.t 57) (Opd.c (AV.int IntKind.i64 64))),
    C.op none (some 59) (O.mv (Opd.t 58)), C.op (some (59, true)) (some 60) (O.mv (Opd.t 0)),
    C.op (some (59, true)) (some 61) (O.mv (Opd.t 1)),
    C.op (some (59, true)) (some 62) (O.bin BinOp.sub (Opd.t 60) (Opd.t 61)),
    C.op (some (59, true)) (some 63) (O.bin BinOp.eql (Opd.t 62) (Opd.c (AV.int IntKind.i64 1))),
    C.op none (some 64) (O.pick (Opd.t 59) (Opd.t 63) (Opd.c (AV.bool false))), C.op none (some 9) (O.mv (Opd.t 64)),
    C.op none (some 65) (O.mv (Opd.t 8)),
    C.op none (some 66) (O.bin BinOp.eql (Opd.t 65) (Opd.c (AV.int IntKind.i64 0))),
    C.op none (some 67) (O.mv (Opd.t 9)), C.op none (some 68) (O.eqb false (Opd.t 66) (Opd.t 67)),
    C.op none (some 69) (O.mv (Opd.t 68)), C.op (some (69, true)) (some 70) (O.mv (Opd.t 9)),
    C.op (some (69, true)) (some 71) (O.mv (Opd.t 70)),
    C.op (some (71, true)) (some 72) (O.ldn [CK.int IntKind.i64, CK.int IntKind.i64] (Opd.t 7)),
    C.op (some (71, true)) (some 73) (O.build [AV.int IntKind.i64 0, AV.int IntKind.i64 0] []),
    C.op (some (71, true)) (some 74) (O.eqa false [CK.int IntKind.i64, CK.int IntKind.i64] (Opd.t 72) (Opd.t 73)),
    C.op (some (69, true)) (some 75) (O.pick (Opd.t 71) (Opd.t 74) (Opd.c (AV.bool false))),
    C.op (some (69, true)) (some 76) (O.mv (Opd.t 75)), C.op (some (76, false)) (some 77) (O.mv (Opd.t 9)),
    C.op (some (76, false)) (some 78) (O.un UnOp.not (Opd.t 77)), C.op (some (76, false)) (some 79) (O.mv (Opd.t 78)),
    C.op (some (79, true)) (some 80) (O.fad 0 (Opd.t 7)),
    C.op (some (79, true)) (some 81) (O.ld (CK.int IntKind.i64) (Opd.t 80)),
    C.op (some (79, true)) (some 82) (O.bin BinOp.eql (Opd.t 81) (Opd.c (AV.int IntKind.i64 2))),
    C.op (some (76, false)) (some 83) (O.pick (Opd.t 79) (Opd.t 82) (Opd.c (AV.bool false))),
    C.op (some (69, true)) (some 84) (O.pick (Opd.t 76) (Opd.c (AV.bool true)) (Opd.t 83)),
    C.op none (some 85) (O.pick (Opd.t 69) (Opd.t 84) (Opd.c (AV.bool false))), C.op none (some 4) (O.mv (Opd.t 85)),
    C.ret]
def r7 : List RV := [RV.t 4]
theorem c7_ok : cC Try.prog Try.f7.ntmps (Try.f7.body.getD .skip) = some c7 := by kernel_rfl

def d8_0 : List It :=
  [(none, some 82, O.mv (Opd.t 13), []),
                    (none, some 83, O.ldn [CK.int IntKind.i64, CK.int IntKind.i64] (Opd.t 15), []),
                    (none, some 84, O.call 37 [Opd.t 83], [1]), (none, some 85, O.mv (Opd.t 7), []),
                    (none, some 86, O.ldn [CK.int IntKind.i64, CK.int IntKind.i64] (Opd.t 15), []),
                    (none, some 87, O.call 36 [Opd.t 85, Opd.t 86], [3, 4, 2]),
                    (none, some 88, O.bin BinOp.sub (Opd.t 84) (Opd.t 87), [2, 5]),
                    (none, some 89, O.bin BinOp.add (Opd.t 82) (Opd.t 88), [0, 6]),
                    (none, some 13, O.mv (Opd.t 89), [7, 5, 0, 1, 2, 3, 4, 5, 6, 7])]
def o8_0 : List (Nat × Bool) := [(0, false), (1, false), (3, false), (4, false), (2, true), (5, true), (6, false), (7, false), (8, true)]
def l8_0 : List (Nat × Bool × It) :=
  [(0, false, (none, some 82, O.mv (Opd.t 13), [])),
   (1, false, (none, some 83, O.ldn [CK.int IntKind.i64, CK.int IntKind.i64] (Opd.t 15), [])),
   (3, false, (none, some 85, O.mv (Opd.t 7), [])),
   (4, false, (none, some 86, O.ldn [CK.int IntKind.i64, CK.int IntKind.i64] (Opd.t 15), [])),
   (2, true, (none, some 84, O.call 37 [Opd.t 83], [1])),
   (5, true, (none, some 87, O.call 36 [Opd.t 85, Opd.t 86], [3, 4, 2])),
   (6, false, (none, some 88, O.bin BinOp.sub (Opd.t 84) (Opd.t 87), [2, 5])),
   (7, false, (none, some 89, O.bin BinOp.add (Opd.t 82) (Opd.t 88), [0, 6])),
   (8, true, (none, some 13, O.mv (Opd.t 89), [7, 5, 0, 1, 2, 3, 4, 5, 6, 7]))]
theorem l8_0_ok : okDraw d8_0 o8_0 = true ∧ mkL d8_0 o8_0 = some l8_0 := ⟨by kernel_rfl, by kernel_rfl⟩

def c8 : List C :=
  [C.op none (some 3) (O.box (Opd.t 0)), C.op none (some 6) (O.mv (Opd.c (AV.bool false))),
    C.op none (some 16) (O.call 24 []), C.op none (some 17) (O.un UnOp.not (Opd.t 16)),
    C.cond (Opd.t 17) [C.op none (some 6) (O.mv (Opd.c (AV.bool false))), C.ret] [],
    C.op none (some 18) (O.ldn [CK.any] (Opd.t 3)), C.op none (some 19) (O.call 33 [Opd.t 18]),
    C.op none none (O.st 1 (Opd.t 3) (Opd.t 19)), C.op none (some 20) (O.ldn [CK.any] (Opd.t 3)),
    C.op none (some 21) (O.call 34 [Opd.t 20]), C.op none (some 7) (O.mv (Opd.t 21)),
    C.op none (some 23) (O.ldn [CK.any] (Opd.t 3)), C.op none (some 24) (O.call 32 [Opd.t 23]),
    C.op none (some 22) (O.mv (Opd.t 24)), C.op none (some 25) (O.ext (Opd.t 22) 0),
    C.op none (some 26) (O.ext (Opd.t 22) 1),
    C.op none (some 8) (O.alloc [AV.int IntKind.i64 0, AV.int IntKind.i64 0]),
    C.op none none (O.st 2 (Opd.t 8) (Opd.t 25)), C.op none (some 9) (O.mv (Opd.t 26)),
    C.op none (some 27) (O.mv (Opd.t 9)),
    C.op none (some 28) (O.bin BinOp.neq (Opd.t 27) (Opd.c (AV.int IntKind.i64 0))),
    C.cond (Opd.t 28) [C.op none (some 6) (O.mv (Opd.c (AV.bool true))), C.ret] [],
    C.op none (some 29) (O.mv (Opd.t 1)),
    C.op none (some 30) (O.bin BinOp.and (Opd.t 29) (Opd.c (AV.int IntKind.i64 255))),
    C.op none (some 31) (O.fad 0 (Opd.t 3)), C.op none (some 32) (O.ld CK.any (Opd.t 31)),
    C.op none (some 33) (O.len false (Opd.t 32)), C.op none (some 34) (O.bin BinOp.rem (Opd.t 30) (Opd.t 33)),
    C.op none (some 1) (O.mv (Opd.t 34)), C.op none (some 36) (O.ldn [CK.any] (Opd.t 3)),
    C.op none (some 37) (O.mv (Opd.t 1)), C.op none (some 38) (O.call 35 [Opd.t 36, Opd.t 37]),
    C.op none (some 35) (O.mv (Opd.t 38)), C.op none (some 39) (O.ext (Opd.t 35) 0),
    C.op none (some 40) (O.ext (Opd.t 35) 1), C.op none (some 10) (O.mv (Opd.t 39)),
    C.op none (some 11) (O.mv (Opd.t 40)), C.op none (some 41) (O.mv (Opd.t 11)),
    C.op none (some 42) (O.un UnOp.not (Opd.t 41)),
    C.cond (Opd.t 42) [C.op none (some 6) (O.mv (Opd.c (AV.bool false))), C.ret] [],
    C.op none (some 12) (O.mv (Opd.c (AV.int IntKind.i64 0))),
    C.op none (some 13) (O.mv (Opd.c (AV.int IntKind.i64 0))),
    C.op none (some 14) (O.mv (Opd.c (AV.int IntKind.i64 0))),
    C.op none (some 43) (O.mv (Opd.c (AV.int IntKind.i64 0))),
    C.blk 0
      [C.loop
          [C.op none (some 44) (O.bin BinOp.lss (Opd.t 43) (Opd.c (AV.int IntKind.i64 200))),
            C.cond (Opd.t 44) [] [C.exit 0],
            C.blk 1
              [C.op none (some 45) (O.mv (Opd.t 12)),
                C.op none (some 46) (O.bin BinOp.lss (Opd.t 45) (Opd.c (AV.int IntKind.i64 0))),
                C.op none (some 47) (O.mv (Opd.t 46)), C.op (some (47, false)) (some 48) (O.mv (Opd.t 12)),
                C.op (some (47, false)) (some 49) (O.mv (Opd.t 7)), C.op (some (47, false)) (some 50) (O.mv (Opd.t 1)),
                C.op (some (47, false)) (some 51) (O.iad 3 (Opd.t 49) (Opd.t 50)),
                C.op (some (47, false)) (some 52) (O.fad 2 (Opd.t 51)),
                C.op (some (47, false)) (some 53) (O.ld CK.any (Opd.t 52)),
                C.op (some (47, false)) (some 54) (O.len false (Opd.t 53)),
                C.op (some (47, false)) (some 55) (O.bin BinOp.geq (Opd.t 48) (Opd.t 54)),
                C.op none (some 56) (O.pick (Opd.t 47) (Opd.c (AV.bool true)) (Opd.t 55)),
                C.op none (some 57) (O.mv (Opd.t 56)), C.op (some (57, false)) (some 58) (O.mv (Opd.t 10)),
                C.op (some (57, false)) (some 59) (O.mv (Opd.t 12)),
                C.op (some (57, false)) (some 60) (O.iad 1 (Opd.t 58) (Opd.t 59)),
                C.op (some (57, false)) (some 61) (O.ld (CK.int IntKind.i64) (Opd.t 60)),
                C.op (some (57, false)) (some 62) (O.mv (Opd.t 13)),
                C.op (some (57, false)) (some 63) (O.bin BinOp.neq (Opd.t 61) (Opd.t 62)),
                C.op none (some 64) (O.pick (Opd.t 57) (Opd.c (AV.bool true)) (Opd.t 63)),
                C.op none (some 65) (O.mv (Opd.t 64)), C.op (some (65, false)) (some 66) (O.mv (Opd.t 13)),
                C.op (some (65, false)) (some 67)
                  (O.bin BinOp.gtr (Opd.t 66) (Opd.c (AV.int IntKind.i64 64))),
                C.op none (some 68) (O.pick (Opd.t 65) (Opd.c (AV.bool true)) (Opd.t 67)),
                C.cond (Opd.t 68) [C.op none (some 6) (O.mv (Opd.c (AV.bool false))), C.ret] [],
                C.op none (some 69) (O.mv (Opd.t 7)), C.op none (some 70) (O.mv (Opd.t 1)),
                C.op none (some 71) (O.iad 3 (Opd.t 69) (Opd.t 70)), C.op none (some 72) (O.fad 2 (Opd.t 71)),
                C.op none (some 73) (O.ld CK.any (Opd.t 72)), C.op none (some 74) (O.mv (Opd.t 12)),
                C.op none (some 75) (O.iad 2 (Opd.t 73) (Opd.t 74)),
                C.op none (some 76) (O.ldn [CK.int IntKind.i64, CK.int IntKind.i64] (Opd.t 75)),
                C.op none (some 15) (O.alloc [AV.int IntKind.i64 0, AV.int IntKind.i64 0]),
                C.op none none (O.st 2 (Opd.t 15) (Opd.t 76)), C.op none (some 77) (O.mv (Opd.t 13)),
                C.op none (some 78) (O.mv (Opd.t 7)),
                C.op none (some 79) (O.ldn [CK.int IntKind.i64, CK.int IntKind.i64] (Opd.t 15)),
                C.op none (some 80) (O.call 36 [Opd.t 78, Opd.t 79]),
                C.op none (some 81) (O.bin BinOp.lss (Opd.t 77) (Opd.t 80)),
                C.cond (Opd.t 81) [C.op none (some 6) (O.mv (Opd.c (AV.bool false))), C.ret] [],
                C.draw d8_0,
                C.blk 2
                  [C.op none (some 91) (O.fad 0 (Opd.t 15)), C.op none (some 92) (O.ld (CK.int IntKind.i64) (Opd.t 91)),
                    C.op none (some 93) (O.bin BinOp.eql (Opd.t 92) (Opd.c (AV.int IntKind.i64 16))),
                    C.op none (some 90) (O.mv (Opd.t 93)),
                    C.cond (Opd.t 90)
                      [C.op none (some 94) (O.mv (Opd.t 13)),
                        C.op none (some 95) (O.bin BinOp.eql (Opd.t 94) (Opd.c (AV.int IntKind.i64 0))),
                        C.op none (some 6) (O.mv (Opd.t 95)), C.ret]
                      [C.op none (some 97) (O.fad 0 (Opd.t 15)),
                        C.op none (some 98) (O.ld (CK.int IntKind.i64) (Opd.t 97)),
                        C.op none (some 99) (O.bin BinOp.eql (Opd.t 98) (Opd.c (AV.int IntKind.i64 13))),
                        C.op none (some 96) (O.mv (Opd.t 99)),
                        C.cond (Opd.t 96)
                          [C.op none (some 100) (O.fad 1 (Opd.t 15)),
                            C.op none (some 101) (O.ld (CK.int IntKind.i64) (Opd.t 100)),
                            C.op none (some 12) (O.mv (Opd.t 101)), C.exit 1]
                          [C.op none (some 103) (O.fad 0 (Opd.t 15)),
                            C.op none (some 104) (O.ld (CK.int IntKind.i64) (Opd.t 103)),
                            C.op none (some 105)
                              (O.bin BinOp.eql (Opd.t 104) (Opd.c (AV.int IntKind.i64 14))),
                            C.op none (some 102) (O.mv (Opd.t 105)),
                            C.cond (Opd.t 102)
                              [C.op none (some 106) (O.mv (Opd.t 14)),
                                C.op none (some 107)
                                  (O.bin BinOp.add (Opd.t 106) (Opd.c (AV.int IntKind.i64 1))),
                                C.op none (some 14) (O.mv (Opd.t 107)), C.op none (some 108) (O.mv (Opd.t 14)),
                                C.op none (some 109) (O.mv (Opd.t 2)), C.op none (some 110) (O.len false (Opd.t 109)),
                                C.op none (some 111) (O.bin BinOp.leq (Opd.t 108) (Opd.t 110)),
                                C.op none (some 112) (O.mv (Opd.t 111)),
                                C.op (some (112, true)) (some 113) (O.mv (Opd.t 2)),
                                C.op (some (112, true)) (some 114) (O.mv (Opd.t 14)),
                                C.op (some (112, true)) (some 115)
                                  (O.bin BinOp.sub (Opd.t 114) (Opd.c (AV.int IntKind.i64 1))),
                                C.op (some (112, true)) (some 116) (O.iad 1 (Opd.t 113) (Opd.t 115)),
                                C.op (some (112, true)) (some 117) (O.ld CK.bool (Opd.t 116)),
                                C.op none (some 118) (O.pick (Opd.t 112) (Opd.t 117) (Opd.c (AV.bool false))),
                                C.cond (Opd.t 118)
                                  [C.op none (some 119) (O.fad 1 (Opd.t 15)),
                                    C.op none (some 120) (O.ld (CK.int IntKind.i64) (Opd.t 119)),
                                    C.op none (some 12) (O.mv (Opd.t 120)), C.exit 1]
                                  []]
                              []]]],
                C.op none (some 121) (O.mv (Opd.t 12)),
                C.op none (some 122) (O.bin BinOp.add (Opd.t 121) (Opd.c (AV.int IntKind.i64 1))),
                C.op none (some 12) (O.mv (Opd.t 122))],
            C.op none (some 123) (O.bin BinOp.add (Opd.t 43) (Opd.c (AV.int IntKind.i64 1))),
            C.op none (some 43) (O.mv (Opd.t 123))]],
    C.op none (some 6) (O.mv (Opd.c (AV.bool true))), C.ret]
def r8 : List RV := [RV.t 6]
theorem c8_ok : cC Try.prog Try.f8.ntmps (Try.f8.body.getD .skip) = some c8 := by kernel_rfl

def d9_0 : List It :=
  [(none, some 19, O.call 11 [], []), (none, some 20, O.un UnOp.not (Opd.t 19), [0]),
        (none, some 21, O.mv (Opd.t 20), [1, 0]), (some (21, false), some 22, O.mv (Opd.t 3), [2]),
        (some (21, false), some 23, O.call 42 [Opd.t 22], [3, 2, 2]),
        (some (21, false), some 24, O.fad 1 (Opd.t 5), [2]),
        (some (21, false), some 25, O.ld (CK.int IntKind.i64) (Opd.t 24), [5, 2]),
        (some (21, false), some 26, O.bin BinOp.neq (Opd.t 23) (Opd.t 25), [4, 6, 2]),
        (none, some 27, O.pick (Opd.t 21) (Opd.c (AV.bool true)) (Opd.t 26), [2, 7]),
        (none, some 28, O.mv (Opd.t 27), [8, 4]), (some (28, false), some 29, O.mv (Opd.t 4), [9]),
        (some (28, false), some 30, O.eqp 0 true (Opd.t 29) (Opd.c AV.nilptr), [10, 9]),
        (some (28, false), some 31, O.fad 1 (Opd.t 5), [9]),
        (some (28, false), some 32, O.ld (CK.int IntKind.i64) (Opd.t 31), [12, 9]),
        (some (28, false), some 33, O.bin BinOp.eql (Opd.t 32) (Opd.c (AV.int IntKind.i64 0)), [13, 9]),
        (some (28, false), some 34, O.eqb true (Opd.t 30) (Opd.t 33), [11, 14, 9]),
        (none, some 35, O.pick (Opd.t 28) (Opd.c (AV.bool true)) (Opd.t 34), [9, 15])]
def o9_0 : List (Nat × Bool) := [(0, true), (1, false), (2, false), (3, false), (5, false), (6, false), (4, true), (7, false), (8, false), (9, false), (10, false), (11, false), (12, false), (13, false), (14, false), (15, false), (16, false)]
def l9_0 : List (Nat × Bool × It) :=
  [(0, true, (none, some 19, O.call 11 [], [])),
   (1, false, (none, some 20, O.un UnOp.not (Opd.t 19), [0])),
   (2, false, (none, some 21, O.mv (Opd.t 20), [1, 0])),
   (3, false, (some (21, false), some 22, O.mv (Opd.t 3), [2])),
   (5, false, (some (21, false), some 24, O.fad 1 (Opd.t 5), [2])),
   (6, false, (some (21, false), some 25, O.ld (CK.int IntKind.i64) (Opd.t 24), [5, 2])),
   (4, true, (some (21, false), some 23, O.call 42 [Opd.t 22], [3, 2, 2])),
   (7, false, (some (21, false), some 26, O.bin BinOp.neq (Opd.t 23) (Opd.t 25), [4, 6, 2])),
   (8, false, (none, some 27, O.pick (Opd.t 21) (Opd.c (AV.bool true)) (Opd.t 26), [2, 7])),
   (9, false, (none, some 28, O.mv (Opd.t 27), [8, 4])),
   (10, false, (some (28, false), some 29, O.mv (Opd.t 4), [9])),
   (11, false, (some (28, false), some 30, O.eqp 0 true (Opd.t 29) (Opd.c AV.nilptr), [10, 9])),
   (12, false, (some (28, false), some 31, O.fad 1 (Opd.t 5), [9])),
   (13, false, (some (28, false), some 32, O.ld (CK.int IntKind.i64) (Opd.t 31), [12, 9])),
   (14, false, (some (28, false), some 33, O.bin BinOp.eql (Opd.t 32) (Opd.c (AV.int IntKind.i64 0)), [13, 9])),
   (15, false, (some (28, false), some 34, O.eqb true (Opd.t 30) (Opd.t 33), [11, 14, 9])),
   (16, false, (none, some 35, O.pick (Opd.t 28) (Opd.c (AV.bool true)) (Opd.t 34), [9, 15]))]
theorem l9_0_ok : okDraw d9_0 o9_0 = true ∧ mkL d9_0 o9_0 = some l9_0 := ⟨by kernel_rfl, by kernel_rfl⟩

def d9_1 : List It :=
  [(none, some 39, O.mv (Opd.t 4), []), (none, some 40, O.call 13 [Opd.t 39], [0]),
        (none, some 41, O.mv (Opd.t 6), []), (none, some 42, O.call 43 [Opd.t 41], [2, 1]),
        (none, some 43, O.bin BinOp.eql (Opd.t 40) (Opd.t 42), [1, 3]), (none, some 44, O.mv (Opd.t 43), [4, 3]),
        (some (44, true), some 45, O.mv (Opd.t 3), [5]), (some (44, true), some 46, O.call 44 [Opd.t 45], [6, 5, 5]),
        (some (44, true), some 47, O.fad 0 (Opd.t 5), [5]), (some (44, true), some 48, O.ld CK.str (Opd.t 47), [8, 5]),
        (some (44, true), some 49, O.len true (Opd.t 48), [9, 5]),
        (some (44, true), some 50, O.bin BinOp.eql (Opd.t 46) (Opd.t 49), [7, 10, 5]),
        (none, some 51, O.pick (Opd.t 44) (Opd.t 50) (Opd.c (AV.bool false)), [5, 11]),
        (none, some 52, O.mv (Opd.t 51), [12, 7]), (some (52, true), some 53, O.mv (Opd.t 4), [13]),
        (some (52, true), some 54, O.call 13 [Opd.t 53], [14, 13, 13]),
        (some (52, true), some 55, O.fad 0 (Opd.t 5), [13]),
        (some (52, true), some 56, O.ld CK.str (Opd.t 55), [16, 13]),
        (some (52, true), some 57, O.bin BinOp.add (Opd.t 54) (Opd.t 56), [15, 17, 13]),
        (some (52, true), some 58, O.mv (Opd.t 0), [13]),
        (some (52, true), some 59, O.bin BinOp.eql (Opd.t 57) (Opd.t 58), [18, 19, 13]),
        (none, some 60, O.pick (Opd.t 52) (Opd.t 59) (Opd.c (AV.bool false)), [13, 20]),
        (none, some 2, O.mv (Opd.t 60),
          [21, 15, 0, 1, 2, 3, 4, 5, 6, 7, 8, 9, 10, 11, 12, 13, 14, 15, 16, 17, 18, 19, 20, 21])]
def o9_1 : List (Nat × Bool) := [(0, false), (2, false), (1, true), (3, true), (4, false), (5, false), (6, false), (8, false), (9, false), (10, false), (7, true), (11, false), (12, false), (13, false), (14, false), (16, false), (17, false), (19, false), (15, true), (18, false), (20, false), (21, false), (22, false)]
def l9_1 : List (Nat × Bool × It) :=
  [(0, false, (none, some 39, O.mv (Opd.t 4), [])),
   (2, false, (none, some 41, O.mv (Opd.t 6), [])),
   (1, true, (none, some 40, O.call 13 [Opd.t 39], [0])),
   (3, true, (none, some 42, O.call 43 [Opd.t 41], [2, 1])),
   (4, false, (none, some 43, O.bin BinOp.eql (Opd.t 40) (Opd.t 42), [1, 3])),
   (5, false, (none, some 44, O.mv (Opd.t 43), [4, 3])),
   (6, false, (some (44, true), some 45, O.mv (Opd.t 3), [5])),
   (8, false, (some (44, true), some 47, O.fad 0 (Opd.t 5), [5])),
   (9, false, (some (44, true), some 48, O.ld CK.str (Opd.t 47), [8, 5])),
   (10, false, (some (44, true), some 49, O.len true (Opd.t 48), [9, 5])),
   (7, true, (some (44, true), some 46, O.call 44 [Opd.t 45], [6, 5, 5])),
   (11, false, (some (44, true), some 50, O.bin BinOp.eql (Opd.t 46) (Opd.t 49), [7, 10, 5])),
   (12, false, (none, some 51, O.pick (Opd.t 44) (Opd.t 50) (Opd.c (AV.bool false)), [5, 11])),
   (13, false, (none, some 52, O.mv (Opd.t 51), [12, 7])),
   (14, false, (some (52, true), some 53, O.mv (Opd.t 4), [13])),
   (16, false, (some (52, true), some 55, O.fad 0 (Opd.t 5), [13])),
   (17, false, (some (52, true), some 56, O.ld CK.str (Opd.t 55), [16, 13])),
   (19, false, (some (52, true), some 58, O.mv (Opd.t 0), [13])),
   (15, true, (some (52, true), some 54, O.call 13 [Opd.t 53], [14, 13, 13])),
   (18, false, (some (52, true), some 57, O.bin BinOp.add (Opd.t 54) (Opd.t 56), [15, 17, 13])),
   (20, false, (some (52, true), some 59, O.bin BinOp.eql (Opd.t 57) (Opd.t 58), [18, 19, 13])),
   (21, false, (none, some 60, O.pick (Opd.t 52) (Opd.t 59) (Opd.c (AV.bool false)), [13, 20])),
   (22, false, (none, some 2, O.mv (Opd.t 60),
          [21, 15, 0, 1, 2, 3, 4, 5, 6, 7, 8, 9, 10, 11, 12, 13, 14, 15, 16, 17, 18, 19, 20, 21]))]
theorem l9_1_ok : okDraw d9_1 o9_1 = true ∧ mkL d9_1 o9_1 = some l9_1 := ⟨by kernel_rfl, by kernel_rfl⟩

def c9 : List C :=
  [C.op none (some 2) (O.mv (Opd.c (AV.bool false))), C.op none (some 7) (O.mv (Opd.t 0)),
    C.op none (some 8) (O.call 38 [Opd.t 7, Opd.c (AV.int IntKind.i64 300)]),
    C.op none (some 0) (O.mv (Opd.t 8)), C.op none (some 9) (O.mv (Opd.t 0)), C.op none (some 10) (O.call 39 [Opd.t 9]),
    C.op none (some 3) (O.mv (Opd.t 10)), C.op none (some 11) (O.mv (Opd.t 3)),
    C.op none (some 12) (O.call 40 [Opd.t 11]), C.op none (some 4) (O.mv (Opd.t 12)),
    C.op none (some 14) (O.mv (Opd.t 0)),
    C.op none (some 15) (O.build [AV.str [], AV.int IntKind.i64 0] [(0, 1, Opd.t 14)]),
    C.op none (some 16) (O.call 41 [Opd.t 15]), C.op none (some 13) (O.mv (Opd.t 16)),
    C.op none (some 17) (O.ext (Opd.t 13) 0), C.op none (some 18) (O.ext (Opd.t 13) 1),
    C.op none (some 5) (O.alloc [AV.str [], AV.int IntKind.i64 0]),
    C.op none none (O.st 2 (Opd.t 5) (Opd.t 17)), C.op none (some 6) (O.mv (Opd.t 18)),
    C.draw d9_0,
    C.cond (Opd.t 35) [C.op none (some 2) (O.mv (Opd.c (AV.bool false))), C.ret] [],
    C.op none (some 36) (O.fad 1 (Opd.t 5)), C.op none (some 37) (O.ld (CK.int IntKind.i64) (Opd.t 36)),
    C.op none (some 38) (O.bin BinOp.neq (Opd.t 37) (Opd.c (AV.int IntKind.i64 0))),
    C.cond (Opd.t 38) [C.op none (some 2) (O.mv (Opd.c (AV.bool true))), C.ret] [],
    C.draw d9_1,
    C.ret]
def r9 : List RV := [RV.t 2]
theorem c9_ok : cC Try.prog Try.f9.ntmps (Try.f9.body.getD .skip) = some c9 := by kernel_rfl

def d10_0 : List It :=
  [(none, some 26, O.mv (Opd.t 0), []), (none, some 27, O.mv (Opd.t 5), []),
                    (none, some 28, O.iad 4 (Opd.t 26) (Opd.t 27), [0, 1]), (none, some 29, O.fad 1 (Opd.t 28), [2]),
                    (none, some 30, O.ld (CK.int IntKind.i64) (Opd.t 29), [3]), (none, some 31, O.mv (Opd.t 0), []),
                    (none, some 32, O.mv (Opd.t 5), []), (none, some 33, O.iad 4 (Opd.t 31) (Opd.t 32), [5, 6]),
                    (none, some 34, O.fad 2 (Opd.t 33), [7]),
                    (none, some 35, O.ld (CK.int IntKind.i64) (Opd.t 34), [8]),
                    (none, some 6, O.mv (Opd.t 30), [4, 0, 1, 2, 3, 4]),
                    (none, some 7, O.mv (Opd.t 35), [9, 10, 0, 1, 2, 3, 4, 5, 6, 7, 8, 9, 10])]
def o10_0 : List (Nat × Bool) := [(0, false), (1, false), (2, false), (3, false), (4, false), (5, false), (6, false), (7, false), (8, false), (9, false), (10, false), (11, false)]
def l10_0 : List (Nat × Bool × It) :=
  [(0, false, (none, some 26, O.mv (Opd.t 0), [])),
   (1, false, (none, some 27, O.mv (Opd.t 5), [])),
   (2, false, (none, some 28, O.iad 4 (Opd.t 26) (Opd.t 27), [0, 1])),
   (3, false, (none, some 29, O.fad 1 (Opd.t 28), [2])),
   (4, false, (none, some 30, O.ld (CK.int IntKind.i64) (Opd.t 29), [3])),
   (5, false, (none, some 31, O.mv (Opd.t 0), [])),
   (6, false, (none, some 32, O.mv (Opd.t 5), [])),
   (7, false, (none, some 33, O.iad 4 (Opd.t 31) (Opd.t 32), [5, 6])),
   (8, false, (none, some 34, O.fad 2 (Opd.t 33), [7])),
   (9, false, (none, some 35, O.ld (CK.int IntKind.i64) (Opd.t 34), [8])),
   (10, false, (none, some 6, O.mv (Opd.t 30), [4, 0, 1, 2, 3, 4])),
   (11, false, (none, some 7, O.mv (Opd.t 35), [9, 10, 0, 1, 2, 3, 4, 5, 6, 7, 8, 9, 10]))]
theorem l10_0_ok : okDraw d10_0 o10_0 = true ∧ mkL d10_0 o10_0 = some l10_0 := ⟨by kernel_rfl, by kernel_rfl⟩

def c10 : List C :=
  [C.op none (some 2) (O.mv (Opd.c (AV.bool false))), C.op none (some 13) (O.call 11 []),
    C.op none (some 14) (O.un UnOp.not (Opd.t 13)),
    C.cond (Opd.t 14) [C.op none (some 2) (O.mv (Opd.c (AV.bool false))), C.ret] [],
    C.op none (some 3)
      (O.alloc
        [AV.int IntKind.i64 0, AV.int IntKind.i64 0, AV.int IntKind.i64 0,
          AV.int IntKind.i64 0, AV.int IntKind.i64 0, AV.int IntKind.i64 0,
          AV.int IntKind.i64 0, AV.int IntKind.i64 0, AV.int IntKind.i64 0,
          AV.int IntKind.i64 0, AV.int IntKind.i64 0, AV.int IntKind.i64 0,
          AV.int IntKind.i64 0, AV.int IntKind.i64 0, AV.int IntKind.i64 0,
          AV.int IntKind.i64 0, AV.int IntKind.i64 0, AV.int IntKind.i64 0,
          AV.int IntKind.i64 0, AV.int IntKind.i64 0, AV.int IntKind.i64 0,
          AV.int IntKind.i64 0, AV.int IntKind.i64 0, AV.int IntKind.i64 0,
          AV.int IntKind.i64 0, AV.int IntKind.i64 0, AV.int IntKind.i64 0,
          AV.int IntKind.i64 0, AV.int IntKind.i64 0, AV.int IntKind.i64 0,
          AV.int IntKind.i64 0, AV.int IntKind.i64 0, AV.int IntKind.i64 0,
          AV.int IntKind.i64 0, AV.int IntKind.i64 0, AV.int IntKind.i64 0,
          AV.int IntKind.i64 0, AV.int IntKind.i64 0, AV.int IntKind.i64 0,
          AV.int IntKind.i64 0, AV.int IntKind.i64 0, AV.int IntKind.i64 0,
          AV.int IntKind.i64 0, AV.int IntKind.i64 0, AV.int IntKind.i64 0,
          AV.int IntKind.i64 0, AV.int IntKind.i64 0, AV.int IntKind.i64 0,
          AV.int IntKind.i64 0, AV.int IntKind.i64 0, AV.int IntKind.i64 0,
          AV.int IntKind.i64 0, AV.int IntKind.i64 0, AV.int IntKind.i64 0,
          AV.int IntKind.i64 0, AV.int IntKind.i64 0, AV.int IntKind.i64 0,
          AV.int IntKind.i64 0, AV.int IntKind.i64 0, AV.int IntKind.i64 0,
          AV.int IntKind.i64 0, AV.int IntKind.i64 0, AV.int IntKind.i64 0,
          AV.int IntKind.i64 0]),
    C.op none (some 15) (O.call 45 []), C.op none (some 4) (O.mv (Opd.t 15)),
    C.op none (some 5) (O.mv (Opd.c (AV.int IntKind.i64 0))),
    C.blk 0
      [C.loop
          [C.op none (some 16) (O.mv (Opd.t 5)), C.op none (some 17) (O.mv (Opd.t 0)),
            C.op none (some 18) (O.len false (Opd.t 17)), C.op none (some 19) (O.bin BinOp.lss (Opd.t 16) (Opd.t 18)),
            C.op none (some 20) (O.mv (Opd.t 19)), C.op (some (20, true)) (some 21) (O.mv (Opd.t 5)),
            C.op (some (20, true)) (some 22) (O.bin BinOp.lss (Opd.t 21) (Opd.c (AV.int IntKind.i64 60))),
            C.op none (some 23) (O.pick (Opd.t 20) (Opd.t 22) (Opd.c (AV.bool false))), C.cond (Opd.t 23) [] [C.exit 0],
            C.blk 1
              [C.draw d10_0,
                C.op none (some 36) (O.mv (Opd.t 6)),
                C.op none (some 37) (O.bin BinOp.geq (Opd.t 36) (Opd.c (AV.int IntKind.i64 0))),
                C.op none (some 38) (O.mv (Opd.t 37)), C.op (some (38, true)) (some 39) (O.mv (Opd.t 6)),
                C.op (some (38, true)) (some 40)
                  (O.bin BinOp.lss (Opd.t 39) (Opd.c (AV.int IntKind.i64 64))),
                C.op none (some 41) (O.pick (Opd.t 38) (Opd.t 40) (Opd.c (AV.bool false))),
                C.op none (some 8) (O.mv (Opd.t 41)), C.op none (some 42) (O.mv (Opd.t 0)),
                C.op none (some 43) (O.mv (Opd.t 5)), C.op none (some 44) (O.iad 4 (Opd.t 42) (Opd.t 43)),
                C.op none (some 45) (O.fad 0 (Opd.t 44)), C.op none (some 46) (O.ld (CK.int IntKind.i64) (Opd.t 45)),
                C.op none (some 47) (O.bin BinOp.eql (Opd.t 46) (Opd.c (AV.int IntKind.i64 7))),
                C.cond (Opd.t 47)
                  [C.op none (some 48) (O.mv (Opd.t 6)), C.op none (some 49) (O.mv (Opd.t 7)),
                    C.op none (some 50) (O.call 12 [Opd.t 3, Opd.t 48, Opd.t 49]), C.op none (some 51) (O.mv (Opd.t 8)),
                    C.op none (some 52) (O.eqb true (Opd.t 50) (Opd.t 51)),
                    C.cond (Opd.t 52) [C.op none (some 2) (O.mv (Opd.c (AV.bool false))), C.ret] [],
                    C.op none (some 53) (O.mv (Opd.t 8)),
                    C.cond (Opd.t 53)
                      [C.op none (some 54) (O.mv (Opd.t 4)), C.op none (some 55) (O.mv (Opd.t 6)),
                        C.op none (some 56) (O.mv (Opd.t 7)), C.op none (some 57) (O.iad 1 (Opd.t 54) (Opd.t 55)),
                        C.op none none (O.st 1 (Opd.t 57) (Opd.t 56))]
                      []]
                  [],
                C.op none (some 59) (O.mv (Opd.t 6)), C.op none (some 60) (O.call 14 [Opd.t 3, Opd.t 59]),
                C.op none (some 58) (O.mv (Opd.t 60)), C.op none (some 61) (O.ext (Opd.t 58) 0),
                C.op none (some 62) (O.ext (Opd.t 58) 1), C.op none (some 9) (O.mv (Opd.t 61)),
                C.op none (some 10) (O.mv (Opd.t 62)), C.op none (some 63) (O.mv (Opd.t 10)),
                C.op none (some 64) (O.mv (Opd.t 8)), C.op none (some 65) (O.eqb true (Opd.t 63) (Opd.t 64)),
                C.op none (some 66) (O.mv (Opd.t 65)), C.op (some (66, false)) (some 67) (O.mv (Opd.t 8)),
                C.op (some (66, false)) (some 68) (O.mv (Opd.t 67)), C.op (some (68, true)) (some 69) (O.mv (Opd.t 9)),
                C.op (some (68, true)) (some 70) (O.mv (Opd.t 4)), C.op (some (68, true)) (some 71) (O.mv (Opd.t 6)),
                C.op (some (68, true)) (some 72) (O.iad 1 (Opd.t 70) (Opd.t 71)),
                C.op (some (68, true)) (some 73) (O.ld (CK.int IntKind.i64) (Opd.t 72)),
                C.op (some (68, true)) (some 74) (O.bin BinOp.neq (Opd.t 69) (Opd.t 73)),
                C.op (some (66, false)) (some 75) (O.pick (Opd.t 68) (Opd.t 74) (Opd.c (AV.bool false))),
                C.op none (some 76) (O.pick (Opd.t 66) (Opd.c (AV.bool true)) (Opd.t 75)),
                C.op none (some 77) (O.mv (Opd.t 76)), C.op (some (77, false)) (some 78) (O.mv (Opd.t 8)),
                C.op (some (77, false)) (some 79) (O.un UnOp.not (Opd.t 78)),
                C.op (some (77, false)) (some 80) (O.mv (Opd.t 79)), C.op (some (80, true)) (some 81) (O.mv (Opd.t 9)),
                C.op (some (80, true)) (some 82)
                  (O.bin BinOp.neq (Opd.t 81) (Opd.c (AV.int IntKind.i64 0))),
                C.op (some (77, false)) (some 83) (O.pick (Opd.t 80) (Opd.t 82) (Opd.c (AV.bool false))),
                C.op none (some 84) (O.pick (Opd.t 77) (Opd.c (AV.bool true)) (Opd.t 83)),
                C.cond (Opd.t 84) [C.op none (some 2) (O.mv (Opd.c (AV.bool false))), C.ret] []],
            C.op none (some 24) (O.mv (Opd.t 5)),
            C.op none (some 25) (O.bin BinOp.add (Opd.t 24) (Opd.c (AV.int IntKind.i64 1))),
            C.op none (some 5) (O.mv (Opd.t 25))]],
    C.op none (some 85) (O.call 13 [Opd.t 3]), C.op none (some 86) (O.call 39 [Opd.t 85]),
    C.op none (some 11) (O.mv (Opd.t 86)), C.op none (some 87) (O.mv (Opd.t 11)),
    C.op none (some 88) (O.call 40 [Opd.t 87]), C.op none (some 12) (O.mv (Opd.t 88)),
    C.op none (some 89) (O.call 13 [Opd.t 3]), C.op none (some 90) (O.mv (Opd.t 4)),
    C.op none (some 91) (O.call 43 [Opd.t 90]), C.op none (some 92) (O.bin BinOp.eql (Opd.t 89) (Opd.t 91)),
    C.op none (some 93) (O.mv (Opd.t 92)), C.op (some (93, true)) (some 94) (O.mv (Opd.t 12)),
    C.op (some (93, true)) (some 95) (O.eqp 0 true (Opd.t 94) (Opd.c AV.nilptr)),
    C.op none (some 96) (O.pick (Opd.t 93) (Opd.t 95) (Opd.c (AV.bool false))), C.op none (some 97) (O.mv (Opd.t 96)),
    C.op (some (97, true)) (some 98) (O.mv (Opd.t 11)), C.op (some (97, true)) (some 99) (O.call 46 [Opd.t 98]),
    C.op (some (97, true)) (some 100) (O.bin BinOp.eql (Opd.t 99) (Opd.c (AV.int IntKind.i64 0))),
    C.op none (some 101) (O.pick (Opd.t 97) (Opd.t 100) (Opd.c (AV.bool false))),
    C.op none (some 102) (O.mv (Opd.t 101)), C.op (some (102, true)) (some 103) (O.mv (Opd.t 12)),
    C.op (some (102, true)) (some 104) (O.call 13 [Opd.t 103]),
    C.op (some (102, true)) (some 105) (O.call 13 [Opd.t 3]),
    C.op (some (102, true)) (some 106) (O.bin BinOp.eql (Opd.t 104) (Opd.t 105)),
    C.op none (some 107) (O.pick (Opd.t 102) (Opd.t 106) (Opd.c (AV.bool false))),
    C.op none (some 2) (O.mv (Opd.t 107)), C.ret]
def r10 : List RV := [RV.t 2]
theorem c10_ok : cC Try.prog Try.f10.ntmps (Try.f10.body.getD .skip) = some c10 := by kernel_rfl

def c11 : List C :=
  [C.op none (some 0) (O.mv (Opd.c (AV.bool false))), C.op none (some 1) (O.alloc [AV.nilsl]),
    C.op none (some 2)
      (O.alloc
        [AV.int IntKind.i64 0, AV.int IntKind.i64 0, AV.int IntKind.i64 0,
          AV.int IntKind.i64 0, AV.int IntKind.i64 0, AV.int IntKind.i64 0,
          AV.int IntKind.i64 0, AV.int IntKind.i64 0, AV.int IntKind.i64 0,
          AV.int IntKind.i64 0, AV.int IntKind.i64 0, AV.int IntKind.i64 0,
          AV.int IntKind.i64 0, AV.int IntKind.i64 0, AV.int IntKind.i64 0,
          AV.int IntKind.i64 0, AV.int IntKind.i64 0, AV.int IntKind.i64 0,
          AV.int IntKind.i64 0, AV.int IntKind.i64 0, AV.int IntKind.i64 0,
          AV.int IntKind.i64 0, AV.int IntKind.i64 0, AV.int IntKind.i64 0,
          AV.int IntKind.i64 0, AV.int IntKind.i64 0, AV.int IntKind.i64 0,
          AV.int IntKind.i64 0, AV.int IntKind.i64 0, AV.int IntKind.i64 0,
          AV.int IntKind.i64 0, AV.int IntKind.i64 0, AV.int IntKind.i64 0,
          AV.int IntKind.i64 0, AV.int IntKind.i64 0, AV.int IntKind.i64 0,
          AV.int IntKind.i64 0, AV.int IntKind.i64 0, AV.int IntKind.i64 0,
          AV.int IntKind.i64 0, AV.int IntKind.i64 0, AV.int IntKind.i64 0,
          AV.int IntKind.i64 0, AV.int IntKind.i64 0, AV.int IntKind.i64 0,
          AV.int IntKind.i64 0, AV.int IntKind.i64 0, AV.int IntKind.i64 0,
          AV.int IntKind.i64 0, AV.int IntKind.i64 0, AV.int IntKind.i64 0,
          AV.int IntKind.i64 0, AV.int IntKind.i64 0, AV.int IntKind.i64 0,
          AV.int IntKind.i64 0, AV.int IntKind.i64 0, AV.int IntKind.i64 0,
          AV.int IntKind.i64 0, AV.int IntKind.i64 0, AV.int IntKind.i64 0,
          AV.int IntKind.i64 0, AV.int IntKind.i64 0, AV.int IntKind.i64 0,
          AV.int IntKind.i64 0]),
    C.op none (some 5)
      (O.bsl 1 [AV.int IntKind.i64 0] 3
        [(0, Opd.c (AV.int IntKind.i64 1)), (1, Opd.c (AV.int IntKind.i64 2)),
          (2, Opd.c (AV.int IntKind.i64 3))]),
    C.op none (some 6) (O.call 21 [Opd.t 1, Opd.t 5]), C.op none (some 7) (O.un UnOp.not (Opd.t 6)),
    C.op none (some 8) (O.mv (Opd.t 7)),
    C.op (some (8, false)) (some 9)
      (O.call 12 [Opd.t 2, Opd.c (AV.int IntKind.i64 2), Opd.c (AV.int IntKind.i64 (-1))]),
    C.op (some (8, false)) (some 10) (O.un UnOp.not (Opd.t 9)),
    C.op none (some 11) (O.pick (Opd.t 8) (Opd.c (AV.bool true)) (Opd.t 10)),
    C.cond (Opd.t 11) [C.op none (some 0) (O.mv (Opd.c (AV.bool false))), C.ret] [],
    C.op none (some 13) (O.call 22 [Opd.t 1, Opd.c (AV.int IntKind.i64 2)]),
    C.op none (some 12) (O.mv (Opd.t 13)), C.op none (some 14) (O.ext (Opd.t 12) 0),
    C.op none (some 15) (O.ext (Opd.t 12) 1), C.op none (some 3) (O.mv (Opd.t 14)),
    C.op none (some 4) (O.mv (Opd.t 15)), C.op none (some 16) (O.mv (Opd.t 4)), C.op none (some 17) (O.mv (Opd.t 16)),
    C.op (some (17, true)) (some 18) (O.mv (Opd.t 3)), C.op (some (17, true)) (some 19) (O.len false (Opd.t 18)),
    C.op (some (17, true)) (some 20) (O.bin BinOp.eql (Opd.t 19) (Opd.c (AV.int IntKind.i64 2))),
    C.op none (some 21) (O.pick (Opd.t 17) (Opd.t 20) (Opd.c (AV.bool false))), C.op none (some 22) (O.mv (Opd.t 21)),
    C.op (some (22, true)) (some 23) (O.mv (Opd.t 3)),
    C.op (some (22, true)) (some 24) (O.iad 1 (Opd.t 23) (Opd.c (AV.int IntKind.i64 0))),
    C.op (some (22, true)) (some 25) (O.ld (CK.int IntKind.i64) (Opd.t 24)),
    C.op (some (22, true)) (some 26) (O.bin BinOp.eql (Opd.t 25) (Opd.c (AV.int IntKind.i64 2))),
    C.op none (some 27) (O.pick (Opd.t 22) (Opd.t 26) (Opd.c (AV.bool false))), C.op none (some 28) (O.mv (Opd.t 27)),
    C.op (some (28, true)) (some 29) (O.mv (Opd.t 3)),
    C.op (some (28, true)) (some 30) (O.iad 1 (Opd.t 29) (Opd.c (AV.int IntKind.i64 1))),
    C.op (some (28, true)) (some 31) (O.ld (CK.int IntKind.i64) (Opd.t 30)),
    C.op (some (28, true)) (some 32) (O.bin BinOp.eql (Opd.t 31) (Opd.c (AV.int IntKind.i64 3))),
    C.op none (some 33) (O.pick (Opd.t 28) (Opd.t 32) (Opd.c (AV.bool false))), C.op none (some 34) (O.mv (Opd.t 33)),
    C.op (some (34, true)) (some 35) (O.call 19 [Opd.t 1]),
    C.op (some (34, true)) (some 36) (O.bin BinOp.eql (Opd.t 35) (Opd.c (AV.int IntKind.i64 1))),
    C.op none (some 37) (O.pick (Opd.t 34) (Opd.t 36) (Opd.c (AV.bool false))), C.op none (some 38) (O.mv (Opd.t 37)),
    C.op (some (38, true)) (some 39) (O.call 13 [Opd.t 2]),
    C.op (some (38, true)) (some 40)
      (O.bin BinOp.eql (Opd.t 39)
        (Opd.c
          (AV.str
            [3,
              0,
              0,
              1]))),
    C.op none (some 41) (O.pick (Opd.t 38) (Opd.t 40) (Opd.c (AV.bool false))), C.op none (some 42) (O.mv (Opd.t 41)),
    C.op (some (42, true)) (some 43)
      (O.bsl 1 [AV.int IntKind.i64 0] 1 [(0, Opd.c (AV.int IntKind.i64 5))]),
    C.op (some (42, true)) (some 44)
      (O.call 15 [Opd.c (AV.int IntKind.i64 1), Opd.c (AV.int IntKind.i64 1), Opd.t 43]),
    C.op (some (42, true)) (some 45) (O.eqp 0 true (Opd.t 44) (Opd.c AV.nilptr)),
    C.op none (some 46) (O.pick (Opd.t 42) (Opd.t 45) (Opd.c (AV.bool false))), C.op none (some 47) (O.mv (Opd.t 46)),
    C.op (some (47, true)) (some 48)
      (O.bsl 1 [AV.int IntKind.i64 0] 1 [(0, Opd.c (AV.int IntKind.i64 5))]),
    C.op (some (47, true)) (some 49)
      (O.call 15 [Opd.c (AV.int IntKind.i64 1), Opd.c (AV.int IntKind.i64 1), Opd.t 48]),
    C.op (some (47, true)) (some 50) (O.nck (Opd.t 49)), C.op (some (47, true)) (some 51) (O.fad 0 (Opd.t 50)),
    C.op (some (47, true)) (some 52) (O.ld CK.any (Opd.t 51)),
    C.op (some (47, true)) (some 53) (O.eqp 0 true (Opd.t 52) (Opd.c AV.nilptr)),
    C.op none (some 54) (O.pick (Opd.t 47) (Opd.t 53) (Opd.c (AV.bool false))), C.op none (some 0) (O.mv (Opd.t 54)),
    C.ret]
def r11 : List RV := [RV.t 0]
theorem c11_ok : cC Try.prog Try.f11.ntmps (Try.f11.body.getD .skip) = some c11 := by kernel_rfl

def c12 : List C :=
  [C.op none (some 6) (O.mv (Opd.c (AV.bool false))), C.op none (some 7) (O.mv (Opd.t 1)),
    C.op none (some 8) (O.bin BinOp.lss (Opd.t 7) (Opd.c (AV.int IntKind.i64 0))),
    C.op none (some 9) (O.mv (Opd.t 8)), C.op (some (9, false)) (some 10) (O.mv (Opd.t 1)),
    C.op (some (9, false)) (some 11) (O.bin BinOp.geq (Opd.t 10) (Opd.c (AV.int IntKind.i64 64))),
    C.op none (some 12) (O.pick (Opd.t 9) (Opd.c (AV.bool true)) (Opd.t 11)),
    C.cond (Opd.t 12) [C.op none (some 6) (O.mv (Opd.c (AV.bool false))), C.ret] [],
    C.op none (some 13) (O.mv (Opd.t 0)), C.op none (some 14) (O.mv (Opd.t 1)), C.op none (some 15) (O.mv (Opd.t 2)),
    C.op none (some 16) (O.nck (Opd.t 13)), C.op none (some 17) (O.fad 0 (Opd.t 16)),
    C.op none (some 18) (O.iaa 64 (Opd.t 17) (Opd.t 14)), C.op none none (O.st 1 (Opd.t 18) (Opd.t 15)),
    C.op none (some 6) (O.mv (Opd.c (AV.bool true))), C.ret]
def r12 : List RV := [RV.t 6]
theorem c12_ok : cC Try.prog Try.f12.ntmps (Try.f12.body.getD .skip) = some c12 := by kernel_rfl

def d13_0 : List It :=
  [(none, some 7, O.mv (Opd.t 4), []),
        (none, some 8, O.bsl 1 [AV.int IntKind.i64 0] 1 [(0, Opd.t 7)], [0]),
        (none, some 9, O.call 48 [Opd.t 3, Opd.t 8], [1]), (none, some 10, O.mv (Opd.t 0), []),
        (none, some 11, O.nck (Opd.t 10), [3]), (none, some 12, O.fad 0 (Opd.t 11), [4]),
        (none, some 13, O.mv (Opd.t 4), []), (none, some 14, O.asl 64 (Opd.t 12) none (some (Opd.t 13)), [5, 6]),
        (none, some 15, O.call 49 [Opd.t 9, Opd.t 14], [2, 7, 2]), (none, some 16, O.call 50 [Opd.t 15], [8, 8]),
        (none, some 2, O.mv (Opd.t 16), [9, 9, 0, 1, 2, 3, 4, 5, 6, 7, 8, 9])]
def o13_0 : List (Nat × Bool) := [(0, false), (1, false), (3, false), (4, false), (5, false), (6, false), (7, false), (2, true), (8, true), (9, true), (10, false)]
def l13_0 : List (Nat × Bool × It) :=
  [(0, false, (none, some 7, O.mv (Opd.t 4), [])),
   (1, false, (none, some 8, O.bsl 1 [AV.int IntKind.i64 0] 1 [(0, Opd.t 7)], [0])),
   (3, false, (none, some 10, O.mv (Opd.t 0), [])),
   (4, false, (none, some 11, O.nck (Opd.t 10), [3])),
   (5, false, (none, some 12, O.fad 0 (Opd.t 11), [4])),
   (6, false, (none, some 13, O.mv (Opd.t 4), [])),
   (7, false, (none, some 14, O.asl 64 (Opd.t 12) none (some (Opd.t 13)), [5, 6])),
   (2, true, (none, some 9, O.call 48 [Opd.t 3, Opd.t 8], [1])),
   (8, true, (none, some 15, O.call 49 [Opd.t 9, Opd.t 14], [2, 7, 2])),
   (9, true, (none, some 16, O.call 50 [Opd.t 15], [8, 8])),
   (10, false, (none, some 2, O.mv (Opd.t 16), [9, 9, 0, 1, 2, 3, 4, 5, 6, 7, 8, 9]))]
theorem l13_0_ok : okDraw d13_0 o13_0 = true ∧ mkL d13_0 o13_0 = some l13_0 := ⟨by kernel_rfl, by kernel_rfl⟩

def c13 : List C :=
  [C.op none (some 2) (O.mv (Opd.c (AV.str []))), C.op none (some 3) (O.alloc [AV.nilsl]),
    C.op none (some 5) (O.mv (Opd.t 0)), C.op none (some 6) (O.call 47 [Opd.t 5]), C.op none (some 4) (O.mv (Opd.t 6)),
    C.draw d13_0,
    C.ret]
def r13 : List RV := [RV.t 2]
theorem c13_ok : cC Try.prog Try.f13.ntmps (Try.f13.body.getD .skip) = some c13 := by kernel_rfl

def c14 : List C :=
  [C.op none (some 4) (O.mv (Opd.c (AV.int IntKind.i64 0))),
    C.op none (some 5) (O.mv (Opd.c (AV.bool false))), C.op none (some 6) (O.mv (Opd.t 1)),
    C.op none (some 7) (O.bin BinOp.lss (Opd.t 6) (Opd.c (AV.int IntKind.i64 0))),
    C.op none (some 8) (O.mv (Opd.t 7)), C.op (some (8, false)) (some 9) (O.mv (Opd.t 1)),
    C.op (some (8, false)) (some 10) (O.bin BinOp.geq (Opd.t 9) (Opd.c (AV.int IntKind.i64 64))),
    C.op none (some 11) (O.pick (Opd.t 8) (Opd.c (AV.bool true)) (Opd.t 10)),
    C.cond (Opd.t 11)
      [C.op none (some 4) (O.mv (Opd.c (AV.int IntKind.i64 0))),
        C.op none (some 5) (O.mv (Opd.c (AV.bool false))), C.ret]
      [],
    C.op none (some 12) (O.mv (Opd.t 0)), C.op none (some 13) (O.mv (Opd.t 1)), C.op none (some 14) (O.nck (Opd.t 12)),
    C.op none (some 15) (O.fad 0 (Opd.t 14)), C.op none (some 16) (O.iaa 64 (Opd.t 15) (Opd.t 13)),
    C.op none (some 17) (O.ld (CK.int IntKind.i64) (Opd.t 16)), C.op none (some 4) (O.mv (Opd.t 17)),
    C.op none (some 5) (O.mv (Opd.c (AV.bool true))), C.ret]
def r14 : List RV := [RV.t 4, RV.t 5]
theorem c14_ok : cC Try.prog Try.f14.ntmps (Try.f14.body.getD .skip) = some c14 := by kernel_rfl

def c15 : List C :=
  [C.op none (some 6) (O.mv (Opd.c AV.nilptr)), C.op none (some 8) (O.mv (Opd.t 1)),
    C.op none (some 9) (O.mn [Opd.t 8, Opd.c (AV.int IntKind.i64 16)]),
    C.op none (some 10) (O.mx [Opd.c (AV.int IntKind.i64 0), Opd.t 9]),
    C.op none (some 11) (O.mksl 1 [AV.int IntKind.i64 0] 8 (Opd.t 10) (Opd.t 10)),
    C.op none (some 7) (O.mv (Opd.t 11)), C.op none (some 12) (O.mv (Opd.t 7)), C.op none (some 13) (O.mv (Opd.t 2)),
    C.op none (some 14) (O.cpy 1 (Opd.t 12) (Opd.t 13)), C.op none (some 15) (O.build [AV.nilsl] []),
    C.op none (some 16) (O.box (Opd.t 15)), C.op none (some 17) (O.mv (Opd.t 0)), C.op none (some 18) (O.mv (Opd.t 7)),
    C.op none (some 19)
      (O.build [AV.nilptr, AV.int IntKind.i64 0, AV.int IntKind.i64 0, AV.nilsl]
        [(0, 1, Opd.t 16), (1, 1, Opd.t 17), (3, 1, Opd.t 18)]),
    C.op none (some 20) (O.box (Opd.t 19)), C.op none (some 6) (O.mv (Opd.t 20)), C.ret]
def r15 : List RV := [RV.t 6]
theorem c15_ok : cC Try.prog Try.f15.ntmps (Try.f15.body.getD .skip) = some c15 := by kernel_rfl

def c16 : List C :=
  [C.op none (some 4) (O.mv (Opd.c AV.nilsl)), C.op none (some 7) (O.bsl 1 [AV.int IntKind.i64 0] 0 []),
    C.op none (some 5) (O.mv (Opd.t 7)), C.op none (some 6) (O.mv (Opd.c (AV.int IntKind.i64 0))),
    C.blk 0
      [C.loop
          [C.op none (some 8) (O.mv (Opd.t 6)), C.op none (some 9) (O.mv (Opd.t 0)),
            C.op none (some 10) (O.mn [Opd.t 9, Opd.c (AV.int IntKind.i64 16)]),
            C.op none (some 11) (O.bin BinOp.lss (Opd.t 8) (Opd.t 10)), C.cond (Opd.t 11) [] [C.exit 0],
            C.blk 1
              [C.op none (some 14) (O.mv (Opd.t 6)), C.op none (some 15) (O.mv (Opd.t 1)),
                C.op none (some 16) (O.len false (Opd.t 15)),
                C.op none (some 17) (O.bin BinOp.lss (Opd.t 14) (Opd.t 16)),
                C.cond (Opd.t 17)
                  [C.op none (some 18) (O.mv (Opd.t 5)), C.op none (some 19) (O.mv (Opd.t 1)),
                    C.op none (some 20) (O.mv (Opd.t 6)), C.op none (some 21) (O.iad 1 (Opd.t 19) (Opd.t 20)),
                    C.op none (some 22) (O.ld (CK.int IntKind.i64) (Opd.t 21)),
                    C.op none (some 23) (O.bsl 1 [AV.int IntKind.i64 0] 1 [(0, Opd.t 22)]),
                    C.op none (some 24) (O.app 1 (Opd.t 18) (Opd.t 23)), C.op none (some 5) (O.mv (Opd.t 24))]
                  [C.op none (some 25) (O.mv (Opd.t 5)),
                    C.op none (some 26)
                      (O.bsl 1 [AV.int IntKind.i64 0] 1 [(0, Opd.c (AV.int IntKind.i64 0))]),
                    C.op none (some 27) (O.app 1 (Opd.t 25) (Opd.t 26)), C.op none (some 5) (O.mv (Opd.t 27))]],
            C.op none (some 12) (O.mv (Opd.t 6)),
            C.op none (some 13) (O.bin BinOp.add (Opd.t 12) (Opd.c (AV.int IntKind.i64 1))),
            C.op none (some 6) (O.mv (Opd.t 13))]],
    C.op none (some 28) (O.mv (Opd.t 5)), C.op none (some 4) (O.mv (Opd.t 28)), C.ret]
def r16 : List RV := [RV.t 4]
theorem c16_ok : cC Try.prog Try.f16.ntmps (Try.f16.body.getD .skip) = some c16 := by kernel_rfl

def d17_0 : List It :=
  [(none, some 29, O.mv (Opd.t 0), []), (none, some 30, O.nck (Opd.t 29), [0]),
                (none, some 31, O.fad 0 (Opd.t 30), [1]), (none, some 32, O.ld CK.any (Opd.t 31), [2]),
                (none, some 33, O.fad 3 (Opd.t 5), []), (none, some 34, O.ld CK.any (Opd.t 33), [4]),
                (none, some 35, O.call 21 [Opd.t 32, Opd.t 34], [3, 5]),
                (none, some 8, O.mv (Opd.t 35), [6, 6, 0, 1, 2, 3, 4, 5, 6])]
def o17_0 : List (Nat × Bool) := [(0, false), (1, false), (2, false), (3, false), (4, false), (5, false), (6, true), (7, false)]
def l17_0 : List (Nat × Bool × It) :=
  [(0, false, (none, some 29, O.mv (Opd.t 0), [])),
   (1, false, (none, some 30, O.nck (Opd.t 29), [0])),
   (2, false, (none, some 31, O.fad 0 (Opd.t 30), [1])),
   (3, false, (none, some 32, O.ld CK.any (Opd.t 31), [2])),
   (4, false, (none, some 33, O.fad 3 (Opd.t 5), [])),
   (5, false, (none, some 34, O.ld CK.any (Opd.t 33), [4])),
   (6, true, (none, some 35, O.call 21 [Opd.t 32, Opd.t 34], [3, 5])),
   (7, false, (none, some 8, O.mv (Opd.t 35), [6, 6, 0, 1, 2, 3, 4, 5, 6]))]
theorem l17_0_ok : okDraw d17_0 o17_0 = true ∧ mkL d17_0 o17_0 = some l17_0 := ⟨by kernel_rfl, by kernel_rfl⟩

def d17_1 : List It :=
  [(none, some 60, O.mv (Opd.t 1), []), (none, some 61, O.mv (Opd.t 1), []),
                    (none, some 62, O.len false (Opd.t 61), [1]),
                    (none, some 63, O.bin BinOp.sub (Opd.t 62) (Opd.c (AV.int IntKind.i64 1)), [2]),
                    (none, some 64, O.lsl 1 (Opd.t 60) none (some (Opd.t 63)) none, [0, 3]),
                    (none, some 65, O.mv (Opd.t 11), []), (none, some 66, O.mv (Opd.t 1), []),
                    (none, some 67, O.mv (Opd.t 1), []), (none, some 68, O.len false (Opd.t 67), [7]),
                    (none, some 69, O.bin BinOp.sub (Opd.t 68) (Opd.c (AV.int IntKind.i64 1)), [8]),
                    (none, some 70, O.iad 1 (Opd.t 66) (Opd.t 69), [6, 9]),
                    (none, some 71, O.ld (CK.int IntKind.i64) (Opd.t 70), [10]),
                    (none, some 72, O.bin BinOp.eql (Opd.t 65) (Opd.t 71), [5, 11]),
                    (none, some 6, O.mv (Opd.t 64), [4, 0, 1, 2, 3, 4]),
                    (none, some 7, O.mv (Opd.t 72), [12, 13, 0, 1, 2, 3, 4, 5, 6, 7, 8, 9, 10, 11, 12, 13])]
def o17_1 : List (Nat × Bool) := [(0, false), (1, false), (2, false), (3, false), (4, false), (5, false), (6, false), (7, false), (8, false), (9, false), (10, false), (11, false), (12, false), (13, false), (14, false)]
def l17_1 : List (Nat × Bool × It) :=
  [(0, false, (none, some 60, O.mv (Opd.t 1), [])),
   (1, false, (none, some 61, O.mv (Opd.t 1), [])),
   (2, false, (none, some 62, O.len false (Opd.t 61), [1])),
   (3, false, (none, some 63, O.bin BinOp.sub (Opd.t 62) (Opd.c (AV.int IntKind.i64 1)), [2])),
   (4, false, (none, some 64, O.lsl 1 (Opd.t 60) none (some (Opd.t 63)) none, [0, 3])),
   (5, false, (none, some 65, O.mv (Opd.t 11), [])),
   (6, false, (none, some 66, O.mv (Opd.t 1), [])),
   (7, false, (none, some 67, O.mv (Opd.t 1), [])),
   (8, false, (none, some 68, O.len false (Opd.t 67), [7])),
   (9, false, (none, some 69, O.bin BinOp.sub (Opd.t 68) (Opd.c (AV.int IntKind.i64 1)), [8])),
   (10, false, (none, some 70, O.iad 1 (Opd.t 66) (Opd.t 69), [6, 9])),
   (11, false, (none, some 71, O.ld (CK.int IntKind.i64) (Opd.t 70), [10])),
   (12, false, (none, some 72, O.bin BinOp.eql (Opd.t 65) (Opd.t 71), [5, 11])),
   (13, false, (none, some 6, O.mv (Opd.t 64), [4, 0, 1, 2, 3, 4])),
   (14, false, (none, some 7, O.mv (Opd.t 72), [12, 13, 0, 1, 2, 3, 4, 5, 6, 7, 8, 9, 10, 11, 12, 13]))]
theorem l17_1_ok : okDraw d17_1 o17_1 = true ∧ mkL d17_1 o17_1 = some l17_1 := ⟨by kernel_rfl, by kernel_rfl⟩

def d17_2 : List It :=
  [(none, some 74, O.mv (Opd.t 0), []), (none, some 75, O.nck (Opd.t 74), [0]),
        (none, some 76, O.fad 0 (Opd.t 75), [1]), (none, some 77, O.ld CK.any (Opd.t 76), [2]),
        (none, some 78, O.fad 1 (Opd.t 5), []), (none, some 79, O.ld (CK.int IntKind.i64) (Opd.t 78), [4]),
        (none, some 80, O.call 22 [Opd.t 77, Opd.t 79], [3, 5]), (none, some 73, O.mv (Opd.t 80), [6]),
        (none, some 81, O.ext (Opd.t 73) 0, [7]), (none, some 82, O.ext (Opd.t 73) 1, [7]),
        (none, some 12, O.mv (Opd.t 81), [8, 6, 0, 1, 2, 3, 4, 5, 6, 7, 8]),
        (none, some 13, O.mv (Opd.t 82), [9, 10, 0, 1, 2, 3, 4, 5, 6, 7, 8, 9, 10])]
def o17_2 : List (Nat × Bool) := [(0, false), (1, false), (2, false), (3, false), (4, false), (5, false), (6, true), (7, false), (8, false), (9, false), (10, false), (11, false)]
def l17_2 : List (Nat × Bool × It) :=
  [(0, false, (none, some 74, O.mv (Opd.t 0), [])),
   (1, false, (none, some 75, O.nck (Opd.t 74), [0])),
   (2, false, (none, some 76, O.fad 0 (Opd.t 75), [1])),
   (3, false, (none, some 77, O.ld CK.any (Opd.t 76), [2])),
   (4, false, (none, some 78, O.fad 1 (Opd.t 5), [])),
   (5, false, (none, some 79, O.ld (CK.int IntKind.i64) (Opd.t 78), [4])),
   (6, true, (none, some 80, O.call 22 [Opd.t 77, Opd.t 79], [3, 5])),
   (7, false, (none, some 73, O.mv (Opd.t 80), [6])),
   (8, false, (none, some 81, O.ext (Opd.t 73) 0, [7])),
   (9, false, (none, some 82, O.ext (Opd.t 73) 1, [7])),
   (10, false, (none, some 12, O.mv (Opd.t 81), [8, 6, 0, 1, 2, 3, 4, 5, 6, 7, 8])),
   (11, false, (none, some 13, O.mv (Opd.t 82), [9, 10, 0, 1, 2, 3, 4, 5, 6, 7, 8, 9, 10]))]
theorem l17_2_ok : okDraw d17_2 o17_2 = true ∧ mkL d17_2 o17_2 = some l17_2 := ⟨by kernel_rfl, by kernel_rfl⟩

def c17 : List C :=
  [C.op none (some 5) (O.box (Opd.t 2)), C.op none (some 6) (O.mv (Opd.c AV.nilsl)),
    C.op none (some 7) (O.mv (Opd.c (AV.bool false))), C.op none (some 17) (O.fad 0 (Opd.t 5)),
    C.op none (some 18) (O.ld (CK.int IntKind.i64) (Opd.t 17)),
    C.blk 0
      [C.op none (some 20) (O.bin BinOp.eql (Opd.t 18) (Opd.c (AV.int IntKind.i64 1))),
        C.op none (some 19) (O.mv (Opd.t 20)),
        C.cond (Opd.t 19)
          [C.op none (some 21) (O.fad 3 (Opd.t 5)), C.op none (some 22) (O.ld CK.any (Opd.t 21)),
            C.op none (some 23) (O.len false (Opd.t 22)),
            C.op none (some 24) (O.bin BinOp.gtr (Opd.t 23) (Opd.c (AV.int IntKind.i64 40))),
            C.cond (Opd.t 24)
              [C.op none (some 25) (O.fad 3 (Opd.t 5)), C.op none (some 26) (O.ld CK.any (Opd.t 25)),
                C.op none (some 27) (O.lsl 1 (Opd.t 26) none (some (Opd.c (AV.int IntKind.i64 40))) none),
                C.op none (some 28) (O.fad 3 (Opd.t 5)), C.op none none (O.st 1 (Opd.t 28) (Opd.t 27))]
              [],
            C.draw d17_0,
            C.op none (some 37) (O.mv (Opd.t 1)), C.op none (some 38) (O.fad 3 (Opd.t 5)),
            C.op none (some 39) (O.ld CK.any (Opd.t 38)), C.op none (some 40) (O.call 51 [Opd.t 37, Opd.t 39]),
            C.op none (some 36) (O.mv (Opd.t 40)), C.op none (some 41) (O.ext (Opd.t 36) 0),
            C.op none (some 42) (O.ext (Opd.t 36) 1), C.op none (some 9) (O.mv (Opd.t 41)),
            C.op none (some 10) (O.mv (Opd.t 42)), C.op none (some 43) (O.mv (Opd.t 9)),
            C.op none (some 44) (O.mv (Opd.t 8)), C.op none (some 45) (O.mv (Opd.t 10)),
            C.op none (some 46) (O.eqb false (Opd.t 44) (Opd.t 45)), C.op none (some 6) (O.mv (Opd.t 43)),
            C.op none (some 7) (O.mv (Opd.t 46)), C.ret]
          [C.op none (some 48) (O.bin BinOp.eql (Opd.t 18) (Opd.c (AV.int IntKind.i64 2))),
            C.op none (some 47) (O.mv (Opd.t 48)),
            C.cond (Opd.t 47)
              [C.op none (some 49) (O.mv (Opd.t 0)), C.op none (some 50) (O.nck (Opd.t 49)),
                C.op none (some 51) (O.fad 0 (Opd.t 50)), C.op none (some 52) (O.ld CK.any (Opd.t 51)),
                C.op none (some 53) (O.call 23 [Opd.t 52]), C.op none (some 11) (O.mv (Opd.t 53)),
                C.op none (some 54) (O.mv (Opd.t 1)), C.op none (some 55) (O.len false (Opd.t 54)),
                C.op none (some 56) (O.bin BinOp.eql (Opd.t 55) (Opd.c (AV.int IntKind.i64 0))),
                C.cond (Opd.t 56)
                  [C.op none (some 57) (O.mv (Opd.t 1)), C.op none (some 58) (O.mv (Opd.t 11)),
                    C.op none (some 59) (O.bin BinOp.eql (Opd.t 58) (Opd.c (AV.int IntKind.i64 0))),
                    C.op none (some 6) (O.mv (Opd.t 57)), C.op none (some 7) (O.mv (Opd.t 59)), C.ret]
                  [],
                C.draw d17_1,
                C.ret]
              []]],
    C.draw d17_2,
    C.op none (some 84) (O.mv (Opd.t 1)), C.op none (some 85) (O.fad 1 (Opd.t 5)),
    C.op none (some 86) (O.ld (CK.int IntKind.i64) (Opd.t 85)), C.op none (some 87) (O.call 52 [Opd.t 84, Opd.t 86]),
    C.op none (some 83) (O.mv (Opd.t 87)), C.op none (some 88) (O.ext (Opd.t 83) 0),
    C.op none (some 89) (O.ext (Opd.t 83) 1), C.op none (some 90) (O.ext (Opd.t 83) 2),
    C.op none (some 14) (O.mv (Opd.t 88)), C.op none (some 15) (O.mv (Opd.t 89)), C.op none (some 16) (O.mv (Opd.t 90)),
    C.op none (some 91) (O.mv (Opd.t 14)), C.op none (some 92) (O.mv (Opd.t 13)), C.op none (some 93) (O.mv (Opd.t 16)),
    C.op none (some 94) (O.eqb false (Opd.t 92) (Opd.t 93)), C.op none (some 95) (O.mv (Opd.t 94)),
    C.op (some (95, true)) (some 96) (O.mv (Opd.t 12)), C.op (some (95, true)) (some 97) (O.mv (Opd.t 15)),
    C.op (some (95, true)) (some 98) (O.call 53 [Opd.t 96, Opd.t 97]),
    C.op (some (95, true)) (some 99) (O.bin BinOp.eql (Opd.t 98) (Opd.c (AV.int IntKind.i64 0))),
    C.op none (some 100) (O.pick (Opd.t 95) (Opd.t 99) (Opd.c (AV.bool false))), C.op none (some 6) (O.mv (Opd.t 91)),
    C.op none (some 7) (O.mv (Opd.t 100)), C.ret]
def r17 : List RV := [RV.t 6, RV.t 7]
theorem c17_ok : cC Try.prog Try.f17.ntmps (Try.f17.body.getD .skip) = some c17 := by kernel_rfl

def c18 : List C :=
  [C.op none (some 6) (O.mv (Opd.c (AV.bool false))), C.op none (some 7) (O.mv (Opd.t 1)),
    C.op none (some 8) (O.bin BinOp.lss (Opd.t 7) (Opd.c (AV.int IntKind.i64 0))),
    C.op none (some 9) (O.mv (Opd.t 8)), C.op (some (9, false)) (some 10) (O.mv (Opd.t 1)),
    C.op (some (9, false)) (some 11) (O.mv (Opd.t 0)), C.op (some (9, false)) (some 12) (O.nck (Opd.t 11)),
    C.op (some (9, false)) (some 13) (O.fad 3 (Opd.t 12)), C.op (some (9, false)) (some 14) (O.ld CK.any (Opd.t 13)),
    C.op (some (9, false)) (some 15) (O.len false (Opd.t 14)),
    C.op (some (9, false)) (some 16) (O.bin BinOp.geq (Opd.t 10) (Opd.t 15)),
    C.op none (some 17) (O.pick (Opd.t 9) (Opd.c (AV.bool true)) (Opd.t 16)),
    C.cond (Opd.t 17) [C.op none (some 6) (O.mv (Opd.c (AV.bool false))), C.ret] [],
    C.op none (some 18) (O.mv (Opd.t 0)), C.op none (some 19) (O.nck (Opd.t 18)),
    C.op none (some 20) (O.fad 3 (Opd.t 19)), C.op none (some 21) (O.ld CK.any (Opd.t 20)),
    C.op none (some 22) (O.mv (Opd.t 1)), C.op none (some 23) (O.mv (Opd.t 2)),
    C.op none (some 24) (O.iad 1 (Opd.t 21) (Opd.t 22)), C.op none none (O.st 1 (Opd.t 24) (Opd.t 23)),
    C.op none (some 6) (O.mv (Opd.c (AV.bool true))), C.ret]
def r18 : List RV := [RV.t 6]
theorem c18_ok : cC Try.prog Try.f18.ntmps (Try.f18.body.getD .skip) = some c18 := by kernel_rfl

def c19 : List C :=
  [C.op none (some 2) (O.mv (Opd.c (AV.int IntKind.i64 0))), C.op none (some 3) (O.mv (Opd.t 0)),
    C.op none (some 4) (O.nck (Opd.t 3)), C.op none (some 5) (O.fad 0 (Opd.t 4)),
    C.op none (some 6) (O.ld CK.any (Opd.t 5)), C.op none (some 7) (O.len false (Opd.t 6)),
    C.op none (some 2) (O.mv (Opd.t 7)), C.ret]
def r19 : List RV := [RV.t 2]
theorem c19_ok : cC Try.prog Try.f19.ntmps (Try.f19.body.getD .skip) = some c19 := by kernel_rfl

def c20 : List C :=
  [C.op none (some 4) (O.mv (Opd.c (AV.int IntKind.i64 0))), C.op none (some 5) (O.mv (Opd.t 1)),
    C.op none (some 6) (O.bin BinOp.lss (Opd.t 5) (Opd.c (AV.int IntKind.i64 0))),
    C.op none (some 7) (O.mv (Opd.t 6)), C.op (some (7, false)) (some 8) (O.mv (Opd.t 1)),
    C.op (some (7, false)) (some 9) (O.mv (Opd.t 0)), C.op (some (7, false)) (some 10) (O.nck (Opd.t 9)),
    C.op (some (7, false)) (some 11) (O.fad 3 (Opd.t 10)), C.op (some (7, false)) (some 12) (O.ld CK.any (Opd.t 11)),
    C.op (some (7, false)) (some 13) (O.len false (Opd.t 12)),
    C.op (some (7, false)) (some 14) (O.bin BinOp.geq (Opd.t 8) (Opd.t 13)),
    C.op none (some 15) (O.pick (Opd.t 7) (Opd.c (AV.bool true)) (Opd.t 14)),
    C.cond (Opd.t 15) [C.op none (some 4) (O.mv (Opd.c (AV.int IntKind.i64 0))), C.ret] [],
    C.op none (some 16) (O.mv (Opd.t 0)), C.op none (some 17) (O.nck (Opd.t 16)),
    C.op none (some 18) (O.fad 3 (Opd.t 17)), C.op none (some 19) (O.ld CK.any (Opd.t 18)),
    C.op none (some 20) (O.mv (Opd.t 1)), C.op none (some 21) (O.iad 1 (Opd.t 19) (Opd.t 20)),
    C.op none (some 22) (O.ld (CK.int IntKind.i64) (Opd.t 21)), C.op none (some 4) (O.mv (Opd.t 22)), C.ret]
def r20 : List RV := [RV.t 4]
theorem c20_ok : cC Try.prog Try.f20.ntmps (Try.f20.body.getD .skip) = some c20 := by kernel_rfl

def c21 : List C :=
  [C.op none (some 4) (O.mv (Opd.c (AV.bool false))), C.op none (some 5) (O.mv (Opd.t 0)),
    C.op none (some 6) (O.nck (Opd.t 5)), C.op none (some 7) (O.fad 0 (Opd.t 6)),
    C.op none (some 8) (O.ld CK.any (Opd.t 7)), C.op none (some 9) (O.len false (Opd.t 8)),
    C.op none (some 10) (O.mv (Opd.t 1)), C.op none (some 11) (O.len false (Opd.t 10)),
    C.op none (some 12) (O.bin BinOp.add (Opd.t 9) (Opd.t 11)),
    C.op none (some 13) (O.bin BinOp.gtr (Opd.t 12) (Opd.c (AV.int IntKind.i64 64))),
    C.cond (Opd.t 13) [C.op none (some 4) (O.mv (Opd.c (AV.bool false))), C.ret] [],
    C.op none (some 14) (O.mv (Opd.t 0)), C.op none (some 15) (O.mv (Opd.t 0)), C.op none (some 16) (O.nck (Opd.t 15)),
    C.op none (some 17) (O.fad 0 (Opd.t 16)), C.op none (some 18) (O.ld CK.any (Opd.t 17)),
    C.op none (some 19) (O.mv (Opd.t 1)), C.op none (some 20) (O.app 1 (Opd.t 18) (Opd.t 19)),
    C.op none (some 21) (O.nck (Opd.t 14)), C.op none (some 22) (O.fad 0 (Opd.t 21)),
    C.op none none (O.st 1 (Opd.t 22) (Opd.t 20)), C.op none (some 4) (O.mv (Opd.c (AV.bool true))), C.ret]
def r21 : List RV := [RV.t 4]
theorem c21_ok : cC Try.prog Try.f21.ntmps (Try.f21.body.getD .skip) = some c21 := by kernel_rfl

def d22_0 : List It :=
  [(none, some 18, O.mv (Opd.t 0), []), (none, some 19, O.nck (Opd.t 18), [0]),
        (none, some 20, O.fad 0 (Opd.t 19), [1]), (none, some 21, O.ld CK.any (Opd.t 20), [2]),
        (none, some 22, O.mv (Opd.t 0), []), (none, some 23, O.nck (Opd.t 22), [4]),
        (none, some 24, O.fad 0 (Opd.t 23), [5]), (none, some 25, O.ld CK.any (Opd.t 24), [6]),
        (none, some 26, O.len false (Opd.t 25), [7]), (none, some 27, O.mv (Opd.t 1), []),
        (none, some 28, O.bin BinOp.sub (Opd.t 26) (Opd.t 27), [8, 9]),
        (none, some 29, O.lsl 1 (Opd.t 21) (some (Opd.t 28)) none none, [3, 10]),
        (none, some 30, O.call 54 [Opd.t 29], [11]),
        (none, some 6, O.mv (Opd.t 30), [12, 12, 0, 1, 2, 3, 4, 5, 6, 7, 8, 9, 10, 11, 12])]
def o22_0 : List (Nat × Bool) := [(0, false), (1, false), (2, false), (3, false), (4, false), (5, false), (6, false), (7, false), (8, false), (9, false), (10, false), (11, false), (12, true), (13, false)]
def l22_0 : List (Nat × Bool × It) :=
  [(0, false, (none, some 18, O.mv (Opd.t 0), [])),
   (1, false, (none, some 19, O.nck (Opd.t 18), [0])),
   (2, false, (none, some 20, O.fad 0 (Opd.t 19), [1])),
   (3, false, (none, some 21, O.ld CK.any (Opd.t 20), [2])),
   (4, false, (none, some 22, O.mv (Opd.t 0), [])),
   (5, false, (none, some 23, O.nck (Opd.t 22), [4])),
   (6, false, (none, some 24, O.fad 0 (Opd.t 23), [5])),
   (7, false, (none, some 25, O.ld CK.any (Opd.t 24), [6])),
   (8, false, (none, some 26, O.len false (Opd.t 25), [7])),
   (9, false, (none, some 27, O.mv (Opd.t 1), [])),
   (10, false, (none, some 28, O.bin BinOp.sub (Opd.t 26) (Opd.t 27), [8, 9])),
   (11, false, (none, some 29, O.lsl 1 (Opd.t 21) (some (Opd.t 28)) none none, [3, 10])),
   (12, true, (none, some 30, O.call 54 [Opd.t 29], [11])),
   (13, false, (none, some 6, O.mv (Opd.t 30), [12, 12, 0, 1, 2, 3, 4, 5, 6, 7, 8, 9, 10, 11, 12]))]
theorem l22_0_ok : okDraw d22_0 o22_0 = true ∧ mkL d22_0 o22_0 = some l22_0 := ⟨by kernel_rfl, by kernel_rfl⟩

def d22_1 : List It :=
  [(none, some 31, O.mv (Opd.t 0), []), (none, some 32, O.mv (Opd.t 0), []), (none, some 33, O.nck (Opd.t 32), [1]),
        (none, some 34, O.fad 0 (Opd.t 33), [2]), (none, some 35, O.ld CK.any (Opd.t 34), [3]),
        (none, some 36, O.mv (Opd.t 0), []), (none, some 37, O.nck (Opd.t 36), [5]),
        (none, some 38, O.fad 0 (Opd.t 37), [6]), (none, some 39, O.ld CK.any (Opd.t 38), [7]),
        (none, some 40, O.len false (Opd.t 39), [8]), (none, some 41, O.mv (Opd.t 1), []),
        (none, some 42, O.bin BinOp.sub (Opd.t 40) (Opd.t 41), [9, 10]),
        (none, some 43, O.lsl 1 (Opd.t 35) none (some (Opd.t 42)) none, [4, 11]),
        (none, some 44, O.nck (Opd.t 31), [0, 0, 1, 2, 3, 4, 5, 6, 7, 8, 9, 10, 11, 12]),
        (none, some 45, O.fad 0 (Opd.t 44), [13, 0, 1, 2, 3, 4, 5, 6, 7, 8, 9, 10, 11, 12]),
        (none, none, O.st 1 (Opd.t 45) (Opd.t 43), [14, 12, 0, 1, 2, 3, 4, 5, 6, 7, 8, 9, 10, 11, 12])]
def o22_1 : List (Nat × Bool) := [(0, false), (1, false), (2, false), (3, false), (4, false), (5, false), (6, false), (7, false), (8, false), (9, false), (10, false), (11, false), (12, false), (13, false), (14, false), (15, true)]
def l22_1 : List (Nat × Bool × It) :=
  [(0, false, (none, some 31, O.mv (Opd.t 0), [])),
   (1, false, (none, some 32, O.mv (Opd.t 0), [])),
   (2, false, (none, some 33, O.nck (Opd.t 32), [1])),
   (3, false, (none, some 34, O.fad 0 (Opd.t 33), [2])),
   (4, false, (none, some 35, O.ld CK.any (Opd.t 34), [3])),
   (5, false, (none, some 36, O.mv (Opd.t 0), [])),
   (6, false, (none, some 37, O.nck (Opd.t 36), [5])),
   (7, false, (none, some 38, O.fad 0 (Opd.t 37), [6])),
   (8, false, (none, some 39, O.ld CK.any (Opd.t 38), [7])),
   (9, false, (none, some 40, O.len false (Opd.t 39), [8])),
   (10, false, (none, some 41, O.mv (Opd.t 1), [])),
   (11, false, (none, some 42, O.bin BinOp.sub (Opd.t 40) (Opd.t 41), [9, 10])),
   (12, false, (none, some 43, O.lsl 1 (Opd.t 35) none (some (Opd.t 42)) none, [4, 11])),
   (13, false, (none, some 44, O.nck (Opd.t 31), [0, 0, 1, 2, 3, 4, 5, 6, 7, 8, 9, 10, 11, 12])),
   (14, false, (none, some 45, O.fad 0 (Opd.t 44), [13, 0, 1, 2, 3, 4, 5, 6, 7, 8, 9, 10, 11, 12])),
   (15, true, (none, none, O.st 1 (Opd.t 45) (Opd.t 43), [14, 12, 0, 1, 2, 3, 4, 5, 6, 7, 8, 9, 10, 11, 12]))]
theorem l22_1_ok : okDraw d22_1 o22_1 = true ∧ mkL d22_1 o22_1 = some l22_1 := ⟨by kernel_rfl, by kernel_rfl⟩

def c22 : List C :=
  [C.op none (some 4) (O.mv (Opd.c AV.nilsl)), C.op none (some 5) (O.mv (Opd.c (AV.bool false))),
    C.op none (some 7) (O.mv (Opd.t 1)),
    C.op none (some 8) (O.bin BinOp.lss (Opd.t 7) (Opd.c (AV.int IntKind.i64 0))),
    C.op none (some 9) (O.mv (Opd.t 8)), C.op (some (9, false)) (some 10) (O.mv (Opd.t 1)),
    C.op (some (9, false)) (some 11) (O.mv (Opd.t 0)), C.op (some (9, false)) (some 12) (O.nck (Opd.t 11)),
    C.op (some (9, false)) (some 13) (O.fad 0 (Opd.t 12)), C.op (some (9, false)) (some 14) (O.ld CK.any (Opd.t 13)),
    C.op (some (9, false)) (some 15) (O.len false (Opd.t 14)),
    C.op (some (9, false)) (some 16) (O.bin BinOp.gtr (Opd.t 10) (Opd.t 15)),
    C.op none (some 17) (O.pick (Opd.t 9) (Opd.c (AV.bool true)) (Opd.t 16)),
    C.cond (Opd.t 17)
      [C.op none (some 4) (O.mv (Opd.c AV.nilsl)), C.op none (some 5) (O.mv (Opd.c (AV.bool false))), C.ret] [],
    C.draw d22_0,
    C.draw d22_1,
    C.op none (some 46) (O.mv (Opd.t 6)), C.op none (some 4) (O.mv (Opd.t 46)),
    C.op none (some 5) (O.mv (Opd.c (AV.bool true))), C.ret]
def r22 : List RV := [RV.t 4, RV.t 5]
theorem c22_ok : cC Try.prog Try.f22.ntmps (Try.f22.body.getD .skip) = some c22 := by kernel_rfl

def d23_0 : List It :=
  [(none, some 10, O.mv (Opd.t 0), []), (none, some 11, O.nck (Opd.t 10), [0]),
        (none, some 12, O.fad 0 (Opd.t 11), [1]), (none, some 13, O.ld CK.any (Opd.t 12), [2]),
        (none, some 14, O.mv (Opd.t 0), []), (none, some 15, O.nck (Opd.t 14), [4]),
        (none, some 16, O.fad 0 (Opd.t 15), [5]), (none, some 17, O.ld CK.any (Opd.t 16), [6]),
        (none, some 18, O.len false (Opd.t 17), [7]),
        (none, some 19, O.bin BinOp.sub (Opd.t 18) (Opd.c (AV.int IntKind.i64 1)), [8]),
        (none, some 20, O.iad 1 (Opd.t 13) (Opd.t 19), [3, 9]),
        (none, some 21, O.ld (CK.int IntKind.i64) (Opd.t 20), [10]),
        (none, some 3, O.mv (Opd.t 21), [11, 0, 1, 2, 3, 4, 5, 6, 7, 8, 9, 10, 11])]
def o23_0 : List (Nat × Bool) := [(0, false), (1, false), (2, false), (3, false), (4, false), (5, false), (6, false), (7, false), (8, false), (9, false), (10, false), (11, false), (12, false)]
def l23_0 : List (Nat × Bool × It) :=
  [(0, false, (none, some 10, O.mv (Opd.t 0), [])),
   (1, false, (none, some 11, O.nck (Opd.t 10), [0])),
   (2, false, (none, some 12, O.fad 0 (Opd.t 11), [1])),
   (3, false, (none, some 13, O.ld CK.any (Opd.t 12), [2])),
   (4, false, (none, some 14, O.mv (Opd.t 0), [])),
   (5, false, (none, some 15, O.nck (Opd.t 14), [4])),
   (6, false, (none, some 16, O.fad 0 (Opd.t 15), [5])),
   (7, false, (none, some 17, O.ld CK.any (Opd.t 16), [6])),
   (8, false, (none, some 18, O.len false (Opd.t 17), [7])),
   (9, false, (none, some 19, O.bin BinOp.sub (Opd.t 18) (Opd.c (AV.int IntKind.i64 1)), [8])),
   (10, false, (none, some 20, O.iad 1 (Opd.t 13) (Opd.t 19), [3, 9])),
   (11, false, (none, some 21, O.ld (CK.int IntKind.i64) (Opd.t 20), [10])),
   (12, false, (none, some 3, O.mv (Opd.t 21), [11, 0, 1, 2, 3, 4, 5, 6, 7, 8, 9, 10, 11]))]
theorem l23_0_ok : okDraw d23_0 o23_0 = true ∧ mkL d23_0 o23_0 = some l23_0 := ⟨by kernel_rfl, by kernel_rfl⟩

def d23_1 : List It :=
  [(none, some 22, O.mv (Opd.t 0), []), (none, some 23, O.mv (Opd.t 0), []), (none, some 24, O.nck (Opd.t 23), [1]),
        (none, some 25, O.fad 0 (Opd.t 24), [2]), (none, some 26, O.ld CK.any (Opd.t 25), [3]),
        (none, some 27, O.mv (Opd.t 0), []), (none, some 28, O.nck (Opd.t 27), [5]),
        (none, some 29, O.fad 0 (Opd.t 28), [6]), (none, some 30, O.ld CK.any (Opd.t 29), [7]),
        (none, some 31, O.len false (Opd.t 30), [8]),
        (none, some 32, O.bin BinOp.sub (Opd.t 31) (Opd.c (AV.int IntKind.i64 1)), [9]),
        (none, some 33, O.lsl 1 (Opd.t 26) none (some (Opd.t 32)) none, [4, 10]),
        (none, some 34, O.nck (Opd.t 22), [0, 0, 1, 2, 3, 4, 5, 6, 7, 8, 9, 10, 11]),
        (none, some 35, O.fad 0 (Opd.t 34), [12, 0, 1, 2, 3, 4, 5, 6, 7, 8, 9, 10, 11]),
        (none, none, O.st 1 (Opd.t 35) (Opd.t 33), [13, 11, 0, 1, 2, 3, 4, 5, 6, 7, 8, 9, 10, 11])]
def o23_1 : List (Nat × Bool) := [(0, false), (1, false), (2, false), (3, false), (4, false), (5, false), (6, false), (7, false), (8, false), (9, false), (10, false), (11, false), (12, false), (13, false), (14, true)]
def l23_1 : List (Nat × Bool × It) :=
  [(0, false, (none, some 22, O.mv (Opd.t 0), [])),
   (1, false, (none, some 23, O.mv (Opd.t 0), [])),
   (2, false, (none, some 24, O.nck (Opd.t 23), [1])),
   (3, false, (none, some 25, O.fad 0 (Opd.t 24), [2])),
   (4, false, (none, some 26, O.ld CK.any (Opd.t 25), [3])),
   (5, false, (none, some 27, O.mv (Opd.t 0), [])),
   (6, false, (none, some 28, O.nck (Opd.t 27), [5])),
   (7, false, (none, some 29, O.fad 0 (Opd.t 28), [6])),
   (8, false, (none, some 30, O.ld CK.any (Opd.t 29), [7])),
   (9, false, (none, some 31, O.len false (Opd.t 30), [8])),
   (10, false, (none, some 32, O.bin BinOp.sub (Opd.t 31) (Opd.c (AV.int IntKind.i64 1)), [9])),
   (11, false, (none, some 33, O.lsl 1 (Opd.t 26) none (some (Opd.t 32)) none, [4, 10])),
   (12, false, (none, some 34, O.nck (Opd.t 22), [0, 0, 1, 2, 3, 4, 5, 6, 7, 8, 9, 10, 11])),
   (13, false, (none, some 35, O.fad 0 (Opd.t 34), [12, 0, 1, 2, 3, 4, 5, 6, 7, 8, 9, 10, 11])),
   (14, true, (none, none, O.st 1 (Opd.t 35) (Opd.t 33), [13, 11, 0, 1, 2, 3, 4, 5, 6, 7, 8, 9, 10, 11]))]
theorem l23_1_ok : okDraw d23_1 o23_1 = true ∧ mkL d23_1 o23_1 = some l23_1 := ⟨by kernel_rfl, by kernel_rfl⟩

def c23 : List C :=
  [C.op none (some 2) (O.mv (Opd.c (AV.int IntKind.i64 0))), C.op none (some 4) (O.mv (Opd.t 0)),
    C.op none (some 5) (O.nck (Opd.t 4)), C.op none (some 6) (O.fad 0 (Opd.t 5)),
    C.op none (some 7) (O.ld CK.any (Opd.t 6)), C.op none (some 8) (O.len false (Opd.t 7)),
    C.op none (some 9) (O.bin BinOp.eql (Opd.t 8) (Opd.c (AV.int IntKind.i64 0))),
    C.cond (Opd.t 9) [C.op none (some 2) (O.mv (Opd.c (AV.int IntKind.i64 0))), C.ret] [],
    C.draw d23_0,
    C.draw d23_1,
    C.op none (some 36) (O.mv (Opd.t 3)), C.op none (some 2) (O.mv (Opd.t 36)), C.ret]
def r23 : List RV := [RV.t 2]
theorem c23_ok : cC Try.prog Try.f23.ntmps (Try.f23.body.getD .skip) = some c23 := by kernel_rfl

def c24 : List C :=
  [C.op none (some 0) (O.mv (Opd.c (AV.bool false))), C.op none (some 1) (O.mv (Opd.c (AV.fn 55 [] []))),
    C.op none (some 7) (O.mv (Opd.t 1)),
    C.op none (some 8) (O.callv (Opd.t 7) [Opd.c (AV.int IntKind.i64 1)]),
    C.op none (some 9) (O.mv (Opd.t 1)),
    C.op none (some 10) (O.callv (Opd.t 9) [Opd.c (AV.int IntKind.i64 4)]),
    C.op none (some 11)
      (O.bsl 3 [AV.int IntKind.i64 0, AV.int IntKind.i64 0, AV.nilsl] 2
        [(0, Opd.t 8), (1, Opd.t 10)]),
    C.op none (some 12) (O.build [AV.nilsl] [(0, 1, Opd.t 11)]), C.op none (some 13) (O.call 32 [Opd.t 12]),
    C.op none (some 6) (O.mv (Opd.t 13)), C.op none (some 14) (O.ext (Opd.t 6) 0),
    C.op none (some 15) (O.ext (Opd.t 6) 1),
    C.op none (some 2) (O.alloc [AV.int IntKind.i64 0, AV.int IntKind.i64 0]),
    C.op none none (O.st 2 (Opd.t 2) (Opd.t 14)), C.op none (some 3) (O.mv (Opd.t 15)),
    C.op none (some 17) (O.mv (Opd.t 1)),
    C.op none (some 18) (O.callv (Opd.t 17) [Opd.c (AV.int IntKind.i64 1)]),
    C.op none (some 19) (O.call 29 [Opd.c (AV.int IntKind.u8 16), Opd.c AV.nilsl]),
    C.op none (some 20) (O.bsl 2 [AV.int IntKind.u8 0, AV.int IntKind.i64 0] 1 [(0, Opd.t 19)]),
    C.op none (some 21)
      (O.call 31 [Opd.c (AV.int IntKind.i64 4), Opd.c (AV.int IntKind.i64 4), Opd.t 20]),
    C.op none (some 22)
      (O.bsl 3 [AV.int IntKind.i64 0, AV.int IntKind.i64 0, AV.nilsl] 2
        [(0, Opd.t 18), (1, Opd.t 21)]),
    C.op none (some 23) (O.build [AV.nilsl] [(0, 1, Opd.t 22)]), C.op none (some 24) (O.call 32 [Opd.t 23]),
    C.op none (some 16) (O.mv (Opd.t 24)), C.op none (some 25) (O.ext (Opd.t 16) 0),
    C.op none (some 26) (O.ext (Opd.t 16) 1),
    C.op none (some 4) (O.alloc [AV.int IntKind.i64 0, AV.int IntKind.i64 0]),
    C.op none none (O.st 2 (Opd.t 4) (Opd.t 25)), C.op none (some 5) (O.mv (Opd.t 26)),
    C.op none (some 27) (O.ldn [CK.int IntKind.i64, CK.int IntKind.i64] (Opd.t 2)),
    C.op none (some 28) (O.build [AV.int IntKind.i64 0, AV.int IntKind.i64 0] []),
    C.op none (some 29) (O.eqa false [CK.int IntKind.i64, CK.int IntKind.i64] (Opd.t 27) (Opd.t 28)),
    C.op none (some 30) (O.mv (Opd.t 29)), C.op (some (30, true)) (some 31) (O.mv (Opd.t 3)),
    C.op (some (30, true)) (some 32) (O.bin BinOp.eql (Opd.t 31) (Opd.c (AV.int IntKind.i64 0))),
    C.op none (some 33) (O.pick (Opd.t 30) (Opd.t 32) (Opd.c (AV.bool false))), C.op none (some 34) (O.mv (Opd.t 33)),
    C.op (some (34, true)) (some 35) (O.ldn [CK.int IntKind.i64, CK.int IntKind.i64] (Opd.t 4)),
    C.op (some (34, true)) (some 36)
      (O.build [AV.int IntKind.i64 0, AV.int IntKind.i64 0]
        [(0, 1, Opd.c (AV.int IntKind.i64 1))]),
    C.op (some (34, true)) (some 37) (O.eqa false [CK.int IntKind.i64, CK.int IntKind.i64] (Opd.t 35) (Opd.t 36)),
    C.op none (some 38) (O.pick (Opd.t 34) (Opd.t 37) (Opd.c (AV.bool false))), C.op none (some 39) (O.mv (Opd.t 38)),
    C.op (some (39, true)) (some 40) (O.mv (Opd.t 5)),
    C.op (some (39, true)) (some 41) (O.bin BinOp.eql (Opd.t 40) (Opd.c (AV.int IntKind.i64 14))),
    C.op none (some 42) (O.pick (Opd.t 39) (Opd.t 41) (Opd.c (AV.bool false))), C.op none (some 43) (O.mv (Opd.t 42)),
    C.op (some (43, true)) (some 44) (O.call 25 [Opd.c (AV.int IntKind.i64 3)]),
    C.op (some (43, true)) (some 45) (O.bin BinOp.eql (Opd.t 44) (Opd.c (AV.int IntKind.i64 3))),
    C.op none (some 46) (O.pick (Opd.t 43) (Opd.t 45) (Opd.c (AV.bool false))), C.op none (some 0) (O.mv (Opd.t 46)),
    C.ret]
def r24 : List RV := [RV.t 0]
theorem c24_ok : cC Try.prog Try.f24.ntmps (Try.f24.body.getD .skip) = some c24 := by kernel_rfl

def c25 : List C :=
  [C.op none (some 2) (O.mv (Opd.c (AV.int IntKind.i64 0))),
    C.op none (some 4)
      (O.build
        [AV.int IntKind.i64 0, AV.int IntKind.i64 0, AV.int IntKind.i64 0,
          AV.int IntKind.i64 0, AV.int IntKind.i64 0, AV.int IntKind.i64 0,
          AV.int IntKind.i64 0]
        [(0, 1, Opd.c (AV.int IntKind.i64 3)), (1, 1, Opd.c (AV.int IntKind.i64 1)),
          (2, 1, Opd.c (AV.int IntKind.i64 2)), (3, 1, Opd.c (AV.int IntKind.i64 3)),
          (4, 1, Opd.c (AV.int IntKind.i64 0)), (5, 1, Opd.c (AV.int IntKind.i64 1)),
          (6, 1, Opd.c (AV.int IntKind.i64 0))]),
    C.op none (some 3)
      (O.alloc
        [AV.int IntKind.i64 0, AV.int IntKind.i64 0, AV.int IntKind.i64 0,
          AV.int IntKind.i64 0, AV.int IntKind.i64 0, AV.int IntKind.i64 0,
          AV.int IntKind.i64 0]),
    C.op none none (O.st 7 (Opd.t 3) (Opd.t 4)), C.op none (some 5) (O.mv (Opd.t 0)),
    C.op none (some 6) (O.bin BinOp.lss (Opd.t 5) (Opd.c (AV.int IntKind.i64 0))),
    C.op none (some 7) (O.mv (Opd.t 6)), C.op (some (7, false)) (some 8) (O.mv (Opd.t 0)),
    C.op (some (7, false)) (some 9) (O.bin BinOp.geq (Opd.t 8) (Opd.c (AV.int IntKind.i64 7))),
    C.op none (some 10) (O.pick (Opd.t 7) (Opd.c (AV.bool true)) (Opd.t 9)),
    C.cond (Opd.t 10) [C.op none (some 2) (O.mv (Opd.c (AV.int IntKind.i64 (-1)))), C.ret] [],
    C.op none (some 11) (O.mv (Opd.t 0)), C.op none (some 12) (O.iaa 7 (Opd.t 3) (Opd.t 11)),
    C.op none (some 13) (O.ld (CK.int IntKind.i64) (Opd.t 12)), C.op none (some 2) (O.mv (Opd.t 13)), C.ret]
def r25 : List RV := [RV.t 2]
theorem c25_ok : cC Try.prog Try.f25.ntmps (Try.f25.body.getD .skip) = some c25 := by kernel_rfl

def c26 : List C :=
  [C.op none (some 2) (O.mv (Opd.c (AV.int IntKind.i64 0))), C.op none (some 3) (O.mv (Opd.t 0)),
    C.blk 0
      [C.op none (some 5) (O.bin BinOp.eql (Opd.t 3) (Opd.c (AV.int IntKind.i64 0))),
        C.op none (some 4) (O.mv (Opd.t 5)),
        C.cond (Opd.t 4) []
          [C.op none (some 6) (O.bin BinOp.eql (Opd.t 3) (Opd.c (AV.int IntKind.i64 3))),
            C.op none (some 4) (O.mv (Opd.t 6))],
        C.cond (Opd.t 4) [C.op none (some 2) (O.mv (Opd.c (AV.int IntKind.i64 3))), C.ret]
          [C.op none (some 8) (O.bin BinOp.eql (Opd.t 3) (Opd.c (AV.int IntKind.i64 1))),
            C.op none (some 7) (O.mv (Opd.t 8)),
            C.cond (Opd.t 7) []
              [C.op none (some 9) (O.bin BinOp.eql (Opd.t 3) (Opd.c (AV.int IntKind.i64 5))),
                C.op none (some 7) (O.mv (Opd.t 9))],
            C.cond (Opd.t 7) [C.op none (some 2) (O.mv (Opd.c (AV.int IntKind.i64 1))), C.ret]
              [C.op none (some 11) (O.bin BinOp.eql (Opd.t 3) (Opd.c (AV.int IntKind.i64 2))),
                C.op none (some 10) (O.mv (Opd.t 11)),
                C.cond (Opd.t 10) [C.op none (some 2) (O.mv (Opd.c (AV.int IntKind.i64 2))), C.ret]
                  [C.op none (some 13) (O.bin BinOp.eql (Opd.t 3) (Opd.c (AV.int IntKind.i64 4))),
                    C.op none (some 12) (O.mv (Opd.t 13)),
                    C.cond (Opd.t 12) []
                      [C.op none (some 14) (O.bin BinOp.eql (Opd.t 3) (Opd.c (AV.int IntKind.i64 6))),
                        C.op none (some 12) (O.mv (Opd.t 14))],
                    C.cond (Opd.t 12) [C.op none (some 2) (O.mv (Opd.c (AV.int IntKind.i64 0))), C.ret]
                      []]]]],
    C.op none (some 2) (O.mv (Opd.c (AV.int IntKind.i64 (-1)))), C.ret]
def r26 : List RV := [RV.t 2]
theorem c26_ok : cC Try.prog Try.f26.ntmps (Try.f26.body.getD .skip) = some c26 := by kernel_rfl

def c27 : List C :=
  [C.op none (some 2) (O.mv (Opd.c (AV.int IntKind.i64 0))), C.op none (some 3) (O.mv (Opd.t 0)),
    C.op none (some 4) (O.bin BinOp.eql (Opd.t 3) (Opd.c (AV.int IntKind.i64 0))),
    C.cond (Opd.t 4) [C.op none (some 2) (O.mv (Opd.c (AV.int IntKind.i64 1))), C.ret] [],
    C.op none (some 2) (O.mv (Opd.c (AV.int IntKind.i64 4))), C.ret]
def r27 : List RV := [RV.t 2]
theorem c27_ok : cC Try.prog Try.f27.ntmps (Try.f27.body.getD .skip) = some c27 := by kernel_rfl

def d28_0 : List It :=
  [(none, some 17, O.mv (Opd.t 3), []), (none, some 18, O.fad 0 (Opd.t 5), []),
                    (none, some 19, O.ld (CK.int IntKind.i64) (Opd.t 18), [1]),
                    (none, some 20, O.call 56 [Opd.t 19], [2]), (none, some 21, O.fad 1 (Opd.t 5), []),
                    (none, some 22, O.ld (CK.int IntKind.i64) (Opd.t 21), [4]),
                    (none, some 23, O.call 56 [Opd.t 22], [5, 3]),
                    (none, some 24, O.bin BinOp.add (Opd.t 20) (Opd.t 23), [3, 6]),
                    (none, some 25, O.fad 2 (Opd.t 5), []), (none, some 26, O.ld CK.any (Opd.t 25), [8]),
                    (none, some 27, O.len false (Opd.t 26), [9]), (none, some 28, O.call 56 [Opd.t 27], [10, 6]),
                    (none, some 29, O.bin BinOp.add (Opd.t 24) (Opd.t 28), [7, 11]),
                    (none, some 30, O.bin BinOp.add (Opd.t 17) (Opd.t 29), [0, 12]),
                    (none, some 3, O.mv (Opd.t 30), [13, 11, 0, 1, 2, 3, 4, 5, 6, 7, 8, 9, 10, 11, 12, 13])]
def o28_0 : List (Nat × Bool) := [(0, false), (1, false), (2, false), (4, false), (5, false), (8, false), (9, false), (10, false), (3, true), (6, true), (7, false), (11, true), (12, false), (13, false), (14, true)]
def l28_0 : List (Nat × Bool × It) :=
  [(0, false, (none, some 17, O.mv (Opd.t 3), [])),
   (1, false, (none, some 18, O.fad 0 (Opd.t 5), [])),
   (2, false, (none, some 19, O.ld (CK.int IntKind.i64) (Opd.t 18), [1])),
   (4, false, (none, some 21, O.fad 1 (Opd.t 5), [])),
   (5, false, (none, some 22, O.ld (CK.int IntKind.i64) (Opd.t 21), [4])),
   (8, false, (none, some 25, O.fad 2 (Opd.t 5), [])),
   (9, false, (none, some 26, O.ld CK.any (Opd.t 25), [8])),
   (10, false, (none, some 27, O.len false (Opd.t 26), [9])),
   (3, true, (none, some 20, O.call 56 [Opd.t 19], [2])),
   (6, true, (none, some 23, O.call 56 [Opd.t 22], [5, 3])),
   (7, false, (none, some 24, O.bin BinOp.add (Opd.t 20) (Opd.t 23), [3, 6])),
   (11, true, (none, some 28, O.call 56 [Opd.t 27], [10, 6])),
   (12, false, (none, some 29, O.bin BinOp.add (Opd.t 24) (Opd.t 28), [7, 11])),
   (13, false, (none, some 30, O.bin BinOp.add (Opd.t 17) (Opd.t 29), [0, 12])),
   (14, true, (none, some 3, O.mv (Opd.t 30), [13, 11, 0, 1, 2, 3, 4, 5, 6, 7, 8, 9, 10, 11, 12, 13]))]
theorem l28_0_ok : okDraw d28_0 o28_0 = true ∧ mkL d28_0 o28_0 = some l28_0 := ⟨by kernel_rfl, by kernel_rfl⟩

def c28 : List C :=
  [C.op none (some 2) (O.mv (Opd.c (AV.str []))), C.op none (some 8) (O.mv (Opd.t 0)),
    C.op none (some 9) (O.len false (Opd.t 8)), C.op none (some 10) (O.call 56 [Opd.t 9]),
    C.op none (some 3) (O.mv (Opd.t 10)), C.op none (some 11) (O.mv (Opd.t 0)),
    C.op none (some 12) (O.len false (Opd.t 11)), C.op none (some 13) (O.mv (Opd.c (AV.int IntKind.i64 0))),
    C.blk 0
      [C.loop
          [C.op none (some 14) (O.bin BinOp.lss (Opd.t 13) (Opd.t 12)), C.cond (Opd.t 14) [] [C.exit 0],
            C.blk 1
              [C.op none (some 15) (O.iad 3 (Opd.t 11) (Opd.t 13)),
                C.op none (some 16) (O.ldn [CK.int IntKind.i64, CK.int IntKind.i64, CK.any] (Opd.t 15)),
                C.op none (some 5)
                  (O.alloc [AV.int IntKind.i64 0, AV.int IntKind.i64 0, AV.nilsl]),
                C.op none none (O.st 3 (Opd.t 5) (Opd.t 16)),
                C.draw d28_0,
                C.op none (some 31) (O.fad 2 (Opd.t 5)), C.op none (some 32) (O.ld CK.any (Opd.t 31)),
                C.op none (some 33) (O.len false (Opd.t 32)),
                C.op none (some 34) (O.mv (Opd.c (AV.int IntKind.i64 0))),
                C.blk 2
                  [C.loop
                      [C.op none (some 35) (O.bin BinOp.lss (Opd.t 34) (Opd.t 33)), C.cond (Opd.t 35) [] [C.exit 2],
                        C.blk 3
                          [C.op none (some 36) (O.iad 2 (Opd.t 32) (Opd.t 34)),
                            C.op none (some 37) (O.ldn [CK.int IntKind.i64, CK.int IntKind.i64] (Opd.t 36)),
                            C.op none (some 7)
                              (O.alloc [AV.int IntKind.i64 0, AV.int IntKind.i64 0]),
                            C.op none none (O.st 2 (Opd.t 7) (Opd.t 37)), C.op none (some 38) (O.mv (Opd.t 3)),
                            C.op none (some 39) (O.fad 0 (Opd.t 7)),
                            C.op none (some 40) (O.ld (CK.int IntKind.i64) (Opd.t 39)),
                            C.op none (some 41) (O.cvi IntKind.u64 (Opd.t 40)),
                            C.op none (some 42) (O.call 57 [Opd.t 41]),
                            C.op none (some 43) (O.bin BinOp.add (Opd.t 38) (Opd.t 42)),
                            C.op none (some 3) (O.mv (Opd.t 43)), C.op none (some 44) (O.fad 0 (Opd.t 7)),
                            C.op none (some 45) (O.ld (CK.int IntKind.i64) (Opd.t 44)),
                            C.op none (some 46) (O.call 58 [Opd.t 45]),
                            C.cond (Opd.t 46)
                              [C.op none (some 47) (O.mv (Opd.t 3)), C.op none (some 48) (O.fad 1 (Opd.t 7)),
                                C.op none (some 49) (O.ld (CK.int IntKind.i64) (Opd.t 48)),
                                C.op none (some 50) (O.call 59 [Opd.t 49]),
                                C.op none (some 51) (O.bin BinOp.add (Opd.t 47) (Opd.t 50)),
                                C.op none (some 3) (O.mv (Opd.t 51))]
                              []],
                        C.op none (some 52) (O.bin BinOp.add (Opd.t 34) (Opd.c (AV.int IntKind.i64 1))),
                        C.op none (some 34) (O.mv (Opd.t 52))]]],
            C.op none (some 53) (O.bin BinOp.add (Opd.t 13) (Opd.c (AV.int IntKind.i64 1))),
            C.op none (some 13) (O.mv (Opd.t 53))]],
    C.op none (some 54) (O.mv (Opd.t 3)), C.op none (some 2) (O.mv (Opd.t 54)), C.ret]
def r28 : List RV := [RV.t 2]
theorem c28_ok : cC Try.prog Try.f28.ntmps (Try.f28.body.getD .skip) = some c28 := by kernel_rfl

def c29 : List C :=
  [C.op none (some 4) (O.alloc [AV.int IntKind.u8 0, AV.int IntKind.i64 0]),
    C.op none (some 6) (O.mv (Opd.t 0)),
    C.op none (some 7) (O.build [AV.int IntKind.u8 0, AV.int IntKind.i64 0] [(0, 1, Opd.t 6)]),
    C.op none (some 5) (O.alloc [AV.int IntKind.u8 0, AV.int IntKind.i64 0]),
    C.op none none (O.st 2 (Opd.t 5) (Opd.t 7)), C.op none (some 8) (O.mv (Opd.t 1)),
    C.op none (some 9) (O.len false (Opd.t 8)),
    C.op none (some 10) (O.bin BinOp.gtr (Opd.t 9) (Opd.c (AV.int IntKind.i64 0))),
    C.op none (some 11) (O.mv (Opd.t 10)), C.op (some (11, true)) (some 12) (O.mv (Opd.t 0)),
    C.op (some (11, true)) (some 13) (O.call 60 [Opd.t 12]),
    C.op none (some 14) (O.pick (Opd.t 11) (Opd.t 13) (Opd.c (AV.bool false))),
    C.cond (Opd.t 14)
      [C.op none (some 15) (O.mv (Opd.t 1)),
        C.op none (some 16) (O.iad 1 (Opd.t 15) (Opd.c (AV.int IntKind.i64 0))),
        C.op none (some 17) (O.ld (CK.int IntKind.i64) (Opd.t 16)), C.op none (some 18) (O.fad 1 (Opd.t 5)),
        C.op none none (O.st 1 (Opd.t 18) (Opd.t 17))]
      [],
    C.op none (some 19) (O.ldn [CK.int IntKind.u8, CK.int IntKind.i64] (Opd.t 5)),
    C.op none none (O.st 2 (Opd.t 4) (Opd.t 19)), C.ret]
def r29 : List RV := [RV.cn 4 2]
theorem c29_ok : cC Try.prog Try.f29.ntmps (Try.f29.body.getD .skip) = some c29 := by kernel_rfl

def c30 : List C :=
  [C.op none (some 2) (O.alloc [AV.int IntKind.i64 0, AV.int IntKind.i64 0, AV.nilsl]),
    C.op none (some 3) (O.mv (Opd.t 0)), C.op none (some 4) (O.mv (Opd.t 0)),
    C.op none (some 5) (O.call 29 [Opd.c (AV.int IntKind.u8 17), Opd.c AV.nilsl]),
    C.op none (some 6) (O.call 29 [Opd.c (AV.int IntKind.u8 16), Opd.c AV.nilsl]),
    C.op none (some 7)
      (O.bsl 2 [AV.int IntKind.u8 0, AV.int IntKind.i64 0] 2 [(0, Opd.t 5), (1, Opd.t 6)]),
    C.op none (some 8) (O.call 31 [Opd.t 3, Opd.t 4, Opd.t 7]), C.op none none (O.st 3 (Opd.t 2) (Opd.t 8)), C.ret]
def r30 : List RV := [RV.cn 2 3]
theorem c30_ok : cC Try.prog Try.f30.ntmps (Try.f30.body.getD .skip) = some c30 := by kernel_rfl

def c31 : List C :=
  [C.op none (some 6) (O.alloc [AV.int IntKind.i64 0, AV.int IntKind.i64 0, AV.nilsl]),
    C.op none (some 7) (O.mv (Opd.t 0)), C.op none (some 8) (O.mv (Opd.t 1)),
    C.op none (some 9) (O.bsl 2 [AV.int IntKind.u8 0, AV.int IntKind.i64 0] 0 []),
    C.op none (some 10) (O.mv (Opd.t 2)), C.op none (some 11) (O.app 2 (Opd.t 9) (Opd.t 10)),
    C.op none (some 12)
      (O.build [AV.int IntKind.i64 0, AV.int IntKind.i64 0, AV.nilsl]
        [(0, 1, Opd.t 7), (1, 1, Opd.t 8), (2, 1, Opd.t 11)]),
    C.op none none (O.st 3 (Opd.t 6) (Opd.t 12)), C.ret]
def r31 : List RV := [RV.cn 6 3]
theorem c31_ok : cC Try.prog Try.f31.ntmps (Try.f31.body.getD .skip) = some c31 := by kernel_rfl

def d32_0 : List It :=
  [(none, some 33, O.fad 0 (Opd.t 5), []), (none, some 34, O.ld (CK.int IntKind.i64) (Opd.t 33), [0]),
                    (none, some 35, O.bin BinOp.lss (Opd.t 34) (Opd.c (AV.int IntKind.i64 0)), [1]),
                    (none, some 36, O.mv (Opd.t 35), [2]), (some (36, false), some 37, O.fad 0 (Opd.t 5), [3]),
                    (some (36, false), some 38, O.ld (CK.int IntKind.i64) (Opd.t 37), [4, 3]),
                    (some (36, false), some 39, O.fad 1 (Opd.t 5), [3]),
                    (some (36, false), some 40, O.ld (CK.int IntKind.i64) (Opd.t 39), [6, 3]),
                    (some (36, false), some 41, O.bin BinOp.gtr (Opd.t 38) (Opd.t 40), [5, 7, 3]),
                    (none, some 42, O.pick (Opd.t 36) (Opd.c (AV.bool true)) (Opd.t 41), [3, 8]),
                    (none, some 43, O.mv (Opd.t 42), [9, 3]), (some (43, false), some 44, O.fad 1 (Opd.t 5), [10]),
                    (some (43, false), some 45, O.ld (CK.int IntKind.i64) (Opd.t 44), [11, 10]),
                    (some (43, false), some 46, O.bin BinOp.gtr (Opd.t 45) (Opd.c (AV.int IntKind.i64 16)),
                      [12, 10]),
                    (none, some 47, O.pick (Opd.t 43) (Opd.c (AV.bool true)) (Opd.t 46), [10, 13]),
                    (none, some 48, O.mv (Opd.t 47), [14, 10]), (some (48, false), some 49, O.mv (Opd.t 4), [15]),
                    (some (48, false), some 50, O.bin BinOp.lss (Opd.t 49) (Opd.c (AV.int IntKind.i64 2)),
                      [16, 15]),
                    (some (48, false), some 51, O.mv (Opd.t 50), [17, 15, 15]),
                    (some (51, true), some 52, O.fad 0 (Opd.t 5), [18]),
                    (some (51, true), some 53, O.ld (CK.int IntKind.i64) (Opd.t 52), [19, 18]),
                    (some (51, true), some 54, O.mv (Opd.t 4), [18]),
                    (some (51, true), some 55, O.call 27 [Opd.t 54], [21, 18, 18]),
                    (some (51, true), some 56, O.bin BinOp.neq (Opd.t 53) (Opd.t 55), [20, 22, 18]),
                    (some (48, false), some 57, O.pick (Opd.t 51) (Opd.t 56) (Opd.c (AV.bool false)), [18, 23, 15]),
                    (none, some 58, O.pick (Opd.t 48) (Opd.c (AV.bool true)) (Opd.t 57), [15, 24]),
                    (none, some 59, O.mv (Opd.t 58), [25, 22]), (some (59, false), some 60, O.mv (Opd.t 6), [26]),
                    (some (59, false), some 61, O.bin BinOp.lss (Opd.t 60) (Opd.c (AV.int IntKind.i64 1)),
                      [27, 26]),
                    (none, some 62, O.pick (Opd.t 59) (Opd.c (AV.bool true)) (Opd.t 61), [26, 28]),
                    (none, some 63, O.mv (Opd.t 62), [29, 26]), (some (63, false), some 64, O.mv (Opd.t 6), [30]),
                    (some (63, false), some 65, O.bin BinOp.gtr (Opd.t 64) (Opd.c (AV.int IntKind.i64 128)),
                      [31, 30]),
                    (none, some 66, O.pick (Opd.t 63) (Opd.c (AV.bool true)) (Opd.t 65), [30, 32])]
def o32_0 : List (Nat × Bool) := [(0, false), (1, false), (2, false), (3, false), (4, false), (5, false), (6, false), (7, false), (8, false), (9, false), (10, false), (11, false), (12, false), (13, false), (14, false), (15, false), (16, false), (17, false), (18, false), (19, false), (20, false), (21, false), (22, true), (23, false), (24, false), (25, false), (26, false), (27, false), (28, false), (29, false), (30, false), (31, false), (32, false), (33, false)]
def l32_0 : List (Nat × Bool × It) :=
  [(0, false, (none, some 33, O.fad 0 (Opd.t 5), [])),
   (1, false, (none, some 34, O.ld (CK.int IntKind.i64) (Opd.t 33), [0])),
   (2, false, (none, some 35, O.bin BinOp.lss (Opd.t 34) (Opd.c (AV.int IntKind.i64 0)), [1])),
   (3, false, (none, some 36, O.mv (Opd.t 35), [2])),
   (4, false, (some (36, false), some 37, O.fad 0 (Opd.t 5), [3])),
   (5, false, (some (36, false), some 38, O.ld (CK.int IntKind.i64) (Opd.t 37), [4, 3])),
   (6, false, (some (36, false), some 39, O.fad 1 (Opd.t 5), [3])),
   (7, false, (some (36, false), some 40, O.ld (CK.int IntKind.i64) (Opd.t 39), [6, 3])),
   (8, false, (some (36, false), some 41, O.bin BinOp.gtr (Opd.t 38) (Opd.t 40), [5, 7, 3])),
   (9, false, (none, some 42, O.pick (Opd.t 36) (Opd.c (AV.bool true)) (Opd.t 41), [3, 8])),
   (10, false, (none, some 43, O.mv (Opd.t 42), [9, 3])),
   (11, false, (some (43, false), some 44, O.fad 1 (Opd.t 5), [10])),
   (12, false, (some (43, false), some 45, O.ld (CK.int IntKind.i64) (Opd.t 44), [11, 10])),
   (13, false, (some (43, false), some 46, O.bin BinOp.gtr (Opd.t 45) (Opd.c (AV.int IntKind.i64 16)),
                      [12, 10])),
   (14, false, (none, some 47, O.pick (Opd.t 43) (Opd.c (AV.bool true)) (Opd.t 46), [10, 13])),
   (15, false, (none, some 48, O.mv (Opd.t 47), [14, 10])),
   (16, false, (some (48, false), some 49, O.mv (Opd.t 4), [15])),
   (17, false, (some (48, false), some 50, O.bin BinOp.lss (Opd.t 49) (Opd.c (AV.int IntKind.i64 2)),
                      [16, 15])),
   (18, false, (some (48, false), some 51, O.mv (Opd.t 50), [17, 15, 15])),
   (19, false, (some (51, true), some 52, O.fad 0 (Opd.t 5), [18])),
   (20, false, (some (51, true), some 53, O.ld (CK.int IntKind.i64) (Opd.t 52), [19, 18])),
   (21, false, (some (51, true), some 54, O.mv (Opd.t 4), [18])),
   (22, true, (some (51, true), some 55, O.call 27 [Opd.t 54], [21, 18, 18])),
   (23, false, (some (51, true), some 56, O.bin BinOp.neq (Opd.t 53) (Opd.t 55), [20, 22, 18])),
   (24, false, (some (48, false), some 57, O.pick (Opd.t 51) (Opd.t 56) (Opd.c (AV.bool false)), [18, 23, 15])),
   (25, false, (none, some 58, O.pick (Opd.t 48) (Opd.c (AV.bool true)) (Opd.t 57), [15, 24])),
   (26, false, (none, some 59, O.mv (Opd.t 58), [25, 22])),
   (27, false, (some (59, false), some 60, O.mv (Opd.t 6), [26])),
   (28, false, (some (59, false), some 61, O.bin BinOp.lss (Opd.t 60) (Opd.c (AV.int IntKind.i64 1)),
                      [27, 26])),
   (29, false, (none, some 62, O.pick (Opd.t 59) (Opd.c (AV.bool true)) (Opd.t 61), [26, 28])),
   (30, false, (none, some 63, O.mv (Opd.t 62), [29, 26])),
   (31, false, (some (63, false), some 64, O.mv (Opd.t 6), [30])),
   (32, false, (some (63, false), some 65, O.bin BinOp.gtr (Opd.t 64) (Opd.c (AV.int IntKind.i64 128)),
                      [31, 30])),
   (33, false, (none, some 66, O.pick (Opd.t 63) (Opd.c (AV.bool true)) (Opd.t 65), [30, 32]))]
theorem l32_0_ok : okDraw d32_0 o32_0 = true ∧ mkL d32_0 o32_0 = some l32_0 := ⟨by kernel_rfl, by kernel_rfl⟩

def c32 : List C :=
  [C.op none (some 1) (O.box (Opd.t 0)),
    C.op none (some 2) (O.alloc [AV.int IntKind.i64 0, AV.int IntKind.i64 0]),
    C.op none (some 3) (O.mv (Opd.c (AV.int IntKind.i64 0))), C.op none (some 11) (O.fad 0 (Opd.t 1)),
    C.op none (some 12) (O.ld CK.any (Opd.t 11)), C.op none (some 13) (O.len false (Opd.t 12)),
    C.op none (some 14) (O.bin BinOp.lss (Opd.t 13) (Opd.c (AV.int IntKind.i64 2))),
    C.op none (some 15) (O.mv (Opd.t 14)), C.op (some (15, false)) (some 16) (O.fad 0 (Opd.t 1)),
    C.op (some (15, false)) (some 17) (O.ld CK.any (Opd.t 16)),
    C.op (some (15, false)) (some 18) (O.len false (Opd.t 17)),
    C.op (some (15, false)) (some 19) (O.bin BinOp.gtr (Opd.t 18) (Opd.c (AV.int IntKind.i64 16))),
    C.op none (some 20) (O.pick (Opd.t 15) (Opd.c (AV.bool true)) (Opd.t 19)),
    C.cond (Opd.t 20)
      [C.op none (some 21) (O.build [AV.int IntKind.i64 0, AV.int IntKind.i64 0] []),
        C.op none none (O.st 2 (Opd.t 2) (Opd.t 21)),
        C.op none (some 3) (O.mv (Opd.c (AV.int IntKind.i64 14))), C.ret]
      [],
    C.op none (some 22) (O.fad 0 (Opd.t 1)), C.op none (some 23) (O.ld CK.any (Opd.t 22)),
    C.op none (some 24) (O.len false (Opd.t 23)), C.op none (some 25) (O.mv (Opd.c (AV.int IntKind.i64 0))),
    C.blk 0
      [C.loop
          [C.op none (some 26) (O.bin BinOp.lss (Opd.t 25) (Opd.t 24)), C.cond (Opd.t 26) [] [C.exit 0],
            C.blk 1
              [C.op none (some 27) (O.mv (Opd.t 25)), C.op none (some 28) (O.iad 3 (Opd.t 23) (Opd.t 25)),
                C.op none (some 29) (O.ldn [CK.int IntKind.i64, CK.int IntKind.i64, CK.any] (Opd.t 28)),
                C.op none (some 5)
                  (O.alloc [AV.int IntKind.i64 0, AV.int IntKind.i64 0, AV.nilsl]),
                C.op none (some 4) (O.mv (Opd.t 27)), C.op none none (O.st 3 (Opd.t 5) (Opd.t 29)),
                C.op none (some 30) (O.fad 2 (Opd.t 5)), C.op none (some 31) (O.ld CK.any (Opd.t 30)),
                C.op none (some 32) (O.len false (Opd.t 31)), C.op none (some 6) (O.mv (Opd.t 32)),
                C.draw d32_0,
                C.cond (Opd.t 66)
                  [C.op none (some 67) (O.mv (Opd.t 4)),
                    C.op none (some 68)
                      (O.build [AV.int IntKind.i64 0, AV.int IntKind.i64 0]
                        [(0, 1, Opd.t 67), (1, 1, Opd.c (AV.int IntKind.i64 (-1)))]),
                    C.op none none (O.st 2 (Opd.t 2) (Opd.t 68)),
                    C.op none (some 3) (O.mv (Opd.c (AV.int IntKind.i64 14))), C.ret]
                  []],
            C.op none (some 69) (O.bin BinOp.add (Opd.t 25) (Opd.c (AV.int IntKind.i64 1))),
            C.op none (some 25) (O.mv (Opd.t 69))]],
    C.op none (some 70) (O.fad 0 (Opd.t 1)), C.op none (some 71) (O.ld CK.any (Opd.t 70)),
    C.op none (some 72) (O.len false (Opd.t 71)), C.op none (some 73) (O.mv (Opd.c (AV.int IntKind.i64 0))),
    C.blk 2
      [C.loop
          [C.op none (some 74) (O.bin BinOp.lss (Opd.t 73) (Opd.t 72)), C.cond (Opd.t 74) [] [C.exit 2],
            C.blk 3
              [C.op none (some 75) (O.mv (Opd.t 73)), C.op none (some 76) (O.iad 3 (Opd.t 71) (Opd.t 73)),
                C.op none (some 77) (O.ldn [CK.int IntKind.i64, CK.int IntKind.i64, CK.any] (Opd.t 76)),
                C.op none (some 8)
                  (O.alloc [AV.int IntKind.i64 0, AV.int IntKind.i64 0, AV.nilsl]),
                C.op none (some 7) (O.mv (Opd.t 75)), C.op none none (O.st 3 (Opd.t 8) (Opd.t 77)),
                C.op none (some 79) (O.ldn [CK.any] (Opd.t 1)),
                C.op none (some 80) (O.ldn [CK.int IntKind.i64, CK.int IntKind.i64, CK.any] (Opd.t 8)),
                C.op none (some 81) (O.call 61 [Opd.t 79, Opd.t 80]), C.op none (some 78) (O.mv (Opd.t 81)),
                C.op none (some 82) (O.ext (Opd.t 78) 0), C.op none (some 83) (O.ext (Opd.t 78) 1),
                C.op none (some 9) (O.mv (Opd.t 82)), C.op none (some 10) (O.mv (Opd.t 83)),
                C.op none (some 84) (O.mv (Opd.t 10)),
                C.op none (some 85) (O.bin BinOp.geq (Opd.t 84) (Opd.c (AV.int IntKind.i64 0))),
                C.cond (Opd.t 85)
                  [C.op none (some 86) (O.mv (Opd.t 7)), C.op none (some 87) (O.mv (Opd.t 10)),
                    C.op none (some 88)
                      (O.build [AV.int IntKind.i64 0, AV.int IntKind.i64 0]
                        [(0, 1, Opd.t 86), (1, 1, Opd.t 87)]),
                    C.op none none (O.st 2 (Opd.t 2) (Opd.t 88)),
                    C.op none (some 3) (O.mv (Opd.c (AV.int IntKind.i64 14))), C.ret]
                  []],
            C.op none (some 89) (O.bin BinOp.add (Opd.t 73) (Opd.c (AV.int IntKind.i64 1))),
            C.op none (some 73) (O.mv (Opd.t 89))]],
    C.op none (some 90) (O.build [AV.int IntKind.i64 0, AV.int IntKind.i64 0] []),
    C.op none none (O.st 2 (Opd.t 2) (Opd.t 90)), C.op none (some 3) (O.mv (Opd.c (AV.int IntKind.i64 0))),
    C.ret]
def r32 : List RV := [RV.cn 2 2, RV.t 3]
theorem c32_ok : cC Try.prog Try.f32.ntmps (Try.f32.body.getD .skip) = some c32 := by kernel_rfl

def d33_0 : List It :=
  [(none, some 14, O.fad 0 (Opd.t 3), []), (none, some 15, O.ld CK.any (Opd.t 14), [0]),
                    (none, some 16,
                      O.bsl 1 [AV.int IntKind.i64 0] 1 [(0, Opd.c (AV.int IntKind.i64 0))], []),
                    (none, some 17, O.call 29 [Opd.c (AV.int IntKind.u8 1), Opd.t 16], [2]),
                    (none, some 18, O.call 29 [Opd.c (AV.int IntKind.u8 16), Opd.c AV.nilsl], [3]),
                    (none, some 19,
                      O.bsl 2 [AV.int IntKind.u8 0, AV.int IntKind.i64 0] 2
                        [(0, Opd.t 17), (1, Opd.t 18)],
                      [3, 4]),
                    (none, some 20,
                      O.call 31
                        [Opd.c (AV.int IntKind.i64 0), Opd.c (AV.int IntKind.i64 0), Opd.t 19],
                      [5, 4]),
                    (none, some 21,
                      O.bsl 3 [AV.int IntKind.i64 0, AV.int IntKind.i64 0, AV.nilsl] 1
                        [(0, Opd.t 20)],
                      [6]),
                    (none, some 22, O.app 3 (Opd.t 15) (Opd.t 21), [1, 7, 6]),
                    (none, some 23, O.fad 0 (Opd.t 3), [0, 1, 2, 3, 4, 5, 6, 7, 8]),
                    (none, none, O.st 1 (Opd.t 23) (Opd.t 22), [9, 8, 8, 0, 1, 2, 3, 4, 5, 6, 7, 8])]
def o33_0 : List (Nat × Bool) := [(0, false), (1, false), (2, false), (3, true), (4, true), (5, false), (6, true), (7, false), (8, true), (9, false), (10, true)]
def l33_0 : List (Nat × Bool × It) :=
  [(0, false, (none, some 14, O.fad 0 (Opd.t 3), [])),
   (1, false, (none, some 15, O.ld CK.any (Opd.t 14), [0])),
   (2, false, (none, some 16,
                      O.bsl 1 [AV.int IntKind.i64 0] 1 [(0, Opd.c (AV.int IntKind.i64 0))], [])),
   (3, true, (none, some 17, O.call 29 [Opd.c (AV.int IntKind.u8 1), Opd.t 16], [2])),
   (4, true, (none, some 18, O.call 29 [Opd.c (AV.int IntKind.u8 16), Opd.c AV.nilsl], [3])),
   (5, false, (none, some 19,
                      O.bsl 2 [AV.int IntKind.u8 0, AV.int IntKind.i64 0] 2
                        [(0, Opd.t 17), (1, Opd.t 18)],
                      [3, 4])),
   (6, true, (none, some 20,
                      O.call 31
                        [Opd.c (AV.int IntKind.i64 0), Opd.c (AV.int IntKind.i64 0), Opd.t 19],
                      [5, 4])),
   (7, false, (none, some 21,
                      O.bsl 3 [AV.int IntKind.i64 0, AV.int IntKind.i64 0, AV.nilsl] 1
                        [(0, Opd.t 20)],
                      [6])),
   (8, true, (none, some 22, O.app 3 (Opd.t 15) (Opd.t 21), [1, 7, 6])),
   (9, false, (none, some 23, O.fad 0 (Opd.t 3), [0, 1, 2, 3, 4, 5, 6, 7, 8])),
   (10, true, (none, none, O.st 1 (Opd.t 23) (Opd.t 22), [9, 8, 8, 0, 1, 2, 3, 4, 5, 6, 7, 8]))]
theorem l33_0_ok : okDraw d33_0 o33_0 = true ∧ mkL d33_0 o33_0 = some l33_0 := ⟨by kernel_rfl, by kernel_rfl⟩

def d33_1 : List It :=
  [(none, some 48, O.mv (Opd.t 5), []), (none, some 49, O.mv (Opd.t 5), []),
                    (none, some 50, O.nck (Opd.t 49), [1]), (none, some 51, O.fad 1 (Opd.t 50), [2]),
                    (none, some 52, O.ld (CK.int IntKind.i64) (Opd.t 51), [3]), (none, some 53, O.mv (Opd.t 5), []),
                    (none, some 54, O.nck (Opd.t 53), [5]), (none, some 55, O.fad 0 (Opd.t 54), [6]),
                    (none, some 56, O.ld (CK.int IntKind.i64) (Opd.t 55), [7]),
                    (none, some 57, O.mx [Opd.t 52, Opd.t 56], [4, 8]),
                    (none, some 58, O.nck (Opd.t 48), [0, 0, 1, 2, 3, 4, 5, 6, 7, 8, 9]),
                    (none, some 59, O.fad 1 (Opd.t 58), [10, 0, 1, 2, 3, 4, 5, 6, 7, 8, 9]),
                    (none, none, O.st 1 (Opd.t 59) (Opd.t 57), [11, 9, 0, 1, 2, 3, 4, 5, 6, 7, 8, 9])]
def o33_1 : List (Nat × Bool) := [(0, false), (1, false), (2, false), (3, false), (4, false), (5, false), (6, false), (7, false), (8, false), (9, false), (10, false), (11, false), (12, true)]
def l33_1 : List (Nat × Bool × It) :=
  [(0, false, (none, some 48, O.mv (Opd.t 5), [])),
   (1, false, (none, some 49, O.mv (Opd.t 5), [])),
   (2, false, (none, some 50, O.nck (Opd.t 49), [1])),
   (3, false, (none, some 51, O.fad 1 (Opd.t 50), [2])),
   (4, false, (none, some 52, O.ld (CK.int IntKind.i64) (Opd.t 51), [3])),
   (5, false, (none, some 53, O.mv (Opd.t 5), [])),
   (6, false, (none, some 54, O.nck (Opd.t 53), [5])),
   (7, false, (none, some 55, O.fad 0 (Opd.t 54), [6])),
   (8, false, (none, some 56, O.ld (CK.int IntKind.i64) (Opd.t 55), [7])),
   (9, false, (none, some 57, O.mx [Opd.t 52, Opd.t 56], [4, 8])),
   (10, false, (none, some 58, O.nck (Opd.t 48), [0, 0, 1, 2, 3, 4, 5, 6, 7, 8, 9])),
   (11, false, (none, some 59, O.fad 1 (Opd.t 58), [10, 0, 1, 2, 3, 4, 5, 6, 7, 8, 9])),
   (12, true, (none, none, O.st 1 (Opd.t 59) (Opd.t 57), [11, 9, 0, 1, 2, 3, 4, 5, 6, 7, 8, 9]))]
theorem l33_1_ok : okDraw d33_1 o33_1 = true ∧ mkL d33_1 o33_1 = some l33_1 := ⟨by kernel_rfl, by kernel_rfl⟩

def d33_2 : List It :=
  [(none, some 81, O.mv (Opd.t 7), []), (none, some 82, O.mv (Opd.t 7), []),
                                        (none, some 83, O.nck (Opd.t 82), [1]),
                                        (none, some 84, O.fad 1 (Opd.t 83), [2]),
                                        (none, some 85, O.ld (CK.int IntKind.i64) (Opd.t 84), [3]),
                                        (none, some 86,
                                          O.bin BinOp.and (Opd.t 85) (Opd.c (AV.int IntKind.i64 255)), [4]),
                                        (none, some 87, O.mv (Opd.t 5), []), (none, some 88, O.nck (Opd.t 87), [6]),
                                        (none, some 89, O.fad 2 (Opd.t 88), [7]),
                                        (none, some 90, O.ld CK.any (Opd.t 89), [8]),
                                        (none, some 91, O.len false (Opd.t 90), [9]),
                                        (none, some 92,
                                          O.bin BinOp.add (Opd.t 91) (Opd.c (AV.int IntKind.i64 1)), [10]),
                                        (none, some 93, O.bin BinOp.rem (Opd.t 86) (Opd.t 92), [5, 11]),
                                        (none, some 94, O.nck (Opd.t 81),
                                          [0, 0, 1, 2, 3, 4, 5, 6, 7, 8, 9, 10, 11, 12]),
                                        (none, some 95, O.fad 1 (Opd.t 94),
                                          [13, 0, 1, 2, 3, 4, 5, 6, 7, 8, 9, 10, 11, 12]),
                                        (none, none, O.st 1 (Opd.t 95) (Opd.t 93),
                                          [14, 12, 0, 1, 2, 3, 4, 5, 6, 7, 8, 9, 10, 11, 12])]
def o33_2 : List (Nat × Bool) := [(0, false), (1, false), (2, false), (3, false), (4, false), (5, false), (6, false), (7, false), (8, false), (9, false), (10, false), (11, false), (12, false), (13, false), (14, false), (15, true)]
def l33_2 : List (Nat × Bool × It) :=
  [(0, false, (none, some 81, O.mv (Opd.t 7), [])),
   (1, false, (none, some 82, O.mv (Opd.t 7), [])),
   (2, false, (none, some 83, O.nck (Opd.t 82), [1])),
   (3, false, (none, some 84, O.fad 1 (Opd.t 83), [2])),
   (4, false, (none, some 85, O.ld (CK.int IntKind.i64) (Opd.t 84), [3])),
   (5, false, (none, some 86,
                                          O.bin BinOp.and (Opd.t 85) (Opd.c (AV.int IntKind.i64 255)), [4])),
   (6, false, (none, some 87, O.mv (Opd.t 5), [])),
   (7, false, (none, some 88, O.nck (Opd.t 87), [6])),
   (8, false, (none, some 89, O.fad 2 (Opd.t 88), [7])),
   (9, false, (none, some 90, O.ld CK.any (Opd.t 89), [8])),
   (10, false, (none, some 91, O.len false (Opd.t 90), [9])),
   (11, false, (none, some 92,
                                          O.bin BinOp.add (Opd.t 91) (Opd.c (AV.int IntKind.i64 1)), [10])),
   (12, false, (none, some 93, O.bin BinOp.rem (Opd.t 86) (Opd.t 92), [5, 11])),
   (13, false, (none, some 94, O.nck (Opd.t 81),
                                          [0, 0, 1, 2, 3, 4, 5, 6, 7, 8, 9, 10, 11, 12])),
   (14, false, (none, some 95, O.fad 1 (Opd.t 94),
                                          [13, 0, 1, 2, 3, 4, 5, 6, 7, 8, 9, 10, 11, 12])),
   (15, true, (none, none, O.st 1 (Opd.t 95) (Opd.t 93),
                                          [14, 12, 0, 1, 2, 3, 4, 5, 6, 7, 8, 9, 10, 11, 12]))]
theorem l33_2_ok : okDraw d33_2 o33_2 = true ∧ mkL d33_2 o33_2 = some l33_2 := ⟨by kernel_rfl, by kernel_rfl⟩

def d33_3 : List It :=
  [(none, some 98, O.mv (Opd.t 7), []), (none, some 99, O.mv (Opd.t 7), []),
                                            (none, some 100, O.nck (Opd.t 99), [1]),
                                            (none, some 101, O.fad 1 (Opd.t 100), [2]),
                                            (none, some 102, O.ld (CK.int IntKind.i64) (Opd.t 101), [3]),
                                            (none, some 103,
                                              O.bin BinOp.and (Opd.t 102) (Opd.c (AV.int IntKind.i64 255)),
                                              [4]),
                                            (none, some 104, O.fad 0 (Opd.t 3), []),
                                            (none, some 105, O.ld CK.any (Opd.t 104), [6]),
                                            (none, some 106, O.len false (Opd.t 105), [7]),
                                            (none, some 107,
                                              O.bin BinOp.add (Opd.t 106) (Opd.c (AV.int IntKind.i64 1)),
                                              [8]),
                                            (none, some 108, O.bin BinOp.rem (Opd.t 103) (Opd.t 107), [5, 9]),
                                            (none, some 109, O.nck (Opd.t 98), [0, 0, 1, 2, 3, 4, 5, 6, 7, 8, 9, 10]),
                                            (none, some 110, O.fad 1 (Opd.t 109),
                                              [11, 0, 1, 2, 3, 4, 5, 6, 7, 8, 9, 10]),
                                            (none, none, O.st 1 (Opd.t 110) (Opd.t 108),
                                              [12, 10, 0, 1, 2, 3, 4, 5, 6, 7, 8, 9, 10])]
def o33_3 : List (Nat × Bool) := [(0, false), (1, false), (2, false), (3, false), (4, false), (5, false), (6, false), (7, false), (8, false), (9, false), (10, false), (11, false), (12, false), (13, true)]
def l33_3 : List (Nat × Bool × It) :=
  [(0, false, (none, some 98, O.mv (Opd.t 7), [])),
   (1, false, (none, some 99, O.mv (Opd.t 7), [])),
   (2, false, (none, some 100, O.nck (Opd.t 99), [1])),
   (3, false, (none, some 101, O.fad 1 (Opd.t 100), [2])),
   (4, false, (none, some 102, O.ld (CK.int IntKind.i64) (Opd.t 101), [3])),
   (5, false, (none, some 103,
                                              O.bin BinOp.and (Opd.t 102) (Opd.c (AV.int IntKind.i64 255)),
                                              [4])),
   (6, false, (none, some 104, O.fad 0 (Opd.t 3), [])),
   (7, false, (none, some 105, O.ld CK.any (Opd.t 104), [6])),
   (8, false, (none, some 106, O.len false (Opd.t 105), [7])),
   (9, false, (none, some 107,
                                              O.bin BinOp.add (Opd.t 106) (Opd.c (AV.int IntKind.i64 1)),
                                              [8])),
   (10, false, (none, some 108, O.bin BinOp.rem (Opd.t 103) (Opd.t 107), [5, 9])),
   (11, false, (none, some 109, O.nck (Opd.t 98), [0, 0, 1, 2, 3, 4, 5, 6, 7, 8, 9, 10])),
   (12, false, (none, some 110, O.fad 1 (Opd.t 109),
                                              [11, 0, 1, 2, 3, 4, 5, 6, 7, 8, 9, 10])),
   (13, true, (none, none, O.st 1 (Opd.t 110) (Opd.t 108),
                                              [12, 10, 0, 1, 2, 3, 4, 5, 6, 7, 8, 9, 10]))]
theorem l33_3_ok : okDraw d33_3 o33_3 = true ∧ mkL d33_3 o33_3 = some l33_3 := ⟨by kernel_rfl, by kernel_rfl⟩

def d33_4 : List It :=
  [(none, some 114, O.mv (Opd.t 7), []),
                                                (none, some 115, O.mv (Opd.t 7), []),
                                                (none, some 116, O.nck (Opd.t 115), [1]),
                                                (none, some 117, O.fad 1 (Opd.t 116), [2]),
                                                (none, some 118, O.ld (CK.int IntKind.i64) (Opd.t 117), [3]),
                                                (none, some 119,
                                                  O.bin BinOp.and (Opd.t 118)
                                                    (Opd.c (AV.int IntKind.i64 255)),
                                                  [4]),
                                                (none, some 120, O.mv (Opd.t 5), []),
                                                (none, some 121, O.nck (Opd.t 120), [6]),
                                                (none, some 122, O.fad 1 (Opd.t 121), [7]),
                                                (none, some 123, O.ld (CK.int IntKind.i64) (Opd.t 122), [8]),
                                                (none, some 124,
                                                  O.bin BinOp.add (Opd.t 123)
                                                    (Opd.c (AV.int IntKind.i64 1)),
                                                  [9]),
                                                (none, some 125, O.bin BinOp.rem (Opd.t 119) (Opd.t 124), [5, 10]),
                                                (none, some 126, O.nck (Opd.t 114),
                                                  [0, 0, 1, 2, 3, 4, 5, 6, 7, 8, 9, 10, 11]),
                                                (none, some 127, O.fad 1 (Opd.t 126),
                                                  [12, 0, 1, 2, 3, 4, 5, 6, 7, 8, 9, 10, 11]),
                                                (none, none, O.st 1 (Opd.t 127) (Opd.t 125),
                                                  [13, 11, 0, 1, 2, 3, 4, 5, 6, 7, 8, 9, 10, 11])]
def o33_4 : List (Nat × Bool) := [(0, false), (1, false), (2, false), (3, false), (4, false), (5, false), (6, false), (7, false), (8, false), (9, false), (10, false), (11, false), (12, false), (13, false), (14, true)]
def l33_4 : List (Nat × Bool × It) :=
  [(0, false, (none, some 114, O.mv (Opd.t 7), [])),
   (1, false, (none, some 115, O.mv (Opd.t 7), [])),
   (2, false, (none, some 116, O.nck (Opd.t 115), [1])),
   (3, false, (none, some 117, O.fad 1 (Opd.t 116), [2])),
   (4, false, (none, some 118, O.ld (CK.int IntKind.i64) (Opd.t 117), [3])),
   (5, false, (none, some 119,
                                                  O.bin BinOp.and (Opd.t 118)
                                                    (Opd.c (AV.int IntKind.i64 255)),
                                                  [4])),
   (6, false, (none, some 120, O.mv (Opd.t 5), [])),
   (7, false, (none, some 121, O.nck (Opd.t 120), [6])),
   (8, false, (none, some 122, O.fad 1 (Opd.t 121), [7])),
   (9, false, (none, some 123, O.ld (CK.int IntKind.i64) (Opd.t 122), [8])),
   (10, false, (none, some 124,
                                                  O.bin BinOp.add (Opd.t 123)
                                                    (Opd.c (AV.int IntKind.i64 1)),
                                                  [9])),
   (11, false, (none, some 125, O.bin BinOp.rem (Opd.t 119) (Opd.t 124), [5, 10])),
   (12, false, (none, some 126, O.nck (Opd.t 114),
                                                  [0, 0, 1, 2, 3, 4, 5, 6, 7, 8, 9, 10, 11])),
   (13, false, (none, some 127, O.fad 1 (Opd.t 126),
                                                  [12, 0, 1, 2, 3, 4, 5, 6, 7, 8, 9, 10, 11])),
   (14, true, (none, none, O.st 1 (Opd.t 127) (Opd.t 125),
                                                  [13, 11, 0, 1, 2, 3, 4, 5, 6, 7, 8, 9, 10, 11]))]
theorem l33_4_ok : okDraw d33_4 o33_4 = true ∧ mkL d33_4 o33_4 = some l33_4 := ⟨by kernel_rfl, by kernel_rfl⟩

def c33 : List C :=
  [C.op none (some 1) (O.box (Opd.t 0)), C.op none (some 2) (O.alloc [AV.nilsl]),
    C.op none (some 8) (O.ldn [CK.any] (Opd.t 1)), C.op none (some 9) (O.call 62 [Opd.t 8]),
    C.op none (some 3) (O.alloc [AV.nilsl]), C.op none none (O.st 1 (Opd.t 3) (Opd.t 9)),
    C.blk 0
      [C.loop
          [C.op none (some 10) (O.fad 0 (Opd.t 3)), C.op none (some 11) (O.ld CK.any (Opd.t 10)),
            C.op none (some 12) (O.len false (Opd.t 11)),
            C.op none (some 13) (O.bin BinOp.lss (Opd.t 12) (Opd.c (AV.int IntKind.i64 2))),
            C.cond (Opd.t 13) [] [C.exit 0],
            C.blk 1
              [C.draw d33_0]]],
    C.op none (some 24) (O.fad 0 (Opd.t 3)), C.op none (some 25) (O.ld CK.any (Opd.t 24)),
    C.op none (some 26) (O.len false (Opd.t 25)), C.op none (some 27) (O.mv (Opd.c (AV.int IntKind.i64 0))),
    C.blk 2
      [C.loop
          [C.op none (some 28) (O.bin BinOp.lss (Opd.t 27) (Opd.t 26)), C.cond (Opd.t 28) [] [C.exit 2],
            C.blk 3
              [C.op none (some 29) (O.mv (Opd.t 27)), C.op none (some 4) (O.mv (Opd.t 29)),
                C.op none (some 30) (O.fad 0 (Opd.t 3)), C.op none (some 31) (O.ld CK.any (Opd.t 30)),
                C.op none (some 32) (O.mv (Opd.t 4)), C.op none (some 33) (O.iad 3 (Opd.t 31) (Opd.t 32)),
                C.op none (some 5) (O.mv (Opd.t 33)), C.op none (some 34) (O.mv (Opd.t 4)),
                C.op none (some 35) (O.bin BinOp.lss (Opd.t 34) (Opd.c (AV.int IntKind.i64 2))),
                C.cond (Opd.t 35)
                  [C.op none (some 36) (O.mv (Opd.t 5)), C.op none (some 37) (O.mv (Opd.t 4)),
                    C.op none (some 38) (O.call 27 [Opd.t 37]), C.op none (some 39) (O.nck (Opd.t 36)),
                    C.op none (some 40) (O.fad 0 (Opd.t 39)), C.op none none (O.st 1 (Opd.t 40) (Opd.t 38))]
                  [],
                C.op none (some 41) (O.mv (Opd.t 5)), C.op none (some 42) (O.nck (Opd.t 41)),
                C.op none (some 43) (O.fad 0 (Opd.t 42)), C.op none (some 44) (O.ld (CK.int IntKind.i64) (Opd.t 43)),
                C.op none (some 45) (O.bin BinOp.and (Opd.t 44) (Opd.c (AV.int IntKind.i64 7))),
                C.op none (some 46) (O.nck (Opd.t 41)), C.op none (some 47) (O.fad 0 (Opd.t 46)),
                C.op none none (O.st 1 (Opd.t 47) (Opd.t 45)),
                C.draw d33_1,
                C.op none (some 60) (O.mv (Opd.t 5)), C.op none (some 61) (O.nck (Opd.t 60)),
                C.op none (some 62) (O.fad 2 (Opd.t 61)), C.op none (some 63) (O.ld CK.any (Opd.t 62)),
                C.op none (some 64) (O.len false (Opd.t 63)),
                C.op none (some 65) (O.mv (Opd.c (AV.int IntKind.i64 0))),
                C.blk 4
                  [C.loop
                      [C.op none (some 66) (O.bin BinOp.lss (Opd.t 65) (Opd.t 64)), C.cond (Opd.t 66) [] [C.exit 4],
                        C.blk 5
                          [C.op none (some 67) (O.mv (Opd.t 65)), C.op none (some 6) (O.mv (Opd.t 67)),
                            C.op none (some 68) (O.mv (Opd.t 5)), C.op none (some 69) (O.nck (Opd.t 68)),
                            C.op none (some 70) (O.fad 2 (Opd.t 69)), C.op none (some 71) (O.ld CK.any (Opd.t 70)),
                            C.op none (some 72) (O.mv (Opd.t 6)), C.op none (some 73) (O.iad 2 (Opd.t 71) (Opd.t 72)),
                            C.op none (some 7) (O.mv (Opd.t 73)), C.op none (some 74) (O.mv (Opd.t 7)),
                            C.op none (some 75) (O.nck (Opd.t 74)), C.op none (some 76) (O.fad 0 (Opd.t 75)),
                            C.op none (some 77) (O.ld (CK.int IntKind.u8) (Opd.t 76)),
                            C.blk 6
                              [C.op none (some 79)
                                  (O.bin BinOp.eql (Opd.t 77) (Opd.c (AV.int IntKind.u8 13))),
                                C.op none (some 78) (O.mv (Opd.t 79)),
                                C.cond (Opd.t 78) []
                                  [C.op none (some 80)
                                      (O.bin BinOp.eql (Opd.t 77) (Opd.c (AV.int IntKind.u8 14))),
                                    C.op none (some 78) (O.mv (Opd.t 80))],
                                C.cond (Opd.t 78)
                                  [C.draw d33_2]
                                  [C.op none (some 97)
                                      (O.bin BinOp.eql (Opd.t 77) (Opd.c (AV.int IntKind.u8 15))),
                                    C.op none (some 96) (O.mv (Opd.t 97)),
                                    C.cond (Opd.t 96)
                                      [C.draw d33_3]
                                      [C.op none (some 112)
                                          (O.bin BinOp.eql (Opd.t 77) (Opd.c (AV.int IntKind.u8 17))),
                                        C.op none (some 111) (O.mv (Opd.t 112)),
                                        C.cond (Opd.t 111) []
                                          [C.op none (some 113)
                                              (O.bin BinOp.eql (Opd.t 77) (Opd.c (AV.int IntKind.u8 18))),
                                            C.op none (some 111) (O.mv (Opd.t 113))],
                                        C.cond (Opd.t 111)
                                          [C.draw d33_4]
                                          [C.op none (some 129)
                                              (O.bin BinOp.eql (Opd.t 77) (Opd.c (AV.int IntKind.u8 22))),
                                            C.op none (some 128) (O.mv (Opd.t 129)),
                                            C.cond (Opd.t 128)
                                              [C.op none (some 130) (O.mv (Opd.t 7)),
                                                C.op none (some 131) (O.mv (Opd.t 7)),
                                                C.op none (some 132) (O.nck (Opd.t 131)),
                                                C.op none (some 133) (O.fad 1 (Opd.t 132)),
                                                C.op none (some 134) (O.ld (CK.int IntKind.i64) (Opd.t 133)),
                                                C.op none (some 135)
                                                  (O.bin BinOp.and (Opd.t 134)
                                                    (Opd.c (AV.int IntKind.i64 255))),
                                                C.op none (some 136)
                                                  (O.bin BinOp.rem (Opd.t 135)
                                                    (Opd.c (AV.int IntKind.i64 8))),
                                                C.op none (some 137) (O.nck (Opd.t 130)),
                                                C.op none (some 138) (O.fad 1 (Opd.t 137)),
                                                C.op none none (O.st 1 (Opd.t 138) (Opd.t 136))]
                                              []]]]]],
                        C.op none (some 139) (O.bin BinOp.add (Opd.t 65) (Opd.c (AV.int IntKind.i64 1))),
                        C.op none (some 65) (O.mv (Opd.t 139))]]],
            C.op none (some 140) (O.bin BinOp.add (Opd.t 27) (Opd.c (AV.int IntKind.i64 1))),
            C.op none (some 27) (O.mv (Opd.t 140))]],
    C.op none (some 141) (O.ldn [CK.any] (Opd.t 3)), C.op none none (O.st 1 (Opd.t 2) (Opd.t 141)), C.ret]
def r33 : List RV := [RV.cn 2 1]
theorem c33_ok : cC Try.prog Try.f33.ntmps (Try.f33.body.getD .skip) = some c33 := by kernel_rfl

def c34 : List C :=
  [C.op none (some 1) (O.box (Opd.t 0)), C.op none (some 2) (O.mv (Opd.c AV.nilsl)),
    C.op none (some 9) (O.bsl 3 [AV.int IntKind.i64 0, AV.int IntKind.i64 0, AV.nilsl] 0 []),
    C.op none (some 3) (O.mv (Opd.t 9)), C.op none (some 10) (O.fad 0 (Opd.t 1)),
    C.op none (some 11) (O.ld CK.any (Opd.t 10)), C.op none (some 12) (O.len false (Opd.t 11)),
    C.op none (some 13) (O.mv (Opd.c (AV.int IntKind.i64 0))),
    C.blk 0
      [C.loop
          [C.op none (some 14) (O.bin BinOp.lss (Opd.t 13) (Opd.t 12)), C.cond (Opd.t 14) [] [C.exit 0],
            C.blk 1
              [C.op none (some 15) (O.iad 3 (Opd.t 11) (Opd.t 13)),
                C.op none (some 16) (O.ldn [CK.int IntKind.i64, CK.int IntKind.i64, CK.any] (Opd.t 15)),
                C.op none (some 5)
                  (O.alloc [AV.int IntKind.i64 0, AV.int IntKind.i64 0, AV.nilsl]),
                C.op none none (O.st 3 (Opd.t 5) (Opd.t 16)), C.op none (some 17) (O.fad 0 (Opd.t 5)),
                C.op none (some 18) (O.ld (CK.int IntKind.i64) (Opd.t 17)), C.op none (some 19) (O.fad 1 (Opd.t 5)),
                C.op none (some 20) (O.ld (CK.int IntKind.i64) (Opd.t 19)),
                C.op none (some 21)
                  (O.build [AV.int IntKind.i64 0, AV.int IntKind.i64 0, AV.nilsl]
                    [(0, 1, Opd.t 18), (1, 1, Opd.t 20)]),
                C.op none (some 6)
                  (O.alloc [AV.int IntKind.i64 0, AV.int IntKind.i64 0, AV.nilsl]),
                C.op none none (O.st 3 (Opd.t 6) (Opd.t 21)), C.op none (some 22) (O.fad 2 (Opd.t 5)),
                C.op none (some 23) (O.ld CK.any (Opd.t 22)), C.op none (some 24) (O.len false (Opd.t 23)),
                C.op none (some 25) (O.mv (Opd.c (AV.int IntKind.i64 0))),
                C.blk 2
                  [C.loop
                      [C.op none (some 26) (O.bin BinOp.lss (Opd.t 25) (Opd.t 24)), C.cond (Opd.t 26) [] [C.exit 2],
                        C.blk 3
                          [C.op none (some 27) (O.iad 2 (Opd.t 23) (Opd.t 25)),
                            C.op none (some 28) (O.ldn [CK.int IntKind.u8, CK.int IntKind.i64] (Opd.t 27)),
                            C.op none (some 8)
                              (O.alloc [AV.int IntKind.u8 0, AV.int IntKind.i64 0]),
                            C.op none none (O.st 2 (Opd.t 8) (Opd.t 28)), C.op none (some 29) (O.fad 2 (Opd.t 6)),
                            C.op none (some 30) (O.ld CK.any (Opd.t 29)), C.op none (some 31) (O.fad 0 (Opd.t 8)),
                            C.op none (some 32) (O.ld (CK.int IntKind.u8) (Opd.t 31)),
                            C.op none (some 33) (O.cvi IntKind.i64 (Opd.t 32)), C.op none (some 34) (O.fad 1 (Opd.t 8)),
                            C.op none (some 35) (O.ld (CK.int IntKind.i64) (Opd.t 34)),
                            C.op none (some 36)
                              (O.build [AV.int IntKind.i64 0, AV.int IntKind.i64 0]
                                [(0, 1, Opd.t 33), (1, 1, Opd.t 35)]),
                            C.op none (some 37)
                              (O.bsl 2 [AV.int IntKind.i64 0, AV.int IntKind.i64 0] 1
                                [(0, Opd.t 36)]),
                            C.op none (some 38) (O.app 2 (Opd.t 30) (Opd.t 37)),
                            C.op none (some 39) (O.fad 2 (Opd.t 6)), C.op none none (O.st 1 (Opd.t 39) (Opd.t 38))],
                        C.op none (some 40) (O.bin BinOp.add (Opd.t 25) (Opd.c (AV.int IntKind.i64 1))),
                        C.op none (some 25) (O.mv (Opd.t 40))]],
                C.op none (some 41) (O.mv (Opd.t 3)),
                C.op none (some 42) (O.ldn [CK.int IntKind.i64, CK.int IntKind.i64, CK.any] (Opd.t 6)),
                C.op none (some 43)
                  (O.bsl 3 [AV.int IntKind.i64 0, AV.int IntKind.i64 0, AV.nilsl] 1
                    [(0, Opd.t 42)]),
                C.op none (some 44) (O.app 3 (Opd.t 41) (Opd.t 43)), C.op none (some 3) (O.mv (Opd.t 44))],
            C.op none (some 45) (O.bin BinOp.add (Opd.t 13) (Opd.c (AV.int IntKind.i64 1))),
            C.op none (some 13) (O.mv (Opd.t 45))]],
    C.op none (some 46) (O.mv (Opd.t 3)), C.op none (some 2) (O.mv (Opd.t 46)), C.ret]
def r34 : List RV := [RV.t 2]
theorem c34_ok : cC Try.prog Try.f34.ntmps (Try.f34.body.getD .skip) = some c34 := by kernel_rfl

def d35_0 : List It :=
  [(none, some 28, O.ldn [CK.any] (Opd.t 2), []), (none, some 29, O.fad 0 (Opd.t 2), []),
        (none, some 30, O.ld CK.any (Opd.t 29), [1]), (none, some 31, O.mv (Opd.t 1), []),
        (none, some 32, O.iad 3 (Opd.t 30) (Opd.t 31), [2, 3]),
        (none, some 33, O.ldn [CK.int IntKind.i64, CK.int IntKind.i64, CK.any] (Opd.t 32), [4]),
        (none, some 34, O.call 61 [Opd.t 28, Opd.t 33], [0, 5]), (none, some 27, O.mv (Opd.t 34), [6]),
        (none, some 35, O.ext (Opd.t 27) 0, [7]), (none, some 36, O.ext (Opd.t 27) 1, [7]),
        (none, some 6, O.mv (Opd.t 35), [8, 6, 0, 1, 2, 3, 4, 5, 6, 7, 8]),
        (none, some 7, O.mv (Opd.t 36), [9, 10, 0, 1, 2, 3, 4, 5, 6, 7, 8, 9, 10])]
def o35_0 : List (Nat × Bool) := [(0, false), (1, false), (2, false), (3, false), (4, false), (5, false), (6, true), (7, false), (8, false), (9, false), (10, false), (11, false)]
def l35_0 : List (Nat × Bool × It) :=
  [(0, false, (none, some 28, O.ldn [CK.any] (Opd.t 2), [])),
   (1, false, (none, some 29, O.fad 0 (Opd.t 2), [])),
   (2, false, (none, some 30, O.ld CK.any (Opd.t 29), [1])),
   (3, false, (none, some 31, O.mv (Opd.t 1), [])),
   (4, false, (none, some 32, O.iad 3 (Opd.t 30) (Opd.t 31), [2, 3])),
   (5, false, (none, some 33, O.ldn [CK.int IntKind.i64, CK.int IntKind.i64, CK.any] (Opd.t 32), [4])),
   (6, true, (none, some 34, O.call 61 [Opd.t 28, Opd.t 33], [0, 5])),
   (7, false, (none, some 27, O.mv (Opd.t 34), [6])),
   (8, false, (none, some 35, O.ext (Opd.t 27) 0, [7])),
   (9, false, (none, some 36, O.ext (Opd.t 27) 1, [7])),
   (10, false, (none, some 6, O.mv (Opd.t 35), [8, 6, 0, 1, 2, 3, 4, 5, 6, 7, 8])),
   (11, false, (none, some 7, O.mv (Opd.t 36), [9, 10, 0, 1, 2, 3, 4, 5, 6, 7, 8, 9, 10]))]
theorem l35_0_ok : okDraw d35_0 o35_0 = true ∧ mkL d35_0 o35_0 = some l35_0 := ⟨by kernel_rfl, by kernel_rfl⟩

def c35 : List C :=
  [C.op none (some 2) (O.box (Opd.t 0)), C.op none (some 4) (O.mv (Opd.c AV.nilsl)),
    C.op none (some 5) (O.mv (Opd.c (AV.bool false))), C.op none (some 8) (O.mv (Opd.t 1)),
    C.op none (some 9) (O.bin BinOp.lss (Opd.t 8) (Opd.c (AV.int IntKind.i64 0))),
    C.op none (some 10) (O.mv (Opd.t 9)), C.op (some (10, false)) (some 11) (O.mv (Opd.t 1)),
    C.op (some (10, false)) (some 12) (O.fad 0 (Opd.t 2)), C.op (some (10, false)) (some 13) (O.ld CK.any (Opd.t 12)),
    C.op (some (10, false)) (some 14) (O.len false (Opd.t 13)),
    C.op (some (10, false)) (some 15) (O.bin BinOp.geq (Opd.t 11) (Opd.t 14)),
    C.op none (some 16) (O.pick (Opd.t 10) (Opd.c (AV.bool true)) (Opd.t 15)), C.op none (some 17) (O.mv (Opd.t 16)),
    C.op (some (17, false)) (some 18) (O.fad 0 (Opd.t 2)), C.op (some (17, false)) (some 19) (O.ld CK.any (Opd.t 18)),
    C.op (some (17, false)) (some 20) (O.mv (Opd.t 1)),
    C.op (some (17, false)) (some 21) (O.iad 3 (Opd.t 19) (Opd.t 20)),
    C.op (some (17, false)) (some 22) (O.fad 2 (Opd.t 21)), C.op (some (17, false)) (some 23) (O.ld CK.any (Opd.t 22)),
    C.op (some (17, false)) (some 24) (O.len false (Opd.t 23)),
    C.op (some (17, false)) (some 25) (O.bin BinOp.eql (Opd.t 24) (Opd.c (AV.int IntKind.i64 0))),
    C.op none (some 26) (O.pick (Opd.t 17) (Opd.c (AV.bool true)) (Opd.t 25)),
    C.cond (Opd.t 26)
      [C.op none (some 4) (O.mv (Opd.c AV.nilsl)), C.op none (some 5) (O.mv (Opd.c (AV.bool false))), C.ret] [],
    C.draw d35_0,
    C.op none (some 37) (O.mv (Opd.t 6)), C.op none (some 38) (O.mv (Opd.t 7)),
    C.op none (some 39) (O.bin BinOp.lss (Opd.t 38) (Opd.c (AV.int IntKind.i64 0))),
    C.op none (some 4) (O.mv (Opd.t 37)), C.op none (some 5) (O.mv (Opd.t 39)), C.ret]
def r35 : List RV := [RV.t 4, RV.t 5]
theorem c35_ok : cC Try.prog Try.f35.ntmps (Try.f35.body.getD .skip) = some c35 := by kernel_rfl

def c36 : List C :=
  [C.op none (some 3) (O.box (Opd.t 1)), C.op none (some 4) (O.mv (Opd.c (AV.int IntKind.i64 0))),
    C.op none (some 5) (O.fad 0 (Opd.t 3)), C.op none (some 6) (O.ld (CK.int IntKind.i64) (Opd.t 5)),
    C.blk 0
      [C.op none (some 8) (O.bin BinOp.eql (Opd.t 6) (Opd.c (AV.int IntKind.i64 2))),
        C.op none (some 7) (O.mv (Opd.t 8)),
        C.cond (Opd.t 7) []
          [C.op none (some 9) (O.bin BinOp.eql (Opd.t 6) (Opd.c (AV.int IntKind.i64 3))),
            C.op none (some 7) (O.mv (Opd.t 9)),
            C.cond (Opd.t 7) []
              [C.op none (some 10) (O.bin BinOp.eql (Opd.t 6) (Opd.c (AV.int IntKind.i64 12))),
                C.op none (some 7) (O.mv (Opd.t 10)),
                C.cond (Opd.t 7) []
                  [C.op none (some 11) (O.bin BinOp.eql (Opd.t 6) (Opd.c (AV.int IntKind.i64 14))),
                    C.op none (some 7) (O.mv (Opd.t 11)),
                    C.cond (Opd.t 7) []
                      [C.op none (some 12) (O.bin BinOp.eql (Opd.t 6) (Opd.c (AV.int IntKind.i64 16))),
                        C.op none (some 7) (O.mv (Opd.t 12)),
                        C.cond (Opd.t 7) []
                          [C.op none (some 13) (O.bin BinOp.eql (Opd.t 6) (Opd.c (AV.int IntKind.i64 18))),
                            C.op none (some 7) (O.mv (Opd.t 13)),
                            C.cond (Opd.t 7) []
                              [C.op none (some 14)
                                  (O.bin BinOp.eql (Opd.t 6) (Opd.c (AV.int IntKind.i64 19))),
                                C.op none (some 7) (O.mv (Opd.t 14)),
                                C.cond (Opd.t 7) []
                                  [C.op none (some 15)
                                      (O.bin BinOp.eql (Opd.t 6) (Opd.c (AV.int IntKind.i64 21))),
                                    C.op none (some 7) (O.mv (Opd.t 15))]]]]]]],
        C.cond (Opd.t 7) [C.op none (some 4) (O.mv (Opd.c (AV.int IntKind.i64 1))), C.ret]
          [C.op none (some 17) (O.bin BinOp.eql (Opd.t 6) (Opd.c (AV.int IntKind.i64 4))),
            C.op none (some 16) (O.mv (Opd.t 17)),
            C.cond (Opd.t 16) []
              [C.op none (some 18) (O.bin BinOp.eql (Opd.t 6) (Opd.c (AV.int IntKind.i64 5))),
                C.op none (some 16) (O.mv (Opd.t 18)),
                C.cond (Opd.t 16) []
                  [C.op none (some 19) (O.bin BinOp.eql (Opd.t 6) (Opd.c (AV.int IntKind.i64 6))),
                    C.op none (some 16) (O.mv (Opd.t 19)),
                    C.cond (Opd.t 16) []
                      [C.op none (some 20) (O.bin BinOp.eql (Opd.t 6) (Opd.c (AV.int IntKind.i64 7))),
                        C.op none (some 16) (O.mv (Opd.t 20)),
                        C.cond (Opd.t 16) []
                          [C.op none (some 21) (O.bin BinOp.eql (Opd.t 6) (Opd.c (AV.int IntKind.i64 8))),
                            C.op none (some 16) (O.mv (Opd.t 21)),
                            C.cond (Opd.t 16) []
                              [C.op none (some 22)
                                  (O.bin BinOp.eql (Opd.t 6) (Opd.c (AV.int IntKind.i64 9))),
                                C.op none (some 16) (O.mv (Opd.t 22)),
                                C.cond (Opd.t 16) []
                                  [C.op none (some 23)
                                      (O.bin BinOp.eql (Opd.t 6) (Opd.c (AV.int IntKind.i64 10))),
                                    C.op none (some 16) (O.mv (Opd.t 23)),
                                    C.cond (Opd.t 16) []
                                      [C.op none (some 24)
                                          (O.bin BinOp.eql (Opd.t 6) (Opd.c (AV.int IntKind.i64 11))),
                                        C.op none (some 16) (O.mv (Opd.t 24)),
                                        C.cond (Opd.t 16) []
                                          [C.op none (some 25)
                                              (O.bin BinOp.eql (Opd.t 6) (Opd.c (AV.int IntKind.i64 20))),
                                            C.op none (some 16) (O.mv (Opd.t 25))]]]]]]]],
            C.cond (Opd.t 16) [C.op none (some 4) (O.mv (Opd.c (AV.int IntKind.i64 2))), C.ret]
              [C.op none (some 27) (O.bin BinOp.eql (Opd.t 6) (Opd.c (AV.int IntKind.i64 15))),
                C.op none (some 26) (O.mv (Opd.t 27)),
                C.cond (Opd.t 26)
                  [C.op none (some 28) (O.mv (Opd.t 0)), C.op none (some 29) (O.fad 1 (Opd.t 3)),
                    C.op none (some 30) (O.ld (CK.int IntKind.i64) (Opd.t 29)),
                    C.op none (some 31) (O.iad 3 (Opd.t 28) (Opd.t 30)), C.op none (some 32) (O.fad 0 (Opd.t 31)),
                    C.op none (some 33) (O.ld (CK.int IntKind.i64) (Opd.t 32)), C.op none (some 4) (O.mv (Opd.t 33)),
                    C.ret]
                  [C.op none (some 35) (O.bin BinOp.eql (Opd.t 6) (Opd.c (AV.int IntKind.i64 22))),
                    C.op none (some 34) (O.mv (Opd.t 35)),
                    C.cond (Opd.t 34)
                      [C.op none (some 36) (O.fad 1 (Opd.t 3)),
                        C.op none (some 37) (O.ld (CK.int IntKind.i64) (Opd.t 36)),
                        C.op none (some 38) (O.call 26 [Opd.t 37]), C.op none (some 4) (O.mv (Opd.t 38)), C.ret]
                      []]]]],
    C.op none (some 4) (O.mv (Opd.c (AV.int IntKind.i64 0))), C.ret]
def r36 : List RV := [RV.t 4]
theorem c36_ok : cC Try.prog Try.f36.ntmps (Try.f36.body.getD .skip) = some c36 := by kernel_rfl

def c37 : List C :=
  [C.op none (some 1) (O.box (Opd.t 0)), C.op none (some 2) (O.mv (Opd.c (AV.int IntKind.i64 0))),
    C.op none (some 3) (O.fad 0 (Opd.t 1)), C.op none (some 4) (O.ld (CK.int IntKind.i64) (Opd.t 3)),
    C.blk 0
      [C.op none (some 6) (O.bin BinOp.eql (Opd.t 4) (Opd.c (AV.int IntKind.i64 1))),
        C.op none (some 5) (O.mv (Opd.t 6)),
        C.cond (Opd.t 5) []
          [C.op none (some 7) (O.bin BinOp.eql (Opd.t 4) (Opd.c (AV.int IntKind.i64 5))),
            C.op none (some 5) (O.mv (Opd.t 7)),
            C.cond (Opd.t 5) []
              [C.op none (some 8) (O.bin BinOp.eql (Opd.t 4) (Opd.c (AV.int IntKind.i64 6))),
                C.op none (some 5) (O.mv (Opd.t 8)),
                C.cond (Opd.t 5) []
                  [C.op none (some 9) (O.bin BinOp.eql (Opd.t 4) (Opd.c (AV.int IntKind.i64 7))),
                    C.op none (some 5) (O.mv (Opd.t 9)),
                    C.cond (Opd.t 5) []
                      [C.op none (some 10) (O.bin BinOp.eql (Opd.t 4) (Opd.c (AV.int IntKind.i64 8))),
                        C.op none (some 5) (O.mv (Opd.t 10)),
                        C.cond (Opd.t 5) []
                          [C.op none (some 11) (O.bin BinOp.eql (Opd.t 4) (Opd.c (AV.int IntKind.i64 9))),
                            C.op none (some 5) (O.mv (Opd.t 11)),
                            C.cond (Opd.t 5) []
                              [C.op none (some 12)
                                  (O.bin BinOp.eql (Opd.t 4) (Opd.c (AV.int IntKind.i64 10))),
                                C.op none (some 5) (O.mv (Opd.t 12)),
                                C.cond (Opd.t 5) []
                                  [C.op none (some 13)
                                      (O.bin BinOp.eql (Opd.t 4) (Opd.c (AV.int IntKind.i64 11))),
                                    C.op none (some 5) (O.mv (Opd.t 13)),
                                    C.cond (Opd.t 5) []
                                      [C.op none (some 14)
                                          (O.bin BinOp.eql (Opd.t 4) (Opd.c (AV.int IntKind.i64 12))),
                                        C.op none (some 5) (O.mv (Opd.t 14)),
                                        C.cond (Opd.t 5) []
                                          [C.op none (some 15)
                                              (O.bin BinOp.eql (Opd.t 4) (Opd.c (AV.int IntKind.i64 15))),
                                            C.op none (some 5) (O.mv (Opd.t 15)),
                                            C.cond (Opd.t 5) []
                                              [C.op none (some 16)
                                                  (O.bin BinOp.eql (Opd.t 4)
                                                    (Opd.c (AV.int IntKind.i64 17))),
                                                C.op none (some 5) (O.mv (Opd.t 16)),
                                                C.cond (Opd.t 5) []
                                                  [C.op none (some 17)
                                                      (O.bin BinOp.eql (Opd.t 4)
                                                        (Opd.c (AV.int IntKind.i64 19))),
                                                    C.op none (some 5) (O.mv (Opd.t 17)),
                                                    C.cond (Opd.t 5) []
                                                      [C.op none (some 18)
                                                          (O.bin BinOp.eql (Opd.t 4)
                                                            (Opd.c (AV.int IntKind.i64 21))),
                                                        C.op none (some 5) (O.mv (Opd.t 18)),
                                                        C.cond (Opd.t 5) []
                                                          [C.op none (some 19)
                                                              (O.bin BinOp.eql (Opd.t 4)
                                                                (Opd.c (AV.int IntKind.i64 22))),
                                                            C.op none (some 5) (O.mv (Opd.t 19))]]]]]]]]]]]]],
        C.cond (Opd.t 5) [C.op none (some 2) (O.mv (Opd.c (AV.int IntKind.i64 1))), C.ret]
          [C.op none (some 21) (O.bin BinOp.eql (Opd.t 4) (Opd.c (AV.int IntKind.i64 3))),
            C.op none (some 20) (O.mv (Opd.t 21)),
            C.cond (Opd.t 20) []
              [C.op none (some 22) (O.bin BinOp.eql (Opd.t 4) (Opd.c (AV.int IntKind.i64 4))),
                C.op none (some 20) (O.mv (Opd.t 22))],
            C.cond (Opd.t 20) [C.op none (some 2) (O.mv (Opd.c (AV.int IntKind.i64 2))), C.ret] []]],
    C.op none (some 2) (O.mv (Opd.c (AV.int IntKind.i64 0))), C.ret]
def r37 : List RV := [RV.t 2]
theorem c37_ok : cC Try.prog Try.f37.ntmps (Try.f37.body.getD .skip) = some c37 := by kernel_rfl

def c38 : List C :=
  [C.op none (some 4) (O.mv (Opd.c (AV.str []))), C.op none (some 5) (O.mv (Opd.t 0)),
    C.op none (some 6) (O.len true (Opd.t 5)), C.op none (some 7) (O.mv (Opd.t 1)),
    C.op none (some 8) (O.bin BinOp.gtr (Opd.t 6) (Opd.t 7)),
    C.cond (Opd.t 8)
      [C.op none (some 9) (O.mv (Opd.t 0)), C.op none (some 10) (O.mv (Opd.t 1)),
        C.op none (some 11) (O.ssl (Opd.t 9) none (some (Opd.t 10))), C.op none (some 4) (O.mv (Opd.t 11)), C.ret]
      [],
    C.op none (some 12) (O.mv (Opd.t 0)), C.op none (some 4) (O.mv (Opd.t 12)), C.ret]
def r38 : List RV := [RV.t 4]
theorem c38_ok : cC Try.prog Try.f38.ntmps (Try.f38.body.getD .skip) = some c38 := by kernel_rfl

def c39 : List C :=
  [C.op none (some 2) (O.mv (Opd.c AV.nilptr)), C.op none (some 3) (O.mv (Opd.t 0)),
    C.op none (some 4) (O.build [AV.str [], AV.int IntKind.i64 0] [(0, 1, Opd.t 3)]),
    C.op none (some 5) (O.box (Opd.t 4)), C.op none (some 2) (O.mv (Opd.t 5)), C.ret]
def r39 : List RV := [RV.t 2]
theorem c39_ok : cC Try.prog Try.f39.ntmps (Try.f39.body.getD .skip) = some c39 := by kernel_rfl

def c40 : List C :=
  [C.op none (some 2) (O.mv (Opd.c AV.nilptr)),
    C.op none (some 3)
      (O.alloc
        [AV.int IntKind.i64 0, AV.int IntKind.i64 0, AV.int IntKind.i64 0,
          AV.int IntKind.i64 0, AV.int IntKind.i64 0, AV.int IntKind.i64 0,
          AV.int IntKind.i64 0, AV.int IntKind.i64 0, AV.int IntKind.i64 0,
          AV.int IntKind.i64 0, AV.int IntKind.i64 0, AV.int IntKind.i64 0,
          AV.int IntKind.i64 0, AV.int IntKind.i64 0, AV.int IntKind.i64 0,
          AV.int IntKind.i64 0, AV.int IntKind.i64 0, AV.int IntKind.i64 0,
          AV.int IntKind.i64 0, AV.int IntKind.i64 0, AV.int IntKind.i64 0,
          AV.int IntKind.i64 0, AV.int IntKind.i64 0, AV.int IntKind.i64 0,
          AV.int IntKind.i64 0, AV.int IntKind.i64 0, AV.int IntKind.i64 0,
          AV.int IntKind.i64 0, AV.int IntKind.i64 0, AV.int IntKind.i64 0,
          AV.int IntKind.i64 0, AV.int IntKind.i64 0, AV.int IntKind.i64 0,
          AV.int IntKind.i64 0, AV.int IntKind.i64 0, AV.int IntKind.i64 0,
          AV.int IntKind.i64 0, AV.int IntKind.i64 0, AV.int IntKind.i64 0,
          AV.int IntKind.i64 0, AV.int IntKind.i64 0, AV.int IntKind.i64 0,
          AV.int IntKind.i64 0, AV.int IntKind.i64 0, AV.int IntKind.i64 0,
          AV.int IntKind.i64 0, AV.int IntKind.i64 0, AV.int IntKind.i64 0,
          AV.int IntKind.i64 0, AV.int IntKind.i64 0, AV.int IntKind.i64 0,
          AV.int IntKind.i64 0, AV.int IntKind.i64 0, AV.int IntKind.i64 0,
          AV.int IntKind.i64 0, AV.int IntKind.i64 0, AV.int IntKind.i64 0,
          AV.int IntKind.i64 0, AV.int IntKind.i64 0, AV.int IntKind.i64 0,
          AV.int IntKind.i64 0, AV.int IntKind.i64 0, AV.int IntKind.i64 0,
          AV.int IntKind.i64 0]),
    C.op none (some 6) (O.mv (Opd.t 0)),
    C.op none (some 7) (O.call 63 [Opd.t 6, Opd.c (AV.int IntKind.i64 64)]),
    C.op none (some 4) (O.mv (Opd.t 7)), C.op none (some 8) (O.mv (Opd.t 4)),
    C.op none (some 9) (O.mv (Opd.c (AV.int IntKind.i64 0))),
    C.blk 0
      [C.loop
          [C.op none (some 10) (O.bin BinOp.lss (Opd.t 9) (Opd.t 8)), C.cond (Opd.t 10) [] [C.exit 0],
            C.blk 1
              [C.op none (some 11) (O.mv (Opd.t 9)), C.op none (some 5) (O.mv (Opd.t 11)),
                C.op none (some 12) (O.mv (Opd.t 5)), C.op none (some 13) (O.mv (Opd.t 0)),
                C.op none (some 14) (O.call 64 [Opd.t 13]), C.op none (some 15) (O.fad 0 (Opd.t 3)),
                C.op none (some 16) (O.iaa 64 (Opd.t 15) (Opd.t 12)), C.op none none (O.st 1 (Opd.t 16) (Opd.t 14))],
            C.op none (some 17) (O.bin BinOp.add (Opd.t 9) (Opd.c (AV.int IntKind.i64 1))),
            C.op none (some 9) (O.mv (Opd.t 17))]],
    C.op none (some 18) (O.mv (Opd.t 4)),
    C.op none (some 19) (O.bin BinOp.gtr (Opd.t 18) (Opd.c (AV.int IntKind.i64 0))),
    C.op none (some 20) (O.mv (Opd.t 19)), C.op (some (20, true)) (some 21) (O.mv (Opd.t 4)),
    C.op (some (20, true)) (some 22) (O.bin BinOp.sub (Opd.t 21) (Opd.c (AV.int IntKind.i64 1))),
    C.op (some (20, true)) (some 23) (O.fad 0 (Opd.t 3)),
    C.op (some (20, true)) (some 24) (O.iaa 64 (Opd.t 23) (Opd.t 22)),
    C.op (some (20, true)) (some 25) (O.ld (CK.int IntKind.i64) (Opd.t 24)),
    C.op (some (20, true)) (some 26) (O.bin BinOp.eql (Opd.t 25) (Opd.c (AV.int IntKind.i64 0))),
    C.op none (some 27) (O.pick (Opd.t 20) (Opd.t 26) (Opd.c (AV.bool false))),
    C.cond (Opd.t 27)
      [C.op none (some 28) (O.mv (Opd.t 0)),
        C.op none (some 29) (O.call 65 [Opd.t 28, Opd.c (AV.int IntKind.i64 2)])]
      [],
    C.op none (some 30) (O.mv (Opd.t 0)), C.op none (some 31) (O.call 42 [Opd.t 30]),
    C.op none (some 32) (O.bin BinOp.neq (Opd.t 31) (Opd.c (AV.int IntKind.i64 0))),
    C.cond (Opd.t 32) [C.op none (some 2) (O.mv (Opd.c AV.nilptr)), C.ret] [], C.op none (some 2) (O.mv (Opd.t 3)),
    C.ret]
def r40 : List RV := [RV.t 2]
theorem c40_ok : cC Try.prog Try.f40.ntmps (Try.f40.body.getD .skip) = some c40 := by kernel_rfl

def c41 : List C :=
  [C.op none (some 1) (O.box (Opd.t 0)), C.op none (some 2) (O.alloc [AV.str [], AV.int IntKind.i64 0]),
    C.op none (some 3) (O.mv (Opd.c AV.nilsl)), C.op none (some 10) (O.ldn [CK.str, CK.int IntKind.i64] (Opd.t 1)),
    C.op none (some 11) (O.call 66 [Opd.t 10, Opd.c (AV.int IntKind.i64 64)]),
    C.op none (some 9) (O.mv (Opd.t 11)), C.op none (some 12) (O.ext (Opd.t 9) 0),
    C.op none (some 13) (O.ext (Opd.t 9) 1), C.op none none (O.st 2 (Opd.t 1) (Opd.t 12)),
    C.op none (some 4) (O.mv (Opd.t 13)), C.op none (some 14) (O.call 45 []), C.op none (some 5) (O.mv (Opd.t 14)),
    C.op none (some 6) (O.mv (Opd.c (AV.int IntKind.i64 0))),
    C.blk 0
      [C.loop
          [C.op none (some 15) (O.mv (Opd.t 6)), C.op none (some 16) (O.mv (Opd.t 4)),
            C.op none (some 17) (O.bin BinOp.lss (Opd.t 15) (Opd.t 16)), C.cond (Opd.t 17) [] [C.exit 0],
            C.blk 1
              [C.op none (some 21) (O.ldn [CK.str, CK.int IntKind.i64] (Opd.t 1)),
                C.op none (some 22) (O.call 67 [Opd.t 21]), C.op none (some 20) (O.mv (Opd.t 22)),
                C.op none (some 23) (O.ext (Opd.t 20) 0), C.op none (some 24) (O.ext (Opd.t 20) 1),
                C.op none (some 7) (O.alloc [AV.str [], AV.int IntKind.i64 0]),
                C.op none none (O.st 2 (Opd.t 7) (Opd.t 23)), C.op none (some 8) (O.mv (Opd.t 24)),
                C.op none (some 25) (O.ldn [CK.str, CK.int IntKind.i64] (Opd.t 7)),
                C.op none none (O.st 2 (Opd.t 1) (Opd.t 25)), C.op none (some 26) (O.mv (Opd.t 5)),
                C.op none (some 27) (O.mv (Opd.t 6)), C.op none (some 28) (O.mv (Opd.t 8)),
                C.op none (some 29) (O.iad 1 (Opd.t 26) (Opd.t 27)), C.op none none (O.st 1 (Opd.t 29) (Opd.t 28))],
            C.op none (some 18) (O.mv (Opd.t 6)),
            C.op none (some 19) (O.bin BinOp.add (Opd.t 18) (Opd.c (AV.int IntKind.i64 1))),
            C.op none (some 6) (O.mv (Opd.t 19))]],
    C.op none (some 30) (O.mv (Opd.t 4)),
    C.op none (some 31) (O.bin BinOp.gtr (Opd.t 30) (Opd.c (AV.int IntKind.i64 0))),
    C.op none (some 32) (O.mv (Opd.t 31)), C.op (some (32, true)) (some 33) (O.mv (Opd.t 5)),
    C.op (some (32, true)) (some 34) (O.mv (Opd.t 4)),
    C.op (some (32, true)) (some 35) (O.bin BinOp.sub (Opd.t 34) (Opd.c (AV.int IntKind.i64 1))),
    C.op (some (32, true)) (some 36) (O.iad 1 (Opd.t 33) (Opd.t 35)),
    C.op (some (32, true)) (some 37) (O.ld (CK.int IntKind.i64) (Opd.t 36)),
    C.op (some (32, true)) (some 38) (O.bin BinOp.eql (Opd.t 37) (Opd.c (AV.int IntKind.i64 0))),
    C.op none (some 39) (O.pick (Opd.t 32) (Opd.t 38) (Opd.c (AV.bool false))),
    C.cond (Opd.t 39)
      [C.op none (some 40) (O.ldn [CK.str, CK.int IntKind.i64] (Opd.t 1)),
        C.op none (some 41) (O.call 68 [Opd.t 40, Opd.c (AV.int IntKind.i64 2)]),
        C.op none none (O.st 2 (Opd.t 1) (Opd.t 41))]
      [],
    C.op none (some 42) (O.ldn [CK.str, CK.int IntKind.i64] (Opd.t 1)), C.op none (some 43) (O.mv (Opd.t 5)),
    C.op none none (O.st 2 (Opd.t 2) (Opd.t 42)), C.op none (some 3) (O.mv (Opd.t 43)), C.ret]
def r41 : List RV := [RV.cn 2 2, RV.t 3]
theorem c41_ok : cC Try.prog Try.f41.ntmps (Try.f41.body.getD .skip) = some c41 := by kernel_rfl

def c42 : List C :=
  [C.op none (some 2) (O.mv (Opd.c (AV.int IntKind.i64 0))), C.op none (some 3) (O.mv (Opd.t 0)),
    C.op none (some 4) (O.nck (Opd.t 3)), C.op none (some 5) (O.fad 1 (Opd.t 4)),
    C.op none (some 6) (O.ld (CK.int IntKind.i64) (Opd.t 5)), C.op none (some 2) (O.mv (Opd.t 6)), C.ret]
def r42 : List RV := [RV.t 2]
theorem c42_ok : cC Try.prog Try.f42.ntmps (Try.f42.body.getD .skip) = some c42 := by kernel_rfl

def c43 : List C :=
  [C.op none (some 2) (O.mv (Opd.c (AV.str []))), C.op none (some 3) (O.mv (Opd.c (AV.int IntKind.i64 0))),
    C.op none (some 9) (O.mv (Opd.t 0)), C.op none (some 10) (O.len false (Opd.t 9)),
    C.op none (some 11) (O.mv (Opd.c (AV.int IntKind.i64 0))),
    C.blk 0
      [C.loop
          [C.op none (some 12) (O.bin BinOp.lss (Opd.t 11) (Opd.t 10)), C.cond (Opd.t 12) [] [C.exit 0],
            C.blk 1
              [C.op none (some 13) (O.mv (Opd.t 11)), C.op none (some 14) (O.iad 1 (Opd.t 9) (Opd.t 11)),
                C.op none (some 15) (O.ld (CK.int IntKind.i64) (Opd.t 14)), C.op none (some 4) (O.mv (Opd.t 13)),
                C.op none (some 5) (O.mv (Opd.t 15)), C.op none (some 16) (O.mv (Opd.t 5)),
                C.op none (some 17) (O.bin BinOp.neq (Opd.t 16) (Opd.c (AV.int IntKind.i64 0))),
                C.cond (Opd.t 17)
                  [C.op none (some 18) (O.mv (Opd.t 4)),
                    C.op none (some 19) (O.bin BinOp.add (Opd.t 18) (Opd.c (AV.int IntKind.i64 1))),
                    C.op none (some 3) (O.mv (Opd.t 19))]
                  []],
            C.op none (some 20) (O.bin BinOp.add (Opd.t 11) (Opd.c (AV.int IntKind.i64 1))),
            C.op none (some 11) (O.mv (Opd.t 20))]],
    C.op none (some 21) (O.mv (Opd.t 3)), C.op none (some 22) (O.call 56 [Opd.t 21]),
    C.op none (some 6) (O.mv (Opd.t 22)), C.op none (some 23) (O.mv (Opd.t 0)), C.op none (some 24) (O.mv (Opd.t 3)),
    C.op none (some 25) (O.lsl 1 (Opd.t 23) none (some (Opd.t 24)) none), C.op none (some 26) (O.len false (Opd.t 25)),
    C.op none (some 27) (O.mv (Opd.c (AV.int IntKind.i64 0))),
    C.blk 2
      [C.loop
          [C.op none (some 28) (O.bin BinOp.lss (Opd.t 27) (Opd.t 26)), C.cond (Opd.t 28) [] [C.exit 2],
            C.blk 3
              [C.op none (some 29) (O.iad 1 (Opd.t 25) (Opd.t 27)),
                C.op none (some 30) (O.ld (CK.int IntKind.i64) (Opd.t 29)), C.op none (some 8) (O.mv (Opd.t 30)),
                C.op none (some 31) (O.mv (Opd.t 6)), C.op none (some 32) (O.mv (Opd.t 8)),
                C.op none (some 33) (O.call 59 [Opd.t 32]), C.op none (some 34) (O.bin BinOp.add (Opd.t 31) (Opd.t 33)),
                C.op none (some 6) (O.mv (Opd.t 34))],
            C.op none (some 35) (O.bin BinOp.add (Opd.t 27) (Opd.c (AV.int IntKind.i64 1))),
            C.op none (some 27) (O.mv (Opd.t 35))]],
    C.op none (some 36) (O.mv (Opd.t 6)), C.op none (some 2) (O.mv (Opd.t 36)), C.ret]
def r43 : List RV := [RV.t 2]
theorem c43_ok : cC Try.prog Try.f43.ntmps (Try.f43.body.getD .skip) = some c43 := by kernel_rfl

def c44 : List C :=
  [C.op none (some 2) (O.mv (Opd.c (AV.int IntKind.i64 0))), C.op none (some 3) (O.mv (Opd.t 0)),
    C.op none (some 4) (O.nck (Opd.t 3)), C.op none (some 5) (O.fad 0 (Opd.t 4)),
    C.op none (some 6) (O.ld CK.str (Opd.t 5)), C.op none (some 7) (O.len true (Opd.t 6)),
    C.op none (some 2) (O.mv (Opd.t 7)), C.ret]
def r44 : List RV := [RV.t 2]
theorem c44_ok : cC Try.prog Try.f44.ntmps (Try.f44.body.getD .skip) = some c44 := by kernel_rfl

def c45 : List C :=
  [C.op none (some 0) (O.mv (Opd.c AV.nilsl)),
    C.op none (some 1)
      (O.mksl 1 [AV.int IntKind.i64 0] 8 (Opd.c (AV.int IntKind.i64 64))
        (Opd.c (AV.int IntKind.i64 64))),
    C.op none (some 0) (O.mv (Opd.t 1)), C.ret]
def r45 : List RV := [RV.t 0]
theorem c45_ok : cC Try.prog Try.f45.ntmps (Try.f45.body.getD .skip) = some c45 := by kernel_rfl

def c46 : List C :=
  [C.op none (some 2) (O.mv (Opd.c (AV.int IntKind.i64 0))), C.op none (some 3) (O.mv (Opd.t 0)),
    C.op none (some 4) (O.nck (Opd.t 3)), C.op none (some 5) (O.fad 0 (Opd.t 4)),
    C.op none (some 6) (O.ld CK.str (Opd.t 5)), C.op none (some 7) (O.bin BinOp.neq (Opd.t 6) (Opd.c (AV.str []))),
    C.cond (Opd.t 7)
      [C.op none (some 8) (O.mv (Opd.t 0)),
        C.op none (some 9) (O.call 65 [Opd.t 8, Opd.c (AV.int IntKind.i64 2)])]
      [],
    C.op none (some 10) (O.mv (Opd.t 0)), C.op none (some 11) (O.nck (Opd.t 10)),
    C.op none (some 12) (O.fad 1 (Opd.t 11)), C.op none (some 13) (O.ld (CK.int IntKind.i64) (Opd.t 12)),
    C.op none (some 2) (O.mv (Opd.t 13)), C.ret]
def r46 : List RV := [RV.t 2]
theorem c46_ok : cC Try.prog Try.f46.ntmps (Try.f46.body.getD .skip) = some c46 := by kernel_rfl

def c47 : List C :=
  [C.op none (some 2) (O.mv (Opd.c (AV.int IntKind.i64 0))),
    C.op none (some 3) (O.mv (Opd.c (AV.int IntKind.i64 64))),
    C.blk 0
      [C.loop
          [C.op none (some 4) (O.mv (Opd.t 3)),
            C.op none (some 5) (O.bin BinOp.gtr (Opd.t 4) (Opd.c (AV.int IntKind.i64 0))),
            C.op none (some 6) (O.mv (Opd.t 5)), C.op (some (6, true)) (some 7) (O.mv (Opd.t 0)),
            C.op (some (6, true)) (some 8) (O.mv (Opd.t 3)),
            C.op (some (6, true)) (some 9) (O.bin BinOp.sub (Opd.t 8) (Opd.c (AV.int IntKind.i64 1))),
            C.op (some (6, true)) (some 10) (O.nck (Opd.t 7)), C.op (some (6, true)) (some 11) (O.fad 0 (Opd.t 10)),
            C.op (some (6, true)) (some 12) (O.iaa 64 (Opd.t 11) (Opd.t 9)),
            C.op (some (6, true)) (some 13) (O.ld (CK.int IntKind.i64) (Opd.t 12)),
            C.op (some (6, true)) (some 14) (O.bin BinOp.eql (Opd.t 13) (Opd.c (AV.int IntKind.i64 0))),
            C.op none (some 15) (O.pick (Opd.t 6) (Opd.t 14) (Opd.c (AV.bool false))), C.cond (Opd.t 15) [] [C.exit 0],
            C.blk 1
              [C.op none (some 16) (O.mv (Opd.t 3)),
                C.op none (some 17) (O.bin BinOp.sub (Opd.t 16) (Opd.c (AV.int IntKind.i64 1))),
                C.op none (some 3) (O.mv (Opd.t 17))]]],
    C.op none (some 18) (O.mv (Opd.t 3)), C.op none (some 2) (O.mv (Opd.t 18)), C.ret]
def r47 : List RV := [RV.t 2]
theorem c47_ok : cC Try.prog Try.f47.ntmps (Try.f47.body.getD .skip) = some c47 := by kernel_rfl

def c48 : List C :=
  [C.op none (some 4) (O.mv (Opd.c AV.nilptr)), C.op none (some 7) (O.mv (Opd.t 1)),
    C.op none (some 8) (O.len false (Opd.t 7)), C.op none (some 9) (O.mv (Opd.c (AV.int IntKind.i64 0))),
    C.blk 0
      [C.loop
          [C.op none (some 10) (O.bin BinOp.lss (Opd.t 9) (Opd.t 8)), C.cond (Opd.t 10) [] [C.exit 0],
            C.blk 1
              [C.op none (some 11) (O.iad 1 (Opd.t 7) (Opd.t 9)),
                C.op none (some 12) (O.ld (CK.int IntKind.i64) (Opd.t 11)), C.op none (some 6) (O.mv (Opd.t 12)),
                C.op none (some 13) (O.mv (Opd.t 0)), C.op none (some 14) (O.mv (Opd.t 6)),
                C.op none (some 15) (O.mx [Opd.t 14, Opd.c (AV.int IntKind.i64 0)]),
                C.op none (some 16) (O.cvi IntKind.u64 (Opd.t 15)),
                C.op none (some 17) (O.bsl 1 [AV.int IntKind.u64 0] 1 [(0, Opd.t 16)]),
                C.op none (some 18) (O.call 69 [Opd.t 13, Opd.t 17])],
            C.op none (some 19) (O.bin BinOp.add (Opd.t 9) (Opd.c (AV.int IntKind.i64 1))),
            C.op none (some 9) (O.mv (Opd.t 19))]],
    C.op none (some 20) (O.mv (Opd.t 0)), C.op none (some 4) (O.mv (Opd.t 20)), C.ret]
def r48 : List RV := [RV.t 4]
theorem c48_ok : cC Try.prog Try.f48.ntmps (Try.f48.body.getD .skip) = some c48 := by kernel_rfl

def c49 : List C :=
  [C.op none (some 4) (O.mv (Opd.c AV.nilptr)), C.op none (some 7) (O.mv (Opd.t 1)),
    C.op none (some 8) (O.len false (Opd.t 7)), C.op none (some 9) (O.mv (Opd.c (AV.int IntKind.i64 0))),
    C.blk 0
      [C.loop
          [C.op none (some 10) (O.bin BinOp.lss (Opd.t 9) (Opd.t 8)), C.cond (Opd.t 10) [] [C.exit 0],
            C.blk 1
              [C.op none (some 11) (O.iad 1 (Opd.t 7) (Opd.t 9)),
                C.op none (some 12) (O.ld (CK.int IntKind.i64) (Opd.t 11)), C.op none (some 6) (O.mv (Opd.t 12)),
                C.op none (some 13) (O.mv (Opd.t 0)), C.op none (some 14) (O.mv (Opd.t 6)),
                C.op none (some 15) (O.cvi IntKind.u64 (Opd.t 14)),
                C.op none (some 16) (O.bin BinOp.shl (Opd.t 15) (Opd.c (AV.int IntKind.u64 1))),
                C.op none (some 17) (O.mv (Opd.t 6)),
                C.op none (some 18) (O.bin BinOp.shr (Opd.t 17) (Opd.c (AV.int IntKind.u64 63))),
                C.op none (some 19) (O.cvi IntKind.u64 (Opd.t 18)),
                C.op none (some 20) (O.bin BinOp.xor (Opd.t 16) (Opd.t 19)),
                C.op none (some 21) (O.bsl 1 [AV.int IntKind.u64 0] 1 [(0, Opd.t 20)]),
                C.op none (some 22) (O.call 69 [Opd.t 13, Opd.t 21])],
            C.op none (some 23) (O.bin BinOp.add (Opd.t 9) (Opd.c (AV.int IntKind.i64 1))),
            C.op none (some 9) (O.mv (Opd.t 23))]],
    C.op none (some 24) (O.mv (Opd.t 0)), C.op none (some 4) (O.mv (Opd.t 24)), C.ret]
def r49 : List RV := [RV.t 4]
theorem c49_ok : cC Try.prog Try.f49.ntmps (Try.f49.body.getD .skip) = some c49 := by kernel_rfl

def c50 : List C :=
  [C.op none (some 2) (O.mv (Opd.c (AV.str []))), C.op none (some 3) (O.mv (Opd.t 0)),
    C.op none (some 4) (O.nck (Opd.t 3)), C.op none (some 5) (O.fad 0 (Opd.t 4)),
    C.op none (some 6) (O.ld CK.any (Opd.t 5)), C.op none (some 7) (O.cvb (Opd.t 6)),
    C.op none (some 2) (O.mv (Opd.t 7)), C.ret]
def r50 : List RV := [RV.t 2]
theorem c50_ok : cC Try.prog Try.f50.ntmps (Try.f50.body.getD .skip) = some c50 := by kernel_rfl

def c51 : List C :=
  [C.op none (some 4) (O.mv (Opd.c AV.nilsl)), C.op none (some 5) (O.mv (Opd.c (AV.bool false))),
    C.op none (some 6) (O.mv (Opd.t 0)), C.op none (some 7) (O.len false (Opd.t 6)),
    C.op none (some 8) (O.mv (Opd.t 1)), C.op none (some 9) (O.len false (Opd.t 8)),
    C.op none (some 10) (O.bin BinOp.add (Opd.t 7) (Opd.t 9)),
    C.op none (some 11) (O.bin BinOp.gtr (Opd.t 10) (Opd.c (AV.int IntKind.i64 64))),
    C.cond (Opd.t 11)
      [C.op none (some 12) (O.mv (Opd.t 0)), C.op none (some 4) (O.mv (Opd.t 12)),
        C.op none (some 5) (O.mv (Opd.c (AV.bool false))), C.ret]
      [],
    C.op none (some 13) (O.bsl 1 [AV.int IntKind.i64 0] 0 []), C.op none (some 14) (O.mv (Opd.t 0)),
    C.op none (some 15) (O.app 1 (Opd.t 13) (Opd.t 14)), C.op none (some 16) (O.mv (Opd.t 1)),
    C.op none (some 17) (O.app 1 (Opd.t 15) (Opd.t 16)), C.op none (some 4) (O.mv (Opd.t 17)),
    C.op none (some 5) (O.mv (Opd.c (AV.bool true))), C.ret]
def r51 : List RV := [RV.t 4, RV.t 5]
theorem c51_ok : cC Try.prog Try.f51.ntmps (Try.f51.body.getD .skip) = some c51 := by kernel_rfl

def d52_0 : List It :=
  [(none, some 16, O.mv (Opd.t 0), []), (none, some 17, O.mv (Opd.t 0), []),
        (none, some 18, O.len false (Opd.t 17), [1]), (none, some 19, O.mv (Opd.t 1), []),
        (none, some 20, O.bin BinOp.sub (Opd.t 18) (Opd.t 19), [2, 3]),
        (none, some 21, O.lsl 1 (Opd.t 16) none (some (Opd.t 20)) none, [0, 4]), (none, some 22, O.mv (Opd.t 0), []),
        (none, some 23, O.mv (Opd.t 0), []), (none, some 24, O.len false (Opd.t 23), [7]),
        (none, some 25, O.mv (Opd.t 1), []), (none, some 26, O.bin BinOp.sub (Opd.t 24) (Opd.t 25), [8, 9]),
        (none, some 27, O.lsl 1 (Opd.t 22) (some (Opd.t 26)) none none, [6, 10]),
        (none, some 4, O.mv (Opd.t 21), [5, 0, 1, 2, 3, 4, 5]),
        (none, some 5, O.mv (Opd.t 27), [11, 12, 0, 1, 2, 3, 4, 5, 6, 7, 8, 9, 10, 11, 12]),
        (none, some 6, O.mv (Opd.c (AV.bool true)), [13, 0, 1, 2, 3, 4, 5, 6, 7, 8, 9, 10, 11, 12, 13])]
def o52_0 : List (Nat × Bool) := [(0, false), (1, false), (2, false), (3, false), (4, false), (5, false), (6, false), (7, false), (8, false), (9, false), (10, false), (11, false), (12, false), (13, false), (14, false)]
def l52_0 : List (Nat × Bool × It) :=
  [(0, false, (none, some 16, O.mv (Opd.t 0), [])),
   (1, false, (none, some 17, O.mv (Opd.t 0), [])),
   (2, false, (none, some 18, O.len false (Opd.t 17), [1])),
   (3, false, (none, some 19, O.mv (Opd.t 1), [])),
   (4, false, (none, some 20, O.bin BinOp.sub (Opd.t 18) (Opd.t 19), [2, 3])),
   (5, false, (none, some 21, O.lsl 1 (Opd.t 16) none (some (Opd.t 20)) none, [0, 4])),
   (6, false, (none, some 22, O.mv (Opd.t 0), [])),
   (7, false, (none, some 23, O.mv (Opd.t 0), [])),
   (8, false, (none, some 24, O.len false (Opd.t 23), [7])),
   (9, false, (none, some 25, O.mv (Opd.t 1), [])),
   (10, false, (none, some 26, O.bin BinOp.sub (Opd.t 24) (Opd.t 25), [8, 9])),
   (11, false, (none, some 27, O.lsl 1 (Opd.t 22) (some (Opd.t 26)) none none, [6, 10])),
   (12, false, (none, some 4, O.mv (Opd.t 21), [5, 0, 1, 2, 3, 4, 5])),
   (13, false, (none, some 5, O.mv (Opd.t 27), [11, 12, 0, 1, 2, 3, 4, 5, 6, 7, 8, 9, 10, 11, 12])),
   (14, false, (none, some 6, O.mv (Opd.c (AV.bool true)), [13, 0, 1, 2, 3, 4, 5, 6, 7, 8, 9, 10, 11, 12, 13]))]
theorem l52_0_ok : okDraw d52_0 o52_0 = true ∧ mkL d52_0 o52_0 = some l52_0 := ⟨by kernel_rfl, by kernel_rfl⟩

def c52 : List C :=
  [C.op none (some 4) (O.mv (Opd.c AV.nilsl)), C.op none (some 5) (O.mv (Opd.c AV.nilsl)),
    C.op none (some 6) (O.mv (Opd.c (AV.bool false))), C.op none (some 7) (O.mv (Opd.t 1)),
    C.op none (some 8) (O.bin BinOp.lss (Opd.t 7) (Opd.c (AV.int IntKind.i64 0))),
    C.op none (some 9) (O.mv (Opd.t 8)), C.op (some (9, false)) (some 10) (O.mv (Opd.t 1)),
    C.op (some (9, false)) (some 11) (O.mv (Opd.t 0)), C.op (some (9, false)) (some 12) (O.len false (Opd.t 11)),
    C.op (some (9, false)) (some 13) (O.bin BinOp.gtr (Opd.t 10) (Opd.t 12)),
    C.op none (some 14) (O.pick (Opd.t 9) (Opd.c (AV.bool true)) (Opd.t 13)),
    C.cond (Opd.t 14)
      [C.op none (some 15) (O.mv (Opd.t 0)), C.op none (some 4) (O.mv (Opd.t 15)),
        C.op none (some 5) (O.mv (Opd.c AV.nilsl)), C.op none (some 6) (O.mv (Opd.c (AV.bool false))), C.ret]
      [],
    C.draw d52_0,
    C.ret]
def r52 : List RV := [RV.t 4, RV.t 5, RV.t 6]
theorem c52_ok : cC Try.prog Try.f52.ntmps (Try.f52.body.getD .skip) = some c52 := by kernel_rfl

def d53_0 : List It :=
  [(none, some 16, O.mv (Opd.t 0), []), (none, some 17, O.mv (Opd.t 5), []),
                    (none, some 18, O.iad 1 (Opd.t 16) (Opd.t 17), [0, 1]),
                    (none, some 19, O.ld (CK.int IntKind.i64) (Opd.t 18), [2]), (none, some 20, O.mv (Opd.t 1), []),
                    (none, some 21, O.mv (Opd.t 5), []), (none, some 22, O.iad 1 (Opd.t 20) (Opd.t 21), [4, 5]),
                    (none, some 23, O.ld (CK.int IntKind.i64) (Opd.t 22), [6]),
                    (none, some 24, O.bin BinOp.neq (Opd.t 19) (Opd.t 23), [3, 7])]
def o53_0 : List (Nat × Bool) := [(0, false), (1, false), (2, false), (3, false), (4, false), (5, false), (6, false), (7, false), (8, false)]
def l53_0 : List (Nat × Bool × It) :=
  [(0, false, (none, some 16, O.mv (Opd.t 0), [])),
   (1, false, (none, some 17, O.mv (Opd.t 5), [])),
   (2, false, (none, some 18, O.iad 1 (Opd.t 16) (Opd.t 17), [0, 1])),
   (3, false, (none, some 19, O.ld (CK.int IntKind.i64) (Opd.t 18), [2])),
   (4, false, (none, some 20, O.mv (Opd.t 1), [])),
   (5, false, (none, some 21, O.mv (Opd.t 5), [])),
   (6, false, (none, some 22, O.iad 1 (Opd.t 20) (Opd.t 21), [4, 5])),
   (7, false, (none, some 23, O.ld (CK.int IntKind.i64) (Opd.t 22), [6])),
   (8, false, (none, some 24, O.bin BinOp.neq (Opd.t 19) (Opd.t 23), [3, 7]))]
theorem l53_0_ok : okDraw d53_0 o53_0 = true ∧ mkL d53_0 o53_0 = some l53_0 := ⟨by kernel_rfl, by kernel_rfl⟩

def c53 : List C :=
  [C.op none (some 4) (O.mv (Opd.c (AV.int IntKind.i64 0))), C.op none (some 6) (O.mv (Opd.t 0)),
    C.op none (some 7) (O.len false (Opd.t 6)), C.op none (some 8) (O.mv (Opd.t 1)),
    C.op none (some 9) (O.len false (Opd.t 8)), C.op none (some 10) (O.bin BinOp.neq (Opd.t 7) (Opd.t 9)),
    C.cond (Opd.t 10) [C.op none (some 4) (O.mv (Opd.c (AV.int IntKind.i64 (-1)))), C.ret] [],
    C.op none (some 11) (O.mv (Opd.t 1)), C.op none (some 12) (O.len false (Opd.t 11)),
    C.op none (some 13) (O.mv (Opd.c (AV.int IntKind.i64 0))),
    C.blk 0
      [C.loop
          [C.op none (some 14) (O.bin BinOp.lss (Opd.t 13) (Opd.t 12)), C.cond (Opd.t 14) [] [C.exit 0],
            C.blk 1
              [C.op none (some 15) (O.mv (Opd.t 13)), C.op none (some 5) (O.mv (Opd.t 15)),
                C.draw d53_0,
                C.cond (Opd.t 24) [C.op none (some 4) (O.mv (Opd.c (AV.int IntKind.i64 (-1)))), C.ret] []],
            C.op none (some 25) (O.bin BinOp.add (Opd.t 13) (Opd.c (AV.int IntKind.i64 1))),
            C.op none (some 13) (O.mv (Opd.t 25))]],
    C.op none (some 4) (O.mv (Opd.c (AV.int IntKind.i64 0))), C.ret]
def r53 : List RV := [RV.t 4]
theorem c53_ok : cC Try.prog Try.f53.ntmps (Try.f53.body.getD .skip) = some c53 := by kernel_rfl

def c54 : List C :=
  [C.op none (some 2) (O.mv (Opd.c AV.nilsl)), C.op none (some 3) (O.mv (Opd.t 0)),
    C.op none (some 4) (O.eqn false (Opd.t 3)), C.cond (Opd.t 4) [C.op none (some 2) (O.mv (Opd.c AV.nilsl)), C.ret] [],
    C.op none (some 5) (O.bsl 1 [AV.int IntKind.i64 0] 0 []), C.op none (some 6) (O.mv (Opd.t 0)),
    C.op none (some 7) (O.app 1 (Opd.t 5) (Opd.t 6)), C.op none (some 2) (O.mv (Opd.t 7)), C.ret]
def r54 : List RV := [RV.t 2]
theorem c54_ok : cC Try.prog Try.f54.ntmps (Try.f54.body.getD .skip) = some c54 := by kernel_rfl

def c55 : List C :=
  [C.op none (some 2) (O.alloc [AV.int IntKind.i64 0, AV.int IntKind.i64 0, AV.nilsl]),
    C.op none (some 3) (O.mv (Opd.t 0)), C.op none (some 4) (O.mv (Opd.t 0)),
    C.op none (some 5) (O.call 29 [Opd.c (AV.int IntKind.u8 17), Opd.c AV.nilsl]),
    C.op none (some 6) (O.call 29 [Opd.c (AV.int IntKind.u8 16), Opd.c AV.nilsl]),
    C.op none (some 7)
      (O.bsl 2 [AV.int IntKind.u8 0, AV.int IntKind.i64 0] 2 [(0, Opd.t 5), (1, Opd.t 6)]),
    C.op none (some 8) (O.call 31 [Opd.t 3, Opd.t 4, Opd.t 7]), C.op none none (O.st 3 (Opd.t 2) (Opd.t 8)), C.ret]
def r55 : List RV := [RV.cn 2 3]
theorem c55_ok : cC Try.prog Try.f55.ntmps (Try.f55.body.getD .skip) = some c55 := by kernel_rfl

def c56 : List C :=
  [C.op none (some 2) (O.mv (Opd.c (AV.str []))), C.op none (some 3) (O.mv (Opd.t 0)),
    C.op none (some 4) (O.mx [Opd.t 3, Opd.c (AV.int IntKind.i64 0)]),
    C.op none (some 5) (O.cvi IntKind.u64 (Opd.t 4)), C.op none (some 6) (O.call 57 [Opd.t 5]),
    C.op none (some 2) (O.mv (Opd.t 6)), C.ret]
def r56 : List RV := [RV.t 2]
theorem c56_ok : cC Try.prog Try.f56.ntmps (Try.f56.body.getD .skip) = some c56 := by kernel_rfl

def c57 : List C :=
  [C.op none (some 2) (O.mv (Opd.c (AV.str []))), C.op none (some 3) (O.mv (Opd.c (AV.str []))),
    C.op none (some 4) (O.mv (Opd.c (AV.int IntKind.i64 0))),
    C.blk 0
      [C.loop
          [C.op none (some 5) (O.mv (Opd.t 4)),
            C.op none (some 6) (O.bin BinOp.lss (Opd.t 5) (Opd.c (AV.int IntKind.i64 10))),
            C.op none (some 7) (O.mv (Opd.t 6)), C.op (some (7, true)) (some 8) (O.mv (Opd.t 0)),
            C.op (some (7, true)) (some 9) (O.bin BinOp.gtr (Opd.t 8) (Opd.c (AV.int IntKind.u64 127))),
            C.op none (some 10) (O.pick (Opd.t 7) (Opd.t 9) (Opd.c (AV.bool false))), C.cond (Opd.t 10) [] [C.exit 0],
            C.blk 1
              [C.op none (some 13) (O.mv (Opd.t 3)), C.op none (some 14) (O.mv (Opd.t 0)),
                C.op none (some 15) (O.bin BinOp.rem (Opd.t 14) (Opd.c (AV.int IntKind.u64 128))),
                C.op none (some 16) (O.bin BinOp.add (Opd.c (AV.int IntKind.u64 128)) (Opd.t 15)),
                C.op none (some 17) (O.cvi IntKind.u8 (Opd.t 16)),
                C.op none (some 18) (O.bsl 1 [AV.int IntKind.u8 0] 1 [(0, Opd.t 17)]),
                C.op none (some 19) (O.cvb (Opd.t 18)), C.op none (some 20) (O.bin BinOp.add (Opd.t 13) (Opd.t 19)),
                C.op none (some 3) (O.mv (Opd.t 20)), C.op none (some 21) (O.mv (Opd.t 0)),
                C.op none (some 22) (O.bin BinOp.quo (Opd.t 21) (Opd.c (AV.int IntKind.u64 128))),
                C.op none (some 0) (O.mv (Opd.t 22))],
            C.op none (some 11) (O.mv (Opd.t 4)),
            C.op none (some 12) (O.bin BinOp.add (Opd.t 11) (Opd.c (AV.int IntKind.i64 1))),
            C.op none (some 4) (O.mv (Opd.t 12))]],
    C.op none (some 23) (O.mv (Opd.t 3)), C.op none (some 24) (O.mv (Opd.t 0)),
    C.op none (some 25) (O.cvi IntKind.u8 (Opd.t 24)),
    C.op none (some 26) (O.bsl 1 [AV.int IntKind.u8 0] 1 [(0, Opd.t 25)]),
    C.op none (some 27) (O.cvb (Opd.t 26)), C.op none (some 28) (O.bin BinOp.add (Opd.t 23) (Opd.t 27)),
    C.op none (some 2) (O.mv (Opd.t 28)), C.ret]
def r57 : List RV := [RV.t 2]
theorem c57_ok : cC Try.prog Try.f57.ntmps (Try.f57.body.getD .skip) = some c57 := by kernel_rfl

def c58 : List C :=
  [C.op none (some 2) (O.mv (Opd.c (AV.bool false))), C.op none (some 3) (O.mv (Opd.t 0)),
    C.op none (some 4) (O.bin BinOp.eql (Opd.t 3) (Opd.c (AV.int IntKind.i64 1))),
    C.op none (some 5) (O.mv (Opd.t 4)), C.op (some (5, false)) (some 6) (O.mv (Opd.t 0)),
    C.op (some (5, false)) (some 7) (O.bin BinOp.eql (Opd.t 6) (Opd.c (AV.int IntKind.i64 13))),
    C.op none (some 8) (O.pick (Opd.t 5) (Opd.c (AV.bool true)) (Opd.t 7)), C.op none (some 9) (O.mv (Opd.t 8)),
    C.op (some (9, false)) (some 10) (O.mv (Opd.t 0)),
    C.op (some (9, false)) (some 11) (O.bin BinOp.eql (Opd.t 10) (Opd.c (AV.int IntKind.i64 14))),
    C.op none (some 12) (O.pick (Opd.t 9) (Opd.c (AV.bool true)) (Opd.t 11)), C.op none (some 13) (O.mv (Opd.t 12)),
    C.op (some (13, false)) (some 14) (O.mv (Opd.t 0)),
    C.op (some (13, false)) (some 15) (O.bin BinOp.eql (Opd.t 14) (Opd.c (AV.int IntKind.i64 15))),
    C.op none (some 16) (O.pick (Opd.t 13) (Opd.c (AV.bool true)) (Opd.t 15)), C.op none (some 17) (O.mv (Opd.t 16)),
    C.op (some (17, false)) (some 18) (O.mv (Opd.t 0)),
    C.op (some (17, false)) (some 19) (O.bin BinOp.eql (Opd.t 18) (Opd.c (AV.int IntKind.i64 17))),
    C.op none (some 20) (O.pick (Opd.t 17) (Opd.c (AV.bool true)) (Opd.t 19)), C.op none (some 21) (O.mv (Opd.t 20)),
    C.op (some (21, false)) (some 22) (O.mv (Opd.t 0)),
    C.op (some (21, false)) (some 23) (O.bin BinOp.eql (Opd.t 22) (Opd.c (AV.int IntKind.i64 18))),
    C.op none (some 24) (O.pick (Opd.t 21) (Opd.c (AV.bool true)) (Opd.t 23)), C.op none (some 25) (O.mv (Opd.t 24)),
    C.op (some (25, false)) (some 26) (O.mv (Opd.t 0)),
    C.op (some (25, false)) (some 27) (O.bin BinOp.eql (Opd.t 26) (Opd.c (AV.int IntKind.i64 22))),
    C.op none (some 28) (O.pick (Opd.t 25) (Opd.c (AV.bool true)) (Opd.t 27)), C.op none (some 2) (O.mv (Opd.t 28)),
    C.ret]
def r58 : List RV := [RV.t 2]
theorem c58_ok : cC Try.prog Try.f58.ntmps (Try.f58.body.getD .skip) = some c58 := by kernel_rfl

def c59 : List C :=
  [C.op none (some 2) (O.mv (Opd.c (AV.str []))), C.op none (some 3) (O.mv (Opd.t 0)),
    C.op none (some 4) (O.bin BinOp.geq (Opd.t 3) (Opd.c (AV.int IntKind.i64 0))),
    C.cond (Opd.t 4)
      [C.op none (some 5) (O.mv (Opd.t 0)), C.op none (some 6) (O.cvi IntKind.u64 (Opd.t 5)),
        C.op none (some 7) (O.bin BinOp.mul (Opd.c (AV.int IntKind.u64 2)) (Opd.t 6)),
        C.op none (some 8) (O.call 57 [Opd.t 7]), C.op none (some 2) (O.mv (Opd.t 8)), C.ret]
      [],
    C.op none (some 9) (O.mv (Opd.t 0)),
    C.op none (some 10) (O.bin BinOp.add (Opd.t 9) (Opd.c (AV.int IntKind.i64 1))),
    C.op none (some 11) (O.un UnOp.neg (Opd.t 10)), C.op none (some 12) (O.cvi IntKind.u64 (Opd.t 11)),
    C.op none (some 13) (O.bin BinOp.mul (Opd.c (AV.int IntKind.u64 2)) (Opd.t 12)),
    C.op none (some 14) (O.bin BinOp.add (Opd.t 13) (Opd.c (AV.int IntKind.u64 1))),
    C.op none (some 15) (O.call 57 [Opd.t 14]), C.op none (some 2) (O.mv (Opd.t 15)), C.ret]
def r59 : List RV := [RV.t 2]
theorem c59_ok : cC Try.prog Try.f59.ntmps (Try.f59.body.getD .skip) = some c59 := by kernel_rfl

def c60 : List C :=
  [C.op none (some 2) (O.mv (Opd.c (AV.bool false))), C.op none (some 3) (O.mv (Opd.t 0)),
    C.blk 0
      [C.op none (some 5) (O.bin BinOp.eql (Opd.t 3) (Opd.c (AV.int IntKind.u8 1))),
        C.op none (some 4) (O.mv (Opd.t 5)),
        C.cond (Opd.t 4) []
          [C.op none (some 6) (O.bin BinOp.eql (Opd.t 3) (Opd.c (AV.int IntKind.u8 13))),
            C.op none (some 4) (O.mv (Opd.t 6)),
            C.cond (Opd.t 4) []
              [C.op none (some 7) (O.bin BinOp.eql (Opd.t 3) (Opd.c (AV.int IntKind.u8 14))),
                C.op none (some 4) (O.mv (Opd.t 7)),
                C.cond (Opd.t 4) []
                  [C.op none (some 8) (O.bin BinOp.eql (Opd.t 3) (Opd.c (AV.int IntKind.u8 15))),
                    C.op none (some 4) (O.mv (Opd.t 8)),
                    C.cond (Opd.t 4) []
                      [C.op none (some 9) (O.bin BinOp.eql (Opd.t 3) (Opd.c (AV.int IntKind.u8 17))),
                        C.op none (some 4) (O.mv (Opd.t 9)),
                        C.cond (Opd.t 4) []
                          [C.op none (some 10) (O.bin BinOp.eql (Opd.t 3) (Opd.c (AV.int IntKind.u8 18))),
                            C.op none (some 4) (O.mv (Opd.t 10)),
                            C.cond (Opd.t 4) []
                              [C.op none (some 11)
                                  (O.bin BinOp.eql (Opd.t 3) (Opd.c (AV.int IntKind.u8 22))),
                                C.op none (some 4) (O.mv (Opd.t 11))]]]]]],
        C.cond (Opd.t 4) [C.op none (some 2) (O.mv (Opd.c (AV.bool true))), C.ret] []],
    C.op none (some 2) (O.mv (Opd.c (AV.bool false))), C.ret]
def r60 : List RV := [RV.t 2]
theorem c60_ok : cC Try.prog Try.f60.ntmps (Try.f60.body.getD .skip) = some c60 := by kernel_rfl

def c61 : List C :=
  [C.op none (some 2) (O.box (Opd.t 0)), C.op none (some 3) (O.box (Opd.t 1)),
    C.op none (some 4) (O.mv (Opd.c AV.nilsl)), C.op none (some 5) (O.mv (Opd.c (AV.int IntKind.i64 0))),
    C.op none (some 16) (O.fad 2 (Opd.t 3)), C.op none (some 17) (O.ld CK.any (Opd.t 16)),
    C.op none (some 18) (O.len false (Opd.t 17)),
    C.op none (some 19) (O.mksl 1 [AV.int IntKind.i64 0] 8 (Opd.t 18) (Opd.t 18)),
    C.op none (some 6) (O.mv (Opd.t 19)), C.op none (some 20) (O.mv (Opd.t 6)),
    C.op none (some 21) (O.len false (Opd.t 20)), C.op none (some 22) (O.mv (Opd.c (AV.int IntKind.i64 0))),
    C.blk 0
      [C.loop
          [C.op none (some 23) (O.bin BinOp.lss (Opd.t 22) (Opd.t 21)), C.cond (Opd.t 23) [] [C.exit 0],
            C.blk 1
              [C.op none (some 24) (O.mv (Opd.t 22)), C.op none (some 7) (O.mv (Opd.t 24)),
                C.op none (some 25) (O.mv (Opd.t 6)), C.op none (some 26) (O.mv (Opd.t 7)),
                C.op none (some 27) (O.iad 1 (Opd.t 25) (Opd.t 26)),
                C.op none none (O.st 1 (Opd.t 27) (Opd.c (AV.int IntKind.i64 (-1))))],
            C.op none (some 28) (O.bin BinOp.add (Opd.t 22) (Opd.c (AV.int IntKind.i64 1))),
            C.op none (some 22) (O.mv (Opd.t 28))]],
    C.op none (some 29) (O.mv (Opd.t 6)),
    C.op none (some 30) (O.iad 1 (Opd.t 29) (Opd.c (AV.int IntKind.i64 0))),
    C.op none none (O.st 1 (Opd.t 30) (Opd.c (AV.int IntKind.i64 0))),
    C.op none (some 31) (O.bsl 1 [AV.int IntKind.i64 0] 1 [(0, Opd.c (AV.int IntKind.i64 0))]),
    C.op none (some 8) (O.mv (Opd.t 31)),
    C.blk 2
      [C.loop
          [C.op none (some 32) (O.mv (Opd.t 8)), C.op none (some 33) (O.len false (Opd.t 32)),
            C.op none (some 34) (O.bin BinOp.gtr (Opd.t 33) (Opd.c (AV.int IntKind.i64 0))),
            C.cond (Opd.t 34) [] [C.exit 2],
            C.blk 3
              [C.op none (some 35) (O.mv (Opd.t 8)),
                C.op none (some 36) (O.iad 1 (Opd.t 35) (Opd.c (AV.int IntKind.i64 0))),
                C.op none (some 37) (O.ld (CK.int IntKind.i64) (Opd.t 36)), C.op none (some 9) (O.mv (Opd.t 37)),
                C.op none (some 38) (O.mv (Opd.t 8)),
                C.op none (some 39) (O.lsl 1 (Opd.t 38) (some (Opd.c (AV.int IntKind.i64 1))) none none),
                C.op none (some 8) (O.mv (Opd.t 39)), C.op none (some 40) (O.fad 2 (Opd.t 3)),
                C.op none (some 41) (O.ld CK.any (Opd.t 40)), C.op none (some 42) (O.mv (Opd.t 9)),
                C.op none (some 43) (O.iad 2 (Opd.t 41) (Opd.t 42)),
                C.op none (some 44) (O.ldn [CK.int IntKind.u8, CK.int IntKind.i64] (Opd.t 43)),
                C.op none (some 10) (O.alloc [AV.int IntKind.u8 0, AV.int IntKind.i64 0]),
                C.op none none (O.st 2 (Opd.t 10) (Opd.t 44)), C.op none (some 45) (O.ldn [CK.any] (Opd.t 2)),
                C.op none (some 46) (O.ldn [CK.int IntKind.i64, CK.int IntKind.i64, CK.any] (Opd.t 3)),
                C.op none (some 47) (O.ldn [CK.int IntKind.u8, CK.int IntKind.i64] (Opd.t 10)),
                C.op none (some 48) (O.call 70 [Opd.t 45, Opd.t 46, Opd.t 47]),
                C.op none (some 49) (O.un UnOp.not (Opd.t 48)),
                C.cond (Opd.t 49)
                  [C.op none (some 50) (O.mv (Opd.t 9)), C.op none (some 4) (O.mv (Opd.c AV.nilsl)),
                    C.op none (some 5) (O.mv (Opd.t 50)), C.ret]
                  [],
                C.op none (some 52) (O.ldn [CK.any] (Opd.t 2)),
                C.op none (some 53) (O.ldn [CK.int IntKind.u8, CK.int IntKind.i64] (Opd.t 10)),
                C.op none (some 54) (O.call 71 [Opd.t 52, Opd.t 53]), C.op none (some 51) (O.mv (Opd.t 54)),
                C.op none (some 55) (O.ext (Opd.t 51) 0), C.op none (some 56) (O.ext (Opd.t 51) 1),
                C.op none (some 11) (O.mv (Opd.t 55)), C.op none (some 12) (O.mv (Opd.t 56)),
                C.op none (some 57) (O.mv (Opd.t 6)), C.op none (some 58) (O.mv (Opd.t 9)),
                C.op none (some 59) (O.iad 1 (Opd.t 57) (Opd.t 58)),
                C.op none (some 60) (O.ld (CK.int IntKind.i64) (Opd.t 59)), C.op none (some 61) (O.mv (Opd.t 11)),
                C.op none (some 62) (O.bin BinOp.sub (Opd.t 60) (Opd.t 61)), C.op none (some 63) (O.mv (Opd.t 12)),
                C.op none (some 64) (O.bin BinOp.add (Opd.t 62) (Opd.t 63)), C.op none (some 13) (O.mv (Opd.t 64)),
                C.op none (some 65) (O.mv (Opd.t 6)), C.op none (some 66) (O.mv (Opd.t 9)),
                C.op none (some 67) (O.iad 1 (Opd.t 65) (Opd.t 66)),
                C.op none (some 68) (O.ld (CK.int IntKind.i64) (Opd.t 67)), C.op none (some 69) (O.mv (Opd.t 11)),
                C.op none (some 70) (O.bin BinOp.lss (Opd.t 68) (Opd.t 69)), C.op none (some 71) (O.mv (Opd.t 70)),
                C.op (some (71, false)) (some 72) (O.mv (Opd.t 13)),
                C.op (some (71, false)) (some 73)
                  (O.bin BinOp.gtr (Opd.t 72) (Opd.c (AV.int IntKind.i64 64))),
                C.op none (some 74) (O.pick (Opd.t 71) (Opd.c (AV.bool true)) (Opd.t 73)),
                C.op none (some 75) (O.mv (Opd.t 74)), C.op (some (75, false)) (some 76) (O.fad 0 (Opd.t 10)),
                C.op (some (75, false)) (some 77) (O.ld (CK.int IntKind.u8) (Opd.t 76)),
                C.op (some (75, false)) (some 78)
                  (O.bin BinOp.eql (Opd.t 77) (Opd.c (AV.int IntKind.u8 16))),
                C.op (some (75, false)) (some 79) (O.mv (Opd.t 78)), C.op (some (79, true)) (some 80) (O.mv (Opd.t 6)),
                C.op (some (79, true)) (some 81) (O.mv (Opd.t 9)),
                C.op (some (79, true)) (some 82) (O.iad 1 (Opd.t 80) (Opd.t 81)),
                C.op (some (79, true)) (some 83) (O.ld (CK.int IntKind.i64) (Opd.t 82)),
                C.op (some (79, true)) (some 84)
                  (O.bin BinOp.neq (Opd.t 83) (Opd.c (AV.int IntKind.i64 1))),
                C.op (some (75, false)) (some 85) (O.pick (Opd.t 79) (Opd.t 84) (Opd.c (AV.bool false))),
                C.op none (some 86) (O.pick (Opd.t 75) (Opd.c (AV.bool true)) (Opd.t 85)),
                C.cond (Opd.t 86)
                  [C.op none (some 87) (O.mv (Opd.t 9)), C.op none (some 4) (O.mv (Opd.c AV.nilsl)),
                    C.op none (some 5) (O.mv (Opd.t 87)), C.ret]
                  [],
                C.op none (some 88) (O.ldn [CK.int IntKind.u8, CK.int IntKind.i64] (Opd.t 10)),
                C.op none (some 89) (O.mv (Opd.t 9)), C.op none (some 90) (O.call 72 [Opd.t 88, Opd.t 89]),
                C.op none (some 91) (O.len false (Opd.t 90)),
                C.op none (some 92) (O.mv (Opd.c (AV.int IntKind.i64 0))),
                C.blk 4
                  [C.loop
                      [C.op none (some 93) (O.bin BinOp.lss (Opd.t 92) (Opd.t 91)), C.cond (Opd.t 93) [] [C.exit 4],
                        C.blk 5
                          [C.op none (some 94) (O.iad 1 (Opd.t 90) (Opd.t 92)),
                            C.op none (some 95) (O.ld (CK.int IntKind.i64) (Opd.t 94)),
                            C.op none (some 15) (O.mv (Opd.t 95)), C.op none (some 96) (O.mv (Opd.t 15)),
                            C.op none (some 97) (O.fad 2 (Opd.t 3)), C.op none (some 98) (O.ld CK.any (Opd.t 97)),
                            C.op none (some 99) (O.len false (Opd.t 98)),
                            C.op none (some 100) (O.bin BinOp.geq (Opd.t 96) (Opd.t 99)),
                            C.op none (some 101) (O.mv (Opd.t 100)),
                            C.op (some (101, false)) (some 102) (O.mv (Opd.t 6)),
                            C.op (some (101, false)) (some 103) (O.mv (Opd.t 15)),
                            C.op (some (101, false)) (some 104) (O.iad 1 (Opd.t 102) (Opd.t 103)),
                            C.op (some (101, false)) (some 105) (O.ld (CK.int IntKind.i64) (Opd.t 104)),
                            C.op (some (101, false)) (some 106)
                              (O.bin BinOp.geq (Opd.t 105) (Opd.c (AV.int IntKind.i64 0))),
                            C.op (some (101, false)) (some 107) (O.mv (Opd.t 106)),
                            C.op (some (107, true)) (some 108) (O.mv (Opd.t 6)),
                            C.op (some (107, true)) (some 109) (O.mv (Opd.t 15)),
                            C.op (some (107, true)) (some 110) (O.iad 1 (Opd.t 108) (Opd.t 109)),
                            C.op (some (107, true)) (some 111) (O.ld (CK.int IntKind.i64) (Opd.t 110)),
                            C.op (some (107, true)) (some 112) (O.mv (Opd.t 13)),
                            C.op (some (107, true)) (some 113) (O.bin BinOp.neq (Opd.t 111) (Opd.t 112)),
                            C.op (some (101, false)) (some 114)
                              (O.pick (Opd.t 107) (Opd.t 113) (Opd.c (AV.bool false))),
                            C.op none (some 115) (O.pick (Opd.t 101) (Opd.c (AV.bool true)) (Opd.t 114)),
                            C.cond (Opd.t 115)
                              [C.op none (some 116) (O.mv (Opd.t 9)), C.op none (some 4) (O.mv (Opd.c AV.nilsl)),
                                C.op none (some 5) (O.mv (Opd.t 116)), C.ret]
                              [],
                            C.op none (some 117) (O.mv (Opd.t 6)), C.op none (some 118) (O.mv (Opd.t 15)),
                            C.op none (some 119) (O.iad 1 (Opd.t 117) (Opd.t 118)),
                            C.op none (some 120) (O.ld (CK.int IntKind.i64) (Opd.t 119)),
                            C.op none (some 121)
                              (O.bin BinOp.lss (Opd.t 120) (Opd.c (AV.int IntKind.i64 0))),
                            C.cond (Opd.t 121)
                              [C.op none (some 122) (O.mv (Opd.t 6)), C.op none (some 123) (O.mv (Opd.t 15)),
                                C.op none (some 124) (O.mv (Opd.t 13)),
                                C.op none (some 125) (O.iad 1 (Opd.t 122) (Opd.t 123)),
                                C.op none none (O.st 1 (Opd.t 125) (Opd.t 124)), C.op none (some 126) (O.mv (Opd.t 8)),
                                C.op none (some 127) (O.mv (Opd.t 15)),
                                C.op none (some 128) (O.bsl 1 [AV.int IntKind.i64 0] 1 [(0, Opd.t 127)]),
                                C.op none (some 129) (O.app 1 (Opd.t 126) (Opd.t 128)),
                                C.op none (some 8) (O.mv (Opd.t 129))]
                              []],
                        C.op none (some 130) (O.bin BinOp.add (Opd.t 92) (Opd.c (AV.int IntKind.i64 1))),
                        C.op none (some 92) (O.mv (Opd.t 130))]]]]],
    C.op none (some 131) (O.mv (Opd.t 6)), C.op none (some 4) (O.mv (Opd.t 131)),
    C.op none (some 5) (O.mv (Opd.c (AV.int IntKind.i64 (-1)))), C.ret]
def r61 : List RV := [RV.t 4, RV.t 5]
theorem c61_ok : cC Try.prog Try.f61.ntmps (Try.f61.body.getD .skip) = some c61 := by kernel_rfl

def d62_0 : List It :=
  [(none, some 19, O.fad 0 (Opd.t 1), []), (none, some 20, O.ld CK.any (Opd.t 19), [0]),
                    (none, some 21, O.mv (Opd.t 4), []), (none, some 22, O.iad 3 (Opd.t 20) (Opd.t 21), [1, 2]),
                    (none, some 23, O.fad 0 (Opd.t 22), [3]),
                    (none, some 24, O.ld (CK.int IntKind.i64) (Opd.t 23), [4]),
                    (none, some 25, O.bin BinOp.and (Opd.t 24) (Opd.c (AV.int IntKind.i64 15)), [5]),
                    (none, some 26, O.fad 0 (Opd.t 1), []), (none, some 27, O.ld CK.any (Opd.t 26), [7]),
                    (none, some 28, O.mv (Opd.t 4), []), (none, some 29, O.iad 3 (Opd.t 27) (Opd.t 28), [8, 9]),
                    (none, some 30, O.fad 1 (Opd.t 29), [10]),
                    (none, some 31, O.ld (CK.int IntKind.i64) (Opd.t 30), [11]),
                    (none, some 32, O.bin BinOp.and (Opd.t 31) (Opd.c (AV.int IntKind.i64 15)), [12]),
                    (none, some 33,
                      O.build [AV.int IntKind.i64 0, AV.int IntKind.i64 0, AV.nilsl]
                        [(0, 1, Opd.t 25), (1, 1, Opd.t 32)],
                      [6, 13]),
                    (none, some 5,
                      O.alloc [AV.int IntKind.i64 0, AV.int IntKind.i64 0, AV.nilsl], []),
                    (none, none, O.st 3 (Opd.t 5) (Opd.t 33),
                      [15, 14, 0, 1, 2, 3, 4, 5, 6, 7, 8, 9, 10, 11, 12, 13, 14, 15])]
def o62_0 : List (Nat × Bool) := [(0, false), (1, false), (2, false), (3, false), (4, false), (5, false), (6, false), (7, false), (8, false), (9, false), (10, false), (11, false), (12, false), (13, false), (14, false), (15, true), (16, true)]
def l62_0 : List (Nat × Bool × It) :=
  [(0, false, (none, some 19, O.fad 0 (Opd.t 1), [])),
   (1, false, (none, some 20, O.ld CK.any (Opd.t 19), [0])),
   (2, false, (none, some 21, O.mv (Opd.t 4), [])),
   (3, false, (none, some 22, O.iad 3 (Opd.t 20) (Opd.t 21), [1, 2])),
   (4, false, (none, some 23, O.fad 0 (Opd.t 22), [3])),
   (5, false, (none, some 24, O.ld (CK.int IntKind.i64) (Opd.t 23), [4])),
   (6, false, (none, some 25, O.bin BinOp.and (Opd.t 24) (Opd.c (AV.int IntKind.i64 15)), [5])),
   (7, false, (none, some 26, O.fad 0 (Opd.t 1), [])),
   (8, false, (none, some 27, O.ld CK.any (Opd.t 26), [7])),
   (9, false, (none, some 28, O.mv (Opd.t 4), [])),
   (10, false, (none, some 29, O.iad 3 (Opd.t 27) (Opd.t 28), [8, 9])),
   (11, false, (none, some 30, O.fad 1 (Opd.t 29), [10])),
   (12, false, (none, some 31, O.ld (CK.int IntKind.i64) (Opd.t 30), [11])),
   (13, false, (none, some 32, O.bin BinOp.and (Opd.t 31) (Opd.c (AV.int IntKind.i64 15)), [12])),
   (14, false, (none, some 33,
                      O.build [AV.int IntKind.i64 0, AV.int IntKind.i64 0, AV.nilsl]
                        [(0, 1, Opd.t 25), (1, 1, Opd.t 32)],
                      [6, 13])),
   (15, true, (none, some 5,
                      O.alloc [AV.int IntKind.i64 0, AV.int IntKind.i64 0, AV.nilsl], [])),
   (16, true, (none, none, O.st 3 (Opd.t 5) (Opd.t 33),
                      [15, 14, 0, 1, 2, 3, 4, 5, 6, 7, 8, 9, 10, 11, 12, 13, 14, 15]))]
theorem l62_0_ok : okDraw d62_0 o62_0 = true ∧ mkL d62_0 o62_0 = some l62_0 := ⟨by kernel_rfl, by kernel_rfl⟩

def c62 : List C :=
  [C.op none (some 1) (O.box (Opd.t 0)), C.op none (some 2) (O.alloc [AV.nilsl]),
    C.op none (some 3) (O.alloc [AV.nilsl]), C.op none (some 4) (O.mv (Opd.c (AV.int IntKind.i64 0))),
    C.blk 0
      [C.loop
          [C.op none (some 8) (O.mv (Opd.t 4)), C.op none (some 9) (O.fad 0 (Opd.t 1)),
            C.op none (some 10) (O.ld CK.any (Opd.t 9)), C.op none (some 11) (O.len false (Opd.t 10)),
            C.op none (some 12) (O.bin BinOp.lss (Opd.t 8) (Opd.t 11)), C.op none (some 13) (O.mv (Opd.t 12)),
            C.op (some (13, true)) (some 14) (O.mv (Opd.t 4)),
            C.op (some (13, true)) (some 15) (O.bin BinOp.lss (Opd.t 14) (Opd.c (AV.int IntKind.i64 6))),
            C.op none (some 16) (O.pick (Opd.t 13) (Opd.t 15) (Opd.c (AV.bool false))), C.cond (Opd.t 16) [] [C.exit 0],
            C.blk 1
              [C.draw d62_0,
                C.op none (some 6) (O.mv (Opd.c (AV.int IntKind.i64 0))),
                C.blk 2
                  [C.loop
                      [C.op none (some 34) (O.mv (Opd.t 6)), C.op none (some 35) (O.fad 0 (Opd.t 1)),
                        C.op none (some 36) (O.ld CK.any (Opd.t 35)), C.op none (some 37) (O.mv (Opd.t 4)),
                        C.op none (some 38) (O.iad 3 (Opd.t 36) (Opd.t 37)), C.op none (some 39) (O.fad 2 (Opd.t 38)),
                        C.op none (some 40) (O.ld CK.any (Opd.t 39)), C.op none (some 41) (O.len false (Opd.t 40)),
                        C.op none (some 42) (O.bin BinOp.lss (Opd.t 34) (Opd.t 41)),
                        C.op none (some 43) (O.mv (Opd.t 42)), C.op (some (43, true)) (some 44) (O.mv (Opd.t 6)),
                        C.op (some (43, true)) (some 45)
                          (O.bin BinOp.lss (Opd.t 44) (Opd.c (AV.int IntKind.i64 40))),
                        C.op none (some 46) (O.pick (Opd.t 43) (Opd.t 45) (Opd.c (AV.bool false))),
                        C.cond (Opd.t 46) [] [C.exit 2],
                        C.blk 3
                          [C.op none (some 49) (O.fad 0 (Opd.t 1)), C.op none (some 50) (O.ld CK.any (Opd.t 49)),
                            C.op none (some 51) (O.mv (Opd.t 4)), C.op none (some 52) (O.iad 3 (Opd.t 50) (Opd.t 51)),
                            C.op none (some 53) (O.fad 2 (Opd.t 52)), C.op none (some 54) (O.ld CK.any (Opd.t 53)),
                            C.op none (some 55) (O.mv (Opd.t 6)), C.op none (some 56) (O.iad 2 (Opd.t 54) (Opd.t 55)),
                            C.op none (some 57) (O.ldn [CK.int IntKind.u8, CK.int IntKind.i64] (Opd.t 56)),
                            C.op none (some 7)
                              (O.alloc [AV.int IntKind.u8 0, AV.int IntKind.i64 0]),
                            C.op none none (O.st 2 (Opd.t 7) (Opd.t 57)), C.op none (some 58) (O.fad 0 (Opd.t 7)),
                            C.op none (some 59) (O.ld (CK.int IntKind.u8) (Opd.t 58)),
                            C.op none (some 60) (O.bin BinOp.rem (Opd.t 59) (Opd.c (AV.int IntKind.u8 22))),
                            C.op none (some 61) (O.bin BinOp.add (Opd.c (AV.int IntKind.u8 1)) (Opd.t 60)),
                            C.op none (some 62) (O.fad 0 (Opd.t 7)), C.op none none (O.st 1 (Opd.t 62) (Opd.t 61)),
                            C.op none (some 63) (O.fad 0 (Opd.t 7)),
                            C.op none (some 64) (O.ld (CK.int IntKind.u8) (Opd.t 63)),
                            C.op none (some 65) (O.cvi IntKind.i64 (Opd.t 64)),
                            C.op none (some 66) (O.call 58 [Opd.t 65]), C.op none (some 67) (O.un UnOp.not (Opd.t 66)),
                            C.cond (Opd.t 67)
                              [C.op none (some 68) (O.fad 1 (Opd.t 7)),
                                C.op none none (O.st 1 (Opd.t 68) (Opd.c (AV.int IntKind.i64 0)))]
                              [],
                            C.op none (some 69) (O.fad 2 (Opd.t 5)), C.op none (some 70) (O.ld CK.any (Opd.t 69)),
                            C.op none (some 71) (O.ldn [CK.int IntKind.u8, CK.int IntKind.i64] (Opd.t 7)),
                            C.op none (some 72)
                              (O.bsl 2 [AV.int IntKind.u8 0, AV.int IntKind.i64 0] 1
                                [(0, Opd.t 71)]),
                            C.op none (some 73) (O.app 2 (Opd.t 70) (Opd.t 72)),
                            C.op none (some 74) (O.fad 2 (Opd.t 5)), C.op none none (O.st 1 (Opd.t 74) (Opd.t 73))],
                        C.op none (some 47) (O.mv (Opd.t 6)),
                        C.op none (some 48) (O.bin BinOp.add (Opd.t 47) (Opd.c (AV.int IntKind.i64 1))),
                        C.op none (some 6) (O.mv (Opd.t 48))]],
                C.op none (some 75) (O.fad 0 (Opd.t 3)), C.op none (some 76) (O.ld CK.any (Opd.t 75)),
                C.op none (some 77) (O.ldn [CK.int IntKind.i64, CK.int IntKind.i64, CK.any] (Opd.t 5)),
                C.op none (some 78)
                  (O.bsl 3 [AV.int IntKind.i64 0, AV.int IntKind.i64 0, AV.nilsl] 1
                    [(0, Opd.t 77)]),
                C.op none (some 79) (O.app 3 (Opd.t 76) (Opd.t 78)), C.op none (some 80) (O.fad 0 (Opd.t 3)),
                C.op none none (O.st 1 (Opd.t 80) (Opd.t 79))],
            C.op none (some 17) (O.mv (Opd.t 4)),
            C.op none (some 18) (O.bin BinOp.add (Opd.t 17) (Opd.c (AV.int IntKind.i64 1))),
            C.op none (some 4) (O.mv (Opd.t 18))]],
    C.op none (some 81) (O.ldn [CK.any] (Opd.t 3)), C.op none none (O.st 1 (Opd.t 2) (Opd.t 81)), C.ret]
def r62 : List RV := [RV.cn 2 1]
theorem c62_ok : cC Try.prog Try.f62.ntmps (Try.f62.body.getD .skip) = some c62 := by kernel_rfl

def c63 : List C :=
  [C.op none (some 4) (O.mv (Opd.c (AV.int IntKind.i64 0))), C.op none (some 6) (O.mv (Opd.t 0)),
    C.op none (some 7) (O.call 73 [Opd.t 6]), C.op none (some 5) (O.mv (Opd.t 7)), C.op none (some 8) (O.mv (Opd.t 5)),
    C.op none (some 9) (O.mv (Opd.t 1)), C.op none (some 10) (O.mx [Opd.t 9, Opd.c (AV.int IntKind.i64 0)]),
    C.op none (some 11) (O.cvi IntKind.u64 (Opd.t 10)), C.op none (some 12) (O.bin BinOp.gtr (Opd.t 8) (Opd.t 11)),
    C.cond (Opd.t 12)
      [C.op none (some 13) (O.mv (Opd.t 0)),
        C.op none (some 14) (O.call 65 [Opd.t 13, Opd.c (AV.int IntKind.i64 3)]),
        C.op none (some 4) (O.mv (Opd.c (AV.int IntKind.i64 0))), C.ret]
      [],
    C.op none (some 15) (O.mv (Opd.t 5)), C.op none (some 16) (O.cvi IntKind.i64 (Opd.t 15)),
    C.op none (some 4) (O.mv (Opd.t 16)), C.ret]
def r63 : List RV := [RV.t 4]
theorem c63_ok : cC Try.prog Try.f63.ntmps (Try.f63.body.getD .skip) = some c63 := by kernel_rfl

def c64 : List C :=
  [C.op none (some 2) (O.mv (Opd.c (AV.int IntKind.i64 0))), C.op none (some 4) (O.mv (Opd.t 0)),
    C.op none (some 5) (O.call 73 [Opd.t 4]), C.op none (some 3) (O.mv (Opd.t 5)), C.op none (some 6) (O.mv (Opd.t 3)),
    C.op none (some 7) (O.bin BinOp.shr (Opd.t 6) (Opd.c (AV.int IntKind.u64 1))),
    C.op none (some 8) (O.cvi IntKind.i64 (Opd.t 7)), C.op none (some 9) (O.mv (Opd.t 3)),
    C.op none (some 10) (O.bin BinOp.and (Opd.t 9) (Opd.c (AV.int IntKind.u64 1))),
    C.op none (some 11) (O.cvi IntKind.i64 (Opd.t 10)), C.op none (some 12) (O.un UnOp.neg (Opd.t 11)),
    C.op none (some 13) (O.bin BinOp.xor (Opd.t 8) (Opd.t 12)), C.op none (some 2) (O.mv (Opd.t 13)), C.ret]
def r64 : List RV := [RV.t 2]
theorem c64_ok : cC Try.prog Try.f64.ntmps (Try.f64.body.getD .skip) = some c64 := by kernel_rfl

def c65 : List C :=
  [C.op none (some 4) (O.mv (Opd.t 0)), C.op none (some 5) (O.nck (Opd.t 4)), C.op none (some 6) (O.fad 1 (Opd.t 5)),
    C.op none (some 7) (O.ld (CK.int IntKind.i64) (Opd.t 6)),
    C.op none (some 8) (O.bin BinOp.eql (Opd.t 7) (Opd.c (AV.int IntKind.i64 0))),
    C.op none (some 9) (O.mv (Opd.t 8)), C.op (some (9, true)) (some 10) (O.mv (Opd.t 1)),
    C.op (some (9, true)) (some 11) (O.bin BinOp.neq (Opd.t 10) (Opd.c (AV.int IntKind.i64 0))),
    C.op none (some 12) (O.pick (Opd.t 9) (Opd.t 11) (Opd.c (AV.bool false))),
    C.cond (Opd.t 12)
      [C.op none (some 13) (O.mv (Opd.t 0)), C.op none (some 14) (O.mv (Opd.t 0)), C.op none (some 15) (O.mv (Opd.t 1)),
        C.op none (some 16) (O.nck (Opd.t 13)), C.op none (some 17) (O.fad 1 (Opd.t 16)),
        C.op none none (O.st 1 (Opd.t 17) (Opd.t 15)), C.op none (some 18) (O.nck (Opd.t 14)),
        C.op none (some 19) (O.fad 0 (Opd.t 18)), C.op none none (O.st 1 (Opd.t 19) (Opd.c (AV.str [])))]
      []]
def r65 : List RV := []
theorem c65_ok : cC Try.prog Try.f65.ntmps (Try.f65.body.getD .skip) = some c65 := by kernel_rfl

def c66 : List C :=
  [C.op none (some 2) (O.box (Opd.t 0)), C.op none (some 4) (O.alloc [AV.str [], AV.int IntKind.i64 0]),
    C.op none (some 5) (O.mv (Opd.c (AV.int IntKind.i64 0))),
    C.op none (some 8) (O.ldn [CK.str, CK.int IntKind.i64] (Opd.t 2)), C.op none (some 9) (O.call 74 [Opd.t 8]),
    C.op none (some 7) (O.mv (Opd.t 9)), C.op none (some 10) (O.ext (Opd.t 7) 0),
    C.op none (some 11) (O.ext (Opd.t 7) 1), C.op none none (O.st 2 (Opd.t 2) (Opd.t 10)),
    C.op none (some 6) (O.mv (Opd.t 11)), C.op none (some 12) (O.mv (Opd.t 6)), C.op none (some 13) (O.mv (Opd.t 1)),
    C.op none (some 14) (O.mx [Opd.t 13, Opd.c (AV.int IntKind.i64 0)]),
    C.op none (some 15) (O.cvi IntKind.u64 (Opd.t 14)), C.op none (some 16) (O.bin BinOp.gtr (Opd.t 12) (Opd.t 15)),
    C.cond (Opd.t 16)
      [C.op none (some 17) (O.ldn [CK.str, CK.int IntKind.i64] (Opd.t 2)),
        C.op none (some 18) (O.call 68 [Opd.t 17, Opd.c (AV.int IntKind.i64 3)]),
        C.op none none (O.st 2 (Opd.t 4) (Opd.t 18)),
        C.op none (some 5) (O.mv (Opd.c (AV.int IntKind.i64 0))), C.ret]
      [],
    C.op none (some 19) (O.ldn [CK.str, CK.int IntKind.i64] (Opd.t 2)), C.op none (some 20) (O.mv (Opd.t 6)),
    C.op none (some 21) (O.cvi IntKind.i64 (Opd.t 20)), C.op none none (O.st 2 (Opd.t 4) (Opd.t 19)),
    C.op none (some 5) (O.mv (Opd.t 21)), C.ret]
def r66 : List RV := [RV.cn 4 2, RV.t 5]
theorem c66_ok : cC Try.prog Try.f66.ntmps (Try.f66.body.getD .skip) = some c66 := by kernel_rfl

def c67 : List C :=
  [C.op none (some 1) (O.box (Opd.t 0)), C.op none (some 2) (O.alloc [AV.str [], AV.int IntKind.i64 0]),
    C.op none (some 3) (O.mv (Opd.c (AV.int IntKind.i64 0))),
    C.op none (some 6) (O.ldn [CK.str, CK.int IntKind.i64] (Opd.t 1)), C.op none (some 7) (O.call 74 [Opd.t 6]),
    C.op none (some 5) (O.mv (Opd.t 7)), C.op none (some 8) (O.ext (Opd.t 5) 0), C.op none (some 9) (O.ext (Opd.t 5) 1),
    C.op none none (O.st 2 (Opd.t 1) (Opd.t 8)), C.op none (some 4) (O.mv (Opd.t 9)),
    C.op none (some 10) (O.mv (Opd.t 4)),
    C.op none (some 11) (O.bin BinOp.rem (Opd.t 10) (Opd.c (AV.int IntKind.u64 2))),
    C.op none (some 12) (O.bin BinOp.eql (Opd.t 11) (Opd.c (AV.int IntKind.u64 1))),
    C.cond (Opd.t 12)
      [C.op none (some 13) (O.ldn [CK.str, CK.int IntKind.i64] (Opd.t 1)), C.op none (some 14) (O.mv (Opd.t 4)),
        C.op none (some 15) (O.bin BinOp.quo (Opd.t 14) (Opd.c (AV.int IntKind.u64 2))),
        C.op none (some 16) (O.cvi IntKind.i64 (Opd.t 15)), C.op none (some 17) (O.un UnOp.neg (Opd.t 16)),
        C.op none (some 18) (O.bin BinOp.sub (Opd.t 17) (Opd.c (AV.int IntKind.i64 1))),
        C.op none none (O.st 2 (Opd.t 2) (Opd.t 13)), C.op none (some 3) (O.mv (Opd.t 18)), C.ret]
      [],
    C.op none (some 19) (O.ldn [CK.str, CK.int IntKind.i64] (Opd.t 1)), C.op none (some 20) (O.mv (Opd.t 4)),
    C.op none (some 21) (O.bin BinOp.quo (Opd.t 20) (Opd.c (AV.int IntKind.u64 2))),
    C.op none (some 22) (O.cvi IntKind.i64 (Opd.t 21)), C.op none none (O.st 2 (Opd.t 2) (Opd.t 19)),
    C.op none (some 3) (O.mv (Opd.t 22)), C.ret]
def r67 : List RV := [RV.cn 2 2, RV.t 3]
theorem c67_ok : cC Try.prog Try.f67.ntmps (Try.f67.body.getD .skip) = some c67 := by kernel_rfl

def c68 : List C :=
  [C.op none (some 2) (O.box (Opd.t 0)), C.op none (some 4) (O.alloc [AV.str [], AV.int IntKind.i64 0]),
    C.op none (some 5) (O.fad 1 (Opd.t 2)), C.op none (some 6) (O.ld (CK.int IntKind.i64) (Opd.t 5)),
    C.op none (some 7) (O.bin BinOp.eql (Opd.t 6) (Opd.c (AV.int IntKind.i64 0))),
    C.op none (some 8) (O.mv (Opd.t 7)), C.op (some (8, true)) (some 9) (O.mv (Opd.t 1)),
    C.op (some (8, true)) (some 10) (O.bin BinOp.neq (Opd.t 9) (Opd.c (AV.int IntKind.i64 0))),
    C.op none (some 11) (O.pick (Opd.t 8) (Opd.t 10) (Opd.c (AV.bool false))),
    C.cond (Opd.t 11)
      [C.op none (some 12) (O.mv (Opd.t 1)),
        C.op none (some 13)
          (O.build [AV.str [], AV.int IntKind.i64 0] [(0, 1, Opd.c (AV.str [])), (1, 1, Opd.t 12)]),
        C.op none none (O.st 2 (Opd.t 4) (Opd.t 13)), C.ret]
      [],
    C.op none (some 14) (O.ldn [CK.str, CK.int IntKind.i64] (Opd.t 2)), C.op none none (O.st 2 (Opd.t 4) (Opd.t 14)),
    C.ret]
def r68 : List RV := [RV.cn 4 2]
theorem c68_ok : cC Try.prog Try.f68.ntmps (Try.f68.body.getD .skip) = some c68 := by kernel_rfl

def c69 : List C :=
  [C.op none (some 4) (O.mv (Opd.c AV.nilptr)), C.op none (some 7) (O.mv (Opd.t 1)),
    C.op none (some 8) (O.len false (Opd.t 7)), C.op none (some 9) (O.mv (Opd.c (AV.int IntKind.i64 0))),
    C.blk 0
      [C.loop
          [C.op none (some 10) (O.bin BinOp.lss (Opd.t 9) (Opd.t 8)), C.cond (Opd.t 10) [] [C.exit 0],
            C.blk 1
              [C.op none (some 11) (O.iad 1 (Opd.t 7) (Opd.t 9)),
                C.op none (some 12) (O.ld (CK.int IntKind.u64) (Opd.t 11)), C.op none (some 6) (O.mv (Opd.t 12)),
                C.blk 2
                  [C.loop
                      [C.op none (some 13) (O.mv (Opd.t 6)),
                        C.op none (some 14) (O.bin BinOp.gtr (Opd.t 13) (Opd.c (AV.int IntKind.u64 127))),
                        C.cond (Opd.t 14) [] [C.exit 2],
                        C.blk 3
                          [C.op none (some 15) (O.mv (Opd.t 0)), C.op none (some 16) (O.mv (Opd.t 0)),
                            C.op none (some 17) (O.nck (Opd.t 16)), C.op none (some 18) (O.fad 0 (Opd.t 17)),
                            C.op none (some 19) (O.ld CK.any (Opd.t 18)), C.op none (some 20) (O.mv (Opd.t 6)),
                            C.op none (some 21) (O.cvi IntKind.u8 (Opd.t 20)),
                            C.op none (some 22) (O.bin BinOp.or (Opd.t 21) (Opd.c (AV.int IntKind.u8 128))),
                            C.op none (some 23) (O.bsl 1 [AV.int IntKind.u8 0] 1 [(0, Opd.t 22)]),
                            C.op none (some 24) (O.app 1 (Opd.t 19) (Opd.t 23)), C.op none (some 25) (O.nck (Opd.t 15)),
                            C.op none (some 26) (O.fad 0 (Opd.t 25)), C.op none none (O.st 1 (Opd.t 26) (Opd.t 24)),
                            C.op none (some 27) (O.mv (Opd.t 6)),
                            C.op none (some 28) (O.bin BinOp.shr (Opd.t 27) (Opd.c (AV.int IntKind.u64 7))),
                            C.op none (some 6) (O.mv (Opd.t 28))]]],
                C.op none (some 29) (O.mv (Opd.t 0)), C.op none (some 30) (O.mv (Opd.t 0)),
                C.op none (some 31) (O.nck (Opd.t 30)), C.op none (some 32) (O.fad 0 (Opd.t 31)),
                C.op none (some 33) (O.ld CK.any (Opd.t 32)), C.op none (some 34) (O.mv (Opd.t 6)),
                C.op none (some 35) (O.cvi IntKind.u8 (Opd.t 34)),
                C.op none (some 36) (O.bsl 1 [AV.int IntKind.u8 0] 1 [(0, Opd.t 35)]),
                C.op none (some 37) (O.app 1 (Opd.t 33) (Opd.t 36)), C.op none (some 38) (O.nck (Opd.t 29)),
                C.op none (some 39) (O.fad 0 (Opd.t 38)), C.op none none (O.st 1 (Opd.t 39) (Opd.t 37))],
            C.op none (some 40) (O.bin BinOp.add (Opd.t 9) (Opd.c (AV.int IntKind.i64 1))),
            C.op none (some 9) (O.mv (Opd.t 40))]],
    C.op none (some 41) (O.mv (Opd.t 0)), C.op none (some 4) (O.mv (Opd.t 41)), C.ret]
def r69 : List RV := [RV.t 4]
theorem c69_ok : cC Try.prog Try.f69.ntmps (Try.f69.body.getD .skip) = some c69 := by kernel_rfl

def c70 : List C :=
  [C.op none (some 3) (O.box (Opd.t 0)), C.op none (some 4) (O.box (Opd.t 1)), C.op none (some 5) (O.box (Opd.t 2)),
    C.op none (some 6) (O.mv (Opd.c (AV.bool false))), C.op none (some 7) (O.fad 0 (Opd.t 5)),
    C.op none (some 8) (O.ld (CK.int IntKind.u8) (Opd.t 7)),
    C.blk 0
      [C.op none (some 10) (O.bin BinOp.eql (Opd.t 8) (Opd.c (AV.int IntKind.u8 13))),
        C.op none (some 9) (O.mv (Opd.t 10)),
        C.cond (Opd.t 9) []
          [C.op none (some 11) (O.bin BinOp.eql (Opd.t 8) (Opd.c (AV.int IntKind.u8 14))),
            C.op none (some 9) (O.mv (Opd.t 11))],
        C.cond (Opd.t 9)
          [C.op none (some 12) (O.fad 1 (Opd.t 5)), C.op none (some 13) (O.ld (CK.int IntKind.i64) (Opd.t 12)),
            C.op none (some 14) (O.bin BinOp.geq (Opd.t 13) (Opd.c (AV.int IntKind.i64 0))),
            C.op none (some 15) (O.mv (Opd.t 14)), C.op (some (15, true)) (some 16) (O.fad 1 (Opd.t 5)),
            C.op (some (15, true)) (some 17) (O.ld (CK.int IntKind.i64) (Opd.t 16)),
            C.op (some (15, true)) (some 18) (O.fad 2 (Opd.t 4)),
            C.op (some (15, true)) (some 19) (O.ld CK.any (Opd.t 18)),
            C.op (some (15, true)) (some 20) (O.len false (Opd.t 19)),
            C.op (some (15, true)) (some 21) (O.bin BinOp.lss (Opd.t 17) (Opd.t 20)),
            C.op none (some 22) (O.pick (Opd.t 15) (Opd.t 21) (Opd.c (AV.bool false))),
            C.op none (some 6) (O.mv (Opd.t 22)), C.ret]
          [C.op none (some 24) (O.bin BinOp.eql (Opd.t 8) (Opd.c (AV.int IntKind.u8 15))),
            C.op none (some 23) (O.mv (Opd.t 24)),
            C.cond (Opd.t 23)
              [C.op none (some 25) (O.fad 1 (Opd.t 5)), C.op none (some 26) (O.ld (CK.int IntKind.i64) (Opd.t 25)),
                C.op none (some 27) (O.bin BinOp.geq (Opd.t 26) (Opd.c (AV.int IntKind.i64 0))),
                C.op none (some 28) (O.mv (Opd.t 27)), C.op (some (28, true)) (some 29) (O.fad 1 (Opd.t 5)),
                C.op (some (28, true)) (some 30) (O.ld (CK.int IntKind.i64) (Opd.t 29)),
                C.op (some (28, true)) (some 31) (O.fad 0 (Opd.t 3)),
                C.op (some (28, true)) (some 32) (O.ld CK.any (Opd.t 31)),
                C.op (some (28, true)) (some 33) (O.len false (Opd.t 32)),
                C.op (some (28, true)) (some 34) (O.bin BinOp.lss (Opd.t 30) (Opd.t 33)),
                C.op none (some 35) (O.pick (Opd.t 28) (Opd.t 34) (Opd.c (AV.bool false))),
                C.op none (some 6) (O.mv (Opd.t 35)), C.ret]
              [C.op none (some 37) (O.bin BinOp.eql (Opd.t 8) (Opd.c (AV.int IntKind.u8 17))),
                C.op none (some 36) (O.mv (Opd.t 37)),
                C.cond (Opd.t 36) []
                  [C.op none (some 38) (O.bin BinOp.eql (Opd.t 8) (Opd.c (AV.int IntKind.u8 18))),
                    C.op none (some 36) (O.mv (Opd.t 38))],
                C.cond (Opd.t 36)
                  [C.op none (some 39) (O.fad 1 (Opd.t 5)), C.op none (some 40) (O.ld (CK.int IntKind.i64) (Opd.t 39)),
                    C.op none (some 41) (O.bin BinOp.geq (Opd.t 40) (Opd.c (AV.int IntKind.i64 0))),
                    C.op none (some 42) (O.mv (Opd.t 41)), C.op (some (42, true)) (some 43) (O.fad 1 (Opd.t 5)),
                    C.op (some (42, true)) (some 44) (O.ld (CK.int IntKind.i64) (Opd.t 43)),
                    C.op (some (42, true)) (some 45) (O.fad 1 (Opd.t 4)),
                    C.op (some (42, true)) (some 46) (O.ld (CK.int IntKind.i64) (Opd.t 45)),
                    C.op (some (42, true)) (some 47) (O.bin BinOp.lss (Opd.t 44) (Opd.t 46)),
                    C.op none (some 48) (O.pick (Opd.t 42) (Opd.t 47) (Opd.c (AV.bool false))),
                    C.op none (some 6) (O.mv (Opd.t 48)), C.ret]
                  [C.op none (some 50) (O.bin BinOp.eql (Opd.t 8) (Opd.c (AV.int IntKind.u8 22))),
                    C.op none (some 49) (O.mv (Opd.t 50)),
                    C.cond (Opd.t 49)
                      [C.op none (some 51) (O.fad 1 (Opd.t 5)),
                        C.op none (some 52) (O.ld (CK.int IntKind.i64) (Opd.t 51)),
                        C.op none (some 53) (O.call 25 [Opd.t 52]),
                        C.op none (some 54) (O.bin BinOp.geq (Opd.t 53) (Opd.c (AV.int IntKind.i64 0))),
                        C.op none (some 6) (O.mv (Opd.t 54)), C.ret]
                      []]]]],
    C.op none (some 55) (O.fad 0 (Opd.t 5)), C.op none (some 56) (O.ld (CK.int IntKind.u8) (Opd.t 55)),
    C.op none (some 57) (O.bin BinOp.geq (Opd.t 56) (Opd.c (AV.int IntKind.u8 1))),
    C.op none (some 58) (O.mv (Opd.t 57)), C.op (some (58, true)) (some 59) (O.fad 0 (Opd.t 5)),
    C.op (some (58, true)) (some 60) (O.ld (CK.int IntKind.u8) (Opd.t 59)),
    C.op (some (58, true)) (some 61) (O.bin BinOp.leq (Opd.t 60) (Opd.c (AV.int IntKind.u8 22))),
    C.op none (some 62) (O.pick (Opd.t 58) (Opd.t 61) (Opd.c (AV.bool false))), C.op none (some 6) (O.mv (Opd.t 62)),
    C.ret]
def r70 : List RV := [RV.t 6]
theorem c70_ok : cC Try.prog Try.f70.ntmps (Try.f70.body.getD .skip) = some c70 := by kernel_rfl

def c71 : List C :=
  [C.op none (some 2) (O.box (Opd.t 0)), C.op none (some 3) (O.box (Opd.t 1)),
    C.op none (some 4) (O.mv (Opd.c (AV.int IntKind.i64 0))),
    C.op none (some 5) (O.mv (Opd.c (AV.int IntKind.i64 0))), C.op none (some 6) (O.fad 0 (Opd.t 3)),
    C.op none (some 7) (O.ld (CK.int IntKind.u8) (Opd.t 6)),
    C.blk 0
      [C.op none (some 9) (O.bin BinOp.eql (Opd.t 7) (Opd.c (AV.int IntKind.u8 1))),
        C.op none (some 8) (O.mv (Opd.t 9)),
        C.cond (Opd.t 8) []
          [C.op none (some 10) (O.bin BinOp.eql (Opd.t 7) (Opd.c (AV.int IntKind.u8 17))),
            C.op none (some 8) (O.mv (Opd.t 10))],
        C.cond (Opd.t 8)
          [C.op none (some 4) (O.mv (Opd.c (AV.int IntKind.i64 0))),
            C.op none (some 5) (O.mv (Opd.c (AV.int IntKind.i64 1))), C.ret]
          [C.op none (some 12) (O.bin BinOp.eql (Opd.t 7) (Opd.c (AV.int IntKind.u8 2))),
            C.op none (some 11) (O.mv (Opd.t 12)),
            C.cond (Opd.t 11) []
              [C.op none (some 13) (O.bin BinOp.eql (Opd.t 7) (Opd.c (AV.int IntKind.u8 18))),
                C.op none (some 11) (O.mv (Opd.t 13)),
                C.cond (Opd.t 11) []
                  [C.op none (some 14) (O.bin BinOp.eql (Opd.t 7) (Opd.c (AV.int IntKind.u8 14))),
                    C.op none (some 11) (O.mv (Opd.t 14))]],
            C.cond (Opd.t 11)
              [C.op none (some 4) (O.mv (Opd.c (AV.int IntKind.i64 1))),
                C.op none (some 5) (O.mv (Opd.c (AV.int IntKind.i64 0))), C.ret]
              [C.op none (some 16) (O.bin BinOp.eql (Opd.t 7) (Opd.c (AV.int IntKind.u8 3))),
                C.op none (some 15) (O.mv (Opd.t 16)),
                C.cond (Opd.t 15)
                  [C.op none (some 4) (O.mv (Opd.c (AV.int IntKind.i64 1))),
                    C.op none (some 5) (O.mv (Opd.c (AV.int IntKind.i64 2))), C.ret]
                  [C.op none (some 18) (O.bin BinOp.eql (Opd.t 7) (Opd.c (AV.int IntKind.u8 4))),
                    C.op none (some 17) (O.mv (Opd.t 18)),
                    C.cond (Opd.t 17)
                      [C.op none (some 4) (O.mv (Opd.c (AV.int IntKind.i64 2))),
                        C.op none (some 5) (O.mv (Opd.c (AV.int IntKind.i64 2))), C.ret]
                      [C.op none (some 20) (O.bin BinOp.eql (Opd.t 7) (Opd.c (AV.int IntKind.u8 5))),
                        C.op none (some 19) (O.mv (Opd.t 20)),
                        C.cond (Opd.t 19) []
                          [C.op none (some 21) (O.bin BinOp.eql (Opd.t 7) (Opd.c (AV.int IntKind.u8 6))),
                            C.op none (some 19) (O.mv (Opd.t 21)),
                            C.cond (Opd.t 19) []
                              [C.op none (some 22)
                                  (O.bin BinOp.eql (Opd.t 7) (Opd.c (AV.int IntKind.u8 7))),
                                C.op none (some 19) (O.mv (Opd.t 22)),
                                C.cond (Opd.t 19) []
                                  [C.op none (some 23)
                                      (O.bin BinOp.eql (Opd.t 7) (Opd.c (AV.int IntKind.u8 8))),
                                    C.op none (some 19) (O.mv (Opd.t 23)),
                                    C.cond (Opd.t 19) []
                                      [C.op none (some 24)
                                          (O.bin BinOp.eql (Opd.t 7) (Opd.c (AV.int IntKind.u8 9))),
                                        C.op none (some 19) (O.mv (Opd.t 24)),
                                        C.cond (Opd.t 19) []
                                          [C.op none (some 25)
                                              (O.bin BinOp.eql (Opd.t 7) (Opd.c (AV.int IntKind.u8 10))),
                                            C.op none (some 19) (O.mv (Opd.t 25)),
                                            C.cond (Opd.t 19) []
                                              [C.op none (some 26)
                                                  (O.bin BinOp.eql (Opd.t 7)
                                                    (Opd.c (AV.int IntKind.u8 11))),
                                                C.op none (some 19) (O.mv (Opd.t 26))]]]]]],
                        C.cond (Opd.t 19)
                          [C.op none (some 4) (O.mv (Opd.c (AV.int IntKind.i64 2))),
                            C.op none (some 5) (O.mv (Opd.c (AV.int IntKind.i64 1))), C.ret]
                          [C.op none (some 28) (O.bin BinOp.eql (Opd.t 7) (Opd.c (AV.int IntKind.u8 12))),
                            C.op none (some 27) (O.mv (Opd.t 28)),
                            C.cond (Opd.t 27) []
                              [C.op none (some 29)
                                  (O.bin BinOp.eql (Opd.t 7) (Opd.c (AV.int IntKind.u8 19))),
                                C.op none (some 27) (O.mv (Opd.t 29)),
                                C.cond (Opd.t 27) []
                                  [C.op none (some 30)
                                      (O.bin BinOp.eql (Opd.t 7) (Opd.c (AV.int IntKind.u8 21))),
                                    C.op none (some 27) (O.mv (Opd.t 30))]],
                            C.cond (Opd.t 27)
                              [C.op none (some 4) (O.mv (Opd.c (AV.int IntKind.i64 1))),
                                C.op none (some 5) (O.mv (Opd.c (AV.int IntKind.i64 1))), C.ret]
                              [C.op none (some 32)
                                  (O.bin BinOp.eql (Opd.t 7) (Opd.c (AV.int IntKind.u8 20))),
                                C.op none (some 31) (O.mv (Opd.t 32)),
                                C.cond (Opd.t 31)
                                  [C.op none (some 4) (O.mv (Opd.c (AV.int IntKind.i64 2))),
                                    C.op none (some 5) (O.mv (Opd.c (AV.int IntKind.i64 0))), C.ret]
                                  [C.op none (some 34)
                                      (O.bin BinOp.eql (Opd.t 7) (Opd.c (AV.int IntKind.u8 16))),
                                    C.op none (some 33) (O.mv (Opd.t 34)),
                                    C.cond (Opd.t 33)
                                      [C.op none (some 4) (O.mv (Opd.c (AV.int IntKind.i64 1))),
                                        C.op none (some 5) (O.mv (Opd.c (AV.int IntKind.i64 0))), C.ret]
                                      [C.op none (some 36)
                                          (O.bin BinOp.eql (Opd.t 7) (Opd.c (AV.int IntKind.u8 15))),
                                        C.op none (some 35) (O.mv (Opd.t 36)),
                                        C.cond (Opd.t 35)
                                          [C.op none (some 37) (O.fad 0 (Opd.t 2)),
                                            C.op none (some 38) (O.ld CK.any (Opd.t 37)),
                                            C.op none (some 39) (O.fad 1 (Opd.t 3)),
                                            C.op none (some 40) (O.ld (CK.int IntKind.i64) (Opd.t 39)),
                                            C.op none (some 41) (O.iad 3 (Opd.t 38) (Opd.t 40)),
                                            C.op none (some 42) (O.fad 0 (Opd.t 41)),
                                            C.op none (some 43) (O.ld (CK.int IntKind.i64) (Opd.t 42)),
                                            C.op none (some 4) (O.mv (Opd.t 43)),
                                            C.op none (some 5) (O.mv (Opd.c (AV.int IntKind.i64 1))), C.ret]
                                          [C.op none (some 45)
                                              (O.bin BinOp.eql (Opd.t 7) (Opd.c (AV.int IntKind.u8 22))),
                                            C.op none (some 44) (O.mv (Opd.t 45)),
                                            C.cond (Opd.t 44)
                                              [C.op none (some 46) (O.fad 1 (Opd.t 3)),
                                                C.op none (some 47) (O.ld (CK.int IntKind.i64) (Opd.t 46)),
                                                C.op none (some 48) (O.call 25 [Opd.t 47]),
                                                C.op none (some 4) (O.mv (Opd.t 48)),
                                                C.op none (some 5) (O.mv (Opd.c (AV.int IntKind.i64 1))),
                                                C.ret]
                                              []]]]]]]]]]],
    C.op none (some 4) (O.mv (Opd.c (AV.int IntKind.i64 0))),
    C.op none (some 5) (O.mv (Opd.c (AV.int IntKind.i64 0))), C.ret]
def r71 : List RV := [RV.t 4, RV.t 5]
theorem c71_ok : cC Try.prog Try.f71.ntmps (Try.f71.body.getD .skip) = some c71 := by kernel_rfl

def c72 : List C :=
  [C.op none (some 2) (O.box (Opd.t 0)), C.op none (some 4) (O.mv (Opd.c AV.nilsl)),
    C.op none (some 5) (O.fad 0 (Opd.t 2)), C.op none (some 6) (O.ld (CK.int IntKind.u8) (Opd.t 5)),
    C.blk 0
      [C.op none (some 8) (O.bin BinOp.eql (Opd.t 6) (Opd.c (AV.int IntKind.u8 16))),
        C.op none (some 7) (O.mv (Opd.t 8)),
        C.cond (Opd.t 7) [C.op none (some 4) (O.mv (Opd.c AV.nilsl)), C.ret]
          [C.op none (some 10) (O.bin BinOp.eql (Opd.t 6) (Opd.c (AV.int IntKind.u8 13))),
            C.op none (some 9) (O.mv (Opd.t 10)),
            C.cond (Opd.t 9)
              [C.op none (some 11) (O.fad 1 (Opd.t 2)), C.op none (some 12) (O.ld (CK.int IntKind.i64) (Opd.t 11)),
                C.op none (some 13) (O.bsl 1 [AV.int IntKind.i64 0] 1 [(0, Opd.t 12)]),
                C.op none (some 4) (O.mv (Opd.t 13)), C.ret]
              [C.op none (some 15) (O.bin BinOp.eql (Opd.t 6) (Opd.c (AV.int IntKind.u8 14))),
                C.op none (some 14) (O.mv (Opd.t 15)),
                C.cond (Opd.t 14)
                  [C.op none (some 16) (O.mv (Opd.t 1)),
                    C.op none (some 17) (O.bin BinOp.add (Opd.t 16) (Opd.c (AV.int IntKind.i64 1))),
                    C.op none (some 18) (O.fad 1 (Opd.t 2)), C.op none (some 19) (O.ld (CK.int IntKind.i64) (Opd.t 18)),
                    C.op none (some 20) (O.bsl 1 [AV.int IntKind.i64 0] 2 [(0, Opd.t 17), (1, Opd.t 19)]),
                    C.op none (some 4) (O.mv (Opd.t 20)), C.ret]
                  []]]],
    C.op none (some 21) (O.mv (Opd.t 1)),
    C.op none (some 22) (O.bin BinOp.add (Opd.t 21) (Opd.c (AV.int IntKind.i64 1))),
    C.op none (some 23) (O.bsl 1 [AV.int IntKind.i64 0] 1 [(0, Opd.t 22)]),
    C.op none (some 4) (O.mv (Opd.t 23)), C.ret]
def r72 : List RV := [RV.t 4]
theorem c72_ok : cC Try.prog Try.f72.ntmps (Try.f72.body.getD .skip) = some c72 := by kernel_rfl

def c73 : List C :=
  [C.op none (some 2) (O.mv (Opd.c (AV.int IntKind.u64 0))),
    C.op none (some 3) (O.mv (Opd.c (AV.int IntKind.u64 0))),
    C.op none (some 4) (O.mv (Opd.c (AV.int IntKind.i64 0))),
    C.blk 0
      [C.loop
          [C.blk 1
              [C.op none (some 9) (O.mv (Opd.t 0)),
                C.op none (some 10) (O.call 75 [Opd.t 9, Opd.c (AV.int IntKind.i64 1)]),
                C.op none (some 5) (O.mv (Opd.t 10)), C.op none (some 11) (O.mv (Opd.t 0)),
                C.op none (some 12) (O.nck (Opd.t 11)), C.op none (some 13) (O.fad 1 (Opd.t 12)),
                C.op none (some 14) (O.ld (CK.int IntKind.i64) (Opd.t 13)),
                C.op none (some 15) (O.bin BinOp.neq (Opd.t 14) (Opd.c (AV.int IntKind.i64 0))),
                C.cond (Opd.t 15) [C.op none (some 2) (O.mv (Opd.c (AV.int IntKind.u64 0))), C.ret] [],
                C.op none (some 16) (O.mv (Opd.t 5)),
                C.op none (some 17) (O.ist (Opd.t 16) (Opd.c (AV.int IntKind.i64 0))),
                C.op none (some 6) (O.mv (Opd.t 17)), C.op none (some 18) (O.mv (Opd.t 6)),
                C.op none (some 19) (O.bin BinOp.eql (Opd.t 18) (Opd.c (AV.int IntKind.u8 0))),
                C.op none (some 20) (O.mv (Opd.t 19)), C.op (some (20, true)) (some 21) (O.mv (Opd.t 4)),
                C.op (some (20, true)) (some 22)
                  (O.bin BinOp.gtr (Opd.t 21) (Opd.c (AV.int IntKind.i64 0))),
                C.op none (some 23) (O.pick (Opd.t 20) (Opd.t 22) (Opd.c (AV.bool false))),
                C.op none (some 24) (O.mv (Opd.t 23)), C.op (some (24, false)) (some 25) (O.mv (Opd.t 4)),
                C.op (some (24, false)) (some 26)
                  (O.bin BinOp.eql (Opd.t 25) (Opd.c (AV.int IntKind.i64 63))),
                C.op (some (24, false)) (some 27) (O.mv (Opd.t 26)), C.op (some (27, true)) (some 28) (O.mv (Opd.t 6)),
                C.op (some (27, true)) (some 29) (O.bin BinOp.gtr (Opd.t 28) (Opd.c (AV.int IntKind.u8 1))),
                C.op (some (24, false)) (some 30) (O.pick (Opd.t 27) (Opd.t 29) (Opd.c (AV.bool false))),
                C.op none (some 31) (O.pick (Opd.t 24) (Opd.c (AV.bool true)) (Opd.t 30)),
                C.cond (Opd.t 31)
                  [C.op none (some 32) (O.mv (Opd.t 0)),
                    C.op none (some 33) (O.call 65 [Opd.t 32, Opd.c (AV.int IntKind.i64 2)]),
                    C.op none (some 2) (O.mv (Opd.c (AV.int IntKind.u64 0))), C.ret]
                  [],
                C.op none (some 34) (O.mv (Opd.t 3)), C.op none (some 35) (O.mv (Opd.t 6)),
                C.op none (some 36) (O.bin BinOp.and (Opd.t 35) (Opd.c (AV.int IntKind.u8 127))),
                C.op none (some 37) (O.cvi IntKind.u64 (Opd.t 36)), C.op none (some 38) (O.mv (Opd.t 4)),
                C.op none (some 39) (O.bin BinOp.shl (Opd.t 37) (Opd.t 38)),
                C.op none (some 40) (O.bin BinOp.or (Opd.t 34) (Opd.t 39)), C.op none (some 3) (O.mv (Opd.t 40)),
                C.op none (some 41) (O.mv (Opd.t 6)),
                C.op none (some 42) (O.bin BinOp.lss (Opd.t 41) (Opd.c (AV.int IntKind.u8 128))),
                C.cond (Opd.t 42) [C.op none (some 43) (O.mv (Opd.t 3)), C.op none (some 2) (O.mv (Opd.t 43)), C.ret]
                  []],
            C.op none (some 7) (O.mv (Opd.t 4)),
            C.op none (some 8) (O.bin BinOp.add (Opd.t 7) (Opd.c (AV.int IntKind.i64 7))),
            C.op none (some 4) (O.mv (Opd.t 8))]]]
def r73 : List RV := [RV.t 2]
theorem c73_ok : cC Try.prog Try.f73.ntmps (Try.f73.body.getD .skip) = some c73 := by kernel_rfl

def d74_0 : List It :=
  [(none, some 39, O.mv (Opd.t 4), []), (none, some 40, O.mv (Opd.t 7), []),
                    (none, some 41, O.ist (Opd.t 40) (Opd.c (AV.int IntKind.i64 0)), [1]),
                    (none, some 42, O.bin BinOp.rem (Opd.t 41) (Opd.c (AV.int IntKind.u8 128)), [2]),
                    (none, some 43, O.cvi IntKind.u64 (Opd.t 42), [3]), (none, some 44, O.mv (Opd.t 5), []),
                    (none, some 45, O.call 77 [Opd.t 44], [5]),
                    (none, some 46, O.bin BinOp.mul (Opd.t 43) (Opd.t 45), [4, 6]),
                    (none, some 47, O.bin BinOp.add (Opd.t 39) (Opd.t 46), [0, 7]),
                    (none, some 4, O.mv (Opd.t 47), [8, 6, 0, 1, 2, 3, 4, 5, 6, 7, 8])]
def o74_0 : List (Nat × Bool) := [(0, false), (1, false), (2, false), (3, false), (4, false), (5, false), (6, true), (7, false), (8, false), (9, true)]
def l74_0 : List (Nat × Bool × It) :=
  [(0, false, (none, some 39, O.mv (Opd.t 4), [])),
   (1, false, (none, some 40, O.mv (Opd.t 7), [])),
   (2, false, (none, some 41, O.ist (Opd.t 40) (Opd.c (AV.int IntKind.i64 0)), [1])),
   (3, false, (none, some 42, O.bin BinOp.rem (Opd.t 41) (Opd.c (AV.int IntKind.u8 128)), [2])),
   (4, false, (none, some 43, O.cvi IntKind.u64 (Opd.t 42), [3])),
   (5, false, (none, some 44, O.mv (Opd.t 5), [])),
   (6, true, (none, some 45, O.call 77 [Opd.t 44], [5])),
   (7, false, (none, some 46, O.bin BinOp.mul (Opd.t 43) (Opd.t 45), [4, 6])),
   (8, false, (none, some 47, O.bin BinOp.add (Opd.t 39) (Opd.t 46), [0, 7])),
   (9, true, (none, some 4, O.mv (Opd.t 47), [8, 6, 0, 1, 2, 3, 4, 5, 6, 7, 8]))]
theorem l74_0_ok : okDraw d74_0 o74_0 = true ∧ mkL d74_0 o74_0 = some l74_0 := ⟨by kernel_rfl, by kernel_rfl⟩

def c74 : List C :=
  [C.op none (some 1) (O.box (Opd.t 0)), C.op none (some 2) (O.alloc [AV.str [], AV.int IntKind.i64 0]),
    C.op none (some 3) (O.mv (Opd.c (AV.int IntKind.u64 0))),
    C.op none (some 4) (O.mv (Opd.c (AV.int IntKind.u64 0))),
    C.op none (some 5) (O.mv (Opd.c (AV.int IntKind.i64 0))),
    C.blk 0
      [C.loop
          [C.op none (some 8) (O.mv (Opd.t 5)),
            C.op none (some 9) (O.bin BinOp.lss (Opd.t 8) (Opd.c (AV.int IntKind.i64 11))),
            C.cond (Opd.t 9) [] [C.exit 0],
            C.blk 1
              [C.op none (some 13) (O.ldn [CK.str, CK.int IntKind.i64] (Opd.t 1)),
                C.op none (some 14) (O.call 76 [Opd.t 13, Opd.c (AV.int IntKind.i64 1)]),
                C.op none (some 12) (O.mv (Opd.t 14)), C.op none (some 15) (O.ext (Opd.t 12) 0),
                C.op none (some 16) (O.ext (Opd.t 12) 1),
                C.op none (some 6) (O.alloc [AV.str [], AV.int IntKind.i64 0]),
                C.op none none (O.st 2 (Opd.t 6) (Opd.t 15)), C.op none (some 7) (O.mv (Opd.t 16)),
                C.op none (some 17) (O.ldn [CK.str, CK.int IntKind.i64] (Opd.t 6)),
                C.op none none (O.st 2 (Opd.t 1) (Opd.t 17)), C.op none (some 18) (O.fad 1 (Opd.t 1)),
                C.op none (some 19) (O.ld (CK.int IntKind.i64) (Opd.t 18)),
                C.op none (some 20) (O.bin BinOp.neq (Opd.t 19) (Opd.c (AV.int IntKind.i64 0))),
                C.cond (Opd.t 20)
                  [C.op none (some 21) (O.ldn [CK.str, CK.int IntKind.i64] (Opd.t 1)),
                    C.op none none (O.st 2 (Opd.t 2) (Opd.t 21)),
                    C.op none (some 3) (O.mv (Opd.c (AV.int IntKind.u64 0))), C.ret]
                  [],
                C.op none (some 22) (O.mv (Opd.t 5)),
                C.op none (some 23) (O.bin BinOp.gtr (Opd.t 22) (Opd.c (AV.int IntKind.i64 0))),
                C.op none (some 24) (O.mv (Opd.t 23)), C.op (some (24, true)) (some 25) (O.mv (Opd.t 7)),
                C.op (some (24, true)) (some 26) (O.ist (Opd.t 25) (Opd.c (AV.int IntKind.i64 0))),
                C.op (some (24, true)) (some 27) (O.bin BinOp.eql (Opd.t 26) (Opd.c (AV.int IntKind.u8 0))),
                C.op none (some 28) (O.pick (Opd.t 24) (Opd.t 27) (Opd.c (AV.bool false))),
                C.op none (some 29) (O.mv (Opd.t 28)), C.op (some (29, false)) (some 30) (O.mv (Opd.t 5)),
                C.op (some (29, false)) (some 31)
                  (O.bin BinOp.eql (Opd.t 30) (Opd.c (AV.int IntKind.i64 9))),
                C.op (some (29, false)) (some 32) (O.mv (Opd.t 31)), C.op (some (32, true)) (some 33) (O.mv (Opd.t 7)),
                C.op (some (32, true)) (some 34) (O.ist (Opd.t 33) (Opd.c (AV.int IntKind.i64 0))),
                C.op (some (32, true)) (some 35) (O.bin BinOp.gtr (Opd.t 34) (Opd.c (AV.int IntKind.u8 1))),
                C.op (some (29, false)) (some 36) (O.pick (Opd.t 32) (Opd.t 35) (Opd.c (AV.bool false))),
                C.op none (some 37) (O.pick (Opd.t 29) (Opd.c (AV.bool true)) (Opd.t 36)),
                C.cond (Opd.t 37)
                  [C.op none (some 38)
                      (O.build [AV.str [], AV.int IntKind.i64 0]
                        [(0, 1, Opd.c (AV.str [])), (1, 1, Opd.c (AV.int IntKind.i64 2))]),
                    C.op none none (O.st 2 (Opd.t 2) (Opd.t 38)),
                    C.op none (some 3) (O.mv (Opd.c (AV.int IntKind.u64 0))), C.ret]
                  [],
                C.draw d74_0,
                C.op none (some 48) (O.mv (Opd.t 7)),
                C.op none (some 49) (O.ist (Opd.t 48) (Opd.c (AV.int IntKind.i64 0))),
                C.op none (some 50) (O.bin BinOp.lss (Opd.t 49) (Opd.c (AV.int IntKind.u8 128))),
                C.cond (Opd.t 50)
                  [C.op none (some 51) (O.ldn [CK.str, CK.int IntKind.i64] (Opd.t 1)),
                    C.op none (some 52) (O.mv (Opd.t 4)), C.op none none (O.st 2 (Opd.t 2) (Opd.t 51)),
                    C.op none (some 3) (O.mv (Opd.t 52)), C.ret]
                  []],
            C.op none (some 10) (O.mv (Opd.t 5)),
            C.op none (some 11) (O.bin BinOp.add (Opd.t 10) (Opd.c (AV.int IntKind.i64 1))),
            C.op none (some 5) (O.mv (Opd.t 11))]],
    C.op none (some 53)
      (O.build [AV.str [], AV.int IntKind.i64 0]
        [(0, 1, Opd.c (AV.str [])), (1, 1, Opd.c (AV.int IntKind.i64 2))]),
    C.op none none (O.st 2 (Opd.t 2) (Opd.t 53)), C.op none (some 3) (O.mv (Opd.c (AV.int IntKind.u64 0))),
    C.ret]
def r74 : List RV := [RV.cn 2 2, RV.t 3]
theorem c74_ok : cC Try.prog Try.f74.ntmps (Try.f74.body.getD .skip) = some c74 := by kernel_rfl

def c75 : List C :=
  [C.op none (some 4) (O.mv (Opd.c (AV.str []))),
    C.blk 0
      [C.op none (some 7) (O.mv (Opd.t 0)), C.op none (some 8) (O.nck (Opd.t 7)),
        C.op none (some 9) (O.fad 1 (Opd.t 8)), C.op none (some 10) (O.ld (CK.int IntKind.i64) (Opd.t 9)),
        C.op none (some 11) (O.bin BinOp.neq (Opd.t 10) (Opd.c (AV.int IntKind.i64 0))),
        C.op none (some 12) (O.mv (Opd.t 11)), C.op (some (12, false)) (some 13) (O.mv (Opd.t 1)),
        C.op (some (12, false)) (some 14) (O.bin BinOp.leq (Opd.t 13) (Opd.c (AV.int IntKind.i64 0))),
        C.op none (some 15) (O.pick (Opd.t 12) (Opd.c (AV.bool true)) (Opd.t 14)), C.op none (some 6) (O.mv (Opd.t 15)),
        C.cond (Opd.t 6) [C.op none (some 4) (O.mv (Opd.c (AV.str []))), C.ret]
          [C.op none (some 17) (O.mv (Opd.t 1)), C.op none (some 18) (O.mv (Opd.t 0)),
            C.op none (some 19) (O.nck (Opd.t 18)), C.op none (some 20) (O.fad 0 (Opd.t 19)),
            C.op none (some 21) (O.ld CK.str (Opd.t 20)), C.op none (some 22) (O.len true (Opd.t 21)),
            C.op none (some 23) (O.bin BinOp.gtr (Opd.t 17) (Opd.t 22)), C.op none (some 16) (O.mv (Opd.t 23)),
            C.cond (Opd.t 16)
              [C.op none (some 24) (O.mv (Opd.t 0)),
                C.op none (some 25) (O.call 65 [Opd.t 24, Opd.c (AV.int IntKind.i64 1)]),
                C.op none (some 4) (O.mv (Opd.c (AV.str []))), C.ret]
              []]],
    C.op none (some 26) (O.mv (Opd.t 0)), C.op none (some 27) (O.nck (Opd.t 26)),
    C.op none (some 28) (O.fad 0 (Opd.t 27)), C.op none (some 29) (O.ld CK.str (Opd.t 28)),
    C.op none (some 30) (O.mv (Opd.t 1)), C.op none (some 31) (O.ssl (Opd.t 29) none (some (Opd.t 30))),
    C.op none (some 5) (O.mv (Opd.t 31)), C.op none (some 32) (O.mv (Opd.t 0)), C.op none (some 33) (O.mv (Opd.t 0)),
    C.op none (some 34) (O.nck (Opd.t 33)), C.op none (some 35) (O.fad 0 (Opd.t 34)),
    C.op none (some 36) (O.ld CK.str (Opd.t 35)), C.op none (some 37) (O.mv (Opd.t 1)),
    C.op none (some 38) (O.ssl (Opd.t 36) (some (Opd.t 37)) none), C.op none (some 39) (O.nck (Opd.t 32)),
    C.op none (some 40) (O.fad 0 (Opd.t 39)), C.op none none (O.st 1 (Opd.t 40) (Opd.t 38)),
    C.op none (some 41) (O.mv (Opd.t 5)), C.op none (some 4) (O.mv (Opd.t 41)), C.ret]
def r75 : List RV := [RV.t 4]
theorem c75_ok : cC Try.prog Try.f75.ntmps (Try.f75.body.getD .skip) = some c75 := by kernel_rfl

def d76_0 : List It :=
  [(none, some 20, O.fad 0 (Opd.t 2), []), (none, some 21, O.ld CK.str (Opd.t 20), [0]),
        (none, some 22, O.mv (Opd.t 1), []), (none, some 23, O.ssl (Opd.t 21) (some (Opd.t 22)) none, [1, 2]),
        (none, some 24,
          O.build [AV.str [], AV.int IntKind.i64 0]
            [(0, 1, Opd.t 23), (1, 1, Opd.c (AV.int IntKind.i64 0))],
          [3]),
        (none, some 25, O.fad 0 (Opd.t 2), []), (none, some 26, O.ld CK.str (Opd.t 25), [5]),
        (none, some 27, O.mv (Opd.t 1), []), (none, some 28, O.ssl (Opd.t 26) none (some (Opd.t 27)), [6, 7]),
        (none, none, O.st 2 (Opd.t 4) (Opd.t 24), [4, 0, 1, 2, 3, 4]),
        (none, some 5, O.mv (Opd.t 28), [8, 9, 0, 1, 2, 3, 4, 5, 6, 7, 8, 9])]
def o76_0 : List (Nat × Bool) := [(0, false), (1, false), (2, false), (3, false), (4, false), (5, false), (6, false), (7, false), (8, false), (9, true), (10, false)]
def l76_0 : List (Nat × Bool × It) :=
  [(0, false, (none, some 20, O.fad 0 (Opd.t 2), [])),
   (1, false, (none, some 21, O.ld CK.str (Opd.t 20), [0])),
   (2, false, (none, some 22, O.mv (Opd.t 1), [])),
   (3, false, (none, some 23, O.ssl (Opd.t 21) (some (Opd.t 22)) none, [1, 2])),
   (4, false, (none, some 24,
          O.build [AV.str [], AV.int IntKind.i64 0]
            [(0, 1, Opd.t 23), (1, 1, Opd.c (AV.int IntKind.i64 0))],
          [3])),
   (5, false, (none, some 25, O.fad 0 (Opd.t 2), [])),
   (6, false, (none, some 26, O.ld CK.str (Opd.t 25), [5])),
   (7, false, (none, some 27, O.mv (Opd.t 1), [])),
   (8, false, (none, some 28, O.ssl (Opd.t 26) none (some (Opd.t 27)), [6, 7])),
   (9, true, (none, none, O.st 2 (Opd.t 4) (Opd.t 24), [4, 0, 1, 2, 3, 4])),
   (10, false, (none, some 5, O.mv (Opd.t 28), [8, 9, 0, 1, 2, 3, 4, 5, 6, 7, 8, 9]))]
theorem l76_0_ok : okDraw d76_0 o76_0 = true ∧ mkL d76_0 o76_0 = some l76_0 := ⟨by kernel_rfl, by kernel_rfl⟩

def c76 : List C :=
  [C.op none (some 2) (O.box (Opd.t 0)), C.op none (some 4) (O.alloc [AV.str [], AV.int IntKind.i64 0]),
    C.op none (some 5) (O.mv (Opd.c (AV.str []))), C.op none (some 6) (O.fad 1 (Opd.t 2)),
    C.op none (some 7) (O.ld (CK.int IntKind.i64) (Opd.t 6)),
    C.op none (some 8) (O.bin BinOp.neq (Opd.t 7) (Opd.c (AV.int IntKind.i64 0))),
    C.op none (some 9) (O.mv (Opd.t 8)), C.op (some (9, false)) (some 10) (O.mv (Opd.t 1)),
    C.op (some (9, false)) (some 11) (O.bin BinOp.leq (Opd.t 10) (Opd.c (AV.int IntKind.i64 0))),
    C.op none (some 12) (O.pick (Opd.t 9) (Opd.c (AV.bool true)) (Opd.t 11)),
    C.cond (Opd.t 12)
      [C.op none (some 13) (O.ldn [CK.str, CK.int IntKind.i64] (Opd.t 2)), C.op none none (O.st 2 (Opd.t 4) (Opd.t 13)),
        C.op none (some 5) (O.mv (Opd.c (AV.str []))), C.ret]
      [],
    C.op none (some 14) (O.mv (Opd.t 1)), C.op none (some 15) (O.fad 0 (Opd.t 2)),
    C.op none (some 16) (O.ld CK.str (Opd.t 15)), C.op none (some 17) (O.len true (Opd.t 16)),
    C.op none (some 18) (O.bin BinOp.gtr (Opd.t 14) (Opd.t 17)),
    C.cond (Opd.t 18)
      [C.op none (some 19)
          (O.build [AV.str [], AV.int IntKind.i64 0]
            [(0, 1, Opd.c (AV.str [])), (1, 1, Opd.c (AV.int IntKind.i64 1))]),
        C.op none none (O.st 2 (Opd.t 4) (Opd.t 19)), C.op none (some 5) (O.mv (Opd.c (AV.str []))), C.ret]
      [],
    C.draw d76_0,
    C.ret]
def r76 : List RV := [RV.cn 4 2, RV.t 5]
theorem c76_ok : cC Try.prog Try.f76.ntmps (Try.f76.body.getD .skip) = some c76 := by kernel_rfl

def c77 : List C :=
  [C.op none (some 2) (O.mv (Opd.c (AV.int IntKind.u64 0))),
    C.op none (some 3) (O.mv (Opd.c (AV.int IntKind.u64 1))),
    C.op none (some 4) (O.mv (Opd.c (AV.int IntKind.i64 0))),
    C.blk 0
      [C.loop
          [C.op none (some 5) (O.mv (Opd.t 4)), C.op none (some 6) (O.mv (Opd.t 0)),
            C.op none (some 7) (O.bin BinOp.lss (Opd.t 5) (Opd.t 6)), C.cond (Opd.t 7) [] [C.exit 0],
            C.blk 1
              [C.op none (some 10) (O.mv (Opd.t 3)),
                C.op none (some 11) (O.bin BinOp.mul (Opd.t 10) (Opd.c (AV.int IntKind.u64 128))),
                C.op none (some 3) (O.mv (Opd.t 11))],
            C.op none (some 8) (O.mv (Opd.t 4)),
            C.op none (some 9) (O.bin BinOp.add (Opd.t 8) (Opd.c (AV.int IntKind.i64 1))),
            C.op none (some 4) (O.mv (Opd.t 9))]],
    C.op none (some 12) (O.mv (Opd.t 3)), C.op none (some 2) (O.mv (Opd.t 12)), C.ret]
def r77 : List RV := [RV.t 2]
theorem c77_ok : cC Try.prog Try.f77.ntmps (Try.f77.body.getD .skip) = some c77 := by kernel_rfl

def c93 : List C :=
  []
def r93 : List RV := []
theorem c93_ok : cC Try.prog Try.f93.ntmps (Try.f93.body.getD .skip) = some c93 := by kernel_rfl

end Go.AEX
