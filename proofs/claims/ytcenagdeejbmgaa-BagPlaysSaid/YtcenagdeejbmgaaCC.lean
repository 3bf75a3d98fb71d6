/- Compact codes, printed by gen.py from the given form; each is checked by its theorem. -/
import Derived.Test.YtcenagdeejbmgaaAEzh
import Derived.Test.YtcenagdeejbmgaaProg
import Derived.KernelRfl
namespace Go.AEX
open Go Go.AE Go.Proofs
set_option maxRecDepth 100000

def d4_0 : List It :=
  [(none, some 45, O.ldn [CK.int IntKind.i64, CK.int IntKind.i64] (Opd.t 11), []),
                    (none, some 46, O.mv (Opd.t 8), []),
                    (none, some 47, O.ldn [CK.int IntKind.i64, CK.int IntKind.i64] (Opd.t 9), []),
                    (none, some 48, O.call 22 [Opd.t 46, Opd.t 47], [1, 2]),
                    (none, some 49, O.eqa true [CK.int IntKind.i64, CK.int IntKind.i64] (Opd.t 45) (Opd.t 48), [0, 3]),
                    (none, some 50, O.mv (Opd.t 49), [4, 3]), (some (50, false), some 51, O.call 23 [Opd.t 7], [5, 5]),
                    (some (50, false), some 52, O.mv (Opd.t 8), [5]),
                    (some (50, false), some 53, O.call 24 [Opd.t 52], [7, 6, 5]),
                    (some (50, false), some 54, O.bin BinOp.neq (Opd.t 51) (Opd.t 53), [6, 8, 5]),
                    (none, some 55, O.pick (Opd.t 50) (Opd.c (AV.bool true)) (Opd.t 54), [5, 9]),
                    (none, some 56, O.mv (Opd.t 55), [10, 8]),
                    (some (56, false), some 57, O.call 25 [Opd.t 7], [11, 11]),
                    (some (56, false), some 58, O.mv (Opd.t 8), [11]),
                    (some (56, false), some 59, O.call 26 [Opd.t 58], [13, 12, 11]),
                    (some (56, false), some 60, O.bin BinOp.neq (Opd.t 57) (Opd.t 59), [12, 14, 11]),
                    (none, some 61, O.pick (Opd.t 56) (Opd.c (AV.bool true)) (Opd.t 60), [11, 15]),
                    (none, some 62, O.mv (Opd.t 61), [16, 14]),
                    (some (62, false), some 63, O.call 27 [Opd.t 7], [17, 17]),
                    (some (62, false), some 64, O.mv (Opd.t 10), [17]),
                    (some (62, false), some 65, O.bin BinOp.add (Opd.t 64) (Opd.c (AV.int IntKind.i64 1)),
                      [19, 17]),
                    (some (62, false), some 66, O.mn [Opd.t 65, Opd.c (AV.int IntKind.i64 8)], [20, 17]),
                    (some (62, false), some 67, O.bin BinOp.neq (Opd.t 63) (Opd.t 66), [18, 21, 17]),
                    (none, some 68, O.pick (Opd.t 62) (Opd.c (AV.bool true)) (Opd.t 67), [17, 22])]
def o4_0 : List (Nat × Bool) := [(0, false), (1, false), (2, false), (3, true), (4, false), (5, false), (7, false), (6, true), (8, true), (9, false), (10, false), (11, false), (13, false), (12, true), (14, true), (15, false), (16, false), (17, false), (19, false), (20, false), (21, false), (18, true), (22, false), (23, false)]
def l4_0 : List (Nat × Bool × It) :=
  [(0, false, (none, some 45, O.ldn [CK.int IntKind.i64, CK.int IntKind.i64] (Opd.t 11), [])),
   (1, false, (none, some 46, O.mv (Opd.t 8), [])),
   (2, false, (none, some 47, O.ldn [CK.int IntKind.i64, CK.int IntKind.i64] (Opd.t 9), [])),
   (3, true, (none, some 48, O.call 22 [Opd.t 46, Opd.t 47], [1, 2])),
   (4, false, (none, some 49, O.eqa true [CK.int IntKind.i64, CK.int IntKind.i64] (Opd.t 45) (Opd.t 48), [0, 3])),
   (5, false, (none, some 50, O.mv (Opd.t 49), [4, 3])),
   (7, false, (some (50, false), some 52, O.mv (Opd.t 8), [5])),
   (6, true, (some (50, false), some 51, O.call 23 [Opd.t 7], [5, 5])),
   (8, true, (some (50, false), some 53, O.call 24 [Opd.t 52], [7, 6, 5])),
   (9, false, (some (50, false), some 54, O.bin BinOp.neq (Opd.t 51) (Opd.t 53), [6, 8, 5])),
   (10, false, (none, some 55, O.pick (Opd.t 50) (Opd.c (AV.bool true)) (Opd.t 54), [5, 9])),
   (11, false, (none, some 56, O.mv (Opd.t 55), [10, 8])),
   (13, false, (some (56, false), some 58, O.mv (Opd.t 8), [11])),
   (12, true, (some (56, false), some 57, O.call 25 [Opd.t 7], [11, 11])),
   (14, true, (some (56, false), some 59, O.call 26 [Opd.t 58], [13, 12, 11])),
   (15, false, (some (56, false), some 60, O.bin BinOp.neq (Opd.t 57) (Opd.t 59), [12, 14, 11])),
   (16, false, (none, some 61, O.pick (Opd.t 56) (Opd.c (AV.bool true)) (Opd.t 60), [11, 15])),
   (17, false, (none, some 62, O.mv (Opd.t 61), [16, 14])),
   (19, false, (some (62, false), some 64, O.mv (Opd.t 10), [17])),
   (20, false, (some (62, false), some 65, O.bin BinOp.add (Opd.t 64) (Opd.c (AV.int IntKind.i64 1)),
                      [19, 17])),
   (21, false, (some (62, false), some 66, O.mn [Opd.t 65, Opd.c (AV.int IntKind.i64 8)], [20, 17])),
   (18, true, (some (62, false), some 63, O.call 27 [Opd.t 7], [17, 17])),
   (22, false, (some (62, false), some 67, O.bin BinOp.neq (Opd.t 63) (Opd.t 66), [18, 21, 17])),
   (23, false, (none, some 68, O.pick (Opd.t 62) (Opd.c (AV.bool true)) (Opd.t 67), [17, 22]))]
theorem l4_0_ok : okDraw d4_0 o4_0 = true ∧ mkL d4_0 o4_0 = some l4_0 := ⟨by kernel_rfl, by kernel_rfl⟩

def c4 : List C :=
  [C.op none (some 6) (O.mv (Opd.c (AV.bool false))), C.op none (some 13) (O.call 18 []),
    C.op none (some 14) (O.un UnOp.not (Opd.t 13)),
    C.cond (Opd.t 14) [C.op none (some 6) (O.mv (Opd.c (AV.bool false))), C.ret] [],
    C.op none (some 7) (O.alloc [AV.nilsl]), C.op none (some 15) (O.bsl 1 [AV.int IntKind.i64 0] 0 []),
    C.op none (some 8) (O.mv (Opd.t 15)), C.op none (some 16) (O.mv (Opd.t 0)), C.op none (some 17) (O.mv (Opd.t 1)),
    C.op none (some 18) (O.call 19 [Opd.t 16, Opd.t 17]),
    C.op none (some 9) (O.alloc [AV.int IntKind.i64 0, AV.int IntKind.i64 0]),
    C.op none none (O.st 2 (Opd.t 9) (Opd.t 18)), C.op none (some 10) (O.mv (Opd.c (AV.int IntKind.i64 0))),
    C.blk 0
      [C.loop
          [C.op none (some 19) (O.mv (Opd.t 10)), C.op none (some 20) (O.mv (Opd.t 2)),
            C.op none (some 21) (O.len false (Opd.t 20)), C.op none (some 22) (O.bin BinOp.lss (Opd.t 19) (Opd.t 21)),
            C.op none (some 23) (O.mv (Opd.t 22)), C.op (some (23, true)) (some 24) (O.mv (Opd.t 10)),
            C.op (some (23, true)) (some 25) (O.bin BinOp.lss (Opd.t 24) (Opd.c (AV.int IntKind.i64 60))),
            C.op none (some 26) (O.pick (Opd.t 23) (Opd.t 25) (Opd.c (AV.bool false))), C.cond (Opd.t 26) [] [C.exit 0],
            C.blk 1
              [C.op none (some 29) (O.mv (Opd.t 2)), C.op none (some 30) (O.mv (Opd.t 10)),
                C.op none (some 31) (O.iad 1 (Opd.t 29) (Opd.t 30)),
                C.op none (some 32) (O.ld (CK.int IntKind.i64) (Opd.t 31)),
                C.op none (some 33) (O.bsl 1 [AV.int IntKind.i64 0] 1 [(0, Opd.t 32)]),
                C.op none (some 34) (O.call 20 [Opd.t 7, Opd.t 33]), C.op none (some 35) (O.mv (Opd.t 8)),
                C.op none (some 36) (O.mv (Opd.t 2)), C.op none (some 37) (O.mv (Opd.t 10)),
                C.op none (some 38) (O.iad 1 (Opd.t 36) (Opd.t 37)),
                C.op none (some 39) (O.ld (CK.int IntKind.i64) (Opd.t 38)),
                C.op none (some 40) (O.mx [Opd.t 39, Opd.c (AV.int IntKind.i64 0)]),
                C.op none (some 41) (O.bsl 1 [AV.int IntKind.i64 0] 1 [(0, Opd.t 40)]),
                C.op none (some 42) (O.app 1 (Opd.t 35) (Opd.t 41)), C.op none (some 8) (O.mv (Opd.t 42)),
                C.op none (some 43) (O.ldn [CK.int IntKind.i64, CK.int IntKind.i64] (Opd.t 9)),
                C.op none (some 44) (O.call 21 [Opd.t 7, Opd.t 43]),
                C.op none (some 11) (O.alloc [AV.int IntKind.i64 0, AV.int IntKind.i64 0]),
                C.op none none (O.st 2 (Opd.t 11) (Opd.t 44)),
                C.draw d4_0,
                C.cond (Opd.t 68) [C.op none (some 6) (O.mv (Opd.c (AV.bool false))), C.ret] [],
                C.op none (some 69) (O.ldn [CK.int IntKind.i64, CK.int IntKind.i64] (Opd.t 11)),
                C.op none (some 70) (O.call 28 [Opd.t 69]),
                C.op none (some 71) (O.bin BinOp.neq (Opd.t 70) (Opd.c (AV.int IntKind.i64 0))),
                C.op none (some 72) (O.mv (Opd.t 71)), C.op (some (72, false)) (some 73) (O.fad 0 (Opd.t 11)),
                C.op (some (72, false)) (some 74) (O.ld (CK.int IntKind.i64) (Opd.t 73)),
                C.op (some (72, false)) (some 75) (O.fad 0 (Opd.t 9)),
                C.op (some (72, false)) (some 76) (O.ld (CK.int IntKind.i64) (Opd.t 75)),
                C.op (some (72, false)) (some 77) (O.bin BinOp.sub (Opd.t 74) (Opd.t 76)),
                C.op (some (72, false)) (some 78)
                  (O.bin BinOp.lss (Opd.t 77) (Opd.c (AV.int IntKind.i64 0))),
                C.op none (some 79) (O.pick (Opd.t 72) (Opd.c (AV.bool true)) (Opd.t 78)),
                C.op none (some 80) (O.mv (Opd.t 79)), C.op (some (80, false)) (some 81) (O.fad 0 (Opd.t 11)),
                C.op (some (80, false)) (some 82) (O.ld (CK.int IntKind.i64) (Opd.t 81)),
                C.op (some (80, false)) (some 83) (O.fad 0 (Opd.t 9)),
                C.op (some (80, false)) (some 84) (O.ld (CK.int IntKind.i64) (Opd.t 83)),
                C.op (some (80, false)) (some 85) (O.bin BinOp.sub (Opd.t 82) (Opd.t 84)),
                C.op (some (80, false)) (some 86)
                  (O.bin BinOp.gtr (Opd.t 85) (Opd.c (AV.int IntKind.i64 1))),
                C.op none (some 87) (O.pick (Opd.t 80) (Opd.c (AV.bool true)) (Opd.t 86)),
                C.op none (some 88) (O.mv (Opd.t 87)), C.op (some (88, false)) (some 89) (O.fad 1 (Opd.t 11)),
                C.op (some (88, false)) (some 90) (O.ld (CK.int IntKind.i64) (Opd.t 89)),
                C.op (some (88, false)) (some 91) (O.fad 1 (Opd.t 9)),
                C.op (some (88, false)) (some 92) (O.ld (CK.int IntKind.i64) (Opd.t 91)),
                C.op (some (88, false)) (some 93) (O.bin BinOp.sub (Opd.t 90) (Opd.t 92)),
                C.op (some (88, false)) (some 94)
                  (O.bin BinOp.lss (Opd.t 93) (Opd.c (AV.int IntKind.i64 (-1)))),
                C.op none (some 95) (O.pick (Opd.t 88) (Opd.c (AV.bool true)) (Opd.t 94)),
                C.op none (some 96) (O.mv (Opd.t 95)), C.op (some (96, false)) (some 97) (O.fad 1 (Opd.t 11)),
                C.op (some (96, false)) (some 98) (O.ld (CK.int IntKind.i64) (Opd.t 97)),
                C.op (some (96, false)) (some 99) (O.fad 1 (Opd.t 9)),
                C.op (some (96, false)) (some 100) (O.ld (CK.int IntKind.i64) (Opd.t 99)),
                C.op (some (96, false)) (some 101) (O.bin BinOp.sub (Opd.t 98) (Opd.t 100)),
                C.op (some (96, false)) (some 102)
                  (O.bin BinOp.gtr (Opd.t 101) (Opd.c (AV.int IntKind.i64 1))),
                C.op none (some 103) (O.pick (Opd.t 96) (Opd.c (AV.bool true)) (Opd.t 102)),
                C.op none (some 104) (O.mv (Opd.t 103)), C.op (some (104, false)) (some 105) (O.fad 0 (Opd.t 11)),
                C.op (some (104, false)) (some 106) (O.ld (CK.int IntKind.i64) (Opd.t 105)),
                C.op (some (104, false)) (some 107) (O.fad 0 (Opd.t 9)),
                C.op (some (104, false)) (some 108) (O.ld (CK.int IntKind.i64) (Opd.t 107)),
                C.op (some (104, false)) (some 109) (O.bin BinOp.neq (Opd.t 106) (Opd.t 108)),
                C.op (some (104, false)) (some 110) (O.mv (Opd.t 109)),
                C.op (some (110, true)) (some 111) (O.fad 1 (Opd.t 11)),
                C.op (some (110, true)) (some 112) (O.ld (CK.int IntKind.i64) (Opd.t 111)),
                C.op (some (110, true)) (some 113) (O.fad 1 (Opd.t 9)),
                C.op (some (110, true)) (some 114) (O.ld (CK.int IntKind.i64) (Opd.t 113)),
                C.op (some (110, true)) (some 115) (O.bin BinOp.neq (Opd.t 112) (Opd.t 114)),
                C.op (some (104, false)) (some 116) (O.pick (Opd.t 110) (Opd.t 115) (Opd.c (AV.bool false))),
                C.op none (some 117) (O.pick (Opd.t 104) (Opd.c (AV.bool true)) (Opd.t 116)),
                C.cond (Opd.t 117) [C.op none (some 6) (O.mv (Opd.c (AV.bool false))), C.ret] [],
                C.op none (some 118) (O.ldn [CK.int IntKind.i64, CK.int IntKind.i64] (Opd.t 11)),
                C.op none none (O.st 2 (Opd.t 9) (Opd.t 118))],
            C.op none (some 27) (O.mv (Opd.t 10)),
            C.op none (some 28) (O.bin BinOp.add (Opd.t 27) (Opd.c (AV.int IntKind.i64 1))),
            C.op none (some 10) (O.mv (Opd.t 28))]],
    C.op none (some 12) (O.alloc [AV.nilsl]), C.op none (some 119) (O.mv (Opd.t 2)),
    C.op none (some 120) (O.call 20 [Opd.t 12, Opd.t 119]), C.op none (some 121) (O.mv (Opd.t 2)),
    C.op none (some 122) (O.len false (Opd.t 121)),
    C.op none (some 123) (O.bin BinOp.gtr (Opd.t 122) (Opd.c (AV.int IntKind.i64 60))),
    C.op none (some 124) (O.mv (Opd.t 123)), C.op (some (124, false)) (some 125) (O.call 23 [Opd.t 12]),
    C.op (some (124, false)) (some 126) (O.call 23 [Opd.t 7]),
    C.op (some (124, false)) (some 127) (O.bin BinOp.eql (Opd.t 125) (Opd.t 126)),
    C.op (some (124, false)) (some 128) (O.mv (Opd.t 127)), C.op (some (128, true)) (some 129) (O.call 27 [Opd.t 12]),
    C.op (some (128, true)) (some 130) (O.call 27 [Opd.t 7]),
    C.op (some (128, true)) (some 131) (O.bin BinOp.eql (Opd.t 129) (Opd.t 130)),
    C.op (some (124, false)) (some 132) (O.pick (Opd.t 128) (Opd.t 131) (Opd.c (AV.bool false))),
    C.op none (some 133) (O.pick (Opd.t 124) (Opd.c (AV.bool true)) (Opd.t 132)), C.op none (some 6) (O.mv (Opd.t 133)),
    C.ret]
def r4 : List RV := [RV.t 6]
theorem c4_ok : cC Try.prog Try.f4.ntmps (Try.f4.body.getD .skip) = some c4 := by kernel_rfl

def c5 : List C :=
  [C.op none (some 4) (O.mv (Opd.c (AV.bool false))), C.op none (some 9) (O.mv (Opd.t 0)),
    C.op none (some 10) (O.mv (Opd.t 1)),
    C.op none (some 11)
      (O.build [AV.int IntKind.i64 0, AV.int IntKind.i64 0]
        [(0, 1, Opd.t 9), (1, 1, Opd.t 10)]),
    C.op none (some 5) (O.alloc [AV.int IntKind.i64 0, AV.int IntKind.i64 0]),
    C.op none none (O.st 2 (Opd.t 5) (Opd.t 11)),
    C.op none (some 13) (O.ldn [CK.int IntKind.i64, CK.int IntKind.i64] (Opd.t 5)),
    C.op none (some 14) (O.call 29 [Opd.t 13]), C.op none (some 12) (O.mv (Opd.t 14)),
    C.op none (some 15) (O.ext (Opd.t 12) 0), C.op none (some 16) (O.ext (Opd.t 12) 1),
    C.op none (some 6) (O.mv (Opd.t 15)), C.op none (some 7) (O.mv (Opd.t 16)),
    C.op none (some 17) (O.ldn [CK.int IntKind.i64, CK.int IntKind.i64] (Opd.t 5)),
    C.op none (some 18) (O.call 30 [Opd.t 17]), C.op none (some 8) (O.mv (Opd.t 18)),
    C.op none (some 19) (O.call 18 []), C.op none (some 20) (O.mv (Opd.t 19)),
    C.op (some (20, true)) (some 21) (O.ldn [CK.int IntKind.i64, CK.int IntKind.i64] (Opd.t 5)),
    C.op (some (20, true)) (some 22) (O.call 28 [Opd.t 21]),
    C.op (some (20, true)) (some 23) (O.bin BinOp.eql (Opd.t 22) (Opd.c (AV.int IntKind.i64 0))),
    C.op (some (20, true)) (some 24) (O.mv (Opd.t 8)),
    C.op (some (20, true)) (some 25) (O.eqb false (Opd.t 23) (Opd.t 24)),
    C.op none (some 26) (O.pick (Opd.t 20) (Opd.t 25) (Opd.c (AV.bool false))), C.op none (some 27) (O.mv (Opd.t 26)),
    C.op (some (27, true)) (some 28) (O.mv (Opd.t 7)),
    C.op (some (27, true)) (some 29) (O.ldn [CK.int IntKind.i64, CK.int IntKind.i64] (Opd.t 5)),
    C.op (some (27, true)) (some 30) (O.call 28 [Opd.t 29]),
    C.op (some (27, true)) (some 31) (O.bin BinOp.eql (Opd.t 28) (Opd.t 30)),
    C.op none (some 32) (O.pick (Opd.t 27) (Opd.t 31) (Opd.c (AV.bool false))), C.op none (some 33) (O.mv (Opd.t 32)),
    C.op (some (33, true)) (some 34) (O.mv (Opd.t 6)),
    C.op (some (33, true)) (some 35) (O.eqp 0 true (Opd.t 34) (Opd.c AV.nilptr)),
    C.op (some (33, true)) (some 36) (O.mv (Opd.t 8)),
    C.op (some (33, true)) (some 37) (O.eqb false (Opd.t 35) (Opd.t 36)),
    C.op none (some 38) (O.pick (Opd.t 33) (Opd.t 37) (Opd.c (AV.bool false))), C.op none (some 39) (O.mv (Opd.t 38)),
    C.op (some (39, true)) (some 40) (O.mv (Opd.t 8)), C.op (some (39, true)) (some 41) (O.mv (Opd.t 40)),
    C.op (some (41, false)) (some 42) (O.mv (Opd.t 7)),
    C.op (some (41, false)) (some 43) (O.bin BinOp.eql (Opd.t 42) (Opd.c (AV.int IntKind.i64 4))),
    C.op (some (39, true)) (some 44) (O.pick (Opd.t 41) (Opd.c (AV.bool true)) (Opd.t 43)),
    C.op none (some 45) (O.pick (Opd.t 39) (Opd.t 44) (Opd.c (AV.bool false))), C.op none (some 4) (O.mv (Opd.t 45)),
    C.ret]
def r5 : List RV := [RV.t 4]
theorem c5_ok : cC Try.prog Try.f5.ntmps (Try.f5.body.getD .skip) = some c5 := by kernel_rfl

def d6_0 : List It :=
  [(none, some 35, O.ldn [CK.int IntKind.i64, CK.int IntKind.i64] (Opd.t 8), []),
        (none, some 36, O.call 21 [Opd.t 7, Opd.t 35], [0]),
        (none, some 37, O.ldn [CK.int IntKind.i64, CK.int IntKind.i64] (Opd.t 8), []),
        (none, some 38, O.eqa false [CK.int IntKind.i64, CK.int IntKind.i64] (Opd.t 36) (Opd.t 37), [1, 2]),
        (none, some 39, O.mv (Opd.t 38), [3, 1]),
        (some (39, true), some 40, O.ldn [CK.int IntKind.i64, CK.int IntKind.i64] (Opd.t 8), [4]),
        (some (39, true), some 41, O.call 28 [Opd.t 40], [5, 4, 4]),
        (some (39, true), some 42, O.bin BinOp.eql (Opd.t 41) (Opd.c (AV.int IntKind.i64 0)), [6, 4]),
        (none, some 43, O.pick (Opd.t 39) (Opd.t 42) (Opd.c (AV.bool false)), [4, 7]),
        (none, some 44, O.mv (Opd.t 43), [8, 6]), (some (44, true), some 45, O.mv (Opd.t 9), [9]),
        (some (44, true), some 46, O.mv (Opd.t 45), [10, 9, 9]),
        (some (46, false), some 47, O.ldn [CK.int IntKind.i64, CK.int IntKind.i64] (Opd.t 8), [11]),
        (some (46, false), some 48,
          O.build [AV.int IntKind.i64 0, AV.int IntKind.i64 0]
            [(0, 1, Opd.c (AV.int IntKind.i64 64)), (1, 1, Opd.c (AV.int IntKind.i64 6))],
          [11]),
        (some (46, false), some 49, O.eqa false [CK.int IntKind.i64, CK.int IntKind.i64] (Opd.t 47) (Opd.t 48),
          [12, 13, 11]),
        (some (44, true), some 50, O.pick (Opd.t 46) (Opd.c (AV.bool true)) (Opd.t 49), [11, 14, 9]),
        (none, some 51, O.pick (Opd.t 44) (Opd.t 50) (Opd.c (AV.bool false)), [9, 15]),
        (none, some 6, O.mv (Opd.t 51), [16, 11, 0, 1, 2, 3, 4, 5, 6, 7, 8, 9, 10, 11, 12, 13, 14, 15, 16])]
def o6_0 : List (Nat × Bool) := [(0, false), (2, false), (1, true), (3, false), (4, false), (5, false), (6, true), (7, false), (8, false), (9, false), (10, false), (11, false), (12, false), (13, false), (14, false), (15, false), (16, false), (17, false)]
def l6_0 : List (Nat × Bool × It) :=
  [(0, false, (none, some 35, O.ldn [CK.int IntKind.i64, CK.int IntKind.i64] (Opd.t 8), [])),
   (2, false, (none, some 37, O.ldn [CK.int IntKind.i64, CK.int IntKind.i64] (Opd.t 8), [])),
   (1, true, (none, some 36, O.call 21 [Opd.t 7, Opd.t 35], [0])),
   (3, false, (none, some 38, O.eqa false [CK.int IntKind.i64, CK.int IntKind.i64] (Opd.t 36) (Opd.t 37), [1, 2])),
   (4, false, (none, some 39, O.mv (Opd.t 38), [3, 1])),
   (5, false, (some (39, true), some 40, O.ldn [CK.int IntKind.i64, CK.int IntKind.i64] (Opd.t 8), [4])),
   (6, true, (some (39, true), some 41, O.call 28 [Opd.t 40], [5, 4, 4])),
   (7, false, (some (39, true), some 42, O.bin BinOp.eql (Opd.t 41) (Opd.c (AV.int IntKind.i64 0)), [6, 4])),
   (8, false, (none, some 43, O.pick (Opd.t 39) (Opd.t 42) (Opd.c (AV.bool false)), [4, 7])),
   (9, false, (none, some 44, O.mv (Opd.t 43), [8, 6])),
   (10, false, (some (44, true), some 45, O.mv (Opd.t 9), [9])),
   (11, false, (some (44, true), some 46, O.mv (Opd.t 45), [10, 9, 9])),
   (12, false, (some (46, false), some 47, O.ldn [CK.int IntKind.i64, CK.int IntKind.i64] (Opd.t 8), [11])),
   (13, false, (some (46, false), some 48,
          O.build [AV.int IntKind.i64 0, AV.int IntKind.i64 0]
            [(0, 1, Opd.c (AV.int IntKind.i64 64)), (1, 1, Opd.c (AV.int IntKind.i64 6))],
          [11])),
   (14, false, (some (46, false), some 49, O.eqa false [CK.int IntKind.i64, CK.int IntKind.i64] (Opd.t 47) (Opd.t 48),
          [12, 13, 11])),
   (15, false, (some (44, true), some 50, O.pick (Opd.t 46) (Opd.c (AV.bool true)) (Opd.t 49), [11, 14, 9])),
   (16, false, (none, some 51, O.pick (Opd.t 44) (Opd.t 50) (Opd.c (AV.bool false)), [9, 15])),
   (17, false, (none, some 6, O.mv (Opd.t 51), [16, 11, 0, 1, 2, 3, 4, 5, 6, 7, 8, 9, 10, 11, 12, 13, 14, 15, 16]))]
theorem l6_0_ok : okDraw d6_0 o6_0 = true ∧ mkL d6_0 o6_0 = some l6_0 := ⟨by kernel_rfl, by kernel_rfl⟩

def c6 : List C :=
  [C.op none (some 6) (O.mv (Opd.c (AV.bool false))), C.op none (some 10) (O.call 18 []),
    C.op none (some 11) (O.un UnOp.not (Opd.t 10)),
    C.cond (Opd.t 11) [C.op none (some 6) (O.mv (Opd.c (AV.bool false))), C.ret] [],
    C.op none (some 12) (O.mv (Opd.t 2)),
    C.op none (some 13) (O.bin BinOp.and (Opd.t 12) (Opd.c (AV.int IntKind.i64 1023))),
    C.op none (some 2) (O.mv (Opd.t 13)), C.op none (some 7) (O.alloc [AV.nilsl]),
    C.op none (some 14) (O.mv (Opd.c (AV.int IntKind.i64 0))),
    C.blk 0
      [C.loop
          [C.op none (some 15) (O.bin BinOp.lss (Opd.t 14) (Opd.c (AV.int IntKind.i64 8))),
            C.cond (Opd.t 15) [] [C.exit 0],
            C.blk 1
              [C.op none (some 16) (O.mv (Opd.t 2)),
                C.op none (some 17) (O.bsl 1 [AV.int IntKind.i64 0] 1 [(0, Opd.t 16)]),
                C.op none (some 18) (O.call 20 [Opd.t 7, Opd.t 17])],
            C.op none (some 19) (O.bin BinOp.add (Opd.t 14) (Opd.c (AV.int IntKind.i64 1))),
            C.op none (some 14) (O.mv (Opd.t 19))]],
    C.op none (some 20) (O.mv (Opd.t 0)), C.op none (some 21) (O.mv (Opd.t 1)),
    C.op none (some 22) (O.call 19 [Opd.t 20, Opd.t 21]),
    C.op none (some 8) (O.alloc [AV.int IntKind.i64 0, AV.int IntKind.i64 0]),
    C.op none none (O.st 2 (Opd.t 8) (Opd.t 22)), C.op none (some 23) (O.mv (Opd.c (AV.int IntKind.i64 0))),
    C.blk 2
      [C.loop
          [C.op none (some 24) (O.bin BinOp.lss (Opd.t 23) (Opd.c (AV.int IntKind.i64 200))),
            C.cond (Opd.t 24) [] [C.exit 2],
            C.blk 3
              [C.op none (some 25) (O.ldn [CK.int IntKind.i64, CK.int IntKind.i64] (Opd.t 8)),
                C.op none (some 26) (O.call 21 [Opd.t 7, Opd.t 25]), C.op none none (O.st 2 (Opd.t 8) (Opd.t 26))],
            C.op none (some 27) (O.bin BinOp.add (Opd.t 23) (Opd.c (AV.int IntKind.i64 1))),
            C.op none (some 23) (O.mv (Opd.t 27))]],
    C.op none (some 28) (O.fad 0 (Opd.t 8)), C.op none (some 29) (O.ld (CK.int IntKind.i64) (Opd.t 28)),
    C.op none (some 30) (O.fad 1 (Opd.t 8)), C.op none (some 31) (O.ld (CK.int IntKind.i64) (Opd.t 30)),
    C.op none (some 32) (O.bin BinOp.mul (Opd.t 29) (Opd.t 31)), C.op none (some 33) (O.mv (Opd.t 2)),
    C.op none (some 34) (O.bin BinOp.geq (Opd.t 32) (Opd.t 33)), C.op none (some 9) (O.mv (Opd.t 34)),
    C.draw d6_0,
    C.ret]
def r6 : List RV := [RV.t 6]
theorem c6_ok : cC Try.prog Try.f6.ntmps (Try.f6.body.getD .skip) = some c6 := by kernel_rfl

def d7_0 : List It :=
  [(none, some 44, O.call 23 [Opd.t 9], []), (none, some 45, O.call 23 [Opd.t 10], [0]),
        (none, some 46, O.bin BinOp.eql (Opd.t 44) (Opd.t 45), [0, 1]), (none, some 47, O.mv (Opd.t 46), [2, 1]),
        (some (47, true), some 48, O.call 25 [Opd.t 9], [3, 3]),
        (some (47, true), some 49, O.call 25 [Opd.t 10], [4, 3]),
        (some (47, true), some 50, O.bin BinOp.eql (Opd.t 48) (Opd.t 49), [4, 5, 3]),
        (none, some 51, O.pick (Opd.t 47) (Opd.t 50) (Opd.c (AV.bool false)), [3, 6]),
        (none, some 52, O.mv (Opd.t 51), [7, 5]), (some (52, true), some 53, O.call 27 [Opd.t 9], [8, 8]),
        (some (52, true), some 54, O.call 27 [Opd.t 10], [9, 8]),
        (some (52, true), some 55, O.bin BinOp.eql (Opd.t 53) (Opd.t 54), [9, 10, 8]),
        (none, some 56, O.pick (Opd.t 52) (Opd.t 55) (Opd.c (AV.bool false)), [8, 11]),
        (none, some 57, O.mv (Opd.t 56), [12, 10]),
        (some (57, true), some 58, O.ldn [CK.int IntKind.i64, CK.int IntKind.i64] (Opd.t 11), [13]),
        (some (57, true), some 59, O.call 21 [Opd.t 9, Opd.t 58], [14, 13, 13]),
        (some (57, true), some 60, O.ldn [CK.int IntKind.i64, CK.int IntKind.i64] (Opd.t 11), [13]),
        (some (57, true), some 61, O.call 21 [Opd.t 10, Opd.t 60], [16, 15, 13]),
        (some (57, true), some 62, O.eqa false [CK.int IntKind.i64, CK.int IntKind.i64] (Opd.t 59) (Opd.t 61),
          [15, 17, 13]),
        (none, some 63, O.pick (Opd.t 57) (Opd.t 62) (Opd.c (AV.bool false)), [13, 18]),
        (none, some 8, O.mv (Opd.t 63),
          [19, 17, 0, 1, 2, 3, 4, 5, 6, 7, 8, 9, 10, 11, 12, 13, 14, 15, 16, 17, 18, 19])]
def o7_0 : List (Nat × Bool) := [(0, true), (1, true), (2, false), (3, false), (4, true), (5, true), (6, false), (7, false), (8, false), (9, true), (10, true), (11, false), (12, false), (13, false), (14, false), (16, false), (15, true), (17, true), (18, false), (19, false), (20, false)]
def l7_0 : List (Nat × Bool × It) :=
  [(0, true, (none, some 44, O.call 23 [Opd.t 9], [])),
   (1, true, (none, some 45, O.call 23 [Opd.t 10], [0])),
   (2, false, (none, some 46, O.bin BinOp.eql (Opd.t 44) (Opd.t 45), [0, 1])),
   (3, false, (none, some 47, O.mv (Opd.t 46), [2, 1])),
   (4, true, (some (47, true), some 48, O.call 25 [Opd.t 9], [3, 3])),
   (5, true, (some (47, true), some 49, O.call 25 [Opd.t 10], [4, 3])),
   (6, false, (some (47, true), some 50, O.bin BinOp.eql (Opd.t 48) (Opd.t 49), [4, 5, 3])),
   (7, false, (none, some 51, O.pick (Opd.t 47) (Opd.t 50) (Opd.c (AV.bool false)), [3, 6])),
   (8, false, (none, some 52, O.mv (Opd.t 51), [7, 5])),
   (9, true, (some (52, true), some 53, O.call 27 [Opd.t 9], [8, 8])),
   (10, true, (some (52, true), some 54, O.call 27 [Opd.t 10], [9, 8])),
   (11, false, (some (52, true), some 55, O.bin BinOp.eql (Opd.t 53) (Opd.t 54), [9, 10, 8])),
   (12, false, (none, some 56, O.pick (Opd.t 52) (Opd.t 55) (Opd.c (AV.bool false)), [8, 11])),
   (13, false, (none, some 57, O.mv (Opd.t 56), [12, 10])),
   (14, false, (some (57, true), some 58, O.ldn [CK.int IntKind.i64, CK.int IntKind.i64] (Opd.t 11), [13])),
   (16, false, (some (57, true), some 60, O.ldn [CK.int IntKind.i64, CK.int IntKind.i64] (Opd.t 11), [13])),
   (15, true, (some (57, true), some 59, O.call 21 [Opd.t 9, Opd.t 58], [14, 13, 13])),
   (17, true, (some (57, true), some 61, O.call 21 [Opd.t 10, Opd.t 60], [16, 15, 13])),
   (18, false, (some (57, true), some 62, O.eqa false [CK.int IntKind.i64, CK.int IntKind.i64] (Opd.t 59) (Opd.t 61),
          [15, 17, 13])),
   (19, false, (none, some 63, O.pick (Opd.t 57) (Opd.t 62) (Opd.c (AV.bool false)), [13, 18])),
   (20, false, (none, some 8, O.mv (Opd.t 63),
          [19, 17, 0, 1, 2, 3, 4, 5, 6, 7, 8, 9, 10, 11, 12, 13, 14, 15, 16, 17, 18, 19]))]
theorem l7_0_ok : okDraw d7_0 o7_0 = true ∧ mkL d7_0 o7_0 = some l7_0 := ⟨by kernel_rfl, by kernel_rfl⟩

def c7 : List C :=
  [C.op none (some 8) (O.mv (Opd.c (AV.bool false))), C.op none (some 12) (O.call 18 []),
    C.op none (some 13) (O.un UnOp.not (Opd.t 12)),
    C.cond (Opd.t 13) [C.op none (some 8) (O.mv (Opd.c (AV.bool false))), C.ret] [],
    C.op none (some 14) (O.mv (Opd.t 0)), C.op none (some 15) (O.len false (Opd.t 14)),
    C.op none (some 16) (O.bin BinOp.gtr (Opd.t 15) (Opd.c (AV.int IntKind.i64 30))),
    C.cond (Opd.t 16)
      [C.op none (some 17) (O.mv (Opd.t 0)),
        C.op none (some 18) (O.lsl 1 (Opd.t 17) none (some (Opd.c (AV.int IntKind.i64 30))) none),
        C.op none (some 0) (O.mv (Opd.t 18))]
      [],
    C.op none (some 19) (O.mv (Opd.t 1)), C.op none (some 20) (O.len false (Opd.t 19)),
    C.op none (some 21) (O.bin BinOp.gtr (Opd.t 20) (Opd.c (AV.int IntKind.i64 30))),
    C.cond (Opd.t 21)
      [C.op none (some 22) (O.mv (Opd.t 1)),
        C.op none (some 23) (O.lsl 1 (Opd.t 22) none (some (Opd.c (AV.int IntKind.i64 30))) none),
        C.op none (some 1) (O.mv (Opd.t 23))]
      [],
    C.op none (some 9) (O.alloc [AV.nilsl]), C.op none (some 10) (O.alloc [AV.nilsl]),
    C.op none (some 24) (O.mv (Opd.t 0)), C.op none (some 25) (O.call 20 [Opd.t 9, Opd.t 24]),
    C.op none (some 26) (O.mv (Opd.t 1)), C.op none (some 27) (O.call 20 [Opd.t 9, Opd.t 26]),
    C.op none (some 28) (O.mv (Opd.t 1)), C.op none (some 29) (O.call 20 [Opd.t 10, Opd.t 28]),
    C.op none (some 30) (O.mv (Opd.t 1)), C.op none (some 31) (O.len false (Opd.t 30)),
    C.op none (some 32) (O.bin BinOp.lss (Opd.t 31) (Opd.c (AV.int IntKind.i64 8))),
    C.cond (Opd.t 32)
      [C.op none (some 33) (O.call 27 [Opd.t 9]), C.op none (some 34) (O.mv (Opd.t 0)),
        C.op none (some 35) (O.len false (Opd.t 34)), C.op none (some 36) (O.mv (Opd.t 1)),
        C.op none (some 37) (O.len false (Opd.t 36)), C.op none (some 38) (O.bin BinOp.add (Opd.t 35) (Opd.t 37)),
        C.op none (some 39) (O.mn [Opd.t 38, Opd.c (AV.int IntKind.i64 8)]),
        C.op none (some 40) (O.bin BinOp.eql (Opd.t 33) (Opd.t 39)), C.op none (some 8) (O.mv (Opd.t 40)), C.ret]
      [],
    C.op none (some 41) (O.mv (Opd.t 2)), C.op none (some 42) (O.mv (Opd.t 3)),
    C.op none (some 43) (O.call 19 [Opd.t 41, Opd.t 42]),
    C.op none (some 11) (O.alloc [AV.int IntKind.i64 0, AV.int IntKind.i64 0]),
    C.op none none (O.st 2 (Opd.t 11) (Opd.t 43)),
    C.draw d7_0,
    C.ret]
def r7 : List RV := [RV.t 8]
theorem c7_ok : cC Try.prog Try.f7.ntmps (Try.f7.body.getD .skip) = some c7 := by kernel_rfl

def d8_0 : List It :=
  [(none, some 61, O.mv (Opd.t 9), []), (none, some 62, O.mv (Opd.t 9), []),
                            (none, some 63, O.len false (Opd.t 62), [1]),
                            (none, some 64, O.bin BinOp.sub (Opd.t 63) (Opd.c (AV.int IntKind.i64 1)), [2]),
                            (none, some 65, O.iad 3 (Opd.t 61) (Opd.t 64), [0, 3]),
                            (none, some 66, O.fad 0 (Opd.t 65), [4]),
                            (none, some 67, O.ld (CK.int IntKind.i64) (Opd.t 66), [5]),
                            (none, some 68, O.fad 1 (Opd.t 13), []),
                            (none, some 69, O.ld (CK.int IntKind.i64) (Opd.t 68), [7]),
                            (none, some 70, O.bin BinOp.and (Opd.t 69) (Opd.c (AV.int IntKind.i64 31)),
                              [8]),
                            (none, some 71, O.bin BinOp.add (Opd.t 67) (Opd.t 70), [6, 9]),
                            (none, some 72, O.bin BinOp.sub (Opd.t 71) (Opd.c (AV.int IntKind.i64 8)),
                              [10]),
                            (none, some 14, O.mv (Opd.t 72), [11, 0, 1, 2, 3, 4, 5, 6, 7, 8, 9, 10, 11])]
def o8_0 : List (Nat × Bool) := [(0, false), (1, false), (2, false), (3, false), (4, false), (5, false), (6, false), (7, false), (8, false), (9, false), (10, false), (11, false), (12, false)]
def l8_0 : List (Nat × Bool × It) :=
  [(0, false, (none, some 61, O.mv (Opd.t 9), [])),
   (1, false, (none, some 62, O.mv (Opd.t 9), [])),
   (2, false, (none, some 63, O.len false (Opd.t 62), [1])),
   (3, false, (none, some 64, O.bin BinOp.sub (Opd.t 63) (Opd.c (AV.int IntKind.i64 1)), [2])),
   (4, false, (none, some 65, O.iad 3 (Opd.t 61) (Opd.t 64), [0, 3])),
   (5, false, (none, some 66, O.fad 0 (Opd.t 65), [4])),
   (6, false, (none, some 67, O.ld (CK.int IntKind.i64) (Opd.t 66), [5])),
   (7, false, (none, some 68, O.fad 1 (Opd.t 13), [])),
   (8, false, (none, some 69, O.ld (CK.int IntKind.i64) (Opd.t 68), [7])),
   (9, false, (none, some 70, O.bin BinOp.and (Opd.t 69) (Opd.c (AV.int IntKind.i64 31)),
                              [8])),
   (10, false, (none, some 71, O.bin BinOp.add (Opd.t 67) (Opd.t 70), [6, 9])),
   (11, false, (none, some 72, O.bin BinOp.sub (Opd.t 71) (Opd.c (AV.int IntKind.i64 8)),
                              [10])),
   (12, false, (none, some 14, O.mv (Opd.t 72), [11, 0, 1, 2, 3, 4, 5, 6, 7, 8, 9, 10, 11]))]
theorem l8_0_ok : okDraw d8_0 o8_0 = true ∧ mkL d8_0 o8_0 = some l8_0 := ⟨by kernel_rfl, by kernel_rfl⟩

def d8_1 : List It :=
  [(none, some 129, O.mv (Opd.t 7), []), (none, some 130, O.call 35 [Opd.t 129], [0]),
                    (none, some 131, O.mv (Opd.t 9), []), (none, some 132, O.mv (Opd.t 9), []),
                    (none, some 133, O.len false (Opd.t 132), [3]),
                    (none, some 134, O.bin BinOp.sub (Opd.t 133) (Opd.c (AV.int IntKind.i64 1)), [4]),
                    (none, some 135, O.iad 3 (Opd.t 131) (Opd.t 134), [2, 5]),
                    (none, some 136, O.fad 0 (Opd.t 135), [6]),
                    (none, some 137, O.ld (CK.int IntKind.i64) (Opd.t 136), [7]),
                    (none, some 138, O.bin BinOp.neq (Opd.t 130) (Opd.t 137), [1, 8])]
def o8_1 : List (Nat × Bool) := [(0, false), (2, false), (3, false), (4, false), (5, false), (6, false), (7, false), (8, false), (1, true), (9, false)]
def l8_1 : List (Nat × Bool × It) :=
  [(0, false, (none, some 129, O.mv (Opd.t 7), [])),
   (2, false, (none, some 131, O.mv (Opd.t 9), [])),
   (3, false, (none, some 132, O.mv (Opd.t 9), [])),
   (4, false, (none, some 133, O.len false (Opd.t 132), [3])),
   (5, false, (none, some 134, O.bin BinOp.sub (Opd.t 133) (Opd.c (AV.int IntKind.i64 1)), [4])),
   (6, false, (none, some 135, O.iad 3 (Opd.t 131) (Opd.t 134), [2, 5])),
   (7, false, (none, some 136, O.fad 0 (Opd.t 135), [6])),
   (8, false, (none, some 137, O.ld (CK.int IntKind.i64) (Opd.t 136), [7])),
   (1, true, (none, some 130, O.call 35 [Opd.t 129], [0])),
   (9, false, (none, some 138, O.bin BinOp.neq (Opd.t 130) (Opd.t 137), [1, 8]))]
theorem l8_1_ok : okDraw d8_1 o8_1 = true ∧ mkL d8_1 o8_1 = some l8_1 := ⟨by kernel_rfl, by kernel_rfl⟩

def c8 : List C :=
  [C.op none (some 6) (O.mv (Opd.c (AV.bool false))), C.op none (some 26) (O.call 18 []),
    C.op none (some 27) (O.un UnOp.not (Opd.t 26)),
    C.cond (Opd.t 27) [C.op none (some 6) (O.mv (Opd.c (AV.bool false))), C.ret] [],
    C.op none (some 29) (O.mv (Opd.t 0)), C.op none (some 30) (O.mv (Opd.t 1)),
    C.op none (some 31) (O.call 19 [Opd.t 29, Opd.t 30]), C.op none (some 32) (O.call 29 [Opd.t 31]),
    C.op none (some 28) (O.mv (Opd.t 32)), C.op none (some 33) (O.ext (Opd.t 28) 0),
    C.op none (some 34) (O.ext (Opd.t 28) 1), C.op none (some 7) (O.mv (Opd.t 33)),
    C.op none (some 8) (O.mv (Opd.t 34)), C.op none (some 35) (O.mv (Opd.t 8)),
    C.op none (some 36) (O.bin BinOp.neq (Opd.t 35) (Opd.c (AV.int IntKind.i64 0))),
    C.cond (Opd.t 36) [C.op none (some 6) (O.mv (Opd.c (AV.bool false))), C.ret] [],
    C.op none (some 37) (O.mv (Opd.t 0)), C.op none (some 38) (O.mv (Opd.t 1)),
    C.op none (some 39) (O.call 19 [Opd.t 37, Opd.t 38]),
    C.op none (some 40)
      (O.build [AV.int IntKind.i64 0, AV.int IntKind.i64 0, AV.int IntKind.i64 0]
        [(1, 2, Opd.t 39)]),
    C.op none (some 41)
      (O.bsl 3 [AV.int IntKind.i64 0, AV.int IntKind.i64 0, AV.int IntKind.i64 0] 1
        [(0, Opd.t 40)]),
    C.op none (some 9) (O.mv (Opd.t 41)), C.op none (some 42) (O.mv (Opd.t 9)), C.op none (some 10) (O.mv (Opd.t 42)),
    C.op none (some 11) (O.mv (Opd.c (AV.int IntKind.i64 0))),
    C.op none (some 12) (O.mv (Opd.c (AV.int IntKind.i64 0))),
    C.blk 0
      [C.loop
          [C.op none (some 43) (O.mv (Opd.t 12)), C.op none (some 44) (O.mv (Opd.t 2)),
            C.op none (some 45) (O.len false (Opd.t 44)), C.op none (some 46) (O.bin BinOp.lss (Opd.t 43) (Opd.t 45)),
            C.op none (some 47) (O.mv (Opd.t 46)), C.op (some (47, true)) (some 48) (O.mv (Opd.t 12)),
            C.op (some (47, true)) (some 49) (O.bin BinOp.lss (Opd.t 48) (Opd.c (AV.int IntKind.i64 60))),
            C.op none (some 50) (O.pick (Opd.t 47) (Opd.t 49) (Opd.c (AV.bool false))), C.cond (Opd.t 50) [] [C.exit 0],
            C.blk 1
              [C.op none (some 53) (O.mv (Opd.t 2)), C.op none (some 54) (O.mv (Opd.t 12)),
                C.op none (some 55) (O.iad 5 (Opd.t 53) (Opd.t 54)),
                C.op none (some 56)
                  (O.ldn [CK.int IntKind.i64, CK.int IntKind.i64, CK.int IntKind.i64, CK.int IntKind.i64, CK.bool]
                    (Opd.t 55)),
                C.op none (some 13)
                  (O.alloc
                    [AV.int IntKind.i64 0, AV.int IntKind.i64 0,
                      AV.int IntKind.i64 0, AV.int IntKind.i64 0, AV.bool false]),
                C.op none none (O.st 5 (Opd.t 13) (Opd.t 56)), C.op none (some 57) (O.fad 0 (Opd.t 13)),
                C.op none (some 58) (O.ld (CK.int IntKind.i64) (Opd.t 57)),
                C.blk 2
                  [C.op none (some 60) (O.bin BinOp.eql (Opd.t 58) (Opd.c (AV.int IntKind.i64 1))),
                    C.op none (some 59) (O.mv (Opd.t 60)),
                    C.cond (Opd.t 59)
                      [C.draw d8_0,
                        C.op none (some 73) (O.fad 2 (Opd.t 13)),
                        C.op none (some 74) (O.ld (CK.int IntKind.i64) (Opd.t 73)),
                        C.op none (some 75) (O.fad 3 (Opd.t 13)),
                        C.op none (some 76) (O.ld (CK.int IntKind.i64) (Opd.t 75)),
                        C.op none (some 77) (O.call 19 [Opd.t 74, Opd.t 76]),
                        C.op none (some 15)
                          (O.alloc [AV.int IntKind.i64 0, AV.int IntKind.i64 0]),
                        C.op none none (O.st 2 (Opd.t 15) (Opd.t 77)), C.op none (some 78) (O.fad 4 (Opd.t 13)),
                        C.op none (some 79) (O.ld CK.bool (Opd.t 78)),
                        C.cond (Opd.t 79)
                          [C.op none (some 80) (O.fad 2 (Opd.t 13)),
                            C.op none (some 81) (O.ld (CK.int IntKind.i64) (Opd.t 80)),
                            C.op none (some 82) (O.fad 3 (Opd.t 13)),
                            C.op none (some 83) (O.ld (CK.int IntKind.i64) (Opd.t 82)),
                            C.op none (some 84)
                              (O.build [AV.int IntKind.i64 0, AV.int IntKind.i64 0]
                                [(0, 1, Opd.t 81), (1, 1, Opd.t 83)]),
                            C.op none none (O.st 2 (Opd.t 15) (Opd.t 84))]
                          [],
                        C.op none (some 85) (O.mv (Opd.t 7)), C.op none (some 86) (O.mv (Opd.t 14)),
                        C.op none (some 87) (O.ldn [CK.int IntKind.i64, CK.int IntKind.i64] (Opd.t 15)),
                        C.op none (some 88) (O.call 31 [Opd.t 85, Opd.t 86, Opd.t 87]),
                        C.op none (some 16) (O.mv (Opd.t 88)), C.op none (some 90) (O.mv (Opd.t 9)),
                        C.op none (some 91) (O.mv (Opd.t 14)),
                        C.op none (some 92) (O.ldn [CK.int IntKind.i64, CK.int IntKind.i64] (Opd.t 15)),
                        C.op none (some 93) (O.call 32 [Opd.t 90, Opd.t 91, Opd.t 92]),
                        C.op none (some 89) (O.mv (Opd.t 93)), C.op none (some 94) (O.ext (Opd.t 89) 0),
                        C.op none (some 95) (O.ext (Opd.t 89) 1), C.op none (some 17) (O.mv (Opd.t 94)),
                        C.op none (some 18) (O.mv (Opd.t 95)), C.op none (some 97) (O.mv (Opd.t 10)),
                        C.op none (some 98) (O.mv (Opd.t 14)),
                        C.op none (some 99) (O.ldn [CK.int IntKind.i64, CK.int IntKind.i64] (Opd.t 15)),
                        C.op none (some 100) (O.call 32 [Opd.t 97, Opd.t 98, Opd.t 99]),
                        C.op none (some 96) (O.mv (Opd.t 100)), C.op none (some 101) (O.ext (Opd.t 96) 0),
                        C.op none (some 102) (O.ext (Opd.t 96) 1), C.op none (some 19) (O.mv (Opd.t 101)),
                        C.op none (some 20) (O.mv (Opd.t 102)), C.op none (some 103) (O.mv (Opd.t 17)),
                        C.op none (some 104) (O.mv (Opd.t 19)), C.op none (some 9) (O.mv (Opd.t 103)),
                        C.op none (some 10) (O.mv (Opd.t 104)), C.op none (some 105) (O.mv (Opd.t 16)),
                        C.op none (some 106) (O.mv (Opd.t 18)),
                        C.op none (some 107) (O.bin BinOp.neq (Opd.t 105) (Opd.t 106)),
                        C.cond (Opd.t 107) [C.op none (some 6) (O.mv (Opd.c (AV.bool false))), C.ret] []]
                      [C.op none (some 109) (O.bin BinOp.eql (Opd.t 58) (Opd.c (AV.int IntKind.i64 2))),
                        C.op none (some 108) (O.mv (Opd.t 109)),
                        C.cond (Opd.t 108)
                          [C.op none (some 110) (O.fad 1 (Opd.t 13)),
                            C.op none (some 111) (O.ld (CK.int IntKind.i64) (Opd.t 110)),
                            C.op none (some 112)
                              (O.bin BinOp.and (Opd.t 111) (Opd.c (AV.int IntKind.i64 255))),
                            C.op none (some 21) (O.mv (Opd.t 112)), C.op none (some 113) (O.mv (Opd.t 11)),
                            C.op none (some 114) (O.mv (Opd.t 21)), C.op none (some 115) (O.mx [Opd.t 113, Opd.t 114]),
                            C.op none (some 11) (O.mv (Opd.t 115)), C.op none (some 116) (O.mv (Opd.t 7)),
                            C.op none (some 117) (O.mv (Opd.t 21)),
                            C.op none (some 118) (O.call 33 [Opd.t 116, Opd.t 117]),
                            C.op none (some 22) (O.mv (Opd.t 118)), C.op none (some 120) (O.mv (Opd.t 9)),
                            C.op none (some 121) (O.mv (Opd.t 21)),
                            C.op none (some 122) (O.call 34 [Opd.t 120, Opd.t 121]),
                            C.op none (some 119) (O.mv (Opd.t 122)), C.op none (some 123) (O.ext (Opd.t 119) 0),
                            C.op none (some 124) (O.ext (Opd.t 119) 1), C.op none (some 23) (O.mv (Opd.t 123)),
                            C.op none (some 24) (O.mv (Opd.t 124)), C.op none (some 125) (O.mv (Opd.t 23)),
                            C.op none (some 9) (O.mv (Opd.t 125)), C.op none (some 126) (O.mv (Opd.t 22)),
                            C.op none (some 127) (O.mv (Opd.t 24)),
                            C.op none (some 128) (O.bin BinOp.neq (Opd.t 126) (Opd.t 127)),
                            C.cond (Opd.t 128) [C.op none (some 6) (O.mv (Opd.c (AV.bool false))), C.ret] []]
                          []]],
                C.draw d8_1,
                C.cond (Opd.t 138) [C.op none (some 6) (O.mv (Opd.c (AV.bool false))), C.ret] [],
                C.op none (some 25) (O.mv (Opd.c (AV.int IntKind.i64 0))),
                C.blk 3
                  [C.loop
                      [C.op none (some 139) (O.mv (Opd.t 25)),
                        C.op none (some 140) (O.bin BinOp.lss (Opd.t 139) (Opd.c (AV.int IntKind.i64 300))),
                        C.cond (Opd.t 140) [] [C.exit 3],
                        C.blk 4
                          [C.op none (some 143) (O.mv (Opd.t 7)), C.op none (some 144) (O.mv (Opd.t 25)),
                            C.op none (some 145) (O.call 36 [Opd.t 143, Opd.t 144]),
                            C.op none (some 146) (O.mv (Opd.t 9)), C.op none (some 147) (O.mv (Opd.t 25)),
                            C.op none (some 148) (O.call 37 [Opd.t 146, Opd.t 147]),
                            C.op none (some 149)
                              (O.eqa true [CK.int IntKind.i64, CK.int IntKind.i64] (Opd.t 145) (Opd.t 148)),
                            C.op none (some 150) (O.mv (Opd.t 149)),
                            C.op (some (150, false)) (some 151) (O.mv (Opd.t 25)),
                            C.op (some (150, false)) (some 152) (O.mv (Opd.t 11)),
                            C.op (some (150, false)) (some 153) (O.bin BinOp.geq (Opd.t 151) (Opd.t 152)),
                            C.op (some (150, false)) (some 154) (O.mv (Opd.t 153)),
                            C.op (some (154, true)) (some 155) (O.mv (Opd.t 7)),
                            C.op (some (154, true)) (some 156) (O.mv (Opd.t 25)),
                            C.op (some (154, true)) (some 157) (O.call 36 [Opd.t 155, Opd.t 156]),
                            C.op (some (154, true)) (some 158) (O.mv (Opd.t 10)),
                            C.op (some (154, true)) (some 159) (O.mv (Opd.t 25)),
                            C.op (some (154, true)) (some 160) (O.call 37 [Opd.t 158, Opd.t 159]),
                            C.op (some (154, true)) (some 161)
                              (O.eqa true [CK.int IntKind.i64, CK.int IntKind.i64] (Opd.t 157) (Opd.t 160)),
                            C.op (some (150, false)) (some 162)
                              (O.pick (Opd.t 154) (Opd.t 161) (Opd.c (AV.bool false))),
                            C.op none (some 163) (O.pick (Opd.t 150) (Opd.c (AV.bool true)) (Opd.t 162)),
                            C.cond (Opd.t 163) [C.op none (some 6) (O.mv (Opd.c (AV.bool false))), C.ret] []],
                        C.op none (some 141) (O.mv (Opd.t 25)),
                        C.op none (some 142) (O.bin BinOp.add (Opd.t 141) (Opd.c (AV.int IntKind.i64 7))),
                        C.op none (some 25) (O.mv (Opd.t 142))]]],
            C.op none (some 51) (O.mv (Opd.t 12)),
            C.op none (some 52) (O.bin BinOp.add (Opd.t 51) (Opd.c (AV.int IntKind.i64 1))),
            C.op none (some 12) (O.mv (Opd.t 52))]],
    C.op none (some 6) (O.mv (Opd.c (AV.bool true))), C.ret]
def r8 : List RV := [RV.t 6]
theorem c8_ok : cC Try.prog Try.f8.ntmps (Try.f8.body.getD .skip) = some c8 := by kernel_rfl

def c9 : List C :=
  [C.op none (some 8) (O.mv (Opd.c (AV.bool false))), C.op none (some 15) (O.mv (Opd.t 0)),
    C.op none (some 16)
      (O.bin BinOp.add (Opd.t 15)
        (Opd.c (AV.str [120]))),
    C.op none (some 17) (O.call 13 [Opd.t 16, Opd.c (AV.int IntKind.i64 20)]),
    C.op none (some 0) (O.mv (Opd.t 17)), C.op none (some 18) (O.call 12 []),
    C.op none (some 19) (O.un UnOp.not (Opd.t 18)),
    C.cond (Opd.t 19) [C.op none (some 8) (O.mv (Opd.c (AV.bool false))), C.ret] [],
    C.op none (some 9) (O.alloc [AV.nilsl, AV.int IntKind.i64 0]), C.op none (some 20) (O.mv (Opd.t 0)),
    C.op none (some 21) (O.bsl 1 [AV.str []] 1 [(0, Opd.t 20)]),
    C.op none (some 22)
      (O.call 14
        [Opd.t 9, Opd.c (AV.int IntKind.i64 3), Opd.c (AV.int IntKind.i64 4), Opd.t 21]),
    C.op none (some 23) (O.mv (Opd.t 3)),
    C.op none (some 24) (O.bin BinOp.and (Opd.t 23) (Opd.c (AV.int IntKind.i64 7))),
    C.op none (some 25) (O.mv (Opd.c (AV.int IntKind.i64 0))),
    C.blk 0
      [C.loop
          [C.op none (some 26) (O.bin BinOp.lss (Opd.t 25) (Opd.t 24)), C.cond (Opd.t 26) [] [C.exit 0],
            C.blk 1
              [C.op none (some 27) (O.call 38 [Opd.t 9, Opd.c (AV.int IntKind.i64 0)]),
                C.op none (some 28) (O.bin BinOp.neq (Opd.t 27) (Opd.c (AV.int IntKind.i64 0))),
                C.cond (Opd.t 28) [C.op none (some 8) (O.mv (Opd.c (AV.bool false))), C.ret] []],
            C.op none (some 29) (O.bin BinOp.add (Opd.t 25) (Opd.c (AV.int IntKind.i64 1))),
            C.op none (some 25) (O.mv (Opd.t 29))]],
    C.op none (some 30) (O.mv (Opd.t 1)),
    C.op none (some 31) (O.bin BinOp.and (Opd.t 30) (Opd.c (AV.int IntKind.i64 255))),
    C.op none (some 32) (O.mv (Opd.t 0)), C.op none (some 33) (O.len true (Opd.t 32)),
    C.op none (some 34) (O.bin BinOp.rem (Opd.t 31) (Opd.t 33)), C.op none (some 1) (O.mv (Opd.t 34)),
    C.op none (some 35) (O.mv (Opd.t 1)), C.op none (some 36) (O.mv (Opd.t 2)),
    C.op none (some 37) (O.call 39 [Opd.t 9, Opd.c (AV.int IntKind.i64 0), Opd.t 35, Opd.t 36]),
    C.op none (some 38) (O.bin BinOp.eql (Opd.t 37) (Opd.c (AV.int IntKind.i64 0))),
    C.op none (some 39) (O.mv (Opd.t 2)),
    C.op none (some 40) (O.bin BinOp.neq (Opd.t 39) (Opd.c (AV.int IntKind.u8 0))),
    C.op none (some 41) (O.eqb true (Opd.t 38) (Opd.t 40)), C.op none (some 42) (O.mv (Opd.t 41)),
    C.op (some (42, false)) (some 43) (O.call 15 [Opd.t 9]), C.op (some (42, false)) (some 44) (O.mv (Opd.t 3)),
    C.op (some (42, false)) (some 45) (O.bin BinOp.and (Opd.t 44) (Opd.c (AV.int IntKind.i64 7))),
    C.op (some (42, false)) (some 46) (O.bin BinOp.add (Opd.c (AV.int IntKind.i64 1)) (Opd.t 45)),
    C.op (some (42, false)) (some 47) (O.bin BinOp.neq (Opd.t 43) (Opd.t 46)),
    C.op none (some 48) (O.pick (Opd.t 42) (Opd.c (AV.bool true)) (Opd.t 47)),
    C.cond (Opd.t 48) [C.op none (some 8) (O.mv (Opd.c (AV.bool false))), C.ret] [],
    C.op none (some 49) (O.mv (Opd.t 3)),
    C.op none (some 50) (O.bin BinOp.and (Opd.t 49) (Opd.c (AV.int IntKind.i64 7))),
    C.op none (some 51) (O.bin BinOp.add (Opd.c (AV.int IntKind.i64 1)) (Opd.t 50)),
    C.op none (some 52) (O.mv (Opd.c (AV.int IntKind.i64 0))),
    C.blk 2
      [C.loop
          [C.op none (some 53) (O.bin BinOp.lss (Opd.t 52) (Opd.t 51)), C.cond (Opd.t 53) [] [C.exit 2],
            C.blk 3
              [C.op none (some 54) (O.mv (Opd.t 52)), C.op none (some 10) (O.mv (Opd.t 54)),
                C.op none (some 56) (O.call 16 [Opd.t 9, Opd.c (AV.int IntKind.i64 0)]),
                C.op none (some 55) (O.mv (Opd.t 56)), C.op none (some 57) (O.ext (Opd.t 55) 0),
                C.op none (some 58) (O.ext (Opd.t 55) 1),
                C.op none (some 11)
                  (O.alloc [AV.int IntKind.i64 0, AV.int IntKind.i64 0, AV.str []]),
                C.op none none (O.st 3 (Opd.t 11) (Opd.t 57)), C.op none (some 12) (O.mv (Opd.t 58)),
                C.op none (some 59) (O.mv (Opd.t 12)),
                C.op none (some 60) (O.bin BinOp.neq (Opd.t 59) (Opd.c (AV.int IntKind.i64 0))),
                C.op none (some 61) (O.mv (Opd.t 60)), C.op (some (61, false)) (some 62) (O.fad 0 (Opd.t 11)),
                C.op (some (61, false)) (some 63) (O.ld (CK.int IntKind.i64) (Opd.t 62)),
                C.op (some (61, false)) (some 64)
                  (O.bin BinOp.neq (Opd.t 63) (Opd.c (AV.int IntKind.i64 3))),
                C.op none (some 65) (O.pick (Opd.t 61) (Opd.c (AV.bool true)) (Opd.t 64)),
                C.op none (some 66) (O.mv (Opd.t 65)), C.op (some (66, false)) (some 67) (O.fad 1 (Opd.t 11)),
                C.op (some (66, false)) (some 68) (O.ld (CK.int IntKind.i64) (Opd.t 67)),
                C.op (some (66, false)) (some 69)
                  (O.bin BinOp.neq (Opd.t 68) (Opd.c (AV.int IntKind.i64 4))),
                C.op none (some 70) (O.pick (Opd.t 66) (Opd.c (AV.bool true)) (Opd.t 69)),
                C.op none (some 71) (O.mv (Opd.t 70)), C.op (some (71, false)) (some 72) (O.fad 2 (Opd.t 11)),
                C.op (some (71, false)) (some 73) (O.ld CK.str (Opd.t 72)),
                C.op (some (71, false)) (some 74) (O.len true (Opd.t 73)),
                C.op (some (71, false)) (some 75) (O.mv (Opd.t 0)),
                C.op (some (71, false)) (some 76) (O.len true (Opd.t 75)),
                C.op (some (71, false)) (some 77) (O.bin BinOp.neq (Opd.t 74) (Opd.t 76)),
                C.op none (some 78) (O.pick (Opd.t 71) (Opd.c (AV.bool true)) (Opd.t 77)),
                C.cond (Opd.t 78) [C.op none (some 8) (O.mv (Opd.c (AV.bool false))), C.ret] [],
                C.op none (some 79) (O.mv (Opd.t 0)), C.op none (some 80) (O.len true (Opd.t 79)),
                C.op none (some 81) (O.mv (Opd.c (AV.int IntKind.i64 0))),
                C.blk 4
                  [C.loop
                      [C.op none (some 82) (O.bin BinOp.lss (Opd.t 81) (Opd.t 80)), C.cond (Opd.t 82) [] [C.exit 4],
                        C.blk 5
                          [C.op none (some 83) (O.mv (Opd.t 81)), C.op none (some 13) (O.mv (Opd.t 83)),
                            C.op none (some 84) (O.mv (Opd.t 0)), C.op none (some 85) (O.mv (Opd.t 13)),
                            C.op none (some 86) (O.ist (Opd.t 84) (Opd.t 85)), C.op none (some 14) (O.mv (Opd.t 86)),
                            C.op none (some 87) (O.mv (Opd.t 10)),
                            C.op none (some 88) (O.bin BinOp.eql (Opd.t 87) (Opd.c (AV.int IntKind.i64 0))),
                            C.op none (some 89) (O.mv (Opd.t 88)), C.op (some (89, true)) (some 90) (O.mv (Opd.t 13)),
                            C.op (some (89, true)) (some 91) (O.mv (Opd.t 1)),
                            C.op (some (89, true)) (some 92) (O.bin BinOp.eql (Opd.t 90) (Opd.t 91)),
                            C.op none (some 93) (O.pick (Opd.t 89) (Opd.t 92) (Opd.c (AV.bool false))),
                            C.op none (some 94) (O.mv (Opd.t 93)),
                            C.op (some (94, true)) (some 95) (O.fad 2 (Opd.t 11)),
                            C.op (some (94, true)) (some 96) (O.ld CK.str (Opd.t 95)),
                            C.op (some (94, true)) (some 97) (O.mv (Opd.t 13)),
                            C.op (some (94, true)) (some 98) (O.ist (Opd.t 96) (Opd.t 97)),
                            C.op (some (94, true)) (some 99) (O.mv (Opd.t 14)),
                            C.op (some (94, true)) (some 100) (O.mv (Opd.t 2)),
                            C.op (some (94, true)) (some 101) (O.bin BinOp.xor (Opd.t 99) (Opd.t 100)),
                            C.op (some (94, true)) (some 102) (O.bin BinOp.neq (Opd.t 98) (Opd.t 101)),
                            C.op none (some 103) (O.pick (Opd.t 94) (Opd.t 102) (Opd.c (AV.bool false))),
                            C.op none (some 104) (O.mv (Opd.t 103)),
                            C.op (some (104, false)) (some 105) (O.mv (Opd.t 10)),
                            C.op (some (104, false)) (some 106)
                              (O.bin BinOp.gtr (Opd.t 105) (Opd.c (AV.int IntKind.i64 0))),
                            C.op (some (104, false)) (some 107) (O.mv (Opd.t 106)),
                            C.op (some (107, false)) (some 108) (O.mv (Opd.t 13)),
                            C.op (some (107, false)) (some 109) (O.mv (Opd.t 1)),
                            C.op (some (107, false)) (some 110) (O.bin BinOp.neq (Opd.t 108) (Opd.t 109)),
                            C.op (some (104, false)) (some 111) (O.pick (Opd.t 107) (Opd.c (AV.bool true)) (Opd.t 110)),
                            C.op (some (104, false)) (some 112) (O.mv (Opd.t 111)),
                            C.op (some (112, true)) (some 113) (O.fad 2 (Opd.t 11)),
                            C.op (some (112, true)) (some 114) (O.ld CK.str (Opd.t 113)),
                            C.op (some (112, true)) (some 115) (O.mv (Opd.t 13)),
                            C.op (some (112, true)) (some 116) (O.ist (Opd.t 114) (Opd.t 115)),
                            C.op (some (112, true)) (some 117) (O.mv (Opd.t 14)),
                            C.op (some (112, true)) (some 118) (O.bin BinOp.neq (Opd.t 116) (Opd.t 117)),
                            C.op (some (104, false)) (some 119)
                              (O.pick (Opd.t 112) (Opd.t 118) (Opd.c (AV.bool false))),
                            C.op none (some 120) (O.pick (Opd.t 104) (Opd.c (AV.bool true)) (Opd.t 119)),
                            C.cond (Opd.t 120) [C.op none (some 8) (O.mv (Opd.c (AV.bool false))), C.ret] []],
                        C.op none (some 121) (O.bin BinOp.add (Opd.t 81) (Opd.c (AV.int IntKind.i64 1))),
                        C.op none (some 81) (O.mv (Opd.t 121))]]],
            C.op none (some 122) (O.bin BinOp.add (Opd.t 52) (Opd.c (AV.int IntKind.i64 1))),
            C.op none (some 52) (O.mv (Opd.t 122))]],
    C.op none (some 123) (O.call 15 [Opd.t 9]),
    C.op none (some 124) (O.bin BinOp.eql (Opd.t 123) (Opd.c (AV.int IntKind.i64 0))),
    C.op none (some 8) (O.mv (Opd.t 124)), C.ret]
def r9 : List RV := [RV.t 8]
theorem c9_ok : cC Try.prog Try.f9.ntmps (Try.f9.body.getD .skip) = some c9 := by kernel_rfl

def c10 : List C :=
  [C.op none (some 4) (O.mv (Opd.c (AV.bool false))), C.op none (some 8) (O.call 12 []),
    C.op none (some 9) (O.un UnOp.not (Opd.t 8)),
    C.cond (Opd.t 9) [C.op none (some 4) (O.mv (Opd.c (AV.bool false))), C.ret] [],
    C.op none (some 5) (O.alloc [AV.nilsl, AV.int IntKind.i64 0]), C.op none (some 10) (O.mv (Opd.t 0)),
    C.op none (some 11) (O.bin BinOp.and (Opd.t 10) (Opd.c (AV.int IntKind.i64 511))),
    C.op none (some 0) (O.mv (Opd.t 11)), C.op none (some 12) (O.mv (Opd.t 0)),
    C.op none (some 13) (O.mv (Opd.c (AV.int IntKind.i64 0))),
    C.blk 0
      [C.loop
          [C.op none (some 14) (O.bin BinOp.lss (Opd.t 13) (Opd.t 12)), C.cond (Opd.t 14) [] [C.exit 0],
            C.blk 1
              [C.op none (some 15)
                  (O.bsl 1 [AV.str []] 1
                    [(0,
                        Opd.c
                          (AV.str [120]))]),
                C.op none (some 16)
                  (O.call 14
                    [Opd.t 5, Opd.c (AV.int IntKind.i64 0), Opd.c (AV.int IntKind.i64 1),
                      Opd.t 15])],
            C.op none (some 17) (O.bin BinOp.add (Opd.t 13) (Opd.c (AV.int IntKind.i64 1))),
            C.op none (some 13) (O.mv (Opd.t 17))]],
    C.op none (some 18) (O.call 15 [Opd.t 5]), C.op none (some 19) (O.mv (Opd.t 0)),
    C.op none (some 20) (O.mn [Opd.t 19, Opd.c (AV.int IntKind.i64 400)]),
    C.op none (some 21) (O.bin BinOp.neq (Opd.t 18) (Opd.t 20)), C.op none (some 22) (O.mv (Opd.t 21)),
    C.op (some (22, false)) (some 23) (O.call 17 [Opd.t 5]), C.op (some (22, false)) (some 24) (O.mv (Opd.t 0)),
    C.op (some (22, false)) (some 25) (O.bin BinOp.sub (Opd.t 24) (Opd.c (AV.int IntKind.i64 400))),
    C.op (some (22, false)) (some 26) (O.mx [Opd.t 25, Opd.c (AV.int IntKind.i64 0)]),
    C.op (some (22, false)) (some 27) (O.bin BinOp.neq (Opd.t 23) (Opd.t 26)),
    C.op none (some 28) (O.pick (Opd.t 22) (Opd.c (AV.bool true)) (Opd.t 27)),
    C.cond (Opd.t 28) [C.op none (some 4) (O.mv (Opd.c (AV.bool false))), C.ret] [],
    C.op none (some 29) (O.call 38 [Opd.t 5, Opd.c (AV.int IntKind.i64 0)]),
    C.op none (some 6) (O.mv (Opd.t 29)),
    C.blk 2
      [C.op none (some 31) (O.mv (Opd.t 0)),
        C.op none (some 32) (O.bin BinOp.eql (Opd.t 31) (Opd.c (AV.int IntKind.i64 0))),
        C.op none (some 30) (O.mv (Opd.t 32)),
        C.cond (Opd.t 30)
          [C.op none (some 33) (O.mv (Opd.t 6)),
            C.op none (some 34) (O.bin BinOp.eql (Opd.t 33) (Opd.c (AV.int IntKind.i64 9))),
            C.op none (some 4) (O.mv (Opd.t 34)), C.ret]
          [C.op none (some 36) (O.mv (Opd.t 0)),
            C.op none (some 37) (O.bin BinOp.geq (Opd.t 36) (Opd.c (AV.int IntKind.i64 400))),
            C.op none (some 35) (O.mv (Opd.t 37)),
            C.cond (Opd.t 35)
              [C.op none (some 38) (O.mv (Opd.t 6)),
                C.op none (some 39) (O.bin BinOp.eql (Opd.t 38) (Opd.c (AV.int IntKind.i64 8))),
                C.op none (some 40) (O.mv (Opd.t 39)),
                C.op (some (40, true)) (some 41)
                  (O.bsl 1 [AV.str []] 2
                    [(0, Opd.c (AV.str [97])),
                      (1,
                        Opd.c (AV.str [98]))]),
                C.op (some (40, true)) (some 42)
                  (O.call 14
                    [Opd.t 5, Opd.c (AV.int IntKind.i64 5), Opd.c (AV.int IntKind.i64 6),
                      Opd.t 41]),
                C.op (some (40, true)) (some 43)
                  (O.bin BinOp.eql (Opd.t 42) (Opd.c (AV.int IntKind.i64 0))),
                C.op none (some 44) (O.pick (Opd.t 40) (Opd.t 43) (Opd.c (AV.bool false))),
                C.op none (some 45) (O.mv (Opd.t 44)), C.op (some (45, true)) (some 46) (O.call 17 [Opd.t 5]),
                C.op (some (45, true)) (some 47) (O.mv (Opd.t 0)),
                C.op (some (45, true)) (some 48)
                  (O.bin BinOp.sub (Opd.t 47) (Opd.c (AV.int IntKind.i64 400))),
                C.op (some (45, true)) (some 49)
                  (O.bin BinOp.add (Opd.t 48) (Opd.c (AV.int IntKind.i64 2))),
                C.op (some (45, true)) (some 50) (O.bin BinOp.eql (Opd.t 46) (Opd.t 49)),
                C.op none (some 51) (O.pick (Opd.t 45) (Opd.t 50) (Opd.c (AV.bool false))),
                C.op none (some 4) (O.mv (Opd.t 51)), C.ret]
              []]],
    C.op none (some 52)
      (O.bsl 1 [AV.str []] 2
        [(0, Opd.c (AV.str [97])),
          (1, Opd.c (AV.str [98]))]),
    C.op none (some 53)
      (O.call 14
        [Opd.t 5, Opd.c (AV.int IntKind.i64 5), Opd.c (AV.int IntKind.i64 6), Opd.t 52]),
    C.op none (some 7) (O.mv (Opd.t 53)), C.op none (some 54) (O.mv (Opd.t 6)),
    C.op none (some 55) (O.bin BinOp.eql (Opd.t 54) (Opd.c (AV.int IntKind.i64 0))),
    C.op none (some 56) (O.mv (Opd.t 55)), C.op (some (56, true)) (some 57) (O.mv (Opd.t 7)),
    C.op (some (56, true)) (some 58) (O.mv (Opd.t 0)),
    C.op (some (56, true)) (some 59) (O.bin BinOp.sub (Opd.c (AV.int IntKind.i64 400)) (Opd.t 58)),
    C.op (some (56, true)) (some 60) (O.bin BinOp.sub (Opd.t 59) (Opd.c (AV.int IntKind.i64 1))),
    C.op (some (56, true)) (some 61) (O.mn [Opd.c (AV.int IntKind.i64 2), Opd.t 60]),
    C.op (some (56, true)) (some 62) (O.bin BinOp.eql (Opd.t 57) (Opd.t 61)),
    C.op none (some 63) (O.pick (Opd.t 56) (Opd.t 62) (Opd.c (AV.bool false))), C.op none (some 64) (O.mv (Opd.t 63)),
    C.op (some (64, true)) (some 65) (O.mv (Opd.t 1)), C.op (some (64, true)) (some 66) (O.un UnOp.not (Opd.t 65)),
    C.op (some (64, true)) (some 67) (O.mv (Opd.t 66)),
    C.op (some (67, false)) (some 68) (O.call 40 [Opd.t 5, Opd.c (AV.int IntKind.i64 1)]),
    C.op (some (67, false)) (some 69) (O.mv (Opd.t 0)),
    C.op (some (67, false)) (some 70) (O.bin BinOp.add (Opd.t 69) (Opd.c (AV.int IntKind.i64 1))),
    C.op (some (67, false)) (some 71) (O.bin BinOp.eql (Opd.t 68) (Opd.t 70)),
    C.op (some (64, true)) (some 72) (O.pick (Opd.t 67) (Opd.c (AV.bool true)) (Opd.t 71)),
    C.op none (some 73) (O.pick (Opd.t 64) (Opd.t 72) (Opd.c (AV.bool false))), C.op none (some 4) (O.mv (Opd.t 73)),
    C.ret]
def r10 : List RV := [RV.t 4]
theorem c10_ok : cC Try.prog Try.f10.ntmps (Try.f10.body.getD .skip) = some c10 := by kernel_rfl

def d11_0 : List It :=
  [(none, some 83, O.fad 1 (Opd.t 6), []),
                                    (none, some 84, O.ld (CK.int IntKind.i64) (Opd.t 83), [0]),
                                    (none, some 85, O.call 40 [Opd.t 3, Opd.t 84], [1]),
                                    (none, some 86, O.fad 1 (Opd.t 11), []),
                                    (none, some 87, O.ld (CK.int IntKind.i64) (Opd.t 86), [3]),
                                    (none, some 88, O.fad 1 (Opd.t 4), []),
                                    (none, some 89, O.ld (CK.int IntKind.i64) (Opd.t 88), [5]),
                                    (none, some 90, O.bin BinOp.sub (Opd.t 87) (Opd.t 89), [4, 6]),
                                    (none, some 91, O.bin BinOp.eql (Opd.t 85) (Opd.t 90), [2, 7]),
                                    (none, some 7, O.mv (Opd.t 91), [8, 2, 0, 1, 2, 3, 4, 5, 6, 7, 8])]
def o11_0 : List (Nat × Bool) := [(0, false), (1, false), (3, false), (4, false), (5, false), (6, false), (7, false), (2, true), (8, false), (9, false)]
def l11_0 : List (Nat × Bool × It) :=
  [(0, false, (none, some 83, O.fad 1 (Opd.t 6), [])),
   (1, false, (none, some 84, O.ld (CK.int IntKind.i64) (Opd.t 83), [0])),
   (3, false, (none, some 86, O.fad 1 (Opd.t 11), [])),
   (4, false, (none, some 87, O.ld (CK.int IntKind.i64) (Opd.t 86), [3])),
   (5, false, (none, some 88, O.fad 1 (Opd.t 4), [])),
   (6, false, (none, some 89, O.ld (CK.int IntKind.i64) (Opd.t 88), [5])),
   (7, false, (none, some 90, O.bin BinOp.sub (Opd.t 87) (Opd.t 89), [4, 6])),
   (2, true, (none, some 85, O.call 40 [Opd.t 3, Opd.t 84], [1])),
   (8, false, (none, some 91, O.bin BinOp.eql (Opd.t 85) (Opd.t 90), [2, 7])),
   (9, false, (none, some 7, O.mv (Opd.t 91), [8, 2, 0, 1, 2, 3, 4, 5, 6, 7, 8]))]
theorem l11_0_ok : okDraw d11_0 o11_0 = true ∧ mkL d11_0 o11_0 = some l11_0 := ⟨by kernel_rfl, by kernel_rfl⟩

def d11_1 : List It :=
  [(none, some 93, O.mv (Opd.t 7), []), (none, some 94, O.un UnOp.not (Opd.t 93), [0]),
                    (none, some 95, O.mv (Opd.t 94), [1]), (some (95, false), some 96, O.call 15 [Opd.t 3], [2, 2]),
                    (some (95, false), some 97, O.fad 0 (Opd.t 4), [2]),
                    (some (95, false), some 98, O.ld CK.any (Opd.t 97), [4, 2]),
                    (some (95, false), some 99, O.len false (Opd.t 98), [5, 2]),
                    (some (95, false), some 100, O.bin BinOp.neq (Opd.t 96) (Opd.t 99), [3, 6, 2]),
                    (none, some 101, O.pick (Opd.t 95) (Opd.c (AV.bool true)) (Opd.t 100), [2, 7]),
                    (none, some 102, O.mv (Opd.t 101), [8, 3]),
                    (some (102, false), some 103, O.call 17 [Opd.t 3], [9, 9]),
                    (some (102, false), some 104, O.fad 1 (Opd.t 4), [9]),
                    (some (102, false), some 105, O.ld (CK.int IntKind.i64) (Opd.t 104), [11, 9]),
                    (some (102, false), some 106, O.bin BinOp.neq (Opd.t 103) (Opd.t 105), [10, 12, 9]),
                    (none, some 107, O.pick (Opd.t 102) (Opd.c (AV.bool true)) (Opd.t 106), [9, 13])]
def o11_1 : List (Nat × Bool) := [(0, false), (1, false), (2, false), (4, false), (5, false), (6, false), (3, true), (7, false), (8, false), (9, false), (11, false), (12, false), (10, true), (13, false), (14, false)]
def l11_1 : List (Nat × Bool × It) :=
  [(0, false, (none, some 93, O.mv (Opd.t 7), [])),
   (1, false, (none, some 94, O.un UnOp.not (Opd.t 93), [0])),
   (2, false, (none, some 95, O.mv (Opd.t 94), [1])),
   (4, false, (some (95, false), some 97, O.fad 0 (Opd.t 4), [2])),
   (5, false, (some (95, false), some 98, O.ld CK.any (Opd.t 97), [4, 2])),
   (6, false, (some (95, false), some 99, O.len false (Opd.t 98), [5, 2])),
   (3, true, (some (95, false), some 96, O.call 15 [Opd.t 3], [2, 2])),
   (7, false, (some (95, false), some 100, O.bin BinOp.neq (Opd.t 96) (Opd.t 99), [3, 6, 2])),
   (8, false, (none, some 101, O.pick (Opd.t 95) (Opd.c (AV.bool true)) (Opd.t 100), [2, 7])),
   (9, false, (none, some 102, O.mv (Opd.t 101), [8, 3])),
   (11, false, (some (102, false), some 104, O.fad 1 (Opd.t 4), [9])),
   (12, false, (some (102, false), some 105, O.ld (CK.int IntKind.i64) (Opd.t 104), [11, 9])),
   (10, true, (some (102, false), some 103, O.call 17 [Opd.t 3], [9, 9])),
   (13, false, (some (102, false), some 106, O.bin BinOp.neq (Opd.t 103) (Opd.t 105), [10, 12, 9])),
   (14, false, (none, some 107, O.pick (Opd.t 102) (Opd.c (AV.bool true)) (Opd.t 106), [9, 13]))]
theorem l11_1_ok : okDraw d11_1 o11_1 = true ∧ mkL d11_1 o11_1 = some l11_1 := ⟨by kernel_rfl, by kernel_rfl⟩

def c11 : List C :=
  [C.op none (some 2) (O.mv (Opd.c (AV.bool false))), C.op none (some 16) (O.call 12 []),
    C.op none (some 17) (O.un UnOp.not (Opd.t 16)),
    C.cond (Opd.t 17) [C.op none (some 2) (O.mv (Opd.c (AV.bool false))), C.ret] [],
    C.op none (some 3) (O.alloc [AV.nilsl, AV.int IntKind.i64 0]),
    C.op none (some 18) (O.build [AV.nilsl, AV.int IntKind.i64 0] []),
    C.op none (some 4) (O.alloc [AV.nilsl, AV.int IntKind.i64 0]),
    C.op none none (O.st 2 (Opd.t 4) (Opd.t 18)), C.op none (some 5) (O.mv (Opd.c (AV.int IntKind.i64 0))),
    C.blk 0
      [C.loop
          [C.op none (some 19) (O.mv (Opd.t 5)), C.op none (some 20) (O.mv (Opd.t 0)),
            C.op none (some 21) (O.len false (Opd.t 20)), C.op none (some 22) (O.bin BinOp.lss (Opd.t 19) (Opd.t 21)),
            C.op none (some 23) (O.mv (Opd.t 22)), C.op (some (23, true)) (some 24) (O.mv (Opd.t 5)),
            C.op (some (23, true)) (some 25) (O.bin BinOp.lss (Opd.t 24) (Opd.c (AV.int IntKind.i64 150))),
            C.op none (some 26) (O.pick (Opd.t 23) (Opd.t 25) (Opd.c (AV.bool false))), C.cond (Opd.t 26) [] [C.exit 0],
            C.blk 1
              [C.op none (some 29) (O.mv (Opd.t 0)), C.op none (some 30) (O.mv (Opd.t 5)),
                C.op none (some 31) (O.iad 7 (Opd.t 29) (Opd.t 30)),
                C.op none (some 32)
                  (O.ldn
                    [CK.int IntKind.i64, CK.int IntKind.i64, CK.int IntKind.i64, CK.int IntKind.i64, CK.int IntKind.i64,
                      CK.int IntKind.u8, CK.str]
                    (Opd.t 31)),
                C.op none (some 6)
                  (O.alloc
                    [AV.int IntKind.i64 0, AV.int IntKind.i64 0,
                      AV.int IntKind.i64 0, AV.int IntKind.i64 0,
                      AV.int IntKind.i64 0, AV.int IntKind.u8 0, AV.str []]),
                C.op none none (O.st 7 (Opd.t 6) (Opd.t 32)), C.op none (some 33) (O.fad 6 (Opd.t 6)),
                C.op none (some 34) (O.ld CK.str (Opd.t 33)),
                C.op none (some 35) (O.call 13 [Opd.t 34, Opd.c (AV.int IntKind.i64 10)]),
                C.op none (some 36) (O.fad 6 (Opd.t 6)), C.op none none (O.st 1 (Opd.t 36) (Opd.t 35)),
                C.op none (some 7) (O.mv (Opd.c (AV.bool true))), C.op none (some 37) (O.fad 0 (Opd.t 6)),
                C.op none (some 38) (O.ld (CK.int IntKind.i64) (Opd.t 37)),
                C.blk 2
                  [C.op none (some 40) (O.bin BinOp.eql (Opd.t 38) (Opd.c (AV.int IntKind.i64 1))),
                    C.op none (some 39) (O.mv (Opd.t 40)),
                    C.cond (Opd.t 39)
                      [C.op none (some 41) (O.fad 1 (Opd.t 6)),
                        C.op none (some 42) (O.ld (CK.int IntKind.i64) (Opd.t 41)),
                        C.op none (some 43) (O.fad 2 (Opd.t 6)),
                        C.op none (some 44) (O.ld (CK.int IntKind.i64) (Opd.t 43)),
                        C.op none (some 45) (O.fad 6 (Opd.t 6)), C.op none (some 46) (O.ld CK.str (Opd.t 45)),
                        C.op none (some 47) (O.bsl 1 [AV.str []] 1 [(0, Opd.t 46)]),
                        C.op none (some 48) (O.call 14 [Opd.t 3, Opd.t 42, Opd.t 44, Opd.t 47]),
                        C.op none (some 8) (O.mv (Opd.t 48)),
                        C.op none (some 50) (O.ldn [CK.any, CK.int IntKind.i64] (Opd.t 4)),
                        C.op none (some 51) (O.fad 1 (Opd.t 6)),
                        C.op none (some 52) (O.ld (CK.int IntKind.i64) (Opd.t 51)),
                        C.op none (some 53) (O.fad 2 (Opd.t 6)),
                        C.op none (some 54) (O.ld (CK.int IntKind.i64) (Opd.t 53)),
                        C.op none (some 55) (O.fad 6 (Opd.t 6)), C.op none (some 56) (O.ld CK.str (Opd.t 55)),
                        C.op none (some 57)
                          (O.build [AV.int IntKind.i64 0, AV.int IntKind.i64 0, AV.str []]
                            [(0, 1, Opd.t 52), (1, 1, Opd.t 54), (2, 1, Opd.t 56)]),
                        C.op none (some 58) (O.call 41 [Opd.t 50, Opd.t 57]), C.op none (some 49) (O.mv (Opd.t 58)),
                        C.op none (some 59) (O.ext (Opd.t 49) 0), C.op none (some 60) (O.ext (Opd.t 49) 1),
                        C.op none (some 9) (O.alloc [AV.nilsl, AV.int IntKind.i64 0]),
                        C.op none none (O.st 2 (Opd.t 9) (Opd.t 59)), C.op none (some 10) (O.mv (Opd.t 60)),
                        C.op none (some 61) (O.ldn [CK.any, CK.int IntKind.i64] (Opd.t 9)),
                        C.op none (some 62) (O.mv (Opd.t 8)),
                        C.op none (some 63) (O.bin BinOp.eql (Opd.t 62) (Opd.c (AV.int IntKind.i64 1))),
                        C.op none (some 64) (O.mv (Opd.t 10)), C.op none (some 65) (O.eqb false (Opd.t 63) (Opd.t 64)),
                        C.op none none (O.st 2 (Opd.t 4) (Opd.t 61)), C.op none (some 7) (O.mv (Opd.t 65))]
                      [C.op none (some 67) (O.bin BinOp.eql (Opd.t 38) (Opd.c (AV.int IntKind.i64 2))),
                        C.op none (some 66) (O.mv (Opd.t 67)),
                        C.cond (Opd.t 66) []
                          [C.op none (some 68) (O.bin BinOp.eql (Opd.t 38) (Opd.c (AV.int IntKind.i64 3))),
                            C.op none (some 66) (O.mv (Opd.t 68)),
                            C.cond (Opd.t 66) []
                              [C.op none (some 69)
                                  (O.bin BinOp.eql (Opd.t 38) (Opd.c (AV.int IntKind.i64 4))),
                                C.op none (some 66) (O.mv (Opd.t 69)),
                                C.cond (Opd.t 66) []
                                  [C.op none (some 70)
                                      (O.bin BinOp.eql (Opd.t 38) (Opd.c (AV.int IntKind.i64 5))),
                                    C.op none (some 66) (O.mv (Opd.t 70))]]],
                        C.cond (Opd.t 66)
                          [C.op none (some 72) (O.ldn [CK.any, CK.int IntKind.i64] (Opd.t 4)),
                            C.op none (some 73)
                              (O.ldn
                                [CK.int IntKind.i64, CK.int IntKind.i64, CK.int IntKind.i64, CK.int IntKind.i64,
                                  CK.int IntKind.i64, CK.int IntKind.u8, CK.str]
                                (Opd.t 6)),
                            C.op none (some 74) (O.call 42 [Opd.t 3, Opd.t 72, Opd.t 73]),
                            C.op none (some 71) (O.mv (Opd.t 74)), C.op none (some 75) (O.ext (Opd.t 71) 0),
                            C.op none (some 76) (O.ext (Opd.t 71) 1), C.op none none (O.st 2 (Opd.t 4) (Opd.t 75)),
                            C.op none (some 7) (O.mv (Opd.t 76))]
                          [C.op none (some 78) (O.bin BinOp.eql (Opd.t 38) (Opd.c (AV.int IntKind.i64 6))),
                            C.op none (some 77) (O.mv (Opd.t 78)),
                            C.cond (Opd.t 77)
                              [C.op none (some 79) (O.ldn [CK.any, CK.int IntKind.i64] (Opd.t 4)),
                                C.op none (some 80) (O.fad 1 (Opd.t 6)),
                                C.op none (some 81) (O.ld (CK.int IntKind.i64) (Opd.t 80)),
                                C.op none (some 82) (O.call 43 [Opd.t 79, Opd.t 81]),
                                C.op none (some 11) (O.alloc [AV.nilsl, AV.int IntKind.i64 0]),
                                C.op none none (O.st 2 (Opd.t 11) (Opd.t 82)),
                                C.draw d11_0,
                                C.op none (some 92) (O.ldn [CK.any, CK.int IntKind.i64] (Opd.t 11)),
                                C.op none none (O.st 2 (Opd.t 4) (Opd.t 92))]
                              []]]],
                C.draw d11_1,
                C.cond (Opd.t 107) [C.op none (some 2) (O.mv (Opd.c (AV.bool false))), C.ret] [],
                C.op none (some 108) (O.fad 0 (Opd.t 4)), C.op none (some 109) (O.ld CK.any (Opd.t 108)),
                C.op none (some 110) (O.len false (Opd.t 109)),
                C.op none (some 111) (O.mv (Opd.c (AV.int IntKind.i64 0))),
                C.blk 3
                  [C.loop
                      [C.op none (some 112) (O.bin BinOp.lss (Opd.t 111) (Opd.t 110)), C.cond (Opd.t 112) [] [C.exit 3],
                        C.blk 4
                          [C.op none (some 113) (O.mv (Opd.t 111)),
                            C.op none (some 114) (O.iad 3 (Opd.t 109) (Opd.t 111)),
                            C.op none (some 115) (O.ldn [CK.int IntKind.i64, CK.int IntKind.i64, CK.str] (Opd.t 114)),
                            C.op none (some 13)
                              (O.alloc [AV.int IntKind.i64 0, AV.int IntKind.i64 0, AV.str []]),
                            C.op none (some 12) (O.mv (Opd.t 113)), C.op none none (O.st 3 (Opd.t 13) (Opd.t 115)),
                            C.op none (some 117) (O.mv (Opd.t 12)),
                            C.op none (some 118) (O.call 44 [Opd.t 3, Opd.t 117]),
                            C.op none (some 116) (O.mv (Opd.t 118)), C.op none (some 119) (O.ext (Opd.t 116) 0),
                            C.op none (some 120) (O.ext (Opd.t 116) 1),
                            C.op none (some 14)
                              (O.alloc [AV.int IntKind.i64 0, AV.int IntKind.i64 0, AV.str []]),
                            C.op none none (O.st 3 (Opd.t 14) (Opd.t 119)), C.op none (some 15) (O.mv (Opd.t 120)),
                            C.op none (some 121) (O.mv (Opd.t 15)),
                            C.op none (some 122)
                              (O.bin BinOp.neq (Opd.t 121) (Opd.c (AV.int IntKind.i64 0))),
                            C.op none (some 123) (O.mv (Opd.t 122)),
                            C.op (some (123, false)) (some 124)
                              (O.ldn [CK.int IntKind.i64, CK.int IntKind.i64, CK.str] (Opd.t 14)),
                            C.op (some (123, false)) (some 125)
                              (O.ldn [CK.int IntKind.i64, CK.int IntKind.i64, CK.str] (Opd.t 13)),
                            C.op (some (123, false)) (some 126)
                              (O.eqa true [CK.int IntKind.i64, CK.int IntKind.i64, CK.str] (Opd.t 124) (Opd.t 125)),
                            C.op none (some 127) (O.pick (Opd.t 123) (Opd.c (AV.bool true)) (Opd.t 126)),
                            C.cond (Opd.t 127) [C.op none (some 2) (O.mv (Opd.c (AV.bool false))), C.ret] []],
                        C.op none (some 128) (O.bin BinOp.add (Opd.t 111) (Opd.c (AV.int IntKind.i64 1))),
                        C.op none (some 111) (O.mv (Opd.t 128))]]],
            C.op none (some 27) (O.mv (Opd.t 5)),
            C.op none (some 28) (O.bin BinOp.add (Opd.t 27) (Opd.c (AV.int IntKind.i64 1))),
            C.op none (some 5) (O.mv (Opd.t 28))]],
    C.op none (some 2) (O.mv (Opd.c (AV.bool true))), C.ret]
def r11 : List RV := [RV.t 2]
theorem c11_ok : cC Try.prog Try.f11.ntmps (Try.f11.body.getD .skip) = some c11 := by kernel_rfl

def c12 : List C :=
  [C.op none (some 0) (O.mv (Opd.c (AV.bool false))),
    C.op none (some 1) (O.alloc [AV.nilsl, AV.int IntKind.i64 0]),
    C.op none (some 5)
      (O.bsl 1 [AV.str []] 2
        [(0, Opd.c (AV.str [97])),
          (1, Opd.c (AV.str [98]))]),
    C.op none (some 6)
      (O.call 14
        [Opd.t 1, Opd.c (AV.int IntKind.i64 1), Opd.c (AV.int IntKind.i64 2), Opd.t 5]),
    C.op none (some 2) (O.mv (Opd.t 6)),
    C.op none (some 8) (O.call 16 [Opd.t 1, Opd.c (AV.int IntKind.i64 3)]),
    C.op none (some 7) (O.mv (Opd.t 8)), C.op none (some 9) (O.ext (Opd.t 7) 0),
    C.op none (some 10) (O.ext (Opd.t 7) 1),
    C.op none (some 3) (O.alloc [AV.int IntKind.i64 0, AV.int IntKind.i64 0, AV.str []]),
    C.op none none (O.st 3 (Opd.t 3) (Opd.t 9)), C.op none (some 4) (O.mv (Opd.t 10)),
    C.op none (some 11) (O.mv (Opd.t 2)),
    C.op none (some 12) (O.bin BinOp.eql (Opd.t 11) (Opd.c (AV.int IntKind.i64 2))),
    C.op none (some 13) (O.mv (Opd.t 12)), C.op (some (13, true)) (some 14) (O.mv (Opd.t 4)),
    C.op (some (13, true)) (some 15) (O.bin BinOp.eql (Opd.t 14) (Opd.c (AV.int IntKind.i64 0))),
    C.op none (some 16) (O.pick (Opd.t 13) (Opd.t 15) (Opd.c (AV.bool false))), C.op none (some 17) (O.mv (Opd.t 16)),
    C.op (some (17, true)) (some 18) (O.ldn [CK.int IntKind.i64, CK.int IntKind.i64, CK.str] (Opd.t 3)),
    C.op (some (17, true)) (some 19)
      (O.build [AV.int IntKind.i64 0, AV.int IntKind.i64 0, AV.str []]
        [(0, 1, Opd.c (AV.int IntKind.i64 1)), (1, 1, Opd.c (AV.int IntKind.i64 2)),
          (2, 1, Opd.c (AV.str [98]))]),
    C.op (some (17, true)) (some 20)
      (O.eqa false [CK.int IntKind.i64, CK.int IntKind.i64, CK.str] (Opd.t 18) (Opd.t 19)),
    C.op none (some 21) (O.pick (Opd.t 17) (Opd.t 20) (Opd.c (AV.bool false))), C.op none (some 22) (O.mv (Opd.t 21)),
    C.op (some (22, true)) (some 23) (O.call 15 [Opd.t 1]),
    C.op (some (22, true)) (some 24) (O.bin BinOp.eql (Opd.t 23) (Opd.c (AV.int IntKind.i64 1))),
    C.op none (some 25) (O.pick (Opd.t 22) (Opd.t 24) (Opd.c (AV.bool false))), C.op none (some 0) (O.mv (Opd.t 25)),
    C.ret]
def r12 : List RV := [RV.t 0]
theorem c12_ok : cC Try.prog Try.f12.ntmps (Try.f12.body.getD .skip) = some c12 := by kernel_rfl

def c13 : List C :=
  [C.op none (some 4) (O.mv (Opd.c (AV.str []))), C.op none (some 5) (O.mv (Opd.t 0)),
    C.op none (some 6) (O.len true (Opd.t 5)), C.op none (some 7) (O.mv (Opd.t 1)),
    C.op none (some 8) (O.bin BinOp.gtr (Opd.t 6) (Opd.t 7)),
    C.cond (Opd.t 8)
      [C.op none (some 9) (O.mv (Opd.t 0)), C.op none (some 10) (O.mv (Opd.t 1)),
        C.op none (some 11) (O.ssl (Opd.t 9) none (some (Opd.t 10))), C.op none (some 4) (O.mv (Opd.t 11)), C.ret]
      [],
    C.op none (some 12) (O.mv (Opd.t 0)), C.op none (some 4) (O.mv (Opd.t 12)), C.ret]
def r13 : List RV := [RV.t 4]
theorem c13_ok : cC Try.prog Try.f13.ntmps (Try.f13.body.getD .skip) = some c13 := by kernel_rfl

def c14 : List C :=
  [C.op none (some 8) (O.mv (Opd.c (AV.int IntKind.i64 0))),
    C.op none (some 9) (O.mv (Opd.c (AV.int IntKind.i64 0))), C.op none (some 12) (O.mv (Opd.t 3)),
    C.op none (some 13) (O.len false (Opd.t 12)), C.op none (some 14) (O.mv (Opd.c (AV.int IntKind.i64 0))),
    C.blk 0
      [C.loop
          [C.op none (some 15) (O.bin BinOp.lss (Opd.t 14) (Opd.t 13)), C.cond (Opd.t 15) [] [C.exit 0],
            C.blk 1
              [C.op none (some 16) (O.iad 1 (Opd.t 12) (Opd.t 14)), C.op none (some 17) (O.ld CK.str (Opd.t 16)),
                C.op none (some 11) (O.mv (Opd.t 17)), C.op none (some 18) (O.mv (Opd.t 0)),
                C.op none (some 19) (O.nck (Opd.t 18)), C.op none (some 20) (O.fad 0 (Opd.t 19)),
                C.op none (some 21) (O.ld CK.any (Opd.t 20)), C.op none (some 22) (O.len false (Opd.t 21)),
                C.op none (some 23) (O.bin BinOp.geq (Opd.t 22) (Opd.c (AV.int IntKind.i64 400))),
                C.cond (Opd.t 23)
                  [C.op none (some 24) (O.mv (Opd.t 0)), C.op none (some 25) (O.nck (Opd.t 24)),
                    C.op none (some 26) (O.fad 1 (Opd.t 25)),
                    C.op none (some 27) (O.ld (CK.int IntKind.i64) (Opd.t 26)),
                    C.op none (some 28) (O.bin BinOp.add (Opd.t 27) (Opd.c (AV.int IntKind.i64 1))),
                    C.op none (some 29) (O.nck (Opd.t 24)), C.op none (some 30) (O.fad 1 (Opd.t 29)),
                    C.op none none (O.st 1 (Opd.t 30) (Opd.t 28)), C.exit 1]
                  [],
                C.op none (some 31) (O.mv (Opd.t 0)), C.op none (some 32) (O.mv (Opd.t 0)),
                C.op none (some 33) (O.nck (Opd.t 32)), C.op none (some 34) (O.fad 0 (Opd.t 33)),
                C.op none (some 35) (O.ld CK.any (Opd.t 34)), C.op none (some 36) (O.mv (Opd.t 1)),
                C.op none (some 37) (O.mv (Opd.t 2)), C.op none (some 38) (O.mv (Opd.t 11)),
                C.op none (some 39)
                  (O.build [AV.int IntKind.i64 0, AV.int IntKind.i64 0, AV.str []]
                    [(0, 1, Opd.t 36), (1, 1, Opd.t 37), (2, 1, Opd.t 38)]),
                C.op none (some 40)
                  (O.bsl 3 [AV.int IntKind.i64 0, AV.int IntKind.i64 0, AV.str []] 1
                    [(0, Opd.t 39)]),
                C.op none (some 41) (O.app 3 (Opd.t 35) (Opd.t 40)), C.op none (some 42) (O.nck (Opd.t 31)),
                C.op none (some 43) (O.fad 0 (Opd.t 42)), C.op none none (O.st 1 (Opd.t 43) (Opd.t 41)),
                C.op none (some 44) (O.mv (Opd.t 9)),
                C.op none (some 45) (O.bin BinOp.add (Opd.t 44) (Opd.c (AV.int IntKind.i64 1))),
                C.op none (some 9) (O.mv (Opd.t 45))],
            C.op none (some 46) (O.bin BinOp.add (Opd.t 14) (Opd.c (AV.int IntKind.i64 1))),
            C.op none (some 14) (O.mv (Opd.t 46))]],
    C.op none (some 47) (O.mv (Opd.t 9)), C.op none (some 8) (O.mv (Opd.t 47)), C.ret]
def r14 : List RV := [RV.t 8]
theorem c14_ok : cC Try.prog Try.f14.ntmps (Try.f14.body.getD .skip) = some c14 := by kernel_rfl

def c15 : List C :=
  [C.op none (some 2) (O.mv (Opd.c (AV.int IntKind.i64 0))), C.op none (some 3) (O.mv (Opd.t 0)),
    C.op none (some 4) (O.nck (Opd.t 3)), C.op none (some 5) (O.fad 0 (Opd.t 4)),
    C.op none (some 6) (O.ld CK.any (Opd.t 5)), C.op none (some 7) (O.len false (Opd.t 6)),
    C.op none (some 2) (O.mv (Opd.t 7)), C.ret]
def r15 : List RV := [RV.t 2]
theorem c15_ok : cC Try.prog Try.f15.ntmps (Try.f15.body.getD .skip) = some c15 := by kernel_rfl

def c16 : List C :=
  [C.op none (some 4) (O.alloc [AV.int IntKind.i64 0, AV.int IntKind.i64 0, AV.str []]),
    C.op none (some 5) (O.mv (Opd.c (AV.int IntKind.i64 0))), C.op none (some 11) (O.mv (Opd.t 0)),
    C.op none (some 12) (O.mv (Opd.t 1)), C.op none (some 13) (O.call 44 [Opd.t 11, Opd.t 12]),
    C.op none (some 10) (O.mv (Opd.t 13)), C.op none (some 14) (O.ext (Opd.t 10) 0),
    C.op none (some 15) (O.ext (Opd.t 10) 1),
    C.op none (some 6) (O.alloc [AV.int IntKind.i64 0, AV.int IntKind.i64 0, AV.str []]),
    C.op none none (O.st 3 (Opd.t 6) (Opd.t 14)), C.op none (some 7) (O.mv (Opd.t 15)),
    C.op none (some 16) (O.mv (Opd.t 7)),
    C.op none (some 17) (O.bin BinOp.neq (Opd.t 16) (Opd.c (AV.int IntKind.i64 0))),
    C.cond (Opd.t 17)
      [C.op none (some 18) (O.build [AV.int IntKind.i64 0, AV.int IntKind.i64 0, AV.str []] []),
        C.op none (some 19) (O.mv (Opd.t 7)), C.op none none (O.st 3 (Opd.t 4) (Opd.t 18)),
        C.op none (some 5) (O.mv (Opd.t 19)), C.ret]
      [],
    C.op none (some 21) (O.mv (Opd.t 0)), C.op none (some 22) (O.mv (Opd.t 1)),
    C.op none (some 23) (O.call 45 [Opd.t 21, Opd.t 22]), C.op none (some 20) (O.mv (Opd.t 23)),
    C.op none (some 24) (O.ext (Opd.t 20) 0), C.op none (some 25) (O.ext (Opd.t 20) 1),
    C.op none (some 8) (O.mv (Opd.t 24)), C.op none (some 9) (O.mv (Opd.t 25)), C.op none (some 26) (O.mv (Opd.t 0)),
    C.op none (some 27) (O.mv (Opd.t 0)), C.op none (some 28) (O.nck (Opd.t 27)),
    C.op none (some 29) (O.fad 0 (Opd.t 28)), C.op none (some 30) (O.ld CK.any (Opd.t 29)),
    C.op none (some 31) (O.call 47 [Opd.t 30]), C.op none (some 32) (O.mv (Opd.t 8)),
    C.op none (some 33) (O.mv (Opd.t 8)),
    C.op none (some 34) (O.bin BinOp.add (Opd.t 33) (Opd.c (AV.int IntKind.i64 1))),
    C.op none (some 35) (O.call 46 [Opd.t 31, Opd.t 32, Opd.t 34]), C.op none (some 36) (O.nck (Opd.t 26)),
    C.op none (some 37) (O.fad 0 (Opd.t 36)), C.op none none (O.st 1 (Opd.t 37) (Opd.t 35)),
    C.op none (some 38) (O.ldn [CK.int IntKind.i64, CK.int IntKind.i64, CK.str] (Opd.t 6)),
    C.op none none (O.st 3 (Opd.t 4) (Opd.t 38)), C.op none (some 5) (O.mv (Opd.c (AV.int IntKind.i64 0))),
    C.ret]
def r16 : List RV := [RV.cn 4 3, RV.t 5]
theorem c16_ok : cC Try.prog Try.f16.ntmps (Try.f16.body.getD .skip) = some c16 := by kernel_rfl

def c17 : List C :=
  [C.op none (some 2) (O.mv (Opd.c (AV.int IntKind.i64 0))), C.op none (some 3) (O.mv (Opd.t 0)),
    C.op none (some 4) (O.nck (Opd.t 3)), C.op none (some 5) (O.fad 1 (Opd.t 4)),
    C.op none (some 6) (O.ld (CK.int IntKind.i64) (Opd.t 5)), C.op none (some 2) (O.mv (Opd.t 6)), C.ret]
def r17 : List RV := [RV.t 2]
theorem c17_ok : cC Try.prog Try.f17.ntmps (Try.f17.body.getD .skip) = some c17 := by kernel_rfl

def d18_0 : List It :=
  [(none, some 14, O.ldn [CK.int IntKind.i64, CK.int IntKind.i64] (Opd.t 2), []),
        (none, some 15,
          O.build [AV.int IntKind.i64 0, AV.int IntKind.i64 0]
            [(0, 1, Opd.c (AV.int IntKind.i64 10)), (1, 1, Opd.c (AV.int IntKind.i64 2))],
          []),
        (none, some 16, O.eqa false [CK.int IntKind.i64, CK.int IntKind.i64] (Opd.t 14) (Opd.t 15), [0, 1]),
        (none, some 17, O.mv (Opd.t 16), [2]),
        (some (17, true), some 18, O.ldn [CK.int IntKind.i64, CK.int IntKind.i64] (Opd.t 2), [3]),
        (some (17, true), some 19, O.call 21 [Opd.t 1, Opd.t 18], [4, 3, 3]),
        (some (17, true), some 20, O.fld 1 none (Opd.t 19), [5, 3]),
        (some (17, true), some 21, O.bin BinOp.eql (Opd.t 20) (Opd.c (AV.int IntKind.i64 3)), [6, 3]),
        (none, some 22, O.pick (Opd.t 17) (Opd.t 21) (Opd.c (AV.bool false)), [3, 7]),
        (none, some 23, O.mv (Opd.t 22), [8, 5]), (some (23, true), some 24, O.call 27 [Opd.t 1], [9, 9]),
        (some (23, true), some 25, O.bin BinOp.eql (Opd.t 24) (Opd.c (AV.int IntKind.i64 8)), [10, 9]),
        (none, some 26, O.pick (Opd.t 23) (Opd.t 25) (Opd.c (AV.bool false)), [9, 11]),
        (none, some 27, O.mv (Opd.t 26), [12, 10]), (some (27, true), some 28, O.mv (Opd.t 4), [13]),
        (some (27, true), some 29, O.bin BinOp.eql (Opd.t 28) (Opd.c (AV.int IntKind.i64 0)), [14, 13]),
        (none, some 30, O.pick (Opd.t 27) (Opd.t 29) (Opd.c (AV.bool false)), [13, 15]),
        (none, some 31, O.mv (Opd.t 30), [16, 13]), (some (31, true), some 32, O.mv (Opd.t 3), [17]),
        (some (31, true), some 33, O.eqp 0 true (Opd.t 32) (Opd.c AV.nilptr), [18, 17]),
        (none, some 34, O.pick (Opd.t 31) (Opd.t 33) (Opd.c (AV.bool false)), [17, 19]),
        (none, some 35, O.mv (Opd.t 34), [20, 17]), (some (35, true), some 36, O.mv (Opd.t 3), [21]),
        (some (35, true), some 37, O.call 36 [Opd.t 36, Opd.c (AV.int IntKind.i64 5)], [22, 21, 21]),
        (some (35, true), some 38, O.ldn [CK.int IntKind.i64, CK.int IntKind.i64] (Opd.t 2), [21]),
        (some (35, true), some 39, O.eqa false [CK.int IntKind.i64, CK.int IntKind.i64] (Opd.t 37) (Opd.t 38),
          [23, 24, 21]),
        (none, some 40, O.pick (Opd.t 35) (Opd.t 39) (Opd.c (AV.bool false)), [21, 25]),
        (none, some 0, O.mv (Opd.t 40),
          [26, 23, 0, 1, 2, 3, 4, 5, 6, 7, 8, 9, 10, 11, 12, 13, 14, 15, 16, 17, 18, 19, 20, 21, 22, 23, 24, 25, 26])]
def o18_0 : List (Nat × Bool) := [(0, false), (1, false), (2, false), (3, false), (4, false), (5, true), (6, false), (7, false), (8, false), (9, false), (10, true), (11, false), (12, false), (13, false), (14, false), (15, false), (16, false), (17, false), (18, false), (19, false), (20, false), (21, false), (22, false), (24, false), (23, true), (25, false), (26, false), (27, false)]
def l18_0 : List (Nat × Bool × It) :=
  [(0, false, (none, some 14, O.ldn [CK.int IntKind.i64, CK.int IntKind.i64] (Opd.t 2), [])),
   (1, false, (none, some 15,
          O.build [AV.int IntKind.i64 0, AV.int IntKind.i64 0]
            [(0, 1, Opd.c (AV.int IntKind.i64 10)), (1, 1, Opd.c (AV.int IntKind.i64 2))],
          [])),
   (2, false, (none, some 16, O.eqa false [CK.int IntKind.i64, CK.int IntKind.i64] (Opd.t 14) (Opd.t 15), [0, 1])),
   (3, false, (none, some 17, O.mv (Opd.t 16), [2])),
   (4, false, (some (17, true), some 18, O.ldn [CK.int IntKind.i64, CK.int IntKind.i64] (Opd.t 2), [3])),
   (5, true, (some (17, true), some 19, O.call 21 [Opd.t 1, Opd.t 18], [4, 3, 3])),
   (6, false, (some (17, true), some 20, O.fld 1 none (Opd.t 19), [5, 3])),
   (7, false, (some (17, true), some 21, O.bin BinOp.eql (Opd.t 20) (Opd.c (AV.int IntKind.i64 3)), [6, 3])),
   (8, false, (none, some 22, O.pick (Opd.t 17) (Opd.t 21) (Opd.c (AV.bool false)), [3, 7])),
   (9, false, (none, some 23, O.mv (Opd.t 22), [8, 5])),
   (10, true, (some (23, true), some 24, O.call 27 [Opd.t 1], [9, 9])),
   (11, false, (some (23, true), some 25, O.bin BinOp.eql (Opd.t 24) (Opd.c (AV.int IntKind.i64 8)), [10, 9])),
   (12, false, (none, some 26, O.pick (Opd.t 23) (Opd.t 25) (Opd.c (AV.bool false)), [9, 11])),
   (13, false, (none, some 27, O.mv (Opd.t 26), [12, 10])),
   (14, false, (some (27, true), some 28, O.mv (Opd.t 4), [13])),
   (15, false, (some (27, true), some 29, O.bin BinOp.eql (Opd.t 28) (Opd.c (AV.int IntKind.i64 0)), [14, 13])),
   (16, false, (none, some 30, O.pick (Opd.t 27) (Opd.t 29) (Opd.c (AV.bool false)), [13, 15])),
   (17, false, (none, some 31, O.mv (Opd.t 30), [16, 13])),
   (18, false, (some (31, true), some 32, O.mv (Opd.t 3), [17])),
   (19, false, (some (31, true), some 33, O.eqp 0 true (Opd.t 32) (Opd.c AV.nilptr), [18, 17])),
   (20, false, (none, some 34, O.pick (Opd.t 31) (Opd.t 33) (Opd.c (AV.bool false)), [17, 19])),
   (21, false, (none, some 35, O.mv (Opd.t 34), [20, 17])),
   (22, false, (some (35, true), some 36, O.mv (Opd.t 3), [21])),
   (24, false, (some (35, true), some 38, O.ldn [CK.int IntKind.i64, CK.int IntKind.i64] (Opd.t 2), [21])),
   (23, true, (some (35, true), some 37, O.call 36 [Opd.t 36, Opd.c (AV.int IntKind.i64 5)], [22, 21, 21])),
   (25, false, (some (35, true), some 39, O.eqa false [CK.int IntKind.i64, CK.int IntKind.i64] (Opd.t 37) (Opd.t 38),
          [23, 24, 21])),
   (26, false, (none, some 40, O.pick (Opd.t 35) (Opd.t 39) (Opd.c (AV.bool false)), [21, 25])),
   (27, false, (none, some 0, O.mv (Opd.t 40),
          [26, 23, 0, 1, 2, 3, 4, 5, 6, 7, 8, 9, 10, 11, 12, 13, 14, 15, 16, 17, 18, 19, 20, 21, 22, 23, 24, 25, 26]))]
theorem l18_0_ok : okDraw d18_0 o18_0 = true ∧ mkL d18_0 o18_0 = some l18_0 := ⟨by kernel_rfl, by kernel_rfl⟩

def c18 : List C :=
  [C.op none (some 0) (O.mv (Opd.c (AV.bool false))), C.op none (some 1) (O.alloc [AV.nilsl]),
    C.op none (some 5)
      (O.bsl 1 [AV.int IntKind.i64 0] 8
        [(0, Opd.c (AV.int IntKind.i64 25)), (1, Opd.c (AV.int IntKind.i64 25)),
          (2, Opd.c (AV.int IntKind.i64 25)), (3, Opd.c (AV.int IntKind.i64 25)),
          (4, Opd.c (AV.int IntKind.i64 25)), (5, Opd.c (AV.int IntKind.i64 25)),
          (6, Opd.c (AV.int IntKind.i64 25)), (7, Opd.c (AV.int IntKind.i64 25))]),
    C.op none (some 6) (O.call 20 [Opd.t 1, Opd.t 5]),
    C.op none (some 7)
      (O.build [AV.int IntKind.i64 0, AV.int IntKind.i64 0]
        [(0, 1, Opd.c (AV.int IntKind.i64 10)), (1, 1, Opd.c (AV.int IntKind.i64 1))]),
    C.op none (some 8) (O.call 21 [Opd.t 1, Opd.t 7]),
    C.op none (some 2) (O.alloc [AV.int IntKind.i64 0, AV.int IntKind.i64 0]),
    C.op none none (O.st 2 (Opd.t 2) (Opd.t 8)),
    C.op none (some 10) (O.ldn [CK.int IntKind.i64, CK.int IntKind.i64] (Opd.t 2)),
    C.op none (some 11) (O.call 29 [Opd.t 10]), C.op none (some 9) (O.mv (Opd.t 11)),
    C.op none (some 12) (O.ext (Opd.t 9) 0), C.op none (some 13) (O.ext (Opd.t 9) 1),
    C.op none (some 3) (O.mv (Opd.t 12)), C.op none (some 4) (O.mv (Opd.t 13)),
    C.draw d18_0,
    C.ret]
def r18 : List RV := [RV.t 0]
theorem c18_ok : cC Try.prog Try.f18.ntmps (Try.f18.body.getD .skip) = some c18 := by kernel_rfl

def c19 : List C :=
  [C.op none (some 4) (O.alloc [AV.int IntKind.i64 0, AV.int IntKind.i64 0]),
    C.op none (some 5) (O.mv (Opd.t 0)),
    C.op none (some 6) (O.bin BinOp.and (Opd.t 5) (Opd.c (AV.int IntKind.i64 63))),
    C.op none (some 7) (O.bin BinOp.add (Opd.c (AV.int IntKind.i64 1)) (Opd.t 6)),
    C.op none (some 8) (O.mv (Opd.t 1)),
    C.op none (some 9) (O.bin BinOp.and (Opd.t 8) (Opd.c (AV.int IntKind.i64 255))),
    C.op none (some 10) (O.bin BinOp.rem (Opd.t 9) (Opd.c (AV.int IntKind.i64 6))),
    C.op none (some 11) (O.bin BinOp.add (Opd.c (AV.int IntKind.i64 1)) (Opd.t 10)),
    C.op none (some 12)
      (O.build [AV.int IntKind.i64 0, AV.int IntKind.i64 0]
        [(0, 1, Opd.t 7), (1, 1, Opd.t 11)]),
    C.op none none (O.st 2 (Opd.t 4) (Opd.t 12)), C.ret]
def r19 : List RV := [RV.cn 4 2]
theorem c19_ok : cC Try.prog Try.f19.ntmps (Try.f19.body.getD .skip) = some c19 := by kernel_rfl

def c20 : List C :=
  [C.op none (some 6) (O.mv (Opd.t 1)), C.op none (some 7) (O.len false (Opd.t 6)),
    C.op none (some 8) (O.mv (Opd.c (AV.int IntKind.i64 0))),
    C.blk 0
      [C.loop
          [C.op none (some 9) (O.bin BinOp.lss (Opd.t 8) (Opd.t 7)), C.cond (Opd.t 9) [] [C.exit 0],
            C.blk 1
              [C.op none (some 10) (O.iad 1 (Opd.t 6) (Opd.t 8)),
                C.op none (some 11) (O.ld (CK.int IntKind.i64) (Opd.t 10)), C.op none (some 5) (O.mv (Opd.t 11)),
                C.op none (some 12) (O.mv (Opd.t 0)), C.op none (some 13) (O.mv (Opd.t 0)),
                C.op none (some 14) (O.nck (Opd.t 13)), C.op none (some 15) (O.fad 0 (Opd.t 14)),
                C.op none (some 16) (O.ld CK.any (Opd.t 15)), C.op none (some 17) (O.mv (Opd.t 5)),
                C.op none (some 18) (O.mx [Opd.t 17, Opd.c (AV.int IntKind.i64 0)]),
                C.op none (some 19) (O.bsl 1 [AV.int IntKind.i64 0] 1 [(0, Opd.t 18)]),
                C.op none (some 20) (O.app 1 (Opd.t 16) (Opd.t 19)), C.op none (some 21) (O.nck (Opd.t 12)),
                C.op none (some 22) (O.fad 0 (Opd.t 21)), C.op none none (O.st 1 (Opd.t 22) (Opd.t 20)),
                C.op none (some 23) (O.mv (Opd.t 0)), C.op none (some 24) (O.nck (Opd.t 23)),
                C.op none (some 25) (O.fad 0 (Opd.t 24)), C.op none (some 26) (O.ld CK.any (Opd.t 25)),
                C.op none (some 27) (O.len false (Opd.t 26)),
                C.op none (some 28) (O.bin BinOp.gtr (Opd.t 27) (Opd.c (AV.int IntKind.i64 8))),
                C.cond (Opd.t 28)
                  [C.op none (some 29) (O.mv (Opd.t 0)), C.op none (some 30) (O.mv (Opd.t 0)),
                    C.op none (some 31) (O.nck (Opd.t 30)), C.op none (some 32) (O.fad 0 (Opd.t 31)),
                    C.op none (some 33) (O.ld CK.any (Opd.t 32)),
                    C.op none (some 34)
                      (O.lsl 1 (Opd.t 33) (some (Opd.c (AV.int IntKind.i64 1))) none none),
                    C.op none (some 35) (O.nck (Opd.t 29)), C.op none (some 36) (O.fad 0 (Opd.t 35)),
                    C.op none none (O.st 1 (Opd.t 36) (Opd.t 34))]
                  []],
            C.op none (some 37) (O.bin BinOp.add (Opd.t 8) (Opd.c (AV.int IntKind.i64 1))),
            C.op none (some 8) (O.mv (Opd.t 37))]]]
def r20 : List RV := []
theorem c20_ok : cC Try.prog Try.f20.ntmps (Try.f20.body.getD .skip) = some c20 := by kernel_rfl

def d21_0 : List It :=
  [(none, some 10, O.mv (Opd.t 0), []), (none, some 11, O.call 23 [Opd.t 10], [0]),
        (none, some 12, O.mn [Opd.t 11, Opd.c (AV.int IntKind.i64 1048576)], [1]),
        (none, some 13, O.fad 0 (Opd.t 3), []), (none, some 14, O.ld (CK.int IntKind.i64) (Opd.t 13), [3]),
        (none, some 15, O.bin BinOp.add (Opd.t 12) (Opd.t 14), [2, 4]),
        (none, some 16, O.bin BinOp.sub (Opd.t 15) (Opd.c (AV.int IntKind.i64 1)), [5]),
        (none, some 17, O.fad 0 (Opd.t 3), []), (none, some 18, O.ld (CK.int IntKind.i64) (Opd.t 17), [7]),
        (none, some 19, O.bin BinOp.quo (Opd.t 16) (Opd.t 18), [6, 8]),
        (none, some 5, O.mv (Opd.t 19), [9, 1, 0, 1, 2, 3, 4, 5, 6, 7, 8, 9])]
def o21_0 : List (Nat × Bool) := [(0, false), (3, false), (4, false), (7, false), (8, false), (1, true), (2, false), (5, false), (6, false), (9, false), (10, false)]
def l21_0 : List (Nat × Bool × It) :=
  [(0, false, (none, some 10, O.mv (Opd.t 0), [])),
   (3, false, (none, some 13, O.fad 0 (Opd.t 3), [])),
   (4, false, (none, some 14, O.ld (CK.int IntKind.i64) (Opd.t 13), [3])),
   (7, false, (none, some 17, O.fad 0 (Opd.t 3), [])),
   (8, false, (none, some 18, O.ld (CK.int IntKind.i64) (Opd.t 17), [7])),
   (1, true, (none, some 11, O.call 23 [Opd.t 10], [0])),
   (2, false, (none, some 12, O.mn [Opd.t 11, Opd.c (AV.int IntKind.i64 1048576)], [1])),
   (5, false, (none, some 15, O.bin BinOp.add (Opd.t 12) (Opd.t 14), [2, 4])),
   (6, false, (none, some 16, O.bin BinOp.sub (Opd.t 15) (Opd.c (AV.int IntKind.i64 1)), [5])),
   (9, false, (none, some 19, O.bin BinOp.quo (Opd.t 16) (Opd.t 18), [6, 8])),
   (10, false, (none, some 5, O.mv (Opd.t 19), [9, 1, 0, 1, 2, 3, 4, 5, 6, 7, 8, 9]))]
theorem l21_0_ok : okDraw d21_0 o21_0 = true ∧ mkL d21_0 o21_0 = some l21_0 := ⟨by kernel_rfl, by kernel_rfl⟩

def d21_1 : List It :=
  [(none, some 49, O.mv (Opd.t 5), []), (none, some 50, O.fad 1 (Opd.t 3), []),
                    (none, some 51, O.ld (CK.int IntKind.i64) (Opd.t 50), [1]),
                    (none, some 52, O.bin BinOp.lss (Opd.t 49) (Opd.t 51), [0, 2]),
                    (none, some 53, O.mv (Opd.t 52), [3]), (some (53, true), some 54, O.fad 1 (Opd.t 3), [4]),
                    (some (53, true), some 55, O.ld (CK.int IntKind.i64) (Opd.t 54), [5, 4]),
                    (some (53, true), some 56, O.bin BinOp.gtr (Opd.t 55) (Opd.c (AV.int IntKind.i64 1)),
                      [6, 4]),
                    (none, some 57, O.pick (Opd.t 53) (Opd.t 56) (Opd.c (AV.bool false)), [4, 7]),
                    (none, some 58, O.mv (Opd.t 57), [8, 4]), (some (58, true), some 59, O.mv (Opd.t 0), [9]),
                    (some (58, true), some 60, O.call 25 [Opd.t 59], [10, 9, 9]),
                    (some (58, true), some 61, O.fad 0 (Opd.t 3), [9]),
                    (some (58, true), some 62, O.ld (CK.int IntKind.i64) (Opd.t 61), [12, 9]),
                    (some (58, true), some 63, O.fad 1 (Opd.t 3), [9]),
                    (some (58, true), some 64, O.ld (CK.int IntKind.i64) (Opd.t 63), [14, 9]),
                    (some (58, true), some 65, O.bin BinOp.sub (Opd.t 64) (Opd.c (AV.int IntKind.i64 1)),
                      [15, 9]),
                    (some (58, true), some 66, O.bin BinOp.mul (Opd.t 62) (Opd.t 65), [13, 16, 9]),
                    (some (58, true), some 67, O.bin BinOp.lss (Opd.t 60) (Opd.t 66), [11, 17, 9]),
                    (none, some 68, O.pick (Opd.t 58) (Opd.t 67) (Opd.c (AV.bool false)), [9, 18]),
                    (none, some 48, O.mv (Opd.t 68), [19, 11])]
def o21_1 : List (Nat × Bool) := [(0, false), (1, false), (2, false), (3, false), (4, false), (5, false), (6, false), (7, false), (8, false), (9, false), (10, false), (12, false), (13, false), (14, false), (15, false), (16, false), (17, false), (11, true), (18, false), (19, false), (20, false)]
def l21_1 : List (Nat × Bool × It) :=
  [(0, false, (none, some 49, O.mv (Opd.t 5), [])),
   (1, false, (none, some 50, O.fad 1 (Opd.t 3), [])),
   (2, false, (none, some 51, O.ld (CK.int IntKind.i64) (Opd.t 50), [1])),
   (3, false, (none, some 52, O.bin BinOp.lss (Opd.t 49) (Opd.t 51), [0, 2])),
   (4, false, (none, some 53, O.mv (Opd.t 52), [3])),
   (5, false, (some (53, true), some 54, O.fad 1 (Opd.t 3), [4])),
   (6, false, (some (53, true), some 55, O.ld (CK.int IntKind.i64) (Opd.t 54), [5, 4])),
   (7, false, (some (53, true), some 56, O.bin BinOp.gtr (Opd.t 55) (Opd.c (AV.int IntKind.i64 1)),
                      [6, 4])),
   (8, false, (none, some 57, O.pick (Opd.t 53) (Opd.t 56) (Opd.c (AV.bool false)), [4, 7])),
   (9, false, (none, some 58, O.mv (Opd.t 57), [8, 4])),
   (10, false, (some (58, true), some 59, O.mv (Opd.t 0), [9])),
   (12, false, (some (58, true), some 61, O.fad 0 (Opd.t 3), [9])),
   (13, false, (some (58, true), some 62, O.ld (CK.int IntKind.i64) (Opd.t 61), [12, 9])),
   (14, false, (some (58, true), some 63, O.fad 1 (Opd.t 3), [9])),
   (15, false, (some (58, true), some 64, O.ld (CK.int IntKind.i64) (Opd.t 63), [14, 9])),
   (16, false, (some (58, true), some 65, O.bin BinOp.sub (Opd.t 64) (Opd.c (AV.int IntKind.i64 1)),
                      [15, 9])),
   (17, false, (some (58, true), some 66, O.bin BinOp.mul (Opd.t 62) (Opd.t 65), [13, 16, 9])),
   (11, true, (some (58, true), some 60, O.call 25 [Opd.t 59], [10, 9, 9])),
   (18, false, (some (58, true), some 67, O.bin BinOp.lss (Opd.t 60) (Opd.t 66), [11, 17, 9])),
   (19, false, (none, some 68, O.pick (Opd.t 58) (Opd.t 67) (Opd.c (AV.bool false)), [9, 18])),
   (20, false, (none, some 48, O.mv (Opd.t 68), [19, 11]))]
theorem l21_1_ok : okDraw d21_1 o21_1 = true ∧ mkL d21_1 o21_1 = some l21_1 := ⟨by kernel_rfl, by kernel_rfl⟩

def c21 : List C :=
  [C.op none (some 3) (O.box (Opd.t 1)),
    C.op none (some 4) (O.alloc [AV.int IntKind.i64 0, AV.int IntKind.i64 0]),
    C.op none (some 6) (O.mv (Opd.t 0)), C.op none (some 7) (O.call 27 [Opd.t 6]),
    C.op none (some 8) (O.bin BinOp.lss (Opd.t 7) (Opd.c (AV.int IntKind.i64 8))),
    C.cond (Opd.t 8)
      [C.op none (some 9) (O.ldn [CK.int IntKind.i64, CK.int IntKind.i64] (Opd.t 3)),
        C.op none none (O.st 2 (Opd.t 4) (Opd.t 9)), C.ret]
      [],
    C.draw d21_0,
    C.blk 0
      [C.op none (some 21) (O.mv (Opd.t 5)), C.op none (some 22) (O.fad 1 (Opd.t 3)),
        C.op none (some 23) (O.ld (CK.int IntKind.i64) (Opd.t 22)),
        C.op none (some 24) (O.bin BinOp.gtr (Opd.t 21) (Opd.t 23)), C.op none (some 25) (O.mv (Opd.t 24)),
        C.op (some (25, true)) (some 26) (O.fad 1 (Opd.t 3)),
        C.op (some (25, true)) (some 27) (O.ld (CK.int IntKind.i64) (Opd.t 26)),
        C.op (some (25, true)) (some 28) (O.bin BinOp.lss (Opd.t 27) (Opd.c (AV.int IntKind.i64 6))),
        C.op none (some 29) (O.pick (Opd.t 25) (Opd.t 28) (Opd.c (AV.bool false))),
        C.op none (some 20) (O.mv (Opd.t 29)),
        C.cond (Opd.t 20)
          [C.op none (some 30) (O.fad 1 (Opd.t 3)), C.op none (some 31) (O.ld (CK.int IntKind.i64) (Opd.t 30)),
            C.op none (some 32) (O.bin BinOp.add (Opd.t 31) (Opd.c (AV.int IntKind.i64 1))),
            C.op none (some 33) (O.fad 1 (Opd.t 3)), C.op none none (O.st 1 (Opd.t 33) (Opd.t 32))]
          [C.op none (some 35) (O.mv (Opd.t 5)), C.op none (some 36) (O.fad 1 (Opd.t 3)),
            C.op none (some 37) (O.ld (CK.int IntKind.i64) (Opd.t 36)),
            C.op none (some 38) (O.bin BinOp.gtr (Opd.t 35) (Opd.t 37)), C.op none (some 39) (O.mv (Opd.t 38)),
            C.op (some (39, true)) (some 40) (O.fad 0 (Opd.t 3)),
            C.op (some (39, true)) (some 41) (O.ld (CK.int IntKind.i64) (Opd.t 40)),
            C.op (some (39, true)) (some 42) (O.bin BinOp.lss (Opd.t 41) (Opd.c (AV.int IntKind.i64 64))),
            C.op none (some 43) (O.pick (Opd.t 39) (Opd.t 42) (Opd.c (AV.bool false))),
            C.op none (some 34) (O.mv (Opd.t 43)),
            C.cond (Opd.t 34)
              [C.op none (some 44) (O.fad 0 (Opd.t 3)), C.op none (some 45) (O.ld (CK.int IntKind.i64) (Opd.t 44)),
                C.op none (some 46) (O.bin BinOp.add (Opd.t 45) (Opd.c (AV.int IntKind.i64 1))),
                C.op none (some 47) (O.fad 0 (Opd.t 3)), C.op none none (O.st 1 (Opd.t 47) (Opd.t 46))]
              [C.draw d21_1,
                C.cond (Opd.t 48)
                  [C.op none (some 69) (O.fad 1 (Opd.t 3)), C.op none (some 70) (O.ld (CK.int IntKind.i64) (Opd.t 69)),
                    C.op none (some 71) (O.bin BinOp.sub (Opd.t 70) (Opd.c (AV.int IntKind.i64 1))),
                    C.op none (some 72) (O.fad 1 (Opd.t 3)), C.op none none (O.st 1 (Opd.t 72) (Opd.t 71))]
                  []]]],
    C.op none (some 73) (O.ldn [CK.int IntKind.i64, CK.int IntKind.i64] (Opd.t 3)),
    C.op none none (O.st 2 (Opd.t 4) (Opd.t 73)), C.ret]
def r21 : List RV := [RV.cn 4 2]
theorem c21_ok : cC Try.prog Try.f21.ntmps (Try.f21.body.getD .skip) = some c21 := by kernel_rfl

def d22_0 : List It :=
  [(none, some 46, O.mv (Opd.t 6), []), (none, some 47, O.fad 1 (Opd.t 3), []),
        (none, some 48, O.ld (CK.int IntKind.i64) (Opd.t 47), [1]),
        (none, some 49, O.bin BinOp.lss (Opd.t 46) (Opd.t 48), [0, 2]), (none, some 50, O.mv (Opd.t 49), [3]),
        (some (50, true), some 51, O.fad 1 (Opd.t 3), [4]),
        (some (50, true), some 52, O.ld (CK.int IntKind.i64) (Opd.t 51), [5, 4]),
        (some (50, true), some 53, O.bin BinOp.gtr (Opd.t 52) (Opd.c (AV.int IntKind.i64 1)), [6, 4]),
        (none, some 54, O.pick (Opd.t 50) (Opd.t 53) (Opd.c (AV.bool false)), [4, 7]),
        (none, some 55, O.mv (Opd.t 54), [8, 4]), (some (55, true), some 56, O.mv (Opd.t 0), [9]),
        (some (55, true), some 57, O.call 26 [Opd.t 56], [10, 9, 9]),
        (some (55, true), some 58, O.fad 0 (Opd.t 3), [9]),
        (some (55, true), some 59, O.ld (CK.int IntKind.i64) (Opd.t 58), [12, 9]),
        (some (55, true), some 60, O.fad 1 (Opd.t 3), [9]),
        (some (55, true), some 61, O.ld (CK.int IntKind.i64) (Opd.t 60), [14, 9]),
        (some (55, true), some 62, O.bin BinOp.sub (Opd.t 61) (Opd.c (AV.int IntKind.i64 1)), [15, 9]),
        (some (55, true), some 63, O.bin BinOp.mul (Opd.t 59) (Opd.t 62), [13, 16, 9]),
        (some (55, true), some 64, O.bin BinOp.lss (Opd.t 57) (Opd.t 63), [11, 17, 9]),
        (none, some 65, O.pick (Opd.t 55) (Opd.t 64) (Opd.c (AV.bool false)), [9, 18])]
def o22_0 : List (Nat × Bool) := [(0, false), (1, false), (2, false), (3, false), (4, false), (5, false), (6, false), (7, false), (8, false), (9, false), (10, false), (12, false), (13, false), (14, false), (15, false), (16, false), (17, false), (11, true), (18, false), (19, false)]
def l22_0 : List (Nat × Bool × It) :=
  [(0, false, (none, some 46, O.mv (Opd.t 6), [])),
   (1, false, (none, some 47, O.fad 1 (Opd.t 3), [])),
   (2, false, (none, some 48, O.ld (CK.int IntKind.i64) (Opd.t 47), [1])),
   (3, false, (none, some 49, O.bin BinOp.lss (Opd.t 46) (Opd.t 48), [0, 2])),
   (4, false, (none, some 50, O.mv (Opd.t 49), [3])),
   (5, false, (some (50, true), some 51, O.fad 1 (Opd.t 3), [4])),
   (6, false, (some (50, true), some 52, O.ld (CK.int IntKind.i64) (Opd.t 51), [5, 4])),
   (7, false, (some (50, true), some 53, O.bin BinOp.gtr (Opd.t 52) (Opd.c (AV.int IntKind.i64 1)), [6, 4])),
   (8, false, (none, some 54, O.pick (Opd.t 50) (Opd.t 53) (Opd.c (AV.bool false)), [4, 7])),
   (9, false, (none, some 55, O.mv (Opd.t 54), [8, 4])),
   (10, false, (some (55, true), some 56, O.mv (Opd.t 0), [9])),
   (12, false, (some (55, true), some 58, O.fad 0 (Opd.t 3), [9])),
   (13, false, (some (55, true), some 59, O.ld (CK.int IntKind.i64) (Opd.t 58), [12, 9])),
   (14, false, (some (55, true), some 60, O.fad 1 (Opd.t 3), [9])),
   (15, false, (some (55, true), some 61, O.ld (CK.int IntKind.i64) (Opd.t 60), [14, 9])),
   (16, false, (some (55, true), some 62, O.bin BinOp.sub (Opd.t 61) (Opd.c (AV.int IntKind.i64 1)), [15, 9])),
   (17, false, (some (55, true), some 63, O.bin BinOp.mul (Opd.t 59) (Opd.t 62), [13, 16, 9])),
   (11, true, (some (55, true), some 57, O.call 26 [Opd.t 56], [10, 9, 9])),
   (18, false, (some (55, true), some 64, O.bin BinOp.lss (Opd.t 57) (Opd.t 63), [11, 17, 9])),
   (19, false, (none, some 65, O.pick (Opd.t 55) (Opd.t 64) (Opd.c (AV.bool false)), [9, 18]))]
theorem l22_0_ok : okDraw d22_0 o22_0 = true ∧ mkL d22_0 o22_0 = some l22_0 := ⟨by kernel_rfl, by kernel_rfl⟩

def c22 : List C :=
  [C.op none (some 3) (O.box (Opd.t 1)),
    C.op none (some 4) (O.alloc [AV.int IntKind.i64 0, AV.int IntKind.i64 0]),
    C.op none (some 7) (O.mv (Opd.t 0)), C.op none (some 8) (O.len false (Opd.t 7)),
    C.op none (some 9) (O.bin BinOp.lss (Opd.t 8) (Opd.c (AV.int IntKind.i64 8))),
    C.cond (Opd.t 9)
      [C.op none (some 10) (O.ldn [CK.int IntKind.i64, CK.int IntKind.i64] (Opd.t 3)),
        C.op none none (O.st 2 (Opd.t 4) (Opd.t 10)), C.ret]
      [],
    C.op none (some 11) (O.mv (Opd.t 0)), C.op none (some 12) (O.call 24 [Opd.t 11]),
    C.op none (some 13) (O.mn [Opd.t 12, Opd.c (AV.int IntKind.i64 1048576)]),
    C.op none (some 5) (O.mv (Opd.t 13)), C.op none (some 14) (O.mv (Opd.t 5)), C.op none (some 15) (O.fad 0 (Opd.t 3)),
    C.op none (some 16) (O.ld (CK.int IntKind.i64) (Opd.t 15)),
    C.op none (some 17) (O.bin BinOp.quo (Opd.t 14) (Opd.t 16)), C.op none (some 6) (O.mv (Opd.t 17)),
    C.op none (some 18) (O.mv (Opd.t 6)), C.op none (some 19) (O.fad 0 (Opd.t 3)),
    C.op none (some 20) (O.ld (CK.int IntKind.i64) (Opd.t 19)),
    C.op none (some 21) (O.bin BinOp.mul (Opd.t 18) (Opd.t 20)), C.op none (some 22) (O.mv (Opd.t 5)),
    C.op none (some 23) (O.bin BinOp.lss (Opd.t 21) (Opd.t 22)),
    C.cond (Opd.t 23)
      [C.op none (some 24) (O.mv (Opd.t 6)),
        C.op none (some 25) (O.bin BinOp.add (Opd.t 24) (Opd.c (AV.int IntKind.i64 1))),
        C.op none (some 6) (O.mv (Opd.t 25))]
      [],
    C.op none (some 26) (O.mv (Opd.t 6)), C.op none (some 27) (O.fad 1 (Opd.t 3)),
    C.op none (some 28) (O.ld (CK.int IntKind.i64) (Opd.t 27)),
    C.op none (some 29) (O.bin BinOp.gtr (Opd.t 26) (Opd.t 28)),
    C.cond (Opd.t 29)
      [C.op none (some 30) (O.fad 1 (Opd.t 3)), C.op none (some 31) (O.ld (CK.int IntKind.i64) (Opd.t 30)),
        C.op none (some 32) (O.bin BinOp.lss (Opd.t 31) (Opd.c (AV.int IntKind.i64 6))),
        C.cond (Opd.t 32)
          [C.op none (some 33) (O.fad 0 (Opd.t 3)), C.op none (some 34) (O.ld (CK.int IntKind.i64) (Opd.t 33)),
            C.op none (some 35) (O.fad 1 (Opd.t 3)), C.op none (some 36) (O.ld (CK.int IntKind.i64) (Opd.t 35)),
            C.op none (some 37) (O.bin BinOp.add (Opd.t 36) (Opd.c (AV.int IntKind.i64 1))),
            C.op none (some 38)
              (O.build [AV.int IntKind.i64 0, AV.int IntKind.i64 0]
                [(0, 1, Opd.t 34), (1, 1, Opd.t 37)]),
            C.op none none (O.st 2 (Opd.t 4) (Opd.t 38)), C.ret]
          [],
        C.op none (some 39) (O.fad 0 (Opd.t 3)), C.op none (some 40) (O.ld (CK.int IntKind.i64) (Opd.t 39)),
        C.op none (some 41) (O.bin BinOp.add (Opd.t 40) (Opd.c (AV.int IntKind.i64 1))),
        C.op none (some 42) (O.mn [Opd.t 41, Opd.c (AV.int IntKind.i64 64)]),
        C.op none (some 43) (O.fad 1 (Opd.t 3)), C.op none (some 44) (O.ld (CK.int IntKind.i64) (Opd.t 43)),
        C.op none (some 45)
          (O.build [AV.int IntKind.i64 0, AV.int IntKind.i64 0]
            [(0, 1, Opd.t 42), (1, 1, Opd.t 44)]),
        C.op none none (O.st 2 (Opd.t 4) (Opd.t 45)), C.ret]
      [],
    C.draw d22_0,
    C.cond (Opd.t 65)
      [C.op none (some 66) (O.fad 0 (Opd.t 3)), C.op none (some 67) (O.ld (CK.int IntKind.i64) (Opd.t 66)),
        C.op none (some 68) (O.fad 1 (Opd.t 3)), C.op none (some 69) (O.ld (CK.int IntKind.i64) (Opd.t 68)),
        C.op none (some 70) (O.bin BinOp.sub (Opd.t 69) (Opd.c (AV.int IntKind.i64 1))),
        C.op none (some 71)
          (O.build [AV.int IntKind.i64 0, AV.int IntKind.i64 0]
            [(0, 1, Opd.t 67), (1, 1, Opd.t 70)]),
        C.op none none (O.st 2 (Opd.t 4) (Opd.t 71)), C.ret]
      [],
    C.op none (some 72) (O.ldn [CK.int IntKind.i64, CK.int IntKind.i64] (Opd.t 3)),
    C.op none none (O.st 2 (Opd.t 4) (Opd.t 72)), C.ret]
def r22 : List RV := [RV.cn 4 2]
theorem c22_ok : cC Try.prog Try.f22.ntmps (Try.f22.body.getD .skip) = some c22 := by kernel_rfl

def c23 : List C :=
  [C.op none (some 2) (O.mv (Opd.c (AV.int IntKind.i64 0))),
    C.op none (some 3) (O.mv (Opd.c (AV.int IntKind.i64 0))), C.op none (some 6) (O.mv (Opd.t 0)),
    C.op none (some 7) (O.nck (Opd.t 6)), C.op none (some 8) (O.fad 0 (Opd.t 7)),
    C.op none (some 9) (O.ld CK.any (Opd.t 8)), C.op none (some 10) (O.len false (Opd.t 9)),
    C.op none (some 11) (O.mv (Opd.c (AV.int IntKind.i64 0))),
    C.blk 0
      [C.loop
          [C.op none (some 12) (O.bin BinOp.lss (Opd.t 11) (Opd.t 10)), C.cond (Opd.t 12) [] [C.exit 0],
            C.blk 1
              [C.op none (some 13) (O.iad 1 (Opd.t 9) (Opd.t 11)),
                C.op none (some 14) (O.ld (CK.int IntKind.i64) (Opd.t 13)), C.op none (some 5) (O.mv (Opd.t 14)),
                C.op none (some 15) (O.mv (Opd.t 3)), C.op none (some 16) (O.mv (Opd.t 5)),
                C.op none (some 17) (O.mx [Opd.t 15, Opd.t 16]), C.op none (some 3) (O.mv (Opd.t 17))],
            C.op none (some 18) (O.bin BinOp.add (Opd.t 11) (Opd.c (AV.int IntKind.i64 1))),
            C.op none (some 11) (O.mv (Opd.t 18))]],
    C.op none (some 19) (O.mv (Opd.t 3)), C.op none (some 2) (O.mv (Opd.t 19)), C.ret]
def r23 : List RV := [RV.t 2]
theorem c23_ok : cC Try.prog Try.f23.ntmps (Try.f23.body.getD .skip) = some c23 := by kernel_rfl

def c24 : List C :=
  [C.op none (some 2) (O.mv (Opd.c (AV.int IntKind.i64 0))),
    C.op none (some 3) (O.mv (Opd.c (AV.int IntKind.i64 0))), C.op none (some 6) (O.mv (Opd.t 0)),
    C.op none (some 7) (O.call 48 [Opd.t 6]), C.op none (some 8) (O.len false (Opd.t 7)),
    C.op none (some 9) (O.mv (Opd.c (AV.int IntKind.i64 0))),
    C.blk 0
      [C.loop
          [C.op none (some 10) (O.bin BinOp.lss (Opd.t 9) (Opd.t 8)), C.cond (Opd.t 10) [] [C.exit 0],
            C.blk 1
              [C.op none (some 11) (O.iad 1 (Opd.t 7) (Opd.t 9)),
                C.op none (some 12) (O.ld (CK.int IntKind.i64) (Opd.t 11)), C.op none (some 5) (O.mv (Opd.t 12)),
                C.op none (some 13) (O.mv (Opd.t 3)), C.op none (some 14) (O.mv (Opd.t 5)),
                C.op none (some 15) (O.mx [Opd.t 13, Opd.t 14]), C.op none (some 3) (O.mv (Opd.t 15))],
            C.op none (some 16) (O.bin BinOp.add (Opd.t 9) (Opd.c (AV.int IntKind.i64 1))),
            C.op none (some 9) (O.mv (Opd.t 16))]],
    C.op none (some 17) (O.mv (Opd.t 3)), C.op none (some 2) (O.mv (Opd.t 17)), C.ret]
def r24 : List RV := [RV.t 2]
theorem c24_ok : cC Try.prog Try.f24.ntmps (Try.f24.body.getD .skip) = some c24 := by kernel_rfl

def c25 : List C :=
  [C.op none (some 2) (O.mv (Opd.c (AV.int IntKind.i64 0))), C.op none (some 6) (O.mv (Opd.t 0)),
    C.op none (some 7) (O.nck (Opd.t 6)), C.op none (some 8) (O.fad 0 (Opd.t 7)),
    C.op none (some 9) (O.ld CK.any (Opd.t 8)), C.op none (some 10) (O.len false (Opd.t 9)),
    C.op none (some 11) (O.bin BinOp.eql (Opd.t 10) (Opd.c (AV.int IntKind.i64 0))),
    C.cond (Opd.t 11) [C.op none (some 2) (O.mv (Opd.c (AV.int IntKind.i64 0))), C.ret] [],
    C.op none (some 3) (O.mv (Opd.c (AV.int IntKind.i64 0))), C.op none (some 12) (O.mv (Opd.t 0)),
    C.op none (some 13) (O.nck (Opd.t 12)), C.op none (some 14) (O.fad 0 (Opd.t 13)),
    C.op none (some 15) (O.ld CK.any (Opd.t 14)), C.op none (some 16) (O.len false (Opd.t 15)),
    C.op none (some 17) (O.mv (Opd.c (AV.int IntKind.i64 0))),
    C.blk 0
      [C.loop
          [C.op none (some 18) (O.bin BinOp.lss (Opd.t 17) (Opd.t 16)), C.cond (Opd.t 18) [] [C.exit 0],
            C.blk 1
              [C.op none (some 19) (O.iad 1 (Opd.t 15) (Opd.t 17)),
                C.op none (some 20) (O.ld (CK.int IntKind.i64) (Opd.t 19)), C.op none (some 5) (O.mv (Opd.t 20)),
                C.op none (some 21) (O.mv (Opd.t 3)), C.op none (some 22) (O.mv (Opd.t 5)),
                C.op none (some 23) (O.mn [Opd.t 22, Opd.c (AV.int IntKind.i64 1048576)]),
                C.op none (some 24) (O.bin BinOp.add (Opd.t 21) (Opd.t 23)), C.op none (some 3) (O.mv (Opd.t 24))],
            C.op none (some 25) (O.bin BinOp.add (Opd.t 17) (Opd.c (AV.int IntKind.i64 1))),
            C.op none (some 17) (O.mv (Opd.t 25))]],
    C.op none (some 26) (O.mv (Opd.t 3)), C.op none (some 27) (O.mv (Opd.t 0)), C.op none (some 28) (O.nck (Opd.t 27)),
    C.op none (some 29) (O.fad 0 (Opd.t 28)), C.op none (some 30) (O.ld CK.any (Opd.t 29)),
    C.op none (some 31) (O.len false (Opd.t 30)), C.op none (some 32) (O.bin BinOp.quo (Opd.t 26) (Opd.t 31)),
    C.op none (some 2) (O.mv (Opd.t 32)), C.ret]
def r25 : List RV := [RV.t 2]
theorem c25_ok : cC Try.prog Try.f25.ntmps (Try.f25.body.getD .skip) = some c25 := by kernel_rfl

def c26 : List C :=
  [C.op none (some 2) (O.mv (Opd.c (AV.int IntKind.i64 0))),
    C.op none (some 3) (O.mv (Opd.c (AV.int IntKind.i64 0))), C.op none (some 6) (O.mv (Opd.t 0)),
    C.op none (some 7) (O.call 48 [Opd.t 6]), C.op none (some 8) (O.len false (Opd.t 7)),
    C.op none (some 9) (O.mv (Opd.c (AV.int IntKind.i64 0))),
    C.blk 0
      [C.loop
          [C.op none (some 10) (O.bin BinOp.lss (Opd.t 9) (Opd.t 8)), C.cond (Opd.t 10) [] [C.exit 0],
            C.blk 1
              [C.op none (some 11) (O.iad 1 (Opd.t 7) (Opd.t 9)),
                C.op none (some 12) (O.ld (CK.int IntKind.i64) (Opd.t 11)), C.op none (some 5) (O.mv (Opd.t 12)),
                C.op none (some 13) (O.mv (Opd.t 3)), C.op none (some 14) (O.mv (Opd.t 5)),
                C.op none (some 15) (O.mn [Opd.t 14, Opd.c (AV.int IntKind.i64 1048576)]),
                C.op none (some 16) (O.mx [Opd.t 15, Opd.c (AV.int IntKind.i64 0)]),
                C.op none (some 17) (O.bin BinOp.add (Opd.t 13) (Opd.t 16)), C.op none (some 3) (O.mv (Opd.t 17))],
            C.op none (some 18) (O.bin BinOp.add (Opd.t 9) (Opd.c (AV.int IntKind.i64 1))),
            C.op none (some 9) (O.mv (Opd.t 18))]],
    C.op none (some 19) (O.mv (Opd.t 0)), C.op none (some 20) (O.len false (Opd.t 19)),
    C.op none (some 21) (O.bin BinOp.eql (Opd.t 20) (Opd.c (AV.int IntKind.i64 0))),
    C.cond (Opd.t 21) [C.op none (some 2) (O.mv (Opd.c (AV.int IntKind.i64 0))), C.ret] [],
    C.op none (some 22) (O.mv (Opd.t 3)), C.op none (some 23) (O.mv (Opd.t 0)),
    C.op none (some 24) (O.call 48 [Opd.t 23]), C.op none (some 25) (O.len false (Opd.t 24)),
    C.op none (some 26) (O.bin BinOp.quo (Opd.t 22) (Opd.t 25)), C.op none (some 2) (O.mv (Opd.t 26)), C.ret]
def r26 : List RV := [RV.t 2]
theorem c26_ok : cC Try.prog Try.f26.ntmps (Try.f26.body.getD .skip) = some c26 := by kernel_rfl

def c27 : List C :=
  [C.op none (some 2) (O.mv (Opd.c (AV.int IntKind.i64 0))), C.op none (some 3) (O.mv (Opd.t 0)),
    C.op none (some 4) (O.nck (Opd.t 3)), C.op none (some 5) (O.fad 0 (Opd.t 4)),
    C.op none (some 6) (O.ld CK.any (Opd.t 5)), C.op none (some 7) (O.len false (Opd.t 6)),
    C.op none (some 2) (O.mv (Opd.t 7)), C.ret]
def r27 : List RV := [RV.t 2]
theorem c27_ok : cC Try.prog Try.f27.ntmps (Try.f27.body.getD .skip) = some c27 := by kernel_rfl

def c28 : List C :=
  [C.op none (some 1) (O.box (Opd.t 0)), C.op none (some 2) (O.mv (Opd.c (AV.int IntKind.i64 0))),
    C.op none (some 3) (O.fad 0 (Opd.t 1)), C.op none (some 4) (O.ld (CK.int IntKind.i64) (Opd.t 3)),
    C.op none (some 5) (O.bin BinOp.lss (Opd.t 4) (Opd.c (AV.int IntKind.i64 1))),
    C.op none (some 6) (O.mv (Opd.t 5)), C.op (some (6, false)) (some 7) (O.fad 0 (Opd.t 1)),
    C.op (some (6, false)) (some 8) (O.ld (CK.int IntKind.i64) (Opd.t 7)),
    C.op (some (6, false)) (some 9) (O.bin BinOp.gtr (Opd.t 8) (Opd.c (AV.int IntKind.i64 64))),
    C.op none (some 10) (O.pick (Opd.t 6) (Opd.c (AV.bool true)) (Opd.t 9)), C.op none (some 11) (O.mv (Opd.t 10)),
    C.op (some (11, false)) (some 12) (O.fad 1 (Opd.t 1)),
    C.op (some (11, false)) (some 13) (O.ld (CK.int IntKind.i64) (Opd.t 12)),
    C.op (some (11, false)) (some 14) (O.bin BinOp.lss (Opd.t 13) (Opd.c (AV.int IntKind.i64 1))),
    C.op none (some 15) (O.pick (Opd.t 11) (Opd.c (AV.bool true)) (Opd.t 14)), C.op none (some 16) (O.mv (Opd.t 15)),
    C.op (some (16, false)) (some 17) (O.fad 1 (Opd.t 1)),
    C.op (some (16, false)) (some 18) (O.ld (CK.int IntKind.i64) (Opd.t 17)),
    C.op (some (16, false)) (some 19) (O.bin BinOp.gtr (Opd.t 18) (Opd.c (AV.int IntKind.i64 6))),
    C.op none (some 20) (O.pick (Opd.t 16) (Opd.c (AV.bool true)) (Opd.t 19)),
    C.cond (Opd.t 20) [C.op none (some 2) (O.mv (Opd.c (AV.int IntKind.i64 4))), C.ret] [],
    C.op none (some 2) (O.mv (Opd.c (AV.int IntKind.i64 0))), C.ret]
def r28 : List RV := [RV.t 2]
theorem c28_ok : cC Try.prog Try.f28.ntmps (Try.f28.body.getD .skip) = some c28 := by kernel_rfl

def c29 : List C :=
  [C.op none (some 1) (O.box (Opd.t 0)), C.op none (some 2) (O.mv (Opd.c AV.nilptr)),
    C.op none (some 3) (O.mv (Opd.c (AV.int IntKind.i64 0))),
    C.op none (some 5) (O.ldn [CK.int IntKind.i64, CK.int IntKind.i64] (Opd.t 1)),
    C.op none (some 6) (O.call 28 [Opd.t 5]), C.op none (some 4) (O.mv (Opd.t 6)), C.op none (some 7) (O.mv (Opd.t 4)),
    C.op none (some 8) (O.bin BinOp.neq (Opd.t 7) (Opd.c (AV.int IntKind.i64 0))),
    C.cond (Opd.t 8)
      [C.op none (some 9) (O.mv (Opd.t 4)), C.op none (some 2) (O.mv (Opd.c AV.nilptr)),
        C.op none (some 3) (O.mv (Opd.t 9)), C.ret]
      [],
    C.op none (some 10) (O.ldn [CK.int IntKind.i64, CK.int IntKind.i64] (Opd.t 1)),
    C.op none (some 11)
      (O.build [AV.int IntKind.i64 0, AV.int IntKind.i64 0, AV.int IntKind.i64 0]
        [(0, 1, Opd.c (AV.int IntKind.i64 0)), (1, 2, Opd.t 10)]),
    C.op none (some 12)
      (O.bsl 3 [AV.int IntKind.i64 0, AV.int IntKind.i64 0, AV.int IntKind.i64 0] 1
        [(0, Opd.t 11)]),
    C.op none (some 13) (O.build [AV.nilsl] [(0, 1, Opd.t 12)]), C.op none (some 14) (O.box (Opd.t 13)),
    C.op none (some 2) (O.mv (Opd.t 14)), C.op none (some 3) (O.mv (Opd.c (AV.int IntKind.i64 0))), C.ret]
def r29 : List RV := [RV.t 2, RV.t 3]
theorem c29_ok : cC Try.prog Try.f29.ntmps (Try.f29.body.getD .skip) = some c29 := by kernel_rfl

def c30 : List C :=
  [C.op none (some 1) (O.box (Opd.t 0)), C.op none (some 2) (O.mv (Opd.c (AV.bool false))),
    C.op none (some 3) (O.fad 0 (Opd.t 1)), C.op none (some 4) (O.ld (CK.int IntKind.i64) (Opd.t 3)),
    C.op none (some 5) (O.bin BinOp.geq (Opd.t 4) (Opd.c (AV.int IntKind.i64 1))),
    C.op none (some 6) (O.mv (Opd.t 5)), C.op (some (6, true)) (some 7) (O.fad 0 (Opd.t 1)),
    C.op (some (6, true)) (some 8) (O.ld (CK.int IntKind.i64) (Opd.t 7)),
    C.op (some (6, true)) (some 9) (O.bin BinOp.leq (Opd.t 8) (Opd.c (AV.int IntKind.i64 64))),
    C.op none (some 10) (O.pick (Opd.t 6) (Opd.t 9) (Opd.c (AV.bool false))), C.op none (some 11) (O.mv (Opd.t 10)),
    C.op (some (11, true)) (some 12) (O.fad 1 (Opd.t 1)),
    C.op (some (11, true)) (some 13) (O.ld (CK.int IntKind.i64) (Opd.t 12)),
    C.op (some (11, true)) (some 14) (O.bin BinOp.geq (Opd.t 13) (Opd.c (AV.int IntKind.i64 1))),
    C.op none (some 15) (O.pick (Opd.t 11) (Opd.t 14) (Opd.c (AV.bool false))), C.op none (some 16) (O.mv (Opd.t 15)),
    C.op (some (16, true)) (some 17) (O.fad 1 (Opd.t 1)),
    C.op (some (16, true)) (some 18) (O.ld (CK.int IntKind.i64) (Opd.t 17)),
    C.op (some (16, true)) (some 19) (O.bin BinOp.leq (Opd.t 18) (Opd.c (AV.int IntKind.i64 6))),
    C.op none (some 20) (O.pick (Opd.t 16) (Opd.t 19) (Opd.c (AV.bool false))), C.op none (some 2) (O.mv (Opd.t 20)),
    C.ret]
def r30 : List RV := [RV.t 2]
theorem c30_ok : cC Try.prog Try.f30.ntmps (Try.f30.body.getD .skip) = some c30 := by kernel_rfl

def d31_0 : List It :=
  [(none, some 19, O.mv (Opd.t 0), []), (none, some 20, O.mv (Opd.t 0), []), (none, some 21, O.nck (Opd.t 20), [1]),
        (none, some 22, O.fad 0 (Opd.t 21), [2]), (none, some 23, O.ld CK.any (Opd.t 22), [3]),
        (none, some 24, O.mv (Opd.t 1), []),
        (none, some 25, O.ldn [CK.int IntKind.i64, CK.int IntKind.i64] (Opd.t 5), []),
        (none, some 26,
          O.build [AV.int IntKind.i64 0, AV.int IntKind.i64 0, AV.int IntKind.i64 0]
            [(0, 1, Opd.t 24), (1, 2, Opd.t 25)],
          [5, 6]),
        (none, some 27,
          O.bsl 3 [AV.int IntKind.i64 0, AV.int IntKind.i64 0, AV.int IntKind.i64 0]
            1 [(0, Opd.t 26)],
          [7]),
        (none, some 28, O.app 3 (Opd.t 23) (Opd.t 27), [4, 8]),
        (none, some 29, O.nck (Opd.t 19), [0, 0, 1, 2, 3, 4, 5, 6, 7, 8, 9]),
        (none, some 30, O.fad 0 (Opd.t 29), [10, 0, 1, 2, 3, 4, 5, 6, 7, 8, 9]),
        (none, none, O.st 1 (Opd.t 30) (Opd.t 28), [11, 9, 9, 0, 1, 2, 3, 4, 5, 6, 7, 8, 9])]
def o31_0 : List (Nat × Bool) := [(0, false), (1, false), (2, false), (3, false), (4, false), (5, false), (6, false), (7, false), (8, false), (9, true), (10, false), (11, false), (12, true)]
def l31_0 : List (Nat × Bool × It) :=
  [(0, false, (none, some 19, O.mv (Opd.t 0), [])),
   (1, false, (none, some 20, O.mv (Opd.t 0), [])),
   (2, false, (none, some 21, O.nck (Opd.t 20), [1])),
   (3, false, (none, some 22, O.fad 0 (Opd.t 21), [2])),
   (4, false, (none, some 23, O.ld CK.any (Opd.t 22), [3])),
   (5, false, (none, some 24, O.mv (Opd.t 1), [])),
   (6, false, (none, some 25, O.ldn [CK.int IntKind.i64, CK.int IntKind.i64] (Opd.t 5), [])),
   (7, false, (none, some 26,
          O.build [AV.int IntKind.i64 0, AV.int IntKind.i64 0, AV.int IntKind.i64 0]
            [(0, 1, Opd.t 24), (1, 2, Opd.t 25)],
          [5, 6])),
   (8, false, (none, some 27,
          O.bsl 3 [AV.int IntKind.i64 0, AV.int IntKind.i64 0, AV.int IntKind.i64 0]
            1 [(0, Opd.t 26)],
          [7])),
   (9, true, (none, some 28, O.app 3 (Opd.t 23) (Opd.t 27), [4, 8])),
   (10, false, (none, some 29, O.nck (Opd.t 19), [0, 0, 1, 2, 3, 4, 5, 6, 7, 8, 9])),
   (11, false, (none, some 30, O.fad 0 (Opd.t 29), [10, 0, 1, 2, 3, 4, 5, 6, 7, 8, 9])),
   (12, true, (none, none, O.st 1 (Opd.t 30) (Opd.t 28), [11, 9, 9, 0, 1, 2, 3, 4, 5, 6, 7, 8, 9]))]
theorem l31_0_ok : okDraw d31_0 o31_0 = true ∧ mkL d31_0 o31_0 = some l31_0 := ⟨by kernel_rfl, by kernel_rfl⟩

def c31 : List C :=
  [C.op none (some 5) (O.box (Opd.t 2)), C.op none (some 6) (O.mv (Opd.c (AV.int IntKind.i64 0))),
    C.op none (some 8) (O.ldn [CK.int IntKind.i64, CK.int IntKind.i64] (Opd.t 5)),
    C.op none (some 9) (O.call 28 [Opd.t 8]), C.op none (some 7) (O.mv (Opd.t 9)),
    C.blk 0
      [C.op none (some 11) (O.mv (Opd.t 7)),
        C.op none (some 12) (O.bin BinOp.neq (Opd.t 11) (Opd.c (AV.int IntKind.i64 0))),
        C.op none (some 10) (O.mv (Opd.t 12)),
        C.cond (Opd.t 10) [C.op none (some 13) (O.mv (Opd.t 7)), C.op none (some 6) (O.mv (Opd.t 13)), C.ret]
          [C.op none (some 15) (O.mv (Opd.t 1)), C.op none (some 16) (O.mv (Opd.t 0)),
            C.op none (some 17) (O.call 35 [Opd.t 16]), C.op none (some 18) (O.bin BinOp.leq (Opd.t 15) (Opd.t 17)),
            C.op none (some 14) (O.mv (Opd.t 18)),
            C.cond (Opd.t 14) [C.op none (some 6) (O.mv (Opd.c (AV.int IntKind.i64 11))), C.ret] []]],
    C.draw d31_0,
    C.op none (some 6) (O.mv (Opd.c (AV.int IntKind.i64 0))), C.ret]
def r31 : List RV := [RV.t 6]
theorem c31_ok : cC Try.prog Try.f31.ntmps (Try.f31.body.getD .skip) = some c31 := by kernel_rfl

def d32_0 : List It :=
  [(none, some 22,
          O.bsl 3 [AV.int IntKind.i64 0, AV.int IntKind.i64 0, AV.int IntKind.i64 0]
            0 [],
          []),
        (none, some 23, O.mv (Opd.t 0), []), (none, some 24, O.app 3 (Opd.t 22) (Opd.t 23), [0, 1]),
        (none, some 25, O.mv (Opd.t 1), []),
        (none, some 26, O.ldn [CK.int IntKind.i64, CK.int IntKind.i64] (Opd.t 5), []),
        (none, some 27,
          O.build [AV.int IntKind.i64 0, AV.int IntKind.i64 0, AV.int IntKind.i64 0]
            [(0, 1, Opd.t 25), (1, 2, Opd.t 26)],
          [3, 4]),
        (none, some 28,
          O.bsl 3 [AV.int IntKind.i64 0, AV.int IntKind.i64 0, AV.int IntKind.i64 0]
            1 [(0, Opd.t 27)],
          [5]),
        (none, some 29, O.app 3 (Opd.t 24) (Opd.t 28), [2, 6, 2]),
        (none, some 6, O.mv (Opd.t 29), [7, 7, 0, 1, 2, 3, 4, 5, 6, 7]),
        (none, some 7, O.mv (Opd.c (AV.int IntKind.i64 0)), [8, 0, 1, 2, 3, 4, 5, 6, 7, 8])]
def o32_0 : List (Nat × Bool) := [(0, false), (1, false), (3, false), (4, false), (5, false), (6, false), (2, true), (7, true), (8, false), (9, false)]
def l32_0 : List (Nat × Bool × It) :=
  [(0, false, (none, some 22,
          O.bsl 3 [AV.int IntKind.i64 0, AV.int IntKind.i64 0, AV.int IntKind.i64 0]
            0 [],
          [])),
   (1, false, (none, some 23, O.mv (Opd.t 0), [])),
   (3, false, (none, some 25, O.mv (Opd.t 1), [])),
   (4, false, (none, some 26, O.ldn [CK.int IntKind.i64, CK.int IntKind.i64] (Opd.t 5), [])),
   (5, false, (none, some 27,
          O.build [AV.int IntKind.i64 0, AV.int IntKind.i64 0, AV.int IntKind.i64 0]
            [(0, 1, Opd.t 25), (1, 2, Opd.t 26)],
          [3, 4])),
   (6, false, (none, some 28,
          O.bsl 3 [AV.int IntKind.i64 0, AV.int IntKind.i64 0, AV.int IntKind.i64 0]
            1 [(0, Opd.t 27)],
          [5])),
   (2, true, (none, some 24, O.app 3 (Opd.t 22) (Opd.t 23), [0, 1])),
   (7, true, (none, some 29, O.app 3 (Opd.t 24) (Opd.t 28), [2, 6, 2])),
   (8, false, (none, some 6, O.mv (Opd.t 29), [7, 7, 0, 1, 2, 3, 4, 5, 6, 7])),
   (9, false, (none, some 7, O.mv (Opd.c (AV.int IntKind.i64 0)), [8, 0, 1, 2, 3, 4, 5, 6, 7, 8]))]
theorem l32_0_ok : okDraw d32_0 o32_0 = true ∧ mkL d32_0 o32_0 = some l32_0 := ⟨by kernel_rfl, by kernel_rfl⟩

def c32 : List C :=
  [C.op none (some 5) (O.box (Opd.t 2)), C.op none (some 6) (O.mv (Opd.c AV.nilsl)),
    C.op none (some 7) (O.mv (Opd.c (AV.int IntKind.i64 0))),
    C.op none (some 8) (O.ldn [CK.int IntKind.i64, CK.int IntKind.i64] (Opd.t 5)),
    C.op none (some 9) (O.call 30 [Opd.t 8]), C.op none (some 10) (O.un UnOp.not (Opd.t 9)),
    C.cond (Opd.t 10)
      [C.op none (some 11) (O.mv (Opd.t 0)), C.op none (some 6) (O.mv (Opd.t 11)),
        C.op none (some 7) (O.mv (Opd.c (AV.int IntKind.i64 4))), C.ret]
      [],
    C.op none (some 12) (O.mv (Opd.t 1)), C.op none (some 13) (O.mv (Opd.t 0)), C.op none (some 14) (O.mv (Opd.t 0)),
    C.op none (some 15) (O.len false (Opd.t 14)),
    C.op none (some 16) (O.bin BinOp.sub (Opd.t 15) (Opd.c (AV.int IntKind.i64 1))),
    C.op none (some 17) (O.iad 3 (Opd.t 13) (Opd.t 16)), C.op none (some 18) (O.fad 0 (Opd.t 17)),
    C.op none (some 19) (O.ld (CK.int IntKind.i64) (Opd.t 18)),
    C.op none (some 20) (O.bin BinOp.leq (Opd.t 12) (Opd.t 19)),
    C.cond (Opd.t 20)
      [C.op none (some 21) (O.mv (Opd.t 0)), C.op none (some 6) (O.mv (Opd.t 21)),
        C.op none (some 7) (O.mv (Opd.c (AV.int IntKind.i64 11))), C.ret]
      [],
    C.draw d32_0,
    C.ret]
def r32 : List RV := [RV.t 6, RV.t 7]
theorem c32_ok : cC Try.prog Try.f32.ntmps (Try.f32.body.getD .skip) = some c32 := by kernel_rfl

def c33 : List C :=
  [C.op none (some 4) (O.mv (Opd.c (AV.int IntKind.i64 0))),
    C.op none (some 5) (O.mv (Opd.c (AV.int IntKind.i64 0))),
    C.blk 0
      [C.loop
          [C.op none (some 6) (O.mv (Opd.t 0)), C.op none (some 7) (O.nck (Opd.t 6)),
            C.op none (some 8) (O.fad 0 (Opd.t 7)), C.op none (some 9) (O.ld CK.any (Opd.t 8)),
            C.op none (some 10) (O.len false (Opd.t 9)),
            C.op none (some 11) (O.bin BinOp.gtr (Opd.t 10) (Opd.c (AV.int IntKind.i64 1))),
            C.op none (some 12) (O.mv (Opd.t 11)), C.op (some (12, true)) (some 13) (O.mv (Opd.t 0)),
            C.op (some (12, true)) (some 14) (O.nck (Opd.t 13)), C.op (some (12, true)) (some 15) (O.fad 0 (Opd.t 14)),
            C.op (some (12, true)) (some 16) (O.ld CK.any (Opd.t 15)),
            C.op (some (12, true)) (some 17) (O.iad 3 (Opd.t 16) (Opd.c (AV.int IntKind.i64 1))),
            C.op (some (12, true)) (some 18) (O.fad 0 (Opd.t 17)),
            C.op (some (12, true)) (some 19) (O.ld (CK.int IntKind.i64) (Opd.t 18)),
            C.op (some (12, true)) (some 20) (O.mv (Opd.t 1)),
            C.op (some (12, true)) (some 21) (O.bin BinOp.leq (Opd.t 19) (Opd.t 20)),
            C.op none (some 22) (O.pick (Opd.t 12) (Opd.t 21) (Opd.c (AV.bool false))), C.cond (Opd.t 22) [] [C.exit 0],
            C.blk 1
              [C.op none (some 23) (O.mv (Opd.t 0)), C.op none (some 24) (O.mv (Opd.t 0)),
                C.op none (some 25) (O.nck (Opd.t 24)), C.op none (some 26) (O.fad 0 (Opd.t 25)),
                C.op none (some 27) (O.ld CK.any (Opd.t 26)),
                C.op none (some 28) (O.lsl 3 (Opd.t 27) (some (Opd.c (AV.int IntKind.i64 1))) none none),
                C.op none (some 29) (O.nck (Opd.t 23)), C.op none (some 30) (O.fad 0 (Opd.t 29)),
                C.op none none (O.st 1 (Opd.t 30) (Opd.t 28)), C.op none (some 31) (O.mv (Opd.t 5)),
                C.op none (some 32) (O.bin BinOp.add (Opd.t 31) (Opd.c (AV.int IntKind.i64 1))),
                C.op none (some 5) (O.mv (Opd.t 32))]]],
    C.op none (some 33) (O.mv (Opd.t 5)), C.op none (some 4) (O.mv (Opd.t 33)), C.ret]
def r33 : List RV := [RV.t 4]
theorem c33_ok : cC Try.prog Try.f33.ntmps (Try.f33.body.getD .skip) = some c33 := by kernel_rfl

def c34 : List C :=
  [C.op none (some 4) (O.mv (Opd.c AV.nilsl)), C.op none (some 5) (O.mv (Opd.c (AV.int IntKind.i64 0))),
    C.op none (some 6) (O.mv (Opd.c (AV.int IntKind.i64 0))),
    C.blk 0
      [C.loop
          [C.op none (some 7) (O.mv (Opd.t 6)),
            C.op none (some 8) (O.bin BinOp.add (Opd.t 7) (Opd.c (AV.int IntKind.i64 1))),
            C.op none (some 9) (O.mv (Opd.t 0)), C.op none (some 10) (O.len false (Opd.t 9)),
            C.op none (some 11) (O.bin BinOp.lss (Opd.t 8) (Opd.t 10)), C.op none (some 12) (O.mv (Opd.t 11)),
            C.op (some (12, true)) (some 13) (O.mv (Opd.t 0)), C.op (some (12, true)) (some 14) (O.mv (Opd.t 6)),
            C.op (some (12, true)) (some 15) (O.bin BinOp.add (Opd.t 14) (Opd.c (AV.int IntKind.i64 1))),
            C.op (some (12, true)) (some 16) (O.iad 3 (Opd.t 13) (Opd.t 15)),
            C.op (some (12, true)) (some 17) (O.fad 0 (Opd.t 16)),
            C.op (some (12, true)) (some 18) (O.ld (CK.int IntKind.i64) (Opd.t 17)),
            C.op (some (12, true)) (some 19) (O.mv (Opd.t 1)),
            C.op (some (12, true)) (some 20) (O.bin BinOp.leq (Opd.t 18) (Opd.t 19)),
            C.op none (some 21) (O.pick (Opd.t 12) (Opd.t 20) (Opd.c (AV.bool false))), C.cond (Opd.t 21) [] [C.exit 0],
            C.blk 1
              [C.op none (some 22) (O.mv (Opd.t 6)),
                C.op none (some 23) (O.bin BinOp.add (Opd.t 22) (Opd.c (AV.int IntKind.i64 1))),
                C.op none (some 6) (O.mv (Opd.t 23))]]],
    C.op none (some 24) (O.mv (Opd.t 0)), C.op none (some 25) (O.mv (Opd.t 6)),
    C.op none (some 26) (O.lsl 3 (Opd.t 24) (some (Opd.t 25)) none none), C.op none (some 27) (O.mv (Opd.t 6)),
    C.op none (some 4) (O.mv (Opd.t 26)), C.op none (some 5) (O.mv (Opd.t 27)), C.ret]
def r34 : List RV := [RV.t 4, RV.t 5]
theorem c34_ok : cC Try.prog Try.f34.ntmps (Try.f34.body.getD .skip) = some c34 := by kernel_rfl

def d35_0 : List It :=
  [(none, some 3, O.mv (Opd.t 0), []), (none, some 4, O.nck (Opd.t 3), [0]), (none, some 5, O.fad 0 (Opd.t 4), [1]),
        (none, some 6, O.ld CK.any (Opd.t 5), [2]), (none, some 7, O.mv (Opd.t 0), []),
        (none, some 8, O.nck (Opd.t 7), [4]), (none, some 9, O.fad 0 (Opd.t 8), [5]),
        (none, some 10, O.ld CK.any (Opd.t 9), [6]), (none, some 11, O.len false (Opd.t 10), [7]),
        (none, some 12, O.bin BinOp.sub (Opd.t 11) (Opd.c (AV.int IntKind.i64 1)), [8]),
        (none, some 13, O.iad 3 (Opd.t 6) (Opd.t 12), [3, 9]), (none, some 14, O.fad 0 (Opd.t 13), [10]),
        (none, some 15, O.ld (CK.int IntKind.i64) (Opd.t 14), [11]),
        (none, some 2, O.mv (Opd.t 15), [12, 0, 1, 2, 3, 4, 5, 6, 7, 8, 9, 10, 11, 12])]
def o35_0 : List (Nat × Bool) := [(0, false), (1, false), (2, false), (3, false), (4, false), (5, false), (6, false), (7, false), (8, false), (9, false), (10, false), (11, false), (12, false), (13, false)]
def l35_0 : List (Nat × Bool × It) :=
  [(0, false, (none, some 3, O.mv (Opd.t 0), [])),
   (1, false, (none, some 4, O.nck (Opd.t 3), [0])),
   (2, false, (none, some 5, O.fad 0 (Opd.t 4), [1])),
   (3, false, (none, some 6, O.ld CK.any (Opd.t 5), [2])),
   (4, false, (none, some 7, O.mv (Opd.t 0), [])),
   (5, false, (none, some 8, O.nck (Opd.t 7), [4])),
   (6, false, (none, some 9, O.fad 0 (Opd.t 8), [5])),
   (7, false, (none, some 10, O.ld CK.any (Opd.t 9), [6])),
   (8, false, (none, some 11, O.len false (Opd.t 10), [7])),
   (9, false, (none, some 12, O.bin BinOp.sub (Opd.t 11) (Opd.c (AV.int IntKind.i64 1)), [8])),
   (10, false, (none, some 13, O.iad 3 (Opd.t 6) (Opd.t 12), [3, 9])),
   (11, false, (none, some 14, O.fad 0 (Opd.t 13), [10])),
   (12, false, (none, some 15, O.ld (CK.int IntKind.i64) (Opd.t 14), [11])),
   (13, false, (none, some 2, O.mv (Opd.t 15), [12, 0, 1, 2, 3, 4, 5, 6, 7, 8, 9, 10, 11, 12]))]
theorem l35_0_ok : okDraw d35_0 o35_0 = true ∧ mkL d35_0 o35_0 = some l35_0 := ⟨by kernel_rfl, by kernel_rfl⟩

def c35 : List C :=
  [C.op none (some 2) (O.mv (Opd.c (AV.int IntKind.i64 0))),
    C.draw d35_0,
    C.ret]
def r35 : List RV := [RV.t 2]
theorem c35_ok : cC Try.prog Try.f35.ntmps (Try.f35.body.getD .skip) = some c35 := by kernel_rfl

def c36 : List C :=
  [C.op none (some 4) (O.alloc [AV.int IntKind.i64 0, AV.int IntKind.i64 0]),
    C.op none (some 8) (O.mv (Opd.t 0)), C.op none (some 9) (O.nck (Opd.t 8)), C.op none (some 10) (O.fad 0 (Opd.t 9)),
    C.op none (some 11) (O.ld CK.any (Opd.t 10)),
    C.op none (some 12) (O.iad 3 (Opd.t 11) (Opd.c (AV.int IntKind.i64 0))),
    C.op none (some 13) (O.fad 1 (Opd.t 12)),
    C.op none (some 14) (O.ldn [CK.int IntKind.i64, CK.int IntKind.i64] (Opd.t 13)),
    C.op none (some 5) (O.alloc [AV.int IntKind.i64 0, AV.int IntKind.i64 0]),
    C.op none none (O.st 2 (Opd.t 5) (Opd.t 14)), C.op none (some 15) (O.mv (Opd.t 0)),
    C.op none (some 16) (O.nck (Opd.t 15)), C.op none (some 17) (O.fad 0 (Opd.t 16)),
    C.op none (some 18) (O.ld CK.any (Opd.t 17)), C.op none (some 19) (O.len false (Opd.t 18)),
    C.op none (some 20) (O.mv (Opd.c (AV.int IntKind.i64 0))),
    C.blk 0
      [C.loop
          [C.op none (some 21) (O.bin BinOp.lss (Opd.t 20) (Opd.t 19)), C.cond (Opd.t 21) [] [C.exit 0],
            C.blk 1
              [C.op none (some 22) (O.iad 3 (Opd.t 18) (Opd.t 20)),
                C.op none (some 23) (O.ldn [CK.int IntKind.i64, CK.int IntKind.i64, CK.int IntKind.i64] (Opd.t 22)),
                C.op none (some 7)
                  (O.alloc
                    [AV.int IntKind.i64 0, AV.int IntKind.i64 0,
                      AV.int IntKind.i64 0]),
                C.op none none (O.st 3 (Opd.t 7) (Opd.t 23)), C.op none (some 24) (O.fad 0 (Opd.t 7)),
                C.op none (some 25) (O.ld (CK.int IntKind.i64) (Opd.t 24)), C.op none (some 26) (O.mv (Opd.t 1)),
                C.op none (some 27) (O.bin BinOp.leq (Opd.t 25) (Opd.t 26)),
                C.cond (Opd.t 27)
                  [C.op none (some 28) (O.fad 1 (Opd.t 7)),
                    C.op none (some 29) (O.ldn [CK.int IntKind.i64, CK.int IntKind.i64] (Opd.t 28)),
                    C.op none none (O.st 2 (Opd.t 5) (Opd.t 29))]
                  []],
            C.op none (some 30) (O.bin BinOp.add (Opd.t 20) (Opd.c (AV.int IntKind.i64 1))),
            C.op none (some 20) (O.mv (Opd.t 30))]],
    C.op none (some 31) (O.ldn [CK.int IntKind.i64, CK.int IntKind.i64] (Opd.t 5)),
    C.op none none (O.st 2 (Opd.t 4) (Opd.t 31)), C.ret]
def r36 : List RV := [RV.cn 4 2]
theorem c36_ok : cC Try.prog Try.f36.ntmps (Try.f36.body.getD .skip) = some c36 := by kernel_rfl

def c37 : List C :=
  [C.op none (some 4) (O.alloc [AV.int IntKind.i64 0, AV.int IntKind.i64 0]),
    C.op none (some 6) (O.mv (Opd.t 0)), C.op none (some 7) (O.len false (Opd.t 6)),
    C.op none (some 8) (O.bin BinOp.sub (Opd.t 7) (Opd.c (AV.int IntKind.i64 1))),
    C.op none (some 5) (O.mv (Opd.t 8)),
    C.blk 0
      [C.loop
          [C.op none (some 9) (O.mv (Opd.t 5)),
            C.op none (some 10) (O.bin BinOp.gtr (Opd.t 9) (Opd.c (AV.int IntKind.i64 0))),
            C.cond (Opd.t 10) [] [C.exit 0],
            C.blk 1
              [C.op none (some 13) (O.mv (Opd.t 0)), C.op none (some 14) (O.mv (Opd.t 5)),
                C.op none (some 15) (O.iad 3 (Opd.t 13) (Opd.t 14)), C.op none (some 16) (O.fad 0 (Opd.t 15)),
                C.op none (some 17) (O.ld (CK.int IntKind.i64) (Opd.t 16)), C.op none (some 18) (O.mv (Opd.t 1)),
                C.op none (some 19) (O.bin BinOp.leq (Opd.t 17) (Opd.t 18)),
                C.cond (Opd.t 19)
                  [C.op none (some 20) (O.mv (Opd.t 0)), C.op none (some 21) (O.mv (Opd.t 5)),
                    C.op none (some 22) (O.iad 3 (Opd.t 20) (Opd.t 21)), C.op none (some 23) (O.fad 1 (Opd.t 22)),
                    C.op none (some 24) (O.ldn [CK.int IntKind.i64, CK.int IntKind.i64] (Opd.t 23)),
                    C.op none none (O.st 2 (Opd.t 4) (Opd.t 24)), C.ret]
                  []],
            C.op none (some 11) (O.mv (Opd.t 5)),
            C.op none (some 12) (O.bin BinOp.sub (Opd.t 11) (Opd.c (AV.int IntKind.i64 1))),
            C.op none (some 5) (O.mv (Opd.t 12))]],
    C.op none (some 25) (O.mv (Opd.t 0)),
    C.op none (some 26) (O.iad 3 (Opd.t 25) (Opd.c (AV.int IntKind.i64 0))),
    C.op none (some 27) (O.fad 1 (Opd.t 26)),
    C.op none (some 28) (O.ldn [CK.int IntKind.i64, CK.int IntKind.i64] (Opd.t 27)),
    C.op none none (O.st 2 (Opd.t 4) (Opd.t 28)), C.ret]
def r37 : List RV := [RV.cn 4 2]
theorem c37_ok : cC Try.prog Try.f37.ntmps (Try.f37.body.getD .skip) = some c37 := by kernel_rfl

def d38_0 : List It :=
  [(none, some 24, O.mv (Opd.t 0), []), (none, some 25, O.mv (Opd.t 0), []), (none, some 26, O.nck (Opd.t 25), [1]),
        (none, some 27, O.fad 0 (Opd.t 26), [2]), (none, some 28, O.ld CK.any (Opd.t 27), [3]),
        (none, some 29, O.ldn [CK.int IntKind.i64, CK.int IntKind.i64, CK.str] (Opd.t 5), []),
        (none, some 30,
          O.bsl 3 [AV.int IntKind.i64 0, AV.int IntKind.i64 0, AV.str []] 1 [(0, Opd.t 29)],
          [5]),
        (none, some 31, O.app 3 (Opd.t 28) (Opd.t 30), [4, 6]),
        (none, some 32, O.nck (Opd.t 24), [0, 0, 1, 2, 3, 4, 5, 6, 7]),
        (none, some 33, O.fad 0 (Opd.t 32), [8, 0, 1, 2, 3, 4, 5, 6, 7]),
        (none, none, O.st 1 (Opd.t 33) (Opd.t 31), [9, 7, 7, 0, 1, 2, 3, 4, 5, 6, 7])]
def o38_0 : List (Nat × Bool) := [(0, false), (1, false), (2, false), (3, false), (4, false), (5, false), (6, false), (7, true), (8, false), (9, false), (10, true)]
def l38_0 : List (Nat × Bool × It) :=
  [(0, false, (none, some 24, O.mv (Opd.t 0), [])),
   (1, false, (none, some 25, O.mv (Opd.t 0), [])),
   (2, false, (none, some 26, O.nck (Opd.t 25), [1])),
   (3, false, (none, some 27, O.fad 0 (Opd.t 26), [2])),
   (4, false, (none, some 28, O.ld CK.any (Opd.t 27), [3])),
   (5, false, (none, some 29, O.ldn [CK.int IntKind.i64, CK.int IntKind.i64, CK.str] (Opd.t 5), [])),
   (6, false, (none, some 30,
          O.bsl 3 [AV.int IntKind.i64 0, AV.int IntKind.i64 0, AV.str []] 1 [(0, Opd.t 29)],
          [5])),
   (7, true, (none, some 31, O.app 3 (Opd.t 28) (Opd.t 30), [4, 6])),
   (8, false, (none, some 32, O.nck (Opd.t 24), [0, 0, 1, 2, 3, 4, 5, 6, 7])),
   (9, false, (none, some 33, O.fad 0 (Opd.t 32), [8, 0, 1, 2, 3, 4, 5, 6, 7])),
   (10, true, (none, none, O.st 1 (Opd.t 33) (Opd.t 31), [9, 7, 7, 0, 1, 2, 3, 4, 5, 6, 7]))]
theorem l38_0_ok : okDraw d38_0 o38_0 = true ∧ mkL d38_0 o38_0 = some l38_0 := ⟨by kernel_rfl, by kernel_rfl⟩

def c38 : List C :=
  [C.op none (some 4) (O.mv (Opd.c (AV.int IntKind.i64 0))), C.op none (some 8) (O.mv (Opd.t 0)),
    C.op none (some 9) (O.mv (Opd.t 1)), C.op none (some 10) (O.call 44 [Opd.t 8, Opd.t 9]),
    C.op none (some 7) (O.mv (Opd.t 10)), C.op none (some 11) (O.ext (Opd.t 7) 0),
    C.op none (some 12) (O.ext (Opd.t 7) 1),
    C.op none (some 5) (O.alloc [AV.int IntKind.i64 0, AV.int IntKind.i64 0, AV.str []]),
    C.op none none (O.st 3 (Opd.t 5) (Opd.t 11)), C.op none (some 6) (O.mv (Opd.t 12)),
    C.blk 0
      [C.op none (some 14) (O.mv (Opd.t 6)),
        C.op none (some 15) (O.bin BinOp.neq (Opd.t 14) (Opd.c (AV.int IntKind.i64 0))),
        C.op none (some 13) (O.mv (Opd.t 15)),
        C.cond (Opd.t 13) [C.op none (some 16) (O.mv (Opd.t 6)), C.op none (some 4) (O.mv (Opd.t 16)), C.ret]
          [C.op none (some 18) (O.mv (Opd.t 0)), C.op none (some 19) (O.nck (Opd.t 18)),
            C.op none (some 20) (O.fad 0 (Opd.t 19)), C.op none (some 21) (O.ld CK.any (Opd.t 20)),
            C.op none (some 22) (O.len false (Opd.t 21)),
            C.op none (some 23) (O.bin BinOp.geq (Opd.t 22) (Opd.c (AV.int IntKind.i64 400))),
            C.op none (some 17) (O.mv (Opd.t 23)),
            C.cond (Opd.t 17) [C.op none (some 4) (O.mv (Opd.c (AV.int IntKind.i64 8))), C.ret] []]],
    C.draw d38_0,
    C.op none (some 4) (O.mv (Opd.c (AV.int IntKind.i64 0))), C.ret]
def r38 : List RV := [RV.t 4]
theorem c38_ok : cC Try.prog Try.f38.ntmps (Try.f38.body.getD .skip) = some c38 := by kernel_rfl

def d39_0 : List It :=
  [(none, some 60, O.mv (Opd.t 0), []), (none, some 61, O.nck (Opd.t 60), [0]),
        (none, some 62, O.fad 0 (Opd.t 61), [1]), (none, some 63, O.ld CK.any (Opd.t 62), [2]),
        (none, some 64, O.mv (Opd.t 1), []), (none, some 65, O.mv (Opd.t 11), []),
        (none, some 66, O.cvb (Opd.t 65), [5]),
        (none, some 67, O.iad 3 (Opd.t 63) (Opd.t 64), [3, 4, 0, 1, 2, 3, 4, 5, 6]),
        (none, some 68, O.fad 2 (Opd.t 67), [7, 0, 1, 2, 3, 4, 5, 6]),
        (none, none, O.st 1 (Opd.t 68) (Opd.t 66), [8, 6, 0, 1, 2, 3, 4, 5, 6])]
def o39_0 : List (Nat × Bool) := [(0, false), (1, false), (2, false), (3, false), (4, false), (5, false), (6, false), (7, false), (8, false), (9, true)]
def l39_0 : List (Nat × Bool × It) :=
  [(0, false, (none, some 60, O.mv (Opd.t 0), [])),
   (1, false, (none, some 61, O.nck (Opd.t 60), [0])),
   (2, false, (none, some 62, O.fad 0 (Opd.t 61), [1])),
   (3, false, (none, some 63, O.ld CK.any (Opd.t 62), [2])),
   (4, false, (none, some 64, O.mv (Opd.t 1), [])),
   (5, false, (none, some 65, O.mv (Opd.t 11), [])),
   (6, false, (none, some 66, O.cvb (Opd.t 65), [5])),
   (7, false, (none, some 67, O.iad 3 (Opd.t 63) (Opd.t 64), [3, 4, 0, 1, 2, 3, 4, 5, 6])),
   (8, false, (none, some 68, O.fad 2 (Opd.t 67), [7, 0, 1, 2, 3, 4, 5, 6])),
   (9, true, (none, none, O.st 1 (Opd.t 68) (Opd.t 66), [8, 6, 0, 1, 2, 3, 4, 5, 6]))]
theorem l39_0_ok : okDraw d39_0 o39_0 = true ∧ mkL d39_0 o39_0 = some l39_0 := ⟨by kernel_rfl, by kernel_rfl⟩

def c39 : List C :=
  [C.op none (some 8) (O.mv (Opd.c (AV.int IntKind.i64 0))), C.op none (some 13) (O.mv (Opd.t 0)),
    C.op none (some 14) (O.mv (Opd.t 1)), C.op none (some 15) (O.call 44 [Opd.t 13, Opd.t 14]),
    C.op none (some 12) (O.mv (Opd.t 15)), C.op none (some 16) (O.ext (Opd.t 12) 0),
    C.op none (some 17) (O.ext (Opd.t 12) 1),
    C.op none (some 9) (O.alloc [AV.int IntKind.i64 0, AV.int IntKind.i64 0, AV.str []]),
    C.op none none (O.st 3 (Opd.t 9) (Opd.t 16)), C.op none (some 10) (O.mv (Opd.t 17)),
    C.blk 0
      [C.op none (some 19) (O.mv (Opd.t 10)),
        C.op none (some 20) (O.bin BinOp.neq (Opd.t 19) (Opd.c (AV.int IntKind.i64 0))),
        C.op none (some 18) (O.mv (Opd.t 20)),
        C.cond (Opd.t 18) [C.op none (some 21) (O.mv (Opd.t 10)), C.op none (some 8) (O.mv (Opd.t 21)), C.ret]
          [C.op none (some 23) (O.mv (Opd.t 2)),
            C.op none (some 24) (O.bin BinOp.lss (Opd.t 23) (Opd.c (AV.int IntKind.i64 0))),
            C.op none (some 25) (O.mv (Opd.t 24)), C.op (some (25, false)) (some 26) (O.mv (Opd.t 2)),
            C.op (some (25, false)) (some 27) (O.fad 2 (Opd.t 9)),
            C.op (some (25, false)) (some 28) (O.ld CK.str (Opd.t 27)),
            C.op (some (25, false)) (some 29) (O.len true (Opd.t 28)),
            C.op (some (25, false)) (some 30) (O.bin BinOp.geq (Opd.t 26) (Opd.t 29)),
            C.op none (some 31) (O.pick (Opd.t 25) (Opd.c (AV.bool true)) (Opd.t 30)),
            C.op none (some 32) (O.mv (Opd.t 31)), C.op (some (32, false)) (some 33) (O.mv (Opd.t 3)),
            C.op (some (32, false)) (some 34) (O.bin BinOp.eql (Opd.t 33) (Opd.c (AV.int IntKind.u8 0))),
            C.op none (some 35) (O.pick (Opd.t 32) (Opd.c (AV.bool true)) (Opd.t 34)),
            C.op none (some 22) (O.mv (Opd.t 35)),
            C.cond (Opd.t 22) [C.op none (some 8) (O.mv (Opd.c (AV.int IntKind.i64 4))), C.ret] []]],
    C.op none (some 36) (O.fad 2 (Opd.t 9)), C.op none (some 37) (O.ld CK.str (Opd.t 36)),
    C.op none (some 38) (O.cvs (Opd.t 37)), C.op none (some 11) (O.mv (Opd.t 38)),
    C.op none (some 39) (O.mv (Opd.t 11)), C.op none (some 40) (O.mv (Opd.t 2)),
    C.op none (some 41) (O.iad 1 (Opd.t 39) (Opd.t 40)), C.op none (some 42) (O.ld (CK.int IntKind.u8) (Opd.t 41)),
    C.op none (some 43) (O.mv (Opd.t 3)), C.op none (some 44) (O.bin BinOp.xor (Opd.t 42) (Opd.t 43)),
    C.op none (some 45) (O.iad 1 (Opd.t 39) (Opd.t 40)), C.op none none (O.st 1 (Opd.t 45) (Opd.t 44)),
    C.op none (some 47) (O.mv (Opd.t 0)), C.op none (some 48) (O.mv (Opd.t 1)),
    C.op none (some 49) (O.call 45 [Opd.t 47, Opd.t 48]), C.op none (some 46) (O.mv (Opd.t 49)),
    C.op none (some 50) (O.ext (Opd.t 46) 0), C.op none (some 51) (O.ext (Opd.t 46) 1),
    C.op none (some 1) (O.mv (Opd.t 50)), C.op none (some 52) (O.mv (Opd.t 0)), C.op none (some 53) (O.mv (Opd.t 0)),
    C.op none (some 54) (O.nck (Opd.t 53)), C.op none (some 55) (O.fad 0 (Opd.t 54)),
    C.op none (some 56) (O.ld CK.any (Opd.t 55)), C.op none (some 57) (O.call 47 [Opd.t 56]),
    C.op none (some 58) (O.nck (Opd.t 52)), C.op none (some 59) (O.fad 0 (Opd.t 58)),
    C.op none none (O.st 1 (Opd.t 59) (Opd.t 57)),
    C.draw d39_0,
    C.op none (some 8) (O.mv (Opd.c (AV.int IntKind.i64 0))), C.ret]
def r39 : List RV := [RV.t 8]
theorem c39_ok : cC Try.prog Try.f39.ntmps (Try.f39.body.getD .skip) = some c39 := by kernel_rfl

def d40_0 : List It :=
  [(none, some 21, O.mv (Opd.t 0), []), (none, some 22, O.nck (Opd.t 21), [0]),
        (none, some 23, O.fad 1 (Opd.t 22), [1]), (none, some 24, O.ld (CK.int IntKind.i64) (Opd.t 23), [2]),
        (none, some 25, O.mv (Opd.t 5), []), (none, some 26, O.mv (Opd.t 0), []),
        (none, some 27, O.nck (Opd.t 26), [5]), (none, some 28, O.fad 0 (Opd.t 27), [6]),
        (none, some 29, O.ld CK.any (Opd.t 28), [7]), (none, some 30, O.len false (Opd.t 29), [8]),
        (none, some 31, O.bin BinOp.sub (Opd.t 25) (Opd.t 30), [4, 9]),
        (none, some 32, O.bin BinOp.add (Opd.t 24) (Opd.t 31), [3, 10]),
        (none, some 33, O.nck (Opd.t 21), [0, 0, 1, 2, 3, 4, 5, 6, 7, 8, 9, 10, 11]),
        (none, some 34, O.fad 1 (Opd.t 33), [12, 0, 1, 2, 3, 4, 5, 6, 7, 8, 9, 10, 11]),
        (none, none, O.st 1 (Opd.t 34) (Opd.t 32), [13, 11, 0, 1, 2, 3, 4, 5, 6, 7, 8, 9, 10, 11])]
def o40_0 : List (Nat × Bool) := [(0, false), (1, false), (2, false), (3, false), (4, false), (5, false), (6, false), (7, false), (8, false), (9, false), (10, false), (11, false), (12, false), (13, false), (14, true)]
def l40_0 : List (Nat × Bool × It) :=
  [(0, false, (none, some 21, O.mv (Opd.t 0), [])),
   (1, false, (none, some 22, O.nck (Opd.t 21), [0])),
   (2, false, (none, some 23, O.fad 1 (Opd.t 22), [1])),
   (3, false, (none, some 24, O.ld (CK.int IntKind.i64) (Opd.t 23), [2])),
   (4, false, (none, some 25, O.mv (Opd.t 5), [])),
   (5, false, (none, some 26, O.mv (Opd.t 0), [])),
   (6, false, (none, some 27, O.nck (Opd.t 26), [5])),
   (7, false, (none, some 28, O.fad 0 (Opd.t 27), [6])),
   (8, false, (none, some 29, O.ld CK.any (Opd.t 28), [7])),
   (9, false, (none, some 30, O.len false (Opd.t 29), [8])),
   (10, false, (none, some 31, O.bin BinOp.sub (Opd.t 25) (Opd.t 30), [4, 9])),
   (11, false, (none, some 32, O.bin BinOp.add (Opd.t 24) (Opd.t 31), [3, 10])),
   (12, false, (none, some 33, O.nck (Opd.t 21), [0, 0, 1, 2, 3, 4, 5, 6, 7, 8, 9, 10, 11])),
   (13, false, (none, some 34, O.fad 1 (Opd.t 33), [12, 0, 1, 2, 3, 4, 5, 6, 7, 8, 9, 10, 11])),
   (14, true, (none, none, O.st 1 (Opd.t 34) (Opd.t 32), [13, 11, 0, 1, 2, 3, 4, 5, 6, 7, 8, 9, 10, 11]))]
theorem l40_0_ok : okDraw d40_0 o40_0 = true ∧ mkL d40_0 o40_0 = some l40_0 := ⟨by kernel_rfl, by kernel_rfl⟩

def c40 : List C :=
  [C.op none (some 3) (O.box (Opd.t 1)), C.op none (some 4) (O.mv (Opd.c (AV.int IntKind.i64 0))),
    C.op none (some 6) (O.mv (Opd.t 0)), C.op none (some 7) (O.nck (Opd.t 6)), C.op none (some 8) (O.fad 0 (Opd.t 7)),
    C.op none (some 9) (O.ld CK.any (Opd.t 8)), C.op none (some 10) (O.len false (Opd.t 9)),
    C.op none (some 5) (O.mv (Opd.t 10)), C.op none (some 11) (O.mv (Opd.t 0)), C.op none (some 12) (O.mv (Opd.t 0)),
    C.op none (some 13) (O.nck (Opd.t 12)), C.op none (some 14) (O.fad 0 (Opd.t 13)),
    C.op none (some 15) (O.ld CK.any (Opd.t 14)), C.op none (some 16) (O.call 47 [Opd.t 15]),
    C.op none (some 17) (O.mkfn 50 [] [Opd.t 3]), C.op none (some 18) (O.call 49 [Opd.t 16, Opd.t 17]),
    C.op none (some 19) (O.nck (Opd.t 11)), C.op none (some 20) (O.fad 0 (Opd.t 19)),
    C.op none none (O.st 1 (Opd.t 20) (Opd.t 18)),
    C.draw d40_0,
    C.op none (some 35) (O.mv (Opd.t 5)), C.op none (some 36) (O.mv (Opd.t 0)), C.op none (some 37) (O.nck (Opd.t 36)),
    C.op none (some 38) (O.fad 0 (Opd.t 37)), C.op none (some 39) (O.ld CK.any (Opd.t 38)),
    C.op none (some 40) (O.len false (Opd.t 39)), C.op none (some 41) (O.bin BinOp.sub (Opd.t 35) (Opd.t 40)),
    C.op none (some 4) (O.mv (Opd.t 41)), C.ret]
def r40 : List RV := [RV.t 4]
theorem c40_ok : cC Try.prog Try.f40.ntmps (Try.f40.body.getD .skip) = some c40 := by kernel_rfl

def d41_0 : List It :=
  [(none, some 16, O.bsl 3 [AV.int IntKind.i64 0, AV.int IntKind.i64 0, AV.str []] 0 [],
          []),
        (none, some 17, O.fad 0 (Opd.t 2), []), (none, some 18, O.ld CK.any (Opd.t 17), [1]),
        (none, some 19, O.app 3 (Opd.t 16) (Opd.t 18), [0, 2]),
        (none, some 20, O.ldn [CK.int IntKind.i64, CK.int IntKind.i64, CK.str] (Opd.t 3), []),
        (none, some 21,
          O.bsl 3 [AV.int IntKind.i64 0, AV.int IntKind.i64 0, AV.str []] 1 [(0, Opd.t 20)],
          [4]),
        (none, some 22, O.app 3 (Opd.t 19) (Opd.t 21), [3, 5, 3]), (none, some 23, O.fad 1 (Opd.t 2), []),
        (none, some 24, O.ld (CK.int IntKind.i64) (Opd.t 23), [7]),
        (none, some 25, O.build [AV.nilsl, AV.int IntKind.i64 0] [(0, 1, Opd.t 22), (1, 1, Opd.t 24)],
          [6, 8]),
        (none, none, O.st 2 (Opd.t 4) (Opd.t 25), [9, 6, 0, 1, 2, 3, 4, 5, 6, 7, 8, 9]),
        (none, some 5, O.mv (Opd.c (AV.bool true)), [10, 0, 1, 2, 3, 4, 5, 6, 7, 8, 9, 10])]
def o41_0 : List (Nat × Bool) := [(0, false), (1, false), (2, false), (4, false), (5, false), (7, false), (8, false), (3, true), (6, true), (9, false), (10, true), (11, false)]
def l41_0 : List (Nat × Bool × It) :=
  [(0, false, (none, some 16, O.bsl 3 [AV.int IntKind.i64 0, AV.int IntKind.i64 0, AV.str []] 0 [],
          [])),
   (1, false, (none, some 17, O.fad 0 (Opd.t 2), [])),
   (2, false, (none, some 18, O.ld CK.any (Opd.t 17), [1])),
   (4, false, (none, some 20, O.ldn [CK.int IntKind.i64, CK.int IntKind.i64, CK.str] (Opd.t 3), [])),
   (5, false, (none, some 21,
          O.bsl 3 [AV.int IntKind.i64 0, AV.int IntKind.i64 0, AV.str []] 1 [(0, Opd.t 20)],
          [4])),
   (7, false, (none, some 23, O.fad 1 (Opd.t 2), [])),
   (8, false, (none, some 24, O.ld (CK.int IntKind.i64) (Opd.t 23), [7])),
   (3, true, (none, some 19, O.app 3 (Opd.t 16) (Opd.t 18), [0, 2])),
   (6, true, (none, some 22, O.app 3 (Opd.t 19) (Opd.t 21), [3, 5, 3])),
   (9, false, (none, some 25, O.build [AV.nilsl, AV.int IntKind.i64 0] [(0, 1, Opd.t 22), (1, 1, Opd.t 24)],
          [6, 8])),
   (10, true, (none, none, O.st 2 (Opd.t 4) (Opd.t 25), [9, 6, 0, 1, 2, 3, 4, 5, 6, 7, 8, 9])),
   (11, false, (none, some 5, O.mv (Opd.c (AV.bool true)), [10, 0, 1, 2, 3, 4, 5, 6, 7, 8, 9, 10]))]
theorem l41_0_ok : okDraw d41_0 o41_0 = true ∧ mkL d41_0 o41_0 = some l41_0 := ⟨by kernel_rfl, by kernel_rfl⟩

def c41 : List C :=
  [C.op none (some 2) (O.box (Opd.t 0)), C.op none (some 3) (O.box (Opd.t 1)),
    C.op none (some 4) (O.alloc [AV.nilsl, AV.int IntKind.i64 0]),
    C.op none (some 5) (O.mv (Opd.c (AV.bool false))), C.op none (some 6) (O.fad 0 (Opd.t 2)),
    C.op none (some 7) (O.ld CK.any (Opd.t 6)), C.op none (some 8) (O.len false (Opd.t 7)),
    C.op none (some 9) (O.bin BinOp.geq (Opd.t 8) (Opd.c (AV.int IntKind.i64 400))),
    C.cond (Opd.t 9)
      [C.op none (some 10) (O.fad 0 (Opd.t 2)), C.op none (some 11) (O.ld CK.any (Opd.t 10)),
        C.op none (some 12) (O.fad 1 (Opd.t 2)), C.op none (some 13) (O.ld (CK.int IntKind.i64) (Opd.t 12)),
        C.op none (some 14) (O.bin BinOp.add (Opd.t 13) (Opd.c (AV.int IntKind.i64 1))),
        C.op none (some 15) (O.build [AV.nilsl, AV.int IntKind.i64 0] [(0, 1, Opd.t 11), (1, 1, Opd.t 14)]),
        C.op none none (O.st 2 (Opd.t 4) (Opd.t 15)), C.op none (some 5) (O.mv (Opd.c (AV.bool false))), C.ret]
      [],
    C.draw d41_0,
    C.ret]
def r41 : List RV := [RV.cn 4 2, RV.t 5]
theorem c41_ok : cC Try.prog Try.f41.ntmps (Try.f41.body.getD .skip) = some c41 := by kernel_rfl

def d42_0 : List It :=
  [(none, some 41, O.ldn [CK.any, CK.int IntKind.i64] (Opd.t 4), []), (none, some 42, O.mv (Opd.t 9), []),
            (none, some 43, O.bin BinOp.eql (Opd.t 42) (Opd.c (AV.int IntKind.i64 9)), [1]),
            (none, some 44, O.mv (Opd.t 43), [2]), (some (44, true), some 45, O.mv (Opd.t 11), [3]),
            (some (44, true), some 46, O.bin BinOp.eql (Opd.t 45) (Opd.c (AV.int IntKind.i64 9)), [4, 3]),
            (none, some 47, O.pick (Opd.t 44) (Opd.t 46) (Opd.c (AV.bool false)), [3, 5]),
            (none, some 48, O.mv (Opd.t 47), [6, 3]), (some (48, true), some 49, O.mv (Opd.t 0), [7]),
            (some (48, true), some 50, O.fad 3 (Opd.t 5), [7]),
            (some (48, true), some 51, O.ld (CK.int IntKind.i64) (Opd.t 50), [9, 7]),
            (some (48, true), some 52, O.call 51 [Opd.t 49, Opd.t 51], [8, 10, 7, 7]),
            (some (48, true), some 53, O.bin BinOp.eql (Opd.t 52) (Opd.c (AV.int IntKind.i64 9)), [11, 7]),
            (none, some 54, O.pick (Opd.t 48) (Opd.t 53) (Opd.c (AV.bool false)), [7, 12]),
            (none, some 55, O.mv (Opd.t 54), [13, 11]), (some (55, true), some 56, O.mv (Opd.t 0), [14]),
            (some (55, true), some 57, O.fad 3 (Opd.t 5), [14]),
            (some (55, true), some 58, O.ld (CK.int IntKind.i64) (Opd.t 57), [16, 14]),
            (some (55, true), some 59, O.call 38 [Opd.t 56, Opd.t 58], [15, 17, 14, 14]),
            (some (55, true), some 60, O.bin BinOp.eql (Opd.t 59) (Opd.c (AV.int IntKind.i64 9)), [18, 14]),
            (none, some 61, O.pick (Opd.t 55) (Opd.t 60) (Opd.c (AV.bool false)), [14, 19]),
            (none, some 62, O.mv (Opd.t 61), [20, 18]), (some (62, true), some 63, O.mv (Opd.t 0), [21]),
            (some (62, true), some 64, O.fad 3 (Opd.t 5), [21]),
            (some (62, true), some 65, O.ld (CK.int IntKind.i64) (Opd.t 64), [23, 21]),
            (some (62, true), some 66, O.fad 4 (Opd.t 5), [21]),
            (some (62, true), some 67, O.ld (CK.int IntKind.i64) (Opd.t 66), [25, 21]),
            (some (62, true), some 68, O.fad 5 (Opd.t 5), [21]),
            (some (62, true), some 69, O.ld (CK.int IntKind.u8) (Opd.t 68), [27, 21]),
            (some (62, true), some 70, O.call 39 [Opd.t 63, Opd.t 65, Opd.t 67, Opd.t 69], [22, 24, 26, 28, 21, 21]),
            (some (62, true), some 71, O.bin BinOp.eql (Opd.t 70) (Opd.c (AV.int IntKind.i64 9)), [29, 21]),
            (none, some 72, O.pick (Opd.t 62) (Opd.t 71) (Opd.c (AV.bool false)), [21, 30]),
            (none, none, O.st 2 (Opd.t 6) (Opd.t 41), [0, 29, 0]),
            (none, some 7, O.mv (Opd.t 72),
              [31, 32, 0, 1, 2, 3, 4, 5, 6, 7, 8, 9, 10, 11, 12, 13, 14, 15, 16, 17, 18, 19, 20, 21, 22, 23, 24, 25, 26,
                27, 28, 29, 30, 31, 32])]
def o42_0 : List (Nat × Bool) := [(0, false), (1, false), (2, false), (3, false), (4, false), (5, false), (6, false), (7, false), (8, false), (9, false), (10, false), (11, true), (12, false), (13, false), (14, false), (15, false), (16, false), (17, false), (18, true), (19, false), (20, false), (21, false), (22, false), (23, false), (24, false), (25, false), (26, false), (27, false), (28, false), (29, true), (30, false), (31, false), (32, true), (33, false)]
def l42_0 : List (Nat × Bool × It) :=
  [(0, false, (none, some 41, O.ldn [CK.any, CK.int IntKind.i64] (Opd.t 4), [])),
   (1, false, (none, some 42, O.mv (Opd.t 9), [])),
   (2, false, (none, some 43, O.bin BinOp.eql (Opd.t 42) (Opd.c (AV.int IntKind.i64 9)), [1])),
   (3, false, (none, some 44, O.mv (Opd.t 43), [2])),
   (4, false, (some (44, true), some 45, O.mv (Opd.t 11), [3])),
   (5, false, (some (44, true), some 46, O.bin BinOp.eql (Opd.t 45) (Opd.c (AV.int IntKind.i64 9)), [4, 3])),
   (6, false, (none, some 47, O.pick (Opd.t 44) (Opd.t 46) (Opd.c (AV.bool false)), [3, 5])),
   (7, false, (none, some 48, O.mv (Opd.t 47), [6, 3])),
   (8, false, (some (48, true), some 49, O.mv (Opd.t 0), [7])),
   (9, false, (some (48, true), some 50, O.fad 3 (Opd.t 5), [7])),
   (10, false, (some (48, true), some 51, O.ld (CK.int IntKind.i64) (Opd.t 50), [9, 7])),
   (11, true, (some (48, true), some 52, O.call 51 [Opd.t 49, Opd.t 51], [8, 10, 7, 7])),
   (12, false, (some (48, true), some 53, O.bin BinOp.eql (Opd.t 52) (Opd.c (AV.int IntKind.i64 9)), [11, 7])),
   (13, false, (none, some 54, O.pick (Opd.t 48) (Opd.t 53) (Opd.c (AV.bool false)), [7, 12])),
   (14, false, (none, some 55, O.mv (Opd.t 54), [13, 11])),
   (15, false, (some (55, true), some 56, O.mv (Opd.t 0), [14])),
   (16, false, (some (55, true), some 57, O.fad 3 (Opd.t 5), [14])),
   (17, false, (some (55, true), some 58, O.ld (CK.int IntKind.i64) (Opd.t 57), [16, 14])),
   (18, true, (some (55, true), some 59, O.call 38 [Opd.t 56, Opd.t 58], [15, 17, 14, 14])),
   (19, false, (some (55, true), some 60, O.bin BinOp.eql (Opd.t 59) (Opd.c (AV.int IntKind.i64 9)), [18, 14])),
   (20, false, (none, some 61, O.pick (Opd.t 55) (Opd.t 60) (Opd.c (AV.bool false)), [14, 19])),
   (21, false, (none, some 62, O.mv (Opd.t 61), [20, 18])),
   (22, false, (some (62, true), some 63, O.mv (Opd.t 0), [21])),
   (23, false, (some (62, true), some 64, O.fad 3 (Opd.t 5), [21])),
   (24, false, (some (62, true), some 65, O.ld (CK.int IntKind.i64) (Opd.t 64), [23, 21])),
   (25, false, (some (62, true), some 66, O.fad 4 (Opd.t 5), [21])),
   (26, false, (some (62, true), some 67, O.ld (CK.int IntKind.i64) (Opd.t 66), [25, 21])),
   (27, false, (some (62, true), some 68, O.fad 5 (Opd.t 5), [21])),
   (28, false, (some (62, true), some 69, O.ld (CK.int IntKind.u8) (Opd.t 68), [27, 21])),
   (29, true, (some (62, true), some 70, O.call 39 [Opd.t 63, Opd.t 65, Opd.t 67, Opd.t 69], [22, 24, 26, 28, 21, 21])),
   (30, false, (some (62, true), some 71, O.bin BinOp.eql (Opd.t 70) (Opd.c (AV.int IntKind.i64 9)), [29, 21])),
   (31, false, (none, some 72, O.pick (Opd.t 62) (Opd.t 71) (Opd.c (AV.bool false)), [21, 30])),
   (32, true, (none, none, O.st 2 (Opd.t 6) (Opd.t 41), [0, 29, 0])),
   (33, false, (none, some 7, O.mv (Opd.t 72),
              [31, 32, 0, 1, 2, 3, 4, 5, 6, 7, 8, 9, 10, 11, 12, 13, 14, 15, 16, 17, 18, 19, 20, 21, 22, 23, 24, 25, 26,
                27, 28, 29, 30, 31, 32]))]
theorem l42_0_ok : okDraw d42_0 o42_0 = true ∧ mkL d42_0 o42_0 = some l42_0 := ⟨by kernel_rfl, by kernel_rfl⟩

def d42_1 : List It :=
  [(none, some 91, O.mv (Opd.t 14), []), (none, some 92, O.un UnOp.not (Opd.t 91), [0]),
        (none, some 93, O.mv (Opd.t 92), [1]), (some (93, false), some 94, O.mv (Opd.t 13), [2]),
        (some (93, false), some 95, O.mv (Opd.t 12), [2]),
        (some (93, false), some 96, O.bin BinOp.neq (Opd.t 94) (Opd.t 95), [3, 4, 2]),
        (none, some 97, O.pick (Opd.t 93) (Opd.c (AV.bool true)) (Opd.t 96), [2, 5]),
        (none, some 98, O.mv (Opd.t 97), [6, 2]), (some (98, false), some 99, O.mv (Opd.t 16), [7]),
        (some (98, false), some 100, O.bin BinOp.neq (Opd.t 99) (Opd.c (AV.int IntKind.i64 0)), [8, 7]),
        (none, some 101, O.pick (Opd.t 98) (Opd.c (AV.bool true)) (Opd.t 100), [7, 9]),
        (none, some 102, O.mv (Opd.t 101), [10, 7]),
        (some (102, false), some 103, O.ldn [CK.int IntKind.i64, CK.int IntKind.i64, CK.str] (Opd.t 15), [11]),
        (some (102, false), some 104, O.fad 0 (Opd.t 4), [11]),
        (some (102, false), some 105, O.ld CK.any (Opd.t 104), [13, 11]),
        (some (102, false), some 106, O.mv (Opd.t 12), [11]),
        (some (102, false), some 107, O.iad 3 (Opd.t 105) (Opd.t 106), [14, 15, 11]),
        (some (102, false), some 108, O.ldn [CK.int IntKind.i64, CK.int IntKind.i64, CK.str] (Opd.t 107), [16, 11]),
        (some (102, false), some 109,
          O.eqa true [CK.int IntKind.i64, CK.int IntKind.i64, CK.str] (Opd.t 103) (Opd.t 108), [12, 17, 11]),
        (none, some 110, O.pick (Opd.t 102) (Opd.c (AV.bool true)) (Opd.t 109), [11, 18])]
def o42_1 : List (Nat × Bool) := [(0, false), (1, false), (2, false), (3, false), (4, false), (5, false), (6, false), (7, false), (8, false), (9, false), (10, false), (11, false), (12, false), (13, false), (14, false), (15, false), (16, false), (17, false), (18, false), (19, false)]
def l42_1 : List (Nat × Bool × It) :=
  [(0, false, (none, some 91, O.mv (Opd.t 14), [])),
   (1, false, (none, some 92, O.un UnOp.not (Opd.t 91), [0])),
   (2, false, (none, some 93, O.mv (Opd.t 92), [1])),
   (3, false, (some (93, false), some 94, O.mv (Opd.t 13), [2])),
   (4, false, (some (93, false), some 95, O.mv (Opd.t 12), [2])),
   (5, false, (some (93, false), some 96, O.bin BinOp.neq (Opd.t 94) (Opd.t 95), [3, 4, 2])),
   (6, false, (none, some 97, O.pick (Opd.t 93) (Opd.c (AV.bool true)) (Opd.t 96), [2, 5])),
   (7, false, (none, some 98, O.mv (Opd.t 97), [6, 2])),
   (8, false, (some (98, false), some 99, O.mv (Opd.t 16), [7])),
   (9, false, (some (98, false), some 100, O.bin BinOp.neq (Opd.t 99) (Opd.c (AV.int IntKind.i64 0)), [8, 7])),
   (10, false, (none, some 101, O.pick (Opd.t 98) (Opd.c (AV.bool true)) (Opd.t 100), [7, 9])),
   (11, false, (none, some 102, O.mv (Opd.t 101), [10, 7])),
   (12, false, (some (102, false), some 103, O.ldn [CK.int IntKind.i64, CK.int IntKind.i64, CK.str] (Opd.t 15), [11])),
   (13, false, (some (102, false), some 104, O.fad 0 (Opd.t 4), [11])),
   (14, false, (some (102, false), some 105, O.ld CK.any (Opd.t 104), [13, 11])),
   (15, false, (some (102, false), some 106, O.mv (Opd.t 12), [11])),
   (16, false, (some (102, false), some 107, O.iad 3 (Opd.t 105) (Opd.t 106), [14, 15, 11])),
   (17, false, (some (102, false), some 108, O.ldn [CK.int IntKind.i64, CK.int IntKind.i64, CK.str] (Opd.t 107), [16, 11])),
   (18, false, (some (102, false), some 109,
          O.eqa true [CK.int IntKind.i64, CK.int IntKind.i64, CK.str] (Opd.t 103) (Opd.t 108), [12, 17, 11])),
   (19, false, (none, some 110, O.pick (Opd.t 102) (Opd.c (AV.bool true)) (Opd.t 109), [11, 18]))]
theorem l42_1_ok : okDraw d42_1 o42_1 = true ∧ mkL d42_1 o42_1 = some l42_1 := ⟨by kernel_rfl, by kernel_rfl⟩

def d42_2 : List It :=
  [(none, some 123, O.ldn [CK.any, CK.int IntKind.i64] (Opd.t 4), []),
                (none, some 124, O.mv (Opd.t 12), []), (none, some 125, O.call 53 [Opd.t 123, Opd.t 124], [0, 1]),
                (none, some 126, O.mv (Opd.t 18), []),
                (none, some 127, O.bin BinOp.eql (Opd.t 126) (Opd.c (AV.int IntKind.i64 0)), [3]),
                (none, some 128, O.mv (Opd.t 127), [4, 2]),
                (some (128, true), some 129, O.ldn [CK.int IntKind.i64, CK.int IntKind.i64, CK.str] (Opd.t 17), [5]),
                (some (128, true), some 130, O.ldn [CK.int IntKind.i64, CK.int IntKind.i64, CK.str] (Opd.t 15), [5]),
                (some (128, true), some 131,
                  O.eqa false [CK.int IntKind.i64, CK.int IntKind.i64, CK.str] (Opd.t 129) (Opd.t 130), [6, 7, 5]),
                (none, some 132, O.pick (Opd.t 128) (Opd.t 131) (Opd.c (AV.bool false)), [5, 8]),
                (none, none, O.st 2 (Opd.t 6) (Opd.t 125), [2, 5, 0, 1, 2]),
                (none, some 7, O.mv (Opd.t 132), [9, 10, 0, 1, 2, 3, 4, 5, 6, 7, 8, 9, 10])]
def o42_2 : List (Nat × Bool) := [(0, false), (1, false), (3, false), (4, false), (2, true), (5, false), (6, false), (7, false), (8, false), (9, false), (10, true), (11, false)]
def l42_2 : List (Nat × Bool × It) :=
  [(0, false, (none, some 123, O.ldn [CK.any, CK.int IntKind.i64] (Opd.t 4), [])),
   (1, false, (none, some 124, O.mv (Opd.t 12), [])),
   (3, false, (none, some 126, O.mv (Opd.t 18), [])),
   (4, false, (none, some 127, O.bin BinOp.eql (Opd.t 126) (Opd.c (AV.int IntKind.i64 0)), [3])),
   (2, true, (none, some 125, O.call 53 [Opd.t 123, Opd.t 124], [0, 1])),
   (5, false, (none, some 128, O.mv (Opd.t 127), [4, 2])),
   (6, false, (some (128, true), some 129, O.ldn [CK.int IntKind.i64, CK.int IntKind.i64, CK.str] (Opd.t 17), [5])),
   (7, false, (some (128, true), some 130, O.ldn [CK.int IntKind.i64, CK.int IntKind.i64, CK.str] (Opd.t 15), [5])),
   (8, false, (some (128, true), some 131,
                  O.eqa false [CK.int IntKind.i64, CK.int IntKind.i64, CK.str] (Opd.t 129) (Opd.t 130), [6, 7, 5])),
   (9, false, (none, some 132, O.pick (Opd.t 128) (Opd.t 131) (Opd.c (AV.bool false)), [5, 8])),
   (10, true, (none, none, O.st 2 (Opd.t 6) (Opd.t 125), [2, 5, 0, 1, 2])),
   (11, false, (none, some 7, O.mv (Opd.t 132), [9, 10, 0, 1, 2, 3, 4, 5, 6, 7, 8, 9, 10]))]
theorem l42_2_ok : okDraw d42_2 o42_2 = true ∧ mkL d42_2 o42_2 = some l42_2 := ⟨by kernel_rfl, by kernel_rfl⟩

def d42_3 : List It :=
  [(none, some 163, O.ldn [CK.any, CK.int IntKind.i64] (Opd.t 4), []),
                        (none, some 164, O.fad 0 (Opd.t 4), []), (none, some 165, O.ld CK.any (Opd.t 164), [1]),
                        (none, some 166, O.mv (Opd.t 12), []),
                        (none, some 167, O.iad 3 (Opd.t 165) (Opd.t 166), [2, 3]),
                        (none, some 168, O.ldn [CK.int IntKind.i64, CK.int IntKind.i64, CK.str] (Opd.t 167), [4]),
                        (none, some 169, O.call 41 [Opd.t 163, Opd.t 168], [0, 5]),
                        (none, some 162, O.mv (Opd.t 169), [6]), (none, some 170, O.ext (Opd.t 162) 0, [7]),
                        (none, some 171, O.ext (Opd.t 162) 1, [7]),
                        (none, none, O.st 2 (Opd.t 4) (Opd.t 170), [8, 6, 0, 1, 2, 3, 4, 5, 6, 7, 8])]
def o42_3 : List (Nat × Bool) := [(0, false), (1, false), (2, false), (3, false), (4, false), (5, false), (6, true), (7, false), (8, false), (9, false), (10, true)]
def l42_3 : List (Nat × Bool × It) :=
  [(0, false, (none, some 163, O.ldn [CK.any, CK.int IntKind.i64] (Opd.t 4), [])),
   (1, false, (none, some 164, O.fad 0 (Opd.t 4), [])),
   (2, false, (none, some 165, O.ld CK.any (Opd.t 164), [1])),
   (3, false, (none, some 166, O.mv (Opd.t 12), [])),
   (4, false, (none, some 167, O.iad 3 (Opd.t 165) (Opd.t 166), [2, 3])),
   (5, false, (none, some 168, O.ldn [CK.int IntKind.i64, CK.int IntKind.i64, CK.str] (Opd.t 167), [4])),
   (6, true, (none, some 169, O.call 41 [Opd.t 163, Opd.t 168], [0, 5])),
   (7, false, (none, some 162, O.mv (Opd.t 169), [6])),
   (8, false, (none, some 170, O.ext (Opd.t 162) 0, [7])),
   (9, false, (none, some 171, O.ext (Opd.t 162) 1, [7])),
   (10, true, (none, none, O.st 2 (Opd.t 4) (Opd.t 170), [8, 6, 0, 1, 2, 3, 4, 5, 6, 7, 8]))]
theorem l42_3_ok : okDraw d42_3 o42_3 = true ∧ mkL d42_3 o42_3 = some l42_3 := ⟨by kernel_rfl, by kernel_rfl⟩

def c42 : List C :=
  [C.op none (some 4) (O.box (Opd.t 1)), C.op none (some 5) (O.box (Opd.t 2)),
    C.op none (some 6) (O.alloc [AV.nilsl, AV.int IntKind.i64 0]),
    C.op none (some 7) (O.mv (Opd.c (AV.bool false))), C.op none (some 23) (O.fad 0 (Opd.t 4)),
    C.op none (some 24) (O.ld CK.any (Opd.t 23)), C.op none (some 25) (O.len false (Opd.t 24)),
    C.op none (some 26) (O.bin BinOp.eql (Opd.t 25) (Opd.c (AV.int IntKind.i64 0))),
    C.cond (Opd.t 26)
      [C.op none (some 28) (O.mv (Opd.t 0)), C.op none (some 29) (O.fad 3 (Opd.t 5)),
        C.op none (some 30) (O.ld (CK.int IntKind.i64) (Opd.t 29)),
        C.op none (some 31) (O.call 16 [Opd.t 28, Opd.t 30]), C.op none (some 27) (O.mv (Opd.t 31)),
        C.op none (some 32) (O.ext (Opd.t 27) 0), C.op none (some 33) (O.ext (Opd.t 27) 1),
        C.op none (some 8) (O.alloc [AV.int IntKind.i64 0, AV.int IntKind.i64 0, AV.str []]),
        C.op none none (O.st 3 (Opd.t 8) (Opd.t 32)), C.op none (some 9) (O.mv (Opd.t 33)),
        C.op none (some 35) (O.mv (Opd.t 0)), C.op none (some 36) (O.fad 3 (Opd.t 5)),
        C.op none (some 37) (O.ld (CK.int IntKind.i64) (Opd.t 36)),
        C.op none (some 38) (O.call 44 [Opd.t 35, Opd.t 37]), C.op none (some 34) (O.mv (Opd.t 38)),
        C.op none (some 39) (O.ext (Opd.t 34) 0), C.op none (some 40) (O.ext (Opd.t 34) 1),
        C.op none (some 10) (O.alloc [AV.int IntKind.i64 0, AV.int IntKind.i64 0, AV.str []]),
        C.op none none (O.st 3 (Opd.t 10) (Opd.t 39)), C.op none (some 11) (O.mv (Opd.t 40)),
        C.draw d42_0,
        C.ret]
      [],
    C.op none (some 73) (O.ldn [CK.any, CK.int IntKind.i64] (Opd.t 4)), C.op none (some 74) (O.fad 3 (Opd.t 5)),
    C.op none (some 75) (O.ld (CK.int IntKind.i64) (Opd.t 74)), C.op none (some 76) (O.call 52 [Opd.t 73, Opd.t 75]),
    C.op none (some 12) (O.mv (Opd.t 76)), C.op none (some 78) (O.mv (Opd.t 0)),
    C.op none (some 79) (O.fad 3 (Opd.t 5)), C.op none (some 80) (O.ld (CK.int IntKind.i64) (Opd.t 79)),
    C.op none (some 81) (O.call 45 [Opd.t 78, Opd.t 80]), C.op none (some 77) (O.mv (Opd.t 81)),
    C.op none (some 82) (O.ext (Opd.t 77) 0), C.op none (some 83) (O.ext (Opd.t 77) 1),
    C.op none (some 13) (O.mv (Opd.t 82)), C.op none (some 14) (O.mv (Opd.t 83)), C.op none (some 85) (O.mv (Opd.t 0)),
    C.op none (some 86) (O.fad 3 (Opd.t 5)), C.op none (some 87) (O.ld (CK.int IntKind.i64) (Opd.t 86)),
    C.op none (some 88) (O.call 44 [Opd.t 85, Opd.t 87]), C.op none (some 84) (O.mv (Opd.t 88)),
    C.op none (some 89) (O.ext (Opd.t 84) 0), C.op none (some 90) (O.ext (Opd.t 84) 1),
    C.op none (some 15) (O.alloc [AV.int IntKind.i64 0, AV.int IntKind.i64 0, AV.str []]),
    C.op none none (O.st 3 (Opd.t 15) (Opd.t 89)), C.op none (some 16) (O.mv (Opd.t 90)),
    C.draw d42_1,
    C.cond (Opd.t 110)
      [C.op none (some 111) (O.ldn [CK.any, CK.int IntKind.i64] (Opd.t 4)),
        C.op none none (O.st 2 (Opd.t 6) (Opd.t 111)), C.op none (some 7) (O.mv (Opd.c (AV.bool false))), C.ret]
      [],
    C.op none (some 112) (O.fad 0 (Opd.t 5)), C.op none (some 113) (O.ld (CK.int IntKind.i64) (Opd.t 112)),
    C.blk 0
      [C.op none (some 115) (O.bin BinOp.eql (Opd.t 113) (Opd.c (AV.int IntKind.i64 2))),
        C.op none (some 114) (O.mv (Opd.t 115)),
        C.cond (Opd.t 114)
          [C.op none (some 117) (O.mv (Opd.t 0)), C.op none (some 118) (O.fad 3 (Opd.t 5)),
            C.op none (some 119) (O.ld (CK.int IntKind.i64) (Opd.t 118)),
            C.op none (some 120) (O.call 16 [Opd.t 117, Opd.t 119]), C.op none (some 116) (O.mv (Opd.t 120)),
            C.op none (some 121) (O.ext (Opd.t 116) 0), C.op none (some 122) (O.ext (Opd.t 116) 1),
            C.op none (some 17)
              (O.alloc [AV.int IntKind.i64 0, AV.int IntKind.i64 0, AV.str []]),
            C.op none none (O.st 3 (Opd.t 17) (Opd.t 121)), C.op none (some 18) (O.mv (Opd.t 122)),
            C.draw d42_2,
            C.ret]
          [C.op none (some 134) (O.bin BinOp.eql (Opd.t 113) (Opd.c (AV.int IntKind.i64 3))),
            C.op none (some 133) (O.mv (Opd.t 134)),
            C.cond (Opd.t 133)
              [C.op none (some 135) (O.mv (Opd.t 0)), C.op none (some 136) (O.fad 3 (Opd.t 5)),
                C.op none (some 137) (O.ld (CK.int IntKind.i64) (Opd.t 136)),
                C.op none (some 138) (O.call 51 [Opd.t 135, Opd.t 137]), C.op none (some 19) (O.mv (Opd.t 138)),
                C.op none (some 139) (O.ldn [CK.any, CK.int IntKind.i64] (Opd.t 4)),
                C.op none (some 140) (O.mv (Opd.t 12)), C.op none (some 141) (O.call 53 [Opd.t 139, Opd.t 140]),
                C.op none none (O.st 2 (Opd.t 4) (Opd.t 141)), C.op none (some 142) (O.fad 1 (Opd.t 4)),
                C.op none (some 143) (O.ld (CK.int IntKind.i64) (Opd.t 142)),
                C.op none (some 144) (O.bin BinOp.add (Opd.t 143) (Opd.c (AV.int IntKind.i64 1))),
                C.op none (some 145) (O.fad 1 (Opd.t 4)), C.op none none (O.st 1 (Opd.t 145) (Opd.t 144)),
                C.op none (some 146) (O.ldn [CK.any, CK.int IntKind.i64] (Opd.t 4)),
                C.op none (some 147) (O.mv (Opd.t 19)),
                C.op none (some 148) (O.bin BinOp.eql (Opd.t 147) (Opd.c (AV.int IntKind.i64 0))),
                C.op none none (O.st 2 (Opd.t 6) (Opd.t 146)), C.op none (some 7) (O.mv (Opd.t 148)), C.ret]
              [C.op none (some 150) (O.bin BinOp.eql (Opd.t 113) (Opd.c (AV.int IntKind.i64 4))),
                C.op none (some 149) (O.mv (Opd.t 150)),
                C.cond (Opd.t 149)
                  [C.op none (some 151) (O.mv (Opd.t 0)), C.op none (some 152) (O.fad 3 (Opd.t 5)),
                    C.op none (some 153) (O.ld (CK.int IntKind.i64) (Opd.t 152)),
                    C.op none (some 154) (O.call 38 [Opd.t 151, Opd.t 153]), C.op none (some 20) (O.mv (Opd.t 154)),
                    C.op none (some 155) (O.fad 0 (Opd.t 4)), C.op none (some 156) (O.ld CK.any (Opd.t 155)),
                    C.op none (some 157) (O.len false (Opd.t 156)),
                    C.op none (some 158) (O.bin BinOp.geq (Opd.t 157) (Opd.c (AV.int IntKind.i64 400))),
                    C.cond (Opd.t 158)
                      [C.op none (some 159) (O.ldn [CK.any, CK.int IntKind.i64] (Opd.t 4)),
                        C.op none (some 160) (O.mv (Opd.t 20)),
                        C.op none (some 161) (O.bin BinOp.eql (Opd.t 160) (Opd.c (AV.int IntKind.i64 8))),
                        C.op none none (O.st 2 (Opd.t 6) (Opd.t 159)), C.op none (some 7) (O.mv (Opd.t 161)), C.ret]
                      [],
                    C.draw d42_3,
                    C.op none (some 172) (O.ldn [CK.any, CK.int IntKind.i64] (Opd.t 4)),
                    C.op none (some 173) (O.mv (Opd.t 20)),
                    C.op none (some 174) (O.bin BinOp.eql (Opd.t 173) (Opd.c (AV.int IntKind.i64 0))),
                    C.op none none (O.st 2 (Opd.t 6) (Opd.t 172)), C.op none (some 7) (O.mv (Opd.t 174)), C.ret]
                  []]]],
    C.op none (some 175) (O.mv (Opd.t 0)), C.op none (some 176) (O.fad 3 (Opd.t 5)),
    C.op none (some 177) (O.ld (CK.int IntKind.i64) (Opd.t 176)), C.op none (some 178) (O.fad 4 (Opd.t 5)),
    C.op none (some 179) (O.ld (CK.int IntKind.i64) (Opd.t 178)), C.op none (some 180) (O.fad 5 (Opd.t 5)),
    C.op none (some 181) (O.ld (CK.int IntKind.u8) (Opd.t 180)),
    C.op none (some 182) (O.call 39 [Opd.t 175, Opd.t 177, Opd.t 179, Opd.t 181]),
    C.op none (some 21) (O.mv (Opd.t 182)), C.op none (some 183) (O.fad 4 (Opd.t 5)),
    C.op none (some 184) (O.ld (CK.int IntKind.i64) (Opd.t 183)),
    C.op none (some 185) (O.bin BinOp.lss (Opd.t 184) (Opd.c (AV.int IntKind.i64 0))),
    C.op none (some 186) (O.mv (Opd.t 185)), C.op (some (186, false)) (some 187) (O.fad 4 (Opd.t 5)),
    C.op (some (186, false)) (some 188) (O.ld (CK.int IntKind.i64) (Opd.t 187)),
    C.op (some (186, false)) (some 189) (O.fad 2 (Opd.t 15)),
    C.op (some (186, false)) (some 190) (O.ld CK.str (Opd.t 189)),
    C.op (some (186, false)) (some 191) (O.len true (Opd.t 190)),
    C.op (some (186, false)) (some 192) (O.bin BinOp.geq (Opd.t 188) (Opd.t 191)),
    C.op none (some 193) (O.pick (Opd.t 186) (Opd.c (AV.bool true)) (Opd.t 192)),
    C.op none (some 194) (O.mv (Opd.t 193)), C.op (some (194, false)) (some 195) (O.fad 5 (Opd.t 5)),
    C.op (some (194, false)) (some 196) (O.ld (CK.int IntKind.u8) (Opd.t 195)),
    C.op (some (194, false)) (some 197) (O.bin BinOp.eql (Opd.t 196) (Opd.c (AV.int IntKind.u8 0))),
    C.op none (some 198) (O.pick (Opd.t 194) (Opd.c (AV.bool true)) (Opd.t 197)),
    C.cond (Opd.t 198)
      [C.op none (some 199) (O.ldn [CK.any, CK.int IntKind.i64] (Opd.t 4)), C.op none (some 200) (O.mv (Opd.t 21)),
        C.op none (some 201) (O.bin BinOp.eql (Opd.t 200) (Opd.c (AV.int IntKind.i64 4))),
        C.op none none (O.st 2 (Opd.t 6) (Opd.t 199)), C.op none (some 7) (O.mv (Opd.t 201)), C.ret]
      [],
    C.op none (some 202) (O.bsl 3 [AV.int IntKind.i64 0, AV.int IntKind.i64 0, AV.str []] 0 []),
    C.op none (some 203) (O.fad 0 (Opd.t 4)), C.op none (some 204) (O.ld CK.any (Opd.t 203)),
    C.op none (some 205) (O.app 3 (Opd.t 202) (Opd.t 204)), C.op none (some 22) (O.mv (Opd.t 205)),
    C.op none (some 206) (O.mv (Opd.t 22)), C.op none (some 207) (O.mv (Opd.t 12)),
    C.op none (some 208) (O.fad 2 (Opd.t 15)), C.op none (some 209) (O.ld CK.str (Opd.t 208)),
    C.op none (some 210) (O.fad 4 (Opd.t 5)), C.op none (some 211) (O.ld (CK.int IntKind.i64) (Opd.t 210)),
    C.op none (some 212) (O.fad 5 (Opd.t 5)), C.op none (some 213) (O.ld (CK.int IntKind.u8) (Opd.t 212)),
    C.op none (some 214) (O.call 54 [Opd.t 209, Opd.t 211, Opd.t 213]),
    C.op none (some 215) (O.iad 3 (Opd.t 206) (Opd.t 207)), C.op none (some 216) (O.fad 2 (Opd.t 215)),
    C.op none none (O.st 1 (Opd.t 216) (Opd.t 214)), C.op none (some 217) (O.mv (Opd.t 22)),
    C.op none (some 218) (O.fad 1 (Opd.t 4)), C.op none (some 219) (O.ld (CK.int IntKind.i64) (Opd.t 218)),
    C.op none (some 220) (O.build [AV.nilsl, AV.int IntKind.i64 0] [(0, 1, Opd.t 217), (1, 1, Opd.t 219)]),
    C.op none (some 221) (O.mv (Opd.t 21)),
    C.op none (some 222) (O.bin BinOp.eql (Opd.t 221) (Opd.c (AV.int IntKind.i64 0))),
    C.op none none (O.st 2 (Opd.t 6) (Opd.t 220)), C.op none (some 7) (O.mv (Opd.t 222)), C.ret]
def r42 : List RV := [RV.cn 6 2, RV.t 7]
theorem c42_ok : cC Try.prog Try.f42.ntmps (Try.f42.body.getD .skip) = some c42 := by kernel_rfl

def c43 : List C :=
  [C.op none (some 2) (O.box (Opd.t 0)), C.op none (some 4) (O.alloc [AV.nilsl, AV.int IntKind.i64 0]),
    C.op none (some 8) (O.fad 1 (Opd.t 2)), C.op none (some 9) (O.ld (CK.int IntKind.i64) (Opd.t 8)),
    C.op none (some 10) (O.build [AV.nilsl, AV.int IntKind.i64 0] [(1, 1, Opd.t 9)]),
    C.op none (some 5) (O.alloc [AV.nilsl, AV.int IntKind.i64 0]),
    C.op none none (O.st 2 (Opd.t 5) (Opd.t 10)), C.op none (some 11) (O.fad 0 (Opd.t 2)),
    C.op none (some 12) (O.ld CK.any (Opd.t 11)), C.op none (some 13) (O.len false (Opd.t 12)),
    C.op none (some 14) (O.mv (Opd.c (AV.int IntKind.i64 0))),
    C.blk 0
      [C.loop
          [C.op none (some 15) (O.bin BinOp.lss (Opd.t 14) (Opd.t 13)), C.cond (Opd.t 15) [] [C.exit 0],
            C.blk 1
              [C.op none (some 16) (O.iad 3 (Opd.t 12) (Opd.t 14)),
                C.op none (some 17) (O.ldn [CK.int IntKind.i64, CK.int IntKind.i64, CK.str] (Opd.t 16)),
                C.op none (some 7)
                  (O.alloc [AV.int IntKind.i64 0, AV.int IntKind.i64 0, AV.str []]),
                C.op none none (O.st 3 (Opd.t 7) (Opd.t 17)), C.op none (some 18) (O.fad 0 (Opd.t 7)),
                C.op none (some 19) (O.ld (CK.int IntKind.i64) (Opd.t 18)), C.op none (some 20) (O.mv (Opd.t 1)),
                C.op none (some 21) (O.bin BinOp.eql (Opd.t 19) (Opd.t 20)), C.op none (some 22) (O.mv (Opd.t 21)),
                C.op (some (22, false)) (some 23) (O.fad 1 (Opd.t 7)),
                C.op (some (22, false)) (some 24) (O.ld (CK.int IntKind.i64) (Opd.t 23)),
                C.op (some (22, false)) (some 25) (O.mv (Opd.t 1)),
                C.op (some (22, false)) (some 26) (O.bin BinOp.eql (Opd.t 24) (Opd.t 25)),
                C.op none (some 27) (O.pick (Opd.t 22) (Opd.c (AV.bool true)) (Opd.t 26)),
                C.cond (Opd.t 27)
                  [C.op none (some 28) (O.fad 1 (Opd.t 5)), C.op none (some 29) (O.ld (CK.int IntKind.i64) (Opd.t 28)),
                    C.op none (some 30) (O.bin BinOp.add (Opd.t 29) (Opd.c (AV.int IntKind.i64 1))),
                    C.op none (some 31) (O.fad 1 (Opd.t 5)), C.op none none (O.st 1 (Opd.t 31) (Opd.t 30))]
                  [C.op none (some 32) (O.fad 0 (Opd.t 5)), C.op none (some 33) (O.ld CK.any (Opd.t 32)),
                    C.op none (some 34) (O.ldn [CK.int IntKind.i64, CK.int IntKind.i64, CK.str] (Opd.t 7)),
                    C.op none (some 35)
                      (O.bsl 3 [AV.int IntKind.i64 0, AV.int IntKind.i64 0, AV.str []] 1
                        [(0, Opd.t 34)]),
                    C.op none (some 36) (O.app 3 (Opd.t 33) (Opd.t 35)), C.op none (some 37) (O.fad 0 (Opd.t 5)),
                    C.op none none (O.st 1 (Opd.t 37) (Opd.t 36))]],
            C.op none (some 38) (O.bin BinOp.add (Opd.t 14) (Opd.c (AV.int IntKind.i64 1))),
            C.op none (some 14) (O.mv (Opd.t 38))]],
    C.op none (some 39) (O.ldn [CK.any, CK.int IntKind.i64] (Opd.t 5)), C.op none none (O.st 2 (Opd.t 4) (Opd.t 39)),
    C.ret]
def r43 : List RV := [RV.cn 4 2]
theorem c43_ok : cC Try.prog Try.f43.ntmps (Try.f43.body.getD .skip) = some c43 := by kernel_rfl

def c44 : List C :=
  [C.op none (some 4) (O.alloc [AV.int IntKind.i64 0, AV.int IntKind.i64 0, AV.str []]),
    C.op none (some 5) (O.mv (Opd.c (AV.int IntKind.i64 0))), C.op none (some 9) (O.mv (Opd.t 0)),
    C.op none (some 10) (O.mv (Opd.t 1)), C.op none (some 11) (O.call 45 [Opd.t 9, Opd.t 10]),
    C.op none (some 8) (O.mv (Opd.t 11)), C.op none (some 12) (O.ext (Opd.t 8) 0),
    C.op none (some 13) (O.ext (Opd.t 8) 1), C.op none (some 6) (O.mv (Opd.t 12)), C.op none (some 7) (O.mv (Opd.t 13)),
    C.op none (some 14) (O.mv (Opd.t 7)), C.op none (some 15) (O.un UnOp.not (Opd.t 14)),
    C.cond (Opd.t 15)
      [C.op none (some 16) (O.build [AV.int IntKind.i64 0, AV.int IntKind.i64 0, AV.str []] []),
        C.op none none (O.st 3 (Opd.t 4) (Opd.t 16)),
        C.op none (some 5) (O.mv (Opd.c (AV.int IntKind.i64 9))), C.ret]
      [],
    C.op none (some 17) (O.mv (Opd.t 0)), C.op none (some 18) (O.nck (Opd.t 17)),
    C.op none (some 19) (O.fad 0 (Opd.t 18)), C.op none (some 20) (O.ld CK.any (Opd.t 19)),
    C.op none (some 21) (O.mv (Opd.t 6)), C.op none (some 22) (O.iad 3 (Opd.t 20) (Opd.t 21)),
    C.op none (some 23) (O.ldn [CK.int IntKind.i64, CK.int IntKind.i64, CK.str] (Opd.t 22)),
    C.op none none (O.st 3 (Opd.t 4) (Opd.t 23)), C.op none (some 5) (O.mv (Opd.c (AV.int IntKind.i64 0))),
    C.ret]
def r44 : List RV := [RV.cn 4 3, RV.t 5]
theorem c44_ok : cC Try.prog Try.f44.ntmps (Try.f44.body.getD .skip) = some c44 := by kernel_rfl

def d45_0 : List It :=
  [(none, some 12, O.mv (Opd.t 1), []), (none, some 13, O.mv (Opd.t 0), []), (none, some 14, O.nck (Opd.t 13), [1]),
        (none, some 15, O.fad 0 (Opd.t 14), [2]), (none, some 16, O.ld CK.any (Opd.t 15), [3]),
        (none, some 17, O.len false (Opd.t 16), [4]), (none, some 18, O.bin BinOp.rem (Opd.t 12) (Opd.t 17), [0, 5]),
        (none, some 19, O.mv (Opd.t 0), []), (none, some 20, O.nck (Opd.t 19), [7]),
        (none, some 21, O.fad 0 (Opd.t 20), [8]), (none, some 22, O.ld CK.any (Opd.t 21), [9]),
        (none, some 23, O.len false (Opd.t 22), [10]), (none, some 24, O.bin BinOp.add (Opd.t 18) (Opd.t 23), [6, 11]),
        (none, some 25, O.mv (Opd.t 0), []), (none, some 26, O.nck (Opd.t 25), [13]),
        (none, some 27, O.fad 0 (Opd.t 26), [14]), (none, some 28, O.ld CK.any (Opd.t 27), [15]),
        (none, some 29, O.len false (Opd.t 28), [16]), (none, some 30, O.bin BinOp.rem (Opd.t 24) (Opd.t 29), [12, 17]),
        (none, some 4, O.mv (Opd.t 30), [18, 0, 1, 2, 3, 4, 5, 6, 7, 8, 9, 10, 11, 12, 13, 14, 15, 16, 17, 18]),
        (none, some 5, O.mv (Opd.c (AV.bool true)),
          [19, 0, 1, 2, 3, 4, 5, 6, 7, 8, 9, 10, 11, 12, 13, 14, 15, 16, 17, 18, 19])]
def o45_0 : List (Nat × Bool) := [(0, false), (1, false), (2, false), (3, false), (4, false), (5, false), (6, false), (7, false), (8, false), (9, false), (10, false), (11, false), (12, false), (13, false), (14, false), (15, false), (16, false), (17, false), (18, false), (19, false), (20, false)]
def l45_0 : List (Nat × Bool × It) :=
  [(0, false, (none, some 12, O.mv (Opd.t 1), [])),
   (1, false, (none, some 13, O.mv (Opd.t 0), [])),
   (2, false, (none, some 14, O.nck (Opd.t 13), [1])),
   (3, false, (none, some 15, O.fad 0 (Opd.t 14), [2])),
   (4, false, (none, some 16, O.ld CK.any (Opd.t 15), [3])),
   (5, false, (none, some 17, O.len false (Opd.t 16), [4])),
   (6, false, (none, some 18, O.bin BinOp.rem (Opd.t 12) (Opd.t 17), [0, 5])),
   (7, false, (none, some 19, O.mv (Opd.t 0), [])),
   (8, false, (none, some 20, O.nck (Opd.t 19), [7])),
   (9, false, (none, some 21, O.fad 0 (Opd.t 20), [8])),
   (10, false, (none, some 22, O.ld CK.any (Opd.t 21), [9])),
   (11, false, (none, some 23, O.len false (Opd.t 22), [10])),
   (12, false, (none, some 24, O.bin BinOp.add (Opd.t 18) (Opd.t 23), [6, 11])),
   (13, false, (none, some 25, O.mv (Opd.t 0), [])),
   (14, false, (none, some 26, O.nck (Opd.t 25), [13])),
   (15, false, (none, some 27, O.fad 0 (Opd.t 26), [14])),
   (16, false, (none, some 28, O.ld CK.any (Opd.t 27), [15])),
   (17, false, (none, some 29, O.len false (Opd.t 28), [16])),
   (18, false, (none, some 30, O.bin BinOp.rem (Opd.t 24) (Opd.t 29), [12, 17])),
   (19, false, (none, some 4, O.mv (Opd.t 30), [18, 0, 1, 2, 3, 4, 5, 6, 7, 8, 9, 10, 11, 12, 13, 14, 15, 16, 17, 18])),
   (20, false, (none, some 5, O.mv (Opd.c (AV.bool true)),
          [19, 0, 1, 2, 3, 4, 5, 6, 7, 8, 9, 10, 11, 12, 13, 14, 15, 16, 17, 18, 19]))]
theorem l45_0_ok : okDraw d45_0 o45_0 = true ∧ mkL d45_0 o45_0 = some l45_0 := ⟨by kernel_rfl, by kernel_rfl⟩

def c45 : List C :=
  [C.op none (some 4) (O.mv (Opd.c (AV.int IntKind.i64 0))),
    C.op none (some 5) (O.mv (Opd.c (AV.bool false))), C.op none (some 6) (O.mv (Opd.t 0)),
    C.op none (some 7) (O.nck (Opd.t 6)), C.op none (some 8) (O.fad 0 (Opd.t 7)),
    C.op none (some 9) (O.ld CK.any (Opd.t 8)), C.op none (some 10) (O.len false (Opd.t 9)),
    C.op none (some 11) (O.bin BinOp.eql (Opd.t 10) (Opd.c (AV.int IntKind.i64 0))),
    C.cond (Opd.t 11)
      [C.op none (some 4) (O.mv (Opd.c (AV.int IntKind.i64 0))),
        C.op none (some 5) (O.mv (Opd.c (AV.bool false))), C.ret]
      [],
    C.draw d45_0,
    C.ret]
def r45 : List RV := [RV.t 4, RV.t 5]
theorem c45_ok : cC Try.prog Try.f45.ntmps (Try.f45.body.getD .skip) = some c45 := by kernel_rfl

def d46_0 : List It :=
  [(none, some 20, O.mv (Opd.t 0), []), (none, some 21, O.mv (Opd.t 1), []),
        (none, some 22, O.lsl 3 (Opd.t 20) none (some (Opd.t 21)) none, [0, 1]), (none, some 23, O.mv (Opd.t 0), []),
        (none, some 24, O.mv (Opd.t 2), []), (none, some 25, O.lsl 3 (Opd.t 23) (some (Opd.t 24)) none none, [3, 4]),
        (none, some 26, O.app 3 (Opd.t 22) (Opd.t 25), [2, 5]),
        (none, some 0, O.mv (Opd.t 26), [6, 6, 0, 1, 2, 3, 4, 5, 6])]
def o46_0 : List (Nat × Bool) := [(0, false), (1, false), (2, false), (3, false), (4, false), (5, false), (6, true), (7, true)]
def l46_0 : List (Nat × Bool × It) :=
  [(0, false, (none, some 20, O.mv (Opd.t 0), [])),
   (1, false, (none, some 21, O.mv (Opd.t 1), [])),
   (2, false, (none, some 22, O.lsl 3 (Opd.t 20) none (some (Opd.t 21)) none, [0, 1])),
   (3, false, (none, some 23, O.mv (Opd.t 0), [])),
   (4, false, (none, some 24, O.mv (Opd.t 2), [])),
   (5, false, (none, some 25, O.lsl 3 (Opd.t 23) (some (Opd.t 24)) none none, [3, 4])),
   (6, true, (none, some 26, O.app 3 (Opd.t 22) (Opd.t 25), [2, 5])),
   (7, true, (none, some 0, O.mv (Opd.t 26), [6, 6, 0, 1, 2, 3, 4, 5, 6]))]
theorem l46_0_ok : okDraw d46_0 o46_0 = true ∧ mkL d46_0 o46_0 = some l46_0 := ⟨by kernel_rfl, by kernel_rfl⟩

def c46 : List C :=
  [C.op none (some 6) (O.mv (Opd.c AV.nilsl)), C.op none (some 8) (O.mv (Opd.t 0)), C.op none (some 9) (O.mv (Opd.t 1)),
    C.op none (some 10) (O.mv (Opd.t 2)), C.op none (some 11) (O.mv (Opd.t 0)),
    C.op none (some 12) (O.len false (Opd.t 11)),
    C.op none (some 13) (O.lsl 3 (Opd.t 8) (some (Opd.t 9)) (some (Opd.t 10)) (some (Opd.t 12))),
    C.op none (some 14) (O.mv (Opd.t 1)), C.op none (some 15) (O.mv (Opd.t 2)),
    C.op none (some 16) (O.bin BinOp.eql (Opd.t 14) (Opd.t 15)),
    C.cond (Opd.t 16) [C.op none (some 17) (O.mv (Opd.t 0)), C.op none (some 6) (O.mv (Opd.t 17)), C.ret] [],
    C.op none (some 18) (O.mv (Opd.t 0)), C.op none (some 19) (O.len false (Opd.t 18)),
    C.op none (some 7) (O.mv (Opd.t 19)),
    C.draw d46_0,
    C.op none (some 27) (O.mv (Opd.t 0)), C.op none (some 28) (O.mv (Opd.t 0)),
    C.op none (some 29) (O.len false (Opd.t 28)), C.op none (some 30) (O.mv (Opd.t 7)),
    C.op none (some 31) (O.lsl 3 (Opd.t 27) (some (Opd.t 29)) (some (Opd.t 30)) none),
    C.op none none (O.clr 3 [AV.int IntKind.i64 0, AV.int IntKind.i64 0, AV.str []] (Opd.t 31)),
    C.op none (some 32) (O.mv (Opd.t 0)), C.op none (some 6) (O.mv (Opd.t 32)), C.ret]
def r46 : List RV := [RV.t 6]
theorem c46_ok : cC Try.prog Try.f46.ntmps (Try.f46.body.getD .skip) = some c46 := by kernel_rfl

def c47 : List C :=
  [C.op none (some 2) (O.mv (Opd.c AV.nilsl)), C.op none (some 3) (O.mv (Opd.t 0)),
    C.op none (some 4) (O.eqn false (Opd.t 3)), C.cond (Opd.t 4) [C.op none (some 2) (O.mv (Opd.c AV.nilsl)), C.ret] [],
    C.op none (some 5) (O.bsl 3 [AV.int IntKind.i64 0, AV.int IntKind.i64 0, AV.str []] 0 []),
    C.op none (some 6) (O.mv (Opd.t 0)), C.op none (some 7) (O.app 3 (Opd.t 5) (Opd.t 6)),
    C.op none (some 2) (O.mv (Opd.t 7)), C.ret]
def r47 : List RV := [RV.t 2]
theorem c47_ok : cC Try.prog Try.f47.ntmps (Try.f47.body.getD .skip) = some c47 := by kernel_rfl

def c48 : List C :=
  [C.op none (some 2) (O.mv (Opd.c AV.nilsl)), C.op none (some 3) (O.mv (Opd.t 0)),
    C.op none (some 4) (O.len false (Opd.t 3)),
    C.op none (some 5) (O.bin BinOp.gtr (Opd.t 4) (Opd.c (AV.int IntKind.i64 8))),
    C.cond (Opd.t 5)
      [C.op none (some 6) (O.mv (Opd.t 0)), C.op none (some 7) (O.mv (Opd.t 0)),
        C.op none (some 8) (O.len false (Opd.t 7)),
        C.op none (some 9) (O.bin BinOp.sub (Opd.t 8) (Opd.c (AV.int IntKind.i64 8))),
        C.op none (some 10) (O.lsl 1 (Opd.t 6) (some (Opd.t 9)) none none), C.op none (some 2) (O.mv (Opd.t 10)), C.ret]
      [],
    C.op none (some 11) (O.mv (Opd.t 0)), C.op none (some 2) (O.mv (Opd.t 11)), C.ret]
def r48 : List RV := [RV.t 2]
theorem c48_ok : cC Try.prog Try.f48.ntmps (Try.f48.body.getD .skip) = some c48 := by kernel_rfl

def c49 : List C :=
  [C.op none (some 4) (O.mv (Opd.c AV.nilsl)), C.op none (some 8) (O.mv (Opd.t 0)), C.op none (some 9) (O.mv (Opd.t 1)),
    C.op none (some 10) (O.call 55 [Opd.t 8, Opd.t 9]), C.op none (some 5) (O.mv (Opd.t 10)),
    C.op none (some 11) (O.mv (Opd.t 5)),
    C.op none (some 12) (O.bin BinOp.eql (Opd.t 11) (Opd.c (AV.int IntKind.i64 (-1)))),
    C.cond (Opd.t 12) [C.op none (some 13) (O.mv (Opd.t 0)), C.op none (some 4) (O.mv (Opd.t 13)), C.ret] [],
    C.op none (some 14) (O.mv (Opd.t 5)),
    C.op none (some 15) (O.bin BinOp.add (Opd.t 14) (Opd.c (AV.int IntKind.i64 1))),
    C.op none (some 6) (O.mv (Opd.t 15)),
    C.blk 0
      [C.loop
          [C.op none (some 16) (O.mv (Opd.t 6)), C.op none (some 17) (O.mv (Opd.t 0)),
            C.op none (some 18) (O.len false (Opd.t 17)), C.op none (some 19) (O.bin BinOp.lss (Opd.t 16) (Opd.t 18)),
            C.cond (Opd.t 19) [] [C.exit 0],
            C.blk 1
              [C.op none (some 22) (O.mv (Opd.t 0)), C.op none (some 23) (O.mv (Opd.t 6)),
                C.op none (some 24) (O.iad 3 (Opd.t 22) (Opd.t 23)),
                C.op none (some 25) (O.ldn [CK.int IntKind.i64, CK.int IntKind.i64, CK.str] (Opd.t 24)),
                C.op none (some 7)
                  (O.alloc [AV.int IntKind.i64 0, AV.int IntKind.i64 0, AV.str []]),
                C.op none none (O.st 3 (Opd.t 7) (Opd.t 25)), C.op none (some 26) (O.mv (Opd.t 1)),
                C.op none (some 27) (O.ldn [CK.int IntKind.i64, CK.int IntKind.i64, CK.str] (Opd.t 7)),
                C.op none (some 28) (O.callv (Opd.t 26) [Opd.t 27]), C.op none (some 29) (O.un UnOp.not (Opd.t 28)),
                C.cond (Opd.t 29)
                  [C.op none (some 30) (O.mv (Opd.t 0)), C.op none (some 31) (O.mv (Opd.t 5)),
                    C.op none (some 32) (O.ldn [CK.int IntKind.i64, CK.int IntKind.i64, CK.str] (Opd.t 7)),
                    C.op none (some 33) (O.iad 3 (Opd.t 30) (Opd.t 31)), C.op none none (O.st 3 (Opd.t 33) (Opd.t 32)),
                    C.op none (some 34) (O.mv (Opd.t 5)),
                    C.op none (some 35) (O.bin BinOp.add (Opd.t 34) (Opd.c (AV.int IntKind.i64 1))),
                    C.op none (some 5) (O.mv (Opd.t 35))]
                  []],
            C.op none (some 20) (O.mv (Opd.t 6)),
            C.op none (some 21) (O.bin BinOp.add (Opd.t 20) (Opd.c (AV.int IntKind.i64 1))),
            C.op none (some 6) (O.mv (Opd.t 21))]],
    C.op none (some 36) (O.mv (Opd.t 0)), C.op none (some 37) (O.mv (Opd.t 5)),
    C.op none (some 38) (O.lsl 3 (Opd.t 36) (some (Opd.t 37)) none none),
    C.op none none (O.clr 3 [AV.int IntKind.i64 0, AV.int IntKind.i64 0, AV.str []] (Opd.t 38)),
    C.op none (some 39) (O.mv (Opd.t 0)), C.op none (some 40) (O.mv (Opd.t 5)),
    C.op none (some 41) (O.lsl 3 (Opd.t 39) none (some (Opd.t 40)) none), C.op none (some 4) (O.mv (Opd.t 41)), C.ret]
def r49 : List RV := [RV.t 4]
theorem c49_ok : cC Try.prog Try.f49.ntmps (Try.f49.body.getD .skip) = some c49 := by kernel_rfl

def c50 : List C :=
  [C.op none (some 2) (O.box (Opd.t 0)), C.op none (some 3) (O.mv (Opd.c (AV.bool false))),
    C.op none (some 4) (O.fad 0 (Opd.t 2)), C.op none (some 5) (O.ld (CK.int IntKind.i64) (Opd.t 4)),
    C.op none (some 6) (O.ld (CK.int IntKind.i64) (Opd.t 1)), C.op none (some 7) (O.bin BinOp.eql (Opd.t 5) (Opd.t 6)),
    C.op none (some 8) (O.mv (Opd.t 7)), C.op (some (8, false)) (some 9) (O.fad 1 (Opd.t 2)),
    C.op (some (8, false)) (some 10) (O.ld (CK.int IntKind.i64) (Opd.t 9)),
    C.op (some (8, false)) (some 11) (O.ld (CK.int IntKind.i64) (Opd.t 1)),
    C.op (some (8, false)) (some 12) (O.bin BinOp.eql (Opd.t 10) (Opd.t 11)),
    C.op none (some 13) (O.pick (Opd.t 8) (Opd.c (AV.bool true)) (Opd.t 12)), C.op none (some 3) (O.mv (Opd.t 13)),
    C.ret]
def r50 : List RV := [RV.t 3]
theorem c50_ok : cC Try.prog Try.f50.ntmps (Try.f50.body.getD .skip) = some c50 := by kernel_rfl

def c51 : List C :=
  [C.op none (some 4) (O.mv (Opd.c (AV.int IntKind.i64 0))), C.op none (some 8) (O.mv (Opd.t 0)),
    C.op none (some 9) (O.mv (Opd.t 1)), C.op none (some 10) (O.call 16 [Opd.t 8, Opd.t 9]),
    C.op none (some 7) (O.mv (Opd.t 10)), C.op none (some 11) (O.ext (Opd.t 7) 0),
    C.op none (some 12) (O.ext (Opd.t 7) 1),
    C.op none (some 5) (O.alloc [AV.int IntKind.i64 0, AV.int IntKind.i64 0, AV.str []]),
    C.op none none (O.st 3 (Opd.t 5) (Opd.t 11)), C.op none (some 6) (O.mv (Opd.t 12)),
    C.op none (some 13) (O.mv (Opd.t 6)),
    C.op none (some 14) (O.bin BinOp.eql (Opd.t 13) (Opd.c (AV.int IntKind.i64 0))),
    C.cond (Opd.t 14)
      [C.op none (some 15) (O.mv (Opd.t 0)), C.op none (some 16) (O.nck (Opd.t 15)),
        C.op none (some 17) (O.fad 1 (Opd.t 16)), C.op none (some 18) (O.ld (CK.int IntKind.i64) (Opd.t 17)),
        C.op none (some 19) (O.bin BinOp.add (Opd.t 18) (Opd.c (AV.int IntKind.i64 1))),
        C.op none (some 20) (O.nck (Opd.t 15)), C.op none (some 21) (O.fad 1 (Opd.t 20)),
        C.op none none (O.st 1 (Opd.t 21) (Opd.t 19))]
      [],
    C.op none (some 22) (O.mv (Opd.t 6)), C.op none (some 4) (O.mv (Opd.t 22)), C.ret]
def r51 : List RV := [RV.t 4]
theorem c51_ok : cC Try.prog Try.f51.ntmps (Try.f51.body.getD .skip) = some c51 := by kernel_rfl

def c52 : List C :=
  [C.op none (some 2) (O.box (Opd.t 0)), C.op none (some 4) (O.mv (Opd.c (AV.int IntKind.i64 0))),
    C.op none (some 5) (O.mv (Opd.t 1)), C.op none (some 6) (O.fad 0 (Opd.t 2)),
    C.op none (some 7) (O.ld CK.any (Opd.t 6)), C.op none (some 8) (O.len false (Opd.t 7)),
    C.op none (some 9) (O.bin BinOp.rem (Opd.t 5) (Opd.t 8)), C.op none (some 1) (O.mv (Opd.t 9)),
    C.op none (some 10) (O.mv (Opd.t 1)),
    C.op none (some 11) (O.bin BinOp.lss (Opd.t 10) (Opd.c (AV.int IntKind.i64 0))),
    C.cond (Opd.t 11)
      [C.op none (some 12) (O.mv (Opd.t 1)), C.op none (some 13) (O.fad 0 (Opd.t 2)),
        C.op none (some 14) (O.ld CK.any (Opd.t 13)), C.op none (some 15) (O.len false (Opd.t 14)),
        C.op none (some 16) (O.bin BinOp.add (Opd.t 12) (Opd.t 15)), C.op none (some 1) (O.mv (Opd.t 16))]
      [],
    C.op none (some 17) (O.mv (Opd.t 1)), C.op none (some 4) (O.mv (Opd.t 17)), C.ret]
def r52 : List RV := [RV.t 4]
theorem c52_ok : cC Try.prog Try.f52.ntmps (Try.f52.body.getD .skip) = some c52 := by kernel_rfl

def d53_0 : List It :=
  [(none, some 5, O.bsl 3 [AV.int IntKind.i64 0, AV.int IntKind.i64 0, AV.str []] 0 [], []),
        (none, some 6, O.fad 0 (Opd.t 2), []), (none, some 7, O.ld CK.any (Opd.t 6), [1]),
        (none, some 8, O.mv (Opd.t 1), []), (none, some 9, O.lsl 3 (Opd.t 7) none (some (Opd.t 8)) none, [2, 3]),
        (none, some 10, O.app 3 (Opd.t 5) (Opd.t 9), [0, 4]), (none, some 11, O.fad 0 (Opd.t 2), []),
        (none, some 12, O.ld CK.any (Opd.t 11), [6]), (none, some 13, O.mv (Opd.t 1), []),
        (none, some 14, O.bin BinOp.add (Opd.t 13) (Opd.c (AV.int IntKind.i64 1)), [8]),
        (none, some 15, O.lsl 3 (Opd.t 12) (some (Opd.t 14)) none none, [7, 9]),
        (none, some 16, O.app 3 (Opd.t 10) (Opd.t 15), [5, 10, 5]), (none, some 17, O.fad 1 (Opd.t 2), []),
        (none, some 18, O.ld (CK.int IntKind.i64) (Opd.t 17), [12]),
        (none, some 19, O.build [AV.nilsl, AV.int IntKind.i64 0] [(0, 1, Opd.t 16), (1, 1, Opd.t 18)],
          [11, 13]),
        (none, none, O.st 2 (Opd.t 4) (Opd.t 19), [14, 11, 0, 1, 2, 3, 4, 5, 6, 7, 8, 9, 10, 11, 12, 13, 14])]
def o53_0 : List (Nat × Bool) := [(0, false), (1, false), (2, false), (3, false), (4, false), (6, false), (7, false), (8, false), (9, false), (10, false), (12, false), (13, false), (5, true), (11, true), (14, false), (15, true)]
def l53_0 : List (Nat × Bool × It) :=
  [(0, false, (none, some 5, O.bsl 3 [AV.int IntKind.i64 0, AV.int IntKind.i64 0, AV.str []] 0 [], [])),
   (1, false, (none, some 6, O.fad 0 (Opd.t 2), [])),
   (2, false, (none, some 7, O.ld CK.any (Opd.t 6), [1])),
   (3, false, (none, some 8, O.mv (Opd.t 1), [])),
   (4, false, (none, some 9, O.lsl 3 (Opd.t 7) none (some (Opd.t 8)) none, [2, 3])),
   (6, false, (none, some 11, O.fad 0 (Opd.t 2), [])),
   (7, false, (none, some 12, O.ld CK.any (Opd.t 11), [6])),
   (8, false, (none, some 13, O.mv (Opd.t 1), [])),
   (9, false, (none, some 14, O.bin BinOp.add (Opd.t 13) (Opd.c (AV.int IntKind.i64 1)), [8])),
   (10, false, (none, some 15, O.lsl 3 (Opd.t 12) (some (Opd.t 14)) none none, [7, 9])),
   (12, false, (none, some 17, O.fad 1 (Opd.t 2), [])),
   (13, false, (none, some 18, O.ld (CK.int IntKind.i64) (Opd.t 17), [12])),
   (5, true, (none, some 10, O.app 3 (Opd.t 5) (Opd.t 9), [0, 4])),
   (11, true, (none, some 16, O.app 3 (Opd.t 10) (Opd.t 15), [5, 10, 5])),
   (14, false, (none, some 19, O.build [AV.nilsl, AV.int IntKind.i64 0] [(0, 1, Opd.t 16), (1, 1, Opd.t 18)],
          [11, 13])),
   (15, true, (none, none, O.st 2 (Opd.t 4) (Opd.t 19), [14, 11, 0, 1, 2, 3, 4, 5, 6, 7, 8, 9, 10, 11, 12, 13, 14]))]
theorem l53_0_ok : okDraw d53_0 o53_0 = true ∧ mkL d53_0 o53_0 = some l53_0 := ⟨by kernel_rfl, by kernel_rfl⟩

def c53 : List C :=
  [C.op none (some 2) (O.box (Opd.t 0)), C.op none (some 4) (O.alloc [AV.nilsl, AV.int IntKind.i64 0]),
    C.draw d53_0,
    C.ret]
def r53 : List RV := [RV.cn 4 2]
theorem c53_ok : cC Try.prog Try.f53.ntmps (Try.f53.body.getD .skip) = some c53 := by kernel_rfl

def d54_0 : List It :=
  [(none, some 7, O.mv (Opd.t 0), []), (none, some 8, O.mv (Opd.t 1), []),
        (none, some 9, O.ssl (Opd.t 7) none (some (Opd.t 8)), [0, 1]), (none, some 10, O.mv (Opd.t 0), []),
        (none, some 11, O.mv (Opd.t 1), []), (none, some 12, O.ist (Opd.t 10) (Opd.t 11), [3, 4]),
        (none, some 13, O.mv (Opd.t 2), []), (none, some 14, O.bin BinOp.xor (Opd.t 12) (Opd.t 13), [5, 6]),
        (none, some 15, O.bsl 1 [AV.int IntKind.u8 0] 1 [(0, Opd.t 14)], [7]),
        (none, some 16, O.cvb (Opd.t 15), [8]), (none, some 17, O.bin BinOp.add (Opd.t 9) (Opd.t 16), [2, 9]),
        (none, some 18, O.mv (Opd.t 0), []), (none, some 19, O.mv (Opd.t 1), []),
        (none, some 20, O.bin BinOp.add (Opd.t 19) (Opd.c (AV.int IntKind.i64 1)), [12]),
        (none, some 21, O.ssl (Opd.t 18) (some (Opd.t 20)) none, [11, 13]),
        (none, some 22, O.bin BinOp.add (Opd.t 17) (Opd.t 21), [10, 14]),
        (none, some 6, O.mv (Opd.t 22), [15, 0, 1, 2, 3, 4, 5, 6, 7, 8, 9, 10, 11, 12, 13, 14, 15])]
def o54_0 : List (Nat × Bool) := [(0, false), (1, false), (2, false), (3, false), (4, false), (5, false), (6, false), (7, false), (8, false), (9, false), (10, false), (11, false), (12, false), (13, false), (14, false), (15, false), (16, false)]
def l54_0 : List (Nat × Bool × It) :=
  [(0, false, (none, some 7, O.mv (Opd.t 0), [])),
   (1, false, (none, some 8, O.mv (Opd.t 1), [])),
   (2, false, (none, some 9, O.ssl (Opd.t 7) none (some (Opd.t 8)), [0, 1])),
   (3, false, (none, some 10, O.mv (Opd.t 0), [])),
   (4, false, (none, some 11, O.mv (Opd.t 1), [])),
   (5, false, (none, some 12, O.ist (Opd.t 10) (Opd.t 11), [3, 4])),
   (6, false, (none, some 13, O.mv (Opd.t 2), [])),
   (7, false, (none, some 14, O.bin BinOp.xor (Opd.t 12) (Opd.t 13), [5, 6])),
   (8, false, (none, some 15, O.bsl 1 [AV.int IntKind.u8 0] 1 [(0, Opd.t 14)], [7])),
   (9, false, (none, some 16, O.cvb (Opd.t 15), [8])),
   (10, false, (none, some 17, O.bin BinOp.add (Opd.t 9) (Opd.t 16), [2, 9])),
   (11, false, (none, some 18, O.mv (Opd.t 0), [])),
   (12, false, (none, some 19, O.mv (Opd.t 1), [])),
   (13, false, (none, some 20, O.bin BinOp.add (Opd.t 19) (Opd.c (AV.int IntKind.i64 1)), [12])),
   (14, false, (none, some 21, O.ssl (Opd.t 18) (some (Opd.t 20)) none, [11, 13])),
   (15, false, (none, some 22, O.bin BinOp.add (Opd.t 17) (Opd.t 21), [10, 14])),
   (16, false, (none, some 6, O.mv (Opd.t 22), [15, 0, 1, 2, 3, 4, 5, 6, 7, 8, 9, 10, 11, 12, 13, 14, 15]))]
theorem l54_0_ok : okDraw d54_0 o54_0 = true ∧ mkL d54_0 o54_0 = some l54_0 := ⟨by kernel_rfl, by kernel_rfl⟩

def c54 : List C :=
  [C.op none (some 6) (O.mv (Opd.c (AV.str []))),
    C.draw d54_0,
    C.ret]
def r54 : List RV := [RV.t 6]
theorem c54_ok : cC Try.prog Try.f54.ntmps (Try.f54.body.getD .skip) = some c54 := by kernel_rfl

def c55 : List C :=
  [C.op none (some 4) (O.mv (Opd.c (AV.int IntKind.i64 0))), C.op none (some 6) (O.mv (Opd.t 0)),
    C.op none (some 7) (O.len false (Opd.t 6)), C.op none (some 8) (O.mv (Opd.c (AV.int IntKind.i64 0))),
    C.blk 0
      [C.loop
          [C.op none (some 9) (O.bin BinOp.lss (Opd.t 8) (Opd.t 7)), C.cond (Opd.t 9) [] [C.exit 0],
            C.blk 1
              [C.op none (some 10) (O.mv (Opd.t 8)), C.op none (some 5) (O.mv (Opd.t 10)),
                C.op none (some 11) (O.mv (Opd.t 1)), C.op none (some 12) (O.mv (Opd.t 0)),
                C.op none (some 13) (O.mv (Opd.t 5)), C.op none (some 14) (O.iad 3 (Opd.t 12) (Opd.t 13)),
                C.op none (some 15) (O.ldn [CK.int IntKind.i64, CK.int IntKind.i64, CK.str] (Opd.t 14)),
                C.op none (some 16) (O.callv (Opd.t 11) [Opd.t 15]),
                C.cond (Opd.t 16) [C.op none (some 17) (O.mv (Opd.t 5)), C.op none (some 4) (O.mv (Opd.t 17)), C.ret]
                  []],
            C.op none (some 18) (O.bin BinOp.add (Opd.t 8) (Opd.c (AV.int IntKind.i64 1))),
            C.op none (some 8) (O.mv (Opd.t 18))]],
    C.op none (some 4) (O.mv (Opd.c (AV.int IntKind.i64 (-1)))), C.ret]
def r55 : List RV := [RV.t 4]
theorem c55_ok : cC Try.prog Try.f55.ntmps (Try.f55.body.getD .skip) = some c55 := by kernel_rfl

end Go.AEX
