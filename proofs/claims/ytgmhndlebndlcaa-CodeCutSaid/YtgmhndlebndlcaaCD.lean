/- Compact codes, printed by gen.py from the given form; each is checked by its theorem. -/
import Derived.Test.YtgmhndlebndlcaaAEzh
import Derived.Test.YtgmhndlebndlcaaProg
import Derived.KernelRfl
namespace Go.AEX
open Go Go.AE Go.Proofs
set_option maxRecDepth 100000

def c3 : List C :=
  [C.op none (some 6) (O.mv (Opd.c (AV.bool false))), C.op none (some 12) (O.mv (Opd.t 0)),
    C.op none (some 13) (O.mv (Opd.t 1)), C.op none (some 7) (O.mv (Opd.t 12)), C.op none (some 8) (O.mv (Opd.t 13)),
    C.op none (some 14) (O.mv (Opd.t 0)),
    C.op none (some 15) (O.bin BinOp.geq (Opd.t 14) (Opd.c (AV.int IntKind.u8 1))),
    C.op none (some 16) (O.mv (Opd.t 15)), C.op (some (16, true)) (some 17) (O.mv (Opd.t 0)),
    C.op (some (16, true)) (some 18) (O.bin BinOp.leq (Opd.t 17) (Opd.c (AV.int IntKind.u8 22))),
    C.op none (some 19) (O.pick (Opd.t 16) (Opd.t 18) (Opd.c (AV.bool false))), C.op none (some 9) (O.mv (Opd.t 19)),
    C.op none (some 20) (O.call 13 []), C.op none (some 21) (O.un UnOp.not (Opd.t 20)),
    C.op none (some 22) (O.mv (Opd.t 21)), C.op (some (22, false)) (some 23) (O.mv (Opd.t 7)),
    C.op (some (22, false)) (some 24) (O.call 14 [Opd.t 23]),
    C.op (some (22, false)) (some 25)
      (O.bin BinOp.eql (Opd.t 24)
        (Opd.c (AV.str [63]))),
    C.op (some (22, false)) (some 26) (O.mv (Opd.t 9)),
    C.op (some (22, false)) (some 27) (O.eqb false (Opd.t 25) (Opd.t 26)),
    C.op none (some 28) (O.pick (Opd.t 22) (Opd.c (AV.bool true)) (Opd.t 27)), C.op none (some 29) (O.mv (Opd.t 28)),
    C.op (some (29, false)) (some 30) (O.mv (Opd.t 7)), C.op (some (29, false)) (some 31) (O.call 15 [Opd.t 30]),
    C.op (some (29, false)) (some 32) (O.mv (Opd.t 0)),
    C.op (some (29, false)) (some 33) (O.cvi IntKind.i64 (Opd.t 32)),
    C.op (some (29, false)) (some 34) (O.call 16 [Opd.t 33]),
    C.op (some (29, false)) (some 35) (O.eqb true (Opd.t 31) (Opd.t 34)),
    C.op none (some 36) (O.pick (Opd.t 29) (Opd.c (AV.bool true)) (Opd.t 35)),
    C.cond (Opd.t 36) [C.op none (some 6) (O.mv (Opd.c (AV.bool false))), C.ret] [],
    C.op none (some 37) (O.mv (Opd.t 9)), C.op none (some 38) (O.mv (Opd.t 37)),
    C.op (some (38, true)) (some 39) (O.mv (Opd.t 1)),
    C.op (some (38, true)) (some 40) (O.bin BinOp.geq (Opd.t 39) (Opd.c (AV.int IntKind.u8 1))),
    C.op none (some 41) (O.pick (Opd.t 38) (Opd.t 40) (Opd.c (AV.bool false))), C.op none (some 42) (O.mv (Opd.t 41)),
    C.op (some (42, true)) (some 43) (O.mv (Opd.t 1)),
    C.op (some (42, true)) (some 44) (O.bin BinOp.leq (Opd.t 43) (Opd.c (AV.int IntKind.u8 22))),
    C.op none (some 45) (O.pick (Opd.t 42) (Opd.t 44) (Opd.c (AV.bool false))), C.op none (some 46) (O.mv (Opd.t 45)),
    C.op (some (46, true)) (some 47) (O.mv (Opd.t 7)), C.op (some (46, true)) (some 48) (O.call 14 [Opd.t 47]),
    C.op (some (46, true)) (some 49) (O.mv (Opd.t 8)), C.op (some (46, true)) (some 50) (O.call 14 [Opd.t 49]),
    C.op (some (46, true)) (some 51) (O.bin BinOp.eql (Opd.t 48) (Opd.t 50)),
    C.op (some (46, true)) (some 52) (O.mv (Opd.t 0)), C.op (some (46, true)) (some 53) (O.mv (Opd.t 1)),
    C.op (some (46, true)) (some 54) (O.bin BinOp.eql (Opd.t 52) (Opd.t 53)),
    C.op (some (46, true)) (some 55) (O.eqb true (Opd.t 51) (Opd.t 54)),
    C.op none (some 56) (O.pick (Opd.t 46) (Opd.t 55) (Opd.c (AV.bool false))),
    C.cond (Opd.t 56) [C.op none (some 6) (O.mv (Opd.c (AV.bool false))), C.ret] [],
    C.op none (some 57) (O.mv (Opd.t 7)), C.op none (some 58) (O.mv (Opd.t 2)),
    C.op none (some 59) (O.bsl 1 [AV.int IntKind.i64 0] 1 [(0, Opd.t 58)]),
    C.op none (some 60) (O.call 17 [Opd.t 57, Opd.t 59]), C.op none (some 61) (O.mv (Opd.t 7)),
    C.op none (some 62) (O.call 17 [Opd.t 61, Opd.c AV.nilsl]),
    C.op none (some 10) (O.alloc [AV.int IntKind.u8 0, AV.int IntKind.i64 0]),
    C.op none (some 11) (O.alloc [AV.int IntKind.u8 0, AV.int IntKind.i64 0]),
    C.op none none (O.st 2 (Opd.t 10) (Opd.t 60)), C.op none none (O.st 2 (Opd.t 11) (Opd.t 62)),
    C.op none (some 63) (O.fad 0 (Opd.t 10)), C.op none (some 64) (O.ld (CK.int IntKind.u8) (Opd.t 63)),
    C.op none (some 65) (O.mv (Opd.t 7)), C.op none (some 66) (O.bin BinOp.eql (Opd.t 64) (Opd.t 65)),
    C.op none (some 67) (O.mv (Opd.t 66)), C.op (some (67, true)) (some 68) (O.fad 0 (Opd.t 11)),
    C.op (some (67, true)) (some 69) (O.ld (CK.int IntKind.u8) (Opd.t 68)),
    C.op (some (67, true)) (some 70) (O.mv (Opd.t 7)),
    C.op (some (67, true)) (some 71) (O.bin BinOp.eql (Opd.t 69) (Opd.t 70)),
    C.op none (some 72) (O.pick (Opd.t 67) (Opd.t 71) (Opd.c (AV.bool false))), C.op none (some 73) (O.mv (Opd.t 72)),
    C.op (some (73, true)) (some 74) (O.fad 1 (Opd.t 11)),
    C.op (some (73, true)) (some 75) (O.ld (CK.int IntKind.i64) (Opd.t 74)),
    C.op (some (73, true)) (some 76) (O.bin BinOp.eql (Opd.t 75) (Opd.c (AV.int IntKind.i64 0))),
    C.op none (some 77) (O.pick (Opd.t 73) (Opd.t 76) (Opd.c (AV.bool false))), C.op none (some 78) (O.mv (Opd.t 77)),
    C.op (some (78, true)) (some 79) (O.fad 1 (Opd.t 10)),
    C.op (some (78, true)) (some 80) (O.ld (CK.int IntKind.i64) (Opd.t 79)),
    C.op (some (78, true)) (some 81) (O.mv (Opd.t 2)),
    C.op (some (78, true)) (some 82) (O.bin BinOp.eql (Opd.t 80) (Opd.t 81)),
    C.op (some (78, true)) (some 83) (O.mv (Opd.t 82)), C.op (some (83, false)) (some 84) (O.mv (Opd.t 7)),
    C.op (some (83, false)) (some 85) (O.call 15 [Opd.t 84]),
    C.op (some (83, false)) (some 86) (O.un UnOp.not (Opd.t 85)), C.op (some (83, false)) (some 87) (O.mv (Opd.t 86)),
    C.op (some (87, true)) (some 88) (O.fad 1 (Opd.t 10)),
    C.op (some (87, true)) (some 89) (O.ld (CK.int IntKind.i64) (Opd.t 88)),
    C.op (some (87, true)) (some 90) (O.bin BinOp.eql (Opd.t 89) (Opd.c (AV.int IntKind.i64 0))),
    C.op (some (83, false)) (some 91) (O.pick (Opd.t 87) (Opd.t 90) (Opd.c (AV.bool false))),
    C.op (some (78, true)) (some 92) (O.pick (Opd.t 83) (Opd.c (AV.bool true)) (Opd.t 91)),
    C.op none (some 93) (O.pick (Opd.t 78) (Opd.t 92) (Opd.c (AV.bool false))), C.op none (some 6) (O.mv (Opd.t 93)),
    C.ret]
def r3 : List RV := [RV.t 6]
theorem c3_ok : cC Try.prog Try.f3.ntmps (Try.f3.body.getD .skip) = some c3 := by kernel_rfl

def d4_0 : List It :=
  [(none, some 26, O.fad 2 (Opd.t 7), []), (none, some 27, O.ld CK.any (Opd.t 26), [0]),
                    (none, some 28, O.len false (Opd.t 27), [1]), (none, some 29, O.mv (Opd.t 2), []),
                    (none, some 30, O.len false (Opd.t 29), [3]),
                    (none, some 31, O.bin BinOp.neq (Opd.t 28) (Opd.t 30), [2, 4]),
                    (none, some 32, O.mv (Opd.t 31), [5]), (some (32, false), some 33, O.fad 2 (Opd.t 7), [6]),
                    (some (32, false), some 34, O.ld CK.any (Opd.t 33), [7, 6]),
                    (some (32, false), some 35, O.mv (Opd.t 8), [6]),
                    (some (32, false), some 36, O.iad 2 (Opd.t 34) (Opd.t 35), [8, 9, 6]),
                    (some (32, false), some 37, O.ldn [CK.int IntKind.u8, CK.int IntKind.i64] (Opd.t 36), [10, 6]),
                    (some (32, false), some 38, O.mv (Opd.t 2), [6]), (some (32, false), some 39, O.mv (Opd.t 8), [6]),
                    (some (32, false), some 40, O.iad 2 (Opd.t 38) (Opd.t 39), [12, 13, 6]),
                    (some (32, false), some 41, O.ldn [CK.int IntKind.u8, CK.int IntKind.i64] (Opd.t 40), [14, 6]),
                    (some (32, false), some 42,
                      O.eqa true [CK.int IntKind.u8, CK.int IntKind.i64] (Opd.t 37) (Opd.t 41), [11, 15, 6]),
                    (none, some 43, O.pick (Opd.t 32) (Opd.c (AV.bool true)) (Opd.t 42), [6, 16])]
def o4_0 : List (Nat × Bool) := [(0, false), (1, false), (2, false), (3, false), (4, false), (5, false), (6, false), (7, false), (8, false), (9, false), (10, false), (11, false), (12, false), (13, false), (14, false), (15, false), (16, false), (17, false)]
def l4_0 : List (Nat × Bool × It) :=
  [(0, false, (none, some 26, O.fad 2 (Opd.t 7), [])),
   (1, false, (none, some 27, O.ld CK.any (Opd.t 26), [0])),
   (2, false, (none, some 28, O.len false (Opd.t 27), [1])),
   (3, false, (none, some 29, O.mv (Opd.t 2), [])),
   (4, false, (none, some 30, O.len false (Opd.t 29), [3])),
   (5, false, (none, some 31, O.bin BinOp.neq (Opd.t 28) (Opd.t 30), [2, 4])),
   (6, false, (none, some 32, O.mv (Opd.t 31), [5])),
   (7, false, (some (32, false), some 33, O.fad 2 (Opd.t 7), [6])),
   (8, false, (some (32, false), some 34, O.ld CK.any (Opd.t 33), [7, 6])),
   (9, false, (some (32, false), some 35, O.mv (Opd.t 8), [6])),
   (10, false, (some (32, false), some 36, O.iad 2 (Opd.t 34) (Opd.t 35), [8, 9, 6])),
   (11, false, (some (32, false), some 37, O.ldn [CK.int IntKind.u8, CK.int IntKind.i64] (Opd.t 36), [10, 6])),
   (12, false, (some (32, false), some 38, O.mv (Opd.t 2), [6])),
   (13, false, (some (32, false), some 39, O.mv (Opd.t 8), [6])),
   (14, false, (some (32, false), some 40, O.iad 2 (Opd.t 38) (Opd.t 39), [12, 13, 6])),
   (15, false, (some (32, false), some 41, O.ldn [CK.int IntKind.u8, CK.int IntKind.i64] (Opd.t 40), [14, 6])),
   (16, false, (some (32, false), some 42,
                      O.eqa true [CK.int IntKind.u8, CK.int IntKind.i64] (Opd.t 37) (Opd.t 41), [11, 15, 6])),
   (17, false, (none, some 43, O.pick (Opd.t 32) (Opd.c (AV.bool true)) (Opd.t 42), [6, 16]))]
theorem l4_0_ok : okDraw d4_0 o4_0 = true ∧ mkL d4_0 o4_0 = some l4_0 := ⟨by kernel_rfl, by kernel_rfl⟩

def d4_1 : List It :=
  [(none, some 52, O.fad 2 (Opd.t 7), []), (none, some 53, O.ld CK.any (Opd.t 52), [0]),
                    (none, some 54, O.mv (Opd.t 8), []), (none, some 55, O.iad 2 (Opd.t 53) (Opd.t 54), [1, 2]),
                    (none, some 56, O.ldn [CK.int IntKind.u8, CK.int IntKind.i64] (Opd.t 55), [3]),
                    (none, some 57, O.mv (Opd.t 2), []), (none, some 58, O.mv (Opd.t 8), []),
                    (none, some 59, O.iad 2 (Opd.t 57) (Opd.t 58), [5, 6]),
                    (none, some 60, O.ldn [CK.int IntKind.u8, CK.int IntKind.i64] (Opd.t 59), [7]),
                    (none, some 61, O.eqa false [CK.int IntKind.u8, CK.int IntKind.i64] (Opd.t 56) (Opd.t 60), [4, 8])]
def o4_1 : List (Nat × Bool) := [(0, false), (1, false), (2, false), (3, false), (4, false), (5, false), (6, false), (7, false), (8, false), (9, false)]
def l4_1 : List (Nat × Bool × It) :=
  [(0, false, (none, some 52, O.fad 2 (Opd.t 7), [])),
   (1, false, (none, some 53, O.ld CK.any (Opd.t 52), [0])),
   (2, false, (none, some 54, O.mv (Opd.t 8), [])),
   (3, false, (none, some 55, O.iad 2 (Opd.t 53) (Opd.t 54), [1, 2])),
   (4, false, (none, some 56, O.ldn [CK.int IntKind.u8, CK.int IntKind.i64] (Opd.t 55), [3])),
   (5, false, (none, some 57, O.mv (Opd.t 2), [])),
   (6, false, (none, some 58, O.mv (Opd.t 8), [])),
   (7, false, (none, some 59, O.iad 2 (Opd.t 57) (Opd.t 58), [5, 6])),
   (8, false, (none, some 60, O.ldn [CK.int IntKind.u8, CK.int IntKind.i64] (Opd.t 59), [7])),
   (9, false, (none, some 61, O.eqa false [CK.int IntKind.u8, CK.int IntKind.i64] (Opd.t 56) (Opd.t 60), [4, 8]))]
theorem l4_1_ok : okDraw d4_1 o4_1 = true ∧ mkL d4_1 o4_1 = some l4_1 := ⟨by kernel_rfl, by kernel_rfl⟩

def c4 : List C :=
  [C.op none (some 6) (O.mv (Opd.c (AV.bool false))), C.op none (some 9) (O.mv (Opd.t 2)),
    C.op none (some 10) (O.len false (Opd.t 9)),
    C.op none (some 11) (O.bin BinOp.gtr (Opd.t 10) (Opd.c (AV.int IntKind.i64 30))),
    C.cond (Opd.t 11)
      [C.op none (some 12) (O.mv (Opd.t 2)),
        C.op none (some 13) (O.lsl 2 (Opd.t 12) none (some (Opd.c (AV.int IntKind.i64 30))) none),
        C.op none (some 2) (O.mv (Opd.t 13))]
      [],
    C.op none (some 14) (O.bsl 2 [AV.int IntKind.u8 0, AV.int IntKind.i64 0] 0 []),
    C.op none (some 15) (O.mv (Opd.t 2)), C.op none (some 16) (O.app 2 (Opd.t 14) (Opd.t 15)),
    C.op none (some 2) (O.mv (Opd.t 16)), C.op none (some 17) (O.mv (Opd.t 0)), C.op none (some 18) (O.mv (Opd.t 1)),
    C.op none (some 19) (O.mv (Opd.t 2)), C.op none (some 20) (O.call 18 [Opd.t 17, Opd.t 18, Opd.t 19]),
    C.op none (some 7) (O.alloc [AV.int IntKind.i64 0, AV.int IntKind.i64 0, AV.nilsl]),
    C.op none none (O.st 3 (Opd.t 7) (Opd.t 20)), C.op none (some 21) (O.mv (Opd.t 2)),
    C.op none (some 22) (O.len false (Opd.t 21)), C.op none (some 23) (O.mv (Opd.c (AV.int IntKind.i64 0))),
    C.blk 0
      [C.loop
          [C.op none (some 24) (O.bin BinOp.lss (Opd.t 23) (Opd.t 22)), C.cond (Opd.t 24) [] [C.exit 0],
            C.blk 1
              [C.op none (some 25) (O.mv (Opd.t 23)), C.op none (some 8) (O.mv (Opd.t 25)),
                C.draw d4_0,
                C.cond (Opd.t 43) [C.op none (some 6) (O.mv (Opd.c (AV.bool false))), C.ret] [],
                C.op none (some 44) (O.mv (Opd.t 2)), C.op none (some 45) (O.mv (Opd.t 8)),
                C.op none (some 46) (O.iad 2 (Opd.t 44) (Opd.t 45)), C.op none (some 47) (O.fad 1 (Opd.t 46)),
                C.op none (some 48) (O.ld (CK.int IntKind.i64) (Opd.t 47)),
                C.op none (some 49) (O.bin BinOp.add (Opd.t 48) (Opd.c (AV.int IntKind.i64 1))),
                C.op none (some 50) (O.iad 2 (Opd.t 44) (Opd.t 45)), C.op none (some 51) (O.fad 1 (Opd.t 50)),
                C.op none none (O.st 1 (Opd.t 51) (Opd.t 49)),
                C.draw d4_1,
                C.cond (Opd.t 61) [C.op none (some 6) (O.mv (Opd.c (AV.bool false))), C.ret] []],
            C.op none (some 62) (O.bin BinOp.add (Opd.t 23) (Opd.c (AV.int IntKind.i64 1))),
            C.op none (some 23) (O.mv (Opd.t 62))]],
    C.op none (some 63) (O.call 13 []), C.op none (some 64) (O.mv (Opd.t 63)),
    C.op (some (64, true)) (some 65) (O.fad 0 (Opd.t 7)),
    C.op (some (64, true)) (some 66) (O.ld (CK.int IntKind.i64) (Opd.t 65)),
    C.op (some (64, true)) (some 67) (O.mv (Opd.t 0)),
    C.op (some (64, true)) (some 68) (O.bin BinOp.eql (Opd.t 66) (Opd.t 67)),
    C.op none (some 69) (O.pick (Opd.t 64) (Opd.t 68) (Opd.c (AV.bool false))), C.op none (some 70) (O.mv (Opd.t 69)),
    C.op (some (70, true)) (some 71) (O.fad 1 (Opd.t 7)),
    C.op (some (70, true)) (some 72) (O.ld (CK.int IntKind.i64) (Opd.t 71)),
    C.op (some (70, true)) (some 73) (O.mv (Opd.t 1)),
    C.op (some (70, true)) (some 74) (O.bin BinOp.eql (Opd.t 72) (Opd.t 73)),
    C.op none (some 75) (O.pick (Opd.t 70) (Opd.t 74) (Opd.c (AV.bool false))), C.op none (some 76) (O.mv (Opd.t 75)),
    C.op (some (76, true)) (some 77) (O.fad 2 (Opd.t 7)), C.op (some (76, true)) (some 78) (O.ld CK.any (Opd.t 77)),
    C.op (some (76, true)) (some 79) (O.len false (Opd.t 78)), C.op (some (76, true)) (some 80) (O.mv (Opd.t 2)),
    C.op (some (76, true)) (some 81) (O.len false (Opd.t 80)),
    C.op (some (76, true)) (some 82) (O.bin BinOp.eql (Opd.t 79) (Opd.t 81)),
    C.op none (some 83) (O.pick (Opd.t 76) (Opd.t 82) (Opd.c (AV.bool false))), C.op none (some 6) (O.mv (Opd.t 83)),
    C.ret]
def r4 : List RV := [RV.t 6]
theorem c4_ok : cC Try.prog Try.f4.ntmps (Try.f4.body.getD .skip) = some c4 := by kernel_rfl

def c5 : List C :=
  [C.op none (some 4) (O.mv (Opd.c (AV.bool false))), C.op none (some 11) (O.mv (Opd.t 0)),
    C.op none (some 12) (O.call 19 [Opd.t 11, Opd.c (AV.int IntKind.i64 100)]),
    C.op none (some 13) (O.mv (Opd.t 1)),
    C.op none (some 14) (O.call 19 [Opd.t 13, Opd.c (AV.int IntKind.i64 100)]),
    C.op none (some 0) (O.mv (Opd.t 12)), C.op none (some 1) (O.mv (Opd.t 14)), C.op none (some 16) (O.mv (Opd.t 1)),
    C.op none (some 17) (O.call 20 [Opd.t 16]), C.op none (some 15) (O.mv (Opd.t 17)),
    C.op none (some 18) (O.ext (Opd.t 15) 0), C.op none (some 19) (O.ext (Opd.t 15) 1),
    C.op none (some 5) (O.mv (Opd.t 18)), C.op none (some 6) (O.mv (Opd.t 19)), C.op none (some 21) (O.mv (Opd.t 1)),
    C.op none (some 22) (O.call 21 [Opd.t 21]), C.op none (some 20) (O.mv (Opd.t 22)),
    C.op none (some 23) (O.ext (Opd.t 20) 0), C.op none (some 24) (O.ext (Opd.t 20) 1),
    C.op none (some 7) (O.mv (Opd.t 23)), C.op none (some 8) (O.mv (Opd.t 24)), C.op none (some 26) (O.mv (Opd.t 0)),
    C.op none (some 27) (O.call 22 [Opd.t 26]), C.op none (some 28) (O.call 20 [Opd.t 27]),
    C.op none (some 25) (O.mv (Opd.t 28)), C.op none (some 29) (O.ext (Opd.t 25) 0),
    C.op none (some 30) (O.ext (Opd.t 25) 1), C.op none (some 9) (O.mv (Opd.t 29)),
    C.op none (some 10) (O.mv (Opd.t 30)), C.op none (some 31) (O.call 23 []), C.op none (some 32) (O.mv (Opd.t 31)),
    C.op (some (32, true)) (some 33) (O.mv (Opd.t 0)), C.op (some (32, true)) (some 34) (O.call 22 [Opd.t 33]),
    C.op (some (32, true)) (some 35) (O.mv (Opd.t 0)), C.op (some (32, true)) (some 36) (O.call 24 [Opd.t 35]),
    C.op (some (32, true)) (some 37) (O.bin BinOp.eql (Opd.t 34) (Opd.t 36)),
    C.op none (some 38) (O.pick (Opd.t 32) (Opd.t 37) (Opd.c (AV.bool false))), C.op none (some 39) (O.mv (Opd.t 38)),
    C.op (some (39, true)) (some 40) (O.mv (Opd.t 5)), C.op (some (39, true)) (some 41) (O.mv (Opd.t 7)),
    C.op (some (39, true)) (some 42) (O.bin BinOp.eql (Opd.t 40) (Opd.t 41)),
    C.op none (some 43) (O.pick (Opd.t 39) (Opd.t 42) (Opd.c (AV.bool false))), C.op none (some 44) (O.mv (Opd.t 43)),
    C.op (some (44, true)) (some 45) (O.mv (Opd.t 6)), C.op (some (44, true)) (some 46) (O.mv (Opd.t 8)),
    C.op (some (44, true)) (some 47) (O.bin BinOp.eql (Opd.t 45) (Opd.t 46)),
    C.op none (some 48) (O.pick (Opd.t 44) (Opd.t 47) (Opd.c (AV.bool false))), C.op none (some 49) (O.mv (Opd.t 48)),
    C.op (some (49, true)) (some 50) (O.mv (Opd.t 9)), C.op (some (49, true)) (some 51) (O.mv (Opd.t 0)),
    C.op (some (49, true)) (some 52) (O.bin BinOp.eql (Opd.t 50) (Opd.t 51)),
    C.op none (some 53) (O.pick (Opd.t 49) (Opd.t 52) (Opd.c (AV.bool false))), C.op none (some 54) (O.mv (Opd.t 53)),
    C.op (some (54, true)) (some 55) (O.mv (Opd.t 10)),
    C.op (some (54, true)) (some 56) (O.bin BinOp.eql (Opd.t 55) (Opd.c (AV.int IntKind.i64 0))),
    C.op none (some 57) (O.pick (Opd.t 54) (Opd.t 56) (Opd.c (AV.bool false))), C.op none (some 4) (O.mv (Opd.t 57)),
    C.ret]
def r5 : List RV := [RV.t 4]
theorem c5_ok : cC Try.prog Try.f5.ntmps (Try.f5.body.getD .skip) = some c5 := by kernel_rfl

def c6 : List C :=
  [C.op none (some 6) (O.mv (Opd.c (AV.bool false))), C.op none (some 10) (O.mv (Opd.t 0)),
    C.op none (some 11) (O.call 19 [Opd.t 10, Opd.c (AV.int IntKind.i64 100)]),
    C.op none (some 0) (O.mv (Opd.t 11)), C.op none (some 12) (O.mv (Opd.t 0)),
    C.op none (some 13) (O.call 22 [Opd.t 12]), C.op none (some 14) (O.cvs (Opd.t 13)),
    C.op none (some 7) (O.mv (Opd.t 14)), C.op none (some 15) (O.call 23 []),
    C.op none (some 16) (O.un UnOp.not (Opd.t 15)), C.op none (some 17) (O.mv (Opd.t 16)),
    C.op (some (17, false)) (some 18) (O.mv (Opd.t 1)),
    C.op (some (17, false)) (some 19) (O.bin BinOp.lss (Opd.t 18) (Opd.c (AV.int IntKind.i64 0))),
    C.op none (some 20) (O.pick (Opd.t 17) (Opd.c (AV.bool true)) (Opd.t 19)), C.op none (some 21) (O.mv (Opd.t 20)),
    C.op (some (21, false)) (some 22) (O.mv (Opd.t 1)), C.op (some (21, false)) (some 23) (O.mv (Opd.t 7)),
    C.op (some (21, false)) (some 24) (O.len false (Opd.t 23)),
    C.op (some (21, false)) (some 25) (O.bin BinOp.geq (Opd.t 22) (Opd.t 24)),
    C.op none (some 26) (O.pick (Opd.t 21) (Opd.c (AV.bool true)) (Opd.t 25)), C.op none (some 27) (O.mv (Opd.t 26)),
    C.op (some (27, false)) (some 28) (O.mv (Opd.t 2)),
    C.op (some (27, false)) (some 29) (O.bin BinOp.eql (Opd.t 28) (Opd.c (AV.int IntKind.u8 0))),
    C.op none (some 30) (O.pick (Opd.t 27) (Opd.c (AV.bool true)) (Opd.t 29)),
    C.cond (Opd.t 30) [C.op none (some 31) (O.call 23 []), C.op none (some 6) (O.mv (Opd.t 31)), C.ret] [],
    C.op none (some 32) (O.mv (Opd.t 7)), C.op none (some 33) (O.mv (Opd.t 1)),
    C.op none (some 34) (O.iad 1 (Opd.t 32) (Opd.t 33)), C.op none (some 35) (O.ld (CK.int IntKind.u8) (Opd.t 34)),
    C.op none (some 36) (O.mv (Opd.t 2)), C.op none (some 37) (O.bin BinOp.xor (Opd.t 35) (Opd.t 36)),
    C.op none (some 38) (O.iad 1 (Opd.t 32) (Opd.t 33)), C.op none none (O.st 1 (Opd.t 38) (Opd.t 37)),
    C.op none (some 40) (O.mv (Opd.t 7)), C.op none (some 41) (O.cvb (Opd.t 40)),
    C.op none (some 42) (O.call 20 [Opd.t 41]), C.op none (some 39) (O.mv (Opd.t 42)),
    C.op none (some 43) (O.ext (Opd.t 39) 0), C.op none (some 44) (O.ext (Opd.t 39) 1),
    C.op none (some 8) (O.mv (Opd.t 43)), C.op none (some 9) (O.mv (Opd.t 44)), C.op none (some 45) (O.mv (Opd.t 8)),
    C.op none (some 46) (O.bin BinOp.eql (Opd.t 45) (Opd.c (AV.str []))), C.op none (some 47) (O.mv (Opd.t 46)),
    C.op (some (47, true)) (some 48) (O.mv (Opd.t 9)),
    C.op (some (47, true)) (some 49) (O.bin BinOp.eql (Opd.t 48) (Opd.c (AV.int IntKind.i64 5))),
    C.op (some (47, true)) (some 50) (O.mv (Opd.t 49)), C.op (some (50, false)) (some 51) (O.mv (Opd.t 1)),
    C.op (some (50, false)) (some 52) (O.bin BinOp.eql (Opd.t 51) (Opd.c (AV.int IntKind.i64 0))),
    C.op (some (50, false)) (some 53) (O.mv (Opd.t 52)), C.op (some (53, true)) (some 54) (O.mv (Opd.t 9)),
    C.op (some (53, true)) (some 55) (O.bin BinOp.eql (Opd.t 54) (Opd.c (AV.int IntKind.i64 6))),
    C.op (some (50, false)) (some 56) (O.pick (Opd.t 53) (Opd.t 55) (Opd.c (AV.bool false))),
    C.op (some (47, true)) (some 57) (O.pick (Opd.t 50) (Opd.c (AV.bool true)) (Opd.t 56)),
    C.op none (some 58) (O.pick (Opd.t 47) (Opd.t 57) (Opd.c (AV.bool false))), C.op none (some 6) (O.mv (Opd.t 58)),
    C.ret]
def r6 : List RV := [RV.t 6]
theorem c6_ok : cC Try.prog Try.f6.ntmps (Try.f6.body.getD .skip) = some c6 := by kernel_rfl

def c7 : List C :=
  [C.op none (some 2) (O.mv (Opd.c (AV.bool false))), C.op none (some 6) (O.mv (Opd.t 0)),
    C.op none (some 7) (O.call 19 [Opd.t 6, Opd.c (AV.int IntKind.i64 12)]),
    C.op none (some 0) (O.mv (Opd.t 7)), C.op none (some 8) (O.mv (Opd.t 0)), C.op none (some 9) (O.call 25 [Opd.t 8]),
    C.op none (some 3) (O.mv (Opd.t 9)), C.op none (some 10) (O.call 23 []),
    C.op none (some 11) (O.un UnOp.not (Opd.t 10)),
    C.cond (Opd.t 11) [C.op none (some 2) (O.mv (Opd.c (AV.bool false))), C.ret] [],
    C.op none (some 12) (O.mv (Opd.t 3)), C.op none (some 13) (O.call 26 [Opd.t 12]),
    C.op none (some 4) (O.mv (Opd.t 13)), C.op none (some 14) (O.mv (Opd.t 3)),
    C.op none (some 15) (O.call 27 [Opd.t 14]),
    C.op none (some 16) (O.bin BinOp.neq (Opd.t 15) (Opd.c (AV.int IntKind.i64 0))),
    C.cond (Opd.t 16)
      [C.op none (some 17) (O.mv (Opd.t 4)),
        C.op none (some 18) (O.bin BinOp.eql (Opd.t 17) (Opd.c (AV.int IntKind.u64 0))),
        C.op none (some 2) (O.mv (Opd.t 18)), C.ret]
      [],
    C.op none (some 19) (O.mv (Opd.t 4)), C.op none (some 20) (O.call 28 [Opd.t 19]),
    C.op none (some 5) (O.mv (Opd.t 20)), C.op none (some 21) (O.mv (Opd.t 5)),
    C.op none (some 22) (O.len true (Opd.t 21)), C.op none (some 23) (O.mv (Opd.t 0)),
    C.op none (some 24) (O.len true (Opd.t 23)), C.op none (some 25) (O.bin BinOp.leq (Opd.t 22) (Opd.t 24)),
    C.op none (some 26) (O.mv (Opd.t 25)), C.op (some (26, true)) (some 27) (O.mv (Opd.t 0)),
    C.op (some (26, true)) (some 28) (O.mv (Opd.t 5)), C.op (some (26, true)) (some 29) (O.len true (Opd.t 28)),
    C.op (some (26, true)) (some 30) (O.ssl (Opd.t 27) none (some (Opd.t 29))),
    C.op (some (26, true)) (some 31) (O.mv (Opd.t 5)),
    C.op (some (26, true)) (some 32) (O.bin BinOp.eql (Opd.t 30) (Opd.t 31)),
    C.op none (some 33) (O.pick (Opd.t 26) (Opd.t 32) (Opd.c (AV.bool false))), C.op none (some 34) (O.mv (Opd.t 33)),
    C.op (some (34, true)) (some 35) (O.mv (Opd.t 3)), C.op (some (34, true)) (some 36) (O.call 29 [Opd.t 35]),
    C.op (some (34, true)) (some 37) (O.mv (Opd.t 0)), C.op (some (34, true)) (some 38) (O.len true (Opd.t 37)),
    C.op (some (34, true)) (some 39) (O.mv (Opd.t 5)), C.op (some (34, true)) (some 40) (O.len true (Opd.t 39)),
    C.op (some (34, true)) (some 41) (O.bin BinOp.sub (Opd.t 38) (Opd.t 40)),
    C.op (some (34, true)) (some 42) (O.bin BinOp.eql (Opd.t 36) (Opd.t 41)),
    C.op none (some 43) (O.pick (Opd.t 34) (Opd.t 42) (Opd.c (AV.bool false))), C.op none (some 2) (O.mv (Opd.t 43)),
    C.ret]
def r7 : List RV := [RV.t 2]
theorem c7_ok : cC Try.prog Try.f7.ntmps (Try.f7.body.getD .skip) = some c7 := by kernel_rfl

def d8_0 : List It :=
  [(none, some 29, O.mv (Opd.t 5), []),
                    (none, some 30, O.ldn [CK.str, CK.int IntKind.i64] (Opd.t 6), []),
                    (none, some 31, O.mv (Opd.t 1), []), (none, some 32, O.mv (Opd.t 7), []),
                    (none, some 33, O.iad 2 (Opd.t 31) (Opd.t 32), [2, 3]),
                    (none, some 34, O.ldn [CK.int IntKind.i64, CK.int IntKind.i64] (Opd.t 33), [4]),
                    (none, some 35, O.call 30 [Opd.t 29, Opd.t 30, Opd.t 34], [0, 1, 5]),
                    (none, some 28, O.mv (Opd.t 35), [6]), (none, some 36, O.ext (Opd.t 28) 0, [7]),
                    (none, some 37, O.ext (Opd.t 28) 1, [7]),
                    (none, some 8, O.alloc [AV.str [], AV.int IntKind.i64 0], []),
                    (none, none, O.st 2 (Opd.t 8) (Opd.t 36), [10, 8, 6, 0, 1, 2, 3, 4, 5, 6, 7, 8, 10]),
                    (none, some 9, O.mv (Opd.t 37), [9, 11, 0, 1, 2, 3, 4, 5, 6, 7, 8, 9, 10, 11])]
def o8_0 : List (Nat × Bool) := [(0, false), (1, false), (2, false), (3, false), (4, false), (5, false), (6, true), (7, false), (8, false), (9, false), (10, true), (11, true), (12, false)]
def l8_0 : List (Nat × Bool × It) :=
  [(0, false, (none, some 29, O.mv (Opd.t 5), [])),
   (1, false, (none, some 30, O.ldn [CK.str, CK.int IntKind.i64] (Opd.t 6), [])),
   (2, false, (none, some 31, O.mv (Opd.t 1), [])),
   (3, false, (none, some 32, O.mv (Opd.t 7), [])),
   (4, false, (none, some 33, O.iad 2 (Opd.t 31) (Opd.t 32), [2, 3])),
   (5, false, (none, some 34, O.ldn [CK.int IntKind.i64, CK.int IntKind.i64] (Opd.t 33), [4])),
   (6, true, (none, some 35, O.call 30 [Opd.t 29, Opd.t 30, Opd.t 34], [0, 1, 5])),
   (7, false, (none, some 28, O.mv (Opd.t 35), [6])),
   (8, false, (none, some 36, O.ext (Opd.t 28) 0, [7])),
   (9, false, (none, some 37, O.ext (Opd.t 28) 1, [7])),
   (10, true, (none, some 8, O.alloc [AV.str [], AV.int IntKind.i64 0], [])),
   (11, true, (none, none, O.st 2 (Opd.t 8) (Opd.t 36), [10, 8, 6, 0, 1, 2, 3, 4, 5, 6, 7, 8, 10])),
   (12, false, (none, some 9, O.mv (Opd.t 37), [9, 11, 0, 1, 2, 3, 4, 5, 6, 7, 8, 9, 10, 11]))]
def o8_0b : List (Nat × Bool) := [(0, false), (1, false), (2, false), (3, false), (4, false), (5, false), (10, true), (6, true), (7, false), (8, false), (9, false), (11, true), (12, false)]
def l8_0b : List (Nat × Bool × It) :=
  [(0, false, (none, some 29, O.mv (Opd.t 5), [])),
   (1, false, (none, some 30, O.ldn [CK.str, CK.int IntKind.i64] (Opd.t 6), [])),
   (2, false, (none, some 31, O.mv (Opd.t 1), [])),
   (3, false, (none, some 32, O.mv (Opd.t 7), [])),
   (4, false, (none, some 33, O.iad 2 (Opd.t 31) (Opd.t 32), [2, 3])),
   (5, false, (none, some 34, O.ldn [CK.int IntKind.i64, CK.int IntKind.i64] (Opd.t 33), [4])),
   (10, true, (none, some 8, O.alloc [AV.str [], AV.int IntKind.i64 0], [])),
   (6, true, (none, some 35, O.call 30 [Opd.t 29, Opd.t 30, Opd.t 34], [0, 1, 5])),
   (7, false, (none, some 28, O.mv (Opd.t 35), [6])),
   (8, false, (none, some 36, O.ext (Opd.t 28) 0, [7])),
   (9, false, (none, some 37, O.ext (Opd.t 28) 1, [7])),
   (11, true, (none, none, O.st 2 (Opd.t 8) (Opd.t 36), [10, 8, 6, 0, 1, 2, 3, 4, 5, 6, 7, 8, 10])),
   (12, false, (none, some 9, O.mv (Opd.t 37), [9, 11, 0, 1, 2, 3, 4, 5, 6, 7, 8, 9, 10, 11]))]
theorem l8_0_ok : okDraw2 d8_0 o8_0 o8_0b 6 10 = true ∧ mkL d8_0 o8_0 = some l8_0 ∧ mkL d8_0 o8_0b = some l8_0b := ⟨by kernel_rfl, by kernel_rfl, by kernel_rfl⟩

def d8_1 : List It :=
  [(none, some 39, O.mv (Opd.t 9), []), (none, some 40, O.un UnOp.not (Opd.t 39), [0]),
                    (none, some 41, O.mv (Opd.t 40), [1]), (some (41, false), some 42, O.mv (Opd.t 5), [2]),
                    (some (41, false), some 43, O.call 27 [Opd.t 42], [3, 2, 2]),
                    (some (41, false), some 44, O.fad 1 (Opd.t 6), [2]),
                    (some (41, false), some 45, O.ld (CK.int IntKind.i64) (Opd.t 44), [5, 2]),
                    (some (41, false), some 46, O.bin BinOp.neq (Opd.t 43) (Opd.t 45), [4, 6, 2]),
                    (none, some 47, O.pick (Opd.t 41) (Opd.c (AV.bool true)) (Opd.t 46), [2, 7]),
                    (none, some 48, O.mv (Opd.t 47), [8, 4]), (some (48, false), some 49, O.mv (Opd.t 5), [9]),
                    (some (48, false), some 50, O.call 29 [Opd.t 49], [10, 9, 9]),
                    (some (48, false), some 51, O.fad 0 (Opd.t 6), [9]),
                    (some (48, false), some 52, O.ld CK.str (Opd.t 51), [12, 9]),
                    (some (48, false), some 53, O.len true (Opd.t 52), [13, 9]),
                    (some (48, false), some 54, O.bin BinOp.neq (Opd.t 50) (Opd.t 53), [11, 14, 9]),
                    (none, some 55, O.pick (Opd.t 48) (Opd.c (AV.bool true)) (Opd.t 54), [9, 15])]
def o8_1 : List (Nat × Bool) := [(0, false), (1, false), (2, false), (3, false), (5, false), (6, false), (4, true), (7, false), (8, false), (9, false), (10, false), (12, false), (13, false), (14, false), (11, true), (15, false), (16, false)]
def l8_1 : List (Nat × Bool × It) :=
  [(0, false, (none, some 39, O.mv (Opd.t 9), [])),
   (1, false, (none, some 40, O.un UnOp.not (Opd.t 39), [0])),
   (2, false, (none, some 41, O.mv (Opd.t 40), [1])),
   (3, false, (some (41, false), some 42, O.mv (Opd.t 5), [2])),
   (5, false, (some (41, false), some 44, O.fad 1 (Opd.t 6), [2])),
   (6, false, (some (41, false), some 45, O.ld (CK.int IntKind.i64) (Opd.t 44), [5, 2])),
   (4, true, (some (41, false), some 43, O.call 27 [Opd.t 42], [3, 2, 2])),
   (7, false, (some (41, false), some 46, O.bin BinOp.neq (Opd.t 43) (Opd.t 45), [4, 6, 2])),
   (8, false, (none, some 47, O.pick (Opd.t 41) (Opd.c (AV.bool true)) (Opd.t 46), [2, 7])),
   (9, false, (none, some 48, O.mv (Opd.t 47), [8, 4])),
   (10, false, (some (48, false), some 49, O.mv (Opd.t 5), [9])),
   (12, false, (some (48, false), some 51, O.fad 0 (Opd.t 6), [9])),
   (13, false, (some (48, false), some 52, O.ld CK.str (Opd.t 51), [12, 9])),
   (14, false, (some (48, false), some 53, O.len true (Opd.t 52), [13, 9])),
   (11, true, (some (48, false), some 50, O.call 29 [Opd.t 49], [10, 9, 9])),
   (15, false, (some (48, false), some 54, O.bin BinOp.neq (Opd.t 50) (Opd.t 53), [11, 14, 9])),
   (16, false, (none, some 55, O.pick (Opd.t 48) (Opd.c (AV.bool true)) (Opd.t 54), [9, 15]))]
theorem l8_1_ok : okDraw d8_1 o8_1 = true ∧ mkL d8_1 o8_1 = some l8_1 := ⟨by kernel_rfl, by kernel_rfl⟩

def d8_2 : List It :=
  [(none, some 56, O.mv (Opd.t 5), []), (none, some 57, O.call 31 [Opd.t 56], [0]),
        (none, some 58, O.ldn [CK.str, CK.int IntKind.i64] (Opd.t 6), []),
        (none, some 59, O.call 32 [Opd.t 58], [2, 1]), (none, some 60, O.bin BinOp.eql (Opd.t 57) (Opd.t 59), [1, 3]),
        (none, some 4, O.mv (Opd.t 60), [4, 3, 0, 1, 2, 3, 4])]
def o8_2 : List (Nat × Bool) := [(0, false), (2, false), (1, true), (3, true), (4, false), (5, false)]
def l8_2 : List (Nat × Bool × It) :=
  [(0, false, (none, some 56, O.mv (Opd.t 5), [])),
   (2, false, (none, some 58, O.ldn [CK.str, CK.int IntKind.i64] (Opd.t 6), [])),
   (1, true, (none, some 57, O.call 31 [Opd.t 56], [0])),
   (3, true, (none, some 59, O.call 32 [Opd.t 58], [2, 1])),
   (4, false, (none, some 60, O.bin BinOp.eql (Opd.t 57) (Opd.t 59), [1, 3])),
   (5, false, (none, some 4, O.mv (Opd.t 60), [4, 3, 0, 1, 2, 3, 4]))]
theorem l8_2_ok : okDraw d8_2 o8_2 = true ∧ mkL d8_2 o8_2 = some l8_2 := ⟨by kernel_rfl, by kernel_rfl⟩

def c8 : List C :=
  [C.op none (some 4) (O.mv (Opd.c (AV.bool false))), C.op none (some 10) (O.mv (Opd.t 0)),
    C.op none (some 11) (O.call 19 [Opd.t 10, Opd.c (AV.int IntKind.i64 120)]),
    C.op none (some 0) (O.mv (Opd.t 11)), C.op none (some 12) (O.mv (Opd.t 0)),
    C.op none (some 13) (O.call 25 [Opd.t 12]), C.op none (some 5) (O.mv (Opd.t 13)),
    C.op none (some 14) (O.mv (Opd.t 0)),
    C.op none (some 15) (O.build [AV.str [], AV.int IntKind.i64 0] [(0, 1, Opd.t 14)]),
    C.op none (some 6) (O.alloc [AV.str [], AV.int IntKind.i64 0]),
    C.op none none (O.st 2 (Opd.t 6) (Opd.t 15)), C.op none (some 16) (O.call 23 []),
    C.op none (some 17) (O.un UnOp.not (Opd.t 16)),
    C.cond (Opd.t 17) [C.op none (some 4) (O.mv (Opd.c (AV.bool false))), C.ret] [],
    C.op none (some 7) (O.mv (Opd.c (AV.int IntKind.i64 0))),
    C.blk 0
      [C.loop
          [C.op none (some 18) (O.mv (Opd.t 7)), C.op none (some 19) (O.mv (Opd.t 1)),
            C.op none (some 20) (O.len false (Opd.t 19)), C.op none (some 21) (O.bin BinOp.lss (Opd.t 18) (Opd.t 20)),
            C.op none (some 22) (O.mv (Opd.t 21)), C.op (some (22, true)) (some 23) (O.mv (Opd.t 7)),
            C.op (some (22, true)) (some 24) (O.bin BinOp.lss (Opd.t 23) (Opd.c (AV.int IntKind.i64 15))),
            C.op none (some 25) (O.pick (Opd.t 22) (Opd.t 24) (Opd.c (AV.bool false))), C.cond (Opd.t 25) [] [C.exit 0],
            C.blk 1
              [C.draw d8_0,
                C.op none (some 38) (O.ldn [CK.str, CK.int IntKind.i64] (Opd.t 8)),
                C.op none none (O.st 2 (Opd.t 6) (Opd.t 38)),
                C.draw d8_1,
                C.cond (Opd.t 55) [C.op none (some 4) (O.mv (Opd.c (AV.bool false))), C.ret] []],
            C.op none (some 26) (O.mv (Opd.t 7)),
            C.op none (some 27) (O.bin BinOp.add (Opd.t 26) (Opd.c (AV.int IntKind.i64 1))),
            C.op none (some 7) (O.mv (Opd.t 27))]],
    C.draw d8_2,
    C.ret]
def r8 : List RV := [RV.t 4]
theorem c8_ok : cC Try.prog Try.f8.ntmps (Try.f8.body.getD .skip) = some c8 := by kernel_rfl

def c9 : List C :=
  [C.op none (some 10) (O.mv (Opd.c (AV.bool false))), C.op none (some 13) (O.mv (Opd.t 3)),
    C.op none (some 14) (O.call 19 [Opd.t 13, Opd.c (AV.int IntKind.i64 40)]),
    C.op none (some 15) (O.mv (Opd.t 4)),
    C.op none (some 16) (O.call 19 [Opd.t 15, Opd.c (AV.int IntKind.i64 40)]),
    C.op none (some 3) (O.mv (Opd.t 14)), C.op none (some 4) (O.mv (Opd.t 16)), C.op none (some 17) (O.call 23 []),
    C.op none (some 18) (O.un UnOp.not (Opd.t 17)),
    C.cond (Opd.t 18) [C.op none (some 10) (O.mv (Opd.c (AV.bool false))), C.ret] [],
    C.op none (some 11) (O.alloc [AV.nilsl]), C.op none (some 19) (O.mv (Opd.t 0)),
    C.op none (some 20)
      (O.bsl 1 [AV.int IntKind.u64 0] 2 [(0, Opd.t 19), (1, Opd.c (AV.int IntKind.u64 7))]),
    C.op none (some 21) (O.call 33 [Opd.t 11, Opd.t 20]), C.op none (some 22) (O.mv (Opd.t 1)),
    C.op none (some 23) (O.mv (Opd.t 1)), C.op none (some 24) (O.un UnOp.neg (Opd.t 23)),
    C.op none (some 25) (O.bin BinOp.sub (Opd.t 24) (Opd.c (AV.int IntKind.i64 1))),
    C.op none (some 26) (O.bsl 1 [AV.int IntKind.i64 0] 2 [(0, Opd.t 22), (1, Opd.t 25)]),
    C.op none (some 27) (O.call 34 [Opd.t 21, Opd.t 26]), C.op none (some 28) (O.mv (Opd.t 2)),
    C.op none (some 29) (O.bsl 1 [AV.int IntKind.i64 0] 1 [(0, Opd.t 28)]),
    C.op none (some 30) (O.call 35 [Opd.t 27, Opd.t 29]), C.op none (some 31) (O.mv (Opd.t 3)),
    C.op none (some 32) (O.mv (Opd.t 4)), C.op none (some 33) (O.bsl 1 [AV.str []] 2 [(0, Opd.t 31), (1, Opd.t 32)]),
    C.op none (some 34) (O.call 36 [Opd.t 30, Opd.t 33]), C.op none (some 35) (O.mv (Opd.t 4)),
    C.op none (some 36) (O.call 37 [Opd.t 34, Opd.t 35]), C.op none (some 37) (O.call 38 [Opd.t 11]),
    C.op none (some 38) (O.mv (Opd.t 0)), C.op none (some 39) (O.call 28 [Opd.t 38]),
    C.op none (some 40)
      (O.bin BinOp.add (Opd.t 39)
        (Opd.c (AV.str [7]))),
    C.op none (some 41) (O.mv (Opd.t 1)), C.op none (some 42) (O.call 39 [Opd.t 41]),
    C.op none (some 43) (O.bin BinOp.add (Opd.t 40) (Opd.t 42)), C.op none (some 44) (O.mv (Opd.t 1)),
    C.op none (some 45) (O.un UnOp.neg (Opd.t 44)),
    C.op none (some 46) (O.bin BinOp.sub (Opd.t 45) (Opd.c (AV.int IntKind.i64 1))),
    C.op none (some 47) (O.call 39 [Opd.t 46]), C.op none (some 48) (O.bin BinOp.add (Opd.t 43) (Opd.t 47)),
    C.op none (some 49) (O.mv (Opd.t 2)), C.op none (some 50) (O.call 40 [Opd.t 49]),
    C.op none (some 51) (O.bin BinOp.add (Opd.t 48) (Opd.t 50)), C.op none (some 52) (O.mv (Opd.t 3)),
    C.op none (some 53) (O.call 41 [Opd.t 52]), C.op none (some 54) (O.bin BinOp.add (Opd.t 51) (Opd.t 53)),
    C.op none (some 55) (O.mv (Opd.t 4)), C.op none (some 56) (O.call 41 [Opd.t 55]),
    C.op none (some 57) (O.bin BinOp.add (Opd.t 54) (Opd.t 56)), C.op none (some 58) (O.mv (Opd.t 4)),
    C.op none (some 59) (O.bin BinOp.add (Opd.t 57) (Opd.t 58)),
    C.op none (some 60) (O.bin BinOp.neq (Opd.t 37) (Opd.t 59)),
    C.cond (Opd.t 60) [C.op none (some 10) (O.mv (Opd.c (AV.bool false))), C.ret] [],
    C.op none (some 61) (O.call 38 [Opd.t 11]), C.op none (some 62) (O.call 25 [Opd.t 61]),
    C.op none (some 12) (O.mv (Opd.t 62)), C.op none (some 63) (O.mv (Opd.t 12)),
    C.op none (some 64) (O.call 26 [Opd.t 63]), C.op none (some 65) (O.mv (Opd.t 0)),
    C.op none (some 66) (O.bin BinOp.eql (Opd.t 64) (Opd.t 65)), C.op none (some 67) (O.mv (Opd.t 66)),
    C.op (some (67, true)) (some 68) (O.mv (Opd.t 12)), C.op (some (67, true)) (some 69) (O.call 26 [Opd.t 68]),
    C.op (some (67, true)) (some 70) (O.bin BinOp.eql (Opd.t 69) (Opd.c (AV.int IntKind.u64 7))),
    C.op none (some 71) (O.pick (Opd.t 67) (Opd.t 70) (Opd.c (AV.bool false))), C.op none (some 72) (O.mv (Opd.t 71)),
    C.op (some (72, true)) (some 73) (O.mv (Opd.t 12)), C.op (some (72, true)) (some 74) (O.call 42 [Opd.t 73]),
    C.op (some (72, true)) (some 75) (O.mv (Opd.t 1)),
    C.op (some (72, true)) (some 76) (O.bin BinOp.eql (Opd.t 74) (Opd.t 75)),
    C.op none (some 77) (O.pick (Opd.t 72) (Opd.t 76) (Opd.c (AV.bool false))), C.op none (some 78) (O.mv (Opd.t 77)),
    C.op (some (78, true)) (some 79) (O.mv (Opd.t 12)), C.op (some (78, true)) (some 80) (O.call 42 [Opd.t 79]),
    C.op (some (78, true)) (some 81) (O.mv (Opd.t 1)), C.op (some (78, true)) (some 82) (O.un UnOp.neg (Opd.t 81)),
    C.op (some (78, true)) (some 83) (O.bin BinOp.sub (Opd.t 82) (Opd.c (AV.int IntKind.i64 1))),
    C.op (some (78, true)) (some 84) (O.bin BinOp.eql (Opd.t 80) (Opd.t 83)),
    C.op none (some 85) (O.pick (Opd.t 78) (Opd.t 84) (Opd.c (AV.bool false))), C.op none (some 86) (O.mv (Opd.t 85)),
    C.op (some (86, true)) (some 87) (O.mv (Opd.t 12)), C.op (some (86, true)) (some 88) (O.call 26 [Opd.t 87]),
    C.op (some (86, true)) (some 89) (O.mv (Opd.t 2)),
    C.op (some (86, true)) (some 90) (O.mx [Opd.t 89, Opd.c (AV.int IntKind.i64 0)]),
    C.op (some (86, true)) (some 91) (O.cvi IntKind.u64 (Opd.t 90)),
    C.op (some (86, true)) (some 92) (O.bin BinOp.eql (Opd.t 88) (Opd.t 91)),
    C.op none (some 93) (O.pick (Opd.t 86) (Opd.t 92) (Opd.c (AV.bool false))), C.op none (some 94) (O.mv (Opd.t 93)),
    C.op (some (94, true)) (some 95) (O.mv (Opd.t 12)),
    C.op (some (94, true)) (some 96) (O.call 43 [Opd.t 95, Opd.c (AV.int IntKind.i64 40)]),
    C.op (some (94, true)) (some 97) (O.mv (Opd.t 3)),
    C.op (some (94, true)) (some 98) (O.bin BinOp.eql (Opd.t 96) (Opd.t 97)),
    C.op none (some 99) (O.pick (Opd.t 94) (Opd.t 98) (Opd.c (AV.bool false))), C.op none (some 100) (O.mv (Opd.t 99)),
    C.op (some (100, true)) (some 101) (O.mv (Opd.t 12)),
    C.op (some (100, true)) (some 102) (O.call 43 [Opd.t 101, Opd.c (AV.int IntKind.i64 40)]),
    C.op (some (100, true)) (some 103) (O.mv (Opd.t 4)),
    C.op (some (100, true)) (some 104) (O.bin BinOp.eql (Opd.t 102) (Opd.t 103)),
    C.op none (some 105) (O.pick (Opd.t 100) (Opd.t 104) (Opd.c (AV.bool false))),
    C.op none (some 106) (O.mv (Opd.t 105)), C.op (some (106, true)) (some 107) (O.mv (Opd.t 12)),
    C.op (some (106, true)) (some 108) (O.mv (Opd.t 4)), C.op (some (106, true)) (some 109) (O.len true (Opd.t 108)),
    C.op (some (106, true)) (some 110) (O.call 44 [Opd.t 107, Opd.t 109]),
    C.op (some (106, true)) (some 111) (O.mv (Opd.t 4)),
    C.op (some (106, true)) (some 112) (O.bin BinOp.eql (Opd.t 110) (Opd.t 111)),
    C.op none (some 113) (O.pick (Opd.t 106) (Opd.t 112) (Opd.c (AV.bool false))),
    C.op none (some 114) (O.mv (Opd.t 113)), C.op (some (114, true)) (some 115) (O.mv (Opd.t 12)),
    C.op (some (114, true)) (some 116) (O.call 31 [Opd.t 115]),
    C.op (some (114, true)) (some 117) (O.bin BinOp.eql (Opd.t 116) (Opd.c (AV.int IntKind.i64 0))),
    C.op none (some 118) (O.pick (Opd.t 114) (Opd.t 117) (Opd.c (AV.bool false))),
    C.op none (some 10) (O.mv (Opd.t 118)), C.ret]
def r9 : List RV := [RV.t 10]
theorem c9_ok : cC Try.prog Try.f9.ntmps (Try.f9.body.getD .skip) = some c9 := by kernel_rfl

def d10_0 : List It :=
  [(none, some 31, O.ldn [CK.any] (Opd.t 1), []), (none, some 32, O.call 47 [Opd.t 31], [0]),
        (none, some 33, O.ldn [CK.any] (Opd.t 1), []), (none, some 34, O.call 49 [Opd.t 33], [2, 1]),
        (none, some 35, O.call 48 [Opd.t 34], [3, 3]), (none, some 36, O.bin BinOp.eql (Opd.t 32) (Opd.t 35), [1, 4]),
        (none, some 37, O.mv (Opd.t 36), [5, 4]), (some (37, true), some 38, O.mv (Opd.t 7), [6]),
        (some (37, true), some 39, O.bin BinOp.eql (Opd.t 38) (Opd.c (AV.int IntKind.i64 0)), [7, 6]),
        (none, some 40, O.pick (Opd.t 37) (Opd.t 39) (Opd.c (AV.bool false)), [6, 8]),
        (none, some 41, O.mv (Opd.t 40), [9, 6]), (some (41, true), some 42, O.ldn [CK.any] (Opd.t 6), [10]),
        (some (41, true), some 43, O.ldn [CK.any] (Opd.t 1), [10]),
        (some (41, true), some 44, O.call 49 [Opd.t 43], [12, 10, 10]),
        (some (41, true), some 45, O.call 50 [Opd.t 42, Opd.t 44], [11, 13, 13, 10]),
        (some (41, true), some 46, O.bin BinOp.eql (Opd.t 45) (Opd.c (AV.int IntKind.i64 0)), [14, 10]),
        (none, some 47, O.pick (Opd.t 41) (Opd.t 46) (Opd.c (AV.bool false)), [10, 15]),
        (none, some 48, O.mv (Opd.t 47), [16, 14]), (some (48, true), some 49, O.ldn [CK.any] (Opd.t 1), [17]),
        (some (48, true), some 50, O.call 51 [Opd.t 49], [18, 17, 17]),
        (some (48, true), some 51, O.mv (Opd.t 3), [17]),
        (some (48, true), some 52, O.bin BinOp.eql (Opd.t 50) (Opd.t 51), [19, 20, 17]),
        (none, some 53, O.pick (Opd.t 48) (Opd.t 52) (Opd.c (AV.bool false)), [17, 21]),
        (none, some 2, O.mv (Opd.t 53),
          [22, 19, 0, 1, 2, 3, 4, 5, 6, 7, 8, 9, 10, 11, 12, 13, 14, 15, 16, 17, 18, 19, 20, 21, 22])]
def o10_0 : List (Nat × Bool) := [(0, false), (2, false), (1, true), (3, true), (4, true), (5, false), (6, false), (7, false), (8, false), (9, false), (10, false), (11, false), (12, false), (13, true), (14, true), (15, false), (16, false), (17, false), (18, false), (20, false), (19, true), (21, false), (22, false), (23, false)]
def l10_0 : List (Nat × Bool × It) :=
  [(0, false, (none, some 31, O.ldn [CK.any] (Opd.t 1), [])),
   (2, false, (none, some 33, O.ldn [CK.any] (Opd.t 1), [])),
   (1, true, (none, some 32, O.call 47 [Opd.t 31], [0])),
   (3, true, (none, some 34, O.call 49 [Opd.t 33], [2, 1])),
   (4, true, (none, some 35, O.call 48 [Opd.t 34], [3, 3])),
   (5, false, (none, some 36, O.bin BinOp.eql (Opd.t 32) (Opd.t 35), [1, 4])),
   (6, false, (none, some 37, O.mv (Opd.t 36), [5, 4])),
   (7, false, (some (37, true), some 38, O.mv (Opd.t 7), [6])),
   (8, false, (some (37, true), some 39, O.bin BinOp.eql (Opd.t 38) (Opd.c (AV.int IntKind.i64 0)), [7, 6])),
   (9, false, (none, some 40, O.pick (Opd.t 37) (Opd.t 39) (Opd.c (AV.bool false)), [6, 8])),
   (10, false, (none, some 41, O.mv (Opd.t 40), [9, 6])),
   (11, false, (some (41, true), some 42, O.ldn [CK.any] (Opd.t 6), [10])),
   (12, false, (some (41, true), some 43, O.ldn [CK.any] (Opd.t 1), [10])),
   (13, true, (some (41, true), some 44, O.call 49 [Opd.t 43], [12, 10, 10])),
   (14, true, (some (41, true), some 45, O.call 50 [Opd.t 42, Opd.t 44], [11, 13, 13, 10])),
   (15, false, (some (41, true), some 46, O.bin BinOp.eql (Opd.t 45) (Opd.c (AV.int IntKind.i64 0)), [14, 10])),
   (16, false, (none, some 47, O.pick (Opd.t 41) (Opd.t 46) (Opd.c (AV.bool false)), [10, 15])),
   (17, false, (none, some 48, O.mv (Opd.t 47), [16, 14])),
   (18, false, (some (48, true), some 49, O.ldn [CK.any] (Opd.t 1), [17])),
   (20, false, (some (48, true), some 51, O.mv (Opd.t 3), [17])),
   (19, true, (some (48, true), some 50, O.call 51 [Opd.t 49], [18, 17, 17])),
   (21, false, (some (48, true), some 52, O.bin BinOp.eql (Opd.t 50) (Opd.t 51), [19, 20, 17])),
   (22, false, (none, some 53, O.pick (Opd.t 48) (Opd.t 52) (Opd.c (AV.bool false)), [17, 21])),
   (23, false, (none, some 2, O.mv (Opd.t 53),
          [22, 19, 0, 1, 2, 3, 4, 5, 6, 7, 8, 9, 10, 11, 12, 13, 14, 15, 16, 17, 18, 19, 20, 21, 22]))]
theorem l10_0_ok : okDraw d10_0 o10_0 = true ∧ mkL d10_0 o10_0 = some l10_0 := ⟨by kernel_rfl, by kernel_rfl⟩

def c10 : List C :=
  [C.op none (some 1) (O.box (Opd.t 0)), C.op none (some 2) (O.mv (Opd.c (AV.bool false))),
    C.op none (some 8) (O.ldn [CK.any] (Opd.t 1)), C.op none (some 9) (O.call 45 [Opd.t 8]),
    C.op none none (O.st 1 (Opd.t 1) (Opd.t 9)), C.op none (some 10) (O.call 13 []),
    C.op none (some 11) (O.un UnOp.not (Opd.t 10)),
    C.cond (Opd.t 11) [C.op none (some 2) (O.mv (Opd.c (AV.bool false))), C.ret] [],
    C.op none (some 3) (O.mv (Opd.c (AV.int IntKind.i64 0))), C.op none (some 12) (O.fad 0 (Opd.t 1)),
    C.op none (some 13) (O.ld CK.any (Opd.t 12)), C.op none (some 14) (O.len false (Opd.t 13)),
    C.op none (some 15) (O.mv (Opd.c (AV.int IntKind.i64 0))),
    C.blk 0
      [C.loop
          [C.op none (some 16) (O.bin BinOp.lss (Opd.t 15) (Opd.t 14)), C.cond (Opd.t 16) [] [C.exit 0],
            C.blk 1
              [C.op none (some 17) (O.iad 3 (Opd.t 13) (Opd.t 15)),
                C.op none (some 18) (O.ldn [CK.int IntKind.i64, CK.int IntKind.i64, CK.any] (Opd.t 17)),
                C.op none (some 5)
                  (O.alloc [AV.int IntKind.i64 0, AV.int IntKind.i64 0, AV.nilsl]),
                C.op none none (O.st 3 (Opd.t 5) (Opd.t 18)), C.op none (some 19) (O.mv (Opd.t 3)),
                C.op none (some 20) (O.fad 2 (Opd.t 5)), C.op none (some 21) (O.ld CK.any (Opd.t 20)),
                C.op none (some 22) (O.len false (Opd.t 21)),
                C.op none (some 23) (O.bin BinOp.add (Opd.t 19) (Opd.t 22)), C.op none (some 3) (O.mv (Opd.t 23))],
            C.op none (some 24) (O.bin BinOp.add (Opd.t 15) (Opd.c (AV.int IntKind.i64 1))),
            C.op none (some 15) (O.mv (Opd.t 24))]],
    C.op none (some 26) (O.ldn [CK.any] (Opd.t 1)), C.op none (some 27) (O.call 47 [Opd.t 26]),
    C.op none (some 28) (O.call 46 [Opd.t 27]), C.op none (some 25) (O.mv (Opd.t 28)),
    C.op none (some 29) (O.ext (Opd.t 25) 0), C.op none (some 30) (O.ext (Opd.t 25) 1),
    C.op none (some 6) (O.alloc [AV.nilsl]), C.op none none (O.st 1 (Opd.t 6) (Opd.t 29)),
    C.op none (some 7) (O.mv (Opd.t 30)),
    C.draw d10_0,
    C.ret]
def r10 : List RV := [RV.t 2]
theorem c10_ok : cC Try.prog Try.f10.ntmps (Try.f10.body.getD .skip) = some c10 := by kernel_rfl

def c11 : List C :=
  [C.op none (some 2) (O.mv (Opd.c (AV.bool false))), C.op none (some 7) (O.mv (Opd.t 0)),
    C.op none (some 8) (O.call 19 [Opd.t 7, Opd.c (AV.int IntKind.i64 300)]),
    C.op none (some 0) (O.mv (Opd.t 8)), C.op none (some 10) (O.mv (Opd.t 0)),
    C.op none (some 11) (O.call 46 [Opd.t 10]), C.op none (some 9) (O.mv (Opd.t 11)),
    C.op none (some 12) (O.ext (Opd.t 9) 0), C.op none (some 13) (O.ext (Opd.t 9) 1),
    C.op none (some 3) (O.alloc [AV.nilsl]), C.op none none (O.st 1 (Opd.t 3) (Opd.t 12)),
    C.op none (some 4) (O.mv (Opd.t 13)), C.op none (some 15) (O.mv (Opd.t 0)),
    C.op none (some 16) (O.call 52 [Opd.t 15]), C.op none (some 14) (O.mv (Opd.t 16)),
    C.op none (some 17) (O.ext (Opd.t 14) 0), C.op none (some 18) (O.ext (Opd.t 14) 1),
    C.op none (some 5) (O.mv (Opd.t 17)), C.op none (some 6) (O.mv (Opd.t 18)), C.op none (some 19) (O.call 13 []),
    C.op none (some 20) (O.mv (Opd.t 19)), C.op (some (20, true)) (some 21) (O.mv (Opd.t 4)),
    C.op (some (20, true)) (some 22) (O.mv (Opd.t 6)),
    C.op (some (20, true)) (some 23) (O.bin BinOp.eql (Opd.t 21) (Opd.t 22)),
    C.op none (some 24) (O.pick (Opd.t 20) (Opd.t 23) (Opd.c (AV.bool false))), C.op none (some 25) (O.mv (Opd.t 24)),
    C.op (some (25, true)) (some 26) (O.ldn [CK.any] (Opd.t 3)), C.op (some (25, true)) (some 27) (O.mv (Opd.t 5)),
    C.op (some (25, true)) (some 28) (O.call 50 [Opd.t 26, Opd.t 27]),
    C.op (some (25, true)) (some 29) (O.bin BinOp.eql (Opd.t 28) (Opd.c (AV.int IntKind.i64 0))),
    C.op none (some 30) (O.pick (Opd.t 25) (Opd.t 29) (Opd.c (AV.bool false))), C.op none (some 31) (O.mv (Opd.t 30)),
    C.op (some (31, true)) (some 32) (O.mv (Opd.t 6)),
    C.op (some (31, true)) (some 33) (O.bin BinOp.neq (Opd.t 32) (Opd.c (AV.int IntKind.i64 0))),
    C.op (some (31, true)) (some 34) (O.mv (Opd.t 33)), C.op (some (34, false)) (some 35) (O.ldn [CK.any] (Opd.t 3)),
    C.op (some (34, false)) (some 36) (O.call 47 [Opd.t 35]), C.op (some (34, false)) (some 37) (O.mv (Opd.t 0)),
    C.op (some (34, false)) (some 38) (O.bin BinOp.eql (Opd.t 36) (Opd.t 37)),
    C.op (some (31, true)) (some 39) (O.pick (Opd.t 34) (Opd.c (AV.bool true)) (Opd.t 38)),
    C.op none (some 40) (O.pick (Opd.t 31) (Opd.t 39) (Opd.c (AV.bool false))), C.op none (some 2) (O.mv (Opd.t 40)),
    C.ret]
def r11 : List RV := [RV.t 2]
theorem c11_ok : cC Try.prog Try.f11.ntmps (Try.f11.body.getD .skip) = some c11 := by kernel_rfl

def c12 : List C :=
  [C.op none (some 2) (O.box (Opd.t 0)), C.op none (some 4) (O.mv (Opd.c (AV.bool false))),
    C.op none (some 10) (O.call 13 []), C.op none (some 11) (O.un UnOp.not (Opd.t 10)),
    C.cond (Opd.t 11) [C.op none (some 4) (O.mv (Opd.c (AV.bool false))), C.ret] [],
    C.op none (some 12) (O.ldn [CK.any] (Opd.t 2)), C.op none (some 13) (O.call 45 [Opd.t 12]),
    C.op none (some 14) (O.call 47 [Opd.t 13]), C.op none (some 5) (O.mv (Opd.t 14)),
    C.op none (some 15) (O.mv (Opd.t 1)),
    C.op none (some 16) (O.bin BinOp.and (Opd.t 15) (Opd.c (AV.int IntKind.i64 65535))),
    C.op none (some 17) (O.mv (Opd.t 5)), C.op none (some 18) (O.len true (Opd.t 17)),
    C.op none (some 19) (O.bin BinOp.rem (Opd.t 16) (Opd.t 18)), C.op none (some 1) (O.mv (Opd.t 19)),
    C.op none (some 21) (O.mv (Opd.t 5)), C.op none (some 22) (O.mv (Opd.t 1)),
    C.op none (some 23) (O.ssl (Opd.t 21) none (some (Opd.t 22))), C.op none (some 24) (O.call 46 [Opd.t 23]),
    C.op none (some 20) (O.mv (Opd.t 24)), C.op none (some 25) (O.ext (Opd.t 20) 0),
    C.op none (some 26) (O.ext (Opd.t 20) 1), C.op none (some 6) (O.alloc [AV.nilsl]),
    C.op none none (O.st 1 (Opd.t 6) (Opd.t 25)), C.op none (some 7) (O.mv (Opd.t 26)),
    C.op none (some 28) (O.mv (Opd.t 5)),
    C.op none (some 29)
      (O.bin BinOp.add (Opd.t 28)
        (Opd.c (AV.str [0]))),
    C.op none (some 30) (O.call 46 [Opd.t 29]), C.op none (some 27) (O.mv (Opd.t 30)),
    C.op none (some 31) (O.ext (Opd.t 27) 0), C.op none (some 32) (O.ext (Opd.t 27) 1),
    C.op none (some 8) (O.alloc [AV.nilsl]), C.op none none (O.st 1 (Opd.t 8) (Opd.t 31)),
    C.op none (some 9) (O.mv (Opd.t 32)), C.op none (some 33) (O.mv (Opd.t 7)),
    C.op none (some 34) (O.bin BinOp.eql (Opd.t 33) (Opd.c (AV.int IntKind.i64 1))),
    C.op none (some 35) (O.mv (Opd.t 34)), C.op (some (35, true)) (some 36) (O.mv (Opd.t 9)),
    C.op (some (35, true)) (some 37) (O.bin BinOp.eql (Opd.t 36) (Opd.c (AV.int IntKind.i64 2))),
    C.op none (some 38) (O.pick (Opd.t 35) (Opd.t 37) (Opd.c (AV.bool false))), C.op none (some 4) (O.mv (Opd.t 38)),
    C.ret]
def r12 : List RV := [RV.t 4]
theorem c12_ok : cC Try.prog Try.f12.ntmps (Try.f12.body.getD .skip) = some c12 := by kernel_rfl

def c13 : List C :=
  [C.op none (some 0) (O.mv (Opd.c (AV.bool false))),
    C.op none (some 2) (O.bsl 1 [AV.int IntKind.i64 0] 1 [(0, Opd.c (AV.int IntKind.i64 5))]),
    C.op none (some 3) (O.call 17 [Opd.c (AV.int IntKind.u8 1), Opd.t 2]),
    C.op none (some 4) (O.call 17 [Opd.c (AV.int IntKind.u8 16), Opd.c AV.nilsl]),
    C.op none (some 5)
      (O.bsl 2 [AV.int IntKind.u8 0, AV.int IntKind.i64 0] 2 [(0, Opd.t 3), (1, Opd.t 4)]),
    C.op none (some 6)
      (O.call 18 [Opd.c (AV.int IntKind.i64 0), Opd.c (AV.int IntKind.i64 0), Opd.t 5]),
    C.op none (some 7)
      (O.bsl 3 [AV.int IntKind.i64 0, AV.int IntKind.i64 0, AV.nilsl] 1 [(0, Opd.t 6)]),
    C.op none (some 8) (O.build [AV.nilsl] [(0, 1, Opd.t 7)]), C.op none (some 1) (O.alloc [AV.nilsl]),
    C.op none none (O.st 1 (Opd.t 1) (Opd.t 8)), C.op none (some 9) (O.ldn [CK.any] (Opd.t 1)),
    C.op none (some 10) (O.call 47 [Opd.t 9]),
    C.op none (some 11)
      (O.bin BinOp.eql (Opd.t 10)
        (Opd.c
          (AV.str
            [1,
              0,
              0,
              2,
              1,
              10,
              16]))),
    C.op none (some 12) (O.mv (Opd.t 11)), C.op (some (12, true)) (some 13) (O.ldn [CK.any] (Opd.t 1)),
    C.op (some (12, true)) (some 14) (O.call 51 [Opd.t 13]),
    C.op (some (12, true)) (some 15) (O.bin BinOp.eql (Opd.t 14) (Opd.c (AV.int IntKind.i64 2))),
    C.op none (some 16) (O.pick (Opd.t 12) (Opd.t 15) (Opd.c (AV.bool false))), C.op none (some 17) (O.mv (Opd.t 16)),
    C.op (some (17, true)) (some 18) (O.call 14 [Opd.c (AV.int IntKind.u8 22)]),
    C.op (some (17, true)) (some 19)
      (O.bin BinOp.eql (Opd.t 18)
        (Opd.c
          (AV.str
            [104,
              111,
              115,
              116]))),
    C.op none (some 20) (O.pick (Opd.t 17) (Opd.t 19) (Opd.c (AV.bool false))), C.op none (some 21) (O.mv (Opd.t 20)),
    C.op (some (21, true)) (some 22) (O.call 15 [Opd.c (AV.int IntKind.u8 1)]),
    C.op none (some 23) (O.pick (Opd.t 21) (Opd.t 22) (Opd.c (AV.bool false))), C.op none (some 0) (O.mv (Opd.t 23)),
    C.ret]
def r13 : List RV := [RV.t 0]
theorem c13_ok : cC Try.prog Try.f13.ntmps (Try.f13.body.getD .skip) = some c13 := by kernel_rfl

def c14 : List C :=
  [C.op none (some 2) (O.mv (Opd.c (AV.str []))),
    C.op none (some 4)
      (O.bsl 1 [AV.str []] 23
        [(0, Opd.c (AV.str [63])),
          (1,
            Opd.c
              (AV.str
                [112,
                  117,
                  115,
                  104])),
          (2,
            Opd.c
              (AV.str
                [112,
                  111,
                  112])),
          (3,
            Opd.c
              (AV.str
                [100,
                  117,
                  112])),
          (4,
            Opd.c
              (AV.str
                [115,
                  119,
                  97,
                  112])),
          (5,
            Opd.c
              (AV.str
                [97,
                  100,
                  100])),
          (6,
            Opd.c
              (AV.str
                [115,
                  117,
                  98])),
          (7,
            Opd.c
              (AV.str
                [109,
                  117,
                  108])),
          (8,
            Opd.c
              (AV.str
                [100,
                  105,
                  118])),
          (9,
            Opd.c
              (AV.str
                [109,
                  111,
                  100])),
          (10,
            Opd.c
              (AV.str
                [101,
                  113])),
          (11,
            Opd.c
              (AV.str
                [108,
                  101,
                  115,
                  115])),
          (12,
            Opd.c
              (AV.str
                [110,
                  111,
                  116])),
          (13,
            Opd.c
              (AV.str
                [106,
                  117,
                  109,
                  112])),
          (14,
            Opd.c
              (AV.str
                [98,
                  114,
                  97,
                  110,
                  99,
                  104])),
          (15,
            Opd.c
              (AV.str
                [99,
                  97,
                  108,
                  108])),
          (16,
            Opd.c
              (AV.str
                [114,
                  101,
                  116])),
          (17,
            Opd.c
              (AV.str
                [108,
                  111,
                  97,
                  100])),
          (18,
            Opd.c
              (AV.str
                [115,
                  116,
                  111,
                  114,
                  101])),
          (19,
            Opd.c
              (AV.str
                [103,
                  101,
                  116])),
          (20,
            Opd.c
              (AV.str
                [112,
                  117,
                  116])),
          (21,
            Opd.c
              (AV.str
                [114,
                  97,
                  110,
                  100])),
          (22,
            Opd.c
              (AV.str
                [104,
                  111,
                  115,
                  116]))]),
    C.op none (some 3) (O.mv (Opd.t 4)), C.op none (some 5) (O.mv (Opd.t 0)),
    C.op none (some 6) (O.cvi IntKind.i64 (Opd.t 5)), C.op none (some 7) (O.mv (Opd.t 3)),
    C.op none (some 8) (O.len false (Opd.t 7)), C.op none (some 9) (O.bin BinOp.geq (Opd.t 6) (Opd.t 8)),
    C.cond (Opd.t 9)
      [C.op none (some 2)
          (O.mv (Opd.c (AV.str [63]))),
        C.ret]
      [],
    C.op none (some 10) (O.mv (Opd.t 3)), C.op none (some 11) (O.mv (Opd.t 0)),
    C.op none (some 12) (O.iad 1 (Opd.t 10) (Opd.t 11)), C.op none (some 13) (O.ld CK.str (Opd.t 12)),
    C.op none (some 2) (O.mv (Opd.t 13)), C.ret]
def r14 : List RV := [RV.t 2]
theorem c14_ok : cC Try.prog Try.f14.ntmps (Try.f14.body.getD .skip) = some c14 := by kernel_rfl

def c15 : List C :=
  [C.op none (some 2) (O.mv (Opd.c (AV.bool false))), C.op none (some 3) (O.mv (Opd.t 0)),
    C.blk 0
      [C.op none (some 5) (O.bin BinOp.eql (Opd.t 3) (Opd.c (AV.int IntKind.u8 1))),
        C.op none (some 4) (O.mv (Opd.t 5)),
        C.cond (Opd.t 4) []
          [C.op none (some 6) (O.bin BinOp.eql (Opd.t 3) (Opd.c (AV.int IntKind.u8 13))),
            C.op none (some 4) (O.mv (Opd.t 6)),
            C.cond (Opd.t 4) []
              [C.op none (some 7) (O.bin BinOp.eql (Opd.t 3) (Opd.c (AV.int IntKind.u8 14))),
                C.op none (some 4) (O.mv (Opd.t 7)),
                C.cond (Opd.t 4) []
                  [C.op none (some 8) (O.bin BinOp.eql (Opd.t 3) (Opd.c (AV.int IntKind.u8 15))),
                    C.op none (some 4) (O.mv (Opd.t 8)),
                    C.cond (Opd.t 4) []
                      [C.op none (some 9) (O.bin BinOp.eql (Opd.t 3) (Opd.c (AV.int IntKind.u8 17))),
                        C.op none (some 4) (O.mv (Opd.t 9)),
                        C.cond (Opd.t 4) []
                          [C.op none (some 10) (O.bin BinOp.eql (Opd.t 3) (Opd.c (AV.int IntKind.u8 18))),
                            C.op none (some 4) (O.mv (Opd.t 10)),
                            C.cond (Opd.t 4) []
                              [C.op none (some 11)
                                  (O.bin BinOp.eql (Opd.t 3) (Opd.c (AV.int IntKind.u8 22))),
                                C.op none (some 4) (O.mv (Opd.t 11))]]]]]],
        C.cond (Opd.t 4) [C.op none (some 2) (O.mv (Opd.c (AV.bool true))), C.ret] []],
    C.op none (some 2) (O.mv (Opd.c (AV.bool false))), C.ret]
def r15 : List RV := [RV.t 2]
theorem c15_ok : cC Try.prog Try.f15.ntmps (Try.f15.body.getD .skip) = some c15 := by kernel_rfl

def c16 : List C :=
  [C.op none (some 2) (O.mv (Opd.c (AV.bool false))), C.op none (some 3) (O.mv (Opd.t 0)),
    C.op none (some 4) (O.bin BinOp.eql (Opd.t 3) (Opd.c (AV.int IntKind.i64 1))),
    C.op none (some 5) (O.mv (Opd.t 4)), C.op (some (5, false)) (some 6) (O.mv (Opd.t 0)),
    C.op (some (5, false)) (some 7) (O.bin BinOp.eql (Opd.t 6) (Opd.c (AV.int IntKind.i64 13))),
    C.op none (some 8) (O.pick (Opd.t 5) (Opd.c (AV.bool true)) (Opd.t 7)), C.op none (some 9) (O.mv (Opd.t 8)),
    C.op (some (9, false)) (some 10) (O.mv (Opd.t 0)),
    C.op (some (9, false)) (some 11) (O.bin BinOp.eql (Opd.t 10) (Opd.c (AV.int IntKind.i64 14))),
    C.op none (some 12) (O.pick (Opd.t 9) (Opd.c (AV.bool true)) (Opd.t 11)), C.op none (some 13) (O.mv (Opd.t 12)),
    C.op (some (13, false)) (some 14) (O.mv (Opd.t 0)),
    C.op (some (13, false)) (some 15) (O.bin BinOp.eql (Opd.t 14) (Opd.c (AV.int IntKind.i64 15))),
    C.op none (some 16) (O.pick (Opd.t 13) (Opd.c (AV.bool true)) (Opd.t 15)), C.op none (some 17) (O.mv (Opd.t 16)),
    C.op (some (17, false)) (some 18) (O.mv (Opd.t 0)),
    C.op (some (17, false)) (some 19) (O.bin BinOp.eql (Opd.t 18) (Opd.c (AV.int IntKind.i64 17))),
    C.op none (some 20) (O.pick (Opd.t 17) (Opd.c (AV.bool true)) (Opd.t 19)), C.op none (some 21) (O.mv (Opd.t 20)),
    C.op (some (21, false)) (some 22) (O.mv (Opd.t 0)),
    C.op (some (21, false)) (some 23) (O.bin BinOp.eql (Opd.t 22) (Opd.c (AV.int IntKind.i64 18))),
    C.op none (some 24) (O.pick (Opd.t 21) (Opd.c (AV.bool true)) (Opd.t 23)), C.op none (some 25) (O.mv (Opd.t 24)),
    C.op (some (25, false)) (some 26) (O.mv (Opd.t 0)),
    C.op (some (25, false)) (some 27) (O.bin BinOp.eql (Opd.t 26) (Opd.c (AV.int IntKind.i64 22))),
    C.op none (some 28) (O.pick (Opd.t 25) (Opd.c (AV.bool true)) (Opd.t 27)), C.op none (some 2) (O.mv (Opd.t 28)),
    C.ret]
def r16 : List RV := [RV.t 2]
theorem c16_ok : cC Try.prog Try.f16.ntmps (Try.f16.body.getD .skip) = some c16 := by kernel_rfl

def c17 : List C :=
  [C.op none (some 4) (O.alloc [AV.int IntKind.u8 0, AV.int IntKind.i64 0]),
    C.op none (some 6) (O.mv (Opd.t 0)),
    C.op none (some 7) (O.build [AV.int IntKind.u8 0, AV.int IntKind.i64 0] [(0, 1, Opd.t 6)]),
    C.op none (some 5) (O.alloc [AV.int IntKind.u8 0, AV.int IntKind.i64 0]),
    C.op none none (O.st 2 (Opd.t 5) (Opd.t 7)), C.op none (some 8) (O.mv (Opd.t 1)),
    C.op none (some 9) (O.len false (Opd.t 8)),
    C.op none (some 10) (O.bin BinOp.gtr (Opd.t 9) (Opd.c (AV.int IntKind.i64 0))),
    C.op none (some 11) (O.mv (Opd.t 10)), C.op (some (11, true)) (some 12) (O.mv (Opd.t 0)),
    C.op (some (11, true)) (some 13) (O.call 15 [Opd.t 12]),
    C.op none (some 14) (O.pick (Opd.t 11) (Opd.t 13) (Opd.c (AV.bool false))),
    C.cond (Opd.t 14)
      [C.op none (some 15) (O.mv (Opd.t 1)),
        C.op none (some 16) (O.iad 1 (Opd.t 15) (Opd.c (AV.int IntKind.i64 0))),
        C.op none (some 17) (O.ld (CK.int IntKind.i64) (Opd.t 16)), C.op none (some 18) (O.fad 1 (Opd.t 5)),
        C.op none none (O.st 1 (Opd.t 18) (Opd.t 17))]
      [],
    C.op none (some 19) (O.ldn [CK.int IntKind.u8, CK.int IntKind.i64] (Opd.t 5)),
    C.op none none (O.st 2 (Opd.t 4) (Opd.t 19)), C.ret]
def r17 : List RV := [RV.cn 4 2]
theorem c17_ok : cC Try.prog Try.f17.ntmps (Try.f17.body.getD .skip) = some c17 := by kernel_rfl

def c18 : List C :=
  [C.op none (some 6) (O.alloc [AV.int IntKind.i64 0, AV.int IntKind.i64 0, AV.nilsl]),
    C.op none (some 7) (O.mv (Opd.t 0)), C.op none (some 8) (O.mv (Opd.t 1)),
    C.op none (some 9) (O.bsl 2 [AV.int IntKind.u8 0, AV.int IntKind.i64 0] 0 []),
    C.op none (some 10) (O.mv (Opd.t 2)), C.op none (some 11) (O.app 2 (Opd.t 9) (Opd.t 10)),
    C.op none (some 12)
      (O.build [AV.int IntKind.i64 0, AV.int IntKind.i64 0, AV.nilsl]
        [(0, 1, Opd.t 7), (1, 1, Opd.t 8), (2, 1, Opd.t 11)]),
    C.op none none (O.st 3 (Opd.t 6) (Opd.t 12)), C.ret]
def r18 : List RV := [RV.cn 6 3]
theorem c18_ok : cC Try.prog Try.f18.ntmps (Try.f18.body.getD .skip) = some c18 := by kernel_rfl

def c19 : List C :=
  [C.op none (some 4) (O.mv (Opd.c (AV.str []))), C.op none (some 5) (O.mv (Opd.t 0)),
    C.op none (some 6) (O.len true (Opd.t 5)), C.op none (some 7) (O.mv (Opd.t 1)),
    C.op none (some 8) (O.bin BinOp.gtr (Opd.t 6) (Opd.t 7)),
    C.cond (Opd.t 8)
      [C.op none (some 9) (O.mv (Opd.t 0)), C.op none (some 10) (O.mv (Opd.t 1)),
        C.op none (some 11) (O.ssl (Opd.t 9) none (some (Opd.t 10))), C.op none (some 4) (O.mv (Opd.t 11)), C.ret]
      [],
    C.op none (some 12) (O.mv (Opd.t 0)), C.op none (some 4) (O.mv (Opd.t 12)), C.ret]
def r19 : List RV := [RV.t 4]
theorem c19_ok : cC Try.prog Try.f19.ntmps (Try.f19.body.getD .skip) = some c19 := by kernel_rfl

def d20_0 : List It :=
  [(none, some 13, O.mv (Opd.t 0), []),
                    (none, some 14,
                      O.ssl (Opd.t 13) (some (Opd.c (AV.int IntKind.i64 1)))
                        (some (Opd.c (AV.int IntKind.i64 5))),
                      [0]),
                    (none, some 15, O.mv (Opd.t 0), []),
                    (none, some 16, O.ssl (Opd.t 15) none (some (Opd.c (AV.int IntKind.i64 1))), [2]),
                    (none, some 17, O.mv (Opd.t 0), []),
                    (none, some 18, O.ssl (Opd.t 17) (some (Opd.c (AV.int IntKind.i64 5))) none, [4]),
                    (none, some 19, O.bsl 1 [AV.str []] 2 [(0, Opd.t 16), (1, Opd.t 18)], [3, 5]),
                    (none, some 20, O.call 54 [Opd.t 19], [6]), (none, some 21, O.call 53 [Opd.t 20], [7, 7]),
                    (none, some 22, O.bin BinOp.neq (Opd.t 14) (Opd.t 21), [1, 8]),
                    (none, some 12, O.mv (Opd.t 22), [9, 8])]
def o20_0 : List (Nat × Bool) := [(0, false), (1, false), (2, false), (3, false), (4, false), (5, false), (6, false), (7, true), (8, true), (9, false), (10, false)]
def l20_0 : List (Nat × Bool × It) :=
  [(0, false, (none, some 13, O.mv (Opd.t 0), [])),
   (1, false, (none, some 14,
                      O.ssl (Opd.t 13) (some (Opd.c (AV.int IntKind.i64 1)))
                        (some (Opd.c (AV.int IntKind.i64 5))),
                      [0])),
   (2, false, (none, some 15, O.mv (Opd.t 0), [])),
   (3, false, (none, some 16, O.ssl (Opd.t 15) none (some (Opd.c (AV.int IntKind.i64 1))), [2])),
   (4, false, (none, some 17, O.mv (Opd.t 0), [])),
   (5, false, (none, some 18, O.ssl (Opd.t 17) (some (Opd.c (AV.int IntKind.i64 5))) none, [4])),
   (6, false, (none, some 19, O.bsl 1 [AV.str []] 2 [(0, Opd.t 16), (1, Opd.t 18)], [3, 5])),
   (7, true, (none, some 20, O.call 54 [Opd.t 19], [6])),
   (8, true, (none, some 21, O.call 53 [Opd.t 20], [7, 7])),
   (9, false, (none, some 22, O.bin BinOp.neq (Opd.t 14) (Opd.t 21), [1, 8])),
   (10, false, (none, some 12, O.mv (Opd.t 22), [9, 8]))]
theorem l20_0_ok : okDraw d20_0 o20_0 = true ∧ mkL d20_0 o20_0 = some l20_0 := ⟨by kernel_rfl, by kernel_rfl⟩

def c20 : List C :=
  [C.op none (some 2) (O.mv (Opd.c (AV.str []))), C.op none (some 3) (O.mv (Opd.c (AV.int IntKind.i64 0))),
    C.blk 0
      [C.op none (some 5) (O.mv (Opd.t 0)), C.op none (some 6) (O.len true (Opd.t 5)),
        C.op none (some 7) (O.bin BinOp.lss (Opd.t 6) (Opd.c (AV.int IntKind.i64 5))),
        C.op none (some 4) (O.mv (Opd.t 7)),
        C.cond (Opd.t 4)
          [C.op none (some 2) (O.mv (Opd.c (AV.str []))),
            C.op none (some 3) (O.mv (Opd.c (AV.int IntKind.i64 1))), C.ret]
          [C.op none (some 9) (O.mv (Opd.t 0)),
            C.op none (some 10) (O.ist (Opd.t 9) (Opd.c (AV.int IntKind.i64 0))),
            C.op none (some 11) (O.bin BinOp.neq (Opd.t 10) (Opd.c (AV.int IntKind.u8 7))),
            C.op none (some 8) (O.mv (Opd.t 11)),
            C.cond (Opd.t 8)
              [C.op none (some 2) (O.mv (Opd.c (AV.str []))),
                C.op none (some 3) (O.mv (Opd.c (AV.int IntKind.i64 6))), C.ret]
              [C.draw d20_0,
                C.cond (Opd.t 12)
                  [C.op none (some 2) (O.mv (Opd.c (AV.str []))),
                    C.op none (some 3) (O.mv (Opd.c (AV.int IntKind.i64 5))), C.ret]
                  []]]],
    C.op none (some 23) (O.mv (Opd.t 0)),
    C.op none (some 24) (O.ssl (Opd.t 23) (some (Opd.c (AV.int IntKind.i64 5))) none),
    C.op none (some 2) (O.mv (Opd.t 24)), C.op none (some 3) (O.mv (Opd.c (AV.int IntKind.i64 0))), C.ret]
def r20 : List RV := [RV.t 2, RV.t 3]
theorem c20_ok : cC Try.prog Try.f20.ntmps (Try.f20.body.getD .skip) = some c20 := by kernel_rfl

def c21 : List C :=
  [C.op none (some 2) (O.mv (Opd.c (AV.str []))), C.op none (some 3) (O.mv (Opd.c (AV.int IntKind.i64 0))),
    C.op none (some 4) (O.mv (Opd.t 0)), C.op none (some 5) (O.len true (Opd.t 4)),
    C.op none (some 6) (O.bin BinOp.lss (Opd.t 5) (Opd.c (AV.int IntKind.i64 5))),
    C.cond (Opd.t 6)
      [C.op none (some 2) (O.mv (Opd.c (AV.str []))),
        C.op none (some 3) (O.mv (Opd.c (AV.int IntKind.i64 1))), C.ret]
      [],
    C.op none (some 7) (O.mv (Opd.t 0)),
    C.op none (some 8) (O.ist (Opd.t 7) (Opd.c (AV.int IntKind.i64 0))),
    C.op none (some 9) (O.bin BinOp.neq (Opd.t 8) (Opd.c (AV.int IntKind.u8 7))),
    C.cond (Opd.t 9)
      [C.op none (some 2) (O.mv (Opd.c (AV.str []))),
        C.op none (some 3) (O.mv (Opd.c (AV.int IntKind.i64 6))), C.ret]
      [],
    C.op none (some 10) (O.mv (Opd.t 0)),
    C.op none (some 11) (O.ssl (Opd.t 10) (some (Opd.c (AV.int IntKind.i64 5))) none),
    C.op none (some 12) (O.call 24 [Opd.t 11]), C.op none (some 13) (O.mv (Opd.t 0)),
    C.op none (some 14) (O.bin BinOp.neq (Opd.t 12) (Opd.t 13)),
    C.cond (Opd.t 14)
      [C.op none (some 2) (O.mv (Opd.c (AV.str []))),
        C.op none (some 3) (O.mv (Opd.c (AV.int IntKind.i64 5))), C.ret]
      [],
    C.op none (some 15) (O.mv (Opd.t 0)),
    C.op none (some 16) (O.ssl (Opd.t 15) (some (Opd.c (AV.int IntKind.i64 5))) none),
    C.op none (some 2) (O.mv (Opd.t 16)), C.op none (some 3) (O.mv (Opd.c (AV.int IntKind.i64 0))), C.ret]
def r21 : List RV := [RV.t 2, RV.t 3]
theorem c21_ok : cC Try.prog Try.f21.ntmps (Try.f21.body.getD .skip) = some c21 := by kernel_rfl

def c22 : List C :=
  [C.op none (some 2) (O.mv (Opd.c (AV.str []))),
    C.op none (some 4) (O.bsl 1 [AV.int IntKind.u8 0] 1 [(0, Opd.c (AV.int IntKind.u8 7))]),
    C.op none (some 5) (O.cvb (Opd.t 4)), C.op none (some 3) (O.mv (Opd.t 5)), C.op none (some 6) (O.mv (Opd.t 3)),
    C.op none (some 7) (O.mv (Opd.t 3)), C.op none (some 8) (O.mv (Opd.t 0)),
    C.op none (some 9) (O.bsl 1 [AV.str []] 2 [(0, Opd.t 7), (1, Opd.t 8)]), C.op none (some 10) (O.call 54 [Opd.t 9]),
    C.op none (some 11) (O.call 53 [Opd.t 10]), C.op none (some 12) (O.bin BinOp.add (Opd.t 6) (Opd.t 11)),
    C.op none (some 13) (O.mv (Opd.t 0)), C.op none (some 14) (O.bin BinOp.add (Opd.t 12) (Opd.t 13)),
    C.op none (some 2) (O.mv (Opd.t 14)), C.ret]
def r22 : List RV := [RV.t 2]
theorem c22_ok : cC Try.prog Try.f22.ntmps (Try.f22.body.getD .skip) = some c22 := by kernel_rfl

def c23 : List C :=
  [C.op none (some 0) (O.mv (Opd.c (AV.bool false))), C.op none (some 1) (O.alloc [AV.nilsl]),
    C.op none (some 5)
      (O.call 22
        [Opd.c
            (AV.str
              [97,
                98])]),
    C.op none (some 6) (O.call 20 [Opd.t 5]), C.op none (some 4) (O.mv (Opd.t 6)),
    C.op none (some 7) (O.ext (Opd.t 4) 0), C.op none (some 8) (O.ext (Opd.t 4) 1), C.op none (some 2) (O.mv (Opd.t 7)),
    C.op none (some 3) (O.mv (Opd.t 8)),
    C.op none (some 9) (O.bsl 1 [AV.int IntKind.u64 0] 1 [(0, Opd.c (AV.int IntKind.u64 300))]),
    C.op none (some 10) (O.call 33 [Opd.t 1, Opd.t 9]), C.op none (some 11) (O.eqp 0 true (Opd.t 10) (Opd.c AV.nilptr)),
    C.op none (some 12) (O.mv (Opd.t 11)), C.op (some (12, true)) (some 13) (O.call 38 [Opd.t 1]),
    C.op (some (12, true)) (some 14)
      (O.bin BinOp.eql (Opd.t 13)
        (Opd.c
          (AV.str
            [172,
              2]))),
    C.op none (some 15) (O.pick (Opd.t 12) (Opd.t 14) (Opd.c (AV.bool false))), C.op none (some 16) (O.mv (Opd.t 15)),
    C.op (some (16, true)) (some 17) (O.call 25 [Opd.c (AV.str [])]),
    C.op (some (16, true)) (some 18) (O.eqp 0 true (Opd.t 17) (Opd.c AV.nilptr)),
    C.op none (some 19) (O.pick (Opd.t 16) (Opd.t 18) (Opd.c (AV.bool false))), C.op none (some 20) (O.mv (Opd.t 19)),
    C.op (some (20, true)) (some 21)
      (O.call 25 [Opd.c (AV.str [1])]),
    C.op (some (20, true)) (some 22) (O.call 42 [Opd.t 21]),
    C.op (some (20, true)) (some 23) (O.bin BinOp.eql (Opd.t 22) (Opd.c (AV.int IntKind.i64 (-1)))),
    C.op none (some 24) (O.pick (Opd.t 20) (Opd.t 23) (Opd.c (AV.bool false))), C.op none (some 25) (O.mv (Opd.t 24)),
    C.op (some (25, true)) (some 26) (O.mv (Opd.t 2)),
    C.op (some (25, true)) (some 27)
      (O.bin BinOp.eql (Opd.t 26)
        (Opd.c
          (AV.str
            [97,
              98]))),
    C.op none (some 28) (O.pick (Opd.t 25) (Opd.t 27) (Opd.c (AV.bool false))), C.op none (some 29) (O.mv (Opd.t 28)),
    C.op (some (29, true)) (some 30) (O.mv (Opd.t 3)),
    C.op (some (29, true)) (some 31) (O.bin BinOp.eql (Opd.t 30) (Opd.c (AV.int IntKind.i64 0))),
    C.op none (some 32) (O.pick (Opd.t 29) (Opd.t 31) (Opd.c (AV.bool false))), C.op none (some 0) (O.mv (Opd.t 32)),
    C.ret]
def r23 : List RV := [RV.t 0]
theorem c23_ok : cC Try.prog Try.f23.ntmps (Try.f23.body.getD .skip) = some c23 := by kernel_rfl

def c24 : List C :=
  [C.op none (some 2) (O.mv (Opd.c (AV.str []))), C.op none (some 4) (O.mv (Opd.t 0)),
    C.op none (some 5)
      (O.bin BinOp.add (Opd.c (AV.str [7]))
        (Opd.t 4)),
    C.op none (some 6) (O.call 55 [Opd.t 5]), C.op none (some 3) (O.mv (Opd.t 6)), C.op none (some 7) (O.mv (Opd.t 3)),
    C.op none (some 8) (O.bin BinOp.rem (Opd.t 7) (Opd.c (AV.int IntKind.u32 256))),
    C.op none (some 9) (O.cvi IntKind.u8 (Opd.t 8)), C.op none (some 10) (O.mv (Opd.t 3)),
    C.op none (some 11) (O.bin BinOp.quo (Opd.t 10) (Opd.c (AV.int IntKind.u32 256))),
    C.op none (some 12) (O.bin BinOp.rem (Opd.t 11) (Opd.c (AV.int IntKind.u32 256))),
    C.op none (some 13) (O.cvi IntKind.u8 (Opd.t 12)), C.op none (some 14) (O.mv (Opd.t 3)),
    C.op none (some 15) (O.bin BinOp.quo (Opd.t 14) (Opd.c (AV.int IntKind.u32 65536))),
    C.op none (some 16) (O.bin BinOp.rem (Opd.t 15) (Opd.c (AV.int IntKind.u32 256))),
    C.op none (some 17) (O.cvi IntKind.u8 (Opd.t 16)), C.op none (some 18) (O.mv (Opd.t 3)),
    C.op none (some 19) (O.bin BinOp.quo (Opd.t 18) (Opd.c (AV.int IntKind.u32 16777216))),
    C.op none (some 20) (O.cvi IntKind.u8 (Opd.t 19)),
    C.op none (some 21)
      (O.bsl 1 [AV.int IntKind.u8 0] 4 [(0, Opd.t 9), (1, Opd.t 13), (2, Opd.t 17), (3, Opd.t 20)]),
    C.op none (some 22) (O.cvb (Opd.t 21)),
    C.op none (some 23)
      (O.bin BinOp.add (Opd.c (AV.str [7]))
        (Opd.t 22)),
    C.op none (some 24) (O.mv (Opd.t 0)), C.op none (some 25) (O.bin BinOp.add (Opd.t 23) (Opd.t 24)),
    C.op none (some 2) (O.mv (Opd.t 25)), C.ret]
def r24 : List RV := [RV.t 2]
theorem c24_ok : cC Try.prog Try.f24.ntmps (Try.f24.body.getD .skip) = some c24 := by kernel_rfl

def c25 : List C :=
  [C.op none (some 2) (O.mv (Opd.c AV.nilptr)), C.op none (some 3) (O.mv (Opd.t 0)),
    C.op none (some 4) (O.build [AV.str [], AV.int IntKind.i64 0] [(0, 1, Opd.t 3)]),
    C.op none (some 5) (O.box (Opd.t 4)), C.op none (some 2) (O.mv (Opd.t 5)), C.ret]
def r25 : List RV := [RV.t 2]
theorem c25_ok : cC Try.prog Try.f25.ntmps (Try.f25.body.getD .skip) = some c25 := by kernel_rfl

def c26 : List C :=
  [C.op none (some 2) (O.mv (Opd.c (AV.int IntKind.u64 0))),
    C.op none (some 3) (O.mv (Opd.c (AV.int IntKind.u64 0))),
    C.op none (some 4) (O.mv (Opd.c (AV.int IntKind.i64 0))),
    C.blk 0
      [C.loop
          [C.blk 1
              [C.op none (some 9) (O.mv (Opd.t 0)),
                C.op none (some 10) (O.call 44 [Opd.t 9, Opd.c (AV.int IntKind.i64 1)]),
                C.op none (some 5) (O.mv (Opd.t 10)), C.op none (some 11) (O.mv (Opd.t 0)),
                C.op none (some 12) (O.nck (Opd.t 11)), C.op none (some 13) (O.fad 1 (Opd.t 12)),
                C.op none (some 14) (O.ld (CK.int IntKind.i64) (Opd.t 13)),
                C.op none (some 15) (O.bin BinOp.neq (Opd.t 14) (Opd.c (AV.int IntKind.i64 0))),
                C.cond (Opd.t 15) [C.op none (some 2) (O.mv (Opd.c (AV.int IntKind.u64 0))), C.ret] [],
                C.op none (some 16) (O.mv (Opd.t 5)),
                C.op none (some 17) (O.ist (Opd.t 16) (Opd.c (AV.int IntKind.i64 0))),
                C.op none (some 6) (O.mv (Opd.t 17)), C.op none (some 18) (O.mv (Opd.t 6)),
                C.op none (some 19) (O.bin BinOp.eql (Opd.t 18) (Opd.c (AV.int IntKind.u8 0))),
                C.op none (some 20) (O.mv (Opd.t 19)), C.op (some (20, true)) (some 21) (O.mv (Opd.t 4)),
                C.op (some (20, true)) (some 22)
                  (O.bin BinOp.gtr (Opd.t 21) (Opd.c (AV.int IntKind.i64 0))),
                C.op none (some 23) (O.pick (Opd.t 20) (Opd.t 22) (Opd.c (AV.bool false))),
                C.op none (some 24) (O.mv (Opd.t 23)), C.op (some (24, false)) (some 25) (O.mv (Opd.t 4)),
                C.op (some (24, false)) (some 26)
                  (O.bin BinOp.eql (Opd.t 25) (Opd.c (AV.int IntKind.i64 63))),
                C.op (some (24, false)) (some 27) (O.mv (Opd.t 26)), C.op (some (27, true)) (some 28) (O.mv (Opd.t 6)),
                C.op (some (27, true)) (some 29) (O.bin BinOp.gtr (Opd.t 28) (Opd.c (AV.int IntKind.u8 1))),
                C.op (some (24, false)) (some 30) (O.pick (Opd.t 27) (Opd.t 29) (Opd.c (AV.bool false))),
                C.op none (some 31) (O.pick (Opd.t 24) (Opd.c (AV.bool true)) (Opd.t 30)),
                C.cond (Opd.t 31)
                  [C.op none (some 32) (O.mv (Opd.t 0)),
                    C.op none (some 33) (O.call 56 [Opd.t 32, Opd.c (AV.int IntKind.i64 2)]),
                    C.op none (some 2) (O.mv (Opd.c (AV.int IntKind.u64 0))), C.ret]
                  [],
                C.op none (some 34) (O.mv (Opd.t 3)), C.op none (some 35) (O.mv (Opd.t 6)),
                C.op none (some 36) (O.bin BinOp.and (Opd.t 35) (Opd.c (AV.int IntKind.u8 127))),
                C.op none (some 37) (O.cvi IntKind.u64 (Opd.t 36)), C.op none (some 38) (O.mv (Opd.t 4)),
                C.op none (some 39) (O.bin BinOp.shl (Opd.t 37) (Opd.t 38)),
                C.op none (some 40) (O.bin BinOp.or (Opd.t 34) (Opd.t 39)), C.op none (some 3) (O.mv (Opd.t 40)),
                C.op none (some 41) (O.mv (Opd.t 6)),
                C.op none (some 42) (O.bin BinOp.lss (Opd.t 41) (Opd.c (AV.int IntKind.u8 128))),
                C.cond (Opd.t 42) [C.op none (some 43) (O.mv (Opd.t 3)), C.op none (some 2) (O.mv (Opd.t 43)), C.ret]
                  []],
            C.op none (some 7) (O.mv (Opd.t 4)),
            C.op none (some 8) (O.bin BinOp.add (Opd.t 7) (Opd.c (AV.int IntKind.i64 7))),
            C.op none (some 4) (O.mv (Opd.t 8))]]]
def r26 : List RV := [RV.t 2]
theorem c26_ok : cC Try.prog Try.f26.ntmps (Try.f26.body.getD .skip) = some c26 := by kernel_rfl

def c27 : List C :=
  [C.op none (some 2) (O.mv (Opd.c (AV.int IntKind.i64 0))), C.op none (some 3) (O.mv (Opd.t 0)),
    C.op none (some 4) (O.nck (Opd.t 3)), C.op none (some 5) (O.fad 1 (Opd.t 4)),
    C.op none (some 6) (O.ld (CK.int IntKind.i64) (Opd.t 5)), C.op none (some 2) (O.mv (Opd.t 6)), C.ret]
def r27 : List RV := [RV.t 2]
theorem c27_ok : cC Try.prog Try.f27.ntmps (Try.f27.body.getD .skip) = some c27 := by kernel_rfl

def c28 : List C :=
  [C.op none (some 2) (O.mv (Opd.c (AV.str []))), C.op none (some 3) (O.mv (Opd.c (AV.str []))),
    C.op none (some 4) (O.mv (Opd.c (AV.int IntKind.i64 0))),
    C.blk 0
      [C.loop
          [C.op none (some 5) (O.mv (Opd.t 4)),
            C.op none (some 6) (O.bin BinOp.lss (Opd.t 5) (Opd.c (AV.int IntKind.i64 10))),
            C.op none (some 7) (O.mv (Opd.t 6)), C.op (some (7, true)) (some 8) (O.mv (Opd.t 0)),
            C.op (some (7, true)) (some 9) (O.bin BinOp.gtr (Opd.t 8) (Opd.c (AV.int IntKind.u64 127))),
            C.op none (some 10) (O.pick (Opd.t 7) (Opd.t 9) (Opd.c (AV.bool false))), C.cond (Opd.t 10) [] [C.exit 0],
            C.blk 1
              [C.op none (some 13) (O.mv (Opd.t 3)), C.op none (some 14) (O.mv (Opd.t 0)),
                C.op none (some 15) (O.bin BinOp.rem (Opd.t 14) (Opd.c (AV.int IntKind.u64 128))),
                C.op none (some 16) (O.bin BinOp.add (Opd.c (AV.int IntKind.u64 128)) (Opd.t 15)),
                C.op none (some 17) (O.cvi IntKind.u8 (Opd.t 16)),
                C.op none (some 18) (O.bsl 1 [AV.int IntKind.u8 0] 1 [(0, Opd.t 17)]),
                C.op none (some 19) (O.cvb (Opd.t 18)), C.op none (some 20) (O.bin BinOp.add (Opd.t 13) (Opd.t 19)),
                C.op none (some 3) (O.mv (Opd.t 20)), C.op none (some 21) (O.mv (Opd.t 0)),
                C.op none (some 22) (O.bin BinOp.quo (Opd.t 21) (Opd.c (AV.int IntKind.u64 128))),
                C.op none (some 0) (O.mv (Opd.t 22))],
            C.op none (some 11) (O.mv (Opd.t 4)),
            C.op none (some 12) (O.bin BinOp.add (Opd.t 11) (Opd.c (AV.int IntKind.i64 1))),
            C.op none (some 4) (O.mv (Opd.t 12))]],
    C.op none (some 23) (O.mv (Opd.t 3)), C.op none (some 24) (O.mv (Opd.t 0)),
    C.op none (some 25) (O.cvi IntKind.u8 (Opd.t 24)),
    C.op none (some 26) (O.bsl 1 [AV.int IntKind.u8 0] 1 [(0, Opd.t 25)]),
    C.op none (some 27) (O.cvb (Opd.t 26)), C.op none (some 28) (O.bin BinOp.add (Opd.t 23) (Opd.t 27)),
    C.op none (some 2) (O.mv (Opd.t 28)), C.ret]
def r28 : List RV := [RV.t 2]
theorem c28_ok : cC Try.prog Try.f28.ntmps (Try.f28.body.getD .skip) = some c28 := by kernel_rfl

def c29 : List C :=
  [C.op none (some 2) (O.mv (Opd.c (AV.int IntKind.i64 0))), C.op none (some 3) (O.mv (Opd.t 0)),
    C.op none (some 4) (O.nck (Opd.t 3)), C.op none (some 5) (O.fad 0 (Opd.t 4)),
    C.op none (some 6) (O.ld CK.str (Opd.t 5)), C.op none (some 7) (O.len true (Opd.t 6)),
    C.op none (some 2) (O.mv (Opd.t 7)), C.ret]
def r29 : List RV := [RV.t 2]
theorem c29_ok : cC Try.prog Try.f29.ntmps (Try.f29.body.getD .skip) = some c29 := by kernel_rfl

def c30 : List C :=
  [C.op none (some 4) (O.box (Opd.t 1)), C.op none (some 5) (O.box (Opd.t 2)),
    C.op none (some 6) (O.alloc [AV.str [], AV.int IntKind.i64 0]),
    C.op none (some 7) (O.mv (Opd.c (AV.bool false))), C.op none (some 23) (O.fad 0 (Opd.t 5)),
    C.op none (some 24) (O.ld (CK.int IntKind.i64) (Opd.t 23)),
    C.blk 0
      [C.op none (some 26) (O.bin BinOp.eql (Opd.t 24) (Opd.c (AV.int IntKind.i64 1))),
        C.op none (some 25) (O.mv (Opd.t 26)),
        C.cond (Opd.t 25)
          [C.op none (some 27) (O.mv (Opd.t 0)), C.op none (some 28) (O.call 26 [Opd.t 27]),
            C.op none (some 8) (O.mv (Opd.t 28)), C.op none (some 30) (O.ldn [CK.str, CK.int IntKind.i64] (Opd.t 4)),
            C.op none (some 31) (O.call 57 [Opd.t 30]), C.op none (some 29) (O.mv (Opd.t 31)),
            C.op none (some 32) (O.ext (Opd.t 29) 0), C.op none (some 33) (O.ext (Opd.t 29) 1),
            C.op none (some 9) (O.alloc [AV.str [], AV.int IntKind.i64 0]),
            C.op none none (O.st 2 (Opd.t 9) (Opd.t 32)), C.op none (some 10) (O.mv (Opd.t 33)),
            C.op none (some 34) (O.ldn [CK.str, CK.int IntKind.i64] (Opd.t 9)), C.op none (some 35) (O.mv (Opd.t 8)),
            C.op none (some 36) (O.mv (Opd.t 10)), C.op none (some 37) (O.bin BinOp.eql (Opd.t 35) (Opd.t 36)),
            C.op none none (O.st 2 (Opd.t 6) (Opd.t 34)), C.op none (some 7) (O.mv (Opd.t 37)), C.ret]
          [C.op none (some 39) (O.bin BinOp.eql (Opd.t 24) (Opd.c (AV.int IntKind.i64 2))),
            C.op none (some 38) (O.mv (Opd.t 39)),
            C.cond (Opd.t 38)
              [C.op none (some 40) (O.mv (Opd.t 0)), C.op none (some 41) (O.call 42 [Opd.t 40]),
                C.op none (some 11) (O.mv (Opd.t 41)),
                C.op none (some 43) (O.ldn [CK.str, CK.int IntKind.i64] (Opd.t 4)),
                C.op none (some 44) (O.call 58 [Opd.t 43]), C.op none (some 42) (O.mv (Opd.t 44)),
                C.op none (some 45) (O.ext (Opd.t 42) 0), C.op none (some 46) (O.ext (Opd.t 42) 1),
                C.op none (some 12) (O.alloc [AV.str [], AV.int IntKind.i64 0]),
                C.op none none (O.st 2 (Opd.t 12) (Opd.t 45)), C.op none (some 13) (O.mv (Opd.t 46)),
                C.op none (some 47) (O.ldn [CK.str, CK.int IntKind.i64] (Opd.t 12)),
                C.op none (some 48) (O.mv (Opd.t 11)), C.op none (some 49) (O.mv (Opd.t 13)),
                C.op none (some 50) (O.bin BinOp.eql (Opd.t 48) (Opd.t 49)),
                C.op none none (O.st 2 (Opd.t 6) (Opd.t 47)), C.op none (some 7) (O.mv (Opd.t 50)), C.ret]
              [C.op none (some 52) (O.bin BinOp.eql (Opd.t 24) (Opd.c (AV.int IntKind.i64 3))),
                C.op none (some 51) (O.mv (Opd.t 52)),
                C.cond (Opd.t 51)
                  [C.op none (some 53) (O.mv (Opd.t 0)), C.op none (some 54) (O.fad 1 (Opd.t 5)),
                    C.op none (some 55) (O.ld (CK.int IntKind.i64) (Opd.t 54)),
                    C.op none (some 56) (O.call 59 [Opd.t 53, Opd.t 55]), C.op none (some 14) (O.mv (Opd.t 56)),
                    C.op none (some 58) (O.ldn [CK.str, CK.int IntKind.i64] (Opd.t 4)),
                    C.op none (some 59) (O.fad 1 (Opd.t 5)), C.op none (some 60) (O.ld (CK.int IntKind.i64) (Opd.t 59)),
                    C.op none (some 61) (O.call 60 [Opd.t 58, Opd.t 60]), C.op none (some 57) (O.mv (Opd.t 61)),
                    C.op none (some 62) (O.ext (Opd.t 57) 0), C.op none (some 63) (O.ext (Opd.t 57) 1),
                    C.op none (some 15) (O.alloc [AV.str [], AV.int IntKind.i64 0]),
                    C.op none none (O.st 2 (Opd.t 15) (Opd.t 62)), C.op none (some 16) (O.mv (Opd.t 63)),
                    C.op none (some 64) (O.ldn [CK.str, CK.int IntKind.i64] (Opd.t 15)),
                    C.op none (some 65) (O.mv (Opd.t 14)), C.op none (some 66) (O.mv (Opd.t 16)),
                    C.op none (some 67) (O.bin BinOp.eql (Opd.t 65) (Opd.t 66)),
                    C.op none none (O.st 2 (Opd.t 6) (Opd.t 64)), C.op none (some 7) (O.mv (Opd.t 67)), C.ret]
                  [C.op none (some 69) (O.bin BinOp.eql (Opd.t 24) (Opd.c (AV.int IntKind.i64 4))),
                    C.op none (some 68) (O.mv (Opd.t 69)),
                    C.cond (Opd.t 68)
                      [C.op none (some 70) (O.mv (Opd.t 0)), C.op none (some 71) (O.fad 1 (Opd.t 5)),
                        C.op none (some 72) (O.ld (CK.int IntKind.i64) (Opd.t 71)),
                        C.op none (some 73) (O.call 43 [Opd.t 70, Opd.t 72]), C.op none (some 17) (O.mv (Opd.t 73)),
                        C.op none (some 75) (O.ldn [CK.str, CK.int IntKind.i64] (Opd.t 4)),
                        C.op none (some 76) (O.fad 1 (Opd.t 5)),
                        C.op none (some 77) (O.ld (CK.int IntKind.i64) (Opd.t 76)),
                        C.op none (some 78) (O.call 61 [Opd.t 75, Opd.t 77]), C.op none (some 74) (O.mv (Opd.t 78)),
                        C.op none (some 79) (O.ext (Opd.t 74) 0), C.op none (some 80) (O.ext (Opd.t 74) 1),
                        C.op none (some 18) (O.alloc [AV.str [], AV.int IntKind.i64 0]),
                        C.op none none (O.st 2 (Opd.t 18) (Opd.t 79)), C.op none (some 19) (O.mv (Opd.t 80)),
                        C.op none (some 81) (O.ldn [CK.str, CK.int IntKind.i64] (Opd.t 18)),
                        C.op none (some 82) (O.mv (Opd.t 17)), C.op none (some 83) (O.mv (Opd.t 19)),
                        C.op none (some 84) (O.bin BinOp.eql (Opd.t 82) (Opd.t 83)),
                        C.op none none (O.st 2 (Opd.t 6) (Opd.t 81)), C.op none (some 7) (O.mv (Opd.t 84)), C.ret]
                      [C.op none (some 86) (O.bin BinOp.eql (Opd.t 24) (Opd.c (AV.int IntKind.i64 5))),
                        C.op none (some 85) (O.mv (Opd.t 86)),
                        C.cond (Opd.t 85)
                          [C.op none (some 87) (O.mv (Opd.t 0)), C.op none (some 88) (O.fad 1 (Opd.t 5)),
                            C.op none (some 89) (O.ld (CK.int IntKind.i64) (Opd.t 88)),
                            C.op none (some 90) (O.call 44 [Opd.t 87, Opd.t 89]), C.op none (some 20) (O.mv (Opd.t 90)),
                            C.op none (some 92) (O.ldn [CK.str, CK.int IntKind.i64] (Opd.t 4)),
                            C.op none (some 93) (O.fad 1 (Opd.t 5)),
                            C.op none (some 94) (O.ld (CK.int IntKind.i64) (Opd.t 93)),
                            C.op none (some 95) (O.call 62 [Opd.t 92, Opd.t 94]), C.op none (some 91) (O.mv (Opd.t 95)),
                            C.op none (some 96) (O.ext (Opd.t 91) 0), C.op none (some 97) (O.ext (Opd.t 91) 1),
                            C.op none (some 21) (O.alloc [AV.str [], AV.int IntKind.i64 0]),
                            C.op none none (O.st 2 (Opd.t 21) (Opd.t 96)), C.op none (some 22) (O.mv (Opd.t 97)),
                            C.op none (some 98) (O.ldn [CK.str, CK.int IntKind.i64] (Opd.t 21)),
                            C.op none (some 99) (O.mv (Opd.t 20)), C.op none (some 100) (O.mv (Opd.t 22)),
                            C.op none (some 101) (O.bin BinOp.eql (Opd.t 99) (Opd.t 100)),
                            C.op none none (O.st 2 (Opd.t 6) (Opd.t 98)), C.op none (some 7) (O.mv (Opd.t 101)), C.ret]
                          [C.op none (some 103) (O.bin BinOp.eql (Opd.t 24) (Opd.c (AV.int IntKind.i64 6))),
                            C.op none (some 102) (O.mv (Opd.t 103)),
                            C.cond (Opd.t 102)
                              [C.op none (some 104) (O.mv (Opd.t 0)), C.op none (some 105) (O.fad 1 (Opd.t 5)),
                                C.op none (some 106) (O.ld (CK.int IntKind.i64) (Opd.t 105)),
                                C.op none (some 107)
                                  (O.bin BinOp.and (Opd.t 106) (Opd.c (AV.int IntKind.i64 7))),
                                C.op none (some 108) (O.call 56 [Opd.t 104, Opd.t 107]),
                                C.op none (some 109) (O.ldn [CK.str, CK.int IntKind.i64] (Opd.t 4)),
                                C.op none (some 110) (O.fad 1 (Opd.t 5)),
                                C.op none (some 111) (O.ld (CK.int IntKind.i64) (Opd.t 110)),
                                C.op none (some 112)
                                  (O.bin BinOp.and (Opd.t 111) (Opd.c (AV.int IntKind.i64 7))),
                                C.op none (some 113) (O.call 63 [Opd.t 109, Opd.t 112]),
                                C.op none none (O.st 2 (Opd.t 6) (Opd.t 113)),
                                C.op none (some 7) (O.mv (Opd.c (AV.bool true))), C.ret]
                              []]]]]]],
    C.op none (some 114) (O.ldn [CK.str, CK.int IntKind.i64] (Opd.t 4)), C.op none none (O.st 2 (Opd.t 6) (Opd.t 114)),
    C.op none (some 7) (O.mv (Opd.c (AV.bool true))), C.ret]
def r30 : List RV := [RV.cn 6 2, RV.t 7]
theorem c30_ok : cC Try.prog Try.f30.ntmps (Try.f30.body.getD .skip) = some c30 := by kernel_rfl

def c31 : List C :=
  [C.op none (some 2) (O.mv (Opd.c (AV.int IntKind.i64 0))), C.op none (some 3) (O.mv (Opd.t 0)),
    C.op none (some 4) (O.nck (Opd.t 3)), C.op none (some 5) (O.fad 0 (Opd.t 4)),
    C.op none (some 6) (O.ld CK.str (Opd.t 5)), C.op none (some 7) (O.bin BinOp.neq (Opd.t 6) (Opd.c (AV.str []))),
    C.cond (Opd.t 7)
      [C.op none (some 8) (O.mv (Opd.t 0)),
        C.op none (some 9) (O.call 56 [Opd.t 8, Opd.c (AV.int IntKind.i64 2)])]
      [],
    C.op none (some 10) (O.mv (Opd.t 0)), C.op none (some 11) (O.nck (Opd.t 10)),
    C.op none (some 12) (O.fad 1 (Opd.t 11)), C.op none (some 13) (O.ld (CK.int IntKind.i64) (Opd.t 12)),
    C.op none (some 2) (O.mv (Opd.t 13)), C.ret]
def r31 : List RV := [RV.t 2]
theorem c31_ok : cC Try.prog Try.f31.ntmps (Try.f31.body.getD .skip) = some c31 := by kernel_rfl

def c32 : List C :=
  [C.op none (some 1) (O.box (Opd.t 0)), C.op none (some 2) (O.mv (Opd.c (AV.int IntKind.i64 0))),
    C.op none (some 3) (O.fad 1 (Opd.t 1)), C.op none (some 4) (O.ld (CK.int IntKind.i64) (Opd.t 3)),
    C.op none (some 5) (O.bin BinOp.eql (Opd.t 4) (Opd.c (AV.int IntKind.i64 0))),
    C.op none (some 6) (O.mv (Opd.t 5)), C.op (some (6, true)) (some 7) (O.fad 0 (Opd.t 1)),
    C.op (some (6, true)) (some 8) (O.ld CK.str (Opd.t 7)),
    C.op (some (6, true)) (some 9) (O.bin BinOp.neq (Opd.t 8) (Opd.c (AV.str []))),
    C.op none (some 10) (O.pick (Opd.t 6) (Opd.t 9) (Opd.c (AV.bool false))),
    C.cond (Opd.t 10) [C.op none (some 2) (O.mv (Opd.c (AV.int IntKind.i64 2))), C.ret] [],
    C.op none (some 11) (O.fad 1 (Opd.t 1)), C.op none (some 12) (O.ld (CK.int IntKind.i64) (Opd.t 11)),
    C.op none (some 2) (O.mv (Opd.t 12)), C.ret]
def r32 : List RV := [RV.t 2]
theorem c32_ok : cC Try.prog Try.f32.ntmps (Try.f32.body.getD .skip) = some c32 := by kernel_rfl

def c33 : List C :=
  [C.op none (some 4) (O.mv (Opd.c AV.nilptr)), C.op none (some 7) (O.mv (Opd.t 1)),
    C.op none (some 8) (O.len false (Opd.t 7)), C.op none (some 9) (O.mv (Opd.c (AV.int IntKind.i64 0))),
    C.blk 0
      [C.loop
          [C.op none (some 10) (O.bin BinOp.lss (Opd.t 9) (Opd.t 8)), C.cond (Opd.t 10) [] [C.exit 0],
            C.blk 1
              [C.op none (some 11) (O.iad 1 (Opd.t 7) (Opd.t 9)),
                C.op none (some 12) (O.ld (CK.int IntKind.u64) (Opd.t 11)), C.op none (some 6) (O.mv (Opd.t 12)),
                C.blk 2
                  [C.loop
                      [C.op none (some 13) (O.mv (Opd.t 6)),
                        C.op none (some 14) (O.bin BinOp.gtr (Opd.t 13) (Opd.c (AV.int IntKind.u64 127))),
                        C.cond (Opd.t 14) [] [C.exit 2],
                        C.blk 3
                          [C.op none (some 15) (O.mv (Opd.t 0)), C.op none (some 16) (O.mv (Opd.t 0)),
                            C.op none (some 17) (O.nck (Opd.t 16)), C.op none (some 18) (O.fad 0 (Opd.t 17)),
                            C.op none (some 19) (O.ld CK.any (Opd.t 18)), C.op none (some 20) (O.mv (Opd.t 6)),
                            C.op none (some 21) (O.cvi IntKind.u8 (Opd.t 20)),
                            C.op none (some 22) (O.bin BinOp.or (Opd.t 21) (Opd.c (AV.int IntKind.u8 128))),
                            C.op none (some 23) (O.bsl 1 [AV.int IntKind.u8 0] 1 [(0, Opd.t 22)]),
                            C.op none (some 24) (O.app 1 (Opd.t 19) (Opd.t 23)), C.op none (some 25) (O.nck (Opd.t 15)),
                            C.op none (some 26) (O.fad 0 (Opd.t 25)), C.op none none (O.st 1 (Opd.t 26) (Opd.t 24)),
                            C.op none (some 27) (O.mv (Opd.t 6)),
                            C.op none (some 28) (O.bin BinOp.shr (Opd.t 27) (Opd.c (AV.int IntKind.u64 7))),
                            C.op none (some 6) (O.mv (Opd.t 28))]]],
                C.op none (some 29) (O.mv (Opd.t 0)), C.op none (some 30) (O.mv (Opd.t 0)),
                C.op none (some 31) (O.nck (Opd.t 30)), C.op none (some 32) (O.fad 0 (Opd.t 31)),
                C.op none (some 33) (O.ld CK.any (Opd.t 32)), C.op none (some 34) (O.mv (Opd.t 6)),
                C.op none (some 35) (O.cvi IntKind.u8 (Opd.t 34)),
                C.op none (some 36) (O.bsl 1 [AV.int IntKind.u8 0] 1 [(0, Opd.t 35)]),
                C.op none (some 37) (O.app 1 (Opd.t 33) (Opd.t 36)), C.op none (some 38) (O.nck (Opd.t 29)),
                C.op none (some 39) (O.fad 0 (Opd.t 38)), C.op none none (O.st 1 (Opd.t 39) (Opd.t 37))],
            C.op none (some 40) (O.bin BinOp.add (Opd.t 9) (Opd.c (AV.int IntKind.i64 1))),
            C.op none (some 9) (O.mv (Opd.t 40))]],
    C.op none (some 41) (O.mv (Opd.t 0)), C.op none (some 4) (O.mv (Opd.t 41)), C.ret]
def r33 : List RV := [RV.t 4]
theorem c33_ok : cC Try.prog Try.f33.ntmps (Try.f33.body.getD .skip) = some c33 := by kernel_rfl

def c34 : List C :=
  [C.op none (some 4) (O.mv (Opd.c AV.nilptr)), C.op none (some 7) (O.mv (Opd.t 1)),
    C.op none (some 8) (O.len false (Opd.t 7)), C.op none (some 9) (O.mv (Opd.c (AV.int IntKind.i64 0))),
    C.blk 0
      [C.loop
          [C.op none (some 10) (O.bin BinOp.lss (Opd.t 9) (Opd.t 8)), C.cond (Opd.t 10) [] [C.exit 0],
            C.blk 1
              [C.op none (some 11) (O.iad 1 (Opd.t 7) (Opd.t 9)),
                C.op none (some 12) (O.ld (CK.int IntKind.i64) (Opd.t 11)), C.op none (some 6) (O.mv (Opd.t 12)),
                C.op none (some 13) (O.mv (Opd.t 0)), C.op none (some 14) (O.mv (Opd.t 6)),
                C.op none (some 15) (O.cvi IntKind.u64 (Opd.t 14)),
                C.op none (some 16) (O.bin BinOp.shl (Opd.t 15) (Opd.c (AV.int IntKind.u64 1))),
                C.op none (some 17) (O.mv (Opd.t 6)),
                C.op none (some 18) (O.bin BinOp.shr (Opd.t 17) (Opd.c (AV.int IntKind.u64 63))),
                C.op none (some 19) (O.cvi IntKind.u64 (Opd.t 18)),
                C.op none (some 20) (O.bin BinOp.xor (Opd.t 16) (Opd.t 19)),
                C.op none (some 21) (O.bsl 1 [AV.int IntKind.u64 0] 1 [(0, Opd.t 20)]),
                C.op none (some 22) (O.call 33 [Opd.t 13, Opd.t 21])],
            C.op none (some 23) (O.bin BinOp.add (Opd.t 9) (Opd.c (AV.int IntKind.i64 1))),
            C.op none (some 9) (O.mv (Opd.t 23))]],
    C.op none (some 24) (O.mv (Opd.t 0)), C.op none (some 4) (O.mv (Opd.t 24)), C.ret]
def r34 : List RV := [RV.t 4]
theorem c34_ok : cC Try.prog Try.f34.ntmps (Try.f34.body.getD .skip) = some c34 := by kernel_rfl

def c35 : List C :=
  [C.op none (some 4) (O.mv (Opd.c AV.nilptr)), C.op none (some 7) (O.mv (Opd.t 1)),
    C.op none (some 8) (O.len false (Opd.t 7)), C.op none (some 9) (O.mv (Opd.c (AV.int IntKind.i64 0))),
    C.blk 0
      [C.loop
          [C.op none (some 10) (O.bin BinOp.lss (Opd.t 9) (Opd.t 8)), C.cond (Opd.t 10) [] [C.exit 0],
            C.blk 1
              [C.op none (some 11) (O.iad 1 (Opd.t 7) (Opd.t 9)),
                C.op none (some 12) (O.ld (CK.int IntKind.i64) (Opd.t 11)), C.op none (some 6) (O.mv (Opd.t 12)),
                C.op none (some 13) (O.mv (Opd.t 0)), C.op none (some 14) (O.mv (Opd.t 6)),
                C.op none (some 15) (O.mx [Opd.t 14, Opd.c (AV.int IntKind.i64 0)]),
                C.op none (some 16) (O.cvi IntKind.u64 (Opd.t 15)),
                C.op none (some 17) (O.bsl 1 [AV.int IntKind.u64 0] 1 [(0, Opd.t 16)]),
                C.op none (some 18) (O.call 33 [Opd.t 13, Opd.t 17])],
            C.op none (some 19) (O.bin BinOp.add (Opd.t 9) (Opd.c (AV.int IntKind.i64 1))),
            C.op none (some 9) (O.mv (Opd.t 19))]],
    C.op none (some 20) (O.mv (Opd.t 0)), C.op none (some 4) (O.mv (Opd.t 20)), C.ret]
def r35 : List RV := [RV.t 4]
theorem c35_ok : cC Try.prog Try.f35.ntmps (Try.f35.body.getD .skip) = some c35 := by kernel_rfl

def c36 : List C :=
  [C.op none (some 4) (O.mv (Opd.c AV.nilptr)), C.op none (some 7) (O.mv (Opd.t 1)),
    C.op none (some 8) (O.len false (Opd.t 7)), C.op none (some 9) (O.mv (Opd.c (AV.int IntKind.i64 0))),
    C.blk 0
      [C.loop
          [C.op none (some 10) (O.bin BinOp.lss (Opd.t 9) (Opd.t 8)), C.cond (Opd.t 10) [] [C.exit 0],
            C.blk 1
              [C.op none (some 11) (O.iad 1 (Opd.t 7) (Opd.t 9)), C.op none (some 12) (O.ld CK.str (Opd.t 11)),
                C.op none (some 6) (O.mv (Opd.t 12)), C.op none (some 13) (O.mv (Opd.t 0)),
                C.op none (some 14) (O.mv (Opd.t 6)), C.op none (some 15) (O.len true (Opd.t 14)),
                C.op none (some 16) (O.bsl 1 [AV.int IntKind.i64 0] 1 [(0, Opd.t 15)]),
                C.op none (some 17) (O.call 35 [Opd.t 13, Opd.t 16]), C.op none (some 18) (O.mv (Opd.t 0)),
                C.op none (some 19) (O.mv (Opd.t 0)), C.op none (some 20) (O.nck (Opd.t 19)),
                C.op none (some 21) (O.fad 0 (Opd.t 20)), C.op none (some 22) (O.ld CK.any (Opd.t 21)),
                C.op none (some 23) (O.mv (Opd.t 6)), C.op none (some 24) (O.app 1 (Opd.t 22) (Opd.t 23)),
                C.op none (some 25) (O.nck (Opd.t 18)), C.op none (some 26) (O.fad 0 (Opd.t 25)),
                C.op none none (O.st 1 (Opd.t 26) (Opd.t 24))],
            C.op none (some 27) (O.bin BinOp.add (Opd.t 9) (Opd.c (AV.int IntKind.i64 1))),
            C.op none (some 9) (O.mv (Opd.t 27))]],
    C.op none (some 28) (O.mv (Opd.t 0)), C.op none (some 4) (O.mv (Opd.t 28)), C.ret]
def r36 : List RV := [RV.t 4]
theorem c36_ok : cC Try.prog Try.f36.ntmps (Try.f36.body.getD .skip) = some c36 := by kernel_rfl

def c37 : List C :=
  [C.op none (some 4) (O.mv (Opd.c AV.nilptr)), C.op none (some 5) (O.mv (Opd.t 0)),
    C.op none (some 6) (O.mv (Opd.t 0)), C.op none (some 7) (O.nck (Opd.t 6)), C.op none (some 8) (O.fad 0 (Opd.t 7)),
    C.op none (some 9) (O.ld CK.any (Opd.t 8)), C.op none (some 10) (O.mv (Opd.t 1)),
    C.op none (some 11) (O.app 1 (Opd.t 9) (Opd.t 10)), C.op none (some 12) (O.nck (Opd.t 5)),
    C.op none (some 13) (O.fad 0 (Opd.t 12)), C.op none none (O.st 1 (Opd.t 13) (Opd.t 11)),
    C.op none (some 14) (O.mv (Opd.t 0)), C.op none (some 4) (O.mv (Opd.t 14)), C.ret]
def r37 : List RV := [RV.t 4]
theorem c37_ok : cC Try.prog Try.f37.ntmps (Try.f37.body.getD .skip) = some c37 := by kernel_rfl

def c38 : List C :=
  [C.op none (some 2) (O.mv (Opd.c (AV.str []))), C.op none (some 3) (O.mv (Opd.t 0)),
    C.op none (some 4) (O.nck (Opd.t 3)), C.op none (some 5) (O.fad 0 (Opd.t 4)),
    C.op none (some 6) (O.ld CK.any (Opd.t 5)), C.op none (some 7) (O.cvb (Opd.t 6)),
    C.op none (some 2) (O.mv (Opd.t 7)), C.ret]
def r38 : List RV := [RV.t 2]
theorem c38_ok : cC Try.prog Try.f38.ntmps (Try.f38.body.getD .skip) = some c38 := by kernel_rfl

def c39 : List C :=
  [C.op none (some 2) (O.mv (Opd.c (AV.str []))), C.op none (some 3) (O.mv (Opd.t 0)),
    C.op none (some 4) (O.bin BinOp.geq (Opd.t 3) (Opd.c (AV.int IntKind.i64 0))),
    C.cond (Opd.t 4)
      [C.op none (some 5) (O.mv (Opd.t 0)), C.op none (some 6) (O.cvi IntKind.u64 (Opd.t 5)),
        C.op none (some 7) (O.bin BinOp.mul (Opd.c (AV.int IntKind.u64 2)) (Opd.t 6)),
        C.op none (some 8) (O.call 28 [Opd.t 7]), C.op none (some 2) (O.mv (Opd.t 8)), C.ret]
      [],
    C.op none (some 9) (O.mv (Opd.t 0)),
    C.op none (some 10) (O.bin BinOp.add (Opd.t 9) (Opd.c (AV.int IntKind.i64 1))),
    C.op none (some 11) (O.un UnOp.neg (Opd.t 10)), C.op none (some 12) (O.cvi IntKind.u64 (Opd.t 11)),
    C.op none (some 13) (O.bin BinOp.mul (Opd.c (AV.int IntKind.u64 2)) (Opd.t 12)),
    C.op none (some 14) (O.bin BinOp.add (Opd.t 13) (Opd.c (AV.int IntKind.u64 1))),
    C.op none (some 15) (O.call 28 [Opd.t 14]), C.op none (some 2) (O.mv (Opd.t 15)), C.ret]
def r39 : List RV := [RV.t 2]
theorem c39_ok : cC Try.prog Try.f39.ntmps (Try.f39.body.getD .skip) = some c39 := by kernel_rfl

def c40 : List C :=
  [C.op none (some 2) (O.mv (Opd.c (AV.str []))), C.op none (some 3) (O.mv (Opd.t 0)),
    C.op none (some 4) (O.mx [Opd.t 3, Opd.c (AV.int IntKind.i64 0)]),
    C.op none (some 5) (O.cvi IntKind.u64 (Opd.t 4)), C.op none (some 6) (O.call 28 [Opd.t 5]),
    C.op none (some 2) (O.mv (Opd.t 6)), C.ret]
def r40 : List RV := [RV.t 2]
theorem c40_ok : cC Try.prog Try.f40.ntmps (Try.f40.body.getD .skip) = some c40 := by kernel_rfl

def c41 : List C :=
  [C.op none (some 2) (O.mv (Opd.c (AV.str []))), C.op none (some 3) (O.mv (Opd.t 0)),
    C.op none (some 4) (O.len true (Opd.t 3)), C.op none (some 5) (O.cvi IntKind.u64 (Opd.t 4)),
    C.op none (some 6) (O.call 28 [Opd.t 5]), C.op none (some 7) (O.mv (Opd.t 0)),
    C.op none (some 8) (O.bin BinOp.add (Opd.t 6) (Opd.t 7)), C.op none (some 2) (O.mv (Opd.t 8)), C.ret]
def r41 : List RV := [RV.t 2]
theorem c41_ok : cC Try.prog Try.f41.ntmps (Try.f41.body.getD .skip) = some c41 := by kernel_rfl

def c42 : List C :=
  [C.op none (some 2) (O.mv (Opd.c (AV.int IntKind.i64 0))), C.op none (some 4) (O.mv (Opd.t 0)),
    C.op none (some 5) (O.call 26 [Opd.t 4]), C.op none (some 3) (O.mv (Opd.t 5)), C.op none (some 6) (O.mv (Opd.t 3)),
    C.op none (some 7) (O.bin BinOp.shr (Opd.t 6) (Opd.c (AV.int IntKind.u64 1))),
    C.op none (some 8) (O.cvi IntKind.i64 (Opd.t 7)), C.op none (some 9) (O.mv (Opd.t 3)),
    C.op none (some 10) (O.bin BinOp.and (Opd.t 9) (Opd.c (AV.int IntKind.u64 1))),
    C.op none (some 11) (O.cvi IntKind.i64 (Opd.t 10)), C.op none (some 12) (O.un UnOp.neg (Opd.t 11)),
    C.op none (some 13) (O.bin BinOp.xor (Opd.t 8) (Opd.t 12)), C.op none (some 2) (O.mv (Opd.t 13)), C.ret]
def r42 : List RV := [RV.t 2]
theorem c42_ok : cC Try.prog Try.f42.ntmps (Try.f42.body.getD .skip) = some c42 := by kernel_rfl

def c43 : List C :=
  [C.op none (some 4) (O.mv (Opd.c (AV.str []))), C.op none (some 5) (O.mv (Opd.t 0)),
    C.op none (some 6) (O.mv (Opd.t 0)), C.op none (some 7) (O.mv (Opd.t 1)),
    C.op none (some 8) (O.call 59 [Opd.t 6, Opd.t 7]), C.op none (some 9) (O.call 44 [Opd.t 5, Opd.t 8]),
    C.op none (some 4) (O.mv (Opd.t 9)), C.ret]
def r43 : List RV := [RV.t 4]
theorem c43_ok : cC Try.prog Try.f43.ntmps (Try.f43.body.getD .skip) = some c43 := by kernel_rfl

def c44 : List C :=
  [C.op none (some 4) (O.mv (Opd.c (AV.str []))),
    C.blk 0
      [C.op none (some 7) (O.mv (Opd.t 0)), C.op none (some 8) (O.nck (Opd.t 7)),
        C.op none (some 9) (O.fad 1 (Opd.t 8)), C.op none (some 10) (O.ld (CK.int IntKind.i64) (Opd.t 9)),
        C.op none (some 11) (O.bin BinOp.neq (Opd.t 10) (Opd.c (AV.int IntKind.i64 0))),
        C.op none (some 12) (O.mv (Opd.t 11)), C.op (some (12, false)) (some 13) (O.mv (Opd.t 1)),
        C.op (some (12, false)) (some 14) (O.bin BinOp.leq (Opd.t 13) (Opd.c (AV.int IntKind.i64 0))),
        C.op none (some 15) (O.pick (Opd.t 12) (Opd.c (AV.bool true)) (Opd.t 14)), C.op none (some 6) (O.mv (Opd.t 15)),
        C.cond (Opd.t 6) [C.op none (some 4) (O.mv (Opd.c (AV.str []))), C.ret]
          [C.op none (some 17) (O.mv (Opd.t 1)), C.op none (some 18) (O.mv (Opd.t 0)),
            C.op none (some 19) (O.nck (Opd.t 18)), C.op none (some 20) (O.fad 0 (Opd.t 19)),
            C.op none (some 21) (O.ld CK.str (Opd.t 20)), C.op none (some 22) (O.len true (Opd.t 21)),
            C.op none (some 23) (O.bin BinOp.gtr (Opd.t 17) (Opd.t 22)), C.op none (some 16) (O.mv (Opd.t 23)),
            C.cond (Opd.t 16)
              [C.op none (some 24) (O.mv (Opd.t 0)),
                C.op none (some 25) (O.call 56 [Opd.t 24, Opd.c (AV.int IntKind.i64 1)]),
                C.op none (some 4) (O.mv (Opd.c (AV.str []))), C.ret]
              []]],
    C.op none (some 26) (O.mv (Opd.t 0)), C.op none (some 27) (O.nck (Opd.t 26)),
    C.op none (some 28) (O.fad 0 (Opd.t 27)), C.op none (some 29) (O.ld CK.str (Opd.t 28)),
    C.op none (some 30) (O.mv (Opd.t 1)), C.op none (some 31) (O.ssl (Opd.t 29) none (some (Opd.t 30))),
    C.op none (some 5) (O.mv (Opd.t 31)), C.op none (some 32) (O.mv (Opd.t 0)), C.op none (some 33) (O.mv (Opd.t 0)),
    C.op none (some 34) (O.nck (Opd.t 33)), C.op none (some 35) (O.fad 0 (Opd.t 34)),
    C.op none (some 36) (O.ld CK.str (Opd.t 35)), C.op none (some 37) (O.mv (Opd.t 1)),
    C.op none (some 38) (O.ssl (Opd.t 36) (some (Opd.t 37)) none), C.op none (some 39) (O.nck (Opd.t 32)),
    C.op none (some 40) (O.fad 0 (Opd.t 39)), C.op none none (O.st 1 (Opd.t 40) (Opd.t 38)),
    C.op none (some 41) (O.mv (Opd.t 5)), C.op none (some 4) (O.mv (Opd.t 41)), C.ret]
def r44 : List RV := [RV.t 4]
theorem c44_ok : cC Try.prog Try.f44.ntmps (Try.f44.body.getD .skip) = some c44 := by kernel_rfl

def d45_0 : List It :=
  [(none, some 19, O.fad 0 (Opd.t 1), []), (none, some 20, O.ld CK.any (Opd.t 19), [0]),
                    (none, some 21, O.mv (Opd.t 4), []), (none, some 22, O.iad 3 (Opd.t 20) (Opd.t 21), [1, 2]),
                    (none, some 23, O.fad 0 (Opd.t 22), [3]),
                    (none, some 24, O.ld (CK.int IntKind.i64) (Opd.t 23), [4]),
                    (none, some 25, O.bin BinOp.and (Opd.t 24) (Opd.c (AV.int IntKind.i64 15)), [5]),
                    (none, some 26, O.fad 0 (Opd.t 1), []), (none, some 27, O.ld CK.any (Opd.t 26), [7]),
                    (none, some 28, O.mv (Opd.t 4), []), (none, some 29, O.iad 3 (Opd.t 27) (Opd.t 28), [8, 9]),
                    (none, some 30, O.fad 1 (Opd.t 29), [10]),
                    (none, some 31, O.ld (CK.int IntKind.i64) (Opd.t 30), [11]),
                    (none, some 32, O.bin BinOp.and (Opd.t 31) (Opd.c (AV.int IntKind.i64 15)), [12]),
                    (none, some 33,
                      O.build [AV.int IntKind.i64 0, AV.int IntKind.i64 0, AV.nilsl]
                        [(0, 1, Opd.t 25), (1, 1, Opd.t 32)],
                      [6, 13]),
                    (none, some 5,
                      O.alloc [AV.int IntKind.i64 0, AV.int IntKind.i64 0, AV.nilsl], []),
                    (none, none, O.st 3 (Opd.t 5) (Opd.t 33),
                      [15, 14, 0, 1, 2, 3, 4, 5, 6, 7, 8, 9, 10, 11, 12, 13, 14, 15])]
def o45_0 : List (Nat × Bool) := [(0, false), (1, false), (2, false), (3, false), (4, false), (5, false), (6, false), (7, false), (8, false), (9, false), (10, false), (11, false), (12, false), (13, false), (14, false), (15, true), (16, true)]
def l45_0 : List (Nat × Bool × It) :=
  [(0, false, (none, some 19, O.fad 0 (Opd.t 1), [])),
   (1, false, (none, some 20, O.ld CK.any (Opd.t 19), [0])),
   (2, false, (none, some 21, O.mv (Opd.t 4), [])),
   (3, false, (none, some 22, O.iad 3 (Opd.t 20) (Opd.t 21), [1, 2])),
   (4, false, (none, some 23, O.fad 0 (Opd.t 22), [3])),
   (5, false, (none, some 24, O.ld (CK.int IntKind.i64) (Opd.t 23), [4])),
   (6, false, (none, some 25, O.bin BinOp.and (Opd.t 24) (Opd.c (AV.int IntKind.i64 15)), [5])),
   (7, false, (none, some 26, O.fad 0 (Opd.t 1), [])),
   (8, false, (none, some 27, O.ld CK.any (Opd.t 26), [7])),
   (9, false, (none, some 28, O.mv (Opd.t 4), [])),
   (10, false, (none, some 29, O.iad 3 (Opd.t 27) (Opd.t 28), [8, 9])),
   (11, false, (none, some 30, O.fad 1 (Opd.t 29), [10])),
   (12, false, (none, some 31, O.ld (CK.int IntKind.i64) (Opd.t 30), [11])),
   (13, false, (none, some 32, O.bin BinOp.and (Opd.t 31) (Opd.c (AV.int IntKind.i64 15)), [12])),
   (14, false, (none, some 33,
                      O.build [AV.int IntKind.i64 0, AV.int IntKind.i64 0, AV.nilsl]
                        [(0, 1, Opd.t 25), (1, 1, Opd.t 32)],
                      [6, 13])),
   (15, true, (none, some 5,
                      O.alloc [AV.int IntKind.i64 0, AV.int IntKind.i64 0, AV.nilsl], [])),
   (16, true, (none, none, O.st 3 (Opd.t 5) (Opd.t 33),
                      [15, 14, 0, 1, 2, 3, 4, 5, 6, 7, 8, 9, 10, 11, 12, 13, 14, 15]))]
theorem l45_0_ok : okDraw d45_0 o45_0 = true ∧ mkL d45_0 o45_0 = some l45_0 := ⟨by kernel_rfl, by kernel_rfl⟩

def c45 : List C :=
  [C.op none (some 1) (O.box (Opd.t 0)), C.op none (some 2) (O.alloc [AV.nilsl]),
    C.op none (some 3) (O.alloc [AV.nilsl]), C.op none (some 4) (O.mv (Opd.c (AV.int IntKind.i64 0))),
    C.blk 0
      [C.loop
          [C.op none (some 8) (O.mv (Opd.t 4)), C.op none (some 9) (O.fad 0 (Opd.t 1)),
            C.op none (some 10) (O.ld CK.any (Opd.t 9)), C.op none (some 11) (O.len false (Opd.t 10)),
            C.op none (some 12) (O.bin BinOp.lss (Opd.t 8) (Opd.t 11)), C.op none (some 13) (O.mv (Opd.t 12)),
            C.op (some (13, true)) (some 14) (O.mv (Opd.t 4)),
            C.op (some (13, true)) (some 15) (O.bin BinOp.lss (Opd.t 14) (Opd.c (AV.int IntKind.i64 6))),
            C.op none (some 16) (O.pick (Opd.t 13) (Opd.t 15) (Opd.c (AV.bool false))), C.cond (Opd.t 16) [] [C.exit 0],
            C.blk 1
              [C.draw d45_0,
                C.op none (some 6) (O.mv (Opd.c (AV.int IntKind.i64 0))),
                C.blk 2
                  [C.loop
                      [C.op none (some 34) (O.mv (Opd.t 6)), C.op none (some 35) (O.fad 0 (Opd.t 1)),
                        C.op none (some 36) (O.ld CK.any (Opd.t 35)), C.op none (some 37) (O.mv (Opd.t 4)),
                        C.op none (some 38) (O.iad 3 (Opd.t 36) (Opd.t 37)), C.op none (some 39) (O.fad 2 (Opd.t 38)),
                        C.op none (some 40) (O.ld CK.any (Opd.t 39)), C.op none (some 41) (O.len false (Opd.t 40)),
                        C.op none (some 42) (O.bin BinOp.lss (Opd.t 34) (Opd.t 41)),
                        C.op none (some 43) (O.mv (Opd.t 42)), C.op (some (43, true)) (some 44) (O.mv (Opd.t 6)),
                        C.op (some (43, true)) (some 45)
                          (O.bin BinOp.lss (Opd.t 44) (Opd.c (AV.int IntKind.i64 40))),
                        C.op none (some 46) (O.pick (Opd.t 43) (Opd.t 45) (Opd.c (AV.bool false))),
                        C.cond (Opd.t 46) [] [C.exit 2],
                        C.blk 3
                          [C.op none (some 49) (O.fad 0 (Opd.t 1)), C.op none (some 50) (O.ld CK.any (Opd.t 49)),
                            C.op none (some 51) (O.mv (Opd.t 4)), C.op none (some 52) (O.iad 3 (Opd.t 50) (Opd.t 51)),
                            C.op none (some 53) (O.fad 2 (Opd.t 52)), C.op none (some 54) (O.ld CK.any (Opd.t 53)),
                            C.op none (some 55) (O.mv (Opd.t 6)), C.op none (some 56) (O.iad 2 (Opd.t 54) (Opd.t 55)),
                            C.op none (some 57) (O.ldn [CK.int IntKind.u8, CK.int IntKind.i64] (Opd.t 56)),
                            C.op none (some 7)
                              (O.alloc [AV.int IntKind.u8 0, AV.int IntKind.i64 0]),
                            C.op none none (O.st 2 (Opd.t 7) (Opd.t 57)), C.op none (some 58) (O.fad 0 (Opd.t 7)),
                            C.op none (some 59) (O.ld (CK.int IntKind.u8) (Opd.t 58)),
                            C.op none (some 60) (O.bin BinOp.rem (Opd.t 59) (Opd.c (AV.int IntKind.u8 22))),
                            C.op none (some 61) (O.bin BinOp.add (Opd.c (AV.int IntKind.u8 1)) (Opd.t 60)),
                            C.op none (some 62) (O.fad 0 (Opd.t 7)), C.op none none (O.st 1 (Opd.t 62) (Opd.t 61)),
                            C.op none (some 63) (O.fad 0 (Opd.t 7)),
                            C.op none (some 64) (O.ld (CK.int IntKind.u8) (Opd.t 63)),
                            C.op none (some 65) (O.cvi IntKind.i64 (Opd.t 64)),
                            C.op none (some 66) (O.call 16 [Opd.t 65]), C.op none (some 67) (O.un UnOp.not (Opd.t 66)),
                            C.cond (Opd.t 67)
                              [C.op none (some 68) (O.fad 1 (Opd.t 7)),
                                C.op none none (O.st 1 (Opd.t 68) (Opd.c (AV.int IntKind.i64 0)))]
                              [],
                            C.op none (some 69) (O.fad 2 (Opd.t 5)), C.op none (some 70) (O.ld CK.any (Opd.t 69)),
                            C.op none (some 71) (O.ldn [CK.int IntKind.u8, CK.int IntKind.i64] (Opd.t 7)),
                            C.op none (some 72)
                              (O.bsl 2 [AV.int IntKind.u8 0, AV.int IntKind.i64 0] 1
                                [(0, Opd.t 71)]),
                            C.op none (some 73) (O.app 2 (Opd.t 70) (Opd.t 72)),
                            C.op none (some 74) (O.fad 2 (Opd.t 5)), C.op none none (O.st 1 (Opd.t 74) (Opd.t 73))],
                        C.op none (some 47) (O.mv (Opd.t 6)),
                        C.op none (some 48) (O.bin BinOp.add (Opd.t 47) (Opd.c (AV.int IntKind.i64 1))),
                        C.op none (some 6) (O.mv (Opd.t 48))]],
                C.op none (some 75) (O.fad 0 (Opd.t 3)), C.op none (some 76) (O.ld CK.any (Opd.t 75)),
                C.op none (some 77) (O.ldn [CK.int IntKind.i64, CK.int IntKind.i64, CK.any] (Opd.t 5)),
                C.op none (some 78)
                  (O.bsl 3 [AV.int IntKind.i64 0, AV.int IntKind.i64 0, AV.nilsl] 1
                    [(0, Opd.t 77)]),
                C.op none (some 79) (O.app 3 (Opd.t 76) (Opd.t 78)), C.op none (some 80) (O.fad 0 (Opd.t 3)),
                C.op none none (O.st 1 (Opd.t 80) (Opd.t 79))],
            C.op none (some 17) (O.mv (Opd.t 4)),
            C.op none (some 18) (O.bin BinOp.add (Opd.t 17) (Opd.c (AV.int IntKind.i64 1))),
            C.op none (some 4) (O.mv (Opd.t 18))]],
    C.op none (some 81) (O.ldn [CK.any] (Opd.t 3)), C.op none none (O.st 1 (Opd.t 2) (Opd.t 81)), C.ret]
def r45 : List RV := [RV.cn 2 1]
theorem c45_ok : cC Try.prog Try.f45.ntmps (Try.f45.body.getD .skip) = some c45 := by kernel_rfl

def d46_0 : List It :=
  [(none, some 39, O.fad 2 (Opd.t 7), []), (none, some 40, O.ld CK.any (Opd.t 39), [0]),
                                (none, some 41, O.mv (Opd.t 4), []), (none, some 42, O.call 64 [Opd.t 41], [2]),
                                (none, some 43,
                                  O.bsl 2 [AV.int IntKind.u8 0, AV.int IntKind.i64 0] 1
                                    [(0, Opd.t 42)],
                                  [3]),
                                (none, some 44, O.app 2 (Opd.t 40) (Opd.t 43), [1, 4, 3]),
                                (none, some 45, O.fad 2 (Opd.t 7), [0, 1, 2, 3, 4, 5]),
                                (none, none, O.st 1 (Opd.t 45) (Opd.t 44), [6, 5, 5, 0, 1, 2, 3, 4, 5])]
def o46_0 : List (Nat × Bool) := [(0, false), (1, false), (2, false), (3, true), (4, false), (5, true), (6, false), (7, true)]
def l46_0 : List (Nat × Bool × It) :=
  [(0, false, (none, some 39, O.fad 2 (Opd.t 7), [])),
   (1, false, (none, some 40, O.ld CK.any (Opd.t 39), [0])),
   (2, false, (none, some 41, O.mv (Opd.t 4), [])),
   (3, true, (none, some 42, O.call 64 [Opd.t 41], [2])),
   (4, false, (none, some 43,
                                  O.bsl 2 [AV.int IntKind.u8 0, AV.int IntKind.i64 0] 1
                                    [(0, Opd.t 42)],
                                  [3])),
   (5, true, (none, some 44, O.app 2 (Opd.t 40) (Opd.t 43), [1, 4, 3])),
   (6, false, (none, some 45, O.fad 2 (Opd.t 7), [0, 1, 2, 3, 4, 5])),
   (7, true, (none, none, O.st 1 (Opd.t 45) (Opd.t 44), [6, 5, 5, 0, 1, 2, 3, 4, 5]))]
theorem l46_0_ok : okDraw d46_0 o46_0 = true ∧ mkL d46_0 o46_0 = some l46_0 := ⟨by kernel_rfl, by kernel_rfl⟩

def c46 : List C :=
  [C.op none (some 2) (O.alloc [AV.nilsl]), C.op none (some 3) (O.mv (Opd.c (AV.int IntKind.i64 0))),
    C.op none (some 10) (O.mv (Opd.t 0)), C.op none (some 11) (O.call 25 [Opd.t 10]),
    C.op none (some 4) (O.mv (Opd.t 11)), C.op none (some 5) (O.alloc [AV.nilsl]), C.op none (some 12) (O.mv (Opd.t 4)),
    C.op none (some 13) (O.call 59 [Opd.t 12, Opd.c (AV.int IntKind.i64 16)]),
    C.op none (some 6) (O.mv (Opd.t 13)),
    C.blk 0
      [C.loop
          [C.op none (some 14) (O.mv (Opd.t 6)),
            C.op none (some 15) (O.bin BinOp.gtr (Opd.t 14) (Opd.c (AV.int IntKind.i64 0))),
            C.op none (some 16) (O.mv (Opd.t 15)), C.op (some (16, true)) (some 17) (O.mv (Opd.t 4)),
            C.op (some (16, true)) (some 18) (O.call 27 [Opd.t 17]),
            C.op (some (16, true)) (some 19) (O.bin BinOp.eql (Opd.t 18) (Opd.c (AV.int IntKind.i64 0))),
            C.op none (some 20) (O.pick (Opd.t 16) (Opd.t 19) (Opd.c (AV.bool false))), C.cond (Opd.t 20) [] [C.exit 0],
            C.blk 1
              [C.op none (some 23) (O.mv (Opd.t 4)),
                C.op none (some 24) (O.call 59 [Opd.t 23, Opd.c (AV.int IntKind.i64 16)]),
                C.op none (some 25) (O.mv (Opd.t 4)),
                C.op none (some 26) (O.call 59 [Opd.t 25, Opd.c (AV.int IntKind.i64 16)]),
                C.op none (some 27)
                  (O.build [AV.int IntKind.i64 0, AV.int IntKind.i64 0, AV.nilsl]
                    [(0, 1, Opd.t 24), (1, 1, Opd.t 26)]),
                C.op none (some 7)
                  (O.alloc [AV.int IntKind.i64 0, AV.int IntKind.i64 0, AV.nilsl]),
                C.op none none (O.st 3 (Opd.t 7) (Opd.t 27)), C.op none (some 28) (O.mv (Opd.t 4)),
                C.op none (some 29) (O.call 59 [Opd.t 28, Opd.c (AV.int IntKind.i64 128)]),
                C.op none (some 8) (O.mv (Opd.t 29)),
                C.blk 2
                  [C.loop
                      [C.op none (some 30) (O.mv (Opd.t 8)),
                        C.op none (some 31) (O.bin BinOp.gtr (Opd.t 30) (Opd.c (AV.int IntKind.i64 0))),
                        C.op none (some 32) (O.mv (Opd.t 31)), C.op (some (32, true)) (some 33) (O.mv (Opd.t 4)),
                        C.op (some (32, true)) (some 34) (O.call 27 [Opd.t 33]),
                        C.op (some (32, true)) (some 35)
                          (O.bin BinOp.eql (Opd.t 34) (Opd.c (AV.int IntKind.i64 0))),
                        C.op none (some 36) (O.pick (Opd.t 32) (Opd.t 35) (Opd.c (AV.bool false))),
                        C.cond (Opd.t 36) [] [C.exit 2],
                        C.blk 3
                          [C.draw d46_0],
                        C.op none (some 37) (O.mv (Opd.t 8)),
                        C.op none (some 38) (O.bin BinOp.sub (Opd.t 37) (Opd.c (AV.int IntKind.i64 1))),
                        C.op none (some 8) (O.mv (Opd.t 38))]],
                C.op none (some 46) (O.fad 0 (Opd.t 5)), C.op none (some 47) (O.ld CK.any (Opd.t 46)),
                C.op none (some 48) (O.ldn [CK.int IntKind.i64, CK.int IntKind.i64, CK.any] (Opd.t 7)),
                C.op none (some 49)
                  (O.bsl 3 [AV.int IntKind.i64 0, AV.int IntKind.i64 0, AV.nilsl] 1
                    [(0, Opd.t 48)]),
                C.op none (some 50) (O.app 3 (Opd.t 47) (Opd.t 49)), C.op none (some 51) (O.fad 0 (Opd.t 5)),
                C.op none none (O.st 1 (Opd.t 51) (Opd.t 50))],
            C.op none (some 21) (O.mv (Opd.t 6)),
            C.op none (some 22) (O.bin BinOp.sub (Opd.t 21) (Opd.c (AV.int IntKind.i64 1))),
            C.op none (some 6) (O.mv (Opd.t 22))]],
    C.op none (some 52) (O.mv (Opd.t 4)), C.op none (some 53) (O.call 31 [Opd.t 52]),
    C.op none (some 9) (O.mv (Opd.t 53)), C.op none (some 54) (O.mv (Opd.t 9)),
    C.op none (some 55) (O.bin BinOp.neq (Opd.t 54) (Opd.c (AV.int IntKind.i64 0))),
    C.cond (Opd.t 55)
      [C.op none (some 56) (O.build [AV.nilsl] []), C.op none (some 57) (O.mv (Opd.t 9)),
        C.op none none (O.st 1 (Opd.t 2) (Opd.t 56)), C.op none (some 3) (O.mv (Opd.t 57)), C.ret]
      [],
    C.op none (some 58) (O.ldn [CK.any] (Opd.t 5)), C.op none none (O.st 1 (Opd.t 2) (Opd.t 58)),
    C.op none (some 3) (O.mv (Opd.c (AV.int IntKind.i64 0))), C.ret]
def r46 : List RV := [RV.cn 2 1, RV.t 3]
theorem c46_ok : cC Try.prog Try.f46.ntmps (Try.f46.body.getD .skip) = some c46 := by kernel_rfl

def c47 : List C :=
  [C.op none (some 1) (O.box (Opd.t 0)), C.op none (some 2) (O.mv (Opd.c (AV.str []))),
    C.op none (some 3) (O.alloc [AV.nilsl]), C.op none (some 8) (O.fad 0 (Opd.t 1)),
    C.op none (some 9) (O.ld CK.any (Opd.t 8)), C.op none (some 10) (O.len false (Opd.t 9)),
    C.op none (some 11) (O.bsl 1 [AV.int IntKind.i64 0] 1 [(0, Opd.t 10)]),
    C.op none (some 12) (O.call 35 [Opd.t 3, Opd.t 11]), C.op none (some 13) (O.fad 0 (Opd.t 1)),
    C.op none (some 14) (O.ld CK.any (Opd.t 13)), C.op none (some 15) (O.len false (Opd.t 14)),
    C.op none (some 16) (O.mv (Opd.c (AV.int IntKind.i64 0))),
    C.blk 0
      [C.loop
          [C.op none (some 17) (O.bin BinOp.lss (Opd.t 16) (Opd.t 15)), C.cond (Opd.t 17) [] [C.exit 0],
            C.blk 1
              [C.op none (some 18) (O.iad 3 (Opd.t 14) (Opd.t 16)),
                C.op none (some 19) (O.ldn [CK.int IntKind.i64, CK.int IntKind.i64, CK.any] (Opd.t 18)),
                C.op none (some 5)
                  (O.alloc [AV.int IntKind.i64 0, AV.int IntKind.i64 0, AV.nilsl]),
                C.op none none (O.st 3 (Opd.t 5) (Opd.t 19)), C.op none (some 20) (O.fad 0 (Opd.t 5)),
                C.op none (some 21) (O.ld (CK.int IntKind.i64) (Opd.t 20)), C.op none (some 22) (O.fad 1 (Opd.t 5)),
                C.op none (some 23) (O.ld (CK.int IntKind.i64) (Opd.t 22)), C.op none (some 24) (O.fad 2 (Opd.t 5)),
                C.op none (some 25) (O.ld CK.any (Opd.t 24)), C.op none (some 26) (O.len false (Opd.t 25)),
                C.op none (some 27)
                  (O.bsl 1 [AV.int IntKind.i64 0] 3 [(0, Opd.t 21), (1, Opd.t 23), (2, Opd.t 26)]),
                C.op none (some 28) (O.call 35 [Opd.t 3, Opd.t 27]), C.op none (some 29) (O.fad 2 (Opd.t 5)),
                C.op none (some 30) (O.ld CK.any (Opd.t 29)), C.op none (some 31) (O.len false (Opd.t 30)),
                C.op none (some 32) (O.mv (Opd.c (AV.int IntKind.i64 0))),
                C.blk 2
                  [C.loop
                      [C.op none (some 33) (O.bin BinOp.lss (Opd.t 32) (Opd.t 31)), C.cond (Opd.t 33) [] [C.exit 2],
                        C.blk 3
                          [C.op none (some 34) (O.iad 2 (Opd.t 30) (Opd.t 32)),
                            C.op none (some 35) (O.ldn [CK.int IntKind.u8, CK.int IntKind.i64] (Opd.t 34)),
                            C.op none (some 7)
                              (O.alloc [AV.int IntKind.u8 0, AV.int IntKind.i64 0]),
                            C.op none none (O.st 2 (Opd.t 7) (Opd.t 35)), C.op none (some 36) (O.fad 0 (Opd.t 7)),
                            C.op none (some 37) (O.ld (CK.int IntKind.u8) (Opd.t 36)),
                            C.op none (some 38) (O.cvi IntKind.u64 (Opd.t 37)),
                            C.op none (some 39) (O.bsl 1 [AV.int IntKind.u64 0] 1 [(0, Opd.t 38)]),
                            C.op none (some 40) (O.call 33 [Opd.t 3, Opd.t 39]),
                            C.op none (some 41) (O.fad 0 (Opd.t 7)),
                            C.op none (some 42) (O.ld (CK.int IntKind.u8) (Opd.t 41)),
                            C.op none (some 43) (O.call 15 [Opd.t 42]),
                            C.cond (Opd.t 43)
                              [C.op none (some 44) (O.fad 1 (Opd.t 7)),
                                C.op none (some 45) (O.ld (CK.int IntKind.i64) (Opd.t 44)),
                                C.op none (some 46) (O.bsl 1 [AV.int IntKind.i64 0] 1 [(0, Opd.t 45)]),
                                C.op none (some 47) (O.call 34 [Opd.t 3, Opd.t 46])]
                              []],
                        C.op none (some 48) (O.bin BinOp.add (Opd.t 32) (Opd.c (AV.int IntKind.i64 1))),
                        C.op none (some 32) (O.mv (Opd.t 48))]]],
            C.op none (some 49) (O.bin BinOp.add (Opd.t 16) (Opd.c (AV.int IntKind.i64 1))),
            C.op none (some 16) (O.mv (Opd.t 49))]],
    C.op none (some 50) (O.call 38 [Opd.t 3]), C.op none (some 2) (O.mv (Opd.t 50)), C.ret]
def r47 : List RV := [RV.t 2]
theorem c47_ok : cC Try.prog Try.f47.ntmps (Try.f47.body.getD .skip) = some c47 := by kernel_rfl

def d48_0 : List It :=
  [(none, some 17, O.mv (Opd.t 3), []), (none, some 18, O.fad 0 (Opd.t 5), []),
                    (none, some 19, O.ld (CK.int IntKind.i64) (Opd.t 18), [1]),
                    (none, some 20, O.call 40 [Opd.t 19], [2]), (none, some 21, O.fad 1 (Opd.t 5), []),
                    (none, some 22, O.ld (CK.int IntKind.i64) (Opd.t 21), [4]),
                    (none, some 23, O.call 40 [Opd.t 22], [5, 3]),
                    (none, some 24, O.bin BinOp.add (Opd.t 20) (Opd.t 23), [3, 6]),
                    (none, some 25, O.fad 2 (Opd.t 5), []), (none, some 26, O.ld CK.any (Opd.t 25), [8]),
                    (none, some 27, O.len false (Opd.t 26), [9]), (none, some 28, O.call 40 [Opd.t 27], [10, 6]),
                    (none, some 29, O.bin BinOp.add (Opd.t 24) (Opd.t 28), [7, 11]),
                    (none, some 30, O.bin BinOp.add (Opd.t 17) (Opd.t 29), [0, 12]),
                    (none, some 3, O.mv (Opd.t 30), [13, 11, 0, 1, 2, 3, 4, 5, 6, 7, 8, 9, 10, 11, 12, 13])]
def o48_0 : List (Nat × Bool) := [(0, false), (1, false), (2, false), (4, false), (5, false), (8, false), (9, false), (10, false), (3, true), (6, true), (7, false), (11, true), (12, false), (13, false), (14, true)]
def l48_0 : List (Nat × Bool × It) :=
  [(0, false, (none, some 17, O.mv (Opd.t 3), [])),
   (1, false, (none, some 18, O.fad 0 (Opd.t 5), [])),
   (2, false, (none, some 19, O.ld (CK.int IntKind.i64) (Opd.t 18), [1])),
   (4, false, (none, some 21, O.fad 1 (Opd.t 5), [])),
   (5, false, (none, some 22, O.ld (CK.int IntKind.i64) (Opd.t 21), [4])),
   (8, false, (none, some 25, O.fad 2 (Opd.t 5), [])),
   (9, false, (none, some 26, O.ld CK.any (Opd.t 25), [8])),
   (10, false, (none, some 27, O.len false (Opd.t 26), [9])),
   (3, true, (none, some 20, O.call 40 [Opd.t 19], [2])),
   (6, true, (none, some 23, O.call 40 [Opd.t 22], [5, 3])),
   (7, false, (none, some 24, O.bin BinOp.add (Opd.t 20) (Opd.t 23), [3, 6])),
   (11, true, (none, some 28, O.call 40 [Opd.t 27], [10, 6])),
   (12, false, (none, some 29, O.bin BinOp.add (Opd.t 24) (Opd.t 28), [7, 11])),
   (13, false, (none, some 30, O.bin BinOp.add (Opd.t 17) (Opd.t 29), [0, 12])),
   (14, true, (none, some 3, O.mv (Opd.t 30), [13, 11, 0, 1, 2, 3, 4, 5, 6, 7, 8, 9, 10, 11, 12, 13]))]
theorem l48_0_ok : okDraw d48_0 o48_0 = true ∧ mkL d48_0 o48_0 = some l48_0 := ⟨by kernel_rfl, by kernel_rfl⟩

def c48 : List C :=
  [C.op none (some 2) (O.mv (Opd.c (AV.str []))), C.op none (some 8) (O.mv (Opd.t 0)),
    C.op none (some 9) (O.len false (Opd.t 8)), C.op none (some 10) (O.call 40 [Opd.t 9]),
    C.op none (some 3) (O.mv (Opd.t 10)), C.op none (some 11) (O.mv (Opd.t 0)),
    C.op none (some 12) (O.len false (Opd.t 11)), C.op none (some 13) (O.mv (Opd.c (AV.int IntKind.i64 0))),
    C.blk 0
      [C.loop
          [C.op none (some 14) (O.bin BinOp.lss (Opd.t 13) (Opd.t 12)), C.cond (Opd.t 14) [] [C.exit 0],
            C.blk 1
              [C.op none (some 15) (O.iad 3 (Opd.t 11) (Opd.t 13)),
                C.op none (some 16) (O.ldn [CK.int IntKind.i64, CK.int IntKind.i64, CK.any] (Opd.t 15)),
                C.op none (some 5)
                  (O.alloc [AV.int IntKind.i64 0, AV.int IntKind.i64 0, AV.nilsl]),
                C.op none none (O.st 3 (Opd.t 5) (Opd.t 16)),
                C.draw d48_0,
                C.op none (some 31) (O.fad 2 (Opd.t 5)), C.op none (some 32) (O.ld CK.any (Opd.t 31)),
                C.op none (some 33) (O.len false (Opd.t 32)),
                C.op none (some 34) (O.mv (Opd.c (AV.int IntKind.i64 0))),
                C.blk 2
                  [C.loop
                      [C.op none (some 35) (O.bin BinOp.lss (Opd.t 34) (Opd.t 33)), C.cond (Opd.t 35) [] [C.exit 2],
                        C.blk 3
                          [C.op none (some 36) (O.iad 2 (Opd.t 32) (Opd.t 34)),
                            C.op none (some 37) (O.ldn [CK.int IntKind.i64, CK.int IntKind.i64] (Opd.t 36)),
                            C.op none (some 7)
                              (O.alloc [AV.int IntKind.i64 0, AV.int IntKind.i64 0]),
                            C.op none none (O.st 2 (Opd.t 7) (Opd.t 37)), C.op none (some 38) (O.mv (Opd.t 3)),
                            C.op none (some 39) (O.fad 0 (Opd.t 7)),
                            C.op none (some 40) (O.ld (CK.int IntKind.i64) (Opd.t 39)),
                            C.op none (some 41) (O.cvi IntKind.u64 (Opd.t 40)),
                            C.op none (some 42) (O.call 28 [Opd.t 41]),
                            C.op none (some 43) (O.bin BinOp.add (Opd.t 38) (Opd.t 42)),
                            C.op none (some 3) (O.mv (Opd.t 43)), C.op none (some 44) (O.fad 0 (Opd.t 7)),
                            C.op none (some 45) (O.ld (CK.int IntKind.i64) (Opd.t 44)),
                            C.op none (some 46) (O.call 16 [Opd.t 45]),
                            C.cond (Opd.t 46)
                              [C.op none (some 47) (O.mv (Opd.t 3)), C.op none (some 48) (O.fad 1 (Opd.t 7)),
                                C.op none (some 49) (O.ld (CK.int IntKind.i64) (Opd.t 48)),
                                C.op none (some 50) (O.call 39 [Opd.t 49]),
                                C.op none (some 51) (O.bin BinOp.add (Opd.t 47) (Opd.t 50)),
                                C.op none (some 3) (O.mv (Opd.t 51))]
                              []],
                        C.op none (some 52) (O.bin BinOp.add (Opd.t 34) (Opd.c (AV.int IntKind.i64 1))),
                        C.op none (some 34) (O.mv (Opd.t 52))]]],
            C.op none (some 53) (O.bin BinOp.add (Opd.t 13) (Opd.c (AV.int IntKind.i64 1))),
            C.op none (some 13) (O.mv (Opd.t 53))]],
    C.op none (some 54) (O.mv (Opd.t 3)), C.op none (some 2) (O.mv (Opd.t 54)), C.ret]
def r48 : List RV := [RV.t 2]
theorem c48_ok : cC Try.prog Try.f48.ntmps (Try.f48.body.getD .skip) = some c48 := by kernel_rfl

def c49 : List C :=
  [C.op none (some 1) (O.box (Opd.t 0)), C.op none (some 2) (O.mv (Opd.c AV.nilsl)),
    C.op none (some 9) (O.bsl 3 [AV.int IntKind.i64 0, AV.int IntKind.i64 0, AV.nilsl] 0 []),
    C.op none (some 3) (O.mv (Opd.t 9)), C.op none (some 10) (O.fad 0 (Opd.t 1)),
    C.op none (some 11) (O.ld CK.any (Opd.t 10)), C.op none (some 12) (O.len false (Opd.t 11)),
    C.op none (some 13) (O.mv (Opd.c (AV.int IntKind.i64 0))),
    C.blk 0
      [C.loop
          [C.op none (some 14) (O.bin BinOp.lss (Opd.t 13) (Opd.t 12)), C.cond (Opd.t 14) [] [C.exit 0],
            C.blk 1
              [C.op none (some 15) (O.iad 3 (Opd.t 11) (Opd.t 13)),
                C.op none (some 16) (O.ldn [CK.int IntKind.i64, CK.int IntKind.i64, CK.any] (Opd.t 15)),
                C.op none (some 5)
                  (O.alloc [AV.int IntKind.i64 0, AV.int IntKind.i64 0, AV.nilsl]),
                C.op none none (O.st 3 (Opd.t 5) (Opd.t 16)), C.op none (some 17) (O.fad 0 (Opd.t 5)),
                C.op none (some 18) (O.ld (CK.int IntKind.i64) (Opd.t 17)), C.op none (some 19) (O.fad 1 (Opd.t 5)),
                C.op none (some 20) (O.ld (CK.int IntKind.i64) (Opd.t 19)),
                C.op none (some 21)
                  (O.build [AV.int IntKind.i64 0, AV.int IntKind.i64 0, AV.nilsl]
                    [(0, 1, Opd.t 18), (1, 1, Opd.t 20)]),
                C.op none (some 6)
                  (O.alloc [AV.int IntKind.i64 0, AV.int IntKind.i64 0, AV.nilsl]),
                C.op none none (O.st 3 (Opd.t 6) (Opd.t 21)), C.op none (some 22) (O.fad 2 (Opd.t 5)),
                C.op none (some 23) (O.ld CK.any (Opd.t 22)), C.op none (some 24) (O.len false (Opd.t 23)),
                C.op none (some 25) (O.mv (Opd.c (AV.int IntKind.i64 0))),
                C.blk 2
                  [C.loop
                      [C.op none (some 26) (O.bin BinOp.lss (Opd.t 25) (Opd.t 24)), C.cond (Opd.t 26) [] [C.exit 2],
                        C.blk 3
                          [C.op none (some 27) (O.iad 2 (Opd.t 23) (Opd.t 25)),
                            C.op none (some 28) (O.ldn [CK.int IntKind.u8, CK.int IntKind.i64] (Opd.t 27)),
                            C.op none (some 8)
                              (O.alloc [AV.int IntKind.u8 0, AV.int IntKind.i64 0]),
                            C.op none none (O.st 2 (Opd.t 8) (Opd.t 28)), C.op none (some 29) (O.fad 2 (Opd.t 6)),
                            C.op none (some 30) (O.ld CK.any (Opd.t 29)), C.op none (some 31) (O.fad 0 (Opd.t 8)),
                            C.op none (some 32) (O.ld (CK.int IntKind.u8) (Opd.t 31)),
                            C.op none (some 33) (O.cvi IntKind.i64 (Opd.t 32)), C.op none (some 34) (O.fad 1 (Opd.t 8)),
                            C.op none (some 35) (O.ld (CK.int IntKind.i64) (Opd.t 34)),
                            C.op none (some 36)
                              (O.build [AV.int IntKind.i64 0, AV.int IntKind.i64 0]
                                [(0, 1, Opd.t 33), (1, 1, Opd.t 35)]),
                            C.op none (some 37)
                              (O.bsl 2 [AV.int IntKind.i64 0, AV.int IntKind.i64 0] 1
                                [(0, Opd.t 36)]),
                            C.op none (some 38) (O.app 2 (Opd.t 30) (Opd.t 37)),
                            C.op none (some 39) (O.fad 2 (Opd.t 6)), C.op none none (O.st 1 (Opd.t 39) (Opd.t 38))],
                        C.op none (some 40) (O.bin BinOp.add (Opd.t 25) (Opd.c (AV.int IntKind.i64 1))),
                        C.op none (some 25) (O.mv (Opd.t 40))]],
                C.op none (some 41) (O.mv (Opd.t 3)),
                C.op none (some 42) (O.ldn [CK.int IntKind.i64, CK.int IntKind.i64, CK.any] (Opd.t 6)),
                C.op none (some 43)
                  (O.bsl 3 [AV.int IntKind.i64 0, AV.int IntKind.i64 0, AV.nilsl] 1
                    [(0, Opd.t 42)]),
                C.op none (some 44) (O.app 3 (Opd.t 41) (Opd.t 43)), C.op none (some 3) (O.mv (Opd.t 44))],
            C.op none (some 45) (O.bin BinOp.add (Opd.t 13) (Opd.c (AV.int IntKind.i64 1))),
            C.op none (some 13) (O.mv (Opd.t 45))]],
    C.op none (some 46) (O.mv (Opd.t 3)), C.op none (some 2) (O.mv (Opd.t 46)), C.ret]
def r49 : List RV := [RV.t 2]
theorem c49_ok : cC Try.prog Try.f49.ntmps (Try.f49.body.getD .skip) = some c49 := by kernel_rfl

def d50_0 : List It :=
  [(none, some 57, O.fad 2 (Opd.t 7), []), (none, some 58, O.ld CK.any (Opd.t 57), [0]),
                                (none, some 59, O.mv (Opd.t 8), []),
                                (none, some 60, O.iad 2 (Opd.t 58) (Opd.t 59), [1, 2]),
                                (none, some 61, O.fad 0 (Opd.t 60), [3]),
                                (none, some 62, O.ld (CK.int IntKind.u8) (Opd.t 61), [4]),
                                (none, some 63, O.cvi IntKind.i64 (Opd.t 62), [5]),
                                (none, some 64, O.fad 0 (Opd.t 9), []),
                                (none, some 65, O.ld (CK.int IntKind.i64) (Opd.t 64), [7]),
                                (none, some 66, O.bin BinOp.neq (Opd.t 63) (Opd.t 65), [6, 8]),
                                (none, some 67, O.mv (Opd.t 66), [9]),
                                (some (67, false), some 68, O.fad 2 (Opd.t 7), [10]),
                                (some (67, false), some 69, O.ld CK.any (Opd.t 68), [11, 10]),
                                (some (67, false), some 70, O.mv (Opd.t 8), [10]),
                                (some (67, false), some 71, O.iad 2 (Opd.t 69) (Opd.t 70), [12, 13, 10]),
                                (some (67, false), some 72, O.fad 1 (Opd.t 71), [14, 10]),
                                (some (67, false), some 73, O.ld (CK.int IntKind.i64) (Opd.t 72), [15, 10]),
                                (some (67, false), some 74, O.fad 1 (Opd.t 9), [10]),
                                (some (67, false), some 75, O.ld (CK.int IntKind.i64) (Opd.t 74), [17, 10]),
                                (some (67, false), some 76, O.bin BinOp.neq (Opd.t 73) (Opd.t 75), [16, 18, 10]),
                                (none, some 77, O.pick (Opd.t 67) (Opd.c (AV.bool true)) (Opd.t 76), [10, 19])]
def o50_0 : List (Nat × Bool) := [(0, false), (1, false), (2, false), (3, false), (4, false), (5, false), (6, false), (7, false), (8, false), (9, false), (10, false), (11, false), (12, false), (13, false), (14, false), (15, false), (16, false), (17, false), (18, false), (19, false), (20, false)]
def l50_0 : List (Nat × Bool × It) :=
  [(0, false, (none, some 57, O.fad 2 (Opd.t 7), [])),
   (1, false, (none, some 58, O.ld CK.any (Opd.t 57), [0])),
   (2, false, (none, some 59, O.mv (Opd.t 8), [])),
   (3, false, (none, some 60, O.iad 2 (Opd.t 58) (Opd.t 59), [1, 2])),
   (4, false, (none, some 61, O.fad 0 (Opd.t 60), [3])),
   (5, false, (none, some 62, O.ld (CK.int IntKind.u8) (Opd.t 61), [4])),
   (6, false, (none, some 63, O.cvi IntKind.i64 (Opd.t 62), [5])),
   (7, false, (none, some 64, O.fad 0 (Opd.t 9), [])),
   (8, false, (none, some 65, O.ld (CK.int IntKind.i64) (Opd.t 64), [7])),
   (9, false, (none, some 66, O.bin BinOp.neq (Opd.t 63) (Opd.t 65), [6, 8])),
   (10, false, (none, some 67, O.mv (Opd.t 66), [9])),
   (11, false, (some (67, false), some 68, O.fad 2 (Opd.t 7), [10])),
   (12, false, (some (67, false), some 69, O.ld CK.any (Opd.t 68), [11, 10])),
   (13, false, (some (67, false), some 70, O.mv (Opd.t 8), [10])),
   (14, false, (some (67, false), some 71, O.iad 2 (Opd.t 69) (Opd.t 70), [12, 13, 10])),
   (15, false, (some (67, false), some 72, O.fad 1 (Opd.t 71), [14, 10])),
   (16, false, (some (67, false), some 73, O.ld (CK.int IntKind.i64) (Opd.t 72), [15, 10])),
   (17, false, (some (67, false), some 74, O.fad 1 (Opd.t 9), [10])),
   (18, false, (some (67, false), some 75, O.ld (CK.int IntKind.i64) (Opd.t 74), [17, 10])),
   (19, false, (some (67, false), some 76, O.bin BinOp.neq (Opd.t 73) (Opd.t 75), [16, 18, 10])),
   (20, false, (none, some 77, O.pick (Opd.t 67) (Opd.c (AV.bool true)) (Opd.t 76), [10, 19]))]
theorem l50_0_ok : okDraw d50_0 o50_0 = true ∧ mkL d50_0 o50_0 = some l50_0 := ⟨by kernel_rfl, by kernel_rfl⟩

def c50 : List C :=
  [C.op none (some 2) (O.box (Opd.t 0)), C.op none (some 4) (O.mv (Opd.c (AV.int IntKind.i64 0))),
    C.op none (some 10) (O.fad 0 (Opd.t 2)), C.op none (some 11) (O.ld CK.any (Opd.t 10)),
    C.op none (some 12) (O.len false (Opd.t 11)), C.op none (some 13) (O.mv (Opd.t 1)),
    C.op none (some 14) (O.len false (Opd.t 13)), C.op none (some 15) (O.bin BinOp.neq (Opd.t 12) (Opd.t 14)),
    C.cond (Opd.t 15) [C.op none (some 4) (O.mv (Opd.c (AV.int IntKind.i64 (-1)))), C.ret] [],
    C.op none (some 16) (O.mv (Opd.t 1)), C.op none (some 17) (O.len false (Opd.t 16)),
    C.op none (some 18) (O.mv (Opd.c (AV.int IntKind.i64 0))),
    C.blk 0
      [C.loop
          [C.op none (some 19) (O.bin BinOp.lss (Opd.t 18) (Opd.t 17)), C.cond (Opd.t 19) [] [C.exit 0],
            C.blk 1
              [C.op none (some 20) (O.mv (Opd.t 18)), C.op none (some 21) (O.iad 3 (Opd.t 16) (Opd.t 18)),
                C.op none (some 22) (O.ldn [CK.int IntKind.i64, CK.int IntKind.i64, CK.any] (Opd.t 21)),
                C.op none (some 6)
                  (O.alloc [AV.int IntKind.i64 0, AV.int IntKind.i64 0, AV.nilsl]),
                C.op none (some 5) (O.mv (Opd.t 20)), C.op none none (O.st 3 (Opd.t 6) (Opd.t 22)),
                C.op none (some 23) (O.fad 0 (Opd.t 2)), C.op none (some 24) (O.ld CK.any (Opd.t 23)),
                C.op none (some 25) (O.mv (Opd.t 5)), C.op none (some 26) (O.iad 3 (Opd.t 24) (Opd.t 25)),
                C.op none (some 27) (O.ldn [CK.int IntKind.i64, CK.int IntKind.i64, CK.any] (Opd.t 26)),
                C.op none (some 7)
                  (O.alloc [AV.int IntKind.i64 0, AV.int IntKind.i64 0, AV.nilsl]),
                C.op none none (O.st 3 (Opd.t 7) (Opd.t 27)), C.op none (some 28) (O.fad 0 (Opd.t 7)),
                C.op none (some 29) (O.ld (CK.int IntKind.i64) (Opd.t 28)), C.op none (some 30) (O.fad 0 (Opd.t 6)),
                C.op none (some 31) (O.ld (CK.int IntKind.i64) (Opd.t 30)),
                C.op none (some 32) (O.bin BinOp.neq (Opd.t 29) (Opd.t 31)), C.op none (some 33) (O.mv (Opd.t 32)),
                C.op (some (33, false)) (some 34) (O.fad 1 (Opd.t 7)),
                C.op (some (33, false)) (some 35) (O.ld (CK.int IntKind.i64) (Opd.t 34)),
                C.op (some (33, false)) (some 36) (O.fad 1 (Opd.t 6)),
                C.op (some (33, false)) (some 37) (O.ld (CK.int IntKind.i64) (Opd.t 36)),
                C.op (some (33, false)) (some 38) (O.bin BinOp.neq (Opd.t 35) (Opd.t 37)),
                C.op none (some 39) (O.pick (Opd.t 33) (Opd.c (AV.bool true)) (Opd.t 38)),
                C.op none (some 40) (O.mv (Opd.t 39)), C.op (some (40, false)) (some 41) (O.fad 2 (Opd.t 7)),
                C.op (some (40, false)) (some 42) (O.ld CK.any (Opd.t 41)),
                C.op (some (40, false)) (some 43) (O.len false (Opd.t 42)),
                C.op (some (40, false)) (some 44) (O.fad 2 (Opd.t 6)),
                C.op (some (40, false)) (some 45) (O.ld CK.any (Opd.t 44)),
                C.op (some (40, false)) (some 46) (O.len false (Opd.t 45)),
                C.op (some (40, false)) (some 47) (O.bin BinOp.neq (Opd.t 43) (Opd.t 46)),
                C.op none (some 48) (O.pick (Opd.t 40) (Opd.c (AV.bool true)) (Opd.t 47)),
                C.cond (Opd.t 48) [C.op none (some 4) (O.mv (Opd.c (AV.int IntKind.i64 (-1)))), C.ret] [],
                C.op none (some 49) (O.fad 2 (Opd.t 6)), C.op none (some 50) (O.ld CK.any (Opd.t 49)),
                C.op none (some 51) (O.len false (Opd.t 50)),
                C.op none (some 52) (O.mv (Opd.c (AV.int IntKind.i64 0))),
                C.blk 2
                  [C.loop
                      [C.op none (some 53) (O.bin BinOp.lss (Opd.t 52) (Opd.t 51)), C.cond (Opd.t 53) [] [C.exit 2],
                        C.blk 3
                          [C.op none (some 54) (O.mv (Opd.t 52)), C.op none (some 55) (O.iad 2 (Opd.t 50) (Opd.t 52)),
                            C.op none (some 56) (O.ldn [CK.int IntKind.i64, CK.int IntKind.i64] (Opd.t 55)),
                            C.op none (some 9)
                              (O.alloc [AV.int IntKind.i64 0, AV.int IntKind.i64 0]),
                            C.op none (some 8) (O.mv (Opd.t 54)), C.op none none (O.st 2 (Opd.t 9) (Opd.t 56)),
                            C.draw d50_0,
                            C.cond (Opd.t 77)
                              [C.op none (some 4) (O.mv (Opd.c (AV.int IntKind.i64 (-1)))), C.ret] []],
                        C.op none (some 78) (O.bin BinOp.add (Opd.t 52) (Opd.c (AV.int IntKind.i64 1))),
                        C.op none (some 52) (O.mv (Opd.t 78))]]],
            C.op none (some 79) (O.bin BinOp.add (Opd.t 18) (Opd.c (AV.int IntKind.i64 1))),
            C.op none (some 18) (O.mv (Opd.t 79))]],
    C.op none (some 4) (O.mv (Opd.c (AV.int IntKind.i64 0))), C.ret]
def r50 : List RV := [RV.t 4]
theorem c50_ok : cC Try.prog Try.f50.ntmps (Try.f50.body.getD .skip) = some c50 := by kernel_rfl

def c51 : List C :=
  [C.op none (some 1) (O.box (Opd.t 0)), C.op none (some 2) (O.mv (Opd.c (AV.int IntKind.i64 0))),
    C.op none (some 3) (O.mv (Opd.c (AV.int IntKind.i64 0))), C.op none (some 6) (O.fad 0 (Opd.t 1)),
    C.op none (some 7) (O.ld CK.any (Opd.t 6)), C.op none (some 8) (O.len false (Opd.t 7)),
    C.op none (some 9) (O.mv (Opd.c (AV.int IntKind.i64 0))),
    C.blk 0
      [C.loop
          [C.op none (some 10) (O.bin BinOp.lss (Opd.t 9) (Opd.t 8)), C.cond (Opd.t 10) [] [C.exit 0],
            C.blk 1
              [C.op none (some 11) (O.iad 3 (Opd.t 7) (Opd.t 9)),
                C.op none (some 12) (O.ldn [CK.int IntKind.i64, CK.int IntKind.i64, CK.any] (Opd.t 11)),
                C.op none (some 5)
                  (O.alloc [AV.int IntKind.i64 0, AV.int IntKind.i64 0, AV.nilsl]),
                C.op none none (O.st 3 (Opd.t 5) (Opd.t 12)), C.op none (some 13) (O.mv (Opd.t 3)),
                C.op none (some 14) (O.fad 2 (Opd.t 5)), C.op none (some 15) (O.ld CK.any (Opd.t 14)),
                C.op none (some 16) (O.len false (Opd.t 15)),
                C.op none (some 17) (O.bin BinOp.add (Opd.t 13) (Opd.t 16)), C.op none (some 3) (O.mv (Opd.t 17))],
            C.op none (some 18) (O.bin BinOp.add (Opd.t 9) (Opd.c (AV.int IntKind.i64 1))),
            C.op none (some 9) (O.mv (Opd.t 18))]],
    C.op none (some 19) (O.mv (Opd.t 3)), C.op none (some 2) (O.mv (Opd.t 19)), C.ret]
def r51 : List RV := [RV.t 2]
theorem c51_ok : cC Try.prog Try.f51.ntmps (Try.f51.body.getD .skip) = some c51 := by kernel_rfl

def c52 : List C :=
  [C.op none (some 2) (O.mv (Opd.c AV.nilsl)), C.op none (some 3) (O.mv (Opd.c (AV.int IntKind.i64 0))),
    C.op none (some 11) (O.mv (Opd.t 0)),
    C.op none (some 12) (O.build [AV.str [], AV.int IntKind.i64 0] [(0, 1, Opd.t 11)]),
    C.op none (some 13) (O.call 60 [Opd.t 12, Opd.c (AV.int IntKind.i64 16)]),
    C.op none (some 10) (O.mv (Opd.t 13)), C.op none (some 14) (O.ext (Opd.t 10) 0),
    C.op none (some 15) (O.ext (Opd.t 10) 1),
    C.op none (some 4) (O.alloc [AV.str [], AV.int IntKind.i64 0]),
    C.op none none (O.st 2 (Opd.t 4) (Opd.t 14)), C.op none (some 5) (O.mv (Opd.t 15)),
    C.op none (some 16) (O.bsl 3 [AV.int IntKind.i64 0, AV.int IntKind.i64 0, AV.nilsl] 0 []),
    C.op none (some 6) (O.mv (Opd.t 16)), C.op none (some 7) (O.mv (Opd.c (AV.int IntKind.i64 0))),
    C.blk 0
      [C.loop
          [C.op none (some 17) (O.mv (Opd.t 7)), C.op none (some 18) (O.mv (Opd.t 5)),
            C.op none (some 19) (O.bin BinOp.lss (Opd.t 17) (Opd.t 18)), C.op none (some 20) (O.mv (Opd.t 19)),
            C.op (some (20, true)) (some 21) (O.fad 1 (Opd.t 4)),
            C.op (some (20, true)) (some 22) (O.ld (CK.int IntKind.i64) (Opd.t 21)),
            C.op (some (20, true)) (some 23) (O.bin BinOp.eql (Opd.t 22) (Opd.c (AV.int IntKind.i64 0))),
            C.op none (some 24) (O.pick (Opd.t 20) (Opd.t 23) (Opd.c (AV.bool false))), C.cond (Opd.t 24) [] [C.exit 0],
            C.blk 1
              [C.op none (some 28) (O.ldn [CK.str, CK.int IntKind.i64] (Opd.t 4)),
                C.op none (some 29) (O.call 65 [Opd.t 28]), C.op none (some 27) (O.mv (Opd.t 29)),
                C.op none (some 30) (O.ext (Opd.t 27) 0), C.op none (some 31) (O.ext (Opd.t 27) 1),
                C.op none (some 8) (O.alloc [AV.str [], AV.int IntKind.i64 0]),
                C.op none (some 9)
                  (O.alloc [AV.int IntKind.i64 0, AV.int IntKind.i64 0, AV.nilsl]),
                C.op none none (O.st 2 (Opd.t 8) (Opd.t 30)), C.op none none (O.st 3 (Opd.t 9) (Opd.t 31)),
                C.op none (some 32) (O.ldn [CK.str, CK.int IntKind.i64] (Opd.t 8)),
                C.op none none (O.st 2 (Opd.t 4) (Opd.t 32)), C.op none (some 33) (O.mv (Opd.t 6)),
                C.op none (some 34) (O.ldn [CK.int IntKind.i64, CK.int IntKind.i64, CK.any] (Opd.t 9)),
                C.op none (some 35)
                  (O.bsl 3 [AV.int IntKind.i64 0, AV.int IntKind.i64 0, AV.nilsl] 1
                    [(0, Opd.t 34)]),
                C.op none (some 36) (O.app 3 (Opd.t 33) (Opd.t 35)), C.op none (some 6) (O.mv (Opd.t 36))],
            C.op none (some 25) (O.mv (Opd.t 7)),
            C.op none (some 26) (O.bin BinOp.add (Opd.t 25) (Opd.c (AV.int IntKind.i64 1))),
            C.op none (some 7) (O.mv (Opd.t 26))]],
    C.op none (some 37) (O.ldn [CK.str, CK.int IntKind.i64] (Opd.t 4)), C.op none (some 38) (O.call 32 [Opd.t 37]),
    C.op none (some 39) (O.bin BinOp.neq (Opd.t 38) (Opd.c (AV.int IntKind.i64 0))),
    C.cond (Opd.t 39)
      [C.op none (some 40) (O.ldn [CK.str, CK.int IntKind.i64] (Opd.t 4)), C.op none (some 41) (O.call 32 [Opd.t 40]),
        C.op none (some 2) (O.mv (Opd.c AV.nilsl)), C.op none (some 3) (O.mv (Opd.t 41)), C.ret]
      [],
    C.op none (some 42) (O.mv (Opd.t 6)), C.op none (some 2) (O.mv (Opd.t 42)),
    C.op none (some 3) (O.mv (Opd.c (AV.int IntKind.i64 0))), C.ret]
def r52 : List RV := [RV.t 2, RV.t 3]
theorem c52_ok : cC Try.prog Try.f52.ntmps (Try.f52.body.getD .skip) = some c52 := by kernel_rfl

def c53 : List C :=
  [C.op none (some 2) (O.mv (Opd.c (AV.str []))), C.op none (some 3) (O.mv (Opd.t 0)),
    C.op none (some 4) (O.cvi IntKind.u8 (Opd.t 3)), C.op none (some 5) (O.mv (Opd.t 0)),
    C.op none (some 6) (O.bin BinOp.shr (Opd.t 5) (Opd.c (AV.int IntKind.u64 8))),
    C.op none (some 7) (O.cvi IntKind.u8 (Opd.t 6)), C.op none (some 8) (O.mv (Opd.t 0)),
    C.op none (some 9) (O.bin BinOp.shr (Opd.t 8) (Opd.c (AV.int IntKind.u64 16))),
    C.op none (some 10) (O.cvi IntKind.u8 (Opd.t 9)), C.op none (some 11) (O.mv (Opd.t 0)),
    C.op none (some 12) (O.bin BinOp.shr (Opd.t 11) (Opd.c (AV.int IntKind.u64 24))),
    C.op none (some 13) (O.cvi IntKind.u8 (Opd.t 12)),
    C.op none (some 14)
      (O.bsl 1 [AV.int IntKind.u8 0] 4 [(0, Opd.t 4), (1, Opd.t 7), (2, Opd.t 10), (3, Opd.t 13)]),
    C.op none (some 15) (O.cvb (Opd.t 14)), C.op none (some 2) (O.mv (Opd.t 15)), C.ret]
def r53 : List RV := [RV.t 2]
theorem c53_ok : cC Try.prog Try.f53.ntmps (Try.f53.body.getD .skip) = some c53 := by kernel_rfl

def c54 : List C :=
  [C.op none (some 2) (O.mv (Opd.c (AV.int IntKind.u32 0))), C.op none (some 3) (O.mv (Opd.t 0)),
    C.op none (some 4) (O.call 66 [Opd.c (AV.int IntKind.u32 0), Opd.t 3]),
    C.op none (some 2) (O.mv (Opd.t 4)), C.ret]
def r54 : List RV := [RV.t 2]
theorem c54_ok : cC Try.prog Try.f54.ntmps (Try.f54.body.getD .skip) = some c54 := by kernel_rfl

def c55 : List C :=
  [C.op none (some 2) (O.mv (Opd.c (AV.int IntKind.u32 0))),
    C.op none (some 3) (O.mv (Opd.c (AV.int IntKind.u32 4294967295))),
    C.op none (some 4) (O.mv (Opd.c (AV.int IntKind.i64 0))),
    C.blk 0
      [C.loop
          [C.op none (some 8) (O.mv (Opd.t 4)), C.op none (some 9) (O.mv (Opd.t 0)),
            C.op none (some 10) (O.len true (Opd.t 9)), C.op none (some 11) (O.bin BinOp.lss (Opd.t 8) (Opd.t 10)),
            C.cond (Opd.t 11) [] [C.exit 0],
            C.blk 1
              [C.op none (some 14) (O.mv (Opd.t 0)), C.op none (some 15) (O.mv (Opd.t 4)),
                C.op none (some 16) (O.ist (Opd.t 14) (Opd.t 15)), C.op none (some 17) (O.cvi IntKind.u32 (Opd.t 16)),
                C.op none (some 5) (O.mv (Opd.t 17)),
                C.op none (some 6) (O.mv (Opd.c (AV.int IntKind.i64 0))),
                C.blk 2
                  [C.loop
                      [C.op none (some 18) (O.mv (Opd.t 6)),
                        C.op none (some 19) (O.bin BinOp.lss (Opd.t 18) (Opd.c (AV.int IntKind.i64 8))),
                        C.cond (Opd.t 19) [] [C.exit 2],
                        C.blk 3
                          [C.op none (some 22) (O.mv (Opd.t 3)), C.op none (some 23) (O.mv (Opd.t 5)),
                            C.op none (some 24) (O.bin BinOp.add (Opd.t 22) (Opd.t 23)),
                            C.op none (some 25) (O.bin BinOp.rem (Opd.t 24) (Opd.c (AV.int IntKind.u32 2))),
                            C.op none (some 26) (O.bin BinOp.eql (Opd.t 25) (Opd.c (AV.int IntKind.u32 1))),
                            C.op none (some 7) (O.mv (Opd.t 26)), C.op none (some 27) (O.mv (Opd.t 3)),
                            C.op none (some 28) (O.bin BinOp.quo (Opd.t 27) (Opd.c (AV.int IntKind.u32 2))),
                            C.op none (some 3) (O.mv (Opd.t 28)), C.op none (some 29) (O.mv (Opd.t 5)),
                            C.op none (some 30) (O.bin BinOp.quo (Opd.t 29) (Opd.c (AV.int IntKind.u32 2))),
                            C.op none (some 5) (O.mv (Opd.t 30)), C.op none (some 31) (O.mv (Opd.t 7)),
                            C.cond (Opd.t 31)
                              [C.op none (some 32) (O.mv (Opd.t 3)),
                                C.op none (some 33)
                                  (O.bin BinOp.xor (Opd.t 32) (Opd.c (AV.int IntKind.u32 3988292384))),
                                C.op none (some 3) (O.mv (Opd.t 33))]
                              []],
                        C.op none (some 20) (O.mv (Opd.t 6)),
                        C.op none (some 21) (O.bin BinOp.add (Opd.t 20) (Opd.c (AV.int IntKind.i64 1))),
                        C.op none (some 6) (O.mv (Opd.t 21))]]],
            C.op none (some 12) (O.mv (Opd.t 4)),
            C.op none (some 13) (O.bin BinOp.add (Opd.t 12) (Opd.c (AV.int IntKind.i64 1))),
            C.op none (some 4) (O.mv (Opd.t 13))]],
    C.op none (some 34) (O.mv (Opd.t 3)),
    C.op none (some 35) (O.bin BinOp.sub (Opd.c (AV.int IntKind.u32 4294967295)) (Opd.t 34)),
    C.op none (some 2) (O.mv (Opd.t 35)), C.ret]
def r55 : List RV := [RV.t 2]
theorem c55_ok : cC Try.prog Try.f55.ntmps (Try.f55.body.getD .skip) = some c55 := by kernel_rfl

def c56 : List C :=
  [C.op none (some 4) (O.mv (Opd.t 0)), C.op none (some 5) (O.nck (Opd.t 4)), C.op none (some 6) (O.fad 1 (Opd.t 5)),
    C.op none (some 7) (O.ld (CK.int IntKind.i64) (Opd.t 6)),
    C.op none (some 8) (O.bin BinOp.eql (Opd.t 7) (Opd.c (AV.int IntKind.i64 0))),
    C.op none (some 9) (O.mv (Opd.t 8)), C.op (some (9, true)) (some 10) (O.mv (Opd.t 1)),
    C.op (some (9, true)) (some 11) (O.bin BinOp.neq (Opd.t 10) (Opd.c (AV.int IntKind.i64 0))),
    C.op none (some 12) (O.pick (Opd.t 9) (Opd.t 11) (Opd.c (AV.bool false))),
    C.cond (Opd.t 12)
      [C.op none (some 13) (O.mv (Opd.t 0)), C.op none (some 14) (O.mv (Opd.t 0)), C.op none (some 15) (O.mv (Opd.t 1)),
        C.op none (some 16) (O.nck (Opd.t 13)), C.op none (some 17) (O.fad 1 (Opd.t 16)),
        C.op none none (O.st 1 (Opd.t 17) (Opd.t 15)), C.op none (some 18) (O.nck (Opd.t 14)),
        C.op none (some 19) (O.fad 0 (Opd.t 18)), C.op none none (O.st 1 (Opd.t 19) (Opd.c (AV.str [])))]
      []]
def r56 : List RV := []
theorem c56_ok : cC Try.prog Try.f56.ntmps (Try.f56.body.getD .skip) = some c56 := by kernel_rfl

def d57_0 : List It :=
  [(none, some 39, O.mv (Opd.t 4), []), (none, some 40, O.mv (Opd.t 7), []),
                    (none, some 41, O.ist (Opd.t 40) (Opd.c (AV.int IntKind.i64 0)), [1]),
                    (none, some 42, O.bin BinOp.rem (Opd.t 41) (Opd.c (AV.int IntKind.u8 128)), [2]),
                    (none, some 43, O.cvi IntKind.u64 (Opd.t 42), [3]), (none, some 44, O.mv (Opd.t 5), []),
                    (none, some 45, O.call 67 [Opd.t 44], [5]),
                    (none, some 46, O.bin BinOp.mul (Opd.t 43) (Opd.t 45), [4, 6]),
                    (none, some 47, O.bin BinOp.add (Opd.t 39) (Opd.t 46), [0, 7]),
                    (none, some 4, O.mv (Opd.t 47), [8, 6, 0, 1, 2, 3, 4, 5, 6, 7, 8])]
def o57_0 : List (Nat × Bool) := [(0, false), (1, false), (2, false), (3, false), (4, false), (5, false), (6, true), (7, false), (8, false), (9, true)]
def l57_0 : List (Nat × Bool × It) :=
  [(0, false, (none, some 39, O.mv (Opd.t 4), [])),
   (1, false, (none, some 40, O.mv (Opd.t 7), [])),
   (2, false, (none, some 41, O.ist (Opd.t 40) (Opd.c (AV.int IntKind.i64 0)), [1])),
   (3, false, (none, some 42, O.bin BinOp.rem (Opd.t 41) (Opd.c (AV.int IntKind.u8 128)), [2])),
   (4, false, (none, some 43, O.cvi IntKind.u64 (Opd.t 42), [3])),
   (5, false, (none, some 44, O.mv (Opd.t 5), [])),
   (6, true, (none, some 45, O.call 67 [Opd.t 44], [5])),
   (7, false, (none, some 46, O.bin BinOp.mul (Opd.t 43) (Opd.t 45), [4, 6])),
   (8, false, (none, some 47, O.bin BinOp.add (Opd.t 39) (Opd.t 46), [0, 7])),
   (9, true, (none, some 4, O.mv (Opd.t 47), [8, 6, 0, 1, 2, 3, 4, 5, 6, 7, 8]))]
theorem l57_0_ok : okDraw d57_0 o57_0 = true ∧ mkL d57_0 o57_0 = some l57_0 := ⟨by kernel_rfl, by kernel_rfl⟩

def c57 : List C :=
  [C.op none (some 1) (O.box (Opd.t 0)), C.op none (some 2) (O.alloc [AV.str [], AV.int IntKind.i64 0]),
    C.op none (some 3) (O.mv (Opd.c (AV.int IntKind.u64 0))),
    C.op none (some 4) (O.mv (Opd.c (AV.int IntKind.u64 0))),
    C.op none (some 5) (O.mv (Opd.c (AV.int IntKind.i64 0))),
    C.blk 0
      [C.loop
          [C.op none (some 8) (O.mv (Opd.t 5)),
            C.op none (some 9) (O.bin BinOp.lss (Opd.t 8) (Opd.c (AV.int IntKind.i64 11))),
            C.cond (Opd.t 9) [] [C.exit 0],
            C.blk 1
              [C.op none (some 13) (O.ldn [CK.str, CK.int IntKind.i64] (Opd.t 1)),
                C.op none (some 14) (O.call 62 [Opd.t 13, Opd.c (AV.int IntKind.i64 1)]),
                C.op none (some 12) (O.mv (Opd.t 14)), C.op none (some 15) (O.ext (Opd.t 12) 0),
                C.op none (some 16) (O.ext (Opd.t 12) 1),
                C.op none (some 6) (O.alloc [AV.str [], AV.int IntKind.i64 0]),
                C.op none none (O.st 2 (Opd.t 6) (Opd.t 15)), C.op none (some 7) (O.mv (Opd.t 16)),
                C.op none (some 17) (O.ldn [CK.str, CK.int IntKind.i64] (Opd.t 6)),
                C.op none none (O.st 2 (Opd.t 1) (Opd.t 17)), C.op none (some 18) (O.fad 1 (Opd.t 1)),
                C.op none (some 19) (O.ld (CK.int IntKind.i64) (Opd.t 18)),
                C.op none (some 20) (O.bin BinOp.neq (Opd.t 19) (Opd.c (AV.int IntKind.i64 0))),
                C.cond (Opd.t 20)
                  [C.op none (some 21) (O.ldn [CK.str, CK.int IntKind.i64] (Opd.t 1)),
                    C.op none none (O.st 2 (Opd.t 2) (Opd.t 21)),
                    C.op none (some 3) (O.mv (Opd.c (AV.int IntKind.u64 0))), C.ret]
                  [],
                C.op none (some 22) (O.mv (Opd.t 5)),
                C.op none (some 23) (O.bin BinOp.gtr (Opd.t 22) (Opd.c (AV.int IntKind.i64 0))),
                C.op none (some 24) (O.mv (Opd.t 23)), C.op (some (24, true)) (some 25) (O.mv (Opd.t 7)),
                C.op (some (24, true)) (some 26) (O.ist (Opd.t 25) (Opd.c (AV.int IntKind.i64 0))),
                C.op (some (24, true)) (some 27) (O.bin BinOp.eql (Opd.t 26) (Opd.c (AV.int IntKind.u8 0))),
                C.op none (some 28) (O.pick (Opd.t 24) (Opd.t 27) (Opd.c (AV.bool false))),
                C.op none (some 29) (O.mv (Opd.t 28)), C.op (some (29, false)) (some 30) (O.mv (Opd.t 5)),
                C.op (some (29, false)) (some 31)
                  (O.bin BinOp.eql (Opd.t 30) (Opd.c (AV.int IntKind.i64 9))),
                C.op (some (29, false)) (some 32) (O.mv (Opd.t 31)), C.op (some (32, true)) (some 33) (O.mv (Opd.t 7)),
                C.op (some (32, true)) (some 34) (O.ist (Opd.t 33) (Opd.c (AV.int IntKind.i64 0))),
                C.op (some (32, true)) (some 35) (O.bin BinOp.gtr (Opd.t 34) (Opd.c (AV.int IntKind.u8 1))),
                C.op (some (29, false)) (some 36) (O.pick (Opd.t 32) (Opd.t 35) (Opd.c (AV.bool false))),
                C.op none (some 37) (O.pick (Opd.t 29) (Opd.c (AV.bool true)) (Opd.t 36)),
                C.cond (Opd.t 37)
                  [C.op none (some 38)
                      (O.build [AV.str [], AV.int IntKind.i64 0]
                        [(0, 1, Opd.c (AV.str [])), (1, 1, Opd.c (AV.int IntKind.i64 2))]),
                    C.op none none (O.st 2 (Opd.t 2) (Opd.t 38)),
                    C.op none (some 3) (O.mv (Opd.c (AV.int IntKind.u64 0))), C.ret]
                  [],
                C.draw d57_0,
                C.op none (some 48) (O.mv (Opd.t 7)),
                C.op none (some 49) (O.ist (Opd.t 48) (Opd.c (AV.int IntKind.i64 0))),
                C.op none (some 50) (O.bin BinOp.lss (Opd.t 49) (Opd.c (AV.int IntKind.u8 128))),
                C.cond (Opd.t 50)
                  [C.op none (some 51) (O.ldn [CK.str, CK.int IntKind.i64] (Opd.t 1)),
                    C.op none (some 52) (O.mv (Opd.t 4)), C.op none none (O.st 2 (Opd.t 2) (Opd.t 51)),
                    C.op none (some 3) (O.mv (Opd.t 52)), C.ret]
                  []],
            C.op none (some 10) (O.mv (Opd.t 5)),
            C.op none (some 11) (O.bin BinOp.add (Opd.t 10) (Opd.c (AV.int IntKind.i64 1))),
            C.op none (some 5) (O.mv (Opd.t 11))]],
    C.op none (some 53)
      (O.build [AV.str [], AV.int IntKind.i64 0]
        [(0, 1, Opd.c (AV.str [])), (1, 1, Opd.c (AV.int IntKind.i64 2))]),
    C.op none none (O.st 2 (Opd.t 2) (Opd.t 53)), C.op none (some 3) (O.mv (Opd.c (AV.int IntKind.u64 0))),
    C.ret]
def r57 : List RV := [RV.cn 2 2, RV.t 3]
theorem c57_ok : cC Try.prog Try.f57.ntmps (Try.f57.body.getD .skip) = some c57 := by kernel_rfl

def c58 : List C :=
  [C.op none (some 1) (O.box (Opd.t 0)), C.op none (some 2) (O.alloc [AV.str [], AV.int IntKind.i64 0]),
    C.op none (some 3) (O.mv (Opd.c (AV.int IntKind.i64 0))),
    C.op none (some 6) (O.ldn [CK.str, CK.int IntKind.i64] (Opd.t 1)), C.op none (some 7) (O.call 57 [Opd.t 6]),
    C.op none (some 5) (O.mv (Opd.t 7)), C.op none (some 8) (O.ext (Opd.t 5) 0), C.op none (some 9) (O.ext (Opd.t 5) 1),
    C.op none none (O.st 2 (Opd.t 1) (Opd.t 8)), C.op none (some 4) (O.mv (Opd.t 9)),
    C.op none (some 10) (O.mv (Opd.t 4)),
    C.op none (some 11) (O.bin BinOp.rem (Opd.t 10) (Opd.c (AV.int IntKind.u64 2))),
    C.op none (some 12) (O.bin BinOp.eql (Opd.t 11) (Opd.c (AV.int IntKind.u64 1))),
    C.cond (Opd.t 12)
      [C.op none (some 13) (O.ldn [CK.str, CK.int IntKind.i64] (Opd.t 1)), C.op none (some 14) (O.mv (Opd.t 4)),
        C.op none (some 15) (O.bin BinOp.quo (Opd.t 14) (Opd.c (AV.int IntKind.u64 2))),
        C.op none (some 16) (O.cvi IntKind.i64 (Opd.t 15)), C.op none (some 17) (O.un UnOp.neg (Opd.t 16)),
        C.op none (some 18) (O.bin BinOp.sub (Opd.t 17) (Opd.c (AV.int IntKind.i64 1))),
        C.op none none (O.st 2 (Opd.t 2) (Opd.t 13)), C.op none (some 3) (O.mv (Opd.t 18)), C.ret]
      [],
    C.op none (some 19) (O.ldn [CK.str, CK.int IntKind.i64] (Opd.t 1)), C.op none (some 20) (O.mv (Opd.t 4)),
    C.op none (some 21) (O.bin BinOp.quo (Opd.t 20) (Opd.c (AV.int IntKind.u64 2))),
    C.op none (some 22) (O.cvi IntKind.i64 (Opd.t 21)), C.op none none (O.st 2 (Opd.t 2) (Opd.t 19)),
    C.op none (some 3) (O.mv (Opd.t 22)), C.ret]
def r58 : List RV := [RV.cn 2 2, RV.t 3]
theorem c58_ok : cC Try.prog Try.f58.ntmps (Try.f58.body.getD .skip) = some c58 := by kernel_rfl

def c59 : List C :=
  [C.op none (some 4) (O.mv (Opd.c (AV.int IntKind.i64 0))), C.op none (some 6) (O.mv (Opd.t 0)),
    C.op none (some 7) (O.call 26 [Opd.t 6]), C.op none (some 5) (O.mv (Opd.t 7)), C.op none (some 8) (O.mv (Opd.t 5)),
    C.op none (some 9) (O.mv (Opd.t 1)), C.op none (some 10) (O.mx [Opd.t 9, Opd.c (AV.int IntKind.i64 0)]),
    C.op none (some 11) (O.cvi IntKind.u64 (Opd.t 10)), C.op none (some 12) (O.bin BinOp.gtr (Opd.t 8) (Opd.t 11)),
    C.cond (Opd.t 12)
      [C.op none (some 13) (O.mv (Opd.t 0)),
        C.op none (some 14) (O.call 56 [Opd.t 13, Opd.c (AV.int IntKind.i64 3)]),
        C.op none (some 4) (O.mv (Opd.c (AV.int IntKind.i64 0))), C.ret]
      [],
    C.op none (some 15) (O.mv (Opd.t 5)), C.op none (some 16) (O.cvi IntKind.i64 (Opd.t 15)),
    C.op none (some 4) (O.mv (Opd.t 16)), C.ret]
def r59 : List RV := [RV.t 4]
theorem c59_ok : cC Try.prog Try.f59.ntmps (Try.f59.body.getD .skip) = some c59 := by kernel_rfl

def c60 : List C :=
  [C.op none (some 2) (O.box (Opd.t 0)), C.op none (some 4) (O.alloc [AV.str [], AV.int IntKind.i64 0]),
    C.op none (some 5) (O.mv (Opd.c (AV.int IntKind.i64 0))),
    C.op none (some 8) (O.ldn [CK.str, CK.int IntKind.i64] (Opd.t 2)), C.op none (some 9) (O.call 57 [Opd.t 8]),
    C.op none (some 7) (O.mv (Opd.t 9)), C.op none (some 10) (O.ext (Opd.t 7) 0),
    C.op none (some 11) (O.ext (Opd.t 7) 1), C.op none none (O.st 2 (Opd.t 2) (Opd.t 10)),
    C.op none (some 6) (O.mv (Opd.t 11)), C.op none (some 12) (O.mv (Opd.t 6)), C.op none (some 13) (O.mv (Opd.t 1)),
    C.op none (some 14) (O.mx [Opd.t 13, Opd.c (AV.int IntKind.i64 0)]),
    C.op none (some 15) (O.cvi IntKind.u64 (Opd.t 14)), C.op none (some 16) (O.bin BinOp.gtr (Opd.t 12) (Opd.t 15)),
    C.cond (Opd.t 16)
      [C.op none (some 17) (O.ldn [CK.str, CK.int IntKind.i64] (Opd.t 2)),
        C.op none (some 18) (O.call 63 [Opd.t 17, Opd.c (AV.int IntKind.i64 3)]),
        C.op none none (O.st 2 (Opd.t 4) (Opd.t 18)),
        C.op none (some 5) (O.mv (Opd.c (AV.int IntKind.i64 0))), C.ret]
      [],
    C.op none (some 19) (O.ldn [CK.str, CK.int IntKind.i64] (Opd.t 2)), C.op none (some 20) (O.mv (Opd.t 6)),
    C.op none (some 21) (O.cvi IntKind.i64 (Opd.t 20)), C.op none none (O.st 2 (Opd.t 4) (Opd.t 19)),
    C.op none (some 5) (O.mv (Opd.t 21)), C.ret]
def r60 : List RV := [RV.cn 4 2, RV.t 5]
theorem c60_ok : cC Try.prog Try.f60.ntmps (Try.f60.body.getD .skip) = some c60 := by kernel_rfl

def c61 : List C :=
  [C.op none (some 2) (O.box (Opd.t 0)), C.op none (some 4) (O.alloc [AV.str [], AV.int IntKind.i64 0]),
    C.op none (some 5) (O.mv (Opd.c (AV.str []))), C.op none (some 8) (O.ldn [CK.str, CK.int IntKind.i64] (Opd.t 2)),
    C.op none (some 9) (O.mv (Opd.t 1)), C.op none (some 10) (O.call 60 [Opd.t 8, Opd.t 9]),
    C.op none (some 7) (O.mv (Opd.t 10)), C.op none (some 11) (O.ext (Opd.t 7) 0),
    C.op none (some 12) (O.ext (Opd.t 7) 1), C.op none none (O.st 2 (Opd.t 2) (Opd.t 11)),
    C.op none (some 6) (O.mv (Opd.t 12)), C.op none (some 13) (O.ldn [CK.str, CK.int IntKind.i64] (Opd.t 2)),
    C.op none (some 14) (O.mv (Opd.t 6)), C.op none (some 15) (O.call 62 [Opd.t 13, Opd.t 14]),
    C.op none (some 16) (O.ext (Opd.t 15) 0), C.op none (some 17) (O.ext (Opd.t 15) 1),
    C.op none none (O.st 2 (Opd.t 4) (Opd.t 16)), C.op none (some 5) (O.mv (Opd.t 17)), C.ret]
def r61 : List RV := [RV.cn 4 2, RV.t 5]
theorem c61_ok : cC Try.prog Try.f61.ntmps (Try.f61.body.getD .skip) = some c61 := by kernel_rfl

def d62_0 : List It :=
  [(none, some 20, O.fad 0 (Opd.t 2), []), (none, some 21, O.ld CK.str (Opd.t 20), [0]),
        (none, some 22, O.mv (Opd.t 1), []), (none, some 23, O.ssl (Opd.t 21) (some (Opd.t 22)) none, [1, 2]),
        (none, some 24,
          O.build [AV.str [], AV.int IntKind.i64 0]
            [(0, 1, Opd.t 23), (1, 1, Opd.c (AV.int IntKind.i64 0))],
          [3]),
        (none, some 25, O.fad 0 (Opd.t 2), []), (none, some 26, O.ld CK.str (Opd.t 25), [5]),
        (none, some 27, O.mv (Opd.t 1), []), (none, some 28, O.ssl (Opd.t 26) none (some (Opd.t 27)), [6, 7]),
        (none, none, O.st 2 (Opd.t 4) (Opd.t 24), [4, 0, 1, 2, 3, 4]),
        (none, some 5, O.mv (Opd.t 28), [8, 9, 0, 1, 2, 3, 4, 5, 6, 7, 8, 9])]
def o62_0 : List (Nat × Bool) := [(0, false), (1, false), (2, false), (3, false), (4, false), (5, false), (6, false), (7, false), (8, false), (9, true), (10, false)]
def l62_0 : List (Nat × Bool × It) :=
  [(0, false, (none, some 20, O.fad 0 (Opd.t 2), [])),
   (1, false, (none, some 21, O.ld CK.str (Opd.t 20), [0])),
   (2, false, (none, some 22, O.mv (Opd.t 1), [])),
   (3, false, (none, some 23, O.ssl (Opd.t 21) (some (Opd.t 22)) none, [1, 2])),
   (4, false, (none, some 24,
          O.build [AV.str [], AV.int IntKind.i64 0]
            [(0, 1, Opd.t 23), (1, 1, Opd.c (AV.int IntKind.i64 0))],
          [3])),
   (5, false, (none, some 25, O.fad 0 (Opd.t 2), [])),
   (6, false, (none, some 26, O.ld CK.str (Opd.t 25), [5])),
   (7, false, (none, some 27, O.mv (Opd.t 1), [])),
   (8, false, (none, some 28, O.ssl (Opd.t 26) none (some (Opd.t 27)), [6, 7])),
   (9, true, (none, none, O.st 2 (Opd.t 4) (Opd.t 24), [4, 0, 1, 2, 3, 4])),
   (10, false, (none, some 5, O.mv (Opd.t 28), [8, 9, 0, 1, 2, 3, 4, 5, 6, 7, 8, 9]))]
theorem l62_0_ok : okDraw d62_0 o62_0 = true ∧ mkL d62_0 o62_0 = some l62_0 := ⟨by kernel_rfl, by kernel_rfl⟩

def c62 : List C :=
  [C.op none (some 2) (O.box (Opd.t 0)), C.op none (some 4) (O.alloc [AV.str [], AV.int IntKind.i64 0]),
    C.op none (some 5) (O.mv (Opd.c (AV.str []))), C.op none (some 6) (O.fad 1 (Opd.t 2)),
    C.op none (some 7) (O.ld (CK.int IntKind.i64) (Opd.t 6)),
    C.op none (some 8) (O.bin BinOp.neq (Opd.t 7) (Opd.c (AV.int IntKind.i64 0))),
    C.op none (some 9) (O.mv (Opd.t 8)), C.op (some (9, false)) (some 10) (O.mv (Opd.t 1)),
    C.op (some (9, false)) (some 11) (O.bin BinOp.leq (Opd.t 10) (Opd.c (AV.int IntKind.i64 0))),
    C.op none (some 12) (O.pick (Opd.t 9) (Opd.c (AV.bool true)) (Opd.t 11)),
    C.cond (Opd.t 12)
      [C.op none (some 13) (O.ldn [CK.str, CK.int IntKind.i64] (Opd.t 2)), C.op none none (O.st 2 (Opd.t 4) (Opd.t 13)),
        C.op none (some 5) (O.mv (Opd.c (AV.str []))), C.ret]
      [],
    C.op none (some 14) (O.mv (Opd.t 1)), C.op none (some 15) (O.fad 0 (Opd.t 2)),
    C.op none (some 16) (O.ld CK.str (Opd.t 15)), C.op none (some 17) (O.len true (Opd.t 16)),
    C.op none (some 18) (O.bin BinOp.gtr (Opd.t 14) (Opd.t 17)),
    C.cond (Opd.t 18)
      [C.op none (some 19)
          (O.build [AV.str [], AV.int IntKind.i64 0]
            [(0, 1, Opd.c (AV.str [])), (1, 1, Opd.c (AV.int IntKind.i64 1))]),
        C.op none none (O.st 2 (Opd.t 4) (Opd.t 19)), C.op none (some 5) (O.mv (Opd.c (AV.str []))), C.ret]
      [],
    C.draw d62_0,
    C.ret]
def r62 : List RV := [RV.cn 4 2, RV.t 5]
theorem c62_ok : cC Try.prog Try.f62.ntmps (Try.f62.body.getD .skip) = some c62 := by kernel_rfl

def c63 : List C :=
  [C.op none (some 2) (O.box (Opd.t 0)), C.op none (some 4) (O.alloc [AV.str [], AV.int IntKind.i64 0]),
    C.op none (some 5) (O.fad 1 (Opd.t 2)), C.op none (some 6) (O.ld (CK.int IntKind.i64) (Opd.t 5)),
    C.op none (some 7) (O.bin BinOp.eql (Opd.t 6) (Opd.c (AV.int IntKind.i64 0))),
    C.op none (some 8) (O.mv (Opd.t 7)), C.op (some (8, true)) (some 9) (O.mv (Opd.t 1)),
    C.op (some (8, true)) (some 10) (O.bin BinOp.neq (Opd.t 9) (Opd.c (AV.int IntKind.i64 0))),
    C.op none (some 11) (O.pick (Opd.t 8) (Opd.t 10) (Opd.c (AV.bool false))),
    C.cond (Opd.t 11)
      [C.op none (some 12) (O.mv (Opd.t 1)),
        C.op none (some 13)
          (O.build [AV.str [], AV.int IntKind.i64 0] [(0, 1, Opd.c (AV.str [])), (1, 1, Opd.t 12)]),
        C.op none none (O.st 2 (Opd.t 4) (Opd.t 13)), C.ret]
      [],
    C.op none (some 14) (O.ldn [CK.str, CK.int IntKind.i64] (Opd.t 2)), C.op none none (O.st 2 (Opd.t 4) (Opd.t 14)),
    C.ret]
def r63 : List RV := [RV.cn 4 2]
theorem c63_ok : cC Try.prog Try.f63.ntmps (Try.f63.body.getD .skip) = some c63 := by kernel_rfl

def c64 : List C :=
  [C.op none (some 2) (O.alloc [AV.int IntKind.u8 0, AV.int IntKind.i64 0]),
    C.op none (some 4) (O.mv (Opd.t 0)),
    C.op none (some 5) (O.call 59 [Opd.t 4, Opd.c (AV.int IntKind.i64 22)]),
    C.op none (some 6) (O.cvi IntKind.u8 (Opd.t 5)),
    C.op none (some 7) (O.build [AV.int IntKind.u8 0, AV.int IntKind.i64 0] [(0, 1, Opd.t 6)]),
    C.op none (some 3) (O.alloc [AV.int IntKind.u8 0, AV.int IntKind.i64 0]),
    C.op none none (O.st 2 (Opd.t 3) (Opd.t 7)), C.op none (some 8) (O.mv (Opd.t 0)),
    C.op none (some 9) (O.call 27 [Opd.t 8]),
    C.op none (some 10) (O.bin BinOp.eql (Opd.t 9) (Opd.c (AV.int IntKind.i64 0))),
    C.op none (some 11) (O.mv (Opd.t 10)), C.op (some (11, true)) (some 12) (O.fad 0 (Opd.t 3)),
    C.op (some (11, true)) (some 13) (O.ld (CK.int IntKind.u8) (Opd.t 12)),
    C.op (some (11, true)) (some 14) (O.bin BinOp.eql (Opd.t 13) (Opd.c (AV.int IntKind.u8 0))),
    C.op none (some 15) (O.pick (Opd.t 11) (Opd.t 14) (Opd.c (AV.bool false))),
    C.cond (Opd.t 15)
      [C.op none (some 16) (O.mv (Opd.t 0)),
        C.op none (some 17) (O.call 56 [Opd.t 16, Opd.c (AV.int IntKind.i64 14)])]
      [],
    C.op none (some 18) (O.fad 0 (Opd.t 3)), C.op none (some 19) (O.ld (CK.int IntKind.u8) (Opd.t 18)),
    C.op none (some 20) (O.call 15 [Opd.t 19]),
    C.cond (Opd.t 20)
      [C.op none (some 21) (O.mv (Opd.t 0)), C.op none (some 22) (O.call 42 [Opd.t 21]),
        C.op none (some 23) (O.fad 1 (Opd.t 3)), C.op none none (O.st 1 (Opd.t 23) (Opd.t 22))]
      [],
    C.op none (some 24) (O.ldn [CK.int IntKind.u8, CK.int IntKind.i64] (Opd.t 3)),
    C.op none none (O.st 2 (Opd.t 2) (Opd.t 24)), C.ret]
def r64 : List RV := [RV.cn 2 2]
theorem c64_ok : cC Try.prog Try.f64.ntmps (Try.f64.body.getD .skip) = some c64 := by kernel_rfl

def d65_0 : List It :=
  [(none, some 51, O.ldn [CK.str, CK.int IntKind.i64] (Opd.t 1), []),
        (none, some 52, O.ldn [CK.int IntKind.i64, CK.int IntKind.i64, CK.any] (Opd.t 7), []),
        (none, none, O.st 2 (Opd.t 2) (Opd.t 51), [0, 0]), (none, none, O.st 3 (Opd.t 3) (Opd.t 52), [1, 2, 0, 1, 2])]
def o65_0 : List (Nat × Bool) := [(0, false), (1, false), (2, true), (3, true)]
def l65_0 : List (Nat × Bool × It) :=
  [(0, false, (none, some 51, O.ldn [CK.str, CK.int IntKind.i64] (Opd.t 1), [])),
   (1, false, (none, some 52, O.ldn [CK.int IntKind.i64, CK.int IntKind.i64, CK.any] (Opd.t 7), [])),
   (2, true, (none, none, O.st 2 (Opd.t 2) (Opd.t 51), [0, 0])),
   (3, true, (none, none, O.st 3 (Opd.t 3) (Opd.t 52), [1, 2, 0, 1, 2]))]
theorem l65_0_ok : okDraw d65_0 o65_0 = true ∧ mkL d65_0 o65_0 = some l65_0 := ⟨by kernel_rfl, by kernel_rfl⟩

def c65 : List C :=
  [C.op none (some 1) (O.box (Opd.t 0)), C.op none (some 2) (O.alloc [AV.str [], AV.int IntKind.i64 0]),
    C.op none (some 3) (O.alloc [AV.int IntKind.i64 0, AV.int IntKind.i64 0, AV.nilsl]),
    C.op none (some 12) (O.ldn [CK.str, CK.int IntKind.i64] (Opd.t 1)),
    C.op none (some 13) (O.call 60 [Opd.t 12, Opd.c (AV.int IntKind.i64 16)]),
    C.op none (some 11) (O.mv (Opd.t 13)), C.op none (some 14) (O.ext (Opd.t 11) 0),
    C.op none (some 15) (O.ext (Opd.t 11) 1), C.op none none (O.st 2 (Opd.t 1) (Opd.t 14)),
    C.op none (some 4) (O.mv (Opd.t 15)), C.op none (some 17) (O.ldn [CK.str, CK.int IntKind.i64] (Opd.t 1)),
    C.op none (some 18) (O.call 60 [Opd.t 17, Opd.c (AV.int IntKind.i64 16)]),
    C.op none (some 16) (O.mv (Opd.t 18)), C.op none (some 19) (O.ext (Opd.t 16) 0),
    C.op none (some 20) (O.ext (Opd.t 16) 1), C.op none none (O.st 2 (Opd.t 1) (Opd.t 19)),
    C.op none (some 5) (O.mv (Opd.t 20)), C.op none (some 22) (O.ldn [CK.str, CK.int IntKind.i64] (Opd.t 1)),
    C.op none (some 23) (O.call 60 [Opd.t 22, Opd.c (AV.int IntKind.i64 128)]),
    C.op none (some 21) (O.mv (Opd.t 23)), C.op none (some 24) (O.ext (Opd.t 21) 0),
    C.op none (some 25) (O.ext (Opd.t 21) 1), C.op none none (O.st 2 (Opd.t 1) (Opd.t 24)),
    C.op none (some 6) (O.mv (Opd.t 25)), C.op none (some 26) (O.mv (Opd.t 4)), C.op none (some 27) (O.mv (Opd.t 5)),
    C.op none (some 28)
      (O.build [AV.int IntKind.i64 0, AV.int IntKind.i64 0, AV.nilsl]
        [(0, 1, Opd.t 26), (1, 1, Opd.t 27)]),
    C.op none (some 7) (O.alloc [AV.int IntKind.i64 0, AV.int IntKind.i64 0, AV.nilsl]),
    C.op none none (O.st 3 (Opd.t 7) (Opd.t 28)), C.op none (some 8) (O.mv (Opd.c (AV.int IntKind.i64 0))),
    C.blk 0
      [C.loop
          [C.op none (some 29) (O.mv (Opd.t 8)), C.op none (some 30) (O.mv (Opd.t 6)),
            C.op none (some 31) (O.bin BinOp.lss (Opd.t 29) (Opd.t 30)), C.op none (some 32) (O.mv (Opd.t 31)),
            C.op (some (32, true)) (some 33) (O.fad 1 (Opd.t 1)),
            C.op (some (32, true)) (some 34) (O.ld (CK.int IntKind.i64) (Opd.t 33)),
            C.op (some (32, true)) (some 35) (O.bin BinOp.eql (Opd.t 34) (Opd.c (AV.int IntKind.i64 0))),
            C.op none (some 36) (O.pick (Opd.t 32) (Opd.t 35) (Opd.c (AV.bool false))), C.cond (Opd.t 36) [] [C.exit 0],
            C.blk 1
              [C.op none (some 40) (O.ldn [CK.str, CK.int IntKind.i64] (Opd.t 1)),
                C.op none (some 41) (O.call 68 [Opd.t 40]), C.op none (some 39) (O.mv (Opd.t 41)),
                C.op none (some 42) (O.ext (Opd.t 39) 0), C.op none (some 43) (O.ext (Opd.t 39) 1),
                C.op none (some 9) (O.alloc [AV.str [], AV.int IntKind.i64 0]),
                C.op none (some 10) (O.alloc [AV.int IntKind.i64 0, AV.int IntKind.i64 0]),
                C.op none none (O.st 2 (Opd.t 9) (Opd.t 42)), C.op none none (O.st 2 (Opd.t 10) (Opd.t 43)),
                C.op none (some 44) (O.ldn [CK.str, CK.int IntKind.i64] (Opd.t 9)),
                C.op none none (O.st 2 (Opd.t 1) (Opd.t 44)), C.op none (some 45) (O.fad 2 (Opd.t 7)),
                C.op none (some 46) (O.ld CK.any (Opd.t 45)),
                C.op none (some 47) (O.ldn [CK.int IntKind.i64, CK.int IntKind.i64] (Opd.t 10)),
                C.op none (some 48)
                  (O.bsl 2 [AV.int IntKind.i64 0, AV.int IntKind.i64 0] 1 [(0, Opd.t 47)]),
                C.op none (some 49) (O.app 2 (Opd.t 46) (Opd.t 48)), C.op none (some 50) (O.fad 2 (Opd.t 7)),
                C.op none none (O.st 1 (Opd.t 50) (Opd.t 49))],
            C.op none (some 37) (O.mv (Opd.t 8)),
            C.op none (some 38) (O.bin BinOp.add (Opd.t 37) (Opd.c (AV.int IntKind.i64 1))),
            C.op none (some 8) (O.mv (Opd.t 38))]],
    C.draw d65_0,
    C.ret]
def r65 : List RV := [RV.cn 2 2, RV.cn 3 3]
theorem c65_ok : cC Try.prog Try.f65.ntmps (Try.f65.body.getD .skip) = some c65 := by kernel_rfl

def c66 : List C :=
  [C.op none (some 4) (O.mv (Opd.c (AV.int IntKind.u32 0))), C.op none (some 8) (O.mv (Opd.t 0)),
    C.op none (some 9) (O.un UnOp.xor (Opd.t 8)), C.op none (some 0) (O.mv (Opd.t 9)),
    C.op none (some 10) (O.mv (Opd.t 1)), C.op none (some 11) (O.len false (Opd.t 10)),
    C.op none (some 12) (O.mv (Opd.c (AV.int IntKind.i64 0))),
    C.blk 0
      [C.loop
          [C.op none (some 13) (O.bin BinOp.lss (Opd.t 12) (Opd.t 11)), C.cond (Opd.t 13) [] [C.exit 0],
            C.blk 1
              [C.op none (some 14) (O.iad 1 (Opd.t 10) (Opd.t 12)), C.op none (some 15) (O.ld CK.str (Opd.t 14)),
                C.op none (some 6) (O.mv (Opd.t 15)), C.op none (some 16) (O.mv (Opd.t 6)),
                C.op none (some 17) (O.len true (Opd.t 16)),
                C.op none (some 18) (O.mv (Opd.c (AV.int IntKind.i64 0))),
                C.blk 2
                  [C.loop
                      [C.op none (some 19) (O.bin BinOp.lss (Opd.t 18) (Opd.t 17)), C.cond (Opd.t 19) [] [C.exit 2],
                        C.blk 3
                          [C.op none (some 20) (O.mv (Opd.t 18)), C.op none (some 7) (O.mv (Opd.t 20)),
                            C.op none (some 21) (O.mv (Opd.t 0)),
                            C.op none (some 22) (O.bin BinOp.shr (Opd.t 21) (Opd.c (AV.int IntKind.u64 8))),
                            C.op none (some 23) (O.mv (Opd.t 0)), C.op none (some 24) (O.mv (Opd.t 6)),
                            C.op none (some 25) (O.mv (Opd.t 7)), C.op none (some 26) (O.ist (Opd.t 24) (Opd.t 25)),
                            C.op none (some 27) (O.cvi IntKind.u32 (Opd.t 26)),
                            C.op none (some 28) (O.bin BinOp.xor (Opd.t 23) (Opd.t 27)),
                            C.op none (some 29)
                              (O.bin BinOp.and (Opd.t 28) (Opd.c (AV.int IntKind.u32 255))),
                            C.op none (some 30) (O.call 69 [Opd.t 29]),
                            C.op none (some 31) (O.bin BinOp.xor (Opd.t 22) (Opd.t 30)),
                            C.op none (some 0) (O.mv (Opd.t 31))],
                        C.op none (some 32) (O.bin BinOp.add (Opd.t 18) (Opd.c (AV.int IntKind.i64 1))),
                        C.op none (some 18) (O.mv (Opd.t 32))]]],
            C.op none (some 33) (O.bin BinOp.add (Opd.t 12) (Opd.c (AV.int IntKind.i64 1))),
            C.op none (some 12) (O.mv (Opd.t 33))]],
    C.op none (some 34) (O.mv (Opd.t 0)), C.op none (some 35) (O.un UnOp.xor (Opd.t 34)),
    C.op none (some 4) (O.mv (Opd.t 35)), C.ret]
def r66 : List RV := [RV.t 4]
theorem c66_ok : cC Try.prog Try.f66.ntmps (Try.f66.body.getD .skip) = some c66 := by kernel_rfl

def c67 : List C :=
  [C.op none (some 2) (O.mv (Opd.c (AV.int IntKind.u64 0))),
    C.op none (some 3) (O.mv (Opd.c (AV.int IntKind.u64 1))),
    C.op none (some 4) (O.mv (Opd.c (AV.int IntKind.i64 0))),
    C.blk 0
      [C.loop
          [C.op none (some 5) (O.mv (Opd.t 4)), C.op none (some 6) (O.mv (Opd.t 0)),
            C.op none (some 7) (O.bin BinOp.lss (Opd.t 5) (Opd.t 6)), C.cond (Opd.t 7) [] [C.exit 0],
            C.blk 1
              [C.op none (some 10) (O.mv (Opd.t 3)),
                C.op none (some 11) (O.bin BinOp.mul (Opd.t 10) (Opd.c (AV.int IntKind.u64 128))),
                C.op none (some 3) (O.mv (Opd.t 11))],
            C.op none (some 8) (O.mv (Opd.t 4)),
            C.op none (some 9) (O.bin BinOp.add (Opd.t 8) (Opd.c (AV.int IntKind.i64 1))),
            C.op none (some 4) (O.mv (Opd.t 9))]],
    C.op none (some 12) (O.mv (Opd.t 3)), C.op none (some 2) (O.mv (Opd.t 12)), C.ret]
def r67 : List RV := [RV.t 2]
theorem c67_ok : cC Try.prog Try.f67.ntmps (Try.f67.body.getD .skip) = some c67 := by kernel_rfl

def d68_0 : List It :=
  [(none, some 34, O.ldn [CK.str, CK.int IntKind.i64] (Opd.t 6), []),
            (none, some 35, O.ldn [CK.int IntKind.i64, CK.int IntKind.i64] (Opd.t 5), []),
            (none, none, O.st 2 (Opd.t 2) (Opd.t 34), [0, 0]),
            (none, none, O.st 2 (Opd.t 3) (Opd.t 35), [1, 2, 0, 1, 2])]
def o68_0 : List (Nat × Bool) := [(0, false), (1, false), (2, true), (3, true)]
def l68_0 : List (Nat × Bool × It) :=
  [(0, false, (none, some 34, O.ldn [CK.str, CK.int IntKind.i64] (Opd.t 6), [])),
   (1, false, (none, some 35, O.ldn [CK.int IntKind.i64, CK.int IntKind.i64] (Opd.t 5), [])),
   (2, true, (none, none, O.st 2 (Opd.t 2) (Opd.t 34), [0, 0])),
   (3, true, (none, none, O.st 2 (Opd.t 3) (Opd.t 35), [1, 2, 0, 1, 2]))]
theorem l68_0_ok : okDraw d68_0 o68_0 = true ∧ mkL d68_0 o68_0 = some l68_0 := ⟨by kernel_rfl, by kernel_rfl⟩

def d68_1 : List It :=
  [(none, some 36, O.ldn [CK.str, CK.int IntKind.i64] (Opd.t 1), []),
        (none, some 37, O.ldn [CK.int IntKind.i64, CK.int IntKind.i64] (Opd.t 5), []),
        (none, none, O.st 2 (Opd.t 2) (Opd.t 36), [0, 0]), (none, none, O.st 2 (Opd.t 3) (Opd.t 37), [1, 2, 0, 1, 2])]
def o68_1 : List (Nat × Bool) := [(0, false), (1, false), (2, true), (3, true)]
def l68_1 : List (Nat × Bool × It) :=
  [(0, false, (none, some 36, O.ldn [CK.str, CK.int IntKind.i64] (Opd.t 1), [])),
   (1, false, (none, some 37, O.ldn [CK.int IntKind.i64, CK.int IntKind.i64] (Opd.t 5), [])),
   (2, true, (none, none, O.st 2 (Opd.t 2) (Opd.t 36), [0, 0])),
   (3, true, (none, none, O.st 2 (Opd.t 3) (Opd.t 37), [1, 2, 0, 1, 2]))]
theorem l68_1_ok : okDraw d68_1 o68_1 = true ∧ mkL d68_1 o68_1 = some l68_1 := ⟨by kernel_rfl, by kernel_rfl⟩

def c68 : List C :=
  [C.op none (some 1) (O.box (Opd.t 0)), C.op none (some 2) (O.alloc [AV.str [], AV.int IntKind.i64 0]),
    C.op none (some 3) (O.alloc [AV.int IntKind.i64 0, AV.int IntKind.i64 0]),
    C.op none (some 9) (O.ldn [CK.str, CK.int IntKind.i64] (Opd.t 1)),
    C.op none (some 10) (O.call 60 [Opd.t 9, Opd.c (AV.int IntKind.i64 22)]),
    C.op none (some 8) (O.mv (Opd.t 10)), C.op none (some 11) (O.ext (Opd.t 8) 0),
    C.op none (some 12) (O.ext (Opd.t 8) 1), C.op none none (O.st 2 (Opd.t 1) (Opd.t 11)),
    C.op none (some 4) (O.mv (Opd.t 12)), C.op none (some 13) (O.fad 1 (Opd.t 1)),
    C.op none (some 14) (O.ld (CK.int IntKind.i64) (Opd.t 13)),
    C.op none (some 15) (O.bin BinOp.eql (Opd.t 14) (Opd.c (AV.int IntKind.i64 0))),
    C.op none (some 16) (O.mv (Opd.t 15)), C.op (some (16, true)) (some 17) (O.mv (Opd.t 4)),
    C.op (some (16, true)) (some 18) (O.bin BinOp.eql (Opd.t 17) (Opd.c (AV.int IntKind.i64 0))),
    C.op none (some 19) (O.pick (Opd.t 16) (Opd.t 18) (Opd.c (AV.bool false))),
    C.cond (Opd.t 19)
      [C.op none (some 20) (O.ldn [CK.str, CK.int IntKind.i64] (Opd.t 1)),
        C.op none (some 21) (O.call 63 [Opd.t 20, Opd.c (AV.int IntKind.i64 14)]),
        C.op none (some 22) (O.build [AV.int IntKind.i64 0, AV.int IntKind.i64 0] []),
        C.op none none (O.st 2 (Opd.t 2) (Opd.t 21)), C.op none none (O.st 2 (Opd.t 3) (Opd.t 22)), C.ret]
      [],
    C.op none (some 23) (O.mv (Opd.t 4)),
    C.op none (some 24)
      (O.build [AV.int IntKind.i64 0, AV.int IntKind.i64 0] [(0, 1, Opd.t 23)]),
    C.op none (some 5) (O.alloc [AV.int IntKind.i64 0, AV.int IntKind.i64 0]),
    C.op none none (O.st 2 (Opd.t 5) (Opd.t 24)), C.op none (some 25) (O.mv (Opd.t 4)),
    C.op none (some 26) (O.call 16 [Opd.t 25]),
    C.cond (Opd.t 26)
      [C.op none (some 28) (O.ldn [CK.str, CK.int IntKind.i64] (Opd.t 1)), C.op none (some 29) (O.call 58 [Opd.t 28]),
        C.op none (some 27) (O.mv (Opd.t 29)), C.op none (some 30) (O.ext (Opd.t 27) 0),
        C.op none (some 31) (O.ext (Opd.t 27) 1),
        C.op none (some 6) (O.alloc [AV.str [], AV.int IntKind.i64 0]),
        C.op none none (O.st 2 (Opd.t 6) (Opd.t 30)), C.op none (some 7) (O.mv (Opd.t 31)),
        C.op none (some 32) (O.mv (Opd.t 7)), C.op none (some 33) (O.fad 1 (Opd.t 5)),
        C.op none none (O.st 1 (Opd.t 33) (Opd.t 32)),
        C.draw d68_0,
        C.ret]
      [],
    C.draw d68_1,
    C.ret]
def r68 : List RV := [RV.cn 2 2, RV.cn 3 2]
theorem c68_ok : cC Try.prog Try.f68.ntmps (Try.f68.body.getD .skip) = some c68 := by kernel_rfl

def c69 : List C :=
  [C.op none (some 2) (O.mv (Opd.c (AV.int IntKind.u32 0))),
    C.op none (some 3) (O.mv (Opd.c (AV.int IntKind.i64 0))),
    C.blk 0
      [C.loop
          [C.op none (some 4) (O.bin BinOp.lss (Opd.t 3) (Opd.c (AV.int IntKind.i64 8))),
            C.cond (Opd.t 4) [] [C.exit 0],
            C.blk 1
              [C.op none (some 5) (O.mv (Opd.t 0)),
                C.op none (some 6) (O.bin BinOp.and (Opd.t 5) (Opd.c (AV.int IntKind.u32 1))),
                C.op none (some 7) (O.bin BinOp.eql (Opd.t 6) (Opd.c (AV.int IntKind.u32 1))),
                C.cond (Opd.t 7)
                  [C.op none (some 8) (O.mv (Opd.t 0)),
                    C.op none (some 9) (O.bin BinOp.shr (Opd.t 8) (Opd.c (AV.int IntKind.u64 1))),
                    C.op none (some 10) (O.bin BinOp.xor (Opd.t 9) (Opd.c (AV.int IntKind.u32 3988292384))),
                    C.op none (some 0) (O.mv (Opd.t 10))]
                  [C.op none (some 11) (O.mv (Opd.t 0)),
                    C.op none (some 12) (O.bin BinOp.shr (Opd.t 11) (Opd.c (AV.int IntKind.u64 1))),
                    C.op none (some 0) (O.mv (Opd.t 12))]],
            C.op none (some 13) (O.bin BinOp.add (Opd.t 3) (Opd.c (AV.int IntKind.i64 1))),
            C.op none (some 3) (O.mv (Opd.t 13))]],
    C.op none (some 14) (O.mv (Opd.t 0)), C.op none (some 2) (O.mv (Opd.t 14)), C.ret]
def r69 : List RV := [RV.t 2]
theorem c69_ok : cC Try.prog Try.f69.ntmps (Try.f69.body.getD .skip) = some c69 := by kernel_rfl

end Go.AEX
