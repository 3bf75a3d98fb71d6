/- Compact codes, printed by gen.py from the given form; each is checked by its theorem. -/
import Derived.Test.YtbbokkienmicmaaAEzh
import Derived.Test.YtbbokkienmicmaaProg
import Derived.KernelRfl
namespace Go.AEX
open Go Go.AE Go.Proofs
set_option maxRecDepth 100000

def d3_0 : List It :=
  [(none, some 30, O.mv (Opd.t 0), []), (none, some 31, O.mv (Opd.t 6), []),
                    (none, some 32, O.iad 2 (Opd.t 30) (Opd.t 31), [0, 1]), (none, some 33, O.fad 0 (Opd.t 32), [2]),
                    (none, some 34, O.ld CK.bool (Opd.t 33), [3]), (none, some 35, O.mv (Opd.t 0), []),
                    (none, some 36, O.mv (Opd.t 6), []), (none, some 37, O.iad 2 (Opd.t 35) (Opd.t 36), [5, 6]),
                    (none, some 38, O.fad 1 (Opd.t 37), [7]), (none, some 39, O.ld CK.str (Opd.t 38), [8]),
                    (none, some 40, O.call 14 [Opd.t 39, Opd.c (AV.int IntKind.i64 210)], [9]),
                    (none, some 41, O.build [AV.bool false, AV.str []] [(0, 1, Opd.t 34), (1, 1, Opd.t 40)], [4, 10]),
                    (none, some 7, O.alloc [AV.bool false, AV.str []], []),
                    (none, none, O.st 2 (Opd.t 7) (Opd.t 41), [12, 11, 10, 0, 1, 2, 3, 4, 5, 6, 7, 8, 9, 10, 11, 12])]
def o3_0 : List (Nat × Bool) := [(0, false), (1, false), (2, false), (3, false), (4, false), (5, false), (6, false), (7, false), (8, false), (9, false), (10, true), (11, false), (12, true), (13, true)]
def l3_0 : List (Nat × Bool × It) :=
  [(0, false, (none, some 30, O.mv (Opd.t 0), [])),
   (1, false, (none, some 31, O.mv (Opd.t 6), [])),
   (2, false, (none, some 32, O.iad 2 (Opd.t 30) (Opd.t 31), [0, 1])),
   (3, false, (none, some 33, O.fad 0 (Opd.t 32), [2])),
   (4, false, (none, some 34, O.ld CK.bool (Opd.t 33), [3])),
   (5, false, (none, some 35, O.mv (Opd.t 0), [])),
   (6, false, (none, some 36, O.mv (Opd.t 6), [])),
   (7, false, (none, some 37, O.iad 2 (Opd.t 35) (Opd.t 36), [5, 6])),
   (8, false, (none, some 38, O.fad 1 (Opd.t 37), [7])),
   (9, false, (none, some 39, O.ld CK.str (Opd.t 38), [8])),
   (10, true, (none, some 40, O.call 14 [Opd.t 39, Opd.c (AV.int IntKind.i64 210)], [9])),
   (11, false, (none, some 41, O.build [AV.bool false, AV.str []] [(0, 1, Opd.t 34), (1, 1, Opd.t 40)], [4, 10])),
   (12, true, (none, some 7, O.alloc [AV.bool false, AV.str []], [])),
   (13, true, (none, none, O.st 2 (Opd.t 7) (Opd.t 41), [12, 11, 10, 0, 1, 2, 3, 4, 5, 6, 7, 8, 9, 10, 11, 12]))]
def o3_0b : List (Nat × Bool) := [(0, false), (1, false), (2, false), (3, false), (4, false), (5, false), (6, false), (7, false), (8, false), (9, false), (12, true), (10, true), (11, false), (13, true)]
def l3_0b : List (Nat × Bool × It) :=
  [(0, false, (none, some 30, O.mv (Opd.t 0), [])),
   (1, false, (none, some 31, O.mv (Opd.t 6), [])),
   (2, false, (none, some 32, O.iad 2 (Opd.t 30) (Opd.t 31), [0, 1])),
   (3, false, (none, some 33, O.fad 0 (Opd.t 32), [2])),
   (4, false, (none, some 34, O.ld CK.bool (Opd.t 33), [3])),
   (5, false, (none, some 35, O.mv (Opd.t 0), [])),
   (6, false, (none, some 36, O.mv (Opd.t 6), [])),
   (7, false, (none, some 37, O.iad 2 (Opd.t 35) (Opd.t 36), [5, 6])),
   (8, false, (none, some 38, O.fad 1 (Opd.t 37), [7])),
   (9, false, (none, some 39, O.ld CK.str (Opd.t 38), [8])),
   (12, true, (none, some 7, O.alloc [AV.bool false, AV.str []], [])),
   (10, true, (none, some 40, O.call 14 [Opd.t 39, Opd.c (AV.int IntKind.i64 210)], [9])),
   (11, false, (none, some 41, O.build [AV.bool false, AV.str []] [(0, 1, Opd.t 34), (1, 1, Opd.t 40)], [4, 10])),
   (13, true, (none, none, O.st 2 (Opd.t 7) (Opd.t 41), [12, 11, 10, 0, 1, 2, 3, 4, 5, 6, 7, 8, 9, 10, 11, 12]))]
theorem l3_0_ok : okDraw2 d3_0 o3_0 o3_0b 10 12 = true ∧ mkL d3_0 o3_0 = some l3_0 ∧ mkL d3_0 o3_0b = some l3_0b := ⟨by kernel_rfl, by kernel_rfl, by kernel_rfl⟩

def c3 : List C :=
  [C.op none (some 2) (O.mv (Opd.c (AV.bool false))), C.op none (some 18) (O.call 13 []),
    C.op none (some 19) (O.un UnOp.not (Opd.t 18)),
    C.cond (Opd.t 19) [C.op none (some 2) (O.mv (Opd.c (AV.bool false))), C.ret] [],
    C.op none (some 3) (O.alloc [AV.str [], AV.int IntKind.i64 0]),
    C.op none (some 4) (O.mv (Opd.c (AV.str []))), C.op none (some 5) (O.mv (Opd.c (AV.int IntKind.i64 0))),
    C.op none (some 6) (O.mv (Opd.c (AV.int IntKind.i64 0))),
    C.blk 0
      [C.loop
          [C.op none (some 20) (O.mv (Opd.t 6)), C.op none (some 21) (O.mv (Opd.t 0)),
            C.op none (some 22) (O.len false (Opd.t 21)), C.op none (some 23) (O.bin BinOp.lss (Opd.t 20) (Opd.t 22)),
            C.op none (some 24) (O.mv (Opd.t 23)), C.op (some (24, true)) (some 25) (O.mv (Opd.t 6)),
            C.op (some (24, true)) (some 26) (O.bin BinOp.lss (Opd.t 25) (Opd.c (AV.int IntKind.i64 60))),
            C.op none (some 27) (O.pick (Opd.t 24) (Opd.t 26) (Opd.c (AV.bool false))), C.cond (Opd.t 27) [] [C.exit 0],
            C.blk 1
              [C.draw d3_0,
                C.op none (some 43) (O.ldn [CK.bool, CK.str] (Opd.t 7)),
                C.op none (some 44) (O.call 15 [Opd.t 3, Opd.t 43]), C.op none (some 42) (O.mv (Opd.t 44)),
                C.op none (some 45) (O.ext (Opd.t 42) 0), C.op none (some 46) (O.ext (Opd.t 42) 1),
                C.op none (some 47) (O.ext (Opd.t 42) 2), C.op none (some 8) (O.mv (Opd.t 45)),
                C.op none (some 9) (O.mv (Opd.t 46)), C.op none (some 10) (O.mv (Opd.t 47)),
                C.op none (some 49) (O.mv (Opd.t 4)), C.op none (some 50) (O.mv (Opd.t 5)),
                C.op none (some 51) (O.ldn [CK.bool, CK.str] (Opd.t 7)),
                C.op none (some 52) (O.call 16 [Opd.t 49, Opd.t 50, Opd.t 51]), C.op none (some 48) (O.mv (Opd.t 52)),
                C.op none (some 53) (O.ext (Opd.t 48) 0), C.op none (some 54) (O.ext (Opd.t 48) 1),
                C.op none (some 55) (O.ext (Opd.t 48) 2), C.op none (some 56) (O.ext (Opd.t 48) 3),
                C.op none (some 57) (O.ext (Opd.t 48) 4), C.op none (some 11) (O.mv (Opd.t 53)),
                C.op none (some 12) (O.mv (Opd.t 54)), C.op none (some 13) (O.mv (Opd.t 55)),
                C.op none (some 14) (O.mv (Opd.t 56)), C.op none (some 15) (O.mv (Opd.t 57)),
                C.op none (some 58) (O.mv (Opd.t 11)), C.op none (some 59) (O.mv (Opd.t 12)),
                C.op none (some 4) (O.mv (Opd.t 58)), C.op none (some 5) (O.mv (Opd.t 59)),
                C.op none (some 61) (O.call 17 [Opd.t 3]), C.op none (some 60) (O.mv (Opd.t 61)),
                C.op none (some 62) (O.ext (Opd.t 60) 0), C.op none (some 63) (O.ext (Opd.t 60) 1),
                C.op none (some 16) (O.mv (Opd.t 62)), C.op none (some 17) (O.mv (Opd.t 63)),
                C.op none (some 64) (O.mv (Opd.t 8)), C.op none (some 65) (O.mv (Opd.t 13)),
                C.op none (some 66) (O.bin BinOp.neq (Opd.t 64) (Opd.t 65)), C.op none (some 67) (O.mv (Opd.t 66)),
                C.op (some (67, false)) (some 68) (O.mv (Opd.t 9)), C.op (some (67, false)) (some 69) (O.mv (Opd.t 14)),
                C.op (some (67, false)) (some 70) (O.eqb true (Opd.t 68) (Opd.t 69)),
                C.op none (some 71) (O.pick (Opd.t 67) (Opd.c (AV.bool true)) (Opd.t 70)),
                C.op none (some 72) (O.mv (Opd.t 71)), C.op (some (72, false)) (some 73) (O.mv (Opd.t 10)),
                C.op (some (72, false)) (some 74) (O.mv (Opd.t 15)),
                C.op (some (72, false)) (some 75) (O.bin BinOp.neq (Opd.t 73) (Opd.t 74)),
                C.op none (some 76) (O.pick (Opd.t 72) (Opd.c (AV.bool true)) (Opd.t 75)),
                C.op none (some 77) (O.mv (Opd.t 76)), C.op (some (77, false)) (some 78) (O.mv (Opd.t 16)),
                C.op (some (77, false)) (some 79) (O.mv (Opd.t 5)),
                C.op (some (77, false)) (some 80) (O.bin BinOp.neq (Opd.t 78) (Opd.t 79)),
                C.op none (some 81) (O.pick (Opd.t 77) (Opd.c (AV.bool true)) (Opd.t 80)),
                C.op none (some 82) (O.mv (Opd.t 81)), C.op (some (82, false)) (some 83) (O.mv (Opd.t 17)),
                C.op (some (82, false)) (some 84) (O.mv (Opd.t 4)),
                C.op (some (82, false)) (some 85) (O.len true (Opd.t 84)),
                C.op (some (82, false)) (some 86) (O.bin BinOp.neq (Opd.t 83) (Opd.t 85)),
                C.op none (some 87) (O.pick (Opd.t 82) (Opd.c (AV.bool true)) (Opd.t 86)),
                C.cond (Opd.t 87) [C.op none (some 2) (O.mv (Opd.c (AV.bool false))), C.ret] []],
            C.op none (some 28) (O.mv (Opd.t 6)),
            C.op none (some 29) (O.bin BinOp.add (Opd.t 28) (Opd.c (AV.int IntKind.i64 1))),
            C.op none (some 6) (O.mv (Opd.t 29))]],
    C.op none (some 2) (O.mv (Opd.c (AV.bool true))), C.ret]
def r3 : List RV := [RV.t 2]
theorem c3_ok : cC Try.prog Try.f3.ntmps (Try.f3.body.getD .skip) = some c3 := by kernel_rfl

def c4 : List C :=
  [C.op none (some 4) (O.mv (Opd.c (AV.bool false))), C.op none (some 18) (O.call 13 []),
    C.op none (some 19) (O.un UnOp.not (Opd.t 18)),
    C.cond (Opd.t 19) [C.op none (some 4) (O.mv (Opd.c (AV.bool false))), C.ret] [],
    C.op none (some 20)
      (O.mksl 1 [AV.int IntKind.u8 0] 1 (Opd.c (AV.int IntKind.i64 200))
        (Opd.c (AV.int IntKind.i64 200))),
    C.op none (some 21) (O.cvb (Opd.t 20)), C.op none (some 5) (O.mv (Opd.t 21)),
    C.op none (some 6) (O.alloc [AV.str [], AV.int IntKind.i64 0]),
    C.op none (some 22) (O.mv (Opd.c (AV.int IntKind.i64 0))),
    C.blk 0
      [C.loop
          [C.op none (some 23) (O.bin BinOp.lss (Opd.t 22) (Opd.c (AV.int IntKind.i64 327))),
            C.cond (Opd.t 23) [] [C.exit 0],
            C.blk 1
              [C.op none (some 25) (O.mv (Opd.t 5)),
                C.op none (some 26) (O.build [AV.bool false, AV.str []] [(1, 1, Opd.t 25)]),
                C.op none (some 27) (O.call 15 [Opd.t 6, Opd.t 26]), C.op none (some 24) (O.mv (Opd.t 27)),
                C.op none (some 28) (O.ext (Opd.t 24) 0), C.op none (some 29) (O.ext (Opd.t 24) 1),
                C.op none (some 30) (O.ext (Opd.t 24) 2), C.op none (some 7) (O.mv (Opd.t 28)),
                C.op none (some 8) (O.mv (Opd.t 29)), C.op none (some 9) (O.mv (Opd.t 30)),
                C.op none (some 31) (O.mv (Opd.t 8)), C.op none (some 32) (O.mv (Opd.t 31)),
                C.op (some (32, false)) (some 33) (O.mv (Opd.t 9)),
                C.op (some (32, false)) (some 34)
                  (O.bin BinOp.neq (Opd.t 33) (Opd.c (AV.int IntKind.i64 0))),
                C.op none (some 35) (O.pick (Opd.t 32) (Opd.c (AV.bool true)) (Opd.t 34)),
                C.cond (Opd.t 35) [C.op none (some 4) (O.mv (Opd.c (AV.bool false))), C.ret] []],
            C.op none (some 36) (O.bin BinOp.add (Opd.t 22) (Opd.c (AV.int IntKind.i64 1))),
            C.op none (some 22) (O.mv (Opd.t 36))]],
    C.op none (some 10) (O.mv (Opd.c (AV.int IntKind.i64 136))), C.op none (some 37) (O.mv (Opd.t 0)),
    C.op none (some 38) (O.bin BinOp.and (Opd.t 37) (Opd.c (AV.int IntKind.i64 255))),
    C.op none (some 39) (O.bin BinOp.rem (Opd.t 38) (Opd.c (AV.int IntKind.i64 201))),
    C.op none (some 0) (O.mv (Opd.t 39)), C.op none (some 41) (O.call 17 [Opd.t 6]),
    C.op none (some 40) (O.mv (Opd.t 41)), C.op none (some 42) (O.ext (Opd.t 40) 0),
    C.op none (some 43) (O.ext (Opd.t 40) 1), C.op none (some 11) (O.mv (Opd.t 42)),
    C.op none (some 12) (O.mv (Opd.t 43)), C.op none (some 45) (O.mv (Opd.t 1)),
    C.op none (some 46) (O.un UnOp.not (Opd.t 45)), C.op none (some 47) (O.mv (Opd.t 5)),
    C.op none (some 48) (O.mv (Opd.t 0)), C.op none (some 49) (O.ssl (Opd.t 47) none (some (Opd.t 48))),
    C.op none (some 50) (O.build [AV.bool false, AV.str []] [(0, 1, Opd.t 46), (1, 1, Opd.t 49)]),
    C.op none (some 51) (O.call 15 [Opd.t 6, Opd.t 50]), C.op none (some 44) (O.mv (Opd.t 51)),
    C.op none (some 52) (O.ext (Opd.t 44) 0), C.op none (some 53) (O.ext (Opd.t 44) 1),
    C.op none (some 54) (O.ext (Opd.t 44) 2), C.op none (some 13) (O.mv (Opd.t 52)),
    C.op none (some 14) (O.mv (Opd.t 53)), C.op none (some 15) (O.mv (Opd.t 54)),
    C.op none (some 56) (O.call 17 [Opd.t 6]), C.op none (some 55) (O.mv (Opd.t 56)),
    C.op none (some 57) (O.ext (Opd.t 55) 0), C.op none (some 58) (O.ext (Opd.t 55) 1),
    C.op none (some 16) (O.mv (Opd.t 57)), C.op none (some 17) (O.mv (Opd.t 58)), C.op none (some 59) (O.mv (Opd.t 0)),
    C.op none (some 60) (O.mv (Opd.t 10)), C.op none (some 61) (O.bin BinOp.gtr (Opd.t 59) (Opd.t 60)),
    C.cond (Opd.t 61)
      [C.op none (some 62) (O.mv (Opd.t 15)),
        C.op none (some 63) (O.bin BinOp.eql (Opd.t 62) (Opd.c (AV.int IntKind.i64 3))),
        C.op none (some 64) (O.mv (Opd.t 63)), C.op (some (64, true)) (some 65) (O.mv (Opd.t 14)),
        C.op (some (64, true)) (some 66) (O.un UnOp.not (Opd.t 65)),
        C.op none (some 67) (O.pick (Opd.t 64) (Opd.t 66) (Opd.c (AV.bool false))),
        C.op none (some 68) (O.mv (Opd.t 67)), C.op (some (68, true)) (some 69) (O.mv (Opd.t 11)),
        C.op (some (68, true)) (some 70) (O.mv (Opd.t 16)),
        C.op (some (68, true)) (some 71) (O.bin BinOp.eql (Opd.t 69) (Opd.t 70)),
        C.op none (some 72) (O.pick (Opd.t 68) (Opd.t 71) (Opd.c (AV.bool false))),
        C.op none (some 73) (O.mv (Opd.t 72)), C.op (some (73, true)) (some 74) (O.mv (Opd.t 12)),
        C.op (some (73, true)) (some 75) (O.mv (Opd.t 17)),
        C.op (some (73, true)) (some 76) (O.bin BinOp.eql (Opd.t 74) (Opd.t 75)),
        C.op none (some 77) (O.pick (Opd.t 73) (Opd.t 76) (Opd.c (AV.bool false))),
        C.op none (some 4) (O.mv (Opd.t 77)), C.ret]
      [],
    C.op none (some 78) (O.mv (Opd.t 15)),
    C.op none (some 79) (O.bin BinOp.eql (Opd.t 78) (Opd.c (AV.int IntKind.i64 0))),
    C.op none (some 80) (O.mv (Opd.t 79)), C.op (some (80, true)) (some 81) (O.mv (Opd.t 14)),
    C.op (some (80, true)) (some 82) (O.mv (Opd.t 1)), C.op (some (80, true)) (some 83) (O.un UnOp.not (Opd.t 82)),
    C.op (some (80, true)) (some 84) (O.eqb false (Opd.t 81) (Opd.t 83)),
    C.op none (some 85) (O.pick (Opd.t 80) (Opd.t 84) (Opd.c (AV.bool false))), C.op none (some 86) (O.mv (Opd.t 85)),
    C.op (some (86, true)) (some 87) (O.mv (Opd.t 1)), C.op (some (86, true)) (some 88) (O.mv (Opd.t 87)),
    C.op (some (88, true)) (some 89) (O.mv (Opd.t 17)), C.op (some (88, true)) (some 90) (O.mv (Opd.t 12)),
    C.op (some (88, true)) (some 91) (O.mv (Opd.t 0)),
    C.op (some (88, true)) (some 92) (O.bin BinOp.add (Opd.t 90) (Opd.t 91)),
    C.op (some (88, true)) (some 93) (O.bin BinOp.eql (Opd.t 89) (Opd.t 92)),
    C.op (some (86, true)) (some 94) (O.pick (Opd.t 88) (Opd.t 93) (Opd.c (AV.bool false))),
    C.op (some (86, true)) (some 95) (O.mv (Opd.t 94)), C.op (some (95, false)) (some 96) (O.mv (Opd.t 1)),
    C.op (some (95, false)) (some 97) (O.un UnOp.not (Opd.t 96)), C.op (some (95, false)) (some 98) (O.mv (Opd.t 97)),
    C.op (some (98, true)) (some 99) (O.mv (Opd.t 17)),
    C.op (some (98, true)) (some 100) (O.bin BinOp.eql (Opd.t 99) (Opd.c (AV.int IntKind.i64 0))),
    C.op (some (95, false)) (some 101) (O.pick (Opd.t 98) (Opd.t 100) (Opd.c (AV.bool false))),
    C.op (some (95, false)) (some 102) (O.mv (Opd.t 101)), C.op (some (102, true)) (some 103) (O.mv (Opd.t 16)),
    C.op (some (102, true)) (some 104) (O.bin BinOp.eql (Opd.t 103) (Opd.c (AV.int IntKind.i64 0))),
    C.op (some (95, false)) (some 105) (O.pick (Opd.t 102) (Opd.t 104) (Opd.c (AV.bool false))),
    C.op (some (86, true)) (some 106) (O.pick (Opd.t 95) (Opd.c (AV.bool true)) (Opd.t 105)),
    C.op none (some 107) (O.pick (Opd.t 86) (Opd.t 106) (Opd.c (AV.bool false))), C.op none (some 4) (O.mv (Opd.t 107)),
    C.ret]
def r4 : List RV := [RV.t 4]
theorem c4_ok : cC Try.prog Try.f4.ntmps (Try.f4.body.getD .skip) = some c4 := by kernel_rfl

def c5 : List C :=
  [C.op none (some 2) (O.mv (Opd.c (AV.bool false))), C.op none (some 7) (O.mv (Opd.t 0)),
    C.op none (some 8) (O.call 14 [Opd.t 7, Opd.c (AV.int IntKind.i64 220)]),
    C.op none (some 0) (O.mv (Opd.t 8)), C.op none (some 10) (O.mv (Opd.t 0)),
    C.op none (some 11) (O.call 18 [Opd.t 10]), C.op none (some 9) (O.mv (Opd.t 11)),
    C.op none (some 12) (O.ext (Opd.t 9) 0), C.op none (some 13) (O.ext (Opd.t 9) 1),
    C.op none (some 3) (O.alloc [AV.bool false, AV.str []]), C.op none none (O.st 2 (Opd.t 3) (Opd.t 12)),
    C.op none (some 4) (O.mv (Opd.t 13)), C.op none (some 15) (O.mv (Opd.t 0)),
    C.op none (some 16) (O.call 19 [Opd.t 15]), C.op none (some 14) (O.mv (Opd.t 16)),
    C.op none (some 17) (O.ext (Opd.t 14) 0), C.op none (some 18) (O.ext (Opd.t 14) 1),
    C.op none (some 5) (O.alloc [AV.bool false, AV.str []]), C.op none none (O.st 2 (Opd.t 5) (Opd.t 17)),
    C.op none (some 6) (O.mv (Opd.t 18)), C.op none (some 19) (O.call 13 []), C.op none (some 20) (O.mv (Opd.t 19)),
    C.op (some (20, true)) (some 21) (O.ldn [CK.bool, CK.str] (Opd.t 3)),
    C.op (some (20, true)) (some 22) (O.ldn [CK.bool, CK.str] (Opd.t 5)),
    C.op (some (20, true)) (some 23) (O.eqa false [CK.bool, CK.str] (Opd.t 21) (Opd.t 22)),
    C.op none (some 24) (O.pick (Opd.t 20) (Opd.t 23) (Opd.c (AV.bool false))), C.op none (some 25) (O.mv (Opd.t 24)),
    C.op (some (25, true)) (some 26) (O.mv (Opd.t 4)), C.op (some (25, true)) (some 27) (O.mv (Opd.t 6)),
    C.op (some (25, true)) (some 28) (O.bin BinOp.eql (Opd.t 26) (Opd.t 27)),
    C.op none (some 29) (O.pick (Opd.t 25) (Opd.t 28) (Opd.c (AV.bool false))), C.op none (some 30) (O.mv (Opd.t 29)),
    C.op (some (30, true)) (some 31) (O.mv (Opd.t 6)),
    C.op (some (30, true)) (some 32) (O.bin BinOp.neq (Opd.t 31) (Opd.c (AV.int IntKind.i64 0))),
    C.op (some (30, true)) (some 33) (O.mv (Opd.t 32)),
    C.op (some (33, false)) (some 34) (O.ldn [CK.bool, CK.str] (Opd.t 3)),
    C.op (some (33, false)) (some 35) (O.call 20 [Opd.t 34]), C.op (some (33, false)) (some 36) (O.mv (Opd.t 0)),
    C.op (some (33, false)) (some 37) (O.bin BinOp.eql (Opd.t 35) (Opd.t 36)),
    C.op (some (30, true)) (some 38) (O.pick (Opd.t 33) (Opd.c (AV.bool true)) (Opd.t 37)),
    C.op none (some 39) (O.pick (Opd.t 30) (Opd.t 38) (Opd.c (AV.bool false))), C.op none (some 2) (O.mv (Opd.t 39)),
    C.ret]
def r5 : List RV := [RV.t 2]
theorem c5_ok : cC Try.prog Try.f5.ntmps (Try.f5.body.getD .skip) = some c5 := by kernel_rfl

def d6_0 : List It :=
  [(none, some 57, O.ldn [CK.bool, CK.str] (Opd.t 8), []), (none, some 58, O.mv (Opd.t 5), []),
                    (none, some 59, O.mv (Opd.t 7), []), (none, some 60, O.iad 2 (Opd.t 58) (Opd.t 59), [1, 2]),
                    (none, some 61, O.ldn [CK.bool, CK.str] (Opd.t 60), [3]),
                    (none, some 62, O.eqa true [CK.bool, CK.str] (Opd.t 57) (Opd.t 61), [0, 4]),
                    (none, some 63, O.mv (Opd.t 62), [5]), (some (63, false), some 64, O.mv (Opd.t 10), [6]),
                    (some (63, false), some 65, O.bin BinOp.neq (Opd.t 64) (Opd.c (AV.int IntKind.i64 0)),
                      [7, 6]),
                    (none, some 66, O.pick (Opd.t 63) (Opd.c (AV.bool true)) (Opd.t 65), [6, 8]),
                    (none, some 67, O.mv (Opd.t 66), [9, 6]),
                    (some (67, false), some 68, O.ldn [CK.bool, CK.str] (Opd.t 9), [10]),
                    (some (67, false), some 69, O.ldn [CK.bool, CK.str] (Opd.t 8), [10]),
                    (some (67, false), some 70, O.eqa true [CK.bool, CK.str] (Opd.t 68) (Opd.t 69), [11, 12, 10]),
                    (none, some 71, O.pick (Opd.t 67) (Opd.c (AV.bool true)) (Opd.t 70), [10, 13]),
                    (none, some 72, O.mv (Opd.t 71), [14, 10]), (some (72, false), some 73, O.mv (Opd.t 13), [15]),
                    (some (72, false), some 74, O.bin BinOp.neq (Opd.t 73) (Opd.c (AV.int IntKind.i64 0)),
                      [16, 15]),
                    (none, some 75, O.pick (Opd.t 72) (Opd.c (AV.bool true)) (Opd.t 74), [15, 17]),
                    (none, some 76, O.mv (Opd.t 75), [18, 15]), (some (76, false), some 77, O.mv (Opd.t 12), [19]),
                    (some (76, false), some 78, O.mv (Opd.t 7), [19]),
                    (some (76, false), some 79, O.mv (Opd.t 3), [19]),
                    (some (76, false), some 80, O.len false (Opd.t 79), [22, 19]),
                    (some (76, false), some 81, O.bin BinOp.sub (Opd.t 80) (Opd.c (AV.int IntKind.i64 1)),
                      [23, 19]),
                    (some (76, false), some 82, O.bin BinOp.eql (Opd.t 78) (Opd.t 81), [21, 24, 19]),
                    (some (76, false), some 83, O.eqb true (Opd.t 77) (Opd.t 82), [20, 25, 19]),
                    (none, some 84, O.pick (Opd.t 76) (Opd.c (AV.bool true)) (Opd.t 83), [19, 26]),
                    (none, some 85, O.mv (Opd.t 84), [27, 19]), (some (85, false), some 86, O.mv (Opd.t 12), [28]),
                    (some (85, false), some 87, O.mv (Opd.t 86), [29, 28, 28]),
                    (some (87, true), some 88, O.mv (Opd.t 11), [30]), (some (87, true), some 89, O.mv (Opd.t 0), [30]),
                    (some (87, true), some 90, O.bin BinOp.neq (Opd.t 88) (Opd.t 89), [31, 32, 30]),
                    (some (85, false), some 91, O.pick (Opd.t 87) (Opd.t 90) (Opd.c (AV.bool false)), [30, 33, 28]),
                    (none, some 92, O.pick (Opd.t 85) (Opd.c (AV.bool true)) (Opd.t 91), [28, 34])]
def o6_0 : List (Nat × Bool) := [(0, false), (1, false), (2, false), (3, false), (4, false), (5, false), (6, false), (7, false), (8, false), (9, false), (10, false), (11, false), (12, false), (13, false), (14, false), (15, false), (16, false), (17, false), (18, false), (19, false), (20, false), (21, false), (22, false), (23, false), (24, false), (25, false), (26, false), (27, false), (28, false), (29, false), (30, false), (31, false), (32, false), (33, false), (34, false), (35, false)]
def l6_0 : List (Nat × Bool × It) :=
  [(0, false, (none, some 57, O.ldn [CK.bool, CK.str] (Opd.t 8), [])),
   (1, false, (none, some 58, O.mv (Opd.t 5), [])),
   (2, false, (none, some 59, O.mv (Opd.t 7), [])),
   (3, false, (none, some 60, O.iad 2 (Opd.t 58) (Opd.t 59), [1, 2])),
   (4, false, (none, some 61, O.ldn [CK.bool, CK.str] (Opd.t 60), [3])),
   (5, false, (none, some 62, O.eqa true [CK.bool, CK.str] (Opd.t 57) (Opd.t 61), [0, 4])),
   (6, false, (none, some 63, O.mv (Opd.t 62), [5])),
   (7, false, (some (63, false), some 64, O.mv (Opd.t 10), [6])),
   (8, false, (some (63, false), some 65, O.bin BinOp.neq (Opd.t 64) (Opd.c (AV.int IntKind.i64 0)),
                      [7, 6])),
   (9, false, (none, some 66, O.pick (Opd.t 63) (Opd.c (AV.bool true)) (Opd.t 65), [6, 8])),
   (10, false, (none, some 67, O.mv (Opd.t 66), [9, 6])),
   (11, false, (some (67, false), some 68, O.ldn [CK.bool, CK.str] (Opd.t 9), [10])),
   (12, false, (some (67, false), some 69, O.ldn [CK.bool, CK.str] (Opd.t 8), [10])),
   (13, false, (some (67, false), some 70, O.eqa true [CK.bool, CK.str] (Opd.t 68) (Opd.t 69), [11, 12, 10])),
   (14, false, (none, some 71, O.pick (Opd.t 67) (Opd.c (AV.bool true)) (Opd.t 70), [10, 13])),
   (15, false, (none, some 72, O.mv (Opd.t 71), [14, 10])),
   (16, false, (some (72, false), some 73, O.mv (Opd.t 13), [15])),
   (17, false, (some (72, false), some 74, O.bin BinOp.neq (Opd.t 73) (Opd.c (AV.int IntKind.i64 0)),
                      [16, 15])),
   (18, false, (none, some 75, O.pick (Opd.t 72) (Opd.c (AV.bool true)) (Opd.t 74), [15, 17])),
   (19, false, (none, some 76, O.mv (Opd.t 75), [18, 15])),
   (20, false, (some (76, false), some 77, O.mv (Opd.t 12), [19])),
   (21, false, (some (76, false), some 78, O.mv (Opd.t 7), [19])),
   (22, false, (some (76, false), some 79, O.mv (Opd.t 3), [19])),
   (23, false, (some (76, false), some 80, O.len false (Opd.t 79), [22, 19])),
   (24, false, (some (76, false), some 81, O.bin BinOp.sub (Opd.t 80) (Opd.c (AV.int IntKind.i64 1)),
                      [23, 19])),
   (25, false, (some (76, false), some 82, O.bin BinOp.eql (Opd.t 78) (Opd.t 81), [21, 24, 19])),
   (26, false, (some (76, false), some 83, O.eqb true (Opd.t 77) (Opd.t 82), [20, 25, 19])),
   (27, false, (none, some 84, O.pick (Opd.t 76) (Opd.c (AV.bool true)) (Opd.t 83), [19, 26])),
   (28, false, (none, some 85, O.mv (Opd.t 84), [27, 19])),
   (29, false, (some (85, false), some 86, O.mv (Opd.t 12), [28])),
   (30, false, (some (85, false), some 87, O.mv (Opd.t 86), [29, 28, 28])),
   (31, false, (some (87, true), some 88, O.mv (Opd.t 11), [30])),
   (32, false, (some (87, true), some 89, O.mv (Opd.t 0), [30])),
   (33, false, (some (87, true), some 90, O.bin BinOp.neq (Opd.t 88) (Opd.t 89), [31, 32, 30])),
   (34, false, (some (85, false), some 91, O.pick (Opd.t 87) (Opd.t 90) (Opd.c (AV.bool false)), [30, 33, 28])),
   (35, false, (none, some 92, O.pick (Opd.t 85) (Opd.c (AV.bool true)) (Opd.t 91), [28, 34]))]
theorem l6_0_ok : okDraw d6_0 o6_0 = true ∧ mkL d6_0 o6_0 = some l6_0 := ⟨by kernel_rfl, by kernel_rfl⟩

def c6 : List C :=
  [C.op none (some 2) (O.mv (Opd.c (AV.bool false))), C.op none (some 16) (O.mv (Opd.t 0)),
    C.op none (some 17) (O.call 14 [Opd.t 16, Opd.c (AV.int IntKind.i64 2000)]),
    C.op none (some 0) (O.mv (Opd.t 17)), C.op none (some 19) (O.mv (Opd.t 0)),
    C.op none (some 20) (O.call 21 [Opd.t 19]), C.op none (some 18) (O.mv (Opd.t 20)),
    C.op none (some 21) (O.ext (Opd.t 18) 0), C.op none (some 22) (O.ext (Opd.t 18) 1),
    C.op none (some 3) (O.mv (Opd.t 21)), C.op none (some 4) (O.mv (Opd.t 22)), C.op none (some 23) (O.mv (Opd.t 0)),
    C.op none (some 24) (O.call 22 [Opd.t 23]), C.op none (some 5) (O.mv (Opd.t 24)),
    C.op none (some 25) (O.call 13 []), C.op none (some 26) (O.un UnOp.not (Opd.t 25)),
    C.op none (some 27) (O.mv (Opd.t 26)), C.op (some (27, false)) (some 28) (O.mv (Opd.t 4)),
    C.op (some (27, false)) (some 29) (O.bin BinOp.neq (Opd.t 28) (Opd.c (AV.int IntKind.i64 0))),
    C.op none (some 30) (O.pick (Opd.t 27) (Opd.c (AV.bool true)) (Opd.t 29)), C.op none (some 31) (O.mv (Opd.t 30)),
    C.op (some (31, false)) (some 32) (O.mv (Opd.t 3)), C.op (some (31, false)) (some 33) (O.len false (Opd.t 32)),
    C.op (some (31, false)) (some 34) (O.mv (Opd.t 5)), C.op (some (31, false)) (some 35) (O.len false (Opd.t 34)),
    C.op (some (31, false)) (some 36) (O.bin BinOp.neq (Opd.t 33) (Opd.t 35)),
    C.op none (some 37) (O.pick (Opd.t 31) (Opd.c (AV.bool true)) (Opd.t 36)),
    C.cond (Opd.t 37) [C.op none (some 2) (O.mv (Opd.c (AV.bool false))), C.ret] [],
    C.op none (some 6) (O.alloc [AV.str [], AV.int IntKind.i64 0]), C.op none (some 38) (O.mv (Opd.t 3)),
    C.op none (some 39) (O.len false (Opd.t 38)), C.op none (some 40) (O.mv (Opd.c (AV.int IntKind.i64 0))),
    C.blk 0
      [C.loop
          [C.op none (some 41) (O.bin BinOp.lss (Opd.t 40) (Opd.t 39)), C.cond (Opd.t 41) [] [C.exit 0],
            C.blk 1
              [C.op none (some 42) (O.mv (Opd.t 40)), C.op none (some 43) (O.iad 2 (Opd.t 38) (Opd.t 40)),
                C.op none (some 44) (O.ldn [CK.bool, CK.str] (Opd.t 43)),
                C.op none (some 8) (O.alloc [AV.bool false, AV.str []]), C.op none (some 7) (O.mv (Opd.t 42)),
                C.op none none (O.st 2 (Opd.t 8) (Opd.t 44)), C.op none (some 46) (O.ldn [CK.bool, CK.str] (Opd.t 8)),
                C.op none (some 47) (O.call 20 [Opd.t 46]), C.op none (some 48) (O.call 18 [Opd.t 47]),
                C.op none (some 45) (O.mv (Opd.t 48)), C.op none (some 49) (O.ext (Opd.t 45) 0),
                C.op none (some 50) (O.ext (Opd.t 45) 1), C.op none (some 9) (O.alloc [AV.bool false, AV.str []]),
                C.op none none (O.st 2 (Opd.t 9) (Opd.t 49)), C.op none (some 10) (O.mv (Opd.t 50)),
                C.op none (some 52) (O.ldn [CK.bool, CK.str] (Opd.t 9)),
                C.op none (some 53) (O.call 15 [Opd.t 6, Opd.t 52]), C.op none (some 51) (O.mv (Opd.t 53)),
                C.op none (some 54) (O.ext (Opd.t 51) 0), C.op none (some 55) (O.ext (Opd.t 51) 1),
                C.op none (some 56) (O.ext (Opd.t 51) 2), C.op none (some 11) (O.mv (Opd.t 54)),
                C.op none (some 12) (O.mv (Opd.t 55)), C.op none (some 13) (O.mv (Opd.t 56)),
                C.draw d6_0,
                C.cond (Opd.t 92) [C.op none (some 2) (O.mv (Opd.c (AV.bool false))), C.ret] []],
            C.op none (some 93) (O.bin BinOp.add (Opd.t 40) (Opd.c (AV.int IntKind.i64 1))),
            C.op none (some 40) (O.mv (Opd.t 93))]],
    C.op none (some 95) (O.call 17 [Opd.t 6]), C.op none (some 94) (O.mv (Opd.t 95)),
    C.op none (some 96) (O.ext (Opd.t 94) 0), C.op none (some 97) (O.ext (Opd.t 94) 1),
    C.op none (some 14) (O.mv (Opd.t 96)), C.op none (some 15) (O.mv (Opd.t 97)), C.op none (some 98) (O.mv (Opd.t 14)),
    C.op none (some 99) (O.bin BinOp.eql (Opd.t 98) (Opd.c (AV.int IntKind.i64 0))),
    C.op none (some 100) (O.mv (Opd.t 99)), C.op (some (100, true)) (some 101) (O.mv (Opd.t 15)),
    C.op (some (100, true)) (some 102) (O.bin BinOp.eql (Opd.t 101) (Opd.c (AV.int IntKind.i64 0))),
    C.op none (some 103) (O.pick (Opd.t 100) (Opd.t 102) (Opd.c (AV.bool false))),
    C.op none (some 2) (O.mv (Opd.t 103)), C.ret]
def r6 : List RV := [RV.t 2]
theorem c6_ok : cC Try.prog Try.f6.ntmps (Try.f6.body.getD .skip) = some c6 := by kernel_rfl

def d7_0 : List It :=
  [(none, some 63, O.mv (Opd.t 10), []), (none, some 64, O.mv (Opd.t 12), []),
                    (none, some 65, O.iad 1 (Opd.t 63) (Opd.t 64), [0, 1]),
                    (none, some 66, O.ld CK.str (Opd.t 65), [2]), (none, some 67, O.mv (Opd.t 4), []),
                    (none, some 68, O.mv (Opd.t 12), []), (none, some 69, O.iad 1 (Opd.t 67) (Opd.t 68), [4, 5]),
                    (none, some 70, O.ld CK.str (Opd.t 69), [6]),
                    (none, some 71, O.bin BinOp.neq (Opd.t 66) (Opd.t 70), [3, 7])]
def o7_0 : List (Nat × Bool) := [(0, false), (1, false), (2, false), (3, false), (4, false), (5, false), (6, false), (7, false), (8, false)]
def l7_0 : List (Nat × Bool × It) :=
  [(0, false, (none, some 63, O.mv (Opd.t 10), [])),
   (1, false, (none, some 64, O.mv (Opd.t 12), [])),
   (2, false, (none, some 65, O.iad 1 (Opd.t 63) (Opd.t 64), [0, 1])),
   (3, false, (none, some 66, O.ld CK.str (Opd.t 65), [2])),
   (4, false, (none, some 67, O.mv (Opd.t 4), [])),
   (5, false, (none, some 68, O.mv (Opd.t 12), [])),
   (6, false, (none, some 69, O.iad 1 (Opd.t 67) (Opd.t 68), [4, 5])),
   (7, false, (none, some 70, O.ld CK.str (Opd.t 69), [6])),
   (8, false, (none, some 71, O.bin BinOp.neq (Opd.t 66) (Opd.t 70), [3, 7]))]
theorem l7_0_ok : okDraw d7_0 o7_0 = true ∧ mkL d7_0 o7_0 = some l7_0 := ⟨by kernel_rfl, by kernel_rfl⟩

def c7 : List C :=
  [C.op none (some 2) (O.mv (Opd.c (AV.bool false))), C.op none (some 13) (O.call 13 []),
    C.op none (some 14) (O.un UnOp.not (Opd.t 13)),
    C.cond (Opd.t 14) [C.op none (some 2) (O.mv (Opd.c (AV.bool false))), C.ret] [],
    C.op none (some 3) (O.mv (Opd.c AV.nilsl)), C.op none (some 4) (O.mv (Opd.c AV.nilsl)),
    C.op none (some 5) (O.mv (Opd.c (AV.int IntKind.i64 0))),
    C.blk 0
      [C.loop
          [C.op none (some 15) (O.mv (Opd.t 5)), C.op none (some 16) (O.mv (Opd.t 0)),
            C.op none (some 17) (O.len false (Opd.t 16)), C.op none (some 18) (O.bin BinOp.lss (Opd.t 15) (Opd.t 17)),
            C.op none (some 19) (O.mv (Opd.t 18)), C.op (some (19, true)) (some 20) (O.mv (Opd.t 5)),
            C.op (some (19, true)) (some 21) (O.bin BinOp.lss (Opd.t 20) (Opd.c (AV.int IntKind.i64 8))),
            C.op none (some 22) (O.pick (Opd.t 19) (Opd.t 21) (Opd.c (AV.bool false))), C.cond (Opd.t 22) [] [C.exit 0],
            C.blk 1
              [C.op none (some 25) (O.mv (Opd.t 0)), C.op none (some 26) (O.mv (Opd.t 5)),
                C.op none (some 27) (O.iad 1 (Opd.t 25) (Opd.t 26)), C.op none (some 28) (O.ld CK.str (Opd.t 27)),
                C.op none (some 29) (O.call 14 [Opd.t 28, Opd.c (AV.int IntKind.i64 700)]),
                C.op none (some 6) (O.mv (Opd.t 29)), C.op none (some 31) (O.mv (Opd.t 6)),
                C.op none (some 32) (O.call 21 [Opd.t 31]), C.op none (some 30) (O.mv (Opd.t 32)),
                C.op none (some 33) (O.ext (Opd.t 30) 0), C.op none (some 34) (O.ext (Opd.t 30) 1),
                C.op none (some 7) (O.mv (Opd.t 33)), C.op none (some 8) (O.mv (Opd.t 34)),
                C.op none (some 35) (O.mv (Opd.t 8)),
                C.op none (some 36) (O.bin BinOp.neq (Opd.t 35) (Opd.c (AV.int IntKind.i64 0))),
                C.cond (Opd.t 36) [C.op none (some 2) (O.mv (Opd.c (AV.bool false))), C.ret] [],
                C.op none (some 37) (O.mv (Opd.t 3)), C.op none (some 38) (O.mv (Opd.t 7)),
                C.op none (some 39) (O.app 2 (Opd.t 37) (Opd.t 38)), C.op none (some 3) (O.mv (Opd.t 39)),
                C.op none (some 40) (O.mv (Opd.t 4)), C.op none (some 41) (O.mv (Opd.t 6)),
                C.op none (some 42) (O.bsl 1 [AV.str []] 1 [(0, Opd.t 41)]),
                C.op none (some 43) (O.app 1 (Opd.t 40) (Opd.t 42)), C.op none (some 4) (O.mv (Opd.t 43))],
            C.op none (some 23) (O.mv (Opd.t 5)),
            C.op none (some 24) (O.bin BinOp.add (Opd.t 23) (Opd.c (AV.int IntKind.i64 1))),
            C.op none (some 5) (O.mv (Opd.t 24))]],
    C.op none (some 9) (O.alloc [AV.str [], AV.int IntKind.i64 0]), C.op none (some 45) (O.mv (Opd.t 3)),
    C.op none (some 46) (O.call 23 [Opd.t 9, Opd.t 45]), C.op none (some 44) (O.mv (Opd.t 46)),
    C.op none (some 47) (O.ext (Opd.t 44) 0), C.op none (some 48) (O.ext (Opd.t 44) 1),
    C.op none (some 10) (O.mv (Opd.t 47)), C.op none (some 11) (O.mv (Opd.t 48)), C.op none (some 49) (O.mv (Opd.t 11)),
    C.op none (some 50) (O.bin BinOp.neq (Opd.t 49) (Opd.c (AV.int IntKind.i64 0))),
    C.op none (some 51) (O.mv (Opd.t 50)), C.op (some (51, false)) (some 52) (O.mv (Opd.t 10)),
    C.op (some (51, false)) (some 53) (O.len false (Opd.t 52)), C.op (some (51, false)) (some 54) (O.mv (Opd.t 4)),
    C.op (some (51, false)) (some 55) (O.len false (Opd.t 54)),
    C.op (some (51, false)) (some 56) (O.bin BinOp.neq (Opd.t 53) (Opd.t 55)),
    C.op none (some 57) (O.pick (Opd.t 51) (Opd.c (AV.bool true)) (Opd.t 56)),
    C.cond (Opd.t 57) [C.op none (some 2) (O.mv (Opd.c (AV.bool false))), C.ret] [],
    C.op none (some 58) (O.mv (Opd.t 4)), C.op none (some 59) (O.len false (Opd.t 58)),
    C.op none (some 60) (O.mv (Opd.c (AV.int IntKind.i64 0))),
    C.blk 2
      [C.loop
          [C.op none (some 61) (O.bin BinOp.lss (Opd.t 60) (Opd.t 59)), C.cond (Opd.t 61) [] [C.exit 2],
            C.blk 3
              [C.op none (some 62) (O.mv (Opd.t 60)), C.op none (some 12) (O.mv (Opd.t 62)),
                C.draw d7_0,
                C.cond (Opd.t 71) [C.op none (some 2) (O.mv (Opd.c (AV.bool false))), C.ret] []],
            C.op none (some 72) (O.bin BinOp.add (Opd.t 60) (Opd.c (AV.int IntKind.i64 1))),
            C.op none (some 60) (O.mv (Opd.t 72))]],
    C.op none (some 2) (O.mv (Opd.c (AV.bool true))), C.ret]
def r7 : List RV := [RV.t 2]
theorem c7_ok : cC Try.prog Try.f7.ntmps (Try.f7.body.getD .skip) = some c7 := by kernel_rfl

def c8 : List C :=
  [C.op none (some 6) (O.mv (Opd.c (AV.bool false))), C.op none (some 10) (O.mv (Opd.t 0)),
    C.op none (some 11) (O.mv (Opd.t 1)),
    C.op none (some 12)
      (O.build [AV.int IntKind.u32 0, AV.int IntKind.u32 0]
        [(0, 1, Opd.t 10), (1, 1, Opd.t 11)]),
    C.op none (some 7) (O.alloc [AV.int IntKind.u32 0, AV.int IntKind.u32 0]),
    C.op none none (O.st 2 (Opd.t 7) (Opd.t 12)), C.op none (some 13) (O.mv (Opd.t 2)),
    C.op none (some 14) (O.mv (Opd.t 0)), C.op none (some 15) (O.bin BinOp.sub (Opd.t 13) (Opd.t 14)),
    C.op none (some 8) (O.mv (Opd.t 15)), C.op none (some 16) (O.mv (Opd.t 8)),
    C.op none (some 17) (O.bin BinOp.geq (Opd.t 16) (Opd.c (AV.int IntKind.u32 2147483648))),
    C.op none (some 18) (O.mv (Opd.t 17)), C.op (some (18, false)) (some 19) (O.mv (Opd.t 8)),
    C.op (some (18, false)) (some 20) (O.bin BinOp.geq (Opd.t 19) (Opd.c (AV.int IntKind.u32 1))),
    C.op (some (18, false)) (some 21) (O.mv (Opd.t 20)), C.op (some (21, true)) (some 22) (O.mv (Opd.t 8)),
    C.op (some (21, true)) (some 23) (O.bin BinOp.leq (Opd.t 22) (Opd.c (AV.int IntKind.u32 32))),
    C.op (some (18, false)) (some 24) (O.pick (Opd.t 21) (Opd.t 23) (Opd.c (AV.bool false))),
    C.op (some (18, false)) (some 25) (O.mv (Opd.t 24)), C.op (some (25, true)) (some 26) (O.mv (Opd.t 1)),
    C.op (some (25, true)) (some 27) (O.mv (Opd.t 8)),
    C.op (some (25, true)) (some 28) (O.bin BinOp.sub (Opd.t 27) (Opd.c (AV.int IntKind.u32 1))),
    C.op (some (25, true)) (some 29) (O.bin BinOp.shr (Opd.t 26) (Opd.t 28)),
    C.op (some (25, true)) (some 30) (O.bin BinOp.and (Opd.t 29) (Opd.c (AV.int IntKind.u32 1))),
    C.op (some (25, true)) (some 31) (O.bin BinOp.eql (Opd.t 30) (Opd.c (AV.int IntKind.u32 1))),
    C.op (some (18, false)) (some 32) (O.pick (Opd.t 25) (Opd.t 31) (Opd.c (AV.bool false))),
    C.op none (some 33) (O.pick (Opd.t 18) (Opd.c (AV.bool true)) (Opd.t 32)), C.op none (some 9) (O.mv (Opd.t 33)),
    C.op none (some 34) (O.call 24 []), C.op none (some 35) (O.mv (Opd.t 34)),
    C.op (some (35, true)) (some 36) (O.ldn [CK.int IntKind.u32, CK.int IntKind.u32] (Opd.t 7)),
    C.op (some (35, true)) (some 37) (O.mv (Opd.t 2)),
    C.op (some (35, true)) (some 38) (O.call 25 [Opd.t 36, Opd.t 37]),
    C.op (some (35, true)) (some 39) (O.mv (Opd.t 9)),
    C.op (some (35, true)) (some 40) (O.eqb false (Opd.t 38) (Opd.t 39)),
    C.op none (some 41) (O.pick (Opd.t 35) (Opd.t 40) (Opd.c (AV.bool false))), C.op none (some 6) (O.mv (Opd.t 41)),
    C.ret]
def r8 : List RV := [RV.t 6]
theorem c8_ok : cC Try.prog Try.f8.ntmps (Try.f8.body.getD .skip) = some c8 := by kernel_rfl

def d9_0 : List It :=
  [(none, some 32, O.fad 0 (Opd.t 6), []), (none, some 33, O.ld (CK.int IntKind.i64) (Opd.t 32), [0]),
                    (none, some 34, O.mv (Opd.t 1), []), (none, some 35, O.mv (Opd.t 7), []),
                    (none, some 36, O.iad 4 (Opd.t 34) (Opd.t 35), [2, 3]), (none, some 37, O.fad 1 (Opd.t 36), [4]),
                    (none, some 38, O.ld (CK.int IntKind.i64) (Opd.t 37), [5]),
                    (none, some 39, O.bin BinOp.and (Opd.t 38) (Opd.c (AV.int IntKind.i64 127)), [6]),
                    (none, some 40, O.bin BinOp.add (Opd.t 33) (Opd.t 39), [1, 7]),
                    (none, some 41, O.bin BinOp.sub (Opd.t 40) (Opd.c (AV.int IntKind.i64 40)), [8]),
                    (none, some 8, O.mv (Opd.t 41), [9, 0, 1, 2, 3, 4, 5, 6, 7, 8, 9])]
def o9_0 : List (Nat × Bool) := [(0, false), (1, false), (2, false), (3, false), (4, false), (5, false), (6, false), (7, false), (8, false), (9, false), (10, false)]
def l9_0 : List (Nat × Bool × It) :=
  [(0, false, (none, some 32, O.fad 0 (Opd.t 6), [])),
   (1, false, (none, some 33, O.ld (CK.int IntKind.i64) (Opd.t 32), [0])),
   (2, false, (none, some 34, O.mv (Opd.t 1), [])),
   (3, false, (none, some 35, O.mv (Opd.t 7), [])),
   (4, false, (none, some 36, O.iad 4 (Opd.t 34) (Opd.t 35), [2, 3])),
   (5, false, (none, some 37, O.fad 1 (Opd.t 36), [4])),
   (6, false, (none, some 38, O.ld (CK.int IntKind.i64) (Opd.t 37), [5])),
   (7, false, (none, some 39, O.bin BinOp.and (Opd.t 38) (Opd.c (AV.int IntKind.i64 127)), [6])),
   (8, false, (none, some 40, O.bin BinOp.add (Opd.t 33) (Opd.t 39), [1, 7])),
   (9, false, (none, some 41, O.bin BinOp.sub (Opd.t 40) (Opd.c (AV.int IntKind.i64 40)), [8])),
   (10, false, (none, some 8, O.mv (Opd.t 41), [9, 0, 1, 2, 3, 4, 5, 6, 7, 8, 9]))]
theorem l9_0_ok : okDraw d9_0 o9_0 = true ∧ mkL d9_0 o9_0 = some l9_0 := ⟨by kernel_rfl, by kernel_rfl⟩

def d9_1 : List It :=
  [(none, some 72, O.mv (Opd.t 11), []), (none, some 73, O.mv (Opd.t 14), []),
                    (none, some 74, O.bin BinOp.neq (Opd.t 72) (Opd.t 73), [0, 1]),
                    (none, some 75, O.mv (Opd.t 74), [2]), (some (75, false), some 76, O.mv (Opd.t 10), [3]),
                    (some (75, false), some 77, O.len false (Opd.t 76), [4, 3]),
                    (some (75, false), some 78, O.mv (Opd.t 13), [3]),
                    (some (75, false), some 79, O.len false (Opd.t 78), [6, 3]),
                    (some (75, false), some 80, O.bin BinOp.neq (Opd.t 77) (Opd.t 79), [5, 7, 3]),
                    (none, some 81, O.pick (Opd.t 75) (Opd.c (AV.bool true)) (Opd.t 80), [3, 8]),
                    (none, some 82, O.mv (Opd.t 81), [9, 3]), (some (82, false), some 83, O.mv (Opd.t 5), [10]),
                    (some (82, false), some 84, O.call 30 [Opd.t 83], [11, 10, 10]),
                    (some (82, false), some 85, O.fad 1 (Opd.t 6), [10]),
                    (some (82, false), some 86, O.ld CK.any (Opd.t 85), [13, 10]),
                    (some (82, false), some 87, O.len false (Opd.t 86), [14, 10]),
                    (some (82, false), some 88, O.bin BinOp.neq (Opd.t 84) (Opd.t 87), [12, 15, 10]),
                    (none, some 89, O.pick (Opd.t 82) (Opd.c (AV.bool true)) (Opd.t 88), [10, 16]),
                    (none, some 90, O.mv (Opd.t 89), [17, 12]), (some (90, false), some 91, O.mv (Opd.t 5), [18]),
                    (some (90, false), some 92, O.call 30 [Opd.t 91], [19, 18, 18]),
                    (some (90, false), some 93, O.bin BinOp.gtr (Opd.t 92) (Opd.c (AV.int IntKind.i64 32)),
                      [20, 18]),
                    (none, some 94, O.pick (Opd.t 90) (Opd.c (AV.bool true)) (Opd.t 93), [18, 21]),
                    (none, some 95, O.mv (Opd.t 94), [22, 20]), (some (95, false), some 96, O.fad 0 (Opd.t 15), [23]),
                    (some (95, false), some 97, O.ld (CK.int IntKind.u32) (Opd.t 96), [24, 23]),
                    (some (95, false), some 98, O.mv (Opd.t 0), [23]),
                    (some (95, false), some 99, O.fad 0 (Opd.t 6), [23]),
                    (some (95, false), some 100, O.ld (CK.int IntKind.i64) (Opd.t 99), [27, 23]),
                    (some (95, false), some 101,
                      O.bin BinOp.sub (Opd.t 100) (Opd.c (AV.int IntKind.i64 1000)), [28, 23]),
                    (some (95, false), some 102, O.cvi IntKind.u32 (Opd.t 101), [29, 23]),
                    (some (95, false), some 103, O.bin BinOp.add (Opd.t 98) (Opd.t 102), [26, 30, 23]),
                    (some (95, false), some 104, O.bin BinOp.neq (Opd.t 97) (Opd.t 103), [25, 31, 23]),
                    (none, some 105, O.pick (Opd.t 95) (Opd.c (AV.bool true)) (Opd.t 104), [23, 32]),
                    (none, some 106, O.mv (Opd.t 105), [33, 23]),
                    (some (106, false), some 107, O.fad 1 (Opd.t 15), [34]),
                    (some (106, false), some 108, O.ld (CK.int IntKind.u32) (Opd.t 107), [35, 34]),
                    (some (106, false), some 109, O.ldn [CK.int IntKind.i64, CK.any] (Opd.t 6), [34]),
                    (some (106, false), some 110, O.call 31 [Opd.t 109], [37, 34, 34]),
                    (some (106, false), some 111, O.bin BinOp.neq (Opd.t 108) (Opd.t 110), [36, 38, 34]),
                    (none, some 112, O.pick (Opd.t 106) (Opd.c (AV.bool true)) (Opd.t 111), [34, 39])]
def o9_1 : List (Nat × Bool) := [(0, false), (1, false), (2, false), (3, false), (4, false), (5, false), (6, false), (7, false), (8, false), (9, false), (10, false), (11, false), (13, false), (14, false), (15, false), (12, true), (16, false), (17, false), (18, false), (19, false), (20, true), (21, false), (22, false), (23, false), (24, false), (25, false), (26, false), (27, false), (28, false), (29, false), (30, false), (31, false), (32, false), (33, false), (34, false), (35, false), (36, false), (37, false), (38, true), (39, false), (40, false)]
def l9_1 : List (Nat × Bool × It) :=
  [(0, false, (none, some 72, O.mv (Opd.t 11), [])),
   (1, false, (none, some 73, O.mv (Opd.t 14), [])),
   (2, false, (none, some 74, O.bin BinOp.neq (Opd.t 72) (Opd.t 73), [0, 1])),
   (3, false, (none, some 75, O.mv (Opd.t 74), [2])),
   (4, false, (some (75, false), some 76, O.mv (Opd.t 10), [3])),
   (5, false, (some (75, false), some 77, O.len false (Opd.t 76), [4, 3])),
   (6, false, (some (75, false), some 78, O.mv (Opd.t 13), [3])),
   (7, false, (some (75, false), some 79, O.len false (Opd.t 78), [6, 3])),
   (8, false, (some (75, false), some 80, O.bin BinOp.neq (Opd.t 77) (Opd.t 79), [5, 7, 3])),
   (9, false, (none, some 81, O.pick (Opd.t 75) (Opd.c (AV.bool true)) (Opd.t 80), [3, 8])),
   (10, false, (none, some 82, O.mv (Opd.t 81), [9, 3])),
   (11, false, (some (82, false), some 83, O.mv (Opd.t 5), [10])),
   (13, false, (some (82, false), some 85, O.fad 1 (Opd.t 6), [10])),
   (14, false, (some (82, false), some 86, O.ld CK.any (Opd.t 85), [13, 10])),
   (15, false, (some (82, false), some 87, O.len false (Opd.t 86), [14, 10])),
   (12, true, (some (82, false), some 84, O.call 30 [Opd.t 83], [11, 10, 10])),
   (16, false, (some (82, false), some 88, O.bin BinOp.neq (Opd.t 84) (Opd.t 87), [12, 15, 10])),
   (17, false, (none, some 89, O.pick (Opd.t 82) (Opd.c (AV.bool true)) (Opd.t 88), [10, 16])),
   (18, false, (none, some 90, O.mv (Opd.t 89), [17, 12])),
   (19, false, (some (90, false), some 91, O.mv (Opd.t 5), [18])),
   (20, true, (some (90, false), some 92, O.call 30 [Opd.t 91], [19, 18, 18])),
   (21, false, (some (90, false), some 93, O.bin BinOp.gtr (Opd.t 92) (Opd.c (AV.int IntKind.i64 32)),
                      [20, 18])),
   (22, false, (none, some 94, O.pick (Opd.t 90) (Opd.c (AV.bool true)) (Opd.t 93), [18, 21])),
   (23, false, (none, some 95, O.mv (Opd.t 94), [22, 20])),
   (24, false, (some (95, false), some 96, O.fad 0 (Opd.t 15), [23])),
   (25, false, (some (95, false), some 97, O.ld (CK.int IntKind.u32) (Opd.t 96), [24, 23])),
   (26, false, (some (95, false), some 98, O.mv (Opd.t 0), [23])),
   (27, false, (some (95, false), some 99, O.fad 0 (Opd.t 6), [23])),
   (28, false, (some (95, false), some 100, O.ld (CK.int IntKind.i64) (Opd.t 99), [27, 23])),
   (29, false, (some (95, false), some 101,
                      O.bin BinOp.sub (Opd.t 100) (Opd.c (AV.int IntKind.i64 1000)), [28, 23])),
   (30, false, (some (95, false), some 102, O.cvi IntKind.u32 (Opd.t 101), [29, 23])),
   (31, false, (some (95, false), some 103, O.bin BinOp.add (Opd.t 98) (Opd.t 102), [26, 30, 23])),
   (32, false, (some (95, false), some 104, O.bin BinOp.neq (Opd.t 97) (Opd.t 103), [25, 31, 23])),
   (33, false, (none, some 105, O.pick (Opd.t 95) (Opd.c (AV.bool true)) (Opd.t 104), [23, 32])),
   (34, false, (none, some 106, O.mv (Opd.t 105), [33, 23])),
   (35, false, (some (106, false), some 107, O.fad 1 (Opd.t 15), [34])),
   (36, false, (some (106, false), some 108, O.ld (CK.int IntKind.u32) (Opd.t 107), [35, 34])),
   (37, false, (some (106, false), some 109, O.ldn [CK.int IntKind.i64, CK.any] (Opd.t 6), [34])),
   (38, true, (some (106, false), some 110, O.call 31 [Opd.t 109], [37, 34, 34])),
   (39, false, (some (106, false), some 111, O.bin BinOp.neq (Opd.t 108) (Opd.t 110), [36, 38, 34])),
   (40, false, (none, some 112, O.pick (Opd.t 106) (Opd.c (AV.bool true)) (Opd.t 111), [34, 39]))]
theorem l9_1_ok : okDraw d9_1 o9_1 = true ∧ mkL d9_1 o9_1 = some l9_1 := ⟨by kernel_rfl, by kernel_rfl⟩

def d9_2 : List It :=
  [(none, some 118, O.mv (Opd.t 10), []), (none, some 119, O.mv (Opd.t 16), []),
                                (none, some 120, O.iad 1 (Opd.t 118) (Opd.t 119), [0, 1]),
                                (none, some 121, O.ld CK.str (Opd.t 120), [2]), (none, some 122, O.mv (Opd.t 13), []),
                                (none, some 123, O.mv (Opd.t 16), []),
                                (none, some 124, O.iad 1 (Opd.t 122) (Opd.t 123), [4, 5]),
                                (none, some 125, O.ld CK.str (Opd.t 124), [6]),
                                (none, some 126, O.bin BinOp.neq (Opd.t 121) (Opd.t 125), [3, 7])]
def o9_2 : List (Nat × Bool) := [(0, false), (1, false), (2, false), (3, false), (4, false), (5, false), (6, false), (7, false), (8, false)]
def l9_2 : List (Nat × Bool × It) :=
  [(0, false, (none, some 118, O.mv (Opd.t 10), [])),
   (1, false, (none, some 119, O.mv (Opd.t 16), [])),
   (2, false, (none, some 120, O.iad 1 (Opd.t 118) (Opd.t 119), [0, 1])),
   (3, false, (none, some 121, O.ld CK.str (Opd.t 120), [2])),
   (4, false, (none, some 122, O.mv (Opd.t 13), [])),
   (5, false, (none, some 123, O.mv (Opd.t 16), [])),
   (6, false, (none, some 124, O.iad 1 (Opd.t 122) (Opd.t 123), [4, 5])),
   (7, false, (none, some 125, O.ld CK.str (Opd.t 124), [6])),
   (8, false, (none, some 126, O.bin BinOp.neq (Opd.t 121) (Opd.t 125), [3, 7]))]
theorem l9_2_ok : okDraw d9_2 o9_2 = true ∧ mkL d9_2 o9_2 = some l9_2 := ⟨by kernel_rfl, by kernel_rfl⟩

def c9 : List C :=
  [C.op none (some 4) (O.mv (Opd.c (AV.bool false))), C.op none (some 17) (O.call 24 []),
    C.op none (some 18) (O.un UnOp.not (Opd.t 17)),
    C.cond (Opd.t 18) [C.op none (some 4) (O.mv (Opd.c (AV.bool false))), C.ret] [],
    C.op none (some 19) (O.mv (Opd.t 0)), C.op none (some 20) (O.call 26 [Opd.t 19]),
    C.op none (some 5) (O.mv (Opd.t 20)),
    C.op none (some 21)
      (O.build [AV.int IntKind.i64 0, AV.nilsl] [(0, 1, Opd.c (AV.int IntKind.i64 1000))]),
    C.op none (some 6) (O.alloc [AV.int IntKind.i64 0, AV.nilsl]),
    C.op none none (O.st 2 (Opd.t 6) (Opd.t 21)), C.op none (some 7) (O.mv (Opd.c (AV.int IntKind.i64 0))),
    C.blk 0
      [C.loop
          [C.op none (some 22) (O.mv (Opd.t 7)), C.op none (some 23) (O.mv (Opd.t 1)),
            C.op none (some 24) (O.len false (Opd.t 23)), C.op none (some 25) (O.bin BinOp.lss (Opd.t 22) (Opd.t 24)),
            C.op none (some 26) (O.mv (Opd.t 25)), C.op (some (26, true)) (some 27) (O.mv (Opd.t 7)),
            C.op (some (26, true)) (some 28) (O.bin BinOp.lss (Opd.t 27) (Opd.c (AV.int IntKind.i64 120))),
            C.op none (some 29) (O.pick (Opd.t 26) (Opd.t 28) (Opd.c (AV.bool false))), C.cond (Opd.t 29) [] [C.exit 0],
            C.blk 1
              [C.draw d9_0,
                C.op none (some 42) (O.mv (Opd.t 1)), C.op none (some 43) (O.mv (Opd.t 7)),
                C.op none (some 44) (O.iad 4 (Opd.t 42) (Opd.t 43)), C.op none (some 45) (O.fad 3 (Opd.t 44)),
                C.op none (some 46) (O.ld CK.str (Opd.t 45)),
                C.op none (some 47) (O.call 14 [Opd.t 46, Opd.c (AV.int IntKind.i64 6)]),
                C.op none (some 9) (O.mv (Opd.t 47)), C.op none (some 49) (O.mv (Opd.t 5)),
                C.op none (some 50) (O.mv (Opd.t 0)), C.op none (some 51) (O.mv (Opd.t 8)),
                C.op none (some 52) (O.bin BinOp.sub (Opd.t 51) (Opd.c (AV.int IntKind.i64 1000))),
                C.op none (some 53) (O.cvi IntKind.u32 (Opd.t 52)),
                C.op none (some 54) (O.bin BinOp.add (Opd.t 50) (Opd.t 53)), C.op none (some 55) (O.mv (Opd.t 9)),
                C.op none (some 56)
                  (O.build [AV.int IntKind.u32 0, AV.str []] [(0, 1, Opd.t 54), (1, 1, Opd.t 55)]),
                C.op none (some 57) (O.call 27 [Opd.t 49, Opd.t 56]), C.op none (some 48) (O.mv (Opd.t 57)),
                C.op none (some 58) (O.ext (Opd.t 48) 0), C.op none (some 59) (O.ext (Opd.t 48) 1),
                C.op none (some 10) (O.mv (Opd.t 58)), C.op none (some 11) (O.mv (Opd.t 59)),
                C.op none (some 61) (O.ldn [CK.int IntKind.i64, CK.any] (Opd.t 6)),
                C.op none (some 62) (O.mv (Opd.t 8)), C.op none (some 63) (O.mv (Opd.t 9)),
                C.op none (some 64)
                  (O.build [AV.int IntKind.i64 0, AV.str []] [(0, 1, Opd.t 62), (1, 1, Opd.t 63)]),
                C.op none (some 65) (O.call 28 [Opd.t 61, Opd.t 64]), C.op none (some 60) (O.mv (Opd.t 65)),
                C.op none (some 66) (O.ext (Opd.t 60) 0), C.op none (some 67) (O.ext (Opd.t 60) 1),
                C.op none (some 68) (O.ext (Opd.t 60) 2),
                C.op none (some 12) (O.alloc [AV.int IntKind.i64 0, AV.nilsl]),
                C.op none none (O.st 2 (Opd.t 12) (Opd.t 66)), C.op none (some 13) (O.mv (Opd.t 67)),
                C.op none (some 14) (O.mv (Opd.t 68)),
                C.op none (some 69) (O.ldn [CK.int IntKind.i64, CK.any] (Opd.t 12)),
                C.op none none (O.st 2 (Opd.t 6) (Opd.t 69)), C.op none (some 70) (O.mv (Opd.t 5)),
                C.op none (some 71) (O.call 29 [Opd.t 70]),
                C.op none (some 15) (O.alloc [AV.int IntKind.u32 0, AV.int IntKind.u32 0]),
                C.op none none (O.st 2 (Opd.t 15) (Opd.t 71)),
                C.draw d9_1,
                C.cond (Opd.t 112) [C.op none (some 4) (O.mv (Opd.c (AV.bool false))), C.ret] [],
                C.op none (some 113) (O.mv (Opd.t 13)), C.op none (some 114) (O.len false (Opd.t 113)),
                C.op none (some 115) (O.mv (Opd.c (AV.int IntKind.i64 0))),
                C.blk 2
                  [C.loop
                      [C.op none (some 116) (O.bin BinOp.lss (Opd.t 115) (Opd.t 114)), C.cond (Opd.t 116) [] [C.exit 2],
                        C.blk 3
                          [C.op none (some 117) (O.mv (Opd.t 115)), C.op none (some 16) (O.mv (Opd.t 117)),
                            C.draw d9_2,
                            C.cond (Opd.t 126) [C.op none (some 4) (O.mv (Opd.c (AV.bool false))), C.ret] []],
                        C.op none (some 127) (O.bin BinOp.add (Opd.t 115) (Opd.c (AV.int IntKind.i64 1))),
                        C.op none (some 115) (O.mv (Opd.t 127))]]],
            C.op none (some 30) (O.mv (Opd.t 7)),
            C.op none (some 31) (O.bin BinOp.add (Opd.t 30) (Opd.c (AV.int IntKind.i64 1))),
            C.op none (some 7) (O.mv (Opd.t 31))]],
    C.op none (some 4) (O.mv (Opd.c (AV.bool true))), C.ret]
def r9 : List RV := [RV.t 4]
theorem c9_ok : cC Try.prog Try.f9.ntmps (Try.f9.body.getD .skip) = some c9 := by kernel_rfl

def c10 : List C :=
  [C.op none (some 4) (O.mv (Opd.c (AV.bool false))), C.op none (some 20) (O.call 24 []),
    C.op none (some 21) (O.un UnOp.not (Opd.t 20)),
    C.cond (Opd.t 21) [C.op none (some 4) (O.mv (Opd.c (AV.bool false))), C.ret] [],
    C.op none (some 22) (O.mv (Opd.t 0)), C.op none (some 23) (O.call 32 [Opd.t 22]),
    C.op none (some 24) (O.mv (Opd.t 0)), C.op none (some 25) (O.call 26 [Opd.t 24]),
    C.op none (some 5) (O.mv (Opd.t 23)), C.op none (some 6) (O.mv (Opd.t 25)),
    C.op none (some 26) (O.mv (Opd.c (AV.int IntKind.i64 0))),
    C.blk 0
      [C.loop
          [C.op none (some 27) (O.bin BinOp.lss (Opd.t 26) (Opd.c (AV.int IntKind.i64 32))),
            C.cond (Opd.t 27) [] [C.exit 0],
            C.blk 1
              [C.op none (some 29) (O.mv (Opd.t 5)),
                C.op none (some 30)
                  (O.call 33
                    [Opd.t 29,
                      Opd.c (AV.str [120])]),
                C.op none (some 28) (O.mv (Opd.t 30)), C.op none (some 31) (O.ext (Opd.t 28) 0),
                C.op none (some 32) (O.ext (Opd.t 28) 1), C.op none (some 7) (O.mv (Opd.t 31)),
                C.op none (some 8) (O.mv (Opd.t 32)), C.op none (some 33) (O.mv (Opd.t 8)),
                C.op none (some 34) (O.bin BinOp.neq (Opd.t 33) (Opd.c (AV.int IntKind.i64 0))),
                C.cond (Opd.t 34) [C.op none (some 4) (O.mv (Opd.c (AV.bool false))), C.ret] []],
            C.op none (some 35) (O.bin BinOp.add (Opd.t 26) (Opd.c (AV.int IntKind.i64 1))),
            C.op none (some 26) (O.mv (Opd.t 35))]],
    C.op none (some 37) (O.mv (Opd.t 5)),
    C.op none (some 38)
      (O.call 33
        [Opd.t 37, Opd.c (AV.str [121])]),
    C.op none (some 36) (O.mv (Opd.t 38)), C.op none (some 39) (O.ext (Opd.t 36) 0),
    C.op none (some 40) (O.ext (Opd.t 36) 1), C.op none (some 9) (O.mv (Opd.t 39)),
    C.op none (some 10) (O.mv (Opd.t 40)), C.op none (some 41) (O.mv (Opd.t 10)),
    C.op none (some 42) (O.bin BinOp.neq (Opd.t 41) (Opd.c (AV.int IntKind.i64 8))),
    C.cond (Opd.t 42) [C.op none (some 4) (O.mv (Opd.c (AV.bool false))), C.ret] [], C.op none (some 43) O.mkmap,
    C.op none (some 11) (O.mv (Opd.t 43)), C.op none (some 12) (O.mv (Opd.c (AV.int IntKind.i64 0))),
    C.blk 2
      [C.loop
          [C.op none (some 44) (O.mv (Opd.t 12)), C.op none (some 45) (O.mv (Opd.t 1)),
            C.op none (some 46) (O.len false (Opd.t 45)), C.op none (some 47) (O.bin BinOp.lss (Opd.t 44) (Opd.t 46)),
            C.op none (some 48) (O.mv (Opd.t 47)), C.op (some (48, true)) (some 49) (O.mv (Opd.t 12)),
            C.op (some (48, true)) (some 50) (O.bin BinOp.lss (Opd.t 49) (Opd.c (AV.int IntKind.i64 30))),
            C.op none (some 51) (O.pick (Opd.t 48) (Opd.t 50) (Opd.c (AV.bool false))), C.cond (Opd.t 51) [] [C.exit 2],
            C.blk 3
              [C.op none (some 54) (O.mv (Opd.t 0)), C.op none (some 55) (O.mv (Opd.t 1)),
                C.op none (some 56) (O.mv (Opd.t 12)), C.op none (some 57) (O.iad 1 (Opd.t 55) (Opd.t 56)),
                C.op none (some 58) (O.ld (CK.int IntKind.i64) (Opd.t 57)),
                C.op none (some 59) (O.bin BinOp.and (Opd.t 58) (Opd.c (AV.int IntKind.i64 31))),
                C.op none (some 60) (O.cvi IntKind.u32 (Opd.t 59)),
                C.op none (some 61) (O.bin BinOp.add (Opd.t 54) (Opd.t 60)), C.op none (some 13) (O.mv (Opd.t 61)),
                C.op none (some 62) (O.mv (Opd.t 6)), C.op none (some 63) (O.mv (Opd.t 13)),
                C.op none (some 64)
                  (O.build [AV.int IntKind.u32 0, AV.str []]
                    [(0, 1, Opd.t 63),
                      (1, 1,
                        Opd.c
                          (AV.str [120]))]),
                C.op none (some 65) (O.call 27 [Opd.t 62, Opd.t 64]), C.op none (some 66) (O.mv (Opd.t 11)),
                C.op none (some 67) (O.mv (Opd.t 13)),
                C.op none (some 68)
                  (O.look false (CK.int IntKind.i64) (AV.int IntKind.i64 0) false (Opd.t 66) (Opd.t 67)),
                C.op none (some 69) (O.bin BinOp.add (Opd.t 68) (Opd.c (AV.int IntKind.i64 1))),
                C.op none none (O.mput false (Opd.t 66) (Opd.t 67) (Opd.t 69))],
            C.op none (some 52) (O.mv (Opd.t 12)),
            C.op none (some 53) (O.bin BinOp.add (Opd.t 52) (Opd.c (AV.int IntKind.i64 1))),
            C.op none (some 12) (O.mv (Opd.t 53))]],
    C.op none (some 70) (O.mv (Opd.t 6)), C.op none (some 71) (O.call 29 [Opd.t 70]),
    C.op none (some 14) (O.alloc [AV.int IntKind.u32 0, AV.int IntKind.u32 0]),
    C.op none none (O.st 2 (Opd.t 14) (Opd.t 71)), C.op none (some 72) (O.mv (Opd.t 5)),
    C.op none (some 73) (O.ldn [CK.int IntKind.u32, CK.int IntKind.u32] (Opd.t 14)),
    C.op none (some 74) (O.call 34 [Opd.t 72, Opd.t 73]), C.op none (some 15) (O.mv (Opd.t 74)),
    C.op none (some 75) (O.mv (Opd.t 15)), C.op none (some 76) (O.len false (Opd.t 75)),
    C.op none (some 77) (O.mv (Opd.t 11)), C.op none (some 78) (O.lenm (Opd.t 77)),
    C.op none (some 79) (O.bin BinOp.neq (Opd.t 76) (Opd.t 78)), C.op none (some 80) (O.mv (Opd.t 79)),
    C.op (some (80, false)) (some 81) (O.mv (Opd.t 5)), C.op (some (80, false)) (some 82) (O.call 35 [Opd.t 81]),
    C.op (some (80, false)) (some 83) (O.mv (Opd.t 11)), C.op (some (80, false)) (some 84) (O.lenm (Opd.t 83)),
    C.op (some (80, false)) (some 85) (O.bin BinOp.sub (Opd.c (AV.int IntKind.i64 32)) (Opd.t 84)),
    C.op (some (80, false)) (some 86) (O.bin BinOp.neq (Opd.t 82) (Opd.t 85)),
    C.op none (some 87) (O.pick (Opd.t 80) (Opd.c (AV.bool true)) (Opd.t 86)), C.op none (some 88) (O.mv (Opd.t 87)),
    C.op (some (88, false)) (some 89) (O.mv (Opd.t 5)),
    C.op (some (88, false)) (some 90) (O.ldn [CK.int IntKind.u32, CK.int IntKind.u32] (Opd.t 14)),
    C.op (some (88, false)) (some 91) (O.call 34 [Opd.t 89, Opd.t 90]),
    C.op (some (88, false)) (some 92) (O.len false (Opd.t 91)),
    C.op (some (88, false)) (some 93) (O.bin BinOp.neq (Opd.t 92) (Opd.c (AV.int IntKind.i64 0))),
    C.op none (some 94) (O.pick (Opd.t 88) (Opd.c (AV.bool true)) (Opd.t 93)),
    C.cond (Opd.t 94) [C.op none (some 4) (O.mv (Opd.c (AV.bool false))), C.ret] [],
    C.op none (some 95) (O.mv (Opd.t 15)), C.op none (some 96) (O.len false (Opd.t 95)),
    C.op none (some 97) (O.mv (Opd.c (AV.int IntKind.i64 0))),
    C.blk 4
      [C.loop
          [C.op none (some 98) (O.bin BinOp.lss (Opd.t 97) (Opd.t 96)), C.cond (Opd.t 98) [] [C.exit 4],
            C.blk 5
              [C.op none (some 99) (O.iad 1 (Opd.t 95) (Opd.t 97)),
                C.op none (some 100) (O.ld (CK.int IntKind.u32) (Opd.t 99)), C.op none (some 17) (O.mv (Opd.t 100)),
                C.op none (some 101) (O.mv (Opd.t 11)), C.op none (some 102) (O.mv (Opd.t 17)),
                C.op none (some 103)
                  (O.look false (CK.int IntKind.i64) (AV.int IntKind.i64 0) false (Opd.t 101) (Opd.t 102)),
                C.op none (some 104) (O.bin BinOp.eql (Opd.t 103) (Opd.c (AV.int IntKind.i64 0))),
                C.op none (some 105) (O.mv (Opd.t 104)),
                C.op (some (105, false)) (some 106) (O.ldn [CK.int IntKind.u32, CK.int IntKind.u32] (Opd.t 14)),
                C.op (some (105, false)) (some 107) (O.mv (Opd.t 17)),
                C.op (some (105, false)) (some 108) (O.call 25 [Opd.t 106, Opd.t 107]),
                C.op (some (105, false)) (some 109) (O.un UnOp.not (Opd.t 108)),
                C.op none (some 110) (O.pick (Opd.t 105) (Opd.c (AV.bool true)) (Opd.t 109)),
                C.cond (Opd.t 110) [C.op none (some 4) (O.mv (Opd.c (AV.bool false))), C.ret] []],
            C.op none (some 111) (O.bin BinOp.add (Opd.t 97) (Opd.c (AV.int IntKind.i64 1))),
            C.op none (some 97) (O.mv (Opd.t 111))]],
    C.op none (some 112) (O.mv (Opd.t 5)), C.op none (some 113) (O.call 36 [Opd.t 112]),
    C.op none (some 114) (O.len false (Opd.t 113)),
    C.op none (some 115) (O.mv (Opd.c (AV.int IntKind.i64 0))),
    C.blk 6
      [C.loop
          [C.op none (some 116) (O.bin BinOp.lss (Opd.t 115) (Opd.t 114)), C.cond (Opd.t 116) [] [C.exit 6],
            C.blk 7
              [C.op none (some 117) (O.iad 2 (Opd.t 113) (Opd.t 115)),
                C.op none (some 118) (O.ldn [CK.int IntKind.u32, CK.str] (Opd.t 117)),
                C.op none (some 19) (O.alloc [AV.int IntKind.u32 0, AV.str []]),
                C.op none none (O.st 2 (Opd.t 19) (Opd.t 118)), C.op none (some 119) (O.mv (Opd.t 11)),
                C.op none (some 120) (O.fad 0 (Opd.t 19)), C.op none (some 121) (O.ld (CK.int IntKind.u32) (Opd.t 120)),
                C.op none (some 122)
                  (O.look false (CK.int IntKind.i64) (AV.int IntKind.i64 0) false (Opd.t 119) (Opd.t 121)),
                C.op none (some 123) (O.bin BinOp.gtr (Opd.t 122) (Opd.c (AV.int IntKind.i64 0))),
                C.op none (some 124) (O.mv (Opd.t 123)),
                C.op (some (124, false)) (some 125) (O.ldn [CK.int IntKind.u32, CK.int IntKind.u32] (Opd.t 14)),
                C.op (some (124, false)) (some 126) (O.fad 0 (Opd.t 19)),
                C.op (some (124, false)) (some 127) (O.ld (CK.int IntKind.u32) (Opd.t 126)),
                C.op (some (124, false)) (some 128) (O.call 25 [Opd.t 125, Opd.t 127]),
                C.op none (some 129) (O.pick (Opd.t 124) (Opd.c (AV.bool true)) (Opd.t 128)),
                C.cond (Opd.t 129) [C.op none (some 4) (O.mv (Opd.c (AV.bool false))), C.ret] []],
            C.op none (some 130) (O.bin BinOp.add (Opd.t 115) (Opd.c (AV.int IntKind.i64 1))),
            C.op none (some 115) (O.mv (Opd.t 130))]],
    C.op none (some 4) (O.mv (Opd.c (AV.bool true))), C.ret]
def r10 : List RV := [RV.t 4]
theorem c10_ok : cC Try.prog Try.f10.ntmps (Try.f10.body.getD .skip) = some c10 := by kernel_rfl

def d11_0 : List It :=
  [(none, some 138, O.mv (Opd.t 15), []), (none, some 139, O.mv (Opd.t 18), []),
                                            (none, some 140, O.iad 1 (Opd.t 138) (Opd.t 139), [0, 1]),
                                            (none, some 141, O.ld (CK.int IntKind.u32) (Opd.t 140), [2]),
                                            (none, some 142, O.mv (Opd.t 0), []), (none, some 143, O.mv (Opd.t 17), []),
                                            (none, some 144, O.mv (Opd.t 18), []),
                                            (none, some 145, O.iad 1 (Opd.t 143) (Opd.t 144), [5, 6]),
                                            (none, some 146, O.ld (CK.int IntKind.i64) (Opd.t 145), [7]),
                                            (none, some 147,
                                              O.bin BinOp.sub (Opd.t 146) (Opd.c (AV.int IntKind.i64 1000)),
                                              [8]),
                                            (none, some 148, O.cvi IntKind.u32 (Opd.t 147), [9]),
                                            (none, some 149, O.bin BinOp.add (Opd.t 142) (Opd.t 148), [4, 10]),
                                            (none, some 150, O.bin BinOp.neq (Opd.t 141) (Opd.t 149), [3, 11])]
def o11_0 : List (Nat × Bool) := [(0, false), (1, false), (2, false), (3, false), (4, false), (5, false), (6, false), (7, false), (8, false), (9, false), (10, false), (11, false), (12, false)]
def l11_0 : List (Nat × Bool × It) :=
  [(0, false, (none, some 138, O.mv (Opd.t 15), [])),
   (1, false, (none, some 139, O.mv (Opd.t 18), [])),
   (2, false, (none, some 140, O.iad 1 (Opd.t 138) (Opd.t 139), [0, 1])),
   (3, false, (none, some 141, O.ld (CK.int IntKind.u32) (Opd.t 140), [2])),
   (4, false, (none, some 142, O.mv (Opd.t 0), [])),
   (5, false, (none, some 143, O.mv (Opd.t 17), [])),
   (6, false, (none, some 144, O.mv (Opd.t 18), [])),
   (7, false, (none, some 145, O.iad 1 (Opd.t 143) (Opd.t 144), [5, 6])),
   (8, false, (none, some 146, O.ld (CK.int IntKind.i64) (Opd.t 145), [7])),
   (9, false, (none, some 147,
                                              O.bin BinOp.sub (Opd.t 146) (Opd.c (AV.int IntKind.i64 1000)),
                                              [8])),
   (10, false, (none, some 148, O.cvi IntKind.u32 (Opd.t 147), [9])),
   (11, false, (none, some 149, O.bin BinOp.add (Opd.t 142) (Opd.t 148), [4, 10])),
   (12, false, (none, some 150, O.bin BinOp.neq (Opd.t 141) (Opd.t 149), [3, 11]))]
theorem l11_0_ok : okDraw d11_0 o11_0 = true ∧ mkL d11_0 o11_0 = some l11_0 := ⟨by kernel_rfl, by kernel_rfl⟩

def d11_1 : List It :=
  [(none, some 154, O.mv (Opd.t 5), []), (none, some 155, O.call 35 [Opd.t 154], [0]),
                    (none, some 156, O.fad 1 (Opd.t 6), []), (none, some 157, O.ld CK.any (Opd.t 156), [2]),
                    (none, some 158, O.len false (Opd.t 157), [3]),
                    (none, some 159, O.bin BinOp.neq (Opd.t 155) (Opd.t 158), [1, 4]),
                    (none, some 160, O.mv (Opd.t 159), [5, 1]), (some (160, false), some 161, O.mv (Opd.t 19), [6]),
                    (some (160, false), some 162, O.len false (Opd.t 161), [7, 6]),
                    (some (160, false), some 163, O.fad 1 (Opd.t 6), [6]),
                    (some (160, false), some 164, O.ld CK.any (Opd.t 163), [9, 6]),
                    (some (160, false), some 165, O.len false (Opd.t 164), [10, 6]),
                    (some (160, false), some 166, O.bin BinOp.neq (Opd.t 162) (Opd.t 165), [8, 11, 6]),
                    (none, some 167, O.pick (Opd.t 160) (Opd.c (AV.bool true)) (Opd.t 166), [6, 12]),
                    (none, some 168, O.mv (Opd.t 167), [13, 6]), (some (168, false), some 169, O.mv (Opd.t 19), [14]),
                    (some (168, false), some 170, O.len false (Opd.t 169), [15, 14]),
                    (some (168, false), some 171,
                      O.bin BinOp.gtr (Opd.t 170) (Opd.c (AV.int IntKind.i64 32)), [16, 14]),
                    (none, some 172, O.pick (Opd.t 168) (Opd.c (AV.bool true)) (Opd.t 171), [14, 17]),
                    (none, some 173, O.mv (Opd.t 172), [18, 14]), (some (173, false), some 174, O.mv (Opd.t 5), [19]),
                    (some (173, false), some 175, O.call 39 [Opd.t 174], [20, 19, 19]),
                    (some (173, false), some 176, O.mv (Opd.t 0), [19]),
                    (some (173, false), some 177, O.fad 0 (Opd.t 6), [19]),
                    (some (173, false), some 178, O.ld (CK.int IntKind.i64) (Opd.t 177), [23, 19]),
                    (some (173, false), some 179,
                      O.bin BinOp.sub (Opd.t 178) (Opd.c (AV.int IntKind.i64 1000)), [24, 19]),
                    (some (173, false), some 180, O.cvi IntKind.u32 (Opd.t 179), [25, 19]),
                    (some (173, false), some 181, O.bin BinOp.add (Opd.t 176) (Opd.t 180), [22, 26, 19]),
                    (some (173, false), some 182, O.bin BinOp.neq (Opd.t 175) (Opd.t 181), [21, 27, 19]),
                    (none, some 183, O.pick (Opd.t 173) (Opd.c (AV.bool true)) (Opd.t 182), [19, 28])]
def o11_1 : List (Nat × Bool) := [(0, false), (2, false), (3, false), (4, false), (1, true), (5, false), (6, false), (7, false), (8, false), (9, false), (10, false), (11, false), (12, false), (13, false), (14, false), (15, false), (16, false), (17, false), (18, false), (19, false), (20, false), (22, false), (23, false), (24, false), (25, false), (26, false), (27, false), (21, true), (28, false), (29, false)]
def l11_1 : List (Nat × Bool × It) :=
  [(0, false, (none, some 154, O.mv (Opd.t 5), [])),
   (2, false, (none, some 156, O.fad 1 (Opd.t 6), [])),
   (3, false, (none, some 157, O.ld CK.any (Opd.t 156), [2])),
   (4, false, (none, some 158, O.len false (Opd.t 157), [3])),
   (1, true, (none, some 155, O.call 35 [Opd.t 154], [0])),
   (5, false, (none, some 159, O.bin BinOp.neq (Opd.t 155) (Opd.t 158), [1, 4])),
   (6, false, (none, some 160, O.mv (Opd.t 159), [5, 1])),
   (7, false, (some (160, false), some 161, O.mv (Opd.t 19), [6])),
   (8, false, (some (160, false), some 162, O.len false (Opd.t 161), [7, 6])),
   (9, false, (some (160, false), some 163, O.fad 1 (Opd.t 6), [6])),
   (10, false, (some (160, false), some 164, O.ld CK.any (Opd.t 163), [9, 6])),
   (11, false, (some (160, false), some 165, O.len false (Opd.t 164), [10, 6])),
   (12, false, (some (160, false), some 166, O.bin BinOp.neq (Opd.t 162) (Opd.t 165), [8, 11, 6])),
   (13, false, (none, some 167, O.pick (Opd.t 160) (Opd.c (AV.bool true)) (Opd.t 166), [6, 12])),
   (14, false, (none, some 168, O.mv (Opd.t 167), [13, 6])),
   (15, false, (some (168, false), some 169, O.mv (Opd.t 19), [14])),
   (16, false, (some (168, false), some 170, O.len false (Opd.t 169), [15, 14])),
   (17, false, (some (168, false), some 171,
                      O.bin BinOp.gtr (Opd.t 170) (Opd.c (AV.int IntKind.i64 32)), [16, 14])),
   (18, false, (none, some 172, O.pick (Opd.t 168) (Opd.c (AV.bool true)) (Opd.t 171), [14, 17])),
   (19, false, (none, some 173, O.mv (Opd.t 172), [18, 14])),
   (20, false, (some (173, false), some 174, O.mv (Opd.t 5), [19])),
   (22, false, (some (173, false), some 176, O.mv (Opd.t 0), [19])),
   (23, false, (some (173, false), some 177, O.fad 0 (Opd.t 6), [19])),
   (24, false, (some (173, false), some 178, O.ld (CK.int IntKind.i64) (Opd.t 177), [23, 19])),
   (25, false, (some (173, false), some 179,
                      O.bin BinOp.sub (Opd.t 178) (Opd.c (AV.int IntKind.i64 1000)), [24, 19])),
   (26, false, (some (173, false), some 180, O.cvi IntKind.u32 (Opd.t 179), [25, 19])),
   (27, false, (some (173, false), some 181, O.bin BinOp.add (Opd.t 176) (Opd.t 180), [22, 26, 19])),
   (21, true, (some (173, false), some 175, O.call 39 [Opd.t 174], [20, 19, 19])),
   (28, false, (some (173, false), some 182, O.bin BinOp.neq (Opd.t 175) (Opd.t 181), [21, 27, 19])),
   (29, false, (none, some 183, O.pick (Opd.t 173) (Opd.c (AV.bool true)) (Opd.t 182), [19, 28]))]
theorem l11_1_ok : okDraw d11_1 o11_1 = true ∧ mkL d11_1 o11_1 = some l11_1 := ⟨by kernel_rfl, by kernel_rfl⟩

def d11_2 : List It :=
  [(none, some 192, O.mv (Opd.t 19), []), (none, some 193, O.mv (Opd.t 20), []),
                                (none, some 194, O.iad 2 (Opd.t 192) (Opd.t 193), [0, 1]),
                                (none, some 195, O.fad 0 (Opd.t 194), [2]),
                                (none, some 196, O.ld (CK.int IntKind.u32) (Opd.t 195), [3]),
                                (none, some 197, O.mv (Opd.t 0), []), (none, some 198, O.fad 0 (Opd.t 21), []),
                                (none, some 199, O.ld (CK.int IntKind.i64) (Opd.t 198), [6]),
                                (none, some 200,
                                  O.bin BinOp.sub (Opd.t 199) (Opd.c (AV.int IntKind.i64 1000)), [7]),
                                (none, some 201, O.cvi IntKind.u32 (Opd.t 200), [8]),
                                (none, some 202, O.bin BinOp.add (Opd.t 197) (Opd.t 201), [5, 9]),
                                (none, some 203, O.bin BinOp.neq (Opd.t 196) (Opd.t 202), [4, 10]),
                                (none, some 204, O.mv (Opd.t 203), [11]),
                                (some (204, false), some 205, O.mv (Opd.t 19), [12]),
                                (some (204, false), some 206, O.mv (Opd.t 20), [12]),
                                (some (204, false), some 207, O.iad 2 (Opd.t 205) (Opd.t 206), [13, 14, 12]),
                                (some (204, false), some 208, O.fad 1 (Opd.t 207), [15, 12]),
                                (some (204, false), some 209, O.ld CK.str (Opd.t 208), [16, 12]),
                                (some (204, false), some 210, O.fad 1 (Opd.t 21), [12]),
                                (some (204, false), some 211, O.ld CK.str (Opd.t 210), [18, 12]),
                                (some (204, false), some 212, O.bin BinOp.neq (Opd.t 209) (Opd.t 211), [17, 19, 12]),
                                (none, some 213, O.pick (Opd.t 204) (Opd.c (AV.bool true)) (Opd.t 212), [12, 20])]
def o11_2 : List (Nat × Bool) := [(0, false), (1, false), (2, false), (3, false), (4, false), (5, false), (6, false), (7, false), (8, false), (9, false), (10, false), (11, false), (12, false), (13, false), (14, false), (15, false), (16, false), (17, false), (18, false), (19, false), (20, false), (21, false)]
def l11_2 : List (Nat × Bool × It) :=
  [(0, false, (none, some 192, O.mv (Opd.t 19), [])),
   (1, false, (none, some 193, O.mv (Opd.t 20), [])),
   (2, false, (none, some 194, O.iad 2 (Opd.t 192) (Opd.t 193), [0, 1])),
   (3, false, (none, some 195, O.fad 0 (Opd.t 194), [2])),
   (4, false, (none, some 196, O.ld (CK.int IntKind.u32) (Opd.t 195), [3])),
   (5, false, (none, some 197, O.mv (Opd.t 0), [])),
   (6, false, (none, some 198, O.fad 0 (Opd.t 21), [])),
   (7, false, (none, some 199, O.ld (CK.int IntKind.i64) (Opd.t 198), [6])),
   (8, false, (none, some 200,
                                  O.bin BinOp.sub (Opd.t 199) (Opd.c (AV.int IntKind.i64 1000)), [7])),
   (9, false, (none, some 201, O.cvi IntKind.u32 (Opd.t 200), [8])),
   (10, false, (none, some 202, O.bin BinOp.add (Opd.t 197) (Opd.t 201), [5, 9])),
   (11, false, (none, some 203, O.bin BinOp.neq (Opd.t 196) (Opd.t 202), [4, 10])),
   (12, false, (none, some 204, O.mv (Opd.t 203), [11])),
   (13, false, (some (204, false), some 205, O.mv (Opd.t 19), [12])),
   (14, false, (some (204, false), some 206, O.mv (Opd.t 20), [12])),
   (15, false, (some (204, false), some 207, O.iad 2 (Opd.t 205) (Opd.t 206), [13, 14, 12])),
   (16, false, (some (204, false), some 208, O.fad 1 (Opd.t 207), [15, 12])),
   (17, false, (some (204, false), some 209, O.ld CK.str (Opd.t 208), [16, 12])),
   (18, false, (some (204, false), some 210, O.fad 1 (Opd.t 21), [12])),
   (19, false, (some (204, false), some 211, O.ld CK.str (Opd.t 210), [18, 12])),
   (20, false, (some (204, false), some 212, O.bin BinOp.neq (Opd.t 209) (Opd.t 211), [17, 19, 12])),
   (21, false, (none, some 213, O.pick (Opd.t 204) (Opd.c (AV.bool true)) (Opd.t 212), [12, 20]))]
theorem l11_2_ok : okDraw d11_2 o11_2 = true ∧ mkL d11_2 o11_2 = some l11_2 := ⟨by kernel_rfl, by kernel_rfl⟩

def c11 : List C :=
  [C.op none (some 4) (O.mv (Opd.c (AV.bool false))), C.op none (some 22) (O.call 24 []),
    C.op none (some 23) (O.un UnOp.not (Opd.t 22)),
    C.cond (Opd.t 23) [C.op none (some 4) (O.mv (Opd.c (AV.bool false))), C.ret] [],
    C.op none (some 24) (O.mv (Opd.t 0)), C.op none (some 25) (O.call 32 [Opd.t 24]),
    C.op none (some 5) (O.mv (Opd.t 25)),
    C.op none (some 26)
      (O.build [AV.int IntKind.i64 0, AV.nilsl] [(0, 1, Opd.c (AV.int IntKind.i64 1000))]),
    C.op none (some 6) (O.alloc [AV.int IntKind.i64 0, AV.nilsl]),
    C.op none none (O.st 2 (Opd.t 6) (Opd.t 26)), C.op none (some 7) (O.mv (Opd.c (AV.int IntKind.i64 0))),
    C.blk 0
      [C.loop
          [C.op none (some 27) (O.mv (Opd.t 7)), C.op none (some 28) (O.mv (Opd.t 1)),
            C.op none (some 29) (O.len false (Opd.t 28)), C.op none (some 30) (O.bin BinOp.lss (Opd.t 27) (Opd.t 29)),
            C.op none (some 31) (O.mv (Opd.t 30)), C.op (some (31, true)) (some 32) (O.mv (Opd.t 7)),
            C.op (some (31, true)) (some 33) (O.bin BinOp.lss (Opd.t 32) (Opd.c (AV.int IntKind.i64 120))),
            C.op none (some 34) (O.pick (Opd.t 31) (Opd.t 33) (Opd.c (AV.bool false))), C.cond (Opd.t 34) [] [C.exit 0],
            C.blk 1
              [C.op none (some 37) (O.mv (Opd.t 1)), C.op none (some 38) (O.mv (Opd.t 7)),
                C.op none (some 39) (O.iad 4 (Opd.t 37) (Opd.t 38)),
                C.op none (some 40)
                  (O.ldn [CK.int IntKind.i64, CK.int IntKind.i64, CK.int IntKind.u32, CK.str] (Opd.t 39)),
                C.op none (some 8)
                  (O.alloc
                    [AV.int IntKind.i64 0, AV.int IntKind.i64 0,
                      AV.int IntKind.u32 0, AV.str []]),
                C.op none none (O.st 4 (Opd.t 8) (Opd.t 40)), C.op none (some 41) (O.fad 3 (Opd.t 8)),
                C.op none (some 42) (O.ld CK.str (Opd.t 41)),
                C.op none (some 43) (O.call 14 [Opd.t 42, Opd.c (AV.int IntKind.i64 6)]),
                C.op none (some 9) (O.mv (Opd.t 43)), C.op none (some 44) (O.fad 0 (Opd.t 8)),
                C.op none (some 45) (O.ld (CK.int IntKind.i64) (Opd.t 44)),
                C.blk 2
                  [C.op none (some 47) (O.bin BinOp.eql (Opd.t 45) (Opd.c (AV.int IntKind.i64 1))),
                    C.op none (some 46) (O.mv (Opd.t 47)),
                    C.cond (Opd.t 46)
                      [C.op none (some 49) (O.mv (Opd.t 5)), C.op none (some 50) (O.mv (Opd.t 9)),
                        C.op none (some 51) (O.call 33 [Opd.t 49, Opd.t 50]), C.op none (some 48) (O.mv (Opd.t 51)),
                        C.op none (some 52) (O.ext (Opd.t 48) 0), C.op none (some 53) (O.ext (Opd.t 48) 1),
                        C.op none (some 10) (O.mv (Opd.t 52)), C.op none (some 11) (O.mv (Opd.t 53)),
                        C.op none (some 55) (O.ldn [CK.int IntKind.i64, CK.any] (Opd.t 6)),
                        C.op none (some 56) (O.mv (Opd.t 9)), C.op none (some 57) (O.call 37 [Opd.t 55, Opd.t 56]),
                        C.op none (some 54) (O.mv (Opd.t 57)), C.op none (some 58) (O.ext (Opd.t 54) 0),
                        C.op none (some 59) (O.ext (Opd.t 54) 1),
                        C.op none (some 12) (O.alloc [AV.int IntKind.i64 0, AV.nilsl]),
                        C.op none none (O.st 2 (Opd.t 12) (Opd.t 58)), C.op none (some 13) (O.mv (Opd.t 59)),
                        C.op none (some 60) (O.mv (Opd.t 11)),
                        C.op none (some 61) (O.bin BinOp.eql (Opd.t 60) (Opd.c (AV.int IntKind.i64 0))),
                        C.op none (some 62) (O.mv (Opd.t 13)), C.op none (some 63) (O.eqb true (Opd.t 61) (Opd.t 62)),
                        C.op none (some 64) (O.mv (Opd.t 63)), C.op (some (64, false)) (some 65) (O.mv (Opd.t 13)),
                        C.op (some (64, false)) (some 66) (O.un UnOp.not (Opd.t 65)),
                        C.op (some (64, false)) (some 67) (O.mv (Opd.t 66)),
                        C.op (some (67, true)) (some 68) (O.mv (Opd.t 11)),
                        C.op (some (67, true)) (some 69)
                          (O.bin BinOp.neq (Opd.t 68) (Opd.c (AV.int IntKind.i64 8))),
                        C.op (some (67, true)) (some 70) (O.mv (Opd.t 69)),
                        C.op (some (70, false)) (some 71) (O.mv (Opd.t 10)),
                        C.op (some (70, false)) (some 72)
                          (O.bin BinOp.neq (Opd.t 71) (Opd.c (AV.int IntKind.u32 0))),
                        C.op (some (67, true)) (some 73) (O.pick (Opd.t 70) (Opd.c (AV.bool true)) (Opd.t 72)),
                        C.op (some (64, false)) (some 74) (O.pick (Opd.t 67) (Opd.t 73) (Opd.c (AV.bool false))),
                        C.op none (some 75) (O.pick (Opd.t 64) (Opd.c (AV.bool true)) (Opd.t 74)),
                        C.op none (some 76) (O.mv (Opd.t 75)), C.op (some (76, false)) (some 77) (O.mv (Opd.t 13)),
                        C.op (some (76, false)) (some 78) (O.mv (Opd.t 77)),
                        C.op (some (78, true)) (some 79) (O.mv (Opd.t 10)),
                        C.op (some (78, true)) (some 80) (O.mv (Opd.t 0)),
                        C.op (some (78, true)) (some 81) (O.fad 0 (Opd.t 6)),
                        C.op (some (78, true)) (some 82) (O.ld (CK.int IntKind.i64) (Opd.t 81)),
                        C.op (some (78, true)) (some 83)
                          (O.bin BinOp.sub (Opd.t 82) (Opd.c (AV.int IntKind.i64 1000))),
                        C.op (some (78, true)) (some 84) (O.cvi IntKind.u32 (Opd.t 83)),
                        C.op (some (78, true)) (some 85) (O.bin BinOp.add (Opd.t 80) (Opd.t 84)),
                        C.op (some (78, true)) (some 86) (O.bin BinOp.neq (Opd.t 79) (Opd.t 85)),
                        C.op (some (76, false)) (some 87) (O.pick (Opd.t 78) (Opd.t 86) (Opd.c (AV.bool false))),
                        C.op none (some 88) (O.pick (Opd.t 76) (Opd.c (AV.bool true)) (Opd.t 87)),
                        C.cond (Opd.t 88) [C.op none (some 4) (O.mv (Opd.c (AV.bool false))), C.ret] [],
                        C.op none (some 89) (O.ldn [CK.int IntKind.i64, CK.any] (Opd.t 12)),
                        C.op none none (O.st 2 (Opd.t 6) (Opd.t 89))]
                      [C.op none (some 91) (O.bin BinOp.eql (Opd.t 45) (Opd.c (AV.int IntKind.i64 2))),
                        C.op none (some 90) (O.mv (Opd.t 91)),
                        C.cond (Opd.t 90)
                          [C.op none (some 92) (O.fad 0 (Opd.t 6)),
                            C.op none (some 93) (O.ld (CK.int IntKind.i64) (Opd.t 92)),
                            C.op none (some 14) (O.mv (Opd.t 93)), C.op none (some 94) (O.fad 1 (Opd.t 6)),
                            C.op none (some 95) (O.ld CK.any (Opd.t 94)), C.op none (some 96) (O.len false (Opd.t 95)),
                            C.op none (some 97) (O.bin BinOp.gtr (Opd.t 96) (Opd.c (AV.int IntKind.i64 0))),
                            C.cond (Opd.t 97)
                              [C.op none (some 98) (O.fad 1 (Opd.t 6)), C.op none (some 99) (O.ld CK.any (Opd.t 98)),
                                C.op none (some 100) (O.iad 2 (Opd.t 99) (Opd.c (AV.int IntKind.i64 0))),
                                C.op none (some 101) (O.fad 0 (Opd.t 100)),
                                C.op none (some 102) (O.ld (CK.int IntKind.i64) (Opd.t 101)),
                                C.op none (some 14) (O.mv (Opd.t 102))]
                              [],
                            C.op none (some 103) (O.mv (Opd.t 14)), C.op none (some 104) (O.fad 1 (Opd.t 8)),
                            C.op none (some 105) (O.ld (CK.int IntKind.i64) (Opd.t 104)),
                            C.op none (some 106)
                              (O.bin BinOp.and (Opd.t 105) (Opd.c (AV.int IntKind.i64 127))),
                            C.op none (some 107)
                              (O.bin BinOp.sub (Opd.t 106) (Opd.c (AV.int IntKind.i64 40))),
                            C.op none (some 108) (O.bin BinOp.add (Opd.t 103) (Opd.t 107)),
                            C.op none (some 14) (O.mv (Opd.t 108)), C.op none (some 109) (O.mv (Opd.t 5)),
                            C.op none (some 110) (O.mv (Opd.t 0)), C.op none (some 111) (O.mv (Opd.t 14)),
                            C.op none (some 112)
                              (O.bin BinOp.sub (Opd.t 111) (Opd.c (AV.int IntKind.i64 1000))),
                            C.op none (some 113) (O.cvi IntKind.u32 (Opd.t 112)),
                            C.op none (some 114) (O.bin BinOp.add (Opd.t 110) (Opd.t 113)),
                            C.op none (some 115) (O.fad 2 (Opd.t 8)),
                            C.op none (some 116) (O.ld (CK.int IntKind.u32) (Opd.t 115)),
                            C.op none (some 117)
                              (O.build [AV.int IntKind.u32 0, AV.int IntKind.u32 0]
                                [(0, 1, Opd.t 114), (1, 1, Opd.t 116)]),
                            C.op none (some 118) (O.call 34 [Opd.t 109, Opd.t 117]),
                            C.op none (some 15) (O.mv (Opd.t 118)),
                            C.op none (some 120) (O.ldn [CK.int IntKind.i64, CK.any] (Opd.t 6)),
                            C.op none (some 121) (O.mv (Opd.t 14)), C.op none (some 122) (O.fad 2 (Opd.t 8)),
                            C.op none (some 123) (O.ld (CK.int IntKind.u32) (Opd.t 122)),
                            C.op none (some 124) (O.call 38 [Opd.t 120, Opd.t 121, Opd.t 123]),
                            C.op none (some 119) (O.mv (Opd.t 124)), C.op none (some 125) (O.ext (Opd.t 119) 0),
                            C.op none (some 126) (O.ext (Opd.t 119) 1),
                            C.op none (some 16) (O.alloc [AV.int IntKind.i64 0, AV.nilsl]),
                            C.op none none (O.st 2 (Opd.t 16) (Opd.t 125)), C.op none (some 17) (O.mv (Opd.t 126)),
                            C.op none (some 127) (O.ldn [CK.int IntKind.i64, CK.any] (Opd.t 16)),
                            C.op none none (O.st 2 (Opd.t 6) (Opd.t 127)), C.op none (some 128) (O.mv (Opd.t 15)),
                            C.op none (some 129) (O.len false (Opd.t 128)), C.op none (some 130) (O.mv (Opd.t 17)),
                            C.op none (some 131) (O.len false (Opd.t 130)),
                            C.op none (some 132) (O.bin BinOp.neq (Opd.t 129) (Opd.t 131)),
                            C.cond (Opd.t 132) [C.op none (some 4) (O.mv (Opd.c (AV.bool false))), C.ret] [],
                            C.op none (some 133) (O.mv (Opd.t 17)), C.op none (some 134) (O.len false (Opd.t 133)),
                            C.op none (some 135) (O.mv (Opd.c (AV.int IntKind.i64 0))),
                            C.blk 3
                              [C.loop
                                  [C.op none (some 136) (O.bin BinOp.lss (Opd.t 135) (Opd.t 134)),
                                    C.cond (Opd.t 136) [] [C.exit 3],
                                    C.blk 4
                                      [C.op none (some 137) (O.mv (Opd.t 135)), C.op none (some 18) (O.mv (Opd.t 137)),
                                        C.draw d11_0,
                                        C.cond (Opd.t 150) [C.op none (some 4) (O.mv (Opd.c (AV.bool false))), C.ret]
                                          []],
                                    C.op none (some 151)
                                      (O.bin BinOp.add (Opd.t 135) (Opd.c (AV.int IntKind.i64 1))),
                                    C.op none (some 135) (O.mv (Opd.t 151))]]]
                          []]],
                C.op none (some 152) (O.mv (Opd.t 5)), C.op none (some 153) (O.call 36 [Opd.t 152]),
                C.op none (some 19) (O.mv (Opd.t 153)),
                C.draw d11_1,
                C.cond (Opd.t 183) [C.op none (some 4) (O.mv (Opd.c (AV.bool false))), C.ret] [],
                C.op none (some 184) (O.fad 1 (Opd.t 6)), C.op none (some 185) (O.ld CK.any (Opd.t 184)),
                C.op none (some 186) (O.len false (Opd.t 185)),
                C.op none (some 187) (O.mv (Opd.c (AV.int IntKind.i64 0))),
                C.blk 5
                  [C.loop
                      [C.op none (some 188) (O.bin BinOp.lss (Opd.t 187) (Opd.t 186)), C.cond (Opd.t 188) [] [C.exit 5],
                        C.blk 6
                          [C.op none (some 189) (O.mv (Opd.t 187)),
                            C.op none (some 190) (O.iad 2 (Opd.t 185) (Opd.t 187)),
                            C.op none (some 191) (O.ldn [CK.int IntKind.i64, CK.str] (Opd.t 190)),
                            C.op none (some 21) (O.alloc [AV.int IntKind.i64 0, AV.str []]),
                            C.op none (some 20) (O.mv (Opd.t 189)), C.op none none (O.st 2 (Opd.t 21) (Opd.t 191)),
                            C.draw d11_2,
                            C.cond (Opd.t 213) [C.op none (some 4) (O.mv (Opd.c (AV.bool false))), C.ret] []],
                        C.op none (some 214) (O.bin BinOp.add (Opd.t 187) (Opd.c (AV.int IntKind.i64 1))),
                        C.op none (some 187) (O.mv (Opd.t 214))]]],
            C.op none (some 35) (O.mv (Opd.t 7)),
            C.op none (some 36) (O.bin BinOp.add (Opd.t 35) (Opd.c (AV.int IntKind.i64 1))),
            C.op none (some 7) (O.mv (Opd.t 36))]],
    C.op none (some 4) (O.mv (Opd.c (AV.bool true))), C.ret]
def r11 : List RV := [RV.t 4]
theorem c11_ok : cC Try.prog Try.f11.ntmps (Try.f11.body.getD .skip) = some c11 := by kernel_rfl

def c12 : List C :=
  [C.op none (some 6) (O.mv (Opd.c (AV.bool false))), C.op none (some 20) (O.call 24 []),
    C.op none (some 21) (O.un UnOp.not (Opd.t 20)),
    C.cond (Opd.t 21) [C.op none (some 6) (O.mv (Opd.c (AV.bool false))), C.ret] [],
    C.op none (some 22) (O.mv (Opd.t 1)),
    C.op none (some 23) (O.bin BinOp.and (Opd.t 22) (Opd.c (AV.int IntKind.i64 63))),
    C.op none (some 1) (O.mv (Opd.t 23)), C.op none (some 24) (O.mv (Opd.t 0)),
    C.op none (some 25) (O.call 32 [Opd.t 24]), C.op none (some 26) (O.mv (Opd.t 0)),
    C.op none (some 27) (O.call 26 [Opd.t 26]), C.op none (some 8) (O.alloc [AV.nilptr]),
    C.op none (some 7) (O.mv (Opd.t 25)), C.op none none (O.st 1 (Opd.t 8) (Opd.t 27)),
    C.op none (some 10) (O.alloc [AV.int IntKind.i64 0]),
    C.op none (some 9) (O.mv (Opd.c (AV.int IntKind.i64 0))),
    C.op none none (O.st 1 (Opd.t 10) (Opd.c (AV.int IntKind.i64 0))),
    C.op none (some 28) (O.mkfn 40 [] [Opd.t 8, Opd.t 10]), C.op none (some 11) (O.mv (Opd.t 28)),
    C.op none (some 12) (O.mv (Opd.c (AV.int IntKind.i64 0))),
    C.blk 0
      [C.loop
          [C.op none (some 29) (O.mv (Opd.t 12)), C.op none (some 30) (O.mv (Opd.t 2)),
            C.op none (some 31) (O.len false (Opd.t 30)), C.op none (some 32) (O.bin BinOp.lss (Opd.t 29) (Opd.t 31)),
            C.op none (some 33) (O.mv (Opd.t 32)), C.op (some (33, true)) (some 34) (O.mv (Opd.t 12)),
            C.op (some (33, true)) (some 35) (O.bin BinOp.lss (Opd.t 34) (Opd.c (AV.int IntKind.i64 200))),
            C.op none (some 36) (O.pick (Opd.t 33) (Opd.t 35) (Opd.c (AV.bool false))), C.cond (Opd.t 36) [] [C.exit 0],
            C.blk 1
              [C.op none (some 39) (O.mv (Opd.t 9)), C.op none (some 40) (O.mv (Opd.t 1)),
                C.op none (some 41) (O.bin BinOp.lss (Opd.t 39) (Opd.t 40)),
                C.cond (Opd.t 41)
                  [C.op none (some 43) (O.mv (Opd.t 7)), C.op none (some 44) (O.mv (Opd.t 9)),
                    C.op none (some 45) (O.cvi IntKind.u8 (Opd.t 44)),
                    C.op none (some 46) (O.bsl 1 [AV.int IntKind.u8 0] 1 [(0, Opd.t 45)]),
                    C.op none (some 47) (O.cvb (Opd.t 46)), C.op none (some 48) (O.call 33 [Opd.t 43, Opd.t 47]),
                    C.op none (some 42) (O.mv (Opd.t 48)), C.op none (some 49) (O.ext (Opd.t 42) 0),
                    C.op none (some 50) (O.ext (Opd.t 42) 1), C.op none (some 13) (O.mv (Opd.t 49)),
                    C.op none (some 14) (O.mv (Opd.t 50)), C.op none (some 51) (O.mv (Opd.t 14)),
                    C.op none (some 52) (O.bin BinOp.eql (Opd.t 51) (Opd.c (AV.int IntKind.i64 0))),
                    C.cond (Opd.t 52)
                      [C.op none (some 53) (O.mv (Opd.t 9)),
                        C.op none (some 54) (O.bin BinOp.add (Opd.t 53) (Opd.c (AV.int IntKind.i64 1))),
                        C.op none (some 9) (O.mv (Opd.t 54))]
                      []]
                  [],
                C.op none (some 55) (O.mv (Opd.t 7)), C.op none (some 56) (O.call 36 [Opd.t 55]),
                C.op none (some 15) (O.mv (Opd.t 56)), C.op none (some 57) (O.mv (Opd.t 15)),
                C.op none (some 58) (O.len false (Opd.t 57)),
                C.op none (some 59) (O.bin BinOp.gtr (Opd.t 58) (Opd.c (AV.int IntKind.i64 0))),
                C.op none (some 60) (O.mv (Opd.t 59)), C.op (some (60, true)) (some 61) (O.mv (Opd.t 2)),
                C.op (some (60, true)) (some 62) (O.mv (Opd.t 12)),
                C.op (some (60, true)) (some 63) (O.iad 1 (Opd.t 61) (Opd.t 62)),
                C.op (some (60, true)) (some 64) (O.ld (CK.int IntKind.i64) (Opd.t 63)),
                C.op (some (60, true)) (some 65)
                  (O.bin BinOp.and (Opd.t 64) (Opd.c (AV.int IntKind.i64 3))),
                C.op (some (60, true)) (some 66)
                  (O.bin BinOp.neq (Opd.t 65) (Opd.c (AV.int IntKind.i64 0))),
                C.op none (some 67) (O.pick (Opd.t 60) (Opd.t 66) (Opd.c (AV.bool false))),
                C.op none (some 68) (O.mv (Opd.t 67)), C.op (some (68, true)) (some 69) (O.mv (Opd.t 11)),
                C.op (some (68, true)) (some 70) (O.mv (Opd.t 15)), C.op (some (68, true)) (some 71) (O.mv (Opd.t 2)),
                C.op (some (68, true)) (some 72) (O.mv (Opd.t 12)),
                C.op (some (68, true)) (some 73) (O.iad 1 (Opd.t 71) (Opd.t 72)),
                C.op (some (68, true)) (some 74) (O.ld (CK.int IntKind.i64) (Opd.t 73)),
                C.op (some (68, true)) (some 75)
                  (O.bin BinOp.shr (Opd.t 74) (Opd.c (AV.int IntKind.u64 2))),
                C.op (some (68, true)) (some 76)
                  (O.bin BinOp.and (Opd.t 75) (Opd.c (AV.int IntKind.i64 255))),
                C.op (some (68, true)) (some 77) (O.mv (Opd.t 15)),
                C.op (some (68, true)) (some 78) (O.len false (Opd.t 77)),
                C.op (some (68, true)) (some 79) (O.bin BinOp.rem (Opd.t 76) (Opd.t 78)),
                C.op (some (68, true)) (some 80) (O.iad 2 (Opd.t 70) (Opd.t 79)),
                C.op (some (68, true)) (some 81) (O.ldn [CK.int IntKind.u32, CK.str] (Opd.t 80)),
                C.op (some (68, true)) (some 82) (O.callv (Opd.t 69) [Opd.t 81]),
                C.op (some (68, true)) (some 83) (O.un UnOp.not (Opd.t 82)),
                C.op none (some 84) (O.pick (Opd.t 68) (Opd.t 83) (Opd.c (AV.bool false))),
                C.cond (Opd.t 84) [C.op none (some 6) (O.mv (Opd.c (AV.bool false))), C.ret] [],
                C.op none (some 85) (O.mv (Opd.t 2)), C.op none (some 86) (O.mv (Opd.t 12)),
                C.op none (some 87) (O.iad 1 (Opd.t 85) (Opd.t 86)),
                C.op none (some 88) (O.ld (CK.int IntKind.i64) (Opd.t 87)),
                C.op none (some 89) (O.bin BinOp.and (Opd.t 88) (Opd.c (AV.int IntKind.i64 1024))),
                C.op none (some 90) (O.bin BinOp.gtr (Opd.t 89) (Opd.c (AV.int IntKind.i64 0))),
                C.cond (Opd.t 90)
                  [C.op none (some 91) (O.mv (Opd.t 7)), C.op none (some 92) (O.ld CK.any (Opd.t 8)),
                    C.op none (some 93) (O.call 29 [Opd.t 92]), C.op none (some 94) (O.call 34 [Opd.t 91, Opd.t 93])]
                  []],
            C.op none (some 37) (O.mv (Opd.t 12)),
            C.op none (some 38) (O.bin BinOp.add (Opd.t 37) (Opd.c (AV.int IntKind.i64 1))),
            C.op none (some 12) (O.mv (Opd.t 38))]],
    C.op none (some 95) (O.mv (Opd.t 1)),
    C.op none (some 96) (O.bin BinOp.mul (Opd.c (AV.int IntKind.i64 2)) (Opd.t 95)),
    C.op none (some 97) (O.bin BinOp.add (Opd.t 96) (Opd.c (AV.int IntKind.i64 2))),
    C.op none (some 98) (O.mv (Opd.c (AV.int IntKind.i64 0))),
    C.blk 2
      [C.loop
          [C.op none (some 99) (O.bin BinOp.lss (Opd.t 98) (Opd.t 97)), C.cond (Opd.t 99) [] [C.exit 2],
            C.blk 3
              [C.op none (some 100) (O.mv (Opd.t 9)), C.op none (some 101) (O.mv (Opd.t 1)),
                C.op none (some 102) (O.bin BinOp.lss (Opd.t 100) (Opd.t 101)),
                C.cond (Opd.t 102)
                  [C.op none (some 104) (O.mv (Opd.t 7)), C.op none (some 105) (O.mv (Opd.t 9)),
                    C.op none (some 106) (O.cvi IntKind.u8 (Opd.t 105)),
                    C.op none (some 107) (O.bsl 1 [AV.int IntKind.u8 0] 1 [(0, Opd.t 106)]),
                    C.op none (some 108) (O.cvb (Opd.t 107)), C.op none (some 109) (O.call 33 [Opd.t 104, Opd.t 108]),
                    C.op none (some 103) (O.mv (Opd.t 109)), C.op none (some 110) (O.ext (Opd.t 103) 0),
                    C.op none (some 111) (O.ext (Opd.t 103) 1), C.op none (some 16) (O.mv (Opd.t 110)),
                    C.op none (some 17) (O.mv (Opd.t 111)), C.op none (some 112) (O.mv (Opd.t 17)),
                    C.op none (some 113) (O.bin BinOp.eql (Opd.t 112) (Opd.c (AV.int IntKind.i64 0))),
                    C.cond (Opd.t 113)
                      [C.op none (some 114) (O.mv (Opd.t 9)),
                        C.op none (some 115) (O.bin BinOp.add (Opd.t 114) (Opd.c (AV.int IntKind.i64 1))),
                        C.op none (some 9) (O.mv (Opd.t 115))]
                      []]
                  [],
                C.op none (some 116) (O.mv (Opd.t 7)), C.op none (some 117) (O.call 36 [Opd.t 116]),
                C.op none (some 118) (O.len false (Opd.t 117)),
                C.op none (some 119) (O.mv (Opd.c (AV.int IntKind.i64 0))),
                C.blk 4
                  [C.loop
                      [C.op none (some 120) (O.bin BinOp.lss (Opd.t 119) (Opd.t 118)), C.cond (Opd.t 120) [] [C.exit 4],
                        C.blk 5
                          [C.op none (some 121) (O.iad 2 (Opd.t 117) (Opd.t 119)),
                            C.op none (some 122) (O.ldn [CK.int IntKind.u32, CK.str] (Opd.t 121)),
                            C.op none (some 19) (O.alloc [AV.int IntKind.u32 0, AV.str []]),
                            C.op none none (O.st 2 (Opd.t 19) (Opd.t 122)), C.op none (some 123) (O.mv (Opd.t 11)),
                            C.op none (some 124) (O.ldn [CK.int IntKind.u32, CK.str] (Opd.t 19)),
                            C.op none (some 125) (O.callv (Opd.t 123) [Opd.t 124]),
                            C.op none (some 126) (O.un UnOp.not (Opd.t 125)),
                            C.cond (Opd.t 126) [C.op none (some 6) (O.mv (Opd.c (AV.bool false))), C.ret] []],
                        C.op none (some 127) (O.bin BinOp.add (Opd.t 119) (Opd.c (AV.int IntKind.i64 1))),
                        C.op none (some 119) (O.mv (Opd.t 127))]],
                C.op none (some 128) (O.mv (Opd.t 7)), C.op none (some 129) (O.ld CK.any (Opd.t 8)),
                C.op none (some 130) (O.call 29 [Opd.t 129]), C.op none (some 131) (O.call 34 [Opd.t 128, Opd.t 130])],
            C.op none (some 132) (O.bin BinOp.add (Opd.t 98) (Opd.c (AV.int IntKind.i64 1))),
            C.op none (some 98) (O.mv (Opd.t 132))]],
    C.op none (some 133) (O.ld (CK.int IntKind.i64) (Opd.t 10)), C.op none (some 134) (O.mv (Opd.t 1)),
    C.op none (some 135) (O.bin BinOp.eql (Opd.t 133) (Opd.t 134)), C.op none (some 136) (O.mv (Opd.t 135)),
    C.op (some (136, true)) (some 137) (O.mv (Opd.t 9)), C.op (some (136, true)) (some 138) (O.mv (Opd.t 1)),
    C.op (some (136, true)) (some 139) (O.bin BinOp.eql (Opd.t 137) (Opd.t 138)),
    C.op none (some 140) (O.pick (Opd.t 136) (Opd.t 139) (Opd.c (AV.bool false))),
    C.op none (some 141) (O.mv (Opd.t 140)), C.op (some (141, true)) (some 142) (O.mv (Opd.t 7)),
    C.op (some (141, true)) (some 143) (O.call 35 [Opd.t 142]),
    C.op (some (141, true)) (some 144) (O.bin BinOp.eql (Opd.t 143) (Opd.c (AV.int IntKind.i64 0))),
    C.op none (some 145) (O.pick (Opd.t 141) (Opd.t 144) (Opd.c (AV.bool false))),
    C.op none (some 146) (O.mv (Opd.t 145)), C.op (some (146, true)) (some 147) (O.ld CK.any (Opd.t 8)),
    C.op (some (146, true)) (some 148) (O.call 30 [Opd.t 147]),
    C.op (some (146, true)) (some 149) (O.bin BinOp.eql (Opd.t 148) (Opd.c (AV.int IntKind.i64 0))),
    C.op none (some 150) (O.pick (Opd.t 146) (Opd.t 149) (Opd.c (AV.bool false))),
    C.op none (some 6) (O.mv (Opd.t 150)), C.ret]
def r12 : List RV := [RV.t 6]
theorem c12_ok : cC Try.prog Try.f12.ntmps (Try.f12.body.getD .skip) = some c12 := by kernel_rfl

def c13 : List C :=
  [C.op none (some 0) (O.mv (Opd.c (AV.bool false))),
    C.op none (some 8)
      (O.mksl 1 [AV.int IntKind.u8 0] 1 (Opd.c (AV.int IntKind.i64 450))
        (Opd.c (AV.int IntKind.i64 450))),
    C.op none (some 9) (O.cvb (Opd.t 8)), C.op none (some 10) (O.call 21 [Opd.t 9]),
    C.op none (some 7) (O.mv (Opd.t 10)), C.op none (some 11) (O.ext (Opd.t 7) 0),
    C.op none (some 12) (O.ext (Opd.t 7) 1), C.op none (some 1) (O.mv (Opd.t 11)), C.op none (some 2) (O.mv (Opd.t 12)),
    C.op none (some 3) (O.alloc [AV.str [], AV.int IntKind.i64 0]),
    C.op none (some 14)
      (O.build [AV.bool false, AV.str []]
        [(0, 1, Opd.c (AV.bool true)),
          (1, 1, Opd.c (AV.str [97]))]),
    C.op none (some 15) (O.call 15 [Opd.t 3, Opd.t 14]), C.op none (some 13) (O.mv (Opd.t 15)),
    C.op none (some 16) (O.ext (Opd.t 13) 0), C.op none (some 17) (O.ext (Opd.t 13) 1),
    C.op none (some 18) (O.ext (Opd.t 13) 2), C.op none (some 4) (O.mv (Opd.t 16)),
    C.op none (some 5) (O.mv (Opd.t 17)), C.op none (some 6) (O.mv (Opd.t 18)), C.op none (some 19) (O.mv (Opd.t 2)),
    C.op none (some 20) (O.bin BinOp.eql (Opd.t 19) (Opd.c (AV.int IntKind.i64 0))),
    C.op none (some 21) (O.mv (Opd.t 20)), C.op (some (21, true)) (some 22) (O.mv (Opd.t 1)),
    C.op (some (21, true)) (some 23) (O.len false (Opd.t 22)),
    C.op (some (21, true)) (some 24) (O.bin BinOp.eql (Opd.t 23) (Opd.c (AV.int IntKind.i64 3))),
    C.op none (some 25) (O.pick (Opd.t 21) (Opd.t 24) (Opd.c (AV.bool false))), C.op none (some 26) (O.mv (Opd.t 25)),
    C.op (some (26, true)) (some 27) (O.mv (Opd.t 1)),
    C.op (some (26, true)) (some 28) (O.iad 2 (Opd.t 27) (Opd.c (AV.int IntKind.i64 2))),
    C.op (some (26, true)) (some 29) (O.fad 1 (Opd.t 28)), C.op (some (26, true)) (some 30) (O.ld CK.str (Opd.t 29)),
    C.op (some (26, true)) (some 31) (O.len true (Opd.t 30)),
    C.op (some (26, true)) (some 32) (O.bin BinOp.eql (Opd.t 31) (Opd.c (AV.int IntKind.i64 50))),
    C.op none (some 33) (O.pick (Opd.t 26) (Opd.t 32) (Opd.c (AV.bool false))), C.op none (some 34) (O.mv (Opd.t 33)),
    C.op (some (34, true)) (some 35) (O.mv (Opd.t 1)),
    C.op (some (34, true)) (some 36) (O.iad 2 (Opd.t 35) (Opd.c (AV.int IntKind.i64 2))),
    C.op (some (34, true)) (some 37) (O.fad 0 (Opd.t 36)), C.op (some (34, true)) (some 38) (O.ld CK.bool (Opd.t 37)),
    C.op none (some 39) (O.pick (Opd.t 34) (Opd.t 38) (Opd.c (AV.bool false))), C.op none (some 40) (O.mv (Opd.t 39)),
    C.op (some (40, true)) (some 41) (O.mv (Opd.t 1)),
    C.op (some (40, true)) (some 42) (O.iad 2 (Opd.t 41) (Opd.c (AV.int IntKind.i64 1))),
    C.op (some (40, true)) (some 43) (O.fad 0 (Opd.t 42)), C.op (some (40, true)) (some 44) (O.ld CK.bool (Opd.t 43)),
    C.op (some (40, true)) (some 45) (O.un UnOp.not (Opd.t 44)),
    C.op none (some 46) (O.pick (Opd.t 40) (Opd.t 45) (Opd.c (AV.bool false))), C.op none (some 47) (O.mv (Opd.t 46)),
    C.op (some (47, true)) (some 48) (O.mv (Opd.t 4)),
    C.op (some (47, true)) (some 49)
      (O.bin BinOp.eql (Opd.t 48)
        (Opd.c (AV.str [97]))),
    C.op none (some 50) (O.pick (Opd.t 47) (Opd.t 49) (Opd.c (AV.bool false))), C.op none (some 51) (O.mv (Opd.t 50)),
    C.op (some (51, true)) (some 52) (O.mv (Opd.t 5)),
    C.op none (some 53) (O.pick (Opd.t 51) (Opd.t 52) (Opd.c (AV.bool false))), C.op none (some 54) (O.mv (Opd.t 53)),
    C.op (some (54, true)) (some 55) (O.mv (Opd.t 6)),
    C.op (some (54, true)) (some 56) (O.bin BinOp.eql (Opd.t 55) (Opd.c (AV.int IntKind.i64 0))),
    C.op none (some 57) (O.pick (Opd.t 54) (Opd.t 56) (Opd.c (AV.bool false))), C.op none (some 58) (O.mv (Opd.t 57)),
    C.op (some (58, true)) (some 59) (O.mv (Opd.t 1)),
    C.op (some (58, true)) (some 60) (O.iad 2 (Opd.t 59) (Opd.c (AV.int IntKind.i64 2))),
    C.op (some (58, true)) (some 61) (O.ldn [CK.bool, CK.str] (Opd.t 60)),
    C.op (some (58, true)) (some 62) (O.call 20 [Opd.t 61]),
    C.op (some (58, true)) (some 63) (O.ist (Opd.t 62) (Opd.c (AV.int IntKind.i64 0))),
    C.op (some (58, true)) (some 64) (O.bin BinOp.eql (Opd.t 63) (Opd.c (AV.int IntKind.u8 1))),
    C.op none (some 65) (O.pick (Opd.t 58) (Opd.t 64) (Opd.c (AV.bool false))), C.op none (some 0) (O.mv (Opd.t 65)),
    C.ret]
def r13 : List RV := [RV.t 0]
theorem c13_ok : cC Try.prog Try.f13.ntmps (Try.f13.body.getD .skip) = some c13 := by kernel_rfl

def c14 : List C :=
  [C.op none (some 4) (O.mv (Opd.c (AV.str []))), C.op none (some 5) (O.mv (Opd.t 0)),
    C.op none (some 6) (O.len true (Opd.t 5)), C.op none (some 7) (O.mv (Opd.t 1)),
    C.op none (some 8) (O.bin BinOp.gtr (Opd.t 6) (Opd.t 7)),
    C.cond (Opd.t 8)
      [C.op none (some 9) (O.mv (Opd.t 0)), C.op none (some 10) (O.mv (Opd.t 1)),
        C.op none (some 11) (O.ssl (Opd.t 9) none (some (Opd.t 10))), C.op none (some 4) (O.mv (Opd.t 11)), C.ret]
      [],
    C.op none (some 12) (O.mv (Opd.t 0)), C.op none (some 4) (O.mv (Opd.t 12)), C.ret]
def r14 : List RV := [RV.t 4]
theorem c14_ok : cC Try.prog Try.f14.ntmps (Try.f14.body.getD .skip) = some c14 := by kernel_rfl

def d15_0 : List It :=
  [(none, some 8, O.fad 1 (Opd.t 3), []), (none, some 9, O.ld CK.str (Opd.t 8), [0]),
        (none, some 10, O.len true (Opd.t 9), [1]),
        (none, some 11, O.bin BinOp.gtr (Opd.t 10) (Opd.c (AV.int IntKind.i64 200)), [2]),
        (none, some 12, O.mv (Opd.t 11), [3]), (some (12, false), some 13, O.mv (Opd.t 0), [4]),
        (some (12, false), some 14, O.nck (Opd.t 13), [5, 4]), (some (12, false), some 15, O.fad 0 (Opd.t 14), [6, 4]),
        (some (12, false), some 16, O.ld CK.str (Opd.t 15), [7, 4]),
        (some (12, false), some 17, O.len true (Opd.t 16), [8, 4]), (some (12, false), some 18, O.fad 1 (Opd.t 3), [4]),
        (some (12, false), some 19, O.ld CK.str (Opd.t 18), [10, 4]),
        (some (12, false), some 20, O.len true (Opd.t 19), [11, 4]),
        (some (12, false), some 21, O.bin BinOp.add (Opd.t 17) (Opd.t 20), [9, 12, 4]),
        (some (12, false), some 22, O.bin BinOp.gtr (Opd.t 21) (Opd.c (AV.int IntKind.i64 65536)), [13, 4]),
        (none, some 23, O.pick (Opd.t 12) (Opd.c (AV.bool true)) (Opd.t 22), [4, 14])]
def o15_0 : List (Nat × Bool) := [(0, false), (1, false), (2, false), (3, false), (4, false), (5, false), (6, false), (7, false), (8, false), (9, false), (10, false), (11, false), (12, false), (13, false), (14, false), (15, false)]
def l15_0 : List (Nat × Bool × It) :=
  [(0, false, (none, some 8, O.fad 1 (Opd.t 3), [])),
   (1, false, (none, some 9, O.ld CK.str (Opd.t 8), [0])),
   (2, false, (none, some 10, O.len true (Opd.t 9), [1])),
   (3, false, (none, some 11, O.bin BinOp.gtr (Opd.t 10) (Opd.c (AV.int IntKind.i64 200)), [2])),
   (4, false, (none, some 12, O.mv (Opd.t 11), [3])),
   (5, false, (some (12, false), some 13, O.mv (Opd.t 0), [4])),
   (6, false, (some (12, false), some 14, O.nck (Opd.t 13), [5, 4])),
   (7, false, (some (12, false), some 15, O.fad 0 (Opd.t 14), [6, 4])),
   (8, false, (some (12, false), some 16, O.ld CK.str (Opd.t 15), [7, 4])),
   (9, false, (some (12, false), some 17, O.len true (Opd.t 16), [8, 4])),
   (10, false, (some (12, false), some 18, O.fad 1 (Opd.t 3), [4])),
   (11, false, (some (12, false), some 19, O.ld CK.str (Opd.t 18), [10, 4])),
   (12, false, (some (12, false), some 20, O.len true (Opd.t 19), [11, 4])),
   (13, false, (some (12, false), some 21, O.bin BinOp.add (Opd.t 17) (Opd.t 20), [9, 12, 4])),
   (14, false, (some (12, false), some 22, O.bin BinOp.gtr (Opd.t 21) (Opd.c (AV.int IntKind.i64 65536)), [13, 4])),
   (15, false, (none, some 23, O.pick (Opd.t 12) (Opd.c (AV.bool true)) (Opd.t 22), [4, 14]))]
theorem l15_0_ok : okDraw d15_0 o15_0 = true ∧ mkL d15_0 o15_0 = some l15_0 := ⟨by kernel_rfl, by kernel_rfl⟩

def d15_1 : List It :=
  [(none, some 24, O.mv (Opd.t 0), []), (none, some 25, O.nck (Opd.t 24), [0]),
        (none, some 26, O.fad 0 (Opd.t 25), [1]), (none, some 27, O.ld CK.str (Opd.t 26), [2]),
        (none, some 28, O.fad 1 (Opd.t 3), []), (none, some 29, O.ld CK.str (Opd.t 28), [4]),
        (none, some 30, O.bin BinOp.add (Opd.t 27) (Opd.t 29), [3, 5]),
        (none, some 31, O.nck (Opd.t 24), [0, 0, 1, 2, 3, 4, 5, 6]),
        (none, some 32, O.fad 0 (Opd.t 31), [7, 0, 1, 2, 3, 4, 5, 6]),
        (none, none, O.st 1 (Opd.t 32) (Opd.t 30), [8, 6, 0, 1, 2, 3, 4, 5, 6])]
def o15_1 : List (Nat × Bool) := [(0, false), (1, false), (2, false), (3, false), (4, false), (5, false), (6, false), (7, false), (8, false), (9, true)]
def l15_1 : List (Nat × Bool × It) :=
  [(0, false, (none, some 24, O.mv (Opd.t 0), [])),
   (1, false, (none, some 25, O.nck (Opd.t 24), [0])),
   (2, false, (none, some 26, O.fad 0 (Opd.t 25), [1])),
   (3, false, (none, some 27, O.ld CK.str (Opd.t 26), [2])),
   (4, false, (none, some 28, O.fad 1 (Opd.t 3), [])),
   (5, false, (none, some 29, O.ld CK.str (Opd.t 28), [4])),
   (6, false, (none, some 30, O.bin BinOp.add (Opd.t 27) (Opd.t 29), [3, 5])),
   (7, false, (none, some 31, O.nck (Opd.t 24), [0, 0, 1, 2, 3, 4, 5, 6])),
   (8, false, (none, some 32, O.fad 0 (Opd.t 31), [7, 0, 1, 2, 3, 4, 5, 6])),
   (9, true, (none, none, O.st 1 (Opd.t 32) (Opd.t 30), [8, 6, 0, 1, 2, 3, 4, 5, 6]))]
theorem l15_1_ok : okDraw d15_1 o15_1 = true ∧ mkL d15_1 o15_1 = some l15_1 := ⟨by kernel_rfl, by kernel_rfl⟩

def c15 : List C :=
  [C.op none (some 3) (O.box (Opd.t 1)), C.op none (some 4) (O.mv (Opd.c (AV.str []))),
    C.op none (some 5) (O.mv (Opd.c (AV.bool false))),
    C.op none (some 6) (O.mv (Opd.c (AV.int IntKind.i64 0))),
    C.draw d15_0,
    C.cond (Opd.t 23)
      [C.op none (some 4) (O.mv (Opd.c (AV.str []))), C.op none (some 5) (O.mv (Opd.c (AV.bool false))),
        C.op none (some 6) (O.mv (Opd.c (AV.int IntKind.i64 3))), C.ret]
      [],
    C.draw d15_1,
    C.op none (some 33) (O.mv (Opd.t 0)), C.op none (some 34) (O.nck (Opd.t 33)),
    C.op none (some 35) (O.fad 1 (Opd.t 34)), C.op none (some 36) (O.ld (CK.int IntKind.i64) (Opd.t 35)),
    C.op none (some 37) (O.bin BinOp.add (Opd.t 36) (Opd.c (AV.int IntKind.i64 1))),
    C.op none (some 38) (O.nck (Opd.t 33)), C.op none (some 39) (O.fad 1 (Opd.t 38)),
    C.op none none (O.st 1 (Opd.t 39) (Opd.t 37)), C.op none (some 40) (O.fad 0 (Opd.t 3)),
    C.op none (some 41) (O.ld CK.bool (Opd.t 40)), C.op none (some 42) (O.un UnOp.not (Opd.t 41)),
    C.cond (Opd.t 42)
      [C.op none (some 4) (O.mv (Opd.c (AV.str []))), C.op none (some 5) (O.mv (Opd.c (AV.bool false))),
        C.op none (some 6) (O.mv (Opd.c (AV.int IntKind.i64 0))), C.ret]
      [],
    C.op none (some 43) (O.mv (Opd.t 0)), C.op none (some 44) (O.nck (Opd.t 43)),
    C.op none (some 45) (O.fad 0 (Opd.t 44)), C.op none (some 46) (O.ld CK.str (Opd.t 45)),
    C.op none (some 7) (O.mv (Opd.t 46)), C.op none (some 47) (O.mv (Opd.t 0)), C.op none (some 48) (O.mv (Opd.t 0)),
    C.op none (some 49) (O.nck (Opd.t 47)), C.op none (some 50) (O.fad 0 (Opd.t 49)),
    C.op none none (O.st 1 (Opd.t 50) (Opd.c (AV.str []))), C.op none (some 51) (O.nck (Opd.t 48)),
    C.op none (some 52) (O.fad 1 (Opd.t 51)),
    C.op none none (O.st 1 (Opd.t 52) (Opd.c (AV.int IntKind.i64 0))), C.op none (some 53) (O.mv (Opd.t 7)),
    C.op none (some 4) (O.mv (Opd.t 53)), C.op none (some 5) (O.mv (Opd.c (AV.bool true))),
    C.op none (some 6) (O.mv (Opd.c (AV.int IntKind.i64 0))), C.ret]
def r15 : List RV := [RV.t 4, RV.t 5, RV.t 6]
theorem c15_ok : cC Try.prog Try.f15.ntmps (Try.f15.body.getD .skip) = some c15 := by kernel_rfl

def d16_0 : List It :=
  [(none, some 28, O.mv (Opd.t 0), []), (none, some 29, O.fad 1 (Opd.t 5), []),
            (none, some 30, O.ld CK.str (Opd.t 29), [1]),
            (none, some 31, O.bin BinOp.add (Opd.t 28) (Opd.t 30), [0, 2]),
            (none, some 6, O.mv (Opd.c (AV.str [])), []),
            (none, some 7, O.mv (Opd.c (AV.int IntKind.i64 0)), [4, 4]),
            (none, some 8, O.mv (Opd.t 31), [3, 5, 0, 1, 2, 3, 4, 5]),
            (none, some 9, O.mv (Opd.c (AV.bool true)), [6, 0, 1, 2, 3, 4, 5, 6]),
            (none, some 10, O.mv (Opd.c (AV.int IntKind.i64 0)), [7, 0, 1, 2, 3, 4, 5, 6, 7])]
def o16_0 : List (Nat × Bool) := [(0, false), (1, false), (2, false), (3, false), (4, false), (5, false), (6, false), (7, false), (8, false)]
def l16_0 : List (Nat × Bool × It) :=
  [(0, false, (none, some 28, O.mv (Opd.t 0), [])),
   (1, false, (none, some 29, O.fad 1 (Opd.t 5), [])),
   (2, false, (none, some 30, O.ld CK.str (Opd.t 29), [1])),
   (3, false, (none, some 31, O.bin BinOp.add (Opd.t 28) (Opd.t 30), [0, 2])),
   (4, false, (none, some 6, O.mv (Opd.c (AV.str [])), [])),
   (5, false, (none, some 7, O.mv (Opd.c (AV.int IntKind.i64 0)), [4, 4])),
   (6, false, (none, some 8, O.mv (Opd.t 31), [3, 5, 0, 1, 2, 3, 4, 5])),
   (7, false, (none, some 9, O.mv (Opd.c (AV.bool true)), [6, 0, 1, 2, 3, 4, 5, 6])),
   (8, false, (none, some 10, O.mv (Opd.c (AV.int IntKind.i64 0)), [7, 0, 1, 2, 3, 4, 5, 6, 7]))]
theorem l16_0_ok : okDraw d16_0 o16_0 = true ∧ mkL d16_0 o16_0 = some l16_0 := ⟨by kernel_rfl, by kernel_rfl⟩

def c16 : List C :=
  [C.op none (some 5) (O.box (Opd.t 2)), C.op none (some 6) (O.mv (Opd.c (AV.str []))),
    C.op none (some 7) (O.mv (Opd.c (AV.int IntKind.i64 0))), C.op none (some 8) (O.mv (Opd.c (AV.str []))),
    C.op none (some 9) (O.mv (Opd.c (AV.bool false))),
    C.op none (some 10) (O.mv (Opd.c (AV.int IntKind.i64 0))), C.op none (some 11) (O.fad 1 (Opd.t 5)),
    C.op none (some 12) (O.ld CK.str (Opd.t 11)), C.op none (some 13) (O.len true (Opd.t 12)),
    C.op none (some 14) (O.bin BinOp.gtr (Opd.t 13) (Opd.c (AV.int IntKind.i64 200))),
    C.op none (some 15) (O.mv (Opd.t 14)), C.op (some (15, false)) (some 16) (O.mv (Opd.t 0)),
    C.op (some (15, false)) (some 17) (O.len true (Opd.t 16)), C.op (some (15, false)) (some 18) (O.fad 1 (Opd.t 5)),
    C.op (some (15, false)) (some 19) (O.ld CK.str (Opd.t 18)),
    C.op (some (15, false)) (some 20) (O.len true (Opd.t 19)),
    C.op (some (15, false)) (some 21) (O.bin BinOp.add (Opd.t 17) (Opd.t 20)),
    C.op (some (15, false)) (some 22) (O.bin BinOp.gtr (Opd.t 21) (Opd.c (AV.int IntKind.i64 65536))),
    C.op none (some 23) (O.pick (Opd.t 15) (Opd.c (AV.bool true)) (Opd.t 22)),
    C.cond (Opd.t 23)
      [C.op none (some 24) (O.mv (Opd.t 0)), C.op none (some 25) (O.mv (Opd.t 1)), C.op none (some 6) (O.mv (Opd.t 24)),
        C.op none (some 7) (O.mv (Opd.t 25)), C.op none (some 8) (O.mv (Opd.c (AV.str []))),
        C.op none (some 9) (O.mv (Opd.c (AV.bool false))),
        C.op none (some 10) (O.mv (Opd.c (AV.int IntKind.i64 3))), C.ret]
      [],
    C.op none (some 26) (O.fad 0 (Opd.t 5)), C.op none (some 27) (O.ld CK.bool (Opd.t 26)),
    C.cond (Opd.t 27)
      [C.draw d16_0,
        C.ret]
      [],
    C.op none (some 32) (O.mv (Opd.t 0)), C.op none (some 33) (O.fad 1 (Opd.t 5)),
    C.op none (some 34) (O.ld CK.str (Opd.t 33)), C.op none (some 35) (O.bin BinOp.add (Opd.t 32) (Opd.t 34)),
    C.op none (some 36) (O.mv (Opd.t 1)),
    C.op none (some 37) (O.bin BinOp.add (Opd.t 36) (Opd.c (AV.int IntKind.i64 1))),
    C.op none (some 6) (O.mv (Opd.t 35)), C.op none (some 7) (O.mv (Opd.t 37)),
    C.op none (some 8) (O.mv (Opd.c (AV.str []))), C.op none (some 9) (O.mv (Opd.c (AV.bool false))),
    C.op none (some 10) (O.mv (Opd.c (AV.int IntKind.i64 0))), C.ret]
def r16 : List RV := [RV.t 6, RV.t 7, RV.t 8, RV.t 9, RV.t 10]
theorem c16_ok : cC Try.prog Try.f16.ntmps (Try.f16.body.getD .skip) = some c16 := by kernel_rfl

def d17_0 : List It :=
  [(none, some 4, O.mv (Opd.t 0), []), (none, some 5, O.nck (Opd.t 4), [0]), (none, some 6, O.fad 1 (Opd.t 5), [1]),
        (none, some 7, O.ld (CK.int IntKind.i64) (Opd.t 6), [2]), (none, some 8, O.mv (Opd.t 0), []),
        (none, some 9, O.nck (Opd.t 8), [4]), (none, some 10, O.fad 0 (Opd.t 9), [5]),
        (none, some 11, O.ld CK.str (Opd.t 10), [6]), (none, some 12, O.len true (Opd.t 11), [7]),
        (none, some 2, O.mv (Opd.t 7), [3, 0, 1, 2, 3]),
        (none, some 3, O.mv (Opd.t 12), [8, 9, 0, 1, 2, 3, 4, 5, 6, 7, 8, 9])]
def o17_0 : List (Nat × Bool) := [(0, false), (1, false), (2, false), (3, false), (4, false), (5, false), (6, false), (7, false), (8, false), (9, false), (10, false)]
def l17_0 : List (Nat × Bool × It) :=
  [(0, false, (none, some 4, O.mv (Opd.t 0), [])),
   (1, false, (none, some 5, O.nck (Opd.t 4), [0])),
   (2, false, (none, some 6, O.fad 1 (Opd.t 5), [1])),
   (3, false, (none, some 7, O.ld (CK.int IntKind.i64) (Opd.t 6), [2])),
   (4, false, (none, some 8, O.mv (Opd.t 0), [])),
   (5, false, (none, some 9, O.nck (Opd.t 8), [4])),
   (6, false, (none, some 10, O.fad 0 (Opd.t 9), [5])),
   (7, false, (none, some 11, O.ld CK.str (Opd.t 10), [6])),
   (8, false, (none, some 12, O.len true (Opd.t 11), [7])),
   (9, false, (none, some 2, O.mv (Opd.t 7), [3, 0, 1, 2, 3])),
   (10, false, (none, some 3, O.mv (Opd.t 12), [8, 9, 0, 1, 2, 3, 4, 5, 6, 7, 8, 9]))]
theorem l17_0_ok : okDraw d17_0 o17_0 = true ∧ mkL d17_0 o17_0 = some l17_0 := ⟨by kernel_rfl, by kernel_rfl⟩

def c17 : List C :=
  [C.op none (some 2) (O.mv (Opd.c (AV.int IntKind.i64 0))),
    C.op none (some 3) (O.mv (Opd.c (AV.int IntKind.i64 0))),
    C.draw d17_0,
    C.ret]
def r17 : List RV := [RV.t 2, RV.t 3]
theorem c17_ok : cC Try.prog Try.f17.ntmps (Try.f17.body.getD .skip) = some c17 := by kernel_rfl

def d18_0 : List It :=
  [(none, some 18, O.mv (Opd.t 0), []),
        (none, some 19, O.ist (Opd.t 18) (Opd.c (AV.int IntKind.i64 0)), [0]),
        (none, some 20, O.bin BinOp.eql (Opd.t 19) (Opd.c (AV.int IntKind.u8 1)), [1]),
        (none, some 21, O.mv (Opd.t 0), []),
        (none, some 22, O.ssl (Opd.t 21) (some (Opd.c (AV.int IntKind.i64 1))) none, [3]),
        (none, some 23, O.build [AV.bool false, AV.str []] [(0, 1, Opd.t 20), (1, 1, Opd.t 22)], [2, 4]),
        (none, none, O.st 2 (Opd.t 2) (Opd.t 23), [5, 0, 1, 2, 3, 4, 5]),
        (none, some 3, O.mv (Opd.c (AV.int IntKind.i64 0)), [6, 0, 1, 2, 3, 4, 5, 6])]
def o18_0 : List (Nat × Bool) := [(0, false), (1, false), (2, false), (3, false), (4, false), (5, false), (6, true), (7, false)]
def l18_0 : List (Nat × Bool × It) :=
  [(0, false, (none, some 18, O.mv (Opd.t 0), [])),
   (1, false, (none, some 19, O.ist (Opd.t 18) (Opd.c (AV.int IntKind.i64 0)), [0])),
   (2, false, (none, some 20, O.bin BinOp.eql (Opd.t 19) (Opd.c (AV.int IntKind.u8 1)), [1])),
   (3, false, (none, some 21, O.mv (Opd.t 0), [])),
   (4, false, (none, some 22, O.ssl (Opd.t 21) (some (Opd.c (AV.int IntKind.i64 1))) none, [3])),
   (5, false, (none, some 23, O.build [AV.bool false, AV.str []] [(0, 1, Opd.t 20), (1, 1, Opd.t 22)], [2, 4])),
   (6, true, (none, none, O.st 2 (Opd.t 2) (Opd.t 23), [5, 0, 1, 2, 3, 4, 5])),
   (7, false, (none, some 3, O.mv (Opd.c (AV.int IntKind.i64 0)), [6, 0, 1, 2, 3, 4, 5, 6]))]
theorem l18_0_ok : okDraw d18_0 o18_0 = true ∧ mkL d18_0 o18_0 = some l18_0 := ⟨by kernel_rfl, by kernel_rfl⟩

def c18 : List C :=
  [C.op none (some 2) (O.alloc [AV.bool false, AV.str []]),
    C.op none (some 3) (O.mv (Opd.c (AV.int IntKind.i64 0))),
    C.blk 0
      [C.op none (some 5) (O.mv (Opd.t 0)), C.op none (some 6) (O.bin BinOp.eql (Opd.t 5) (Opd.c (AV.str []))),
        C.op none (some 4) (O.mv (Opd.t 6)),
        C.cond (Opd.t 4)
          [C.op none (some 7) (O.build [AV.bool false, AV.str []] []), C.op none none (O.st 2 (Opd.t 2) (Opd.t 7)),
            C.op none (some 3) (O.mv (Opd.c (AV.int IntKind.i64 1))), C.ret]
          [C.op none (some 9) (O.mv (Opd.t 0)),
            C.op none (some 10) (O.ist (Opd.t 9) (Opd.c (AV.int IntKind.i64 0))),
            C.op none (some 11) (O.bin BinOp.gtr (Opd.t 10) (Opd.c (AV.int IntKind.u8 1))),
            C.op none (some 8) (O.mv (Opd.t 11)),
            C.cond (Opd.t 8)
              [C.op none (some 12) (O.build [AV.bool false, AV.str []] []),
                C.op none none (O.st 2 (Opd.t 2) (Opd.t 12)),
                C.op none (some 3) (O.mv (Opd.c (AV.int IntKind.i64 2))), C.ret]
              [C.op none (some 14) (O.mv (Opd.t 0)), C.op none (some 15) (O.len true (Opd.t 14)),
                C.op none (some 16) (O.bin BinOp.gtr (Opd.t 15) (Opd.c (AV.int IntKind.i64 201))),
                C.op none (some 13) (O.mv (Opd.t 16)),
                C.cond (Opd.t 13)
                  [C.op none (some 17) (O.build [AV.bool false, AV.str []] []),
                    C.op none none (O.st 2 (Opd.t 2) (Opd.t 17)),
                    C.op none (some 3) (O.mv (Opd.c (AV.int IntKind.i64 3))), C.ret]
                  []]]],
    C.draw d18_0,
    C.ret]
def r18 : List RV := [RV.cn 2 2, RV.t 3]
theorem c18_ok : cC Try.prog Try.f18.ntmps (Try.f18.body.getD .skip) = some c18 := by kernel_rfl

def d19_0 : List It :=
  [(none, some 15, O.mv (Opd.t 0), []),
        (none, some 16, O.ist (Opd.t 15) (Opd.c (AV.int IntKind.i64 0)), [0]),
        (none, some 17, O.bin BinOp.eql (Opd.t 16) (Opd.c (AV.int IntKind.u8 1)), [1]),
        (none, some 18, O.mv (Opd.t 0), []),
        (none, some 19, O.ssl (Opd.t 18) (some (Opd.c (AV.int IntKind.i64 1))) none, [3]),
        (none, some 20, O.build [AV.bool false, AV.str []] [(0, 1, Opd.t 17), (1, 1, Opd.t 19)], [2, 4]),
        (none, none, O.st 2 (Opd.t 2) (Opd.t 20), [5, 0, 1, 2, 3, 4, 5]),
        (none, some 3, O.mv (Opd.c (AV.int IntKind.i64 0)), [6, 0, 1, 2, 3, 4, 5, 6])]
def o19_0 : List (Nat × Bool) := [(0, false), (1, false), (2, false), (3, false), (4, false), (5, false), (6, true), (7, false)]
def l19_0 : List (Nat × Bool × It) :=
  [(0, false, (none, some 15, O.mv (Opd.t 0), [])),
   (1, false, (none, some 16, O.ist (Opd.t 15) (Opd.c (AV.int IntKind.i64 0)), [0])),
   (2, false, (none, some 17, O.bin BinOp.eql (Opd.t 16) (Opd.c (AV.int IntKind.u8 1)), [1])),
   (3, false, (none, some 18, O.mv (Opd.t 0), [])),
   (4, false, (none, some 19, O.ssl (Opd.t 18) (some (Opd.c (AV.int IntKind.i64 1))) none, [3])),
   (5, false, (none, some 20, O.build [AV.bool false, AV.str []] [(0, 1, Opd.t 17), (1, 1, Opd.t 19)], [2, 4])),
   (6, true, (none, none, O.st 2 (Opd.t 2) (Opd.t 20), [5, 0, 1, 2, 3, 4, 5])),
   (7, false, (none, some 3, O.mv (Opd.c (AV.int IntKind.i64 0)), [6, 0, 1, 2, 3, 4, 5, 6]))]
theorem l19_0_ok : okDraw d19_0 o19_0 = true ∧ mkL d19_0 o19_0 = some l19_0 := ⟨by kernel_rfl, by kernel_rfl⟩

def c19 : List C :=
  [C.op none (some 2) (O.alloc [AV.bool false, AV.str []]),
    C.op none (some 3) (O.mv (Opd.c (AV.int IntKind.i64 0))), C.op none (some 4) (O.mv (Opd.t 0)),
    C.op none (some 5) (O.bin BinOp.eql (Opd.t 4) (Opd.c (AV.str []))),
    C.cond (Opd.t 5)
      [C.op none (some 6) (O.build [AV.bool false, AV.str []] []), C.op none none (O.st 2 (Opd.t 2) (Opd.t 6)),
        C.op none (some 3) (O.mv (Opd.c (AV.int IntKind.i64 1))), C.ret]
      [],
    C.op none (some 7) (O.mv (Opd.t 0)),
    C.op none (some 8) (O.ist (Opd.t 7) (Opd.c (AV.int IntKind.i64 0))),
    C.op none (some 9) (O.bin BinOp.gtr (Opd.t 8) (Opd.c (AV.int IntKind.u8 1))),
    C.cond (Opd.t 9)
      [C.op none (some 10) (O.build [AV.bool false, AV.str []] []), C.op none none (O.st 2 (Opd.t 2) (Opd.t 10)),
        C.op none (some 3) (O.mv (Opd.c (AV.int IntKind.i64 2))), C.ret]
      [],
    C.op none (some 11) (O.mv (Opd.t 0)), C.op none (some 12) (O.len true (Opd.t 11)),
    C.op none (some 13) (O.bin BinOp.gtr (Opd.t 12) (Opd.c (AV.int IntKind.i64 201))),
    C.cond (Opd.t 13)
      [C.op none (some 14) (O.build [AV.bool false, AV.str []] []), C.op none none (O.st 2 (Opd.t 2) (Opd.t 14)),
        C.op none (some 3) (O.mv (Opd.c (AV.int IntKind.i64 3))), C.ret]
      [],
    C.draw d19_0,
    C.ret]
def r19 : List RV := [RV.cn 2 2, RV.t 3]
theorem c19_ok : cC Try.prog Try.f19.ntmps (Try.f19.body.getD .skip) = some c19 := by kernel_rfl

def c20 : List C :=
  [C.op none (some 1) (O.box (Opd.t 0)), C.op none (some 2) (O.mv (Opd.c (AV.str []))),
    C.op none (some 3) (O.fad 0 (Opd.t 1)), C.op none (some 4) (O.ld CK.bool (Opd.t 3)),
    C.cond (Opd.t 4)
      [C.op none (some 5) (O.fad 1 (Opd.t 1)), C.op none (some 6) (O.ld CK.str (Opd.t 5)),
        C.op none (some 7)
          (O.bin BinOp.add (Opd.c (AV.str [1]))
            (Opd.t 6)),
        C.op none (some 2) (O.mv (Opd.t 7)), C.ret]
      [],
    C.op none (some 8) (O.fad 1 (Opd.t 1)), C.op none (some 9) (O.ld CK.str (Opd.t 8)),
    C.op none (some 10)
      (O.bin BinOp.add (Opd.c (AV.str [0]))
        (Opd.t 9)),
    C.op none (some 2) (O.mv (Opd.t 10)), C.ret]
def r20 : List RV := [RV.t 2]
theorem c20_ok : cC Try.prog Try.f20.ntmps (Try.f20.body.getD .skip) = some c20 := by kernel_rfl

def c21 : List C :=
  [C.op none (some 2) (O.mv (Opd.c AV.nilsl)), C.op none (some 3) (O.mv (Opd.c (AV.int IntKind.i64 0))),
    C.op none (some 5) (O.mv (Opd.t 0)), C.op none (some 6) (O.len true (Opd.t 5)),
    C.op none (some 7) (O.bin BinOp.gtr (Opd.t 6) (Opd.c (AV.int IntKind.i64 65536))),
    C.cond (Opd.t 7)
      [C.op none (some 2) (O.mv (Opd.c AV.nilsl)), C.op none (some 3) (O.mv (Opd.c (AV.int IntKind.i64 3))),
        C.ret]
      [],
    C.op none (some 4) (O.mv (Opd.c AV.nilsl)),
    C.blk 0
      [C.loop
          [C.op none (some 8) (O.mv (Opd.t 0)), C.op none (some 9) (O.len true (Opd.t 8)),
            C.op none (some 10) (O.bin BinOp.gtr (Opd.t 9) (Opd.c (AV.int IntKind.i64 200))),
            C.cond (Opd.t 10) [] [C.exit 0],
            C.blk 1
              [C.op none (some 11) (O.mv (Opd.t 4)), C.op none (some 12) (O.mv (Opd.t 0)),
                C.op none (some 13) (O.ssl (Opd.t 12) none (some (Opd.c (AV.int IntKind.i64 200)))),
                C.op none (some 14) (O.build [AV.bool false, AV.str []] [(1, 1, Opd.t 13)]),
                C.op none (some 15) (O.bsl 2 [AV.bool false, AV.str []] 1 [(0, Opd.t 14)]),
                C.op none (some 16) (O.app 2 (Opd.t 11) (Opd.t 15)), C.op none (some 4) (O.mv (Opd.t 16)),
                C.op none (some 17) (O.mv (Opd.t 0)),
                C.op none (some 18) (O.ssl (Opd.t 17) (some (Opd.c (AV.int IntKind.i64 200))) none),
                C.op none (some 0) (O.mv (Opd.t 18))]]],
    C.op none (some 19) (O.mv (Opd.t 4)), C.op none (some 20) (O.mv (Opd.t 0)),
    C.op none (some 21) (O.build [AV.bool false, AV.str []] [(0, 1, Opd.c (AV.bool true)), (1, 1, Opd.t 20)]),
    C.op none (some 22) (O.bsl 2 [AV.bool false, AV.str []] 1 [(0, Opd.t 21)]),
    C.op none (some 23) (O.app 2 (Opd.t 19) (Opd.t 22)), C.op none (some 2) (O.mv (Opd.t 23)),
    C.op none (some 3) (O.mv (Opd.c (AV.int IntKind.i64 0))), C.ret]
def r21 : List RV := [RV.t 2, RV.t 3]
theorem c21_ok : cC Try.prog Try.f21.ntmps (Try.f21.body.getD .skip) = some c21 := by kernel_rfl

def c22 : List C :=
  [C.op none (some 2) (O.mv (Opd.c AV.nilsl)), C.op none (some 5) (O.bsl 2 [AV.bool false, AV.str []] 0 []),
    C.op none (some 3) (O.mv (Opd.t 5)), C.op none (some 4) (O.mv (Opd.c (AV.int IntKind.i64 0))),
    C.blk 0
      [C.loop
          [C.op none (some 6) (O.mv (Opd.t 4)),
            C.op none (some 7) (O.bin BinOp.add (Opd.t 6) (Opd.c (AV.int IntKind.i64 200))),
            C.op none (some 8) (O.mv (Opd.t 0)), C.op none (some 9) (O.len true (Opd.t 8)),
            C.op none (some 10) (O.bin BinOp.lss (Opd.t 7) (Opd.t 9)), C.cond (Opd.t 10) [] [C.exit 0],
            C.blk 1
              [C.op none (some 11) (O.mv (Opd.t 3)), C.op none (some 12) (O.mv (Opd.t 0)),
                C.op none (some 13) (O.mv (Opd.t 4)), C.op none (some 14) (O.mv (Opd.t 4)),
                C.op none (some 15) (O.bin BinOp.add (Opd.t 14) (Opd.c (AV.int IntKind.i64 200))),
                C.op none (some 16) (O.ssl (Opd.t 12) (some (Opd.t 13)) (some (Opd.t 15))),
                C.op none (some 17)
                  (O.build [AV.bool false, AV.str []] [(0, 1, Opd.c (AV.bool false)), (1, 1, Opd.t 16)]),
                C.op none (some 18) (O.bsl 2 [AV.bool false, AV.str []] 1 [(0, Opd.t 17)]),
                C.op none (some 19) (O.app 2 (Opd.t 11) (Opd.t 18)), C.op none (some 3) (O.mv (Opd.t 19)),
                C.op none (some 20) (O.mv (Opd.t 4)),
                C.op none (some 21) (O.bin BinOp.add (Opd.t 20) (Opd.c (AV.int IntKind.i64 200))),
                C.op none (some 4) (O.mv (Opd.t 21))]]],
    C.op none (some 22) (O.mv (Opd.t 3)), C.op none (some 23) (O.mv (Opd.t 0)), C.op none (some 24) (O.mv (Opd.t 4)),
    C.op none (some 25) (O.ssl (Opd.t 23) (some (Opd.t 24)) none),
    C.op none (some 26) (O.build [AV.bool false, AV.str []] [(0, 1, Opd.c (AV.bool true)), (1, 1, Opd.t 25)]),
    C.op none (some 27) (O.bsl 2 [AV.bool false, AV.str []] 1 [(0, Opd.t 26)]),
    C.op none (some 28) (O.app 2 (Opd.t 22) (Opd.t 27)), C.op none (some 2) (O.mv (Opd.t 28)), C.ret]
def r22 : List RV := [RV.t 2]
theorem c22_ok : cC Try.prog Try.f22.ntmps (Try.f22.body.getD .skip) = some c22 := by kernel_rfl

def c23 : List C :=
  [C.op none (some 4) (O.mv (Opd.c AV.nilsl)), C.op none (some 5) (O.mv (Opd.c (AV.int IntKind.i64 0))),
    C.op none (some 6) (O.mv (Opd.c AV.nilsl)), C.op none (some 12) (O.mv (Opd.t 1)),
    C.op none (some 13) (O.len false (Opd.t 12)), C.op none (some 14) (O.mv (Opd.c (AV.int IntKind.i64 0))),
    C.blk 0
      [C.loop
          [C.op none (some 15) (O.bin BinOp.lss (Opd.t 14) (Opd.t 13)), C.cond (Opd.t 15) [] [C.exit 0],
            C.blk 1
              [C.op none (some 16) (O.iad 2 (Opd.t 12) (Opd.t 14)),
                C.op none (some 17) (O.ldn [CK.bool, CK.str] (Opd.t 16)),
                C.op none (some 8) (O.alloc [AV.bool false, AV.str []]), C.op none none (O.st 2 (Opd.t 8) (Opd.t 17)),
                C.op none (some 19) (O.mv (Opd.t 0)), C.op none (some 20) (O.ldn [CK.bool, CK.str] (Opd.t 8)),
                C.op none (some 21) (O.call 15 [Opd.t 19, Opd.t 20]), C.op none (some 18) (O.mv (Opd.t 21)),
                C.op none (some 22) (O.ext (Opd.t 18) 0), C.op none (some 23) (O.ext (Opd.t 18) 1),
                C.op none (some 24) (O.ext (Opd.t 18) 2), C.op none (some 9) (O.mv (Opd.t 22)),
                C.op none (some 10) (O.mv (Opd.t 23)), C.op none (some 11) (O.mv (Opd.t 24)),
                C.op none (some 25) (O.mv (Opd.t 11)),
                C.op none (some 26) (O.bin BinOp.neq (Opd.t 25) (Opd.c (AV.int IntKind.i64 0))),
                C.cond (Opd.t 26)
                  [C.op none (some 27) (O.mv (Opd.t 6)), C.op none (some 28) (O.mv (Opd.t 11)),
                    C.op none (some 4) (O.mv (Opd.t 27)), C.op none (some 5) (O.mv (Opd.t 28)), C.ret]
                  [],
                C.op none (some 29) (O.mv (Opd.t 10)),
                C.cond (Opd.t 29)
                  [C.op none (some 30) (O.mv (Opd.t 6)), C.op none (some 31) (O.mv (Opd.t 9)),
                    C.op none (some 32) (O.bsl 1 [AV.str []] 1 [(0, Opd.t 31)]),
                    C.op none (some 33) (O.app 1 (Opd.t 30) (Opd.t 32)), C.op none (some 6) (O.mv (Opd.t 33))]
                  []],
            C.op none (some 34) (O.bin BinOp.add (Opd.t 14) (Opd.c (AV.int IntKind.i64 1))),
            C.op none (some 14) (O.mv (Opd.t 34))]],
    C.op none (some 35) (O.mv (Opd.t 6)), C.op none (some 4) (O.mv (Opd.t 35)),
    C.op none (some 5) (O.mv (Opd.c (AV.int IntKind.i64 0))), C.ret]
def r23 : List RV := [RV.t 4, RV.t 5]
theorem c23_ok : cC Try.prog Try.f23.ntmps (Try.f23.body.getD .skip) = some c23 := by kernel_rfl

def c24 : List C :=
  [C.op none (some 0) (O.mv (Opd.c (AV.bool false))),
    C.op none (some 8) (O.call 26 [Opd.c (AV.int IntKind.u32 5)]),
    C.op none (some 9) (O.call 32 [Opd.c (AV.int IntKind.u32 7)]), C.op none (some 1) (O.mv (Opd.t 8)),
    C.op none (some 2) (O.mv (Opd.t 9)), C.op none (some 10) (O.mv (Opd.t 1)),
    C.op none (some 11) (O.eqp 0 false (Opd.t 10) (Opd.c AV.nilptr)), C.op none (some 12) (O.mv (Opd.t 11)),
    C.op (some (12, false)) (some 13) (O.mv (Opd.t 2)),
    C.op (some (12, false)) (some 14) (O.eqp 0 false (Opd.t 13) (Opd.c AV.nilptr)),
    C.op none (some 15) (O.pick (Opd.t 12) (Opd.c (AV.bool true)) (Opd.t 14)),
    C.cond (Opd.t 15) [C.op none (some 0) (O.mv (Opd.c (AV.bool false))), C.ret] [],
    C.op none (some 16) (O.mv (Opd.t 1)),
    C.op none (some 17)
      (O.build [AV.int IntKind.u32 0, AV.str []]
        [(0, 1, Opd.c (AV.int IntKind.u32 6)),
          (1, 1, Opd.c (AV.str [98]))]),
    C.op none (some 18) (O.call 27 [Opd.t 16, Opd.t 17]), C.op none (some 19) (O.mv (Opd.t 1)),
    C.op none (some 20)
      (O.build [AV.int IntKind.u32 0, AV.str []]
        [(0, 1, Opd.c (AV.int IntKind.u32 8)),
          (1, 1, Opd.c (AV.str [100]))]),
    C.op none (some 21) (O.call 27 [Opd.t 19, Opd.t 20]), C.op none (some 22) (O.mv (Opd.t 1)),
    C.op none (some 23) (O.call 29 [Opd.t 22]),
    C.op none (some 3) (O.alloc [AV.int IntKind.u32 0, AV.int IntKind.u32 0]),
    C.op none none (O.st 2 (Opd.t 3) (Opd.t 23)), C.op none (some 25) (O.mv (Opd.t 1)),
    C.op none (some 26)
      (O.build [AV.int IntKind.u32 0, AV.str []]
        [(0, 1, Opd.c (AV.int IntKind.u32 5)),
          (1, 1, Opd.c (AV.str [97]))]),
    C.op none (some 27) (O.call 27 [Opd.t 25, Opd.t 26]), C.op none (some 24) (O.mv (Opd.t 27)),
    C.op none (some 28) (O.ext (Opd.t 24) 0), C.op none (some 29) (O.ext (Opd.t 24) 1),
    C.op none (some 4) (O.mv (Opd.t 28)), C.op none (some 5) (O.mv (Opd.t 29)), C.op none (some 31) (O.mv (Opd.t 2)),
    C.op none (some 32)
      (O.call 33
        [Opd.t 31, Opd.c (AV.str [120])]),
    C.op none (some 30) (O.mv (Opd.t 32)), C.op none (some 33) (O.ext (Opd.t 30) 0),
    C.op none (some 34) (O.ext (Opd.t 30) 1), C.op none (some 6) (O.mv (Opd.t 33)),
    C.op none (some 7) (O.mv (Opd.t 34)),
    C.op none (some 35) (O.ldn [CK.int IntKind.u32, CK.int IntKind.u32] (Opd.t 3)),
    C.op none (some 36)
      (O.build [AV.int IntKind.u32 0, AV.int IntKind.u32 0]
        [(0, 1, Opd.c (AV.int IntKind.u32 5)), (1, 1, Opd.c (AV.int IntKind.u32 5))]),
    C.op none (some 37) (O.eqa false [CK.int IntKind.u32, CK.int IntKind.u32] (Opd.t 35) (Opd.t 36)),
    C.op none (some 38) (O.mv (Opd.t 37)), C.op (some (38, true)) (some 39) (O.mv (Opd.t 4)),
    C.op (some (38, true)) (some 40) (O.len false (Opd.t 39)),
    C.op (some (38, true)) (some 41) (O.bin BinOp.eql (Opd.t 40) (Opd.c (AV.int IntKind.i64 2))),
    C.op none (some 42) (O.pick (Opd.t 38) (Opd.t 41) (Opd.c (AV.bool false))), C.op none (some 43) (O.mv (Opd.t 42)),
    C.op (some (43, true)) (some 44) (O.mv (Opd.t 5)),
    C.op (some (43, true)) (some 45) (O.bin BinOp.eql (Opd.t 44) (Opd.c (AV.int IntKind.i64 0))),
    C.op none (some 46) (O.pick (Opd.t 43) (Opd.t 45) (Opd.c (AV.bool false))), C.op none (some 47) (O.mv (Opd.t 46)),
    C.op (some (47, true)) (some 48) (O.mv (Opd.t 1)), C.op (some (47, true)) (some 49) (O.call 29 [Opd.t 48]),
    C.op (some (47, true)) (some 50)
      (O.build [AV.int IntKind.u32 0, AV.int IntKind.u32 0]
        [(0, 1, Opd.c (AV.int IntKind.u32 7)), (1, 1, Opd.c (AV.int IntKind.u32 1))]),
    C.op (some (47, true)) (some 51) (O.eqa false [CK.int IntKind.u32, CK.int IntKind.u32] (Opd.t 49) (Opd.t 50)),
    C.op none (some 52) (O.pick (Opd.t 47) (Opd.t 51) (Opd.c (AV.bool false))), C.op none (some 53) (O.mv (Opd.t 52)),
    C.op (some (53, true)) (some 54) (O.mv (Opd.t 6)),
    C.op (some (53, true)) (some 55) (O.bin BinOp.eql (Opd.t 54) (Opd.c (AV.int IntKind.u32 7))),
    C.op none (some 56) (O.pick (Opd.t 53) (Opd.t 55) (Opd.c (AV.bool false))), C.op none (some 57) (O.mv (Opd.t 56)),
    C.op (some (57, true)) (some 58) (O.mv (Opd.t 7)),
    C.op (some (57, true)) (some 59) (O.bin BinOp.eql (Opd.t 58) (Opd.c (AV.int IntKind.i64 0))),
    C.op none (some 60) (O.pick (Opd.t 57) (Opd.t 59) (Opd.c (AV.bool false))), C.op none (some 61) (O.mv (Opd.t 60)),
    C.op (some (61, true)) (some 62) (O.ldn [CK.int IntKind.u32, CK.int IntKind.u32] (Opd.t 3)),
    C.op (some (61, true)) (some 63) (O.call 25 [Opd.t 62, Opd.c (AV.int IntKind.u32 6)]),
    C.op none (some 64) (O.pick (Opd.t 61) (Opd.t 63) (Opd.c (AV.bool false))), C.op none (some 65) (O.mv (Opd.t 64)),
    C.op (some (65, true)) (some 66) (O.ldn [CK.int IntKind.u32, CK.int IntKind.u32] (Opd.t 3)),
    C.op (some (65, true)) (some 67) (O.call 25 [Opd.t 66, Opd.c (AV.int IntKind.u32 5)]),
    C.op (some (65, true)) (some 68) (O.un UnOp.not (Opd.t 67)),
    C.op none (some 69) (O.pick (Opd.t 65) (Opd.t 68) (Opd.c (AV.bool false))), C.op none (some 0) (O.mv (Opd.t 69)),
    C.ret]
def r24 : List RV := [RV.t 0]
theorem c24_ok : cC Try.prog Try.f24.ntmps (Try.f24.body.getD .skip) = some c24 := by kernel_rfl

def c25 : List C :=
  [C.op none (some 2) (O.box (Opd.t 0)), C.op none (some 4) (O.mv (Opd.c (AV.bool false))),
    C.op none (some 6) (O.mv (Opd.t 1)), C.op none (some 7) (O.fad 0 (Opd.t 2)),
    C.op none (some 8) (O.ld (CK.int IntKind.u32) (Opd.t 7)), C.op none (some 9) (O.bin BinOp.sub (Opd.t 6) (Opd.t 8)),
    C.op none (some 5) (O.mv (Opd.t 9)), C.op none (some 10) (O.mv (Opd.t 5)),
    C.op none (some 11) (O.bin BinOp.geq (Opd.t 10) (Opd.c (AV.int IntKind.u32 2147483648))),
    C.cond (Opd.t 11) [C.op none (some 4) (O.mv (Opd.c (AV.bool true))), C.ret] [],
    C.op none (some 12) (O.mv (Opd.t 5)),
    C.op none (some 13) (O.bin BinOp.geq (Opd.t 12) (Opd.c (AV.int IntKind.u32 1))),
    C.op none (some 14) (O.mv (Opd.t 13)), C.op (some (14, true)) (some 15) (O.mv (Opd.t 5)),
    C.op (some (14, true)) (some 16) (O.bin BinOp.leq (Opd.t 15) (Opd.c (AV.int IntKind.u32 32))),
    C.op none (some 17) (O.pick (Opd.t 14) (Opd.t 16) (Opd.c (AV.bool false))), C.op none (some 18) (O.mv (Opd.t 17)),
    C.op (some (18, true)) (some 19) (O.fad 1 (Opd.t 2)),
    C.op (some (18, true)) (some 20) (O.ld (CK.int IntKind.u32) (Opd.t 19)),
    C.op (some (18, true)) (some 21) (O.mv (Opd.t 5)),
    C.op (some (18, true)) (some 22) (O.bin BinOp.sub (Opd.t 21) (Opd.c (AV.int IntKind.u32 1))),
    C.op (some (18, true)) (some 23) (O.bin BinOp.shr (Opd.t 20) (Opd.t 22)),
    C.op (some (18, true)) (some 24) (O.bin BinOp.and (Opd.t 23) (Opd.c (AV.int IntKind.u32 1))),
    C.op (some (18, true)) (some 25) (O.bin BinOp.eql (Opd.t 24) (Opd.c (AV.int IntKind.u32 1))),
    C.op none (some 26) (O.pick (Opd.t 18) (Opd.t 25) (Opd.c (AV.bool false))), C.op none (some 4) (O.mv (Opd.t 26)),
    C.ret]
def r25 : List RV := [RV.t 4]
theorem c25_ok : cC Try.prog Try.f25.ntmps (Try.f25.body.getD .skip) = some c25 := by kernel_rfl

def c26 : List C :=
  [C.op none (some 2) (O.mv (Opd.c AV.nilptr)), C.op none (some 3) (O.mv (Opd.t 0)), C.op none (some 4) O.mkmap,
    C.op none (some 5) (O.build [AV.int IntKind.u32 0, AV.nilmap] [(0, 1, Opd.t 3), (1, 1, Opd.t 4)]),
    C.op none (some 6) (O.box (Opd.t 5)), C.op none (some 2) (O.mv (Opd.t 6)), C.ret]
def r26 : List RV := [RV.t 2]
theorem c26_ok : cC Try.prog Try.f26.ntmps (Try.f26.body.getD .skip) = some c26 := by kernel_rfl

def d27_0 : List It :=
  [(none, some 12, O.fad 0 (Opd.t 3), []), (none, some 13, O.ld (CK.int IntKind.u32) (Opd.t 12), [0]),
        (none, some 14, O.mv (Opd.t 0), []), (none, some 15, O.nck (Opd.t 14), [2]),
        (none, some 16, O.fad 0 (Opd.t 15), [3]), (none, some 17, O.ld (CK.int IntKind.u32) (Opd.t 16), [4]),
        (none, some 18, O.bin BinOp.sub (Opd.t 13) (Opd.t 17), [1, 5]),
        (none, some 6, O.mv (Opd.t 18), [6, 0, 1, 2, 3, 4, 5, 6])]
def o27_0 : List (Nat × Bool) := [(0, false), (1, false), (2, false), (3, false), (4, false), (5, false), (6, false), (7, false)]
def l27_0 : List (Nat × Bool × It) :=
  [(0, false, (none, some 12, O.fad 0 (Opd.t 3), [])),
   (1, false, (none, some 13, O.ld (CK.int IntKind.u32) (Opd.t 12), [0])),
   (2, false, (none, some 14, O.mv (Opd.t 0), [])),
   (3, false, (none, some 15, O.nck (Opd.t 14), [2])),
   (4, false, (none, some 16, O.fad 0 (Opd.t 15), [3])),
   (5, false, (none, some 17, O.ld (CK.int IntKind.u32) (Opd.t 16), [4])),
   (6, false, (none, some 18, O.bin BinOp.sub (Opd.t 13) (Opd.t 17), [1, 5])),
   (7, false, (none, some 6, O.mv (Opd.t 18), [6, 0, 1, 2, 3, 4, 5, 6]))]
theorem l27_0_ok : okDraw d27_0 o27_0 = true ∧ mkL d27_0 o27_0 = some l27_0 := ⟨by kernel_rfl, by kernel_rfl⟩

def d27_1 : List It :=
  [(none, some 26, O.mv (Opd.t 0), []), (none, some 27, O.nck (Opd.t 26), [0]),
        (none, some 28, O.fad 1 (Opd.t 27), [1]), (none, some 29, O.ld CK.any (Opd.t 28), [2]),
        (none, some 30, O.fad 0 (Opd.t 3), []), (none, some 31, O.ld (CK.int IntKind.u32) (Opd.t 30), [4]),
        (none, some 32, O.look false CK.str (AV.str []) true (Opd.t 29) (Opd.t 31), [3, 5]),
        (none, some 25, O.mv (Opd.t 32), [6]), (none, some 33, O.ext (Opd.t 25) 0, [7]),
        (none, some 34, O.ext (Opd.t 25) 1, [7]), (none, some 7, O.mv (Opd.t 33), [8, 0, 1, 2, 3, 4, 5, 6, 7, 8]),
        (none, some 8, O.mv (Opd.t 34), [9, 10, 0, 1, 2, 3, 4, 5, 6, 7, 8, 9, 10])]
def o27_1 : List (Nat × Bool) := [(0, false), (1, false), (2, false), (3, false), (4, false), (5, false), (6, false), (7, false), (8, false), (9, false), (10, false), (11, false)]
def l27_1 : List (Nat × Bool × It) :=
  [(0, false, (none, some 26, O.mv (Opd.t 0), [])),
   (1, false, (none, some 27, O.nck (Opd.t 26), [0])),
   (2, false, (none, some 28, O.fad 1 (Opd.t 27), [1])),
   (3, false, (none, some 29, O.ld CK.any (Opd.t 28), [2])),
   (4, false, (none, some 30, O.fad 0 (Opd.t 3), [])),
   (5, false, (none, some 31, O.ld (CK.int IntKind.u32) (Opd.t 30), [4])),
   (6, false, (none, some 32, O.look false CK.str (AV.str []) true (Opd.t 29) (Opd.t 31), [3, 5])),
   (7, false, (none, some 25, O.mv (Opd.t 32), [6])),
   (8, false, (none, some 33, O.ext (Opd.t 25) 0, [7])),
   (9, false, (none, some 34, O.ext (Opd.t 25) 1, [7])),
   (10, false, (none, some 7, O.mv (Opd.t 33), [8, 0, 1, 2, 3, 4, 5, 6, 7, 8])),
   (11, false, (none, some 8, O.mv (Opd.t 34), [9, 10, 0, 1, 2, 3, 4, 5, 6, 7, 8, 9, 10]))]
theorem l27_1_ok : okDraw d27_1 o27_1 = true ∧ mkL d27_1 o27_1 = some l27_1 := ⟨by kernel_rfl, by kernel_rfl⟩

def d27_2 : List It :=
  [(none, some 36, O.mv (Opd.t 0), []), (none, some 37, O.nck (Opd.t 36), [0]),
        (none, some 38, O.fad 1 (Opd.t 37), [1]), (none, some 39, O.ld CK.any (Opd.t 38), [2]),
        (none, some 40, O.fad 0 (Opd.t 3), []), (none, some 41, O.ld (CK.int IntKind.u32) (Opd.t 40), [4]),
        (none, some 42, O.fad 1 (Opd.t 3), []), (none, some 43, O.ld CK.str (Opd.t 42), [6]),
        (none, none, O.mput false (Opd.t 39) (Opd.t 41) (Opd.t 43), [3, 5, 7, 0, 1, 2, 3, 4, 5, 6, 7])]
def o27_2 : List (Nat × Bool) := [(0, false), (1, false), (2, false), (3, false), (4, false), (5, false), (6, false), (7, false), (8, true)]
def l27_2 : List (Nat × Bool × It) :=
  [(0, false, (none, some 36, O.mv (Opd.t 0), [])),
   (1, false, (none, some 37, O.nck (Opd.t 36), [0])),
   (2, false, (none, some 38, O.fad 1 (Opd.t 37), [1])),
   (3, false, (none, some 39, O.ld CK.any (Opd.t 38), [2])),
   (4, false, (none, some 40, O.fad 0 (Opd.t 3), [])),
   (5, false, (none, some 41, O.ld (CK.int IntKind.u32) (Opd.t 40), [4])),
   (6, false, (none, some 42, O.fad 1 (Opd.t 3), [])),
   (7, false, (none, some 43, O.ld CK.str (Opd.t 42), [6])),
   (8, true, (none, none, O.mput false (Opd.t 39) (Opd.t 41) (Opd.t 43), [3, 5, 7, 0, 1, 2, 3, 4, 5, 6, 7]))]
theorem l27_2_ok : okDraw d27_2 o27_2 = true ∧ mkL d27_2 o27_2 = some l27_2 := ⟨by kernel_rfl, by kernel_rfl⟩

def d27_3 : List It :=
  [(none, some 45, O.mv (Opd.t 0), []), (none, some 46, O.nck (Opd.t 45), [0]),
                    (none, some 47, O.fad 1 (Opd.t 46), [1]), (none, some 48, O.ld CK.any (Opd.t 47), [2]),
                    (none, some 49, O.mv (Opd.t 0), []), (none, some 50, O.nck (Opd.t 49), [4]),
                    (none, some 51, O.fad 0 (Opd.t 50), [5]),
                    (none, some 52, O.ld (CK.int IntKind.u32) (Opd.t 51), [6]),
                    (none, some 53, O.look false CK.str (AV.str []) true (Opd.t 48) (Opd.t 52), [3, 7]),
                    (none, some 44, O.mv (Opd.t 53), [8]), (none, some 54, O.ext (Opd.t 44) 0, [9]),
                    (none, some 55, O.ext (Opd.t 44) 1, [9]),
                    (none, some 10, O.mv (Opd.t 54), [10, 0, 1, 2, 3, 4, 5, 6, 7, 8, 9, 10]),
                    (none, some 11, O.mv (Opd.t 55), [11, 12, 0, 1, 2, 3, 4, 5, 6, 7, 8, 9, 10, 11, 12])]
def o27_3 : List (Nat × Bool) := [(0, false), (1, false), (2, false), (3, false), (4, false), (5, false), (6, false), (7, false), (8, false), (9, false), (10, false), (11, false), (12, false), (13, false)]
def l27_3 : List (Nat × Bool × It) :=
  [(0, false, (none, some 45, O.mv (Opd.t 0), [])),
   (1, false, (none, some 46, O.nck (Opd.t 45), [0])),
   (2, false, (none, some 47, O.fad 1 (Opd.t 46), [1])),
   (3, false, (none, some 48, O.ld CK.any (Opd.t 47), [2])),
   (4, false, (none, some 49, O.mv (Opd.t 0), [])),
   (5, false, (none, some 50, O.nck (Opd.t 49), [4])),
   (6, false, (none, some 51, O.fad 0 (Opd.t 50), [5])),
   (7, false, (none, some 52, O.ld (CK.int IntKind.u32) (Opd.t 51), [6])),
   (8, false, (none, some 53, O.look false CK.str (AV.str []) true (Opd.t 48) (Opd.t 52), [3, 7])),
   (9, false, (none, some 44, O.mv (Opd.t 53), [8])),
   (10, false, (none, some 54, O.ext (Opd.t 44) 0, [9])),
   (11, false, (none, some 55, O.ext (Opd.t 44) 1, [9])),
   (12, false, (none, some 10, O.mv (Opd.t 54), [10, 0, 1, 2, 3, 4, 5, 6, 7, 8, 9, 10])),
   (13, false, (none, some 11, O.mv (Opd.t 55), [11, 12, 0, 1, 2, 3, 4, 5, 6, 7, 8, 9, 10, 11, 12]))]
theorem l27_3_ok : okDraw d27_3 o27_3 = true ∧ mkL d27_3 o27_3 = some l27_3 := ⟨by kernel_rfl, by kernel_rfl⟩

def d27_4 : List It :=
  [(none, some 59, O.mv (Opd.t 0), []), (none, some 60, O.nck (Opd.t 59), [0]),
                    (none, some 61, O.fad 1 (Opd.t 60), [1]), (none, some 62, O.ld CK.any (Opd.t 61), [2]),
                    (none, some 63, O.mv (Opd.t 0), []), (none, some 64, O.nck (Opd.t 63), [4]),
                    (none, some 65, O.fad 0 (Opd.t 64), [5]),
                    (none, some 66, O.ld (CK.int IntKind.u32) (Opd.t 65), [6]),
                    (none, none, O.mdel false (Opd.t 62) (Opd.t 66), [3, 7])]
def o27_4 : List (Nat × Bool) := [(0, false), (1, false), (2, false), (3, false), (4, false), (5, false), (6, false), (7, false), (8, true)]
def l27_4 : List (Nat × Bool × It) :=
  [(0, false, (none, some 59, O.mv (Opd.t 0), [])),
   (1, false, (none, some 60, O.nck (Opd.t 59), [0])),
   (2, false, (none, some 61, O.fad 1 (Opd.t 60), [1])),
   (3, false, (none, some 62, O.ld CK.any (Opd.t 61), [2])),
   (4, false, (none, some 63, O.mv (Opd.t 0), [])),
   (5, false, (none, some 64, O.nck (Opd.t 63), [4])),
   (6, false, (none, some 65, O.fad 0 (Opd.t 64), [5])),
   (7, false, (none, some 66, O.ld (CK.int IntKind.u32) (Opd.t 65), [6])),
   (8, true, (none, none, O.mdel false (Opd.t 62) (Opd.t 66), [3, 7]))]
theorem l27_4_ok : okDraw d27_4 o27_4 = true ∧ mkL d27_4 o27_4 = some l27_4 := ⟨by kernel_rfl, by kernel_rfl⟩

def c27 : List C :=
  [C.op none (some 3) (O.box (Opd.t 1)), C.op none (some 4) (O.mv (Opd.c AV.nilsl)),
    C.op none (some 5) (O.mv (Opd.c (AV.int IntKind.i64 0))),
    C.draw d27_0,
    C.blk 0
      [C.op none (some 20) (O.mv (Opd.t 6)),
        C.op none (some 21) (O.bin BinOp.geq (Opd.t 20) (Opd.c (AV.int IntKind.u32 2147483648))),
        C.op none (some 19) (O.mv (Opd.t 21)),
        C.cond (Opd.t 19)
          [C.op none (some 4) (O.mv (Opd.c AV.nilsl)),
            C.op none (some 5) (O.mv (Opd.c (AV.int IntKind.i64 11))), C.ret]
          [C.op none (some 23) (O.mv (Opd.t 6)),
            C.op none (some 24) (O.bin BinOp.gtr (Opd.t 23) (Opd.c (AV.int IntKind.u32 32))),
            C.op none (some 22) (O.mv (Opd.t 24)),
            C.cond (Opd.t 22)
              [C.op none (some 4) (O.mv (Opd.c AV.nilsl)),
                C.op none (some 5) (O.mv (Opd.c (AV.int IntKind.i64 8))), C.ret]
              []]],
    C.draw d27_1,
    C.op none (some 35) (O.mv (Opd.t 8)),
    C.cond (Opd.t 35)
      [C.op none (some 4) (O.mv (Opd.c AV.nilsl)),
        C.op none (some 5) (O.mv (Opd.c (AV.int IntKind.i64 10))), C.ret]
      [],
    C.draw d27_2,
    C.op none (some 9) (O.mv (Opd.c AV.nilsl)),
    C.blk 1
      [C.loop
          [C.blk 2
              [C.draw d27_3,
                C.op none (some 56) (O.mv (Opd.t 11)), C.op none (some 57) (O.un UnOp.not (Opd.t 56)),
                C.cond (Opd.t 57)
                  [C.op none (some 58) (O.mv (Opd.t 9)), C.op none (some 4) (O.mv (Opd.t 58)),
                    C.op none (some 5) (O.mv (Opd.c (AV.int IntKind.i64 0))), C.ret]
                  [],
                C.draw d27_4,
                C.op none (some 67) (O.mv (Opd.t 9)), C.op none (some 68) (O.mv (Opd.t 10)),
                C.op none (some 69) (O.bsl 1 [AV.str []] 1 [(0, Opd.t 68)]),
                C.op none (some 70) (O.app 1 (Opd.t 67) (Opd.t 69)), C.op none (some 9) (O.mv (Opd.t 70)),
                C.op none (some 71) (O.mv (Opd.t 0)), C.op none (some 72) (O.nck (Opd.t 71)),
                C.op none (some 73) (O.fad 0 (Opd.t 72)), C.op none (some 74) (O.ld (CK.int IntKind.u32) (Opd.t 73)),
                C.op none (some 75) (O.bin BinOp.add (Opd.t 74) (Opd.c (AV.int IntKind.u32 1))),
                C.op none (some 76) (O.nck (Opd.t 71)), C.op none (some 77) (O.fad 0 (Opd.t 76)),
                C.op none none (O.st 1 (Opd.t 77) (Opd.t 75))]]]]
def r27 : List RV := [RV.t 4, RV.t 5]
theorem c27_ok : cC Try.prog Try.f27.ntmps (Try.f27.body.getD .skip) = some c27 := by kernel_rfl

def d28_0 : List It :=
  [(none, some 30, O.bsl 2 [AV.int IntKind.i64 0, AV.str []] 0 [], []),
        (none, some 31, O.fad 1 (Opd.t 2), []), (none, some 32, O.ld CK.any (Opd.t 31), [1]),
        (none, some 33, O.app 2 (Opd.t 30) (Opd.t 32), [0, 2]),
        (none, some 34, O.ldn [CK.int IntKind.i64, CK.str] (Opd.t 3), []),
        (none, some 35, O.bsl 2 [AV.int IntKind.i64 0, AV.str []] 1 [(0, Opd.t 34)], [4]),
        (none, some 36, O.app 2 (Opd.t 33) (Opd.t 35), [3, 5, 3]),
        (none, some 37, O.fad 1 (Opd.t 2), [0, 1, 2, 3, 4, 5, 6]),
        (none, none, O.st 1 (Opd.t 37) (Opd.t 36), [7, 6, 6, 0, 1, 2, 3, 4, 5, 6])]
def o28_0 : List (Nat × Bool) := [(0, false), (1, false), (2, false), (4, false), (5, false), (3, true), (6, true), (7, false), (8, true)]
def l28_0 : List (Nat × Bool × It) :=
  [(0, false, (none, some 30, O.bsl 2 [AV.int IntKind.i64 0, AV.str []] 0 [], [])),
   (1, false, (none, some 31, O.fad 1 (Opd.t 2), [])),
   (2, false, (none, some 32, O.ld CK.any (Opd.t 31), [1])),
   (4, false, (none, some 34, O.ldn [CK.int IntKind.i64, CK.str] (Opd.t 3), [])),
   (5, false, (none, some 35, O.bsl 2 [AV.int IntKind.i64 0, AV.str []] 1 [(0, Opd.t 34)], [4])),
   (3, true, (none, some 33, O.app 2 (Opd.t 30) (Opd.t 32), [0, 2])),
   (6, true, (none, some 36, O.app 2 (Opd.t 33) (Opd.t 35), [3, 5, 3])),
   (7, false, (none, some 37, O.fad 1 (Opd.t 2), [0, 1, 2, 3, 4, 5, 6])),
   (8, true, (none, none, O.st 1 (Opd.t 37) (Opd.t 36), [7, 6, 6, 0, 1, 2, 3, 4, 5, 6]))]
theorem l28_0_ok : okDraw d28_0 o28_0 = true ∧ mkL d28_0 o28_0 = some l28_0 := ⟨by kernel_rfl, by kernel_rfl⟩

def d28_1 : List It :=
  [(none, some 61, O.bsl 2 [AV.int IntKind.i64 0, AV.str []] 0 [], []),
                    (none, some 62, O.fad 1 (Opd.t 2), []), (none, some 63, O.ld CK.any (Opd.t 62), [1]),
                    (none, some 64, O.mv (Opd.t 9), []),
                    (none, some 65, O.lsl 2 (Opd.t 63) none (some (Opd.t 64)) none, [2, 3]),
                    (none, some 66, O.app 2 (Opd.t 61) (Opd.t 65), [0, 4]), (none, some 67, O.fad 1 (Opd.t 2), []),
                    (none, some 68, O.ld CK.any (Opd.t 67), [6]), (none, some 69, O.mv (Opd.t 9), []),
                    (none, some 70, O.bin BinOp.add (Opd.t 69) (Opd.c (AV.int IntKind.i64 1)), [8]),
                    (none, some 71, O.lsl 2 (Opd.t 68) (some (Opd.t 70)) none none, [7, 9]),
                    (none, some 72, O.app 2 (Opd.t 66) (Opd.t 71), [5, 10, 5]),
                    (none, some 73, O.fad 1 (Opd.t 2), [0, 1, 2, 3, 4, 5, 6, 7, 8, 9, 10, 11]),
                    (none, none, O.st 1 (Opd.t 73) (Opd.t 72), [12, 11, 11, 0, 1, 2, 3, 4, 5, 6, 7, 8, 9, 10, 11])]
def o28_1 : List (Nat × Bool) := [(0, false), (1, false), (2, false), (3, false), (4, false), (6, false), (7, false), (8, false), (9, false), (10, false), (5, true), (11, true), (12, false), (13, true)]
def l28_1 : List (Nat × Bool × It) :=
  [(0, false, (none, some 61, O.bsl 2 [AV.int IntKind.i64 0, AV.str []] 0 [], [])),
   (1, false, (none, some 62, O.fad 1 (Opd.t 2), [])),
   (2, false, (none, some 63, O.ld CK.any (Opd.t 62), [1])),
   (3, false, (none, some 64, O.mv (Opd.t 9), [])),
   (4, false, (none, some 65, O.lsl 2 (Opd.t 63) none (some (Opd.t 64)) none, [2, 3])),
   (6, false, (none, some 67, O.fad 1 (Opd.t 2), [])),
   (7, false, (none, some 68, O.ld CK.any (Opd.t 67), [6])),
   (8, false, (none, some 69, O.mv (Opd.t 9), [])),
   (9, false, (none, some 70, O.bin BinOp.add (Opd.t 69) (Opd.c (AV.int IntKind.i64 1)), [8])),
   (10, false, (none, some 71, O.lsl 2 (Opd.t 68) (some (Opd.t 70)) none none, [7, 9])),
   (5, true, (none, some 66, O.app 2 (Opd.t 61) (Opd.t 65), [0, 4])),
   (11, true, (none, some 72, O.app 2 (Opd.t 66) (Opd.t 71), [5, 10, 5])),
   (12, false, (none, some 73, O.fad 1 (Opd.t 2), [0, 1, 2, 3, 4, 5, 6, 7, 8, 9, 10, 11])),
   (13, true, (none, none, O.st 1 (Opd.t 73) (Opd.t 72), [12, 11, 11, 0, 1, 2, 3, 4, 5, 6, 7, 8, 9, 10, 11]))]
theorem l28_1_ok : okDraw d28_1 o28_1 = true ∧ mkL d28_1 o28_1 = some l28_1 := ⟨by kernel_rfl, by kernel_rfl⟩

def c28 : List C :=
  [C.op none (some 2) (O.box (Opd.t 0)), C.op none (some 3) (O.box (Opd.t 1)),
    C.op none (some 4) (O.alloc [AV.int IntKind.i64 0, AV.nilsl]),
    C.op none (some 5) (O.mv (Opd.c AV.nilsl)), C.op none (some 6) (O.mv (Opd.c (AV.int IntKind.i64 0))),
    C.op none (some 10) (O.fad 0 (Opd.t 3)), C.op none (some 11) (O.ld (CK.int IntKind.i64) (Opd.t 10)),
    C.op none (some 12) (O.fad 0 (Opd.t 2)), C.op none (some 13) (O.ld (CK.int IntKind.i64) (Opd.t 12)),
    C.op none (some 14) (O.bin BinOp.lss (Opd.t 11) (Opd.t 13)),
    C.cond (Opd.t 14)
      [C.op none (some 15) (O.ldn [CK.int IntKind.i64, CK.any] (Opd.t 2)), C.op none none (O.st 2 (Opd.t 4) (Opd.t 15)),
        C.op none (some 5) (O.mv (Opd.c AV.nilsl)),
        C.op none (some 6) (O.mv (Opd.c (AV.int IntKind.i64 11))), C.ret]
      [],
    C.op none (some 16) (O.fad 0 (Opd.t 3)), C.op none (some 17) (O.ld (CK.int IntKind.i64) (Opd.t 16)),
    C.op none (some 18) (O.fad 0 (Opd.t 2)), C.op none (some 19) (O.ld (CK.int IntKind.i64) (Opd.t 18)),
    C.op none (some 20) (O.bin BinOp.add (Opd.t 19) (Opd.c (AV.int IntKind.i64 32))),
    C.op none (some 21) (O.bin BinOp.gtr (Opd.t 17) (Opd.t 20)),
    C.cond (Opd.t 21)
      [C.op none (some 22) (O.ldn [CK.int IntKind.i64, CK.any] (Opd.t 2)), C.op none none (O.st 2 (Opd.t 4) (Opd.t 22)),
        C.op none (some 5) (O.mv (Opd.c AV.nilsl)),
        C.op none (some 6) (O.mv (Opd.c (AV.int IntKind.i64 8))), C.ret]
      [],
    C.op none (some 23) (O.fad 1 (Opd.t 2)), C.op none (some 24) (O.ld CK.any (Opd.t 23)),
    C.op none (some 25) (O.fad 0 (Opd.t 3)), C.op none (some 26) (O.ld (CK.int IntKind.i64) (Opd.t 25)),
    C.op none (some 27) (O.call 41 [Opd.t 24, Opd.t 26]),
    C.op none (some 28) (O.bin BinOp.geq (Opd.t 27) (Opd.c (AV.int IntKind.i64 0))),
    C.cond (Opd.t 28)
      [C.op none (some 29) (O.ldn [CK.int IntKind.i64, CK.any] (Opd.t 2)), C.op none none (O.st 2 (Opd.t 4) (Opd.t 29)),
        C.op none (some 5) (O.mv (Opd.c AV.nilsl)),
        C.op none (some 6) (O.mv (Opd.c (AV.int IntKind.i64 10))), C.ret]
      [],
    C.draw d28_0,
    C.op none (some 38) (O.bsl 1 [AV.str []] 0 []), C.op none (some 7) (O.mv (Opd.t 38)),
    C.op none (some 8) (O.mv (Opd.c (AV.int IntKind.i64 0))),
    C.blk 0
      [C.loop
          [C.op none (some 39) (O.mv (Opd.t 8)),
            C.op none (some 40) (O.bin BinOp.lss (Opd.t 39) (Opd.c (AV.int IntKind.i64 40))),
            C.cond (Opd.t 40) [] [C.exit 0],
            C.blk 1
              [C.op none (some 43) (O.fad 1 (Opd.t 2)), C.op none (some 44) (O.ld CK.any (Opd.t 43)),
                C.op none (some 45) (O.fad 0 (Opd.t 2)), C.op none (some 46) (O.ld (CK.int IntKind.i64) (Opd.t 45)),
                C.op none (some 47) (O.call 41 [Opd.t 44, Opd.t 46]), C.op none (some 9) (O.mv (Opd.t 47)),
                C.op none (some 48) (O.mv (Opd.t 9)),
                C.op none (some 49) (O.bin BinOp.lss (Opd.t 48) (Opd.c (AV.int IntKind.i64 0))),
                C.cond (Opd.t 49)
                  [C.op none (some 50) (O.ldn [CK.int IntKind.i64, CK.any] (Opd.t 2)),
                    C.op none (some 51) (O.mv (Opd.t 7)), C.op none none (O.st 2 (Opd.t 4) (Opd.t 50)),
                    C.op none (some 5) (O.mv (Opd.t 51)),
                    C.op none (some 6) (O.mv (Opd.c (AV.int IntKind.i64 0))), C.ret]
                  [],
                C.op none (some 52) (O.mv (Opd.t 7)), C.op none (some 53) (O.fad 1 (Opd.t 2)),
                C.op none (some 54) (O.ld CK.any (Opd.t 53)), C.op none (some 55) (O.mv (Opd.t 9)),
                C.op none (some 56) (O.iad 2 (Opd.t 54) (Opd.t 55)), C.op none (some 57) (O.fad 1 (Opd.t 56)),
                C.op none (some 58) (O.ld CK.str (Opd.t 57)),
                C.op none (some 59) (O.bsl 1 [AV.str []] 1 [(0, Opd.t 58)]),
                C.op none (some 60) (O.app 1 (Opd.t 52) (Opd.t 59)), C.op none (some 7) (O.mv (Opd.t 60)),
                C.draw d28_1,
                C.op none (some 74) (O.fad 0 (Opd.t 2)), C.op none (some 75) (O.ld (CK.int IntKind.i64) (Opd.t 74)),
                C.op none (some 76) (O.bin BinOp.add (Opd.t 75) (Opd.c (AV.int IntKind.i64 1))),
                C.op none (some 77) (O.fad 0 (Opd.t 2)), C.op none none (O.st 1 (Opd.t 77) (Opd.t 76))],
            C.op none (some 41) (O.mv (Opd.t 8)),
            C.op none (some 42) (O.bin BinOp.add (Opd.t 41) (Opd.c (AV.int IntKind.i64 1))),
            C.op none (some 8) (O.mv (Opd.t 42))]],
    C.op none (some 78) (O.ldn [CK.int IntKind.i64, CK.any] (Opd.t 2)), C.op none (some 79) (O.mv (Opd.t 7)),
    C.op none none (O.st 2 (Opd.t 4) (Opd.t 78)), C.op none (some 5) (O.mv (Opd.t 79)),
    C.op none (some 6) (O.mv (Opd.c (AV.int IntKind.i64 0))), C.ret]
def r28 : List RV := [RV.cn 4 2, RV.t 5, RV.t 6]
theorem c28_ok : cC Try.prog Try.f28.ntmps (Try.f28.body.getD .skip) = some c28 := by kernel_rfl

def d29_0 : List It :=
  [(none, some 17, O.mv (Opd.t 0), []), (none, some 18, O.nck (Opd.t 17), [0]),
                    (none, some 19, O.fad 1 (Opd.t 18), [1]), (none, some 20, O.ld CK.any (Opd.t 19), [2]),
                    (none, some 21, O.mv (Opd.t 0), []), (none, some 22, O.nck (Opd.t 21), [4]),
                    (none, some 23, O.fad 0 (Opd.t 22), [5]),
                    (none, some 24, O.ld (CK.int IntKind.u32) (Opd.t 23), [6]), (none, some 25, O.mv (Opd.t 4), []),
                    (none, some 26, O.bin BinOp.add (Opd.t 24) (Opd.t 25), [7, 8]),
                    (none, some 27, O.look false CK.str (AV.str []) true (Opd.t 20) (Opd.t 26), [3, 9]),
                    (none, some 16, O.mv (Opd.t 27), [10]), (none, some 28, O.ext (Opd.t 16) 0, [11]),
                    (none, some 29, O.ext (Opd.t 16) 1, [11]),
                    (none, some 5, O.mv (Opd.t 28), [12, 0, 1, 2, 3, 4, 5, 6, 7, 8, 9, 10, 11, 12]),
                    (none, some 6, O.mv (Opd.t 29), [13, 14, 0, 1, 2, 3, 4, 5, 6, 7, 8, 9, 10, 11, 12, 13, 14])]
def o29_0 : List (Nat × Bool) := [(0, false), (1, false), (2, false), (3, false), (4, false), (5, false), (6, false), (7, false), (8, false), (9, false), (10, false), (11, false), (12, false), (13, false), (14, false), (15, false)]
def l29_0 : List (Nat × Bool × It) :=
  [(0, false, (none, some 17, O.mv (Opd.t 0), [])),
   (1, false, (none, some 18, O.nck (Opd.t 17), [0])),
   (2, false, (none, some 19, O.fad 1 (Opd.t 18), [1])),
   (3, false, (none, some 20, O.ld CK.any (Opd.t 19), [2])),
   (4, false, (none, some 21, O.mv (Opd.t 0), [])),
   (5, false, (none, some 22, O.nck (Opd.t 21), [4])),
   (6, false, (none, some 23, O.fad 0 (Opd.t 22), [5])),
   (7, false, (none, some 24, O.ld (CK.int IntKind.u32) (Opd.t 23), [6])),
   (8, false, (none, some 25, O.mv (Opd.t 4), [])),
   (9, false, (none, some 26, O.bin BinOp.add (Opd.t 24) (Opd.t 25), [7, 8])),
   (10, false, (none, some 27, O.look false CK.str (AV.str []) true (Opd.t 20) (Opd.t 26), [3, 9])),
   (11, false, (none, some 16, O.mv (Opd.t 27), [10])),
   (12, false, (none, some 28, O.ext (Opd.t 16) 0, [11])),
   (13, false, (none, some 29, O.ext (Opd.t 16) 1, [11])),
   (14, false, (none, some 5, O.mv (Opd.t 28), [12, 0, 1, 2, 3, 4, 5, 6, 7, 8, 9, 10, 11, 12])),
   (15, false, (none, some 6, O.mv (Opd.t 29), [13, 14, 0, 1, 2, 3, 4, 5, 6, 7, 8, 9, 10, 11, 12, 13, 14]))]
theorem l29_0_ok : okDraw d29_0 o29_0 = true ∧ mkL d29_0 o29_0 = some l29_0 := ⟨by kernel_rfl, by kernel_rfl⟩

def c29 : List C :=
  [C.op none (some 2) (O.alloc [AV.int IntKind.u32 0, AV.int IntKind.u32 0]),
    C.op none (some 7) (O.mv (Opd.t 0)), C.op none (some 8) (O.nck (Opd.t 7)), C.op none (some 9) (O.fad 0 (Opd.t 8)),
    C.op none (some 10) (O.ld (CK.int IntKind.u32) (Opd.t 9)),
    C.op none (some 11)
      (O.build [AV.int IntKind.u32 0, AV.int IntKind.u32 0] [(0, 1, Opd.t 10)]),
    C.op none (some 3) (O.alloc [AV.int IntKind.u32 0, AV.int IntKind.u32 0]),
    C.op none none (O.st 2 (Opd.t 3) (Opd.t 11)), C.op none (some 4) (O.mv (Opd.c (AV.int IntKind.u32 1))),
    C.blk 0
      [C.loop
          [C.op none (some 12) (O.mv (Opd.t 4)),
            C.op none (some 13) (O.bin BinOp.leq (Opd.t 12) (Opd.c (AV.int IntKind.u32 32))),
            C.cond (Opd.t 13) [] [C.exit 0],
            C.blk 1
              [C.draw d29_0,
                C.op none (some 30) (O.mv (Opd.t 6)),
                C.cond (Opd.t 30)
                  [C.op none (some 31) (O.fad 1 (Opd.t 3)), C.op none (some 32) (O.ld (CK.int IntKind.u32) (Opd.t 31)),
                    C.op none (some 33) (O.mv (Opd.t 4)),
                    C.op none (some 34) (O.bin BinOp.sub (Opd.t 33) (Opd.c (AV.int IntKind.u32 1))),
                    C.op none (some 35) (O.bin BinOp.shl (Opd.c (AV.int IntKind.u32 1)) (Opd.t 34)),
                    C.op none (some 36) (O.bin BinOp.or (Opd.t 32) (Opd.t 35)), C.op none (some 37) (O.fad 1 (Opd.t 3)),
                    C.op none none (O.st 1 (Opd.t 37) (Opd.t 36))]
                  []],
            C.op none (some 14) (O.mv (Opd.t 4)),
            C.op none (some 15) (O.bin BinOp.add (Opd.t 14) (Opd.c (AV.int IntKind.u32 1))),
            C.op none (some 4) (O.mv (Opd.t 15))]],
    C.op none (some 38) (O.ldn [CK.int IntKind.u32, CK.int IntKind.u32] (Opd.t 3)),
    C.op none none (O.st 2 (Opd.t 2) (Opd.t 38)), C.ret]
def r29 : List RV := [RV.cn 2 2]
theorem c29_ok : cC Try.prog Try.f29.ntmps (Try.f29.body.getD .skip) = some c29 := by kernel_rfl

def c30 : List C :=
  [C.op none (some 2) (O.mv (Opd.c (AV.int IntKind.i64 0))), C.op none (some 3) (O.mv (Opd.t 0)),
    C.op none (some 4) (O.nck (Opd.t 3)), C.op none (some 5) (O.fad 1 (Opd.t 4)),
    C.op none (some 6) (O.ld CK.any (Opd.t 5)), C.op none (some 7) (O.lenm (Opd.t 6)),
    C.op none (some 2) (O.mv (Opd.t 7)), C.ret]
def r30 : List RV := [RV.t 2]
theorem c30_ok : cC Try.prog Try.f30.ntmps (Try.f30.body.getD .skip) = some c30 := by kernel_rfl

def c31 : List C :=
  [C.op none (some 1) (O.box (Opd.t 0)), C.op none (some 2) (O.mv (Opd.c (AV.int IntKind.u32 0))),
    C.op none (some 3) (O.mv (Opd.c (AV.int IntKind.u32 0))),
    C.op none (some 4) (O.mv (Opd.c (AV.int IntKind.u32 1))),
    C.op none (some 5) (O.mv (Opd.c (AV.int IntKind.i64 0))),
    C.blk 0
      [C.loop
          [C.op none (some 6) (O.mv (Opd.t 5)),
            C.op none (some 7) (O.bin BinOp.lss (Opd.t 6) (Opd.c (AV.int IntKind.i64 32))),
            C.cond (Opd.t 7) [] [C.exit 0],
            C.blk 1
              [C.op none (some 10) (O.fad 1 (Opd.t 1)), C.op none (some 11) (O.ld CK.any (Opd.t 10)),
                C.op none (some 12) (O.fad 0 (Opd.t 1)), C.op none (some 13) (O.ld (CK.int IntKind.i64) (Opd.t 12)),
                C.op none (some 14) (O.mv (Opd.t 5)), C.op none (some 15) (O.bin BinOp.add (Opd.t 13) (Opd.t 14)),
                C.op none (some 16) (O.bin BinOp.add (Opd.t 15) (Opd.c (AV.int IntKind.i64 1))),
                C.op none (some 17) (O.call 41 [Opd.t 11, Opd.t 16]),
                C.op none (some 18) (O.bin BinOp.geq (Opd.t 17) (Opd.c (AV.int IntKind.i64 0))),
                C.cond (Opd.t 18)
                  [C.op none (some 19) (O.mv (Opd.t 3)), C.op none (some 20) (O.mv (Opd.t 4)),
                    C.op none (some 21) (O.bin BinOp.add (Opd.t 19) (Opd.t 20)), C.op none (some 3) (O.mv (Opd.t 21))]
                  [],
                C.op none (some 22) (O.mv (Opd.t 4)),
                C.op none (some 23) (O.bin BinOp.mul (Opd.t 22) (Opd.c (AV.int IntKind.u32 2))),
                C.op none (some 4) (O.mv (Opd.t 23))],
            C.op none (some 8) (O.mv (Opd.t 5)),
            C.op none (some 9) (O.bin BinOp.add (Opd.t 8) (Opd.c (AV.int IntKind.i64 1))),
            C.op none (some 5) (O.mv (Opd.t 9))]],
    C.op none (some 24) (O.mv (Opd.t 3)), C.op none (some 2) (O.mv (Opd.t 24)), C.ret]
def r31 : List RV := [RV.t 2]
theorem c31_ok : cC Try.prog Try.f31.ntmps (Try.f31.body.getD .skip) = some c31 := by kernel_rfl

def c32 : List C :=
  [C.op none (some 2) (O.mv (Opd.c AV.nilptr)), C.op none (some 3) (O.mv (Opd.t 0)),
    C.op none (some 4) (O.build [AV.int IntKind.u32 0, AV.nilsl] [(0, 1, Opd.t 3)]),
    C.op none (some 5) (O.box (Opd.t 4)), C.op none (some 2) (O.mv (Opd.t 5)), C.ret]
def r32 : List RV := [RV.t 2]
theorem c32_ok : cC Try.prog Try.f32.ntmps (Try.f32.body.getD .skip) = some c32 := by kernel_rfl

def d33_0 : List It :=
  [(none, some 9, O.mv (Opd.t 0), []), (none, some 10, O.mv (Opd.t 0), []), (none, some 11, O.nck (Opd.t 10), [1]),
        (none, some 12, O.fad 1 (Opd.t 11), [2]), (none, some 13, O.ld CK.any (Opd.t 12), [3]),
        (none, some 14, O.mv (Opd.t 0), []), (none, some 15, O.nck (Opd.t 14), [5]),
        (none, some 16, O.fad 0 (Opd.t 15), [6]), (none, some 17, O.ld (CK.int IntKind.u32) (Opd.t 16), [7]),
        (none, some 18, O.mv (Opd.t 1), []),
        (none, some 19, O.build [AV.int IntKind.u32 0, AV.str []] [(0, 1, Opd.t 17), (1, 1, Opd.t 18)],
          [8, 9]),
        (none, some 20, O.bsl 2 [AV.int IntKind.u32 0, AV.str []] 1 [(0, Opd.t 19)], [10]),
        (none, some 21, O.app 2 (Opd.t 13) (Opd.t 20), [4, 11]),
        (none, some 22, O.nck (Opd.t 9), [0, 0, 1, 2, 3, 4, 5, 6, 7, 8, 9, 10, 11, 12]),
        (none, some 23, O.fad 1 (Opd.t 22), [13, 0, 1, 2, 3, 4, 5, 6, 7, 8, 9, 10, 11, 12]),
        (none, none, O.st 1 (Opd.t 23) (Opd.t 21), [14, 12, 12, 0, 1, 2, 3, 4, 5, 6, 7, 8, 9, 10, 11, 12])]
def o33_0 : List (Nat × Bool) := [(0, false), (1, false), (2, false), (3, false), (4, false), (5, false), (6, false), (7, false), (8, false), (9, false), (10, false), (11, false), (12, true), (13, false), (14, false), (15, true)]
def l33_0 : List (Nat × Bool × It) :=
  [(0, false, (none, some 9, O.mv (Opd.t 0), [])),
   (1, false, (none, some 10, O.mv (Opd.t 0), [])),
   (2, false, (none, some 11, O.nck (Opd.t 10), [1])),
   (3, false, (none, some 12, O.fad 1 (Opd.t 11), [2])),
   (4, false, (none, some 13, O.ld CK.any (Opd.t 12), [3])),
   (5, false, (none, some 14, O.mv (Opd.t 0), [])),
   (6, false, (none, some 15, O.nck (Opd.t 14), [5])),
   (7, false, (none, some 16, O.fad 0 (Opd.t 15), [6])),
   (8, false, (none, some 17, O.ld (CK.int IntKind.u32) (Opd.t 16), [7])),
   (9, false, (none, some 18, O.mv (Opd.t 1), [])),
   (10, false, (none, some 19, O.build [AV.int IntKind.u32 0, AV.str []] [(0, 1, Opd.t 17), (1, 1, Opd.t 18)],
          [8, 9])),
   (11, false, (none, some 20, O.bsl 2 [AV.int IntKind.u32 0, AV.str []] 1 [(0, Opd.t 19)], [10])),
   (12, true, (none, some 21, O.app 2 (Opd.t 13) (Opd.t 20), [4, 11])),
   (13, false, (none, some 22, O.nck (Opd.t 9), [0, 0, 1, 2, 3, 4, 5, 6, 7, 8, 9, 10, 11, 12])),
   (14, false, (none, some 23, O.fad 1 (Opd.t 22), [13, 0, 1, 2, 3, 4, 5, 6, 7, 8, 9, 10, 11, 12])),
   (15, true, (none, none, O.st 1 (Opd.t 23) (Opd.t 21), [14, 12, 12, 0, 1, 2, 3, 4, 5, 6, 7, 8, 9, 10, 11, 12]))]
theorem l33_0_ok : okDraw d33_0 o33_0 = true ∧ mkL d33_0 o33_0 = some l33_0 := ⟨by kernel_rfl, by kernel_rfl⟩

def c33 : List C :=
  [C.op none (some 4) (O.mv (Opd.c (AV.int IntKind.u32 0))),
    C.op none (some 5) (O.mv (Opd.c (AV.int IntKind.i64 0))), C.op none (some 6) (O.mv (Opd.t 0)),
    C.op none (some 7) (O.call 42 [Opd.t 6]), C.op none (some 8) (O.un UnOp.not (Opd.t 7)),
    C.cond (Opd.t 8)
      [C.op none (some 4) (O.mv (Opd.c (AV.int IntKind.u32 0))),
        C.op none (some 5) (O.mv (Opd.c (AV.int IntKind.i64 8))), C.ret]
      [],
    C.draw d33_0,
    C.op none (some 24) (O.mv (Opd.t 0)), C.op none (some 25) (O.nck (Opd.t 24)),
    C.op none (some 26) (O.fad 0 (Opd.t 25)), C.op none (some 27) (O.ld (CK.int IntKind.u32) (Opd.t 26)),
    C.op none (some 28) (O.bin BinOp.add (Opd.t 27) (Opd.c (AV.int IntKind.u32 1))),
    C.op none (some 29) (O.nck (Opd.t 24)), C.op none (some 30) (O.fad 0 (Opd.t 29)),
    C.op none none (O.st 1 (Opd.t 30) (Opd.t 28)), C.op none (some 31) (O.mv (Opd.t 0)),
    C.op none (some 32) (O.nck (Opd.t 31)), C.op none (some 33) (O.fad 0 (Opd.t 32)),
    C.op none (some 34) (O.ld (CK.int IntKind.u32) (Opd.t 33)),
    C.op none (some 35) (O.bin BinOp.sub (Opd.t 34) (Opd.c (AV.int IntKind.u32 1))),
    C.op none (some 4) (O.mv (Opd.t 35)), C.op none (some 5) (O.mv (Opd.c (AV.int IntKind.i64 0))), C.ret]
def r33 : List RV := [RV.t 4, RV.t 5]
theorem c33_ok : cC Try.prog Try.f33.ntmps (Try.f33.body.getD .skip) = some c33 := by kernel_rfl

def d34_0 : List It :=
  [(none, some 7, O.mv (Opd.t 0), []), (none, some 8, O.nck (Opd.t 7), [0]), (none, some 9, O.fad 0 (Opd.t 8), [1]),
        (none, some 10, O.ld (CK.int IntKind.u32) (Opd.t 9), [2]), (none, some 11, O.fad 0 (Opd.t 3), []),
        (none, some 12, O.ld (CK.int IntKind.u32) (Opd.t 11), [4]),
        (none, some 13, O.bin BinOp.sub (Opd.t 10) (Opd.t 12), [3, 5]),
        (none, some 5, O.mv (Opd.t 13), [6, 0, 1, 2, 3, 4, 5, 6])]
def o34_0 : List (Nat × Bool) := [(0, false), (1, false), (2, false), (3, false), (4, false), (5, false), (6, false), (7, false)]
def l34_0 : List (Nat × Bool × It) :=
  [(0, false, (none, some 7, O.mv (Opd.t 0), [])),
   (1, false, (none, some 8, O.nck (Opd.t 7), [0])),
   (2, false, (none, some 9, O.fad 0 (Opd.t 8), [1])),
   (3, false, (none, some 10, O.ld (CK.int IntKind.u32) (Opd.t 9), [2])),
   (4, false, (none, some 11, O.fad 0 (Opd.t 3), [])),
   (5, false, (none, some 12, O.ld (CK.int IntKind.u32) (Opd.t 11), [4])),
   (6, false, (none, some 13, O.bin BinOp.sub (Opd.t 10) (Opd.t 12), [3, 5])),
   (7, false, (none, some 5, O.mv (Opd.t 13), [6, 0, 1, 2, 3, 4, 5, 6]))]
theorem l34_0_ok : okDraw d34_0 o34_0 = true ∧ mkL d34_0 o34_0 = some l34_0 := ⟨by kernel_rfl, by kernel_rfl⟩

def c34 : List C :=
  [C.op none (some 3) (O.box (Opd.t 1)), C.op none (some 4) (O.mv (Opd.c AV.nilsl)),
    C.draw d34_0,
    C.op none (some 14) (O.mv (Opd.t 5)),
    C.op none (some 15) (O.bin BinOp.geq (Opd.t 14) (Opd.c (AV.int IntKind.u32 2147483648))),
    C.cond (Opd.t 15) [C.op none (some 4) (O.mv (Opd.c AV.nilsl)), C.ret] [], C.op none (some 6) (O.alloc [AV.nilsl]),
    C.op none (some 16) (O.mv (Opd.t 0)), C.op none (some 17) (O.mv (Opd.t 0)), C.op none (some 18) (O.nck (Opd.t 17)),
    C.op none (some 19) (O.fad 1 (Opd.t 18)), C.op none (some 20) (O.ld CK.any (Opd.t 19)),
    C.op none (some 21) (O.call 44 [Opd.t 20]), C.op none (some 22) (O.mkfn 45 [] [Opd.t 3, Opd.t 6]),
    C.op none (some 23) (O.call 43 [Opd.t 21, Opd.t 22]), C.op none (some 24) (O.nck (Opd.t 16)),
    C.op none (some 25) (O.fad 1 (Opd.t 24)), C.op none none (O.st 1 (Opd.t 25) (Opd.t 23)),
    C.op none (some 26) (O.ld CK.any (Opd.t 6)), C.op none (some 4) (O.mv (Opd.t 26)), C.ret]
def r34 : List RV := [RV.t 4]
theorem c34_ok : cC Try.prog Try.f34.ntmps (Try.f34.body.getD .skip) = some c34 := by kernel_rfl

def c35 : List C :=
  [C.op none (some 2) (O.mv (Opd.c (AV.int IntKind.i64 0))), C.op none (some 3) (O.mv (Opd.t 0)),
    C.op none (some 4) (O.nck (Opd.t 3)), C.op none (some 5) (O.fad 1 (Opd.t 4)),
    C.op none (some 6) (O.ld CK.any (Opd.t 5)), C.op none (some 7) (O.len false (Opd.t 6)),
    C.op none (some 2) (O.mv (Opd.t 7)), C.ret]
def r35 : List RV := [RV.t 2]
theorem c35_ok : cC Try.prog Try.f35.ntmps (Try.f35.body.getD .skip) = some c35 := by kernel_rfl

def c36 : List C :=
  [C.op none (some 2) (O.mv (Opd.c AV.nilsl)), C.op none (some 3) (O.mv (Opd.t 0)),
    C.op none (some 4) (O.nck (Opd.t 3)), C.op none (some 5) (O.fad 1 (Opd.t 4)),
    C.op none (some 6) (O.ld CK.any (Opd.t 5)), C.op none (some 7) (O.call 44 [Opd.t 6]),
    C.op none (some 2) (O.mv (Opd.t 7)), C.ret]
def r36 : List RV := [RV.t 2]
theorem c36_ok : cC Try.prog Try.f36.ntmps (Try.f36.body.getD .skip) = some c36 := by kernel_rfl

def d37_0 : List It :=
  [(none, some 6, O.fad 1 (Opd.t 2), []), (none, some 7, O.ld CK.any (Opd.t 6), [0]),
        (none, some 8, O.len false (Opd.t 7), [1]),
        (none, some 9, O.bin BinOp.gtr (Opd.t 8) (Opd.c (AV.int IntKind.i64 0)), [2]),
        (none, some 10, O.mv (Opd.t 9), [3]), (some (10, true), some 11, O.fad 0 (Opd.t 2), [4]),
        (some (10, true), some 12, O.ld (CK.int IntKind.i64) (Opd.t 11), [5, 4]),
        (some (10, true), some 13, O.fad 1 (Opd.t 2), [4]), (some (10, true), some 14, O.ld CK.any (Opd.t 13), [7, 4]),
        (some (10, true), some 15, O.iad 2 (Opd.t 14) (Opd.c (AV.int IntKind.i64 0)), [8, 4]),
        (some (10, true), some 16, O.fad 0 (Opd.t 15), [9, 4]),
        (some (10, true), some 17, O.ld (CK.int IntKind.i64) (Opd.t 16), [10, 4]),
        (some (10, true), some 18, O.bin BinOp.sub (Opd.t 12) (Opd.t 17), [6, 11, 4]),
        (some (10, true), some 19, O.bin BinOp.geq (Opd.t 18) (Opd.c (AV.int IntKind.i64 32)), [12, 4]),
        (none, some 20, O.pick (Opd.t 10) (Opd.t 19) (Opd.c (AV.bool false)), [4, 13])]
def o37_0 : List (Nat × Bool) := [(0, false), (1, false), (2, false), (3, false), (4, false), (5, false), (6, false), (7, false), (8, false), (9, false), (10, false), (11, false), (12, false), (13, false), (14, false)]
def l37_0 : List (Nat × Bool × It) :=
  [(0, false, (none, some 6, O.fad 1 (Opd.t 2), [])),
   (1, false, (none, some 7, O.ld CK.any (Opd.t 6), [0])),
   (2, false, (none, some 8, O.len false (Opd.t 7), [1])),
   (3, false, (none, some 9, O.bin BinOp.gtr (Opd.t 8) (Opd.c (AV.int IntKind.i64 0)), [2])),
   (4, false, (none, some 10, O.mv (Opd.t 9), [3])),
   (5, false, (some (10, true), some 11, O.fad 0 (Opd.t 2), [4])),
   (6, false, (some (10, true), some 12, O.ld (CK.int IntKind.i64) (Opd.t 11), [5, 4])),
   (7, false, (some (10, true), some 13, O.fad 1 (Opd.t 2), [4])),
   (8, false, (some (10, true), some 14, O.ld CK.any (Opd.t 13), [7, 4])),
   (9, false, (some (10, true), some 15, O.iad 2 (Opd.t 14) (Opd.c (AV.int IntKind.i64 0)), [8, 4])),
   (10, false, (some (10, true), some 16, O.fad 0 (Opd.t 15), [9, 4])),
   (11, false, (some (10, true), some 17, O.ld (CK.int IntKind.i64) (Opd.t 16), [10, 4])),
   (12, false, (some (10, true), some 18, O.bin BinOp.sub (Opd.t 12) (Opd.t 17), [6, 11, 4])),
   (13, false, (some (10, true), some 19, O.bin BinOp.geq (Opd.t 18) (Opd.c (AV.int IntKind.i64 32)), [12, 4])),
   (14, false, (none, some 20, O.pick (Opd.t 10) (Opd.t 19) (Opd.c (AV.bool false)), [4, 13]))]
theorem l37_0_ok : okDraw d37_0 o37_0 = true ∧ mkL d37_0 o37_0 = some l37_0 := ⟨by kernel_rfl, by kernel_rfl⟩

def d37_1 : List It :=
  [(none, some 22, O.fad 0 (Opd.t 2), []), (none, some 23, O.ld (CK.int IntKind.i64) (Opd.t 22), [0]),
        (none, some 24, O.bin BinOp.add (Opd.t 23) (Opd.c (AV.int IntKind.i64 1)), [1]),
        (none, some 25, O.bsl 2 [AV.int IntKind.i64 0, AV.str []] 0 [], []),
        (none, some 26, O.fad 1 (Opd.t 2), []), (none, some 27, O.ld CK.any (Opd.t 26), [4]),
        (none, some 28, O.app 2 (Opd.t 25) (Opd.t 27), [3, 5]), (none, some 29, O.fad 0 (Opd.t 2), []),
        (none, some 30, O.ld (CK.int IntKind.i64) (Opd.t 29), [7]), (none, some 31, O.mv (Opd.t 1), []),
        (none, some 32, O.build [AV.int IntKind.i64 0, AV.str []] [(0, 1, Opd.t 30), (1, 1, Opd.t 31)],
          [8, 9]),
        (none, some 33, O.bsl 2 [AV.int IntKind.i64 0, AV.str []] 1 [(0, Opd.t 32)], [10]),
        (none, some 34, O.app 2 (Opd.t 28) (Opd.t 33), [6, 11, 6]),
        (none, some 35, O.build [AV.int IntKind.i64 0, AV.nilsl] [(0, 1, Opd.t 24), (1, 1, Opd.t 34)],
          [2, 12]),
        (none, none, O.st 2 (Opd.t 4) (Opd.t 35), [13, 12, 0, 1, 2, 3, 4, 5, 6, 7, 8, 9, 10, 11, 12, 13]),
        (none, some 5, O.mv (Opd.c (AV.bool true)), [14, 0, 1, 2, 3, 4, 5, 6, 7, 8, 9, 10, 11, 12, 13, 14])]
def o37_1 : List (Nat × Bool) := [(0, false), (1, false), (2, false), (3, false), (4, false), (5, false), (7, false), (8, false), (9, false), (10, false), (11, false), (6, true), (12, true), (13, false), (14, true), (15, false)]
def l37_1 : List (Nat × Bool × It) :=
  [(0, false, (none, some 22, O.fad 0 (Opd.t 2), [])),
   (1, false, (none, some 23, O.ld (CK.int IntKind.i64) (Opd.t 22), [0])),
   (2, false, (none, some 24, O.bin BinOp.add (Opd.t 23) (Opd.c (AV.int IntKind.i64 1)), [1])),
   (3, false, (none, some 25, O.bsl 2 [AV.int IntKind.i64 0, AV.str []] 0 [], [])),
   (4, false, (none, some 26, O.fad 1 (Opd.t 2), [])),
   (5, false, (none, some 27, O.ld CK.any (Opd.t 26), [4])),
   (7, false, (none, some 29, O.fad 0 (Opd.t 2), [])),
   (8, false, (none, some 30, O.ld (CK.int IntKind.i64) (Opd.t 29), [7])),
   (9, false, (none, some 31, O.mv (Opd.t 1), [])),
   (10, false, (none, some 32, O.build [AV.int IntKind.i64 0, AV.str []] [(0, 1, Opd.t 30), (1, 1, Opd.t 31)],
          [8, 9])),
   (11, false, (none, some 33, O.bsl 2 [AV.int IntKind.i64 0, AV.str []] 1 [(0, Opd.t 32)], [10])),
   (6, true, (none, some 28, O.app 2 (Opd.t 25) (Opd.t 27), [3, 5])),
   (12, true, (none, some 34, O.app 2 (Opd.t 28) (Opd.t 33), [6, 11, 6])),
   (13, false, (none, some 35, O.build [AV.int IntKind.i64 0, AV.nilsl] [(0, 1, Opd.t 24), (1, 1, Opd.t 34)],
          [2, 12])),
   (14, true, (none, none, O.st 2 (Opd.t 4) (Opd.t 35), [13, 12, 0, 1, 2, 3, 4, 5, 6, 7, 8, 9, 10, 11, 12, 13])),
   (15, false, (none, some 5, O.mv (Opd.c (AV.bool true)), [14, 0, 1, 2, 3, 4, 5, 6, 7, 8, 9, 10, 11, 12, 13, 14]))]
theorem l37_1_ok : okDraw d37_1 o37_1 = true ∧ mkL d37_1 o37_1 = some l37_1 := ⟨by kernel_rfl, by kernel_rfl⟩

def c37 : List C :=
  [C.op none (some 2) (O.box (Opd.t 0)), C.op none (some 4) (O.alloc [AV.int IntKind.i64 0, AV.nilsl]),
    C.op none (some 5) (O.mv (Opd.c (AV.bool false))),
    C.draw d37_0,
    C.cond (Opd.t 20)
      [C.op none (some 21) (O.ldn [CK.int IntKind.i64, CK.any] (Opd.t 2)), C.op none none (O.st 2 (Opd.t 4) (Opd.t 21)),
        C.op none (some 5) (O.mv (Opd.c (AV.bool false))), C.ret]
      [],
    C.draw d37_1,
    C.ret]
def r37 : List RV := [RV.cn 4 2, RV.t 5]
theorem c37_ok : cC Try.prog Try.f37.ntmps (Try.f37.body.getD .skip) = some c37 := by kernel_rfl

def c38 : List C :=
  [C.op none (some 3) (O.box (Opd.t 0)), C.op none (some 6) (O.alloc [AV.int IntKind.i64 0, AV.nilsl]),
    C.op none (some 7) (O.mv (Opd.c AV.nilsl)), C.op none (some 12) (O.mv (Opd.t 1)),
    C.op none (some 13) (O.fad 0 (Opd.t 3)), C.op none (some 14) (O.ld (CK.int IntKind.i64) (Opd.t 13)),
    C.op none (some 15) (O.bin BinOp.gtr (Opd.t 12) (Opd.t 14)),
    C.cond (Opd.t 15)
      [C.op none (some 16) (O.ldn [CK.int IntKind.i64, CK.any] (Opd.t 3)), C.op none none (O.st 2 (Opd.t 6) (Opd.t 16)),
        C.op none (some 7) (O.mv (Opd.c AV.nilsl)), C.ret]
      [],
    C.op none (some 17) (O.fad 0 (Opd.t 3)), C.op none (some 18) (O.ld (CK.int IntKind.i64) (Opd.t 17)),
    C.op none (some 19) (O.build [AV.int IntKind.i64 0, AV.nilsl] [(0, 1, Opd.t 18)]),
    C.op none (some 8) (O.alloc [AV.int IntKind.i64 0, AV.nilsl]),
    C.op none none (O.st 2 (Opd.t 8) (Opd.t 19)), C.op none (some 20) (O.bsl 1 [AV.int IntKind.i64 0] 0 []),
    C.op none (some 9) (O.mv (Opd.t 20)), C.op none (some 21) (O.fad 1 (Opd.t 3)),
    C.op none (some 22) (O.ld CK.any (Opd.t 21)), C.op none (some 23) (O.len false (Opd.t 22)),
    C.op none (some 24) (O.mv (Opd.c (AV.int IntKind.i64 0))),
    C.blk 0
      [C.loop
          [C.op none (some 25) (O.bin BinOp.lss (Opd.t 24) (Opd.t 23)), C.cond (Opd.t 25) [] [C.exit 0],
            C.blk 1
              [C.op none (some 26) (O.iad 2 (Opd.t 22) (Opd.t 24)),
                C.op none (some 27) (O.ldn [CK.int IntKind.i64, CK.str] (Opd.t 26)),
                C.op none (some 11) (O.alloc [AV.int IntKind.i64 0, AV.str []]),
                C.op none none (O.st 2 (Opd.t 11) (Opd.t 27)), C.op none (some 28) (O.mv (Opd.t 1)),
                C.op none (some 29) (O.mv (Opd.t 2)), C.op none (some 30) (O.fad 0 (Opd.t 11)),
                C.op none (some 31) (O.ld (CK.int IntKind.i64) (Opd.t 30)),
                C.op none (some 32) (O.call 46 [Opd.t 28, Opd.t 29, Opd.t 31]),
                C.cond (Opd.t 32)
                  [C.op none (some 33) (O.mv (Opd.t 9)), C.op none (some 34) (O.fad 0 (Opd.t 11)),
                    C.op none (some 35) (O.ld (CK.int IntKind.i64) (Opd.t 34)),
                    C.op none (some 36) (O.bsl 1 [AV.int IntKind.i64 0] 1 [(0, Opd.t 35)]),
                    C.op none (some 37) (O.app 1 (Opd.t 33) (Opd.t 36)), C.op none (some 9) (O.mv (Opd.t 37))]
                  [C.op none (some 38) (O.fad 1 (Opd.t 8)), C.op none (some 39) (O.ld CK.any (Opd.t 38)),
                    C.op none (some 40) (O.ldn [CK.int IntKind.i64, CK.str] (Opd.t 11)),
                    C.op none (some 41) (O.bsl 2 [AV.int IntKind.i64 0, AV.str []] 1 [(0, Opd.t 40)]),
                    C.op none (some 42) (O.app 2 (Opd.t 39) (Opd.t 41)), C.op none (some 43) (O.fad 1 (Opd.t 8)),
                    C.op none none (O.st 1 (Opd.t 43) (Opd.t 42))]],
            C.op none (some 44) (O.bin BinOp.add (Opd.t 24) (Opd.c (AV.int IntKind.i64 1))),
            C.op none (some 24) (O.mv (Opd.t 44))]],
    C.op none (some 45) (O.ldn [CK.int IntKind.i64, CK.any] (Opd.t 8)), C.op none (some 46) (O.mv (Opd.t 9)),
    C.op none none (O.st 2 (Opd.t 6) (Opd.t 45)), C.op none (some 7) (O.mv (Opd.t 46)), C.ret]
def r38 : List RV := [RV.cn 6 2, RV.t 7]
theorem c38_ok : cC Try.prog Try.f38.ntmps (Try.f38.body.getD .skip) = some c38 := by kernel_rfl

def c39 : List C :=
  [C.op none (some 2) (O.mv (Opd.c (AV.int IntKind.u32 0))), C.op none (some 3) (O.mv (Opd.t 0)),
    C.op none (some 4) (O.nck (Opd.t 3)), C.op none (some 5) (O.fad 0 (Opd.t 4)),
    C.op none (some 6) (O.ld (CK.int IntKind.u32) (Opd.t 5)), C.op none (some 2) (O.mv (Opd.t 6)), C.ret]
def r39 : List RV := [RV.t 2]
theorem c39_ok : cC Try.prog Try.f39.ntmps (Try.f39.body.getD .skip) = some c39 := by kernel_rfl

def c40 : List C :=
  [C.op none (some 3) (O.box (Opd.t 0)), C.op none (some 4) (O.mv (Opd.c (AV.bool false))),
    C.op none (some 10) (O.ld CK.any (Opd.t 1)), C.op none (some 11) (O.ldn [CK.int IntKind.u32, CK.str] (Opd.t 3)),
    C.op none (some 12) (O.call 27 [Opd.t 10, Opd.t 11]), C.op none (some 9) (O.mv (Opd.t 12)),
    C.op none (some 13) (O.ext (Opd.t 9) 0), C.op none (some 14) (O.ext (Opd.t 9) 1),
    C.op none (some 5) (O.mv (Opd.t 13)), C.op none (some 6) (O.mv (Opd.t 14)), C.op none (some 15) (O.mv (Opd.t 5)),
    C.op none (some 16) (O.len false (Opd.t 15)), C.op none (some 17) (O.mv (Opd.c (AV.int IntKind.i64 0))),
    C.blk 0
      [C.loop
          [C.op none (some 18) (O.bin BinOp.lss (Opd.t 17) (Opd.t 16)), C.cond (Opd.t 18) [] [C.exit 0],
            C.blk 1
              [C.op none (some 19) (O.iad 1 (Opd.t 15) (Opd.t 17)), C.op none (some 20) (O.ld CK.str (Opd.t 19)),
                C.op none (some 8) (O.mv (Opd.t 20)), C.op none (some 21) (O.mv (Opd.t 8)),
                C.op none (some 22) (O.ld (CK.int IntKind.i64) (Opd.t 2)),
                C.op none (some 23) (O.cvi IntKind.u8 (Opd.t 22)),
                C.op none (some 24) (O.bsl 1 [AV.int IntKind.u8 0] 1 [(0, Opd.t 23)]),
                C.op none (some 25) (O.cvb (Opd.t 24)), C.op none (some 26) (O.bin BinOp.neq (Opd.t 21) (Opd.t 25)),
                C.cond (Opd.t 26) [C.op none (some 4) (O.mv (Opd.c (AV.bool false))), C.ret] [],
                C.op none (some 27) (O.ld (CK.int IntKind.i64) (Opd.t 2)),
                C.op none (some 28) (O.bin BinOp.add (Opd.t 27) (Opd.c (AV.int IntKind.i64 1))),
                C.op none none (O.st 1 (Opd.t 2) (Opd.t 28))],
            C.op none (some 29) (O.bin BinOp.add (Opd.t 17) (Opd.c (AV.int IntKind.i64 1))),
            C.op none (some 17) (O.mv (Opd.t 29))]],
    C.op none (some 4) (O.mv (Opd.c (AV.bool true))), C.ret]
def r40 : List RV := [RV.t 4]
theorem c40_ok : cC Try.prog Try.f40.ntmps (Try.f40.body.getD .skip) = some c40 := by kernel_rfl

def c41 : List C :=
  [C.op none (some 4) (O.mv (Opd.c (AV.int IntKind.i64 0))), C.op none (some 7) (O.mv (Opd.t 0)),
    C.op none (some 8) (O.len false (Opd.t 7)), C.op none (some 9) (O.mv (Opd.c (AV.int IntKind.i64 0))),
    C.blk 0
      [C.loop
          [C.op none (some 10) (O.bin BinOp.lss (Opd.t 9) (Opd.t 8)), C.cond (Opd.t 10) [] [C.exit 0],
            C.blk 1
              [C.op none (some 11) (O.mv (Opd.t 9)), C.op none (some 12) (O.iad 2 (Opd.t 7) (Opd.t 9)),
                C.op none (some 13) (O.ldn [CK.int IntKind.i64, CK.str] (Opd.t 12)),
                C.op none (some 6) (O.alloc [AV.int IntKind.i64 0, AV.str []]),
                C.op none (some 5) (O.mv (Opd.t 11)), C.op none none (O.st 2 (Opd.t 6) (Opd.t 13)),
                C.op none (some 14) (O.fad 0 (Opd.t 6)), C.op none (some 15) (O.ld (CK.int IntKind.i64) (Opd.t 14)),
                C.op none (some 16) (O.mv (Opd.t 1)), C.op none (some 17) (O.bin BinOp.eql (Opd.t 15) (Opd.t 16)),
                C.cond (Opd.t 17) [C.op none (some 18) (O.mv (Opd.t 5)), C.op none (some 4) (O.mv (Opd.t 18)), C.ret]
                  []],
            C.op none (some 19) (O.bin BinOp.add (Opd.t 9) (Opd.c (AV.int IntKind.i64 1))),
            C.op none (some 9) (O.mv (Opd.t 19))]],
    C.op none (some 4) (O.mv (Opd.c (AV.int IntKind.i64 (-1)))), C.ret]
def r41 : List RV := [RV.t 4]
theorem c41_ok : cC Try.prog Try.f41.ntmps (Try.f41.body.getD .skip) = some c41 := by kernel_rfl

def d42_0 : List It :=
  [(none, some 3, O.mv (Opd.t 0), []), (none, some 4, O.nck (Opd.t 3), [0]), (none, some 5, O.fad 1 (Opd.t 4), [1]),
        (none, some 6, O.ld CK.any (Opd.t 5), [2]), (none, some 7, O.len false (Opd.t 6), [3]),
        (none, some 8, O.bin BinOp.eql (Opd.t 7) (Opd.c (AV.int IntKind.i64 0)), [4]),
        (none, some 9, O.mv (Opd.t 8), [5]), (some (9, false), some 10, O.mv (Opd.t 0), [6]),
        (some (9, false), some 11, O.nck (Opd.t 10), [7, 6]), (some (9, false), some 12, O.fad 0 (Opd.t 11), [8, 6]),
        (some (9, false), some 13, O.ld (CK.int IntKind.u32) (Opd.t 12), [9, 6]),
        (some (9, false), some 14, O.mv (Opd.t 0), [6]), (some (9, false), some 15, O.nck (Opd.t 14), [11, 6]),
        (some (9, false), some 16, O.fad 1 (Opd.t 15), [12, 6]),
        (some (9, false), some 17, O.ld CK.any (Opd.t 16), [13, 6]),
        (some (9, false), some 18, O.iad 2 (Opd.t 17) (Opd.c (AV.int IntKind.i64 0)), [14, 6]),
        (some (9, false), some 19, O.fad 0 (Opd.t 18), [15, 6]),
        (some (9, false), some 20, O.ld (CK.int IntKind.u32) (Opd.t 19), [16, 6]),
        (some (9, false), some 21, O.bin BinOp.sub (Opd.t 13) (Opd.t 20), [10, 17, 6]),
        (some (9, false), some 22, O.bin BinOp.lss (Opd.t 21) (Opd.c (AV.int IntKind.u32 32)), [18, 6]),
        (none, some 23, O.pick (Opd.t 9) (Opd.c (AV.bool true)) (Opd.t 22), [6, 19]),
        (none, some 2, O.mv (Opd.t 23),
          [20, 6, 0, 1, 2, 3, 4, 5, 6, 7, 8, 9, 10, 11, 12, 13, 14, 15, 16, 17, 18, 19, 20])]
def o42_0 : List (Nat × Bool) := [(0, false), (1, false), (2, false), (3, false), (4, false), (5, false), (6, false), (7, false), (8, false), (9, false), (10, false), (11, false), (12, false), (13, false), (14, false), (15, false), (16, false), (17, false), (18, false), (19, false), (20, false), (21, false)]
def l42_0 : List (Nat × Bool × It) :=
  [(0, false, (none, some 3, O.mv (Opd.t 0), [])),
   (1, false, (none, some 4, O.nck (Opd.t 3), [0])),
   (2, false, (none, some 5, O.fad 1 (Opd.t 4), [1])),
   (3, false, (none, some 6, O.ld CK.any (Opd.t 5), [2])),
   (4, false, (none, some 7, O.len false (Opd.t 6), [3])),
   (5, false, (none, some 8, O.bin BinOp.eql (Opd.t 7) (Opd.c (AV.int IntKind.i64 0)), [4])),
   (6, false, (none, some 9, O.mv (Opd.t 8), [5])),
   (7, false, (some (9, false), some 10, O.mv (Opd.t 0), [6])),
   (8, false, (some (9, false), some 11, O.nck (Opd.t 10), [7, 6])),
   (9, false, (some (9, false), some 12, O.fad 0 (Opd.t 11), [8, 6])),
   (10, false, (some (9, false), some 13, O.ld (CK.int IntKind.u32) (Opd.t 12), [9, 6])),
   (11, false, (some (9, false), some 14, O.mv (Opd.t 0), [6])),
   (12, false, (some (9, false), some 15, O.nck (Opd.t 14), [11, 6])),
   (13, false, (some (9, false), some 16, O.fad 1 (Opd.t 15), [12, 6])),
   (14, false, (some (9, false), some 17, O.ld CK.any (Opd.t 16), [13, 6])),
   (15, false, (some (9, false), some 18, O.iad 2 (Opd.t 17) (Opd.c (AV.int IntKind.i64 0)), [14, 6])),
   (16, false, (some (9, false), some 19, O.fad 0 (Opd.t 18), [15, 6])),
   (17, false, (some (9, false), some 20, O.ld (CK.int IntKind.u32) (Opd.t 19), [16, 6])),
   (18, false, (some (9, false), some 21, O.bin BinOp.sub (Opd.t 13) (Opd.t 20), [10, 17, 6])),
   (19, false, (some (9, false), some 22, O.bin BinOp.lss (Opd.t 21) (Opd.c (AV.int IntKind.u32 32)), [18, 6])),
   (20, false, (none, some 23, O.pick (Opd.t 9) (Opd.c (AV.bool true)) (Opd.t 22), [6, 19])),
   (21, false, (none, some 2, O.mv (Opd.t 23),
          [20, 6, 0, 1, 2, 3, 4, 5, 6, 7, 8, 9, 10, 11, 12, 13, 14, 15, 16, 17, 18, 19, 20]))]
theorem l42_0_ok : okDraw d42_0 o42_0 = true ∧ mkL d42_0 o42_0 = some l42_0 := ⟨by kernel_rfl, by kernel_rfl⟩

def c42 : List C :=
  [C.op none (some 2) (O.mv (Opd.c (AV.bool false))),
    C.draw d42_0,
    C.ret]
def r42 : List RV := [RV.t 2]
theorem c42_ok : cC Try.prog Try.f42.ntmps (Try.f42.body.getD .skip) = some c42 := by kernel_rfl

def c43 : List C :=
  [C.op none (some 4) (O.mv (Opd.c AV.nilsl)), C.op none (some 8) (O.mv (Opd.t 0)), C.op none (some 9) (O.mv (Opd.t 1)),
    C.op none (some 10) (O.call 47 [Opd.t 8, Opd.t 9]), C.op none (some 5) (O.mv (Opd.t 10)),
    C.op none (some 11) (O.mv (Opd.t 5)),
    C.op none (some 12) (O.bin BinOp.eql (Opd.t 11) (Opd.c (AV.int IntKind.i64 (-1)))),
    C.cond (Opd.t 12) [C.op none (some 13) (O.mv (Opd.t 0)), C.op none (some 4) (O.mv (Opd.t 13)), C.ret] [],
    C.op none (some 14) (O.mv (Opd.t 5)),
    C.op none (some 15) (O.bin BinOp.add (Opd.t 14) (Opd.c (AV.int IntKind.i64 1))),
    C.op none (some 6) (O.mv (Opd.t 15)),
    C.blk 0
      [C.loop
          [C.op none (some 16) (O.mv (Opd.t 6)), C.op none (some 17) (O.mv (Opd.t 0)),
            C.op none (some 18) (O.len false (Opd.t 17)), C.op none (some 19) (O.bin BinOp.lss (Opd.t 16) (Opd.t 18)),
            C.cond (Opd.t 19) [] [C.exit 0],
            C.blk 1
              [C.op none (some 22) (O.mv (Opd.t 0)), C.op none (some 23) (O.mv (Opd.t 6)),
                C.op none (some 24) (O.iad 2 (Opd.t 22) (Opd.t 23)),
                C.op none (some 25) (O.ldn [CK.int IntKind.u32, CK.str] (Opd.t 24)),
                C.op none (some 7) (O.alloc [AV.int IntKind.u32 0, AV.str []]),
                C.op none none (O.st 2 (Opd.t 7) (Opd.t 25)), C.op none (some 26) (O.mv (Opd.t 1)),
                C.op none (some 27) (O.ldn [CK.int IntKind.u32, CK.str] (Opd.t 7)),
                C.op none (some 28) (O.callv (Opd.t 26) [Opd.t 27]), C.op none (some 29) (O.un UnOp.not (Opd.t 28)),
                C.cond (Opd.t 29)
                  [C.op none (some 30) (O.mv (Opd.t 0)), C.op none (some 31) (O.mv (Opd.t 5)),
                    C.op none (some 32) (O.ldn [CK.int IntKind.u32, CK.str] (Opd.t 7)),
                    C.op none (some 33) (O.iad 2 (Opd.t 30) (Opd.t 31)), C.op none none (O.st 2 (Opd.t 33) (Opd.t 32)),
                    C.op none (some 34) (O.mv (Opd.t 5)),
                    C.op none (some 35) (O.bin BinOp.add (Opd.t 34) (Opd.c (AV.int IntKind.i64 1))),
                    C.op none (some 5) (O.mv (Opd.t 35))]
                  []],
            C.op none (some 20) (O.mv (Opd.t 6)),
            C.op none (some 21) (O.bin BinOp.add (Opd.t 20) (Opd.c (AV.int IntKind.i64 1))),
            C.op none (some 6) (O.mv (Opd.t 21))]],
    C.op none (some 36) (O.mv (Opd.t 0)), C.op none (some 37) (O.mv (Opd.t 5)),
    C.op none (some 38) (O.lsl 2 (Opd.t 36) (some (Opd.t 37)) none none),
    C.op none none (O.clr 2 [AV.int IntKind.u32 0, AV.str []] (Opd.t 38)),
    C.op none (some 39) (O.mv (Opd.t 0)), C.op none (some 40) (O.mv (Opd.t 5)),
    C.op none (some 41) (O.lsl 2 (Opd.t 39) none (some (Opd.t 40)) none), C.op none (some 4) (O.mv (Opd.t 41)), C.ret]
def r43 : List RV := [RV.t 4]
theorem c43_ok : cC Try.prog Try.f43.ntmps (Try.f43.body.getD .skip) = some c43 := by kernel_rfl

def c44 : List C :=
  [C.op none (some 2) (O.mv (Opd.c AV.nilsl)), C.op none (some 3) (O.mv (Opd.t 0)),
    C.op none (some 4) (O.eqn false (Opd.t 3)), C.cond (Opd.t 4) [C.op none (some 2) (O.mv (Opd.c AV.nilsl)), C.ret] [],
    C.op none (some 5) (O.bsl 2 [AV.int IntKind.u32 0, AV.str []] 0 []),
    C.op none (some 6) (O.mv (Opd.t 0)), C.op none (some 7) (O.app 2 (Opd.t 5) (Opd.t 6)),
    C.op none (some 2) (O.mv (Opd.t 7)), C.ret]
def r44 : List RV := [RV.t 2]
theorem c44_ok : cC Try.prog Try.f44.ntmps (Try.f44.body.getD .skip) = some c44 := by kernel_rfl

def c45 : List C :=
  [C.op none (some 3) (O.box (Opd.t 0)), C.op none (some 4) (O.mv (Opd.c (AV.bool false))),
    C.op none (some 5) (O.ldn [CK.int IntKind.u32, CK.int IntKind.u32] (Opd.t 1)),
    C.op none (some 6) (O.fad 0 (Opd.t 3)), C.op none (some 7) (O.ld (CK.int IntKind.u32) (Opd.t 6)),
    C.op none (some 8) (O.call 25 [Opd.t 5, Opd.t 7]),
    C.cond (Opd.t 8)
      [C.op none (some 9) (O.ld CK.any (Opd.t 2)), C.op none (some 10) (O.fad 0 (Opd.t 3)),
        C.op none (some 11) (O.ld (CK.int IntKind.u32) (Opd.t 10)),
        C.op none (some 12) (O.bsl 1 [AV.int IntKind.u32 0] 1 [(0, Opd.t 11)]),
        C.op none (some 13) (O.app 1 (Opd.t 9) (Opd.t 12)), C.op none none (O.st 1 (Opd.t 2) (Opd.t 13)),
        C.op none (some 4) (O.mv (Opd.c (AV.bool true))), C.ret]
      [],
    C.op none (some 4) (O.mv (Opd.c (AV.bool false))), C.ret]
def r45 : List RV := [RV.t 4]
theorem c45_ok : cC Try.prog Try.f45.ntmps (Try.f45.body.getD .skip) = some c45 := by kernel_rfl

def c46 : List C :=
  [C.op none (some 6) (O.mv (Opd.c (AV.bool false))), C.op none (some 10) (O.mv (Opd.t 2)),
    C.op none (some 11) (O.mv (Opd.t 0)), C.op none (some 12) (O.bin BinOp.lss (Opd.t 10) (Opd.t 11)),
    C.cond (Opd.t 12) [C.op none (some 6) (O.mv (Opd.c (AV.bool true))), C.ret] [],
    C.op none (some 13) (O.mv (Opd.t 2)), C.op none (some 14) (O.mv (Opd.t 0)),
    C.op none (some 15) (O.bin BinOp.sub (Opd.t 13) (Opd.t 14)),
    C.op none (some 16) (O.bin BinOp.sub (Opd.t 15) (Opd.c (AV.int IntKind.i64 1))),
    C.op none (some 7) (O.mv (Opd.t 16)), C.op none (some 17) (O.mv (Opd.t 7)),
    C.op none (some 18) (O.bin BinOp.lss (Opd.t 17) (Opd.c (AV.int IntKind.i64 0))),
    C.op none (some 19) (O.mv (Opd.t 18)), C.op (some (19, false)) (some 20) (O.mv (Opd.t 7)),
    C.op (some (19, false)) (some 21) (O.bin BinOp.gtr (Opd.t 20) (Opd.c (AV.int IntKind.i64 31))),
    C.op none (some 22) (O.pick (Opd.t 19) (Opd.c (AV.bool true)) (Opd.t 21)),
    C.cond (Opd.t 22) [C.op none (some 6) (O.mv (Opd.c (AV.bool false))), C.ret] [],
    C.op none (some 23) (O.mv (Opd.t 1)), C.op none (some 8) (O.mv (Opd.t 23)),
    C.op none (some 9) (O.mv (Opd.c (AV.int IntKind.i64 0))),
    C.blk 0
      [C.loop
          [C.op none (some 24) (O.mv (Opd.t 9)), C.op none (some 25) (O.mv (Opd.t 7)),
            C.op none (some 26) (O.bin BinOp.lss (Opd.t 24) (Opd.t 25)), C.cond (Opd.t 26) [] [C.exit 0],
            C.blk 1
              [C.op none (some 29) (O.mv (Opd.t 8)),
                C.op none (some 30) (O.bin BinOp.quo (Opd.t 29) (Opd.c (AV.int IntKind.u32 2))),
                C.op none (some 8) (O.mv (Opd.t 30))],
            C.op none (some 27) (O.mv (Opd.t 9)),
            C.op none (some 28) (O.bin BinOp.add (Opd.t 27) (Opd.c (AV.int IntKind.i64 1))),
            C.op none (some 9) (O.mv (Opd.t 28))]],
    C.op none (some 31) (O.mv (Opd.t 8)),
    C.op none (some 32) (O.bin BinOp.rem (Opd.t 31) (Opd.c (AV.int IntKind.u32 2))),
    C.op none (some 33) (O.bin BinOp.eql (Opd.t 32) (Opd.c (AV.int IntKind.u32 1))),
    C.op none (some 6) (O.mv (Opd.t 33)), C.ret]
def r46 : List RV := [RV.t 6]
theorem c46_ok : cC Try.prog Try.f46.ntmps (Try.f46.body.getD .skip) = some c46 := by kernel_rfl

def c47 : List C :=
  [C.op none (some 4) (O.mv (Opd.c (AV.int IntKind.i64 0))), C.op none (some 6) (O.mv (Opd.t 0)),
    C.op none (some 7) (O.len false (Opd.t 6)), C.op none (some 8) (O.mv (Opd.c (AV.int IntKind.i64 0))),
    C.blk 0
      [C.loop
          [C.op none (some 9) (O.bin BinOp.lss (Opd.t 8) (Opd.t 7)), C.cond (Opd.t 9) [] [C.exit 0],
            C.blk 1
              [C.op none (some 10) (O.mv (Opd.t 8)), C.op none (some 5) (O.mv (Opd.t 10)),
                C.op none (some 11) (O.mv (Opd.t 1)), C.op none (some 12) (O.mv (Opd.t 0)),
                C.op none (some 13) (O.mv (Opd.t 5)), C.op none (some 14) (O.iad 2 (Opd.t 12) (Opd.t 13)),
                C.op none (some 15) (O.ldn [CK.int IntKind.u32, CK.str] (Opd.t 14)),
                C.op none (some 16) (O.callv (Opd.t 11) [Opd.t 15]),
                C.cond (Opd.t 16) [C.op none (some 17) (O.mv (Opd.t 5)), C.op none (some 4) (O.mv (Opd.t 17)), C.ret]
                  []],
            C.op none (some 18) (O.bin BinOp.add (Opd.t 8) (Opd.c (AV.int IntKind.i64 1))),
            C.op none (some 8) (O.mv (Opd.t 18))]],
    C.op none (some 4) (O.mv (Opd.c (AV.int IntKind.i64 (-1)))), C.ret]
def r47 : List RV := [RV.t 4]
theorem c47_ok : cC Try.prog Try.f47.ntmps (Try.f47.body.getD .skip) = some c47 := by kernel_rfl

end Go.AEX
