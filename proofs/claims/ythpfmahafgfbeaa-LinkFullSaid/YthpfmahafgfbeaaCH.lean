/- Compact codes, printed by gen.py from the given form; each is checked by its theorem. -/
import Derived.Test.YthpfmahafgfbeaaAEzh
import Derived.Test.YthpfmahafgfbeaaProg
import Derived.KernelRfl
namespace Go.AEX
open Go Go.AE Go.Proofs
set_option maxRecDepth 100000

def d4_0 : List It :=
  [(none, some 96, O.mv (Opd.t 5), []), (none, some 97, O.nck (Opd.t 96), [0]),
        (none, some 98, O.fad 0 (Opd.t 97), [1]),
        (none, some 99, O.iaa 2 (Opd.t 98) (Opd.c (AV.int IntKind.i64 0)), [2]),
        (none, some 100, O.ld CK.any (Opd.t 99), [3]),
        (none, some 101,
          O.mksl 1 [AV.int IntKind.u8 0] 1 (Opd.c (AV.int IntKind.i64 65537))
            (Opd.c (AV.int IntKind.i64 65537)),
          []),
        (none, some 102, O.cvb (Opd.t 101), [5]), (none, some 103, O.call 14 [Opd.t 100, Opd.t 102], [4, 6]),
        (none, some 104, O.bin BinOp.eql (Opd.t 103) (Opd.c (AV.int IntKind.i64 3)), [7]),
        (none, some 105, O.mv (Opd.t 104), [8, 7]), (some (105, true), some 106, O.mv (Opd.t 5), [9]),
        (some (105, true), some 107, O.nck (Opd.t 106), [10, 9]),
        (some (105, true), some 108, O.fad 0 (Opd.t 107), [11, 9]),
        (some (105, true), some 109, O.iaa 2 (Opd.t 108) (Opd.c (AV.int IntKind.i64 0)), [12, 9]),
        (some (105, true), some 110, O.ld CK.any (Opd.t 109), [13, 9]),
        (some (105, true), some 111, O.call 13 [Opd.t 110], [14, 9, 9]),
        (some (105, true), some 112, O.mv (Opd.t 12), [9]),
        (some (105, true), some 113, O.bin BinOp.eql (Opd.t 111) (Opd.t 112), [15, 16, 9]),
        (none, some 114, O.pick (Opd.t 105) (Opd.t 113) (Opd.c (AV.bool false)), [9, 17]),
        (none, some 4, O.mv (Opd.t 114), [18, 15, 0, 1, 2, 3, 4, 5, 6, 7, 8, 9, 10, 11, 12, 13, 14, 15, 16, 17, 18])]
def o4_0 : List (Nat × Bool) := [(0, false), (1, false), (2, false), (3, false), (4, false), (5, true), (6, false), (7, true), (8, false), (9, false), (10, false), (11, false), (12, false), (13, false), (14, false), (16, false), (15, true), (17, false), (18, false), (19, false)]
def l4_0 : List (Nat × Bool × It) :=
  [(0, false, (none, some 96, O.mv (Opd.t 5), [])),
   (1, false, (none, some 97, O.nck (Opd.t 96), [0])),
   (2, false, (none, some 98, O.fad 0 (Opd.t 97), [1])),
   (3, false, (none, some 99, O.iaa 2 (Opd.t 98) (Opd.c (AV.int IntKind.i64 0)), [2])),
   (4, false, (none, some 100, O.ld CK.any (Opd.t 99), [3])),
   (5, true, (none, some 101,
          O.mksl 1 [AV.int IntKind.u8 0] 1 (Opd.c (AV.int IntKind.i64 65537))
            (Opd.c (AV.int IntKind.i64 65537)),
          [])),
   (6, false, (none, some 102, O.cvb (Opd.t 101), [5])),
   (7, true, (none, some 103, O.call 14 [Opd.t 100, Opd.t 102], [4, 6])),
   (8, false, (none, some 104, O.bin BinOp.eql (Opd.t 103) (Opd.c (AV.int IntKind.i64 3)), [7])),
   (9, false, (none, some 105, O.mv (Opd.t 104), [8, 7])),
   (10, false, (some (105, true), some 106, O.mv (Opd.t 5), [9])),
   (11, false, (some (105, true), some 107, O.nck (Opd.t 106), [10, 9])),
   (12, false, (some (105, true), some 108, O.fad 0 (Opd.t 107), [11, 9])),
   (13, false, (some (105, true), some 109, O.iaa 2 (Opd.t 108) (Opd.c (AV.int IntKind.i64 0)), [12, 9])),
   (14, false, (some (105, true), some 110, O.ld CK.any (Opd.t 109), [13, 9])),
   (16, false, (some (105, true), some 112, O.mv (Opd.t 12), [9])),
   (15, true, (some (105, true), some 111, O.call 13 [Opd.t 110], [14, 9, 9])),
   (17, false, (some (105, true), some 113, O.bin BinOp.eql (Opd.t 111) (Opd.t 112), [15, 16, 9])),
   (18, false, (none, some 114, O.pick (Opd.t 105) (Opd.t 113) (Opd.c (AV.bool false)), [9, 17])),
   (19, false, (none, some 4, O.mv (Opd.t 114), [18, 15, 0, 1, 2, 3, 4, 5, 6, 7, 8, 9, 10, 11, 12, 13, 14, 15, 16, 17, 18]))]
theorem l4_0_ok : okDraw d4_0 o4_0 = true ∧ mkL d4_0 o4_0 = some l4_0 := ⟨by kernel_rfl, by kernel_rfl⟩

def c4 : List C :=
  [C.op none (some 4) (O.mv (Opd.c (AV.bool false))), C.op none (some 14) (O.call 7 []),
    C.op none (some 13) (O.mv (Opd.t 14)), C.op none (some 15) (O.ext (Opd.t 13) 0),
    C.op none (some 16) (O.ext (Opd.t 13) 1), C.op none (some 5) (O.mv (Opd.t 15)),
    C.op none (some 6) (O.mv (Opd.t 16)), C.op none (some 17) (O.mv (Opd.t 6)),
    C.op none (some 18) (O.un UnOp.not (Opd.t 17)), C.op none (some 19) (O.mv (Opd.t 18)),
    C.op (some (19, false)) (some 20) (O.call 8 []), C.op (some (19, false)) (some 21) (O.un UnOp.not (Opd.t 20)),
    C.op none (some 22) (O.pick (Opd.t 19) (Opd.c (AV.bool true)) (Opd.t 21)),
    C.cond (Opd.t 22) [C.op none (some 4) (O.mv (Opd.c (AV.bool false))), C.ret] [],
    C.op none (some 23) (O.mv (Opd.t 1)),
    C.op none (some 24) (O.bin BinOp.and (Opd.t 23) (Opd.c (AV.int IntKind.i64 15))),
    C.op none (some 25) (O.bin BinOp.mul (Opd.c (AV.int IntKind.i64 200)) (Opd.t 24)),
    C.op none (some 26) (O.mksl 1 [AV.int IntKind.u8 0] 1 (Opd.t 25) (Opd.t 25)),
    C.op none (some 27) (O.cvb (Opd.t 26)), C.op none (some 7) (O.mv (Opd.t 27)), C.op none (some 28) (O.mv (Opd.t 1)),
    C.op none (some 29) (O.bin BinOp.and (Opd.t 28) (Opd.c (AV.int IntKind.i64 15))),
    C.op none (some 30) (O.mx [Opd.t 29, Opd.c (AV.int IntKind.i64 1)]),
    C.op none (some 8) (O.mv (Opd.t 30)), C.op none (some 31) (O.mv (Opd.t 0)),
    C.op none (some 32) (O.bin BinOp.and (Opd.t 31) (Opd.c (AV.int IntKind.i64 1023))),
    C.op none (some 33) (O.mv (Opd.c (AV.int IntKind.i64 0))),
    C.blk 0
      [C.loop
          [C.op none (some 34) (O.bin BinOp.lss (Opd.t 33) (Opd.t 32)), C.cond (Opd.t 34) [] [C.exit 0],
            C.blk 1
              [C.op none (some 35) (O.mv (Opd.t 5)), C.op none (some 36) (O.nck (Opd.t 35)),
                C.op none (some 37) (O.fad 0 (Opd.t 36)),
                C.op none (some 38) (O.iaa 2 (Opd.t 37) (Opd.c (AV.int IntKind.i64 0))),
                C.op none (some 39) (O.ld CK.any (Opd.t 38)), C.op none (some 40) (O.call 13 [Opd.t 39]),
                C.op none (some 9) (O.mv (Opd.t 40)), C.op none (some 41) (O.mv (Opd.t 5)),
                C.op none (some 42) (O.nck (Opd.t 41)), C.op none (some 43) (O.fad 0 (Opd.t 42)),
                C.op none (some 44) (O.iaa 2 (Opd.t 43) (Opd.c (AV.int IntKind.i64 0))),
                C.op none (some 45) (O.ld CK.any (Opd.t 44)), C.op none (some 46) (O.mv (Opd.t 7)),
                C.op none (some 47) (O.call 14 [Opd.t 45, Opd.t 46]), C.op none (some 10) (O.mv (Opd.t 47)),
                C.op none (some 48) (O.mv (Opd.t 9)), C.op none (some 49) (O.mv (Opd.t 8)),
                C.op none (some 50) (O.bin BinOp.add (Opd.t 48) (Opd.t 49)),
                C.op none (some 51) (O.bin BinOp.leq (Opd.t 50) (Opd.c (AV.int IntKind.i64 700))),
                C.op none (some 11) (O.mv (Opd.t 51)), C.op none (some 52) (O.mv (Opd.t 10)),
                C.op none (some 53) (O.bin BinOp.eql (Opd.t 52) (Opd.c (AV.int IntKind.i64 0))),
                C.op none (some 54) (O.mv (Opd.t 11)), C.op none (some 55) (O.eqb true (Opd.t 53) (Opd.t 54)),
                C.op none (some 56) (O.mv (Opd.t 55)), C.op (some (56, false)) (some 57) (O.mv (Opd.t 11)),
                C.op (some (56, false)) (some 58) (O.un UnOp.not (Opd.t 57)),
                C.op (some (56, false)) (some 59) (O.mv (Opd.t 58)), C.op (some (59, true)) (some 60) (O.mv (Opd.t 10)),
                C.op (some (59, true)) (some 61)
                  (O.bin BinOp.neq (Opd.t 60) (Opd.c (AV.int IntKind.i64 8))),
                C.op (some (59, true)) (some 62) (O.mv (Opd.t 61)), C.op (some (62, false)) (some 63) (O.mv (Opd.t 5)),
                C.op (some (62, false)) (some 64) (O.nck (Opd.t 63)),
                C.op (some (62, false)) (some 65) (O.fad 0 (Opd.t 64)),
                C.op (some (62, false)) (some 66) (O.iaa 2 (Opd.t 65) (Opd.c (AV.int IntKind.i64 0))),
                C.op (some (62, false)) (some 67) (O.ld CK.any (Opd.t 66)),
                C.op (some (62, false)) (some 68) (O.call 13 [Opd.t 67]),
                C.op (some (62, false)) (some 69) (O.mv (Opd.t 9)),
                C.op (some (62, false)) (some 70) (O.bin BinOp.neq (Opd.t 68) (Opd.t 69)),
                C.op (some (59, true)) (some 71) (O.pick (Opd.t 62) (Opd.c (AV.bool true)) (Opd.t 70)),
                C.op (some (56, false)) (some 72) (O.pick (Opd.t 59) (Opd.t 71) (Opd.c (AV.bool false))),
                C.op none (some 73) (O.pick (Opd.t 56) (Opd.c (AV.bool true)) (Opd.t 72)),
                C.op none (some 74) (O.mv (Opd.t 73)), C.op (some (74, false)) (some 75) (O.mv (Opd.t 11)),
                C.op (some (74, false)) (some 76) (O.mv (Opd.t 75)), C.op (some (76, true)) (some 77) (O.mv (Opd.t 5)),
                C.op (some (76, true)) (some 78) (O.nck (Opd.t 77)),
                C.op (some (76, true)) (some 79) (O.fad 0 (Opd.t 78)),
                C.op (some (76, true)) (some 80) (O.iaa 2 (Opd.t 79) (Opd.c (AV.int IntKind.i64 0))),
                C.op (some (76, true)) (some 81) (O.ld CK.any (Opd.t 80)),
                C.op (some (76, true)) (some 82) (O.call 13 [Opd.t 81]),
                C.op (some (76, true)) (some 83) (O.mv (Opd.t 9)), C.op (some (76, true)) (some 84) (O.mv (Opd.t 8)),
                C.op (some (76, true)) (some 85) (O.bin BinOp.add (Opd.t 83) (Opd.t 84)),
                C.op (some (76, true)) (some 86) (O.bin BinOp.neq (Opd.t 82) (Opd.t 85)),
                C.op (some (74, false)) (some 87) (O.pick (Opd.t 76) (Opd.t 86) (Opd.c (AV.bool false))),
                C.op none (some 88) (O.pick (Opd.t 74) (Opd.c (AV.bool true)) (Opd.t 87)),
                C.cond (Opd.t 88) [C.op none (some 4) (O.mv (Opd.c (AV.bool false))), C.ret] []],
            C.op none (some 89) (O.bin BinOp.add (Opd.t 33) (Opd.c (AV.int IntKind.i64 1))),
            C.op none (some 33) (O.mv (Opd.t 89))]],
    C.op none (some 90) (O.mv (Opd.t 5)), C.op none (some 91) (O.nck (Opd.t 90)),
    C.op none (some 92) (O.fad 0 (Opd.t 91)),
    C.op none (some 93) (O.iaa 2 (Opd.t 92) (Opd.c (AV.int IntKind.i64 0))),
    C.op none (some 94) (O.ld CK.any (Opd.t 93)), C.op none (some 95) (O.call 13 [Opd.t 94]),
    C.op none (some 12) (O.mv (Opd.t 95)),
    C.draw d4_0,
    C.ret]
def r4 : List RV := [RV.t 4]
theorem c4_ok : cC Try.prog Try.f4.ntmps (Try.f4.body.getD .skip) = some c4 := by kernel_rfl

def c7 : List C :=
  [C.op none (some 0) (O.mv (Opd.c AV.nilptr)), C.op none (some 1) (O.mv (Opd.c (AV.bool false))),
    C.op none (some 7) (O.call 21 []), C.op none (some 8) (O.call 20 [Opd.t 7]), C.op none (some 6) (O.mv (Opd.t 8)),
    C.op none (some 9) (O.ext (Opd.t 6) 0), C.op none (some 10) (O.ext (Opd.t 6) 1),
    C.op none (some 2) (O.mv (Opd.t 9)), C.op none (some 3) (O.mv (Opd.t 10)), C.op none (some 12) (O.call 21 []),
    C.op none (some 13) (O.call 20 [Opd.t 12]), C.op none (some 11) (O.mv (Opd.t 13)),
    C.op none (some 14) (O.ext (Opd.t 11) 0), C.op none (some 15) (O.ext (Opd.t 11) 1),
    C.op none (some 4) (O.mv (Opd.t 14)), C.op none (some 5) (O.mv (Opd.t 15)), C.op none (some 16) (O.mv (Opd.t 2)),
    C.op none (some 17) (O.mv (Opd.t 4)),
    C.op none (some 18) (O.build [AV.nilptr, AV.nilptr] [(0, 1, Opd.t 16), (1, 1, Opd.t 17)]),
    C.op none (some 19)
      (O.build
        [AV.nilptr, AV.nilptr, AV.nilsl, AV.nilsl, AV.nilsl, AV.nilsl, AV.nilsl, AV.nilsl,
          AV.int IntKind.i64 0]
        [(0, 2, Opd.t 18)]),
    C.op none (some 20) (O.box (Opd.t 19)), C.op none (some 21) (O.mv (Opd.t 3)),
    C.op none (some 22) (O.bin BinOp.eql (Opd.t 21) (Opd.c (AV.int IntKind.i64 0))),
    C.op none (some 23) (O.mv (Opd.t 22)), C.op (some (23, true)) (some 24) (O.mv (Opd.t 5)),
    C.op (some (23, true)) (some 25) (O.bin BinOp.eql (Opd.t 24) (Opd.c (AV.int IntKind.i64 0))),
    C.op none (some 26) (O.pick (Opd.t 23) (Opd.t 25) (Opd.c (AV.bool false))), C.op none (some 27) (O.mv (Opd.t 26)),
    C.op (some (27, true)) (some 28) (O.mv (Opd.t 2)),
    C.op (some (27, true)) (some 29) (O.eqp 0 true (Opd.t 28) (Opd.c AV.nilptr)),
    C.op none (some 30) (O.pick (Opd.t 27) (Opd.t 29) (Opd.c (AV.bool false))), C.op none (some 31) (O.mv (Opd.t 30)),
    C.op (some (31, true)) (some 32) (O.mv (Opd.t 4)),
    C.op (some (31, true)) (some 33) (O.eqp 0 true (Opd.t 32) (Opd.c AV.nilptr)),
    C.op none (some 34) (O.pick (Opd.t 31) (Opd.t 33) (Opd.c (AV.bool false))), C.op none (some 0) (O.mv (Opd.t 20)),
    C.op none (some 1) (O.mv (Opd.t 34)), C.ret]
def r7 : List RV := [RV.t 0, RV.t 1]
theorem c7_ok : cC Try.prog Try.f7.ntmps (Try.f7.body.getD .skip) = some c7 := by kernel_rfl

def d8_0 : List It :=
  [(none, some 34, O.mv (Opd.t 1), []), (none, some 35, O.nck (Opd.t 34), [0]),
        (none, some 36, O.fad 0 (Opd.t 35), [1]),
        (none, some 37, O.iaa 2 (Opd.t 36) (Opd.c (AV.int IntKind.i64 1)), [2]),
        (none, some 38, O.ld CK.any (Opd.t 37), [3]), (none, some 39, O.mv (Opd.t 3), []),
        (none, some 40, O.iad 1 (Opd.t 39) (Opd.c (AV.int IntKind.i64 0)), [5]),
        (none, some 41, O.ld CK.str (Opd.t 40), [6]), (none, some 42, O.call 18 [Opd.t 38, Opd.t 41], [4, 7]),
        (none, some 33, O.mv (Opd.t 42), [8]), (none, some 43, O.ext (Opd.t 33) 0, [9]),
        (none, some 44, O.ext (Opd.t 33) 1, [9]),
        (none, some 4, O.mv (Opd.t 43), [10, 8, 0, 1, 2, 3, 4, 5, 6, 7, 8, 9, 10]),
        (none, some 5, O.mv (Opd.t 44), [11, 12, 0, 1, 2, 3, 4, 5, 6, 7, 8, 9, 10, 11, 12])]
def o8_0 : List (Nat × Bool) := [(0, false), (1, false), (2, false), (3, false), (4, false), (5, false), (6, false), (7, false), (8, true), (9, false), (10, false), (11, false), (12, false), (13, false)]
def l8_0 : List (Nat × Bool × It) :=
  [(0, false, (none, some 34, O.mv (Opd.t 1), [])),
   (1, false, (none, some 35, O.nck (Opd.t 34), [0])),
   (2, false, (none, some 36, O.fad 0 (Opd.t 35), [1])),
   (3, false, (none, some 37, O.iaa 2 (Opd.t 36) (Opd.c (AV.int IntKind.i64 1)), [2])),
   (4, false, (none, some 38, O.ld CK.any (Opd.t 37), [3])),
   (5, false, (none, some 39, O.mv (Opd.t 3), [])),
   (6, false, (none, some 40, O.iad 1 (Opd.t 39) (Opd.c (AV.int IntKind.i64 0)), [5])),
   (7, false, (none, some 41, O.ld CK.str (Opd.t 40), [6])),
   (8, true, (none, some 42, O.call 18 [Opd.t 38, Opd.t 41], [4, 7])),
   (9, false, (none, some 33, O.mv (Opd.t 42), [8])),
   (10, false, (none, some 43, O.ext (Opd.t 33) 0, [9])),
   (11, false, (none, some 44, O.ext (Opd.t 33) 1, [9])),
   (12, false, (none, some 4, O.mv (Opd.t 43), [10, 8, 0, 1, 2, 3, 4, 5, 6, 7, 8, 9, 10])),
   (13, false, (none, some 5, O.mv (Opd.t 44), [11, 12, 0, 1, 2, 3, 4, 5, 6, 7, 8, 9, 10, 11, 12]))]
theorem l8_0_ok : okDraw d8_0 o8_0 = true ∧ mkL d8_0 o8_0 = some l8_0 := ⟨by kernel_rfl, by kernel_rfl⟩

def d8_1 : List It :=
  [(none, some 63, O.mv (Opd.t 1), []), (none, some 64, O.nck (Opd.t 63), [0]),
        (none, some 65, O.fad 0 (Opd.t 64), [1]),
        (none, some 66, O.iaa 2 (Opd.t 65) (Opd.c (AV.int IntKind.i64 0)), [2]),
        (none, some 67, O.ld CK.any (Opd.t 66), [3]), (none, some 68, O.mv (Opd.t 6), []),
        (none, some 69, O.iad 1 (Opd.t 68) (Opd.c (AV.int IntKind.i64 0)), [5]),
        (none, some 70, O.ld CK.str (Opd.t 69), [6]), (none, some 71, O.call 18 [Opd.t 67, Opd.t 70], [4, 7]),
        (none, some 62, O.mv (Opd.t 71), [8]), (none, some 72, O.ext (Opd.t 62) 0, [9]),
        (none, some 73, O.ext (Opd.t 62) 1, [9]),
        (none, some 7, O.mv (Opd.t 72), [10, 8, 0, 1, 2, 3, 4, 5, 6, 7, 8, 9, 10]),
        (none, some 8, O.mv (Opd.t 73), [11, 12, 0, 1, 2, 3, 4, 5, 6, 7, 8, 9, 10, 11, 12])]
def o8_1 : List (Nat × Bool) := [(0, false), (1, false), (2, false), (3, false), (4, false), (5, false), (6, false), (7, false), (8, true), (9, false), (10, false), (11, false), (12, false), (13, false)]
def l8_1 : List (Nat × Bool × It) :=
  [(0, false, (none, some 63, O.mv (Opd.t 1), [])),
   (1, false, (none, some 64, O.nck (Opd.t 63), [0])),
   (2, false, (none, some 65, O.fad 0 (Opd.t 64), [1])),
   (3, false, (none, some 66, O.iaa 2 (Opd.t 65) (Opd.c (AV.int IntKind.i64 0)), [2])),
   (4, false, (none, some 67, O.ld CK.any (Opd.t 66), [3])),
   (5, false, (none, some 68, O.mv (Opd.t 6), [])),
   (6, false, (none, some 69, O.iad 1 (Opd.t 68) (Opd.c (AV.int IntKind.i64 0)), [5])),
   (7, false, (none, some 70, O.ld CK.str (Opd.t 69), [6])),
   (8, true, (none, some 71, O.call 18 [Opd.t 67, Opd.t 70], [4, 7])),
   (9, false, (none, some 62, O.mv (Opd.t 71), [8])),
   (10, false, (none, some 72, O.ext (Opd.t 62) 0, [9])),
   (11, false, (none, some 73, O.ext (Opd.t 62) 1, [9])),
   (12, false, (none, some 7, O.mv (Opd.t 72), [10, 8, 0, 1, 2, 3, 4, 5, 6, 7, 8, 9, 10])),
   (13, false, (none, some 8, O.mv (Opd.t 73), [11, 12, 0, 1, 2, 3, 4, 5, 6, 7, 8, 9, 10, 11, 12]))]
theorem l8_1_ok : okDraw d8_1 o8_1 = true ∧ mkL d8_1 o8_1 = some l8_1 := ⟨by kernel_rfl, by kernel_rfl⟩

def c8 : List C :=
  [C.op none (some 0) (O.mv (Opd.c (AV.bool false))), C.op none (some 10) (O.call 7 []),
    C.op none (some 9) (O.mv (Opd.t 10)), C.op none (some 11) (O.ext (Opd.t 9) 0),
    C.op none (some 12) (O.ext (Opd.t 9) 1), C.op none (some 1) (O.mv (Opd.t 11)), C.op none (some 2) (O.mv (Opd.t 12)),
    C.op none (some 13) (O.mv (Opd.t 2)), C.op none (some 14) (O.un UnOp.not (Opd.t 13)),
    C.op none (some 15) (O.mv (Opd.t 14)), C.op (some (15, false)) (some 16) (O.mv (Opd.t 1)),
    C.op (some (15, false)) (some 17) (O.nck (Opd.t 16)), C.op (some (15, false)) (some 18) (O.fad 0 (Opd.t 17)),
    C.op (some (15, false)) (some 19) (O.iaa 2 (Opd.t 18) (Opd.c (AV.int IntKind.i64 0))),
    C.op (some (15, false)) (some 20) (O.ld CK.any (Opd.t 19)),
    C.op (some (15, false)) (some 21)
      (O.call 14
        [Opd.t 20, Opd.c (AV.str [97])]),
    C.op (some (15, false)) (some 22) (O.bin BinOp.neq (Opd.t 21) (Opd.c (AV.int IntKind.i64 0))),
    C.op none (some 23) (O.pick (Opd.t 15) (Opd.c (AV.bool true)) (Opd.t 22)),
    C.cond (Opd.t 23) [C.op none (some 0) (O.mv (Opd.c (AV.bool false))), C.ret] [],
    C.op none (some 24) (O.mv (Opd.t 1)), C.op none (some 25) (O.nck (Opd.t 24)),
    C.op none (some 26) (O.fad 0 (Opd.t 25)),
    C.op none (some 27) (O.iaa 2 (Opd.t 26) (Opd.c (AV.int IntKind.i64 0))),
    C.op none (some 28) (O.ld CK.any (Opd.t 27)),
    C.op none (some 29) (O.call 22 [Opd.t 28, Opd.c (AV.int IntKind.i64 0)]),
    C.op none (some 3) (O.mv (Opd.t 29)), C.op none (some 30) (O.mv (Opd.t 3)),
    C.op none (some 31) (O.len false (Opd.t 30)),
    C.op none (some 32) (O.bin BinOp.neq (Opd.t 31) (Opd.c (AV.int IntKind.i64 1))),
    C.cond (Opd.t 32) [C.op none (some 0) (O.mv (Opd.c (AV.bool false))), C.ret] [],
    C.draw d8_0,
    C.op none (some 45) (O.mv (Opd.t 1)), C.op none (some 46) (O.nck (Opd.t 45)),
    C.op none (some 47) (O.fad 0 (Opd.t 46)),
    C.op none (some 48) (O.iaa 2 (Opd.t 47) (Opd.c (AV.int IntKind.i64 1))),
    C.op none (some 49) (O.ld CK.any (Opd.t 48)),
    C.op none (some 50) (O.call 22 [Opd.t 49, Opd.c (AV.int IntKind.i64 0)]),
    C.op none (some 6) (O.mv (Opd.t 50)), C.op none (some 51) (O.mv (Opd.t 6)),
    C.op none (some 52) (O.len false (Opd.t 51)),
    C.op none (some 53) (O.bin BinOp.neq (Opd.t 52) (Opd.c (AV.int IntKind.i64 1))),
    C.op none (some 54) (O.mv (Opd.t 53)), C.op (some (54, false)) (some 55) (O.mv (Opd.t 1)),
    C.op (some (54, false)) (some 56) (O.nck (Opd.t 55)), C.op (some (54, false)) (some 57) (O.fad 0 (Opd.t 56)),
    C.op (some (54, false)) (some 58) (O.iaa 2 (Opd.t 57) (Opd.c (AV.int IntKind.i64 0))),
    C.op (some (54, false)) (some 59) (O.ld CK.any (Opd.t 58)),
    C.op (some (54, false)) (some 60) (O.call 10 [Opd.t 59]),
    C.op none (some 61) (O.pick (Opd.t 54) (Opd.c (AV.bool true)) (Opd.t 60)),
    C.cond (Opd.t 61) [C.op none (some 0) (O.mv (Opd.c (AV.bool false))), C.ret] [],
    C.draw d8_1,
    C.op none (some 74) (O.mv (Opd.t 4)), C.op none (some 75) (O.len false (Opd.t 74)),
    C.op none (some 76) (O.bin BinOp.eql (Opd.t 75) (Opd.c (AV.int IntKind.i64 1))),
    C.op none (some 77) (O.mv (Opd.t 76)), C.op (some (77, true)) (some 78) (O.mv (Opd.t 4)),
    C.op (some (77, true)) (some 79) (O.iad 1 (Opd.t 78) (Opd.c (AV.int IntKind.i64 0))),
    C.op (some (77, true)) (some 80) (O.ld CK.str (Opd.t 79)),
    C.op (some (77, true)) (some 81)
      (O.bin BinOp.eql (Opd.t 80)
        (Opd.c (AV.str [97]))),
    C.op none (some 82) (O.pick (Opd.t 77) (Opd.t 81) (Opd.c (AV.bool false))), C.op none (some 83) (O.mv (Opd.t 82)),
    C.op (some (83, true)) (some 84) (O.mv (Opd.t 5)),
    C.op (some (83, true)) (some 85) (O.bin BinOp.eql (Opd.t 84) (Opd.c (AV.int IntKind.i64 0))),
    C.op none (some 86) (O.pick (Opd.t 83) (Opd.t 85) (Opd.c (AV.bool false))), C.op none (some 87) (O.mv (Opd.t 86)),
    C.op (some (87, true)) (some 88) (O.mv (Opd.t 8)),
    C.op (some (87, true)) (some 89) (O.bin BinOp.eql (Opd.t 88) (Opd.c (AV.int IntKind.i64 0))),
    C.op none (some 90) (O.pick (Opd.t 87) (Opd.t 89) (Opd.c (AV.bool false))), C.op none (some 91) (O.mv (Opd.t 90)),
    C.op (some (91, true)) (some 92) (O.mv (Opd.t 1)), C.op (some (91, true)) (some 93) (O.nck (Opd.t 92)),
    C.op (some (91, true)) (some 94) (O.fad 0 (Opd.t 93)),
    C.op (some (91, true)) (some 95) (O.iaa 2 (Opd.t 94) (Opd.c (AV.int IntKind.i64 0))),
    C.op (some (91, true)) (some 96) (O.ld CK.any (Opd.t 95)), C.op (some (91, true)) (some 97) (O.call 10 [Opd.t 96]),
    C.op none (some 98) (O.pick (Opd.t 91) (Opd.t 97) (Opd.c (AV.bool false))), C.op none (some 99) (O.mv (Opd.t 98)),
    C.op (some (99, true)) (some 100) (O.mv (Opd.t 1)), C.op (some (99, true)) (some 101) (O.nck (Opd.t 100)),
    C.op (some (99, true)) (some 102) (O.fad 0 (Opd.t 101)),
    C.op (some (99, true)) (some 103) (O.iaa 2 (Opd.t 102) (Opd.c (AV.int IntKind.i64 1))),
    C.op (some (99, true)) (some 104) (O.ld CK.any (Opd.t 103)),
    C.op (some (99, true)) (some 105) (O.call 10 [Opd.t 104]),
    C.op none (some 106) (O.pick (Opd.t 99) (Opd.t 105) (Opd.c (AV.bool false))), C.op none (some 0) (O.mv (Opd.t 106)),
    C.ret]
def r8 : List RV := [RV.t 0]
theorem c8_ok : cC Try.prog Try.f8.ntmps (Try.f8.body.getD .skip) = some c8 := by kernel_rfl

def c10 : List C :=
  [C.op none (some 2) (O.mv (Opd.c (AV.bool false))), C.op none (some 3) (O.mv (Opd.t 0)),
    C.op none (some 4) (O.nck (Opd.t 3)), C.op none (some 5) (O.fad 5 (Opd.t 4)),
    C.op none (some 6) (O.ld CK.any (Opd.t 5)), C.op none (some 7) (O.len false (Opd.t 6)),
    C.op none (some 8) (O.bin BinOp.eql (Opd.t 7) (Opd.c (AV.int IntKind.i64 0))),
    C.op none (some 9) (O.mv (Opd.t 8)), C.op (some (9, true)) (some 10) (O.mv (Opd.t 0)),
    C.op (some (9, true)) (some 11) (O.nck (Opd.t 10)), C.op (some (9, true)) (some 12) (O.fad 0 (Opd.t 11)),
    C.op (some (9, true)) (some 13) (O.ld CK.any (Opd.t 12)), C.op (some (9, true)) (some 14) (O.call 23 [Opd.t 13]),
    C.op (some (9, true)) (some 15) (O.bin BinOp.eql (Opd.t 14) (Opd.c (AV.int IntKind.i64 0))),
    C.op none (some 16) (O.pick (Opd.t 9) (Opd.t 15) (Opd.c (AV.bool false))), C.op none (some 2) (O.mv (Opd.t 16)),
    C.ret]
def r10 : List RV := [RV.t 2]
theorem c10_ok : cC Try.prog Try.f10.ntmps (Try.f10.body.getD .skip) = some c10 := by kernel_rfl

def c13 : List C :=
  [C.op none (some 2) (O.mv (Opd.c (AV.int IntKind.i64 0))), C.op none (some 3) (O.mv (Opd.t 0)),
    C.op none (some 4) (O.nck (Opd.t 3)), C.op none (some 5) (O.fad 5 (Opd.t 4)),
    C.op none (some 6) (O.ld CK.any (Opd.t 5)), C.op none (some 7) (O.len false (Opd.t 6)),
    C.op none (some 2) (O.mv (Opd.t 7)), C.ret]
def r13 : List RV := [RV.t 2]
theorem c13_ok : cC Try.prog Try.f13.ntmps (Try.f13.body.getD .skip) = some c13 := by kernel_rfl

def d14_0 : List It :=
  [(none, some 26, O.mv (Opd.t 0), []), (none, some 27, O.mv (Opd.t 0), []), (none, some 28, O.nck (Opd.t 27), [1]),
        (none, some 29, O.fad 5 (Opd.t 28), [2]), (none, some 30, O.ld CK.any (Opd.t 29), [3]),
        (none, some 31, O.mv (Opd.t 0), []), (none, some 32, O.nck (Opd.t 31), [5]),
        (none, some 33, O.fad 5 (Opd.t 32), [6]), (none, some 34, O.ld CK.any (Opd.t 33), [7]),
        (none, some 35, O.len false (Opd.t 34), [8]), (none, some 36, O.mv (Opd.t 0), []),
        (none, some 37, O.nck (Opd.t 36), [10]), (none, some 38, O.fad 5 (Opd.t 37), [11]),
        (none, some 39, O.ld CK.any (Opd.t 38), [12]), (none, some 40, O.len false (Opd.t 39), [13]),
        (none, some 41, O.lsl 2 (Opd.t 30) none (some (Opd.t 35)) (some (Opd.t 40)), [4, 9, 14]),
        (none, some 42, O.mv (Opd.t 5), []), (none, some 43, O.app 2 (Opd.t 41) (Opd.t 42), [15, 16]),
        (none, some 44, O.nck (Opd.t 26), [0, 0, 1, 2, 3, 4, 5, 6, 7, 8, 9, 10, 11, 12, 13, 14, 15, 16, 17]),
        (none, some 45, O.fad 5 (Opd.t 44), [18, 0, 1, 2, 3, 4, 5, 6, 7, 8, 9, 10, 11, 12, 13, 14, 15, 16, 17]),
        (none, none, O.st 1 (Opd.t 45) (Opd.t 43),
          [19, 17, 17, 0, 1, 2, 3, 4, 5, 6, 7, 8, 9, 10, 11, 12, 13, 14, 15, 16, 17])]
def o14_0 : List (Nat × Bool) := [(0, false), (1, false), (2, false), (3, false), (4, false), (5, false), (6, false), (7, false), (8, false), (9, false), (10, false), (11, false), (12, false), (13, false), (14, false), (15, false), (16, false), (17, true), (18, false), (19, false), (20, true)]
def l14_0 : List (Nat × Bool × It) :=
  [(0, false, (none, some 26, O.mv (Opd.t 0), [])),
   (1, false, (none, some 27, O.mv (Opd.t 0), [])),
   (2, false, (none, some 28, O.nck (Opd.t 27), [1])),
   (3, false, (none, some 29, O.fad 5 (Opd.t 28), [2])),
   (4, false, (none, some 30, O.ld CK.any (Opd.t 29), [3])),
   (5, false, (none, some 31, O.mv (Opd.t 0), [])),
   (6, false, (none, some 32, O.nck (Opd.t 31), [5])),
   (7, false, (none, some 33, O.fad 5 (Opd.t 32), [6])),
   (8, false, (none, some 34, O.ld CK.any (Opd.t 33), [7])),
   (9, false, (none, some 35, O.len false (Opd.t 34), [8])),
   (10, false, (none, some 36, O.mv (Opd.t 0), [])),
   (11, false, (none, some 37, O.nck (Opd.t 36), [10])),
   (12, false, (none, some 38, O.fad 5 (Opd.t 37), [11])),
   (13, false, (none, some 39, O.ld CK.any (Opd.t 38), [12])),
   (14, false, (none, some 40, O.len false (Opd.t 39), [13])),
   (15, false, (none, some 41, O.lsl 2 (Opd.t 30) none (some (Opd.t 35)) (some (Opd.t 40)), [4, 9, 14])),
   (16, false, (none, some 42, O.mv (Opd.t 5), [])),
   (17, true, (none, some 43, O.app 2 (Opd.t 41) (Opd.t 42), [15, 16])),
   (18, false, (none, some 44, O.nck (Opd.t 26), [0, 0, 1, 2, 3, 4, 5, 6, 7, 8, 9, 10, 11, 12, 13, 14, 15, 16, 17])),
   (19, false, (none, some 45, O.fad 5 (Opd.t 44), [18, 0, 1, 2, 3, 4, 5, 6, 7, 8, 9, 10, 11, 12, 13, 14, 15, 16, 17])),
   (20, true, (none, none, O.st 1 (Opd.t 45) (Opd.t 43),
          [19, 17, 17, 0, 1, 2, 3, 4, 5, 6, 7, 8, 9, 10, 11, 12, 13, 14, 15, 16, 17]))]
theorem l14_0_ok : okDraw d14_0 o14_0 = true ∧ mkL d14_0 o14_0 = some l14_0 := ⟨by kernel_rfl, by kernel_rfl⟩

def c14 : List C :=
  [C.op none (some 4) (O.mv (Opd.c (AV.int IntKind.i64 0))), C.op none (some 8) (O.mv (Opd.t 1)),
    C.op none (some 9) (O.call 24 [Opd.t 8]), C.op none (some 7) (O.mv (Opd.t 9)),
    C.op none (some 10) (O.ext (Opd.t 7) 0), C.op none (some 11) (O.ext (Opd.t 7) 1),
    C.op none (some 5) (O.mv (Opd.t 10)), C.op none (some 6) (O.mv (Opd.t 11)),
    C.blk 0
      [C.op none (some 13) (O.mv (Opd.t 6)),
        C.op none (some 14) (O.bin BinOp.neq (Opd.t 13) (Opd.c (AV.int IntKind.i64 0))),
        C.op none (some 12) (O.mv (Opd.t 14)),
        C.cond (Opd.t 12) [C.op none (some 15) (O.mv (Opd.t 6)), C.op none (some 4) (O.mv (Opd.t 15)), C.ret]
          [C.op none (some 17) (O.mv (Opd.t 0)), C.op none (some 18) (O.nck (Opd.t 17)),
            C.op none (some 19) (O.fad 5 (Opd.t 18)), C.op none (some 20) (O.ld CK.any (Opd.t 19)),
            C.op none (some 21) (O.len false (Opd.t 20)), C.op none (some 22) (O.mv (Opd.t 5)),
            C.op none (some 23) (O.len false (Opd.t 22)), C.op none (some 24) (O.bin BinOp.add (Opd.t 21) (Opd.t 23)),
            C.op none (some 25) (O.bin BinOp.gtr (Opd.t 24) (Opd.c (AV.int IntKind.i64 700))),
            C.op none (some 16) (O.mv (Opd.t 25)),
            C.cond (Opd.t 16) [C.op none (some 4) (O.mv (Opd.c (AV.int IntKind.i64 8))), C.ret] []]],
    C.draw d14_0,
    C.op none (some 4) (O.mv (Opd.c (AV.int IntKind.i64 0))), C.ret]
def r14 : List RV := [RV.t 4]
theorem c14_ok : cC Try.prog Try.f14.ntmps (Try.f14.body.getD .skip) = some c14 := by kernel_rfl

def d15_0 : List It :=
  [(none, some 4, O.mv (Opd.t 0), []), (none, some 5, O.nck (Opd.t 4), [0]), (none, some 6, O.fad 7 (Opd.t 5), [1]),
        (none, some 7, O.ld (CK.int IntKind.i64) (Opd.t 6), [2]), (none, some 8, O.mv (Opd.t 0), []),
        (none, some 9, O.nck (Opd.t 8), [4]), (none, some 10, O.fad 8 (Opd.t 9), [5]),
        (none, some 11, O.ld (CK.int IntKind.i64) (Opd.t 10), [6]), (none, some 2, O.mv (Opd.t 7), [3, 0, 1, 2, 3]),
        (none, some 3, O.mv (Opd.t 11), [7, 8, 0, 1, 2, 3, 4, 5, 6, 7, 8])]
def o15_0 : List (Nat × Bool) := [(0, false), (1, false), (2, false), (3, false), (4, false), (5, false), (6, false), (7, false), (8, false), (9, false)]
def l15_0 : List (Nat × Bool × It) :=
  [(0, false, (none, some 4, O.mv (Opd.t 0), [])),
   (1, false, (none, some 5, O.nck (Opd.t 4), [0])),
   (2, false, (none, some 6, O.fad 7 (Opd.t 5), [1])),
   (3, false, (none, some 7, O.ld (CK.int IntKind.i64) (Opd.t 6), [2])),
   (4, false, (none, some 8, O.mv (Opd.t 0), [])),
   (5, false, (none, some 9, O.nck (Opd.t 8), [4])),
   (6, false, (none, some 10, O.fad 8 (Opd.t 9), [5])),
   (7, false, (none, some 11, O.ld (CK.int IntKind.i64) (Opd.t 10), [6])),
   (8, false, (none, some 2, O.mv (Opd.t 7), [3, 0, 1, 2, 3])),
   (9, false, (none, some 3, O.mv (Opd.t 11), [7, 8, 0, 1, 2, 3, 4, 5, 6, 7, 8]))]
theorem l15_0_ok : okDraw d15_0 o15_0 = true ∧ mkL d15_0 o15_0 = some l15_0 := ⟨by kernel_rfl, by kernel_rfl⟩

def c15 : List C :=
  [C.op none (some 2) (O.mv (Opd.c (AV.int IntKind.i64 0))),
    C.op none (some 3) (O.mv (Opd.c (AV.int IntKind.i64 0))),
    C.draw d15_0,
    C.ret]
def r15 : List RV := [RV.t 2, RV.t 3]
theorem c15_ok : cC Try.prog Try.f15.ntmps (Try.f15.body.getD .skip) = some c15 := by kernel_rfl

def c16 : List C :=
  [C.op none (some 4) (O.mv (Opd.c (AV.str []))), C.op none (some 5) (O.mv (Opd.t 0)),
    C.op none (some 6) (O.len true (Opd.t 5)), C.op none (some 7) (O.mv (Opd.t 1)),
    C.op none (some 8) (O.bin BinOp.gtr (Opd.t 6) (Opd.t 7)),
    C.cond (Opd.t 8)
      [C.op none (some 9) (O.mv (Opd.t 0)), C.op none (some 10) (O.mv (Opd.t 1)),
        C.op none (some 11) (O.ssl (Opd.t 9) none (some (Opd.t 10))), C.op none (some 4) (O.mv (Opd.t 11)), C.ret]
      [],
    C.op none (some 12) (O.mv (Opd.t 0)), C.op none (some 4) (O.mv (Opd.t 12)), C.ret]
def r16 : List RV := [RV.t 4]
theorem c16_ok : cC Try.prog Try.f16.ntmps (Try.f16.body.getD .skip) = some c16 := by kernel_rfl

def c17 : List C :=
  [C.op none (some 2)
      (O.alloc
        [AV.int IntKind.i64 0, AV.int IntKind.i64 0, AV.int IntKind.i64 0,
          AV.str []]),
    C.op none (some 3) (O.mv (Opd.c (AV.int IntKind.i64 0))), C.op none (some 16) (O.mv (Opd.t 0)),
    C.op none (some 17) (O.call 25 [Opd.t 16]), C.op none (some 15) (O.mv (Opd.t 17)),
    C.op none (some 18) (O.ext (Opd.t 15) 0), C.op none (some 19) (O.ext (Opd.t 15) 1),
    C.op none (some 4) (O.mv (Opd.t 18)), C.op none (some 5) (O.mv (Opd.t 19)), C.op none (some 20) (O.mv (Opd.t 5)),
    C.op none (some 21) (O.bin BinOp.neq (Opd.t 20) (Opd.c (AV.int IntKind.i64 0))),
    C.cond (Opd.t 21)
      [C.op none (some 22)
          (O.build
            [AV.int IntKind.i64 0, AV.int IntKind.i64 0, AV.int IntKind.i64 0,
              AV.str []]
            []),
        C.op none (some 23) (O.mv (Opd.t 5)), C.op none none (O.st 4 (Opd.t 2) (Opd.t 22)),
        C.op none (some 3) (O.mv (Opd.t 23)), C.ret]
      [],
    C.op none (some 25) (O.mv (Opd.t 4)),
    C.op none (some 26) (O.build [AV.str [], AV.int IntKind.i64 0] [(0, 1, Opd.t 25)]),
    C.op none (some 27) (O.call 26 [Opd.t 26, Opd.c (AV.int IntKind.i64 4294967295)]),
    C.op none (some 24) (O.mv (Opd.t 27)), C.op none (some 28) (O.ext (Opd.t 24) 0),
    C.op none (some 29) (O.ext (Opd.t 24) 1),
    C.op none (some 6) (O.alloc [AV.str [], AV.int IntKind.i64 0]),
    C.op none none (O.st 2 (Opd.t 6) (Opd.t 28)), C.op none (some 7) (O.mv (Opd.t 29)),
    C.op none (some 31) (O.ldn [CK.str, CK.int IntKind.i64] (Opd.t 6)),
    C.op none (some 32) (O.call 26 [Opd.t 31, Opd.c (AV.int IntKind.i64 4294967295)]),
    C.op none (some 30) (O.mv (Opd.t 32)), C.op none (some 33) (O.ext (Opd.t 30) 0),
    C.op none (some 34) (O.ext (Opd.t 30) 1), C.op none none (O.st 2 (Opd.t 6) (Opd.t 33)),
    C.op none (some 8) (O.mv (Opd.t 34)), C.op none (some 36) (O.ldn [CK.str, CK.int IntKind.i64] (Opd.t 6)),
    C.op none (some 37) (O.call 26 [Opd.t 36, Opd.c (AV.int IntKind.i64 1)]),
    C.op none (some 35) (O.mv (Opd.t 37)), C.op none (some 38) (O.ext (Opd.t 35) 0),
    C.op none (some 39) (O.ext (Opd.t 35) 1), C.op none none (O.st 2 (Opd.t 6) (Opd.t 38)),
    C.op none (some 9) (O.mv (Opd.t 39)), C.op none (some 40) (O.mv (Opd.t 7)), C.op none (some 41) (O.mv (Opd.t 8)),
    C.op none (some 42)
      (O.build
        [AV.int IntKind.i64 0, AV.int IntKind.i64 0, AV.int IntKind.i64 0,
          AV.str []]
        [(0, 1, Opd.t 40), (1, 1, Opd.t 41), (2, 1, Opd.c (AV.int IntKind.i64 (-1)))]),
    C.op none (some 10)
      (O.alloc
        [AV.int IntKind.i64 0, AV.int IntKind.i64 0, AV.int IntKind.i64 0,
          AV.str []]),
    C.op none none (O.st 4 (Opd.t 10) (Opd.t 42)), C.op none (some 43) (O.mv (Opd.t 9)),
    C.op none (some 44) (O.bin BinOp.eql (Opd.t 43) (Opd.c (AV.int IntKind.i64 1))),
    C.cond (Opd.t 44)
      [C.op none (some 46) (O.ldn [CK.str, CK.int IntKind.i64] (Opd.t 6)),
        C.op none (some 47) (O.call 26 [Opd.t 46, Opd.c (AV.int IntKind.i64 4294967295)]),
        C.op none (some 45) (O.mv (Opd.t 47)), C.op none (some 48) (O.ext (Opd.t 45) 0),
        C.op none (some 49) (O.ext (Opd.t 45) 1),
        C.op none (some 11) (O.alloc [AV.str [], AV.int IntKind.i64 0]),
        C.op none none (O.st 2 (Opd.t 11) (Opd.t 48)), C.op none (some 12) (O.mv (Opd.t 49)),
        C.op none (some 51) (O.ldn [CK.str, CK.int IntKind.i64] (Opd.t 11)),
        C.op none (some 52) (O.call 27 [Opd.t 51, Opd.c (AV.int IntKind.i64 201)]),
        C.op none (some 50) (O.mv (Opd.t 52)), C.op none (some 53) (O.ext (Opd.t 50) 0),
        C.op none (some 54) (O.ext (Opd.t 50) 1),
        C.op none (some 13) (O.alloc [AV.str [], AV.int IntKind.i64 0]),
        C.op none none (O.st 2 (Opd.t 13) (Opd.t 53)), C.op none (some 14) (O.mv (Opd.t 54)),
        C.op none (some 55) (O.ldn [CK.str, CK.int IntKind.i64] (Opd.t 13)),
        C.op none none (O.st 2 (Opd.t 6) (Opd.t 55)), C.op none (some 56) (O.mv (Opd.t 12)),
        C.op none (some 57) (O.fad 2 (Opd.t 10)), C.op none none (O.st 1 (Opd.t 57) (Opd.t 56)),
        C.op none (some 58) (O.mv (Opd.t 14)), C.op none (some 59) (O.fad 3 (Opd.t 10)),
        C.op none none (O.st 1 (Opd.t 59) (Opd.t 58))]
      [],
    C.op none (some 60) (O.ldn [CK.str, CK.int IntKind.i64] (Opd.t 6)), C.op none (some 61) (O.call 28 [Opd.t 60]),
    C.op none (some 62) (O.bin BinOp.neq (Opd.t 61) (Opd.c (AV.int IntKind.i64 0))),
    C.cond (Opd.t 62)
      [C.op none (some 63)
          (O.build
            [AV.int IntKind.i64 0, AV.int IntKind.i64 0, AV.int IntKind.i64 0,
              AV.str []]
            []),
        C.op none (some 64) (O.ldn [CK.str, CK.int IntKind.i64] (Opd.t 6)), C.op none (some 65) (O.call 28 [Opd.t 64]),
        C.op none none (O.st 4 (Opd.t 2) (Opd.t 63)), C.op none (some 3) (O.mv (Opd.t 65)), C.ret]
      [],
    C.op none (some 66) (O.ldn [CK.int IntKind.i64, CK.int IntKind.i64, CK.int IntKind.i64, CK.str] (Opd.t 10)),
    C.op none none (O.st 4 (Opd.t 2) (Opd.t 66)), C.op none (some 3) (O.mv (Opd.c (AV.int IntKind.i64 0))),
    C.ret]
def r17 : List RV := [RV.cn 2 4, RV.t 3]
theorem c17_ok : cC Try.prog Try.f17.ntmps (Try.f17.body.getD .skip) = some c17 := by kernel_rfl

def d18_0 : List It :=
  [(none, some 32, O.mv (Opd.t 0), []), (none, some 33, O.nck (Opd.t 32), [0]),
        (none, some 34, O.fad 2 (Opd.t 33), [1]), (none, some 35, O.ld CK.any (Opd.t 34), [2]),
        (none, some 36, O.mv (Opd.t 0), []), (none, some 37, O.nck (Opd.t 36), [4]),
        (none, some 38, O.fad 0 (Opd.t 37), [5]), (none, some 39, O.ld CK.any (Opd.t 38), [6]),
        (none, some 40, O.ldn [CK.int IntKind.u32, CK.int IntKind.u32] (Opd.t 6), []),
        (none, some 41, O.call 31 [Opd.t 39, Opd.t 40], [7, 8]),
        (none, some 42, O.call 30 [Opd.t 35, Opd.t 41], [3, 9, 9])]
def o18_0 : List (Nat × Bool) := [(0, false), (1, false), (2, false), (3, false), (4, false), (5, false), (6, false), (7, false), (8, false), (9, true), (10, true)]
def l18_0 : List (Nat × Bool × It) :=
  [(0, false, (none, some 32, O.mv (Opd.t 0), [])),
   (1, false, (none, some 33, O.nck (Opd.t 32), [0])),
   (2, false, (none, some 34, O.fad 2 (Opd.t 33), [1])),
   (3, false, (none, some 35, O.ld CK.any (Opd.t 34), [2])),
   (4, false, (none, some 36, O.mv (Opd.t 0), [])),
   (5, false, (none, some 37, O.nck (Opd.t 36), [4])),
   (6, false, (none, some 38, O.fad 0 (Opd.t 37), [5])),
   (7, false, (none, some 39, O.ld CK.any (Opd.t 38), [6])),
   (8, false, (none, some 40, O.ldn [CK.int IntKind.u32, CK.int IntKind.u32] (Opd.t 6), [])),
   (9, true, (none, some 41, O.call 31 [Opd.t 39, Opd.t 40], [7, 8])),
   (10, true, (none, some 42, O.call 30 [Opd.t 35, Opd.t 41], [3, 9, 9]))]
theorem l18_0_ok : okDraw d18_0 o18_0 = true ∧ mkL d18_0 o18_0 = some l18_0 := ⟨by kernel_rfl, by kernel_rfl⟩

def d18_1 : List It :=
  [(none, some 53, O.mv (Opd.t 0), []), (none, some 54, O.nck (Opd.t 53), [0]),
                    (none, some 55, O.fad 1 (Opd.t 54), [1]), (none, some 56, O.ld CK.any (Opd.t 55), [2]),
                    (none, some 57, O.ldn [CK.int IntKind.u32, CK.str] (Opd.t 11), []),
                    (none, some 58, O.call 32 [Opd.t 56, Opd.t 57], [3, 4]), (none, some 52, O.mv (Opd.t 58), [5]),
                    (none, some 59, O.ext (Opd.t 52) 0, [6]), (none, some 60, O.ext (Opd.t 52) 1, [6]),
                    (none, some 12, O.mv (Opd.t 59), [7, 5, 0, 1, 2, 3, 4, 5, 6, 7]),
                    (none, some 13, O.mv (Opd.t 60), [8, 9, 0, 1, 2, 3, 4, 5, 6, 7, 8, 9])]
def o18_1 : List (Nat × Bool) := [(0, false), (1, false), (2, false), (3, false), (4, false), (5, true), (6, false), (7, false), (8, false), (9, false), (10, false)]
def l18_1 : List (Nat × Bool × It) :=
  [(0, false, (none, some 53, O.mv (Opd.t 0), [])),
   (1, false, (none, some 54, O.nck (Opd.t 53), [0])),
   (2, false, (none, some 55, O.fad 1 (Opd.t 54), [1])),
   (3, false, (none, some 56, O.ld CK.any (Opd.t 55), [2])),
   (4, false, (none, some 57, O.ldn [CK.int IntKind.u32, CK.str] (Opd.t 11), [])),
   (5, true, (none, some 58, O.call 32 [Opd.t 56, Opd.t 57], [3, 4])),
   (6, false, (none, some 52, O.mv (Opd.t 58), [5])),
   (7, false, (none, some 59, O.ext (Opd.t 52) 0, [6])),
   (8, false, (none, some 60, O.ext (Opd.t 52) 1, [6])),
   (9, false, (none, some 12, O.mv (Opd.t 59), [7, 5, 0, 1, 2, 3, 4, 5, 6, 7])),
   (10, false, (none, some 13, O.mv (Opd.t 60), [8, 9, 0, 1, 2, 3, 4, 5, 6, 7, 8, 9]))]
theorem l18_1_ok : okDraw d18_1 o18_1 = true ∧ mkL d18_1 o18_1 = some l18_1 := ⟨by kernel_rfl, by kernel_rfl⟩

def c18 : List C :=
  [C.op none (some 4) (O.mv (Opd.c AV.nilsl)), C.op none (some 5) (O.mv (Opd.c (AV.int IntKind.i64 0))),
    C.op none (some 17) (O.mv (Opd.t 1)), C.op none (some 18) (O.call 29 [Opd.t 17]),
    C.op none (some 16) (O.mv (Opd.t 18)), C.op none (some 19) (O.ext (Opd.t 16) 0),
    C.op none (some 20) (O.ext (Opd.t 16) 1), C.op none (some 21) (O.ext (Opd.t 16) 2),
    C.op none (some 6) (O.alloc [AV.int IntKind.u32 0, AV.int IntKind.u32 0]),
    C.op none none (O.st 2 (Opd.t 6) (Opd.t 19)), C.op none (some 7) (O.mv (Opd.t 20)),
    C.op none (some 8) (O.mv (Opd.t 21)), C.op none (some 22) (O.mv (Opd.t 8)),
    C.op none (some 23) (O.bin BinOp.neq (Opd.t 22) (Opd.c (AV.int IntKind.i64 0))),
    C.cond (Opd.t 23)
      [C.op none (some 24) (O.mv (Opd.t 0)), C.op none (some 25) (O.nck (Opd.t 24)),
        C.op none (some 26) (O.fad 7 (Opd.t 25)), C.op none (some 27) (O.ld (CK.int IntKind.i64) (Opd.t 26)),
        C.op none (some 28) (O.bin BinOp.add (Opd.t 27) (Opd.c (AV.int IntKind.i64 1))),
        C.op none (some 29) (O.nck (Opd.t 24)), C.op none (some 30) (O.fad 7 (Opd.t 29)),
        C.op none none (O.st 1 (Opd.t 30) (Opd.t 28)), C.op none (some 31) (O.mv (Opd.t 8)),
        C.op none (some 4) (O.mv (Opd.c AV.nilsl)), C.op none (some 5) (O.mv (Opd.t 31)), C.ret]
      [],
    C.draw d18_0,
    C.op none (some 9) (O.mv (Opd.c AV.nilsl)), C.op none (some 43) (O.mv (Opd.t 7)),
    C.op none (some 44) (O.len false (Opd.t 43)), C.op none (some 45) (O.mv (Opd.c (AV.int IntKind.i64 0))),
    C.blk 0
      [C.loop
          [C.op none (some 46) (O.bin BinOp.lss (Opd.t 45) (Opd.t 44)), C.cond (Opd.t 46) [] [C.exit 0],
            C.blk 1
              [C.op none (some 47) (O.iad 2 (Opd.t 43) (Opd.t 45)),
                C.op none (some 48) (O.ldn [CK.int IntKind.u32, CK.str] (Opd.t 47)),
                C.op none (some 11) (O.alloc [AV.int IntKind.u32 0, AV.str []]),
                C.op none none (O.st 2 (Opd.t 11) (Opd.t 48)), C.op none (some 49) (O.mv (Opd.t 0)),
                C.op none (some 50) (O.nck (Opd.t 49)), C.op none (some 51) (O.fad 6 (Opd.t 50)),
                C.op none none (O.st 1 (Opd.t 51) (Opd.c (AV.bool true))),
                C.draw d18_1,
                C.op none (some 61) (O.mv (Opd.t 12)), C.op none (some 62) (O.len false (Opd.t 61)),
                C.op none (some 63) (O.mv (Opd.c (AV.int IntKind.i64 0))),
                C.blk 2
                  [C.loop
                      [C.op none (some 64) (O.bin BinOp.lss (Opd.t 63) (Opd.t 62)), C.cond (Opd.t 64) [] [C.exit 2],
                        C.blk 3
                          [C.op none (some 65) (O.iad 1 (Opd.t 61) (Opd.t 63)),
                            C.op none (some 66) (O.ld CK.str (Opd.t 65)), C.op none (some 15) (O.mv (Opd.t 66)),
                            C.op none (some 67) (O.mv (Opd.t 9)), C.op none (some 68) (O.mv (Opd.t 0)),
                            C.op none (some 69) (O.mv (Opd.t 15)), C.op none (some 70) (O.call 33 [Opd.t 68, Opd.t 69]),
                            C.op none (some 71) (O.app 1 (Opd.t 67) (Opd.t 70)), C.op none (some 9) (O.mv (Opd.t 71))],
                        C.op none (some 72) (O.bin BinOp.add (Opd.t 63) (Opd.c (AV.int IntKind.i64 1))),
                        C.op none (some 63) (O.mv (Opd.t 72))]]],
            C.op none (some 73) (O.bin BinOp.add (Opd.t 45) (Opd.c (AV.int IntKind.i64 1))),
            C.op none (some 45) (O.mv (Opd.t 73))]],
    C.op none (some 74) (O.mv (Opd.t 0)), C.op none (some 75) (O.nck (Opd.t 74)),
    C.op none (some 76) (O.fad 8 (Opd.t 75)), C.op none (some 77) (O.ld (CK.int IntKind.i64) (Opd.t 76)),
    C.op none (some 78) (O.mv (Opd.t 9)), C.op none (some 79) (O.len false (Opd.t 78)),
    C.op none (some 80) (O.bin BinOp.add (Opd.t 77) (Opd.t 79)), C.op none (some 81) (O.nck (Opd.t 74)),
    C.op none (some 82) (O.fad 8 (Opd.t 81)), C.op none none (O.st 1 (Opd.t 82) (Opd.t 80)),
    C.op none (some 83) (O.mv (Opd.t 9)), C.op none (some 4) (O.mv (Opd.t 83)),
    C.op none (some 5) (O.mv (Opd.c (AV.int IntKind.i64 0))), C.ret]
def r18 : List RV := [RV.t 4, RV.t 5]
theorem c18_ok : cC Try.prog Try.f18.ntmps (Try.f18.body.getD .skip) = some c18 := by kernel_rfl

def d19_0 : List It :=
  [(none, some 4, O.fad 0 (Opd.t 1), []), (none, some 5, O.ld (CK.int IntKind.i64) (Opd.t 4), [0]),
        (none, some 6, O.call 34 [Opd.t 5], [1]), (none, some 7, O.fad 1 (Opd.t 1), []),
        (none, some 8, O.ld (CK.int IntKind.i64) (Opd.t 7), [3]), (none, some 9, O.call 34 [Opd.t 8], [4, 2]),
        (none, some 10, O.bin BinOp.add (Opd.t 6) (Opd.t 9), [2, 5]),
        (none, some 3, O.mv (Opd.t 10), [6, 5, 0, 1, 2, 3, 4, 5, 6])]
def o19_0 : List (Nat × Bool) := [(0, false), (1, false), (3, false), (4, false), (2, true), (5, true), (6, false), (7, false)]
def l19_0 : List (Nat × Bool × It) :=
  [(0, false, (none, some 4, O.fad 0 (Opd.t 1), [])),
   (1, false, (none, some 5, O.ld (CK.int IntKind.i64) (Opd.t 4), [0])),
   (3, false, (none, some 7, O.fad 1 (Opd.t 1), [])),
   (4, false, (none, some 8, O.ld (CK.int IntKind.i64) (Opd.t 7), [3])),
   (2, true, (none, some 6, O.call 34 [Opd.t 5], [1])),
   (5, true, (none, some 9, O.call 34 [Opd.t 8], [4, 2])),
   (6, false, (none, some 10, O.bin BinOp.add (Opd.t 6) (Opd.t 9), [2, 5])),
   (7, false, (none, some 3, O.mv (Opd.t 10), [6, 5, 0, 1, 2, 3, 4, 5, 6]))]
theorem l19_0_ok : okDraw d19_0 o19_0 = true ∧ mkL d19_0 o19_0 = some l19_0 := ⟨by kernel_rfl, by kernel_rfl⟩

def d19_1 : List It :=
  [(none, some 17, O.mv (Opd.t 3), []),
        (none, some 18,
          O.bin BinOp.add (Opd.t 17)
            (Opd.c (AV.str [1])),
          [0]),
        (none, some 19, O.fad 2 (Opd.t 1), []), (none, some 20, O.ld (CK.int IntKind.i64) (Opd.t 19), [2]),
        (none, some 21, O.call 34 [Opd.t 20], [3]), (none, some 22, O.bin BinOp.add (Opd.t 18) (Opd.t 21), [1, 4]),
        (none, some 23, O.fad 3 (Opd.t 1), []), (none, some 24, O.ld CK.str (Opd.t 23), [6]),
        (none, some 25, O.call 36 [Opd.t 24], [7, 4]), (none, some 26, O.bin BinOp.add (Opd.t 22) (Opd.t 25), [5, 8]),
        (none, some 27, O.call 35 [Opd.t 26], [9, 8]),
        (none, some 2, O.mv (Opd.t 27), [10, 10, 0, 1, 2, 3, 4, 5, 6, 7, 8, 9, 10])]
def o19_1 : List (Nat × Bool) := [(0, false), (1, false), (2, false), (3, false), (6, false), (7, false), (4, true), (5, false), (8, true), (9, false), (10, true), (11, false)]
def l19_1 : List (Nat × Bool × It) :=
  [(0, false, (none, some 17, O.mv (Opd.t 3), [])),
   (1, false, (none, some 18,
          O.bin BinOp.add (Opd.t 17)
            (Opd.c (AV.str [1])),
          [0])),
   (2, false, (none, some 19, O.fad 2 (Opd.t 1), [])),
   (3, false, (none, some 20, O.ld (CK.int IntKind.i64) (Opd.t 19), [2])),
   (6, false, (none, some 23, O.fad 3 (Opd.t 1), [])),
   (7, false, (none, some 24, O.ld CK.str (Opd.t 23), [6])),
   (4, true, (none, some 21, O.call 34 [Opd.t 20], [3])),
   (5, false, (none, some 22, O.bin BinOp.add (Opd.t 18) (Opd.t 21), [1, 4])),
   (8, true, (none, some 25, O.call 36 [Opd.t 24], [7, 4])),
   (9, false, (none, some 26, O.bin BinOp.add (Opd.t 22) (Opd.t 25), [5, 8])),
   (10, true, (none, some 27, O.call 35 [Opd.t 26], [9, 8])),
   (11, false, (none, some 2, O.mv (Opd.t 27), [10, 10, 0, 1, 2, 3, 4, 5, 6, 7, 8, 9, 10]))]
theorem l19_1_ok : okDraw d19_1 o19_1 = true ∧ mkL d19_1 o19_1 = some l19_1 := ⟨by kernel_rfl, by kernel_rfl⟩

def c19 : List C :=
  [C.op none (some 1) (O.box (Opd.t 0)), C.op none (some 2) (O.mv (Opd.c (AV.str []))),
    C.draw d19_0,
    C.op none (some 11) (O.fad 2 (Opd.t 1)), C.op none (some 12) (O.ld (CK.int IntKind.i64) (Opd.t 11)),
    C.op none (some 13) (O.bin BinOp.lss (Opd.t 12) (Opd.c (AV.int IntKind.i64 0))),
    C.cond (Opd.t 13)
      [C.op none (some 14) (O.mv (Opd.t 3)),
        C.op none (some 15)
          (O.bin BinOp.add (Opd.t 14)
            (Opd.c (AV.str [0]))),
        C.op none (some 16) (O.call 35 [Opd.t 15]), C.op none (some 2) (O.mv (Opd.t 16)), C.ret]
      [],
    C.draw d19_1,
    C.ret]
def r19 : List RV := [RV.t 2]
theorem c19_ok : cC Try.prog Try.f19.ntmps (Try.f19.body.getD .skip) = some c19 := by kernel_rfl

def c20 : List C :=
  [C.op none (some 1) (O.box (Opd.t 0)), C.op none (some 2) (O.mv (Opd.c AV.nilptr)),
    C.op none (some 3) (O.mv (Opd.c (AV.int IntKind.i64 0))),
    C.op none (some 7) (O.ldn [CK.int IntKind.i64, CK.int IntKind.i64] (Opd.t 1)),
    C.op none (some 8) (O.call 37 [Opd.t 7]), C.op none (some 6) (O.mv (Opd.t 8)),
    C.op none (some 9) (O.ext (Opd.t 6) 0), C.op none (some 10) (O.ext (Opd.t 6) 1),
    C.op none (some 4) (O.mv (Opd.t 9)), C.op none (some 5) (O.mv (Opd.t 10)), C.op none (some 11) (O.mv (Opd.t 5)),
    C.op none (some 12) (O.bin BinOp.neq (Opd.t 11) (Opd.c (AV.int IntKind.i64 0))),
    C.cond (Opd.t 12)
      [C.op none (some 13) (O.mv (Opd.t 5)), C.op none (some 2) (O.mv (Opd.c AV.nilptr)),
        C.op none (some 3) (O.mv (Opd.t 13)), C.ret]
      [],
    C.op none (some 14) (O.call 38 [Opd.c (AV.int IntKind.u32 0)]),
    C.op none (some 15) (O.call 39 [Opd.c (AV.int IntKind.u32 0)]), C.op none (some 16) (O.mv (Opd.t 4)),
    C.op none (some 17)
      (O.build
        [AV.nilptr, AV.nilptr, AV.nilptr, AV.str [], AV.int IntKind.i64 0, AV.nilsl, AV.bool false,
          AV.int IntKind.i64 0, AV.int IntKind.i64 0]
        [(0, 1, Opd.t 14), (1, 1, Opd.t 15), (2, 1, Opd.t 16)]),
    C.op none (some 18) (O.box (Opd.t 17)), C.op none (some 2) (O.mv (Opd.t 18)),
    C.op none (some 3) (O.mv (Opd.c (AV.int IntKind.i64 0))), C.ret]
def r20 : List RV := [RV.t 2, RV.t 3]
theorem c20_ok : cC Try.prog Try.f20.ntmps (Try.f20.body.getD .skip) = some c20 := by kernel_rfl

def c21 : List C :=
  [C.op none (some 0) (O.alloc [AV.int IntKind.i64 0, AV.int IntKind.i64 0]),
    C.op none (some 1)
      (O.build [AV.int IntKind.i64 0, AV.int IntKind.i64 0]
        [(0, 1, Opd.c (AV.int IntKind.i64 3)), (1, 1, Opd.c (AV.int IntKind.i64 12))]),
    C.op none none (O.st 2 (Opd.t 0) (Opd.t 1)), C.ret]
def r21 : List RV := [RV.cn 0 2]
theorem c21_ok : cC Try.prog Try.f21.ntmps (Try.f21.body.getD .skip) = some c21 := by kernel_rfl

def c22 : List C :=
  [C.op none (some 4) (O.mv (Opd.c AV.nilsl)), C.op none (some 5) (O.mv (Opd.c AV.nilsl)), C.op none (some 13) O.mkmap,
    C.op none (some 6) (O.mv (Opd.t 13)), C.op none (some 14) (O.mv (Opd.t 0)), C.op none (some 15) (O.nck (Opd.t 14)),
    C.op none (some 16) (O.fad 2 (Opd.t 15)), C.op none (some 17) (O.ld CK.any (Opd.t 16)),
    C.op none (some 18) (O.mv (Opd.t 1)), C.op none (some 19) (O.call 40 [Opd.t 17, Opd.t 18]),
    C.op none (some 20) (O.len false (Opd.t 19)), C.op none (some 21) (O.mv (Opd.c (AV.int IntKind.i64 0))),
    C.blk 0
      [C.loop
          [C.op none (some 22) (O.bin BinOp.lss (Opd.t 21) (Opd.t 20)), C.cond (Opd.t 22) [] [C.exit 0],
            C.blk 1
              [C.op none (some 23) (O.mv (Opd.t 21)), C.op none (some 24) (O.iad 1 (Opd.t 19) (Opd.t 21)),
                C.op none (some 25) (O.ld (CK.int IntKind.u32) (Opd.t 24)), C.op none (some 7) (O.mv (Opd.t 23)),
                C.op none (some 8) (O.mv (Opd.t 25)), C.op none (some 26) (O.mv (Opd.t 6)),
                C.op none (some 27) (O.mv (Opd.t 8)), C.op none (some 28) (O.mv (Opd.t 7)),
                C.op none (some 29) (O.bin BinOp.add (Opd.t 28) (Opd.c (AV.int IntKind.i64 1))),
                C.op none none (O.mput false (Opd.t 26) (Opd.t 27) (Opd.t 29))],
            C.op none (some 30) (O.bin BinOp.add (Opd.t 21) (Opd.c (AV.int IntKind.i64 1))),
            C.op none (some 21) (O.mv (Opd.t 30))]],
    C.op none (some 31) (O.mv (Opd.t 0)), C.op none (some 32) (O.nck (Opd.t 31)),
    C.op none (some 33) (O.fad 0 (Opd.t 32)), C.op none (some 34) (O.ld CK.any (Opd.t 33)),
    C.op none (some 35) (O.call 41 [Opd.t 34]), C.op none (some 36) (O.len false (Opd.t 35)),
    C.op none (some 37) (O.mv (Opd.c (AV.int IntKind.i64 0))),
    C.blk 2
      [C.loop
          [C.op none (some 38) (O.bin BinOp.lss (Opd.t 37) (Opd.t 36)), C.cond (Opd.t 38) [] [C.exit 2],
            C.blk 3
              [C.op none (some 39) (O.iad 2 (Opd.t 35) (Opd.t 37)),
                C.op none (some 40) (O.ldn [CK.int IntKind.u32, CK.str] (Opd.t 39)),
                C.op none (some 10) (O.alloc [AV.int IntKind.u32 0, AV.str []]),
                C.op none none (O.st 2 (Opd.t 10) (Opd.t 40)), C.op none (some 41) (O.mv (Opd.t 6)),
                C.op none (some 42) (O.fad 0 (Opd.t 10)), C.op none (some 43) (O.ld (CK.int IntKind.u32) (Opd.t 42)),
                C.op none (some 44)
                  (O.look false (CK.int IntKind.i64) (AV.int IntKind.i64 0) false (Opd.t 41) (Opd.t 43)),
                C.op none (some 45) (O.bin BinOp.gtr (Opd.t 44) (Opd.c (AV.int IntKind.i64 0))),
                C.cond (Opd.t 45)
                  [C.op none (some 46) (O.mv (Opd.t 5)), C.op none (some 47) (O.mv (Opd.t 0)),
                    C.op none (some 48) (O.ldn [CK.int IntKind.u32, CK.str] (Opd.t 10)),
                    C.op none (some 49) (O.bsl 2 [AV.int IntKind.u32 0, AV.str []] 1 [(0, Opd.t 48)]),
                    C.op none (some 50) (O.call 42 [Opd.t 47, Opd.t 49]),
                    C.op none (some 51) (O.bsl 1 [AV.str []] 1 [(0, Opd.t 50)]),
                    C.op none (some 52) (O.app 1 (Opd.t 46) (Opd.t 51)), C.op none (some 5) (O.mv (Opd.t 52))]
                  []],
            C.op none (some 53) (O.bin BinOp.add (Opd.t 37) (Opd.c (AV.int IntKind.i64 1))),
            C.op none (some 37) (O.mv (Opd.t 53))]],
    C.op none (some 54) (O.mv (Opd.t 0)), C.op none (some 55) (O.mv (Opd.t 1)),
    C.op none (some 56) (O.call 43 [Opd.t 54, Opd.t 55]), C.op none (some 57) (O.len false (Opd.t 56)),
    C.op none (some 58) (O.mv (Opd.c (AV.int IntKind.i64 0))),
    C.blk 4
      [C.loop
          [C.op none (some 59) (O.bin BinOp.lss (Opd.t 58) (Opd.t 57)), C.cond (Opd.t 59) [] [C.exit 4],
            C.blk 5
              [C.op none (some 60) (O.iad 2 (Opd.t 56) (Opd.t 58)),
                C.op none (some 61) (O.ldn [CK.int IntKind.u32, CK.str] (Opd.t 60)),
                C.op none (some 12) (O.alloc [AV.int IntKind.u32 0, AV.str []]),
                C.op none none (O.st 2 (Opd.t 12) (Opd.t 61)), C.op none (some 62) (O.mv (Opd.t 5)),
                C.op none (some 63) (O.mv (Opd.t 0)),
                C.op none (some 64) (O.ldn [CK.int IntKind.u32, CK.str] (Opd.t 12)),
                C.op none (some 65) (O.bsl 2 [AV.int IntKind.u32 0, AV.str []] 1 [(0, Opd.t 64)]),
                C.op none (some 66) (O.call 42 [Opd.t 63, Opd.t 65]),
                C.op none (some 67) (O.bsl 1 [AV.str []] 1 [(0, Opd.t 66)]),
                C.op none (some 68) (O.app 1 (Opd.t 62) (Opd.t 67)), C.op none (some 5) (O.mv (Opd.t 68))],
            C.op none (some 69) (O.bin BinOp.add (Opd.t 58) (Opd.c (AV.int IntKind.i64 1))),
            C.op none (some 58) (O.mv (Opd.t 69))]],
    C.op none (some 70) (O.mv (Opd.t 0)), C.op none (some 71) (O.nck (Opd.t 70)),
    C.op none (some 72) (O.fad 6 (Opd.t 71)), C.op none (some 73) (O.ld CK.bool (Opd.t 72)),
    C.op none (some 74) (O.mv (Opd.t 73)), C.op (some (74, true)) (some 75) (O.mv (Opd.t 5)),
    C.op (some (74, true)) (some 76) (O.len false (Opd.t 75)),
    C.op (some (74, true)) (some 77) (O.bin BinOp.eql (Opd.t 76) (Opd.c (AV.int IntKind.i64 0))),
    C.op none (some 78) (O.pick (Opd.t 74) (Opd.t 77) (Opd.c (AV.bool false))),
    C.cond (Opd.t 78)
      [C.op none (some 79) (O.mv (Opd.t 5)), C.op none (some 80) (O.mv (Opd.t 0)),
        C.op none (some 81) (O.call 42 [Opd.t 80, Opd.c AV.nilsl]),
        C.op none (some 82) (O.bsl 1 [AV.str []] 1 [(0, Opd.t 81)]),
        C.op none (some 83) (O.app 1 (Opd.t 79) (Opd.t 82)), C.op none (some 5) (O.mv (Opd.t 83))]
      [],
    C.op none (some 84) (O.mv (Opd.t 0)), C.op none (some 85) (O.nck (Opd.t 84)),
    C.op none (some 86) (O.fad 6 (Opd.t 85)), C.op none none (O.st 1 (Opd.t 86) (Opd.c (AV.bool false))),
    C.op none (some 87) (O.mv (Opd.t 5)), C.op none (some 4) (O.mv (Opd.t 87)), C.ret]
def r22 : List RV := [RV.t 4]
theorem c22_ok : cC Try.prog Try.f22.ntmps (Try.f22.body.getD .skip) = some c22 := by kernel_rfl

def c23 : List C :=
  [C.op none (some 2) (O.mv (Opd.c (AV.int IntKind.i64 0))), C.op none (some 3) (O.mv (Opd.t 0)),
    C.op none (some 4) (O.nck (Opd.t 3)), C.op none (some 5) (O.fad 1 (Opd.t 4)),
    C.op none (some 6) (O.ld CK.any (Opd.t 5)), C.op none (some 7) (O.len false (Opd.t 6)),
    C.op none (some 2) (O.mv (Opd.t 7)), C.ret]
def r23 : List RV := [RV.t 2]
theorem c23_ok : cC Try.prog Try.f23.ntmps (Try.f23.body.getD .skip) = some c23 := by kernel_rfl

def c24 : List C :=
  [C.op none (some 2) (O.mv (Opd.c AV.nilsl)), C.op none (some 3) (O.mv (Opd.c (AV.int IntKind.i64 0))),
    C.op none (some 5) (O.mv (Opd.t 0)), C.op none (some 6) (O.len true (Opd.t 5)),
    C.op none (some 7) (O.bin BinOp.gtr (Opd.t 6) (Opd.c (AV.int IntKind.i64 65536))),
    C.cond (Opd.t 7)
      [C.op none (some 2) (O.mv (Opd.c AV.nilsl)), C.op none (some 3) (O.mv (Opd.c (AV.int IntKind.i64 3))),
        C.ret]
      [],
    C.op none (some 4) (O.mv (Opd.c AV.nilsl)),
    C.blk 0
      [C.loop
          [C.op none (some 8) (O.mv (Opd.t 0)), C.op none (some 9) (O.len true (Opd.t 8)),
            C.op none (some 10) (O.bin BinOp.gtr (Opd.t 9) (Opd.c (AV.int IntKind.i64 200))),
            C.cond (Opd.t 10) [] [C.exit 0],
            C.blk 1
              [C.op none (some 11) (O.mv (Opd.t 4)), C.op none (some 12) (O.mv (Opd.t 0)),
                C.op none (some 13) (O.ssl (Opd.t 12) none (some (Opd.c (AV.int IntKind.i64 200)))),
                C.op none (some 14) (O.build [AV.bool false, AV.str []] [(1, 1, Opd.t 13)]),
                C.op none (some 15) (O.bsl 2 [AV.bool false, AV.str []] 1 [(0, Opd.t 14)]),
                C.op none (some 16) (O.app 2 (Opd.t 11) (Opd.t 15)), C.op none (some 4) (O.mv (Opd.t 16)),
                C.op none (some 17) (O.mv (Opd.t 0)),
                C.op none (some 18) (O.ssl (Opd.t 17) (some (Opd.c (AV.int IntKind.i64 200))) none),
                C.op none (some 0) (O.mv (Opd.t 18))]]],
    C.op none (some 19) (O.mv (Opd.t 4)), C.op none (some 20) (O.mv (Opd.t 0)),
    C.op none (some 21) (O.build [AV.bool false, AV.str []] [(0, 1, Opd.c (AV.bool true)), (1, 1, Opd.t 20)]),
    C.op none (some 22) (O.bsl 2 [AV.bool false, AV.str []] 1 [(0, Opd.t 21)]),
    C.op none (some 23) (O.app 2 (Opd.t 19) (Opd.t 22)), C.op none (some 2) (O.mv (Opd.t 23)),
    C.op none (some 3) (O.mv (Opd.c (AV.int IntKind.i64 0))), C.ret]
def r24 : List RV := [RV.t 2, RV.t 3]
theorem c24_ok : cC Try.prog Try.f24.ntmps (Try.f24.body.getD .skip) = some c24 := by kernel_rfl

def c25 : List C :=
  [C.op none (some 2) (O.mv (Opd.c (AV.str []))), C.op none (some 3) (O.mv (Opd.c (AV.int IntKind.i64 0))),
    C.op none (some 4) (O.mv (Opd.t 0)), C.op none (some 5) (O.len true (Opd.t 4)),
    C.op none (some 6) (O.bin BinOp.lss (Opd.t 5) (Opd.c (AV.int IntKind.i64 5))),
    C.cond (Opd.t 6)
      [C.op none (some 2) (O.mv (Opd.c (AV.str []))),
        C.op none (some 3) (O.mv (Opd.c (AV.int IntKind.i64 1))), C.ret]
      [],
    C.op none (some 7) (O.mv (Opd.t 0)),
    C.op none (some 8) (O.ist (Opd.t 7) (Opd.c (AV.int IntKind.i64 0))),
    C.op none (some 9) (O.bin BinOp.neq (Opd.t 8) (Opd.c (AV.int IntKind.u8 7))),
    C.cond (Opd.t 9)
      [C.op none (some 2) (O.mv (Opd.c (AV.str []))),
        C.op none (some 3) (O.mv (Opd.c (AV.int IntKind.i64 6))), C.ret]
      [],
    C.op none (some 10) (O.mv (Opd.t 0)),
    C.op none (some 11) (O.ssl (Opd.t 10) (some (Opd.c (AV.int IntKind.i64 5))) none),
    C.op none (some 12) (O.call 35 [Opd.t 11]), C.op none (some 13) (O.mv (Opd.t 0)),
    C.op none (some 14) (O.bin BinOp.neq (Opd.t 12) (Opd.t 13)),
    C.cond (Opd.t 14)
      [C.op none (some 2) (O.mv (Opd.c (AV.str []))),
        C.op none (some 3) (O.mv (Opd.c (AV.int IntKind.i64 5))), C.ret]
      [],
    C.op none (some 15) (O.mv (Opd.t 0)),
    C.op none (some 16) (O.ssl (Opd.t 15) (some (Opd.c (AV.int IntKind.i64 5))) none),
    C.op none (some 2) (O.mv (Opd.t 16)), C.op none (some 3) (O.mv (Opd.c (AV.int IntKind.i64 0))), C.ret]
def r25 : List RV := [RV.t 2, RV.t 3]
theorem c25_ok : cC Try.prog Try.f25.ntmps (Try.f25.body.getD .skip) = some c25 := by kernel_rfl

def c26 : List C :=
  [C.op none (some 2) (O.box (Opd.t 0)), C.op none (some 4) (O.alloc [AV.str [], AV.int IntKind.i64 0]),
    C.op none (some 5) (O.mv (Opd.c (AV.int IntKind.i64 0))),
    C.op none (some 8) (O.ldn [CK.str, CK.int IntKind.i64] (Opd.t 2)), C.op none (some 9) (O.call 44 [Opd.t 8]),
    C.op none (some 7) (O.mv (Opd.t 9)), C.op none (some 10) (O.ext (Opd.t 7) 0),
    C.op none (some 11) (O.ext (Opd.t 7) 1), C.op none none (O.st 2 (Opd.t 2) (Opd.t 10)),
    C.op none (some 6) (O.mv (Opd.t 11)), C.op none (some 12) (O.mv (Opd.t 6)), C.op none (some 13) (O.mv (Opd.t 1)),
    C.op none (some 14) (O.mx [Opd.t 13, Opd.c (AV.int IntKind.i64 0)]),
    C.op none (some 15) (O.cvi IntKind.u64 (Opd.t 14)), C.op none (some 16) (O.bin BinOp.gtr (Opd.t 12) (Opd.t 15)),
    C.cond (Opd.t 16)
      [C.op none (some 17) (O.ldn [CK.str, CK.int IntKind.i64] (Opd.t 2)),
        C.op none (some 18) (O.call 45 [Opd.t 17, Opd.c (AV.int IntKind.i64 3)]),
        C.op none none (O.st 2 (Opd.t 4) (Opd.t 18)),
        C.op none (some 5) (O.mv (Opd.c (AV.int IntKind.i64 0))), C.ret]
      [],
    C.op none (some 19) (O.ldn [CK.str, CK.int IntKind.i64] (Opd.t 2)), C.op none (some 20) (O.mv (Opd.t 6)),
    C.op none (some 21) (O.cvi IntKind.i64 (Opd.t 20)), C.op none none (O.st 2 (Opd.t 4) (Opd.t 19)),
    C.op none (some 5) (O.mv (Opd.t 21)), C.ret]
def r26 : List RV := [RV.cn 4 2, RV.t 5]
theorem c26_ok : cC Try.prog Try.f26.ntmps (Try.f26.body.getD .skip) = some c26 := by kernel_rfl

def c27 : List C :=
  [C.op none (some 2) (O.box (Opd.t 0)), C.op none (some 4) (O.alloc [AV.str [], AV.int IntKind.i64 0]),
    C.op none (some 5) (O.mv (Opd.c (AV.str []))), C.op none (some 8) (O.ldn [CK.str, CK.int IntKind.i64] (Opd.t 2)),
    C.op none (some 9) (O.mv (Opd.t 1)), C.op none (some 10) (O.call 26 [Opd.t 8, Opd.t 9]),
    C.op none (some 7) (O.mv (Opd.t 10)), C.op none (some 11) (O.ext (Opd.t 7) 0),
    C.op none (some 12) (O.ext (Opd.t 7) 1), C.op none none (O.st 2 (Opd.t 2) (Opd.t 11)),
    C.op none (some 6) (O.mv (Opd.t 12)), C.op none (some 13) (O.ldn [CK.str, CK.int IntKind.i64] (Opd.t 2)),
    C.op none (some 14) (O.mv (Opd.t 6)), C.op none (some 15) (O.call 46 [Opd.t 13, Opd.t 14]),
    C.op none (some 16) (O.ext (Opd.t 15) 0), C.op none (some 17) (O.ext (Opd.t 15) 1),
    C.op none none (O.st 2 (Opd.t 4) (Opd.t 16)), C.op none (some 5) (O.mv (Opd.t 17)), C.ret]
def r27 : List RV := [RV.cn 4 2, RV.t 5]
theorem c27_ok : cC Try.prog Try.f27.ntmps (Try.f27.body.getD .skip) = some c27 := by kernel_rfl

def c28 : List C :=
  [C.op none (some 1) (O.box (Opd.t 0)), C.op none (some 2) (O.mv (Opd.c (AV.int IntKind.i64 0))),
    C.op none (some 3) (O.fad 1 (Opd.t 1)), C.op none (some 4) (O.ld (CK.int IntKind.i64) (Opd.t 3)),
    C.op none (some 5) (O.bin BinOp.eql (Opd.t 4) (Opd.c (AV.int IntKind.i64 0))),
    C.op none (some 6) (O.mv (Opd.t 5)), C.op (some (6, true)) (some 7) (O.fad 0 (Opd.t 1)),
    C.op (some (6, true)) (some 8) (O.ld CK.str (Opd.t 7)),
    C.op (some (6, true)) (some 9) (O.bin BinOp.neq (Opd.t 8) (Opd.c (AV.str []))),
    C.op none (some 10) (O.pick (Opd.t 6) (Opd.t 9) (Opd.c (AV.bool false))),
    C.cond (Opd.t 10) [C.op none (some 2) (O.mv (Opd.c (AV.int IntKind.i64 2))), C.ret] [],
    C.op none (some 11) (O.fad 1 (Opd.t 1)), C.op none (some 12) (O.ld (CK.int IntKind.i64) (Opd.t 11)),
    C.op none (some 2) (O.mv (Opd.t 12)), C.ret]
def r28 : List RV := [RV.t 2]
theorem c28_ok : cC Try.prog Try.f28.ntmps (Try.f28.body.getD .skip) = some c28 := by kernel_rfl

def d29_0 : List It :=
  [(none, some 49, O.ldn [CK.int IntKind.u32, CK.int IntKind.u32] (Opd.t 8), []),
        (none, some 50, O.mv (Opd.t 9), []), (none, some 51, O.mv (Opd.t 7), []),
        (none, some 52, O.call 52 [Opd.t 51], [2]), (none, none, O.st 2 (Opd.t 2) (Opd.t 49), [0, 3, 0]),
        (none, some 3, O.mv (Opd.t 50), [1, 4, 0, 1, 4]), (none, some 4, O.mv (Opd.t 52), [3, 5, 0, 1, 2, 3, 4, 5])]
def o29_0 : List (Nat × Bool) := [(0, false), (1, false), (2, false), (3, true), (4, true), (5, false), (6, false)]
def l29_0 : List (Nat × Bool × It) :=
  [(0, false, (none, some 49, O.ldn [CK.int IntKind.u32, CK.int IntKind.u32] (Opd.t 8), [])),
   (1, false, (none, some 50, O.mv (Opd.t 9), [])),
   (2, false, (none, some 51, O.mv (Opd.t 7), [])),
   (3, true, (none, some 52, O.call 52 [Opd.t 51], [2])),
   (4, true, (none, none, O.st 2 (Opd.t 2) (Opd.t 49), [0, 3, 0])),
   (5, false, (none, some 3, O.mv (Opd.t 50), [1, 4, 0, 1, 4])),
   (6, false, (none, some 4, O.mv (Opd.t 52), [3, 5, 0, 1, 2, 3, 4, 5]))]
theorem l29_0_ok : okDraw d29_0 o29_0 = true ∧ mkL d29_0 o29_0 = some l29_0 := ⟨by kernel_rfl, by kernel_rfl⟩

def c29 : List C :=
  [C.op none (some 2) (O.alloc [AV.int IntKind.u32 0, AV.int IntKind.u32 0]),
    C.op none (some 3) (O.mv (Opd.c AV.nilsl)), C.op none (some 4) (O.mv (Opd.c (AV.int IntKind.i64 0))),
    C.op none (some 12) (O.mv (Opd.t 0)), C.op none (some 13) (O.call 47 [Opd.t 12]),
    C.op none (some 11) (O.mv (Opd.t 13)), C.op none (some 14) (O.ext (Opd.t 11) 0),
    C.op none (some 15) (O.ext (Opd.t 11) 1), C.op none (some 5) (O.mv (Opd.t 14)),
    C.op none (some 6) (O.mv (Opd.t 15)), C.op none (some 16) (O.mv (Opd.t 6)),
    C.op none (some 17) (O.bin BinOp.neq (Opd.t 16) (Opd.c (AV.int IntKind.i64 0))),
    C.cond (Opd.t 17)
      [C.op none (some 18) (O.build [AV.int IntKind.u32 0, AV.int IntKind.u32 0] []),
        C.op none (some 19) (O.mv (Opd.t 6)), C.op none none (O.st 2 (Opd.t 2) (Opd.t 18)),
        C.op none (some 3) (O.mv (Opd.c AV.nilsl)), C.op none (some 4) (O.mv (Opd.t 19)), C.ret]
      [],
    C.op none (some 20) (O.mv (Opd.t 5)), C.op none (some 21) (O.call 48 [Opd.t 20]),
    C.op none (some 7) (O.mv (Opd.t 21)), C.op none (some 22) (O.mv (Opd.t 7)),
    C.op none (some 23) (O.call 49 [Opd.t 22, Opd.c (AV.int IntKind.i64 4294967295)]),
    C.op none (some 24) (O.cvi IntKind.u32 (Opd.t 23)), C.op none (some 25) (O.mv (Opd.t 7)),
    C.op none (some 26) (O.call 49 [Opd.t 25, Opd.c (AV.int IntKind.i64 4294967295)]),
    C.op none (some 27) (O.cvi IntKind.u32 (Opd.t 26)),
    C.op none (some 28)
      (O.build [AV.int IntKind.u32 0, AV.int IntKind.u32 0]
        [(0, 1, Opd.t 24), (1, 1, Opd.t 27)]),
    C.op none (some 8) (O.alloc [AV.int IntKind.u32 0, AV.int IntKind.u32 0]),
    C.op none none (O.st 2 (Opd.t 8) (Opd.t 28)), C.op none (some 9) (O.mv (Opd.c AV.nilsl)),
    C.op none (some 29) (O.mv (Opd.t 7)),
    C.op none (some 30) (O.call 49 [Opd.t 29, Opd.c (AV.int IntKind.i64 1)]),
    C.op none (some 10) (O.mv (Opd.t 30)),
    C.blk 0
      [C.loop
          [C.op none (some 31) (O.mv (Opd.t 10)),
            C.op none (some 32) (O.bin BinOp.gtr (Opd.t 31) (Opd.c (AV.int IntKind.i64 0))),
            C.op none (some 33) (O.mv (Opd.t 32)), C.op (some (33, true)) (some 34) (O.mv (Opd.t 7)),
            C.op (some (33, true)) (some 35) (O.call 50 [Opd.t 34]),
            C.op (some (33, true)) (some 36) (O.bin BinOp.eql (Opd.t 35) (Opd.c (AV.int IntKind.i64 0))),
            C.op none (some 37) (O.pick (Opd.t 33) (Opd.t 36) (Opd.c (AV.bool false))), C.cond (Opd.t 37) [] [C.exit 0],
            C.blk 1
              [C.op none (some 40) (O.mv (Opd.t 9)), C.op none (some 41) (O.mv (Opd.t 7)),
                C.op none (some 42) (O.call 49 [Opd.t 41, Opd.c (AV.int IntKind.i64 4294967295)]),
                C.op none (some 43) (O.cvi IntKind.u32 (Opd.t 42)), C.op none (some 44) (O.mv (Opd.t 7)),
                C.op none (some 45) (O.call 51 [Opd.t 44, Opd.c (AV.int IntKind.i64 201)]),
                C.op none (some 46)
                  (O.build [AV.int IntKind.u32 0, AV.str []] [(0, 1, Opd.t 43), (1, 1, Opd.t 45)]),
                C.op none (some 47) (O.bsl 2 [AV.int IntKind.u32 0, AV.str []] 1 [(0, Opd.t 46)]),
                C.op none (some 48) (O.app 2 (Opd.t 40) (Opd.t 47)), C.op none (some 9) (O.mv (Opd.t 48))],
            C.op none (some 38) (O.mv (Opd.t 10)),
            C.op none (some 39) (O.bin BinOp.sub (Opd.t 38) (Opd.c (AV.int IntKind.i64 1))),
            C.op none (some 10) (O.mv (Opd.t 39))]],
    C.draw d29_0,
    C.ret]
def r29 : List RV := [RV.cn 2 2, RV.t 3, RV.t 4]
theorem c29_ok : cC Try.prog Try.f29.ntmps (Try.f29.body.getD .skip) = some c29 := by kernel_rfl

def c30 : List C :=
  [C.op none (some 3) (O.box (Opd.t 1)), C.op none (some 4) (O.mv (Opd.c (AV.int IntKind.i64 0))),
    C.op none (some 6) (O.mv (Opd.t 0)), C.op none (some 7) (O.nck (Opd.t 6)), C.op none (some 8) (O.fad 2 (Opd.t 7)),
    C.op none (some 9) (O.ld CK.any (Opd.t 8)), C.op none (some 10) (O.len false (Opd.t 9)),
    C.op none (some 5) (O.mv (Opd.t 10)), C.op none (some 11) (O.mv (Opd.t 0)), C.op none (some 12) (O.mv (Opd.t 0)),
    C.op none (some 13) (O.nck (Opd.t 12)), C.op none (some 14) (O.fad 2 (Opd.t 13)),
    C.op none (some 15) (O.ld CK.any (Opd.t 14)), C.op none (some 16) (O.call 54 [Opd.t 15]),
    C.op none (some 17) (O.mkfn 55 [] [Opd.t 3]), C.op none (some 18) (O.call 53 [Opd.t 16, Opd.t 17]),
    C.op none (some 19) (O.nck (Opd.t 11)), C.op none (some 20) (O.fad 2 (Opd.t 19)),
    C.op none none (O.st 1 (Opd.t 20) (Opd.t 18)), C.op none (some 21) (O.mv (Opd.t 5)),
    C.op none (some 22) (O.mv (Opd.t 0)), C.op none (some 23) (O.nck (Opd.t 22)),
    C.op none (some 24) (O.fad 2 (Opd.t 23)), C.op none (some 25) (O.ld CK.any (Opd.t 24)),
    C.op none (some 26) (O.len false (Opd.t 25)), C.op none (some 27) (O.bin BinOp.sub (Opd.t 21) (Opd.t 26)),
    C.op none (some 4) (O.mv (Opd.t 27)), C.ret]
def r30 : List RV := [RV.t 4]
theorem c30_ok : cC Try.prog Try.f30.ntmps (Try.f30.body.getD .skip) = some c30 := by kernel_rfl

def d31_0 : List It :=
  [(none, some 7, O.mv (Opd.t 0), []), (none, some 8, O.nck (Opd.t 7), [0]), (none, some 9, O.fad 0 (Opd.t 8), [1]),
        (none, some 10, O.ld (CK.int IntKind.u32) (Opd.t 9), [2]), (none, some 11, O.fad 0 (Opd.t 3), []),
        (none, some 12, O.ld (CK.int IntKind.u32) (Opd.t 11), [4]),
        (none, some 13, O.bin BinOp.sub (Opd.t 10) (Opd.t 12), [3, 5]),
        (none, some 5, O.mv (Opd.t 13), [6, 0, 1, 2, 3, 4, 5, 6])]
def o31_0 : List (Nat × Bool) := [(0, false), (1, false), (2, false), (3, false), (4, false), (5, false), (6, false), (7, false)]
def l31_0 : List (Nat × Bool × It) :=
  [(0, false, (none, some 7, O.mv (Opd.t 0), [])),
   (1, false, (none, some 8, O.nck (Opd.t 7), [0])),
   (2, false, (none, some 9, O.fad 0 (Opd.t 8), [1])),
   (3, false, (none, some 10, O.ld (CK.int IntKind.u32) (Opd.t 9), [2])),
   (4, false, (none, some 11, O.fad 0 (Opd.t 3), [])),
   (5, false, (none, some 12, O.ld (CK.int IntKind.u32) (Opd.t 11), [4])),
   (6, false, (none, some 13, O.bin BinOp.sub (Opd.t 10) (Opd.t 12), [3, 5])),
   (7, false, (none, some 5, O.mv (Opd.t 13), [6, 0, 1, 2, 3, 4, 5, 6]))]
theorem l31_0_ok : okDraw d31_0 o31_0 = true ∧ mkL d31_0 o31_0 = some l31_0 := ⟨by kernel_rfl, by kernel_rfl⟩

def c31 : List C :=
  [C.op none (some 3) (O.box (Opd.t 1)), C.op none (some 4) (O.mv (Opd.c AV.nilsl)),
    C.draw d31_0,
    C.op none (some 14) (O.mv (Opd.t 5)),
    C.op none (some 15) (O.bin BinOp.geq (Opd.t 14) (Opd.c (AV.int IntKind.u32 2147483648))),
    C.cond (Opd.t 15) [C.op none (some 4) (O.mv (Opd.c AV.nilsl)), C.ret] [], C.op none (some 6) (O.alloc [AV.nilsl]),
    C.op none (some 16) (O.mv (Opd.t 0)), C.op none (some 17) (O.mv (Opd.t 0)), C.op none (some 18) (O.nck (Opd.t 17)),
    C.op none (some 19) (O.fad 1 (Opd.t 18)), C.op none (some 20) (O.ld CK.any (Opd.t 19)),
    C.op none (some 21) (O.call 58 [Opd.t 20]), C.op none (some 22) (O.mkfn 59 [] [Opd.t 3, Opd.t 6]),
    C.op none (some 23) (O.call 57 [Opd.t 21, Opd.t 22]), C.op none (some 24) (O.nck (Opd.t 16)),
    C.op none (some 25) (O.fad 1 (Opd.t 24)), C.op none none (O.st 1 (Opd.t 25) (Opd.t 23)),
    C.op none (some 26) (O.ld CK.any (Opd.t 6)), C.op none (some 4) (O.mv (Opd.t 26)), C.ret]
def r31 : List RV := [RV.t 4]
theorem c31_ok : cC Try.prog Try.f31.ntmps (Try.f31.body.getD .skip) = some c31 := by kernel_rfl

def d32_0 : List It :=
  [(none, some 12, O.fad 0 (Opd.t 3), []), (none, some 13, O.ld (CK.int IntKind.u32) (Opd.t 12), [0]),
        (none, some 14, O.mv (Opd.t 0), []), (none, some 15, O.nck (Opd.t 14), [2]),
        (none, some 16, O.fad 0 (Opd.t 15), [3]), (none, some 17, O.ld (CK.int IntKind.u32) (Opd.t 16), [4]),
        (none, some 18, O.bin BinOp.sub (Opd.t 13) (Opd.t 17), [1, 5]),
        (none, some 6, O.mv (Opd.t 18), [6, 0, 1, 2, 3, 4, 5, 6])]
def o32_0 : List (Nat × Bool) := [(0, false), (1, false), (2, false), (3, false), (4, false), (5, false), (6, false), (7, false)]
def l32_0 : List (Nat × Bool × It) :=
  [(0, false, (none, some 12, O.fad 0 (Opd.t 3), [])),
   (1, false, (none, some 13, O.ld (CK.int IntKind.u32) (Opd.t 12), [0])),
   (2, false, (none, some 14, O.mv (Opd.t 0), [])),
   (3, false, (none, some 15, O.nck (Opd.t 14), [2])),
   (4, false, (none, some 16, O.fad 0 (Opd.t 15), [3])),
   (5, false, (none, some 17, O.ld (CK.int IntKind.u32) (Opd.t 16), [4])),
   (6, false, (none, some 18, O.bin BinOp.sub (Opd.t 13) (Opd.t 17), [1, 5])),
   (7, false, (none, some 6, O.mv (Opd.t 18), [6, 0, 1, 2, 3, 4, 5, 6]))]
theorem l32_0_ok : okDraw d32_0 o32_0 = true ∧ mkL d32_0 o32_0 = some l32_0 := ⟨by kernel_rfl, by kernel_rfl⟩

def d32_1 : List It :=
  [(none, some 26, O.mv (Opd.t 0), []), (none, some 27, O.nck (Opd.t 26), [0]),
        (none, some 28, O.fad 1 (Opd.t 27), [1]), (none, some 29, O.ld CK.any (Opd.t 28), [2]),
        (none, some 30, O.fad 0 (Opd.t 3), []), (none, some 31, O.ld (CK.int IntKind.u32) (Opd.t 30), [4]),
        (none, some 32, O.look false CK.str (AV.str []) true (Opd.t 29) (Opd.t 31), [3, 5]),
        (none, some 25, O.mv (Opd.t 32), [6]), (none, some 33, O.ext (Opd.t 25) 0, [7]),
        (none, some 34, O.ext (Opd.t 25) 1, [7]), (none, some 7, O.mv (Opd.t 33), [8, 0, 1, 2, 3, 4, 5, 6, 7, 8]),
        (none, some 8, O.mv (Opd.t 34), [9, 10, 0, 1, 2, 3, 4, 5, 6, 7, 8, 9, 10])]
def o32_1 : List (Nat × Bool) := [(0, false), (1, false), (2, false), (3, false), (4, false), (5, false), (6, false), (7, false), (8, false), (9, false), (10, false), (11, false)]
def l32_1 : List (Nat × Bool × It) :=
  [(0, false, (none, some 26, O.mv (Opd.t 0), [])),
   (1, false, (none, some 27, O.nck (Opd.t 26), [0])),
   (2, false, (none, some 28, O.fad 1 (Opd.t 27), [1])),
   (3, false, (none, some 29, O.ld CK.any (Opd.t 28), [2])),
   (4, false, (none, some 30, O.fad 0 (Opd.t 3), [])),
   (5, false, (none, some 31, O.ld (CK.int IntKind.u32) (Opd.t 30), [4])),
   (6, false, (none, some 32, O.look false CK.str (AV.str []) true (Opd.t 29) (Opd.t 31), [3, 5])),
   (7, false, (none, some 25, O.mv (Opd.t 32), [6])),
   (8, false, (none, some 33, O.ext (Opd.t 25) 0, [7])),
   (9, false, (none, some 34, O.ext (Opd.t 25) 1, [7])),
   (10, false, (none, some 7, O.mv (Opd.t 33), [8, 0, 1, 2, 3, 4, 5, 6, 7, 8])),
   (11, false, (none, some 8, O.mv (Opd.t 34), [9, 10, 0, 1, 2, 3, 4, 5, 6, 7, 8, 9, 10]))]
theorem l32_1_ok : okDraw d32_1 o32_1 = true ∧ mkL d32_1 o32_1 = some l32_1 := ⟨by kernel_rfl, by kernel_rfl⟩

def d32_2 : List It :=
  [(none, some 36, O.mv (Opd.t 0), []), (none, some 37, O.nck (Opd.t 36), [0]),
        (none, some 38, O.fad 1 (Opd.t 37), [1]), (none, some 39, O.ld CK.any (Opd.t 38), [2]),
        (none, some 40, O.fad 0 (Opd.t 3), []), (none, some 41, O.ld (CK.int IntKind.u32) (Opd.t 40), [4]),
        (none, some 42, O.fad 1 (Opd.t 3), []), (none, some 43, O.ld CK.str (Opd.t 42), [6]),
        (none, none, O.mput false (Opd.t 39) (Opd.t 41) (Opd.t 43), [3, 5, 7, 0, 1, 2, 3, 4, 5, 6, 7])]
def o32_2 : List (Nat × Bool) := [(0, false), (1, false), (2, false), (3, false), (4, false), (5, false), (6, false), (7, false), (8, true)]
def l32_2 : List (Nat × Bool × It) :=
  [(0, false, (none, some 36, O.mv (Opd.t 0), [])),
   (1, false, (none, some 37, O.nck (Opd.t 36), [0])),
   (2, false, (none, some 38, O.fad 1 (Opd.t 37), [1])),
   (3, false, (none, some 39, O.ld CK.any (Opd.t 38), [2])),
   (4, false, (none, some 40, O.fad 0 (Opd.t 3), [])),
   (5, false, (none, some 41, O.ld (CK.int IntKind.u32) (Opd.t 40), [4])),
   (6, false, (none, some 42, O.fad 1 (Opd.t 3), [])),
   (7, false, (none, some 43, O.ld CK.str (Opd.t 42), [6])),
   (8, true, (none, none, O.mput false (Opd.t 39) (Opd.t 41) (Opd.t 43), [3, 5, 7, 0, 1, 2, 3, 4, 5, 6, 7]))]
theorem l32_2_ok : okDraw d32_2 o32_2 = true ∧ mkL d32_2 o32_2 = some l32_2 := ⟨by kernel_rfl, by kernel_rfl⟩

def d32_3 : List It :=
  [(none, some 45, O.mv (Opd.t 0), []), (none, some 46, O.nck (Opd.t 45), [0]),
                    (none, some 47, O.fad 1 (Opd.t 46), [1]), (none, some 48, O.ld CK.any (Opd.t 47), [2]),
                    (none, some 49, O.mv (Opd.t 0), []), (none, some 50, O.nck (Opd.t 49), [4]),
                    (none, some 51, O.fad 0 (Opd.t 50), [5]),
                    (none, some 52, O.ld (CK.int IntKind.u32) (Opd.t 51), [6]),
                    (none, some 53, O.look false CK.str (AV.str []) true (Opd.t 48) (Opd.t 52), [3, 7]),
                    (none, some 44, O.mv (Opd.t 53), [8]), (none, some 54, O.ext (Opd.t 44) 0, [9]),
                    (none, some 55, O.ext (Opd.t 44) 1, [9]),
                    (none, some 10, O.mv (Opd.t 54), [10, 0, 1, 2, 3, 4, 5, 6, 7, 8, 9, 10]),
                    (none, some 11, O.mv (Opd.t 55), [11, 12, 0, 1, 2, 3, 4, 5, 6, 7, 8, 9, 10, 11, 12])]
def o32_3 : List (Nat × Bool) := [(0, false), (1, false), (2, false), (3, false), (4, false), (5, false), (6, false), (7, false), (8, false), (9, false), (10, false), (11, false), (12, false), (13, false)]
def l32_3 : List (Nat × Bool × It) :=
  [(0, false, (none, some 45, O.mv (Opd.t 0), [])),
   (1, false, (none, some 46, O.nck (Opd.t 45), [0])),
   (2, false, (none, some 47, O.fad 1 (Opd.t 46), [1])),
   (3, false, (none, some 48, O.ld CK.any (Opd.t 47), [2])),
   (4, false, (none, some 49, O.mv (Opd.t 0), [])),
   (5, false, (none, some 50, O.nck (Opd.t 49), [4])),
   (6, false, (none, some 51, O.fad 0 (Opd.t 50), [5])),
   (7, false, (none, some 52, O.ld (CK.int IntKind.u32) (Opd.t 51), [6])),
   (8, false, (none, some 53, O.look false CK.str (AV.str []) true (Opd.t 48) (Opd.t 52), [3, 7])),
   (9, false, (none, some 44, O.mv (Opd.t 53), [8])),
   (10, false, (none, some 54, O.ext (Opd.t 44) 0, [9])),
   (11, false, (none, some 55, O.ext (Opd.t 44) 1, [9])),
   (12, false, (none, some 10, O.mv (Opd.t 54), [10, 0, 1, 2, 3, 4, 5, 6, 7, 8, 9, 10])),
   (13, false, (none, some 11, O.mv (Opd.t 55), [11, 12, 0, 1, 2, 3, 4, 5, 6, 7, 8, 9, 10, 11, 12]))]
theorem l32_3_ok : okDraw d32_3 o32_3 = true ∧ mkL d32_3 o32_3 = some l32_3 := ⟨by kernel_rfl, by kernel_rfl⟩

def d32_4 : List It :=
  [(none, some 59, O.mv (Opd.t 0), []), (none, some 60, O.nck (Opd.t 59), [0]),
                    (none, some 61, O.fad 1 (Opd.t 60), [1]), (none, some 62, O.ld CK.any (Opd.t 61), [2]),
                    (none, some 63, O.mv (Opd.t 0), []), (none, some 64, O.nck (Opd.t 63), [4]),
                    (none, some 65, O.fad 0 (Opd.t 64), [5]),
                    (none, some 66, O.ld (CK.int IntKind.u32) (Opd.t 65), [6]),
                    (none, none, O.mdel false (Opd.t 62) (Opd.t 66), [3, 7])]
def o32_4 : List (Nat × Bool) := [(0, false), (1, false), (2, false), (3, false), (4, false), (5, false), (6, false), (7, false), (8, true)]
def l32_4 : List (Nat × Bool × It) :=
  [(0, false, (none, some 59, O.mv (Opd.t 0), [])),
   (1, false, (none, some 60, O.nck (Opd.t 59), [0])),
   (2, false, (none, some 61, O.fad 1 (Opd.t 60), [1])),
   (3, false, (none, some 62, O.ld CK.any (Opd.t 61), [2])),
   (4, false, (none, some 63, O.mv (Opd.t 0), [])),
   (5, false, (none, some 64, O.nck (Opd.t 63), [4])),
   (6, false, (none, some 65, O.fad 0 (Opd.t 64), [5])),
   (7, false, (none, some 66, O.ld (CK.int IntKind.u32) (Opd.t 65), [6])),
   (8, true, (none, none, O.mdel false (Opd.t 62) (Opd.t 66), [3, 7]))]
theorem l32_4_ok : okDraw d32_4 o32_4 = true ∧ mkL d32_4 o32_4 = some l32_4 := ⟨by kernel_rfl, by kernel_rfl⟩

def c32 : List C :=
  [C.op none (some 3) (O.box (Opd.t 1)), C.op none (some 4) (O.mv (Opd.c AV.nilsl)),
    C.op none (some 5) (O.mv (Opd.c (AV.int IntKind.i64 0))),
    C.draw d32_0,
    C.blk 0
      [C.op none (some 20) (O.mv (Opd.t 6)),
        C.op none (some 21) (O.bin BinOp.geq (Opd.t 20) (Opd.c (AV.int IntKind.u32 2147483648))),
        C.op none (some 19) (O.mv (Opd.t 21)),
        C.cond (Opd.t 19)
          [C.op none (some 4) (O.mv (Opd.c AV.nilsl)),
            C.op none (some 5) (O.mv (Opd.c (AV.int IntKind.i64 11))), C.ret]
          [C.op none (some 23) (O.mv (Opd.t 6)),
            C.op none (some 24) (O.bin BinOp.gtr (Opd.t 23) (Opd.c (AV.int IntKind.u32 32))),
            C.op none (some 22) (O.mv (Opd.t 24)),
            C.cond (Opd.t 22)
              [C.op none (some 4) (O.mv (Opd.c AV.nilsl)),
                C.op none (some 5) (O.mv (Opd.c (AV.int IntKind.i64 8))), C.ret]
              []]],
    C.draw d32_1,
    C.op none (some 35) (O.mv (Opd.t 8)),
    C.cond (Opd.t 35)
      [C.op none (some 4) (O.mv (Opd.c AV.nilsl)),
        C.op none (some 5) (O.mv (Opd.c (AV.int IntKind.i64 10))), C.ret]
      [],
    C.draw d32_2,
    C.op none (some 9) (O.mv (Opd.c AV.nilsl)),
    C.blk 1
      [C.loop
          [C.blk 2
              [C.draw d32_3,
                C.op none (some 56) (O.mv (Opd.t 11)), C.op none (some 57) (O.un UnOp.not (Opd.t 56)),
                C.cond (Opd.t 57)
                  [C.op none (some 58) (O.mv (Opd.t 9)), C.op none (some 4) (O.mv (Opd.t 58)),
                    C.op none (some 5) (O.mv (Opd.c (AV.int IntKind.i64 0))), C.ret]
                  [],
                C.draw d32_4,
                C.op none (some 67) (O.mv (Opd.t 9)), C.op none (some 68) (O.mv (Opd.t 10)),
                C.op none (some 69) (O.bsl 1 [AV.str []] 1 [(0, Opd.t 68)]),
                C.op none (some 70) (O.app 1 (Opd.t 67) (Opd.t 69)), C.op none (some 9) (O.mv (Opd.t 70)),
                C.op none (some 71) (O.mv (Opd.t 0)), C.op none (some 72) (O.nck (Opd.t 71)),
                C.op none (some 73) (O.fad 0 (Opd.t 72)), C.op none (some 74) (O.ld (CK.int IntKind.u32) (Opd.t 73)),
                C.op none (some 75) (O.bin BinOp.add (Opd.t 74) (Opd.c (AV.int IntKind.u32 1))),
                C.op none (some 76) (O.nck (Opd.t 71)), C.op none (some 77) (O.fad 0 (Opd.t 76)),
                C.op none none (O.st 1 (Opd.t 77) (Opd.t 75))]]]]
def r32 : List RV := [RV.t 4, RV.t 5]
theorem c32_ok : cC Try.prog Try.f32.ntmps (Try.f32.body.getD .skip) = some c32 := by kernel_rfl

def d33_0 : List It :=
  [(none, some 23, O.mv (Opd.t 0), []), (none, some 24, O.nck (Opd.t 23), [0]),
        (none, some 25, O.fad 3 (Opd.t 24), [1]), (none, some 26, O.ldn [CK.bool, CK.str] (Opd.t 5), []),
        (none, some 27, O.bsl 2 [AV.bool false, AV.str []] 1 [(0, Opd.t 26)], [3]),
        (none, some 28, O.call 62 [Opd.t 25, Opd.t 27], [2, 4]), (none, some 22, O.mv (Opd.t 28), [5]),
        (none, some 29, O.ext (Opd.t 22) 0, [6]), (none, some 30, O.ext (Opd.t 22) 1, [6]),
        (none, some 7, O.mv (Opd.t 29), [7, 5, 0, 1, 2, 3, 4, 5, 6, 7]),
        (none, some 6, O.mv (Opd.t 30), [8, 9, 0, 1, 2, 3, 4, 5, 6, 7, 8, 9])]
def o33_0 : List (Nat × Bool) := [(0, false), (1, false), (2, false), (3, false), (4, false), (5, true), (6, false), (7, false), (8, false), (9, false), (10, false)]
def l33_0 : List (Nat × Bool × It) :=
  [(0, false, (none, some 23, O.mv (Opd.t 0), [])),
   (1, false, (none, some 24, O.nck (Opd.t 23), [0])),
   (2, false, (none, some 25, O.fad 3 (Opd.t 24), [1])),
   (3, false, (none, some 26, O.ldn [CK.bool, CK.str] (Opd.t 5), [])),
   (4, false, (none, some 27, O.bsl 2 [AV.bool false, AV.str []] 1 [(0, Opd.t 26)], [3])),
   (5, true, (none, some 28, O.call 62 [Opd.t 25, Opd.t 27], [2, 4])),
   (6, false, (none, some 22, O.mv (Opd.t 28), [5])),
   (7, false, (none, some 29, O.ext (Opd.t 22) 0, [6])),
   (8, false, (none, some 30, O.ext (Opd.t 22) 1, [6])),
   (9, false, (none, some 7, O.mv (Opd.t 29), [7, 5, 0, 1, 2, 3, 4, 5, 6, 7])),
   (10, false, (none, some 6, O.mv (Opd.t 30), [8, 9, 0, 1, 2, 3, 4, 5, 6, 7, 8, 9]))]
theorem l33_0_ok : okDraw d33_0 o33_0 = true ∧ mkL d33_0 o33_0 = some l33_0 := ⟨by kernel_rfl, by kernel_rfl⟩

def c33 : List C :=
  [C.op none (some 4) (O.mv (Opd.c AV.nilsl)), C.op none (some 9) (O.mv (Opd.t 1)),
    C.op none (some 10) (O.call 61 [Opd.t 9]), C.op none (some 8) (O.mv (Opd.t 10)),
    C.op none (some 11) (O.ext (Opd.t 8) 0), C.op none (some 12) (O.ext (Opd.t 8) 1),
    C.op none (some 5) (O.alloc [AV.bool false, AV.str []]), C.op none none (O.st 2 (Opd.t 5) (Opd.t 11)),
    C.op none (some 6) (O.mv (Opd.t 12)), C.op none (some 13) (O.mv (Opd.t 6)),
    C.op none (some 14) (O.bin BinOp.neq (Opd.t 13) (Opd.c (AV.int IntKind.i64 0))),
    C.cond (Opd.t 14)
      [C.op none (some 15) (O.mv (Opd.t 0)), C.op none (some 16) (O.nck (Opd.t 15)),
        C.op none (some 17) (O.fad 7 (Opd.t 16)), C.op none (some 18) (O.ld (CK.int IntKind.i64) (Opd.t 17)),
        C.op none (some 19) (O.bin BinOp.add (Opd.t 18) (Opd.c (AV.int IntKind.i64 1))),
        C.op none (some 20) (O.nck (Opd.t 15)), C.op none (some 21) (O.fad 7 (Opd.t 20)),
        C.op none none (O.st 1 (Opd.t 21) (Opd.t 19)), C.op none (some 4) (O.mv (Opd.c AV.nilsl)), C.ret]
      [],
    C.draw d33_0,
    C.op none (some 31) (O.mv (Opd.t 6)),
    C.op none (some 32) (O.bin BinOp.neq (Opd.t 31) (Opd.c (AV.int IntKind.i64 0))),
    C.cond (Opd.t 32)
      [C.op none (some 33) (O.mv (Opd.t 0)), C.op none (some 34) (O.nck (Opd.t 33)),
        C.op none (some 35) (O.fad 7 (Opd.t 34)), C.op none (some 36) (O.ld (CK.int IntKind.i64) (Opd.t 35)),
        C.op none (some 37) (O.bin BinOp.add (Opd.t 36) (Opd.c (AV.int IntKind.i64 1))),
        C.op none (some 38) (O.nck (Opd.t 33)), C.op none (some 39) (O.fad 7 (Opd.t 38)),
        C.op none none (O.st 1 (Opd.t 39) (Opd.t 37))]
      [],
    C.op none (some 40) (O.mv (Opd.t 7)), C.op none (some 4) (O.mv (Opd.t 40)), C.ret]
def r33 : List RV := [RV.t 4]
theorem c33_ok : cC Try.prog Try.f33.ntmps (Try.f33.body.getD .skip) = some c33 := by kernel_rfl

def c34 : List C :=
  [C.op none (some 2) (O.mv (Opd.c (AV.str []))), C.op none (some 3) (O.mv (Opd.t 0)),
    C.op none (some 4) (O.mx [Opd.t 3, Opd.c (AV.int IntKind.i64 0)]),
    C.op none (some 5) (O.cvi IntKind.u64 (Opd.t 4)), C.op none (some 6) (O.call 63 [Opd.t 5]),
    C.op none (some 2) (O.mv (Opd.t 6)), C.ret]
def r34 : List RV := [RV.t 2]
theorem c34_ok : cC Try.prog Try.f34.ntmps (Try.f34.body.getD .skip) = some c34 := by kernel_rfl

def c35 : List C :=
  [C.op none (some 2) (O.mv (Opd.c (AV.str []))), C.op none (some 4) (O.mv (Opd.t 0)),
    C.op none (some 5)
      (O.bin BinOp.add (Opd.c (AV.str [7]))
        (Opd.t 4)),
    C.op none (some 6) (O.call 64 [Opd.t 5]), C.op none (some 3) (O.mv (Opd.t 6)), C.op none (some 7) (O.mv (Opd.t 3)),
    C.op none (some 8) (O.bin BinOp.rem (Opd.t 7) (Opd.c (AV.int IntKind.u32 256))),
    C.op none (some 9) (O.cvi IntKind.u8 (Opd.t 8)), C.op none (some 10) (O.mv (Opd.t 3)),
    C.op none (some 11) (O.bin BinOp.quo (Opd.t 10) (Opd.c (AV.int IntKind.u32 256))),
    C.op none (some 12) (O.bin BinOp.rem (Opd.t 11) (Opd.c (AV.int IntKind.u32 256))),
    C.op none (some 13) (O.cvi IntKind.u8 (Opd.t 12)), C.op none (some 14) (O.mv (Opd.t 3)),
    C.op none (some 15) (O.bin BinOp.quo (Opd.t 14) (Opd.c (AV.int IntKind.u32 65536))),
    C.op none (some 16) (O.bin BinOp.rem (Opd.t 15) (Opd.c (AV.int IntKind.u32 256))),
    C.op none (some 17) (O.cvi IntKind.u8 (Opd.t 16)), C.op none (some 18) (O.mv (Opd.t 3)),
    C.op none (some 19) (O.bin BinOp.quo (Opd.t 18) (Opd.c (AV.int IntKind.u32 16777216))),
    C.op none (some 20) (O.cvi IntKind.u8 (Opd.t 19)),
    C.op none (some 21)
      (O.bsl 1 [AV.int IntKind.u8 0] 4 [(0, Opd.t 9), (1, Opd.t 13), (2, Opd.t 17), (3, Opd.t 20)]),
    C.op none (some 22) (O.cvb (Opd.t 21)),
    C.op none (some 23)
      (O.bin BinOp.add (Opd.c (AV.str [7]))
        (Opd.t 22)),
    C.op none (some 24) (O.mv (Opd.t 0)), C.op none (some 25) (O.bin BinOp.add (Opd.t 23) (Opd.t 24)),
    C.op none (some 2) (O.mv (Opd.t 25)), C.ret]
def r35 : List RV := [RV.t 2]
theorem c35_ok : cC Try.prog Try.f35.ntmps (Try.f35.body.getD .skip) = some c35 := by kernel_rfl

def c36 : List C :=
  [C.op none (some 2) (O.mv (Opd.c (AV.str []))), C.op none (some 3) (O.mv (Opd.t 0)),
    C.op none (some 4) (O.len true (Opd.t 3)), C.op none (some 5) (O.cvi IntKind.u64 (Opd.t 4)),
    C.op none (some 6) (O.call 63 [Opd.t 5]), C.op none (some 7) (O.mv (Opd.t 0)),
    C.op none (some 8) (O.bin BinOp.add (Opd.t 6) (Opd.t 7)), C.op none (some 2) (O.mv (Opd.t 8)), C.ret]
def r36 : List RV := [RV.t 2]
theorem c36_ok : cC Try.prog Try.f36.ntmps (Try.f36.body.getD .skip) = some c36 := by kernel_rfl

def c37 : List C :=
  [C.op none (some 1) (O.box (Opd.t 0)), C.op none (some 2) (O.mv (Opd.c AV.nilptr)),
    C.op none (some 3) (O.mv (Opd.c (AV.int IntKind.i64 0))),
    C.op none (some 5) (O.ldn [CK.int IntKind.i64, CK.int IntKind.i64] (Opd.t 1)),
    C.op none (some 6) (O.call 65 [Opd.t 5]), C.op none (some 4) (O.mv (Opd.t 6)), C.op none (some 7) (O.mv (Opd.t 4)),
    C.op none (some 8) (O.bin BinOp.neq (Opd.t 7) (Opd.c (AV.int IntKind.i64 0))),
    C.cond (Opd.t 8)
      [C.op none (some 9) (O.mv (Opd.t 4)), C.op none (some 2) (O.mv (Opd.c AV.nilptr)),
        C.op none (some 3) (O.mv (Opd.t 9)), C.ret]
      [],
    C.op none (some 10) (O.ldn [CK.int IntKind.i64, CK.int IntKind.i64] (Opd.t 1)),
    C.op none (some 11)
      (O.build [AV.int IntKind.i64 0, AV.int IntKind.i64 0, AV.nilsl] [(0, 2, Opd.t 10)]),
    C.op none (some 12) (O.box (Opd.t 11)), C.op none (some 2) (O.mv (Opd.t 12)),
    C.op none (some 3) (O.mv (Opd.c (AV.int IntKind.i64 0))), C.ret]
def r37 : List RV := [RV.t 2, RV.t 3]
theorem c37_ok : cC Try.prog Try.f37.ntmps (Try.f37.body.getD .skip) = some c37 := by kernel_rfl

def c38 : List C :=
  [C.op none (some 2) (O.mv (Opd.c AV.nilptr)), C.op none (some 3) (O.mv (Opd.t 0)),
    C.op none (some 4) (O.build [AV.int IntKind.u32 0, AV.nilsl] [(0, 1, Opd.t 3)]),
    C.op none (some 5) (O.box (Opd.t 4)), C.op none (some 2) (O.mv (Opd.t 5)), C.ret]
def r38 : List RV := [RV.t 2]
theorem c38_ok : cC Try.prog Try.f38.ntmps (Try.f38.body.getD .skip) = some c38 := by kernel_rfl

def c39 : List C :=
  [C.op none (some 2) (O.mv (Opd.c AV.nilptr)), C.op none (some 3) (O.mv (Opd.t 0)), C.op none (some 4) O.mkmap,
    C.op none (some 5) (O.build [AV.int IntKind.u32 0, AV.nilmap] [(0, 1, Opd.t 3), (1, 1, Opd.t 4)]),
    C.op none (some 6) (O.box (Opd.t 5)), C.op none (some 2) (O.mv (Opd.t 6)), C.ret]
def r39 : List RV := [RV.t 2]
theorem c39_ok : cC Try.prog Try.f39.ntmps (Try.f39.body.getD .skip) = some c39 := by kernel_rfl

def d40_0 : List It :=
  [(none, some 29, O.fad 2 (Opd.t 7), []), (none, some 30, O.ld (CK.int IntKind.i64) (Opd.t 29), [0]),
                    (none, some 31, O.bin BinOp.mul (Opd.c (AV.int IntKind.i64 2)) (Opd.t 30), [1]),
                    (none, some 32, O.mv (Opd.t 0), []), (none, some 33, O.nck (Opd.t 32), [3]),
                    (none, some 34, O.fad 0 (Opd.t 33), [4]), (none, some 35, O.fad 1 (Opd.t 34), [5]),
                    (none, some 36, O.ld (CK.int IntKind.i64) (Opd.t 35), [6]),
                    (none, some 37, O.mn [Opd.t 31, Opd.t 36], [2, 7]),
                    (none, some 38, O.fad 2 (Opd.t 7), [0, 1, 2, 3, 4, 5, 6, 7, 8]),
                    (none, none, O.st 1 (Opd.t 38) (Opd.t 37), [9, 8, 0, 1, 2, 3, 4, 5, 6, 7, 8])]
def o40_0 : List (Nat × Bool) := [(0, false), (1, false), (2, false), (3, false), (4, false), (5, false), (6, false), (7, false), (8, false), (9, false), (10, true)]
def l40_0 : List (Nat × Bool × It) :=
  [(0, false, (none, some 29, O.fad 2 (Opd.t 7), [])),
   (1, false, (none, some 30, O.ld (CK.int IntKind.i64) (Opd.t 29), [0])),
   (2, false, (none, some 31, O.bin BinOp.mul (Opd.c (AV.int IntKind.i64 2)) (Opd.t 30), [1])),
   (3, false, (none, some 32, O.mv (Opd.t 0), [])),
   (4, false, (none, some 33, O.nck (Opd.t 32), [3])),
   (5, false, (none, some 34, O.fad 0 (Opd.t 33), [4])),
   (6, false, (none, some 35, O.fad 1 (Opd.t 34), [5])),
   (7, false, (none, some 36, O.ld (CK.int IntKind.i64) (Opd.t 35), [6])),
   (8, false, (none, some 37, O.mn [Opd.t 31, Opd.t 36], [2, 7])),
   (9, false, (none, some 38, O.fad 2 (Opd.t 7), [0, 1, 2, 3, 4, 5, 6, 7, 8])),
   (10, true, (none, none, O.st 1 (Opd.t 38) (Opd.t 37), [9, 8, 0, 1, 2, 3, 4, 5, 6, 7, 8]))]
theorem l40_0_ok : okDraw d40_0 o40_0 = true ∧ mkL d40_0 o40_0 = some l40_0 := ⟨by kernel_rfl, by kernel_rfl⟩

def d40_1 : List It :=
  [(none, some 48, O.mv (Opd.t 0), []), (none, some 49, O.nck (Opd.t 48), [0]),
                    (none, some 50, O.fad 2 (Opd.t 49), [1]), (none, some 51, O.ld CK.any (Opd.t 50), [2]),
                    (none, some 52, O.mv (Opd.t 6), []),
                    (none, some 53,
                      O.ldn [CK.int IntKind.u32, CK.int IntKind.i64, CK.int IntKind.i64, CK.int IntKind.i64] (Opd.t 7),
                      []),
                    (none, some 54, O.iad 4 (Opd.t 51) (Opd.t 52), [3, 4, 0, 1, 2, 3, 4, 5]),
                    (none, none, O.st 4 (Opd.t 54) (Opd.t 53), [6, 5, 0, 1, 2, 3, 4, 5])]
def o40_1 : List (Nat × Bool) := [(0, false), (1, false), (2, false), (3, false), (4, false), (5, false), (6, false), (7, true)]
def l40_1 : List (Nat × Bool × It) :=
  [(0, false, (none, some 48, O.mv (Opd.t 0), [])),
   (1, false, (none, some 49, O.nck (Opd.t 48), [0])),
   (2, false, (none, some 50, O.fad 2 (Opd.t 49), [1])),
   (3, false, (none, some 51, O.ld CK.any (Opd.t 50), [2])),
   (4, false, (none, some 52, O.mv (Opd.t 6), [])),
   (5, false, (none, some 53,
                      O.ldn [CK.int IntKind.u32, CK.int IntKind.i64, CK.int IntKind.i64, CK.int IntKind.i64] (Opd.t 7),
                      [])),
   (6, false, (none, some 54, O.iad 4 (Opd.t 51) (Opd.t 52), [3, 4, 0, 1, 2, 3, 4, 5])),
   (7, true, (none, none, O.st 4 (Opd.t 54) (Opd.t 53), [6, 5, 0, 1, 2, 3, 4, 5]))]
theorem l40_1_ok : okDraw d40_1 o40_1 = true ∧ mkL d40_1 o40_1 = some l40_1 := ⟨by kernel_rfl, by kernel_rfl⟩

def c40 : List C :=
  [C.op none (some 4) (O.mv (Opd.c AV.nilsl)), C.op none (some 5) (O.mv (Opd.c AV.nilsl)),
    C.op none (some 11) (O.mv (Opd.t 0)), C.op none (some 12) (O.nck (Opd.t 11)),
    C.op none (some 13) (O.fad 2 (Opd.t 12)), C.op none (some 14) (O.ld CK.any (Opd.t 13)),
    C.op none (some 15) (O.len false (Opd.t 14)), C.op none (some 16) (O.mv (Opd.c (AV.int IntKind.i64 0))),
    C.blk 0
      [C.loop
          [C.op none (some 17) (O.bin BinOp.lss (Opd.t 16) (Opd.t 15)), C.cond (Opd.t 17) [] [C.exit 0],
            C.blk 1
              [C.op none (some 18) (O.mv (Opd.t 16)), C.op none (some 19) (O.iad 4 (Opd.t 14) (Opd.t 16)),
                C.op none (some 20)
                  (O.ldn [CK.int IntKind.u32, CK.int IntKind.i64, CK.int IntKind.i64, CK.int IntKind.i64] (Opd.t 19)),
                C.op none (some 7)
                  (O.alloc
                    [AV.int IntKind.u32 0, AV.int IntKind.i64 0,
                      AV.int IntKind.i64 0, AV.int IntKind.i64 0]),
                C.op none (some 6) (O.mv (Opd.t 18)), C.op none none (O.st 4 (Opd.t 7) (Opd.t 20)),
                C.op none (some 21) (O.fad 1 (Opd.t 7)), C.op none (some 22) (O.ld (CK.int IntKind.i64) (Opd.t 21)),
                C.op none (some 23) (O.mv (Opd.t 1)), C.op none (some 24) (O.bin BinOp.gtr (Opd.t 22) (Opd.t 23)),
                C.cond (Opd.t 24) [C.exit 1] [], C.op none (some 25) (O.mv (Opd.t 5)),
                C.op none (some 26)
                  (O.ldn [CK.int IntKind.u32, CK.int IntKind.i64, CK.int IntKind.i64, CK.int IntKind.i64] (Opd.t 7)),
                C.op none (some 27)
                  (O.bsl 4
                    [AV.int IntKind.u32 0, AV.int IntKind.i64 0,
                      AV.int IntKind.i64 0, AV.int IntKind.i64 0]
                    1 [(0, Opd.t 26)]),
                C.op none (some 28) (O.app 4 (Opd.t 25) (Opd.t 27)), C.op none (some 5) (O.mv (Opd.t 28)),
                C.draw d40_0,
                C.op none (some 39) (O.mv (Opd.t 1)), C.op none (some 40) (O.fad 2 (Opd.t 7)),
                C.op none (some 41) (O.ld (CK.int IntKind.i64) (Opd.t 40)),
                C.op none (some 42) (O.bin BinOp.add (Opd.t 39) (Opd.t 41)), C.op none (some 43) (O.fad 1 (Opd.t 7)),
                C.op none none (O.st 1 (Opd.t 43) (Opd.t 42)), C.op none (some 44) (O.fad 3 (Opd.t 7)),
                C.op none (some 45) (O.ld (CK.int IntKind.i64) (Opd.t 44)),
                C.op none (some 46) (O.bin BinOp.add (Opd.t 45) (Opd.c (AV.int IntKind.i64 1))),
                C.op none (some 47) (O.fad 3 (Opd.t 7)), C.op none none (O.st 1 (Opd.t 47) (Opd.t 46)),
                C.draw d40_1],
            C.op none (some 55) (O.bin BinOp.add (Opd.t 16) (Opd.c (AV.int IntKind.i64 1))),
            C.op none (some 16) (O.mv (Opd.t 55))]],
    C.op none (some 56) (O.mv (Opd.t 5)), C.op none (some 57) (O.call 66 [Opd.t 56, Opd.c (AV.fn 67 [] [])]),
    C.op none (some 8) (O.mv (Opd.c AV.nilsl)), C.op none (some 58) (O.mv (Opd.t 5)),
    C.op none (some 59) (O.len false (Opd.t 58)), C.op none (some 60) (O.mv (Opd.c (AV.int IntKind.i64 0))),
    C.blk 2
      [C.loop
          [C.op none (some 61) (O.bin BinOp.lss (Opd.t 60) (Opd.t 59)), C.cond (Opd.t 61) [] [C.exit 2],
            C.blk 3
              [C.op none (some 62) (O.iad 4 (Opd.t 58) (Opd.t 60)),
                C.op none (some 63)
                  (O.ldn [CK.int IntKind.u32, CK.int IntKind.i64, CK.int IntKind.i64, CK.int IntKind.i64] (Opd.t 62)),
                C.op none (some 10)
                  (O.alloc
                    [AV.int IntKind.u32 0, AV.int IntKind.i64 0,
                      AV.int IntKind.i64 0, AV.int IntKind.i64 0]),
                C.op none none (O.st 4 (Opd.t 10) (Opd.t 63)), C.op none (some 64) (O.mv (Opd.t 8)),
                C.op none (some 65) (O.fad 0 (Opd.t 10)), C.op none (some 66) (O.ld (CK.int IntKind.u32) (Opd.t 65)),
                C.op none (some 67) (O.bsl 1 [AV.int IntKind.u32 0] 1 [(0, Opd.t 66)]),
                C.op none (some 68) (O.app 1 (Opd.t 64) (Opd.t 67)), C.op none (some 8) (O.mv (Opd.t 68))],
            C.op none (some 69) (O.bin BinOp.add (Opd.t 60) (Opd.c (AV.int IntKind.i64 1))),
            C.op none (some 60) (O.mv (Opd.t 69))]],
    C.op none (some 70) (O.mv (Opd.t 8)), C.op none (some 4) (O.mv (Opd.t 70)), C.ret]
def r40 : List RV := [RV.t 4]
theorem c40_ok : cC Try.prog Try.f40.ntmps (Try.f40.body.getD .skip) = some c40 := by kernel_rfl

def c41 : List C :=
  [C.op none (some 2) (O.mv (Opd.c AV.nilsl)), C.op none (some 3) (O.mv (Opd.t 0)),
    C.op none (some 4) (O.nck (Opd.t 3)), C.op none (some 5) (O.fad 1 (Opd.t 4)),
    C.op none (some 6) (O.ld CK.any (Opd.t 5)), C.op none (some 7) (O.call 58 [Opd.t 6]),
    C.op none (some 2) (O.mv (Opd.t 7)), C.ret]
def r41 : List RV := [RV.t 2]
theorem c41_ok : cC Try.prog Try.f41.ntmps (Try.f41.body.getD .skip) = some c41 := by kernel_rfl

def d42_0 : List It :=
  [(none, some 32, O.fad 0 (Opd.t 8), []), (none, some 33, O.ld (CK.int IntKind.u32) (Opd.t 32), [0]),
                    (none, some 34, O.cvi IntKind.u64 (Opd.t 33), [1]),
                    (none, some 35, O.bsl 1 [AV.int IntKind.u64 0] 1 [(0, Opd.t 34)], [2]),
                    (none, some 36, O.call 70 [Opd.t 5, Opd.t 35], [3]), (none, some 37, O.fad 1 (Opd.t 8), []),
                    (none, some 38, O.ld CK.str (Opd.t 37), [5]),
                    (none, some 39, O.bsl 1 [AV.str []] 1 [(0, Opd.t 38)], [6]),
                    (none, some 40, O.call 72 [Opd.t 36, Opd.t 39], [4, 7, 4])]
def o42_0 : List (Nat × Bool) := [(0, false), (1, false), (2, false), (3, false), (5, false), (6, false), (7, false), (4, true), (8, true)]
def l42_0 : List (Nat × Bool × It) :=
  [(0, false, (none, some 32, O.fad 0 (Opd.t 8), [])),
   (1, false, (none, some 33, O.ld (CK.int IntKind.u32) (Opd.t 32), [0])),
   (2, false, (none, some 34, O.cvi IntKind.u64 (Opd.t 33), [1])),
   (3, false, (none, some 35, O.bsl 1 [AV.int IntKind.u64 0] 1 [(0, Opd.t 34)], [2])),
   (5, false, (none, some 37, O.fad 1 (Opd.t 8), [])),
   (6, false, (none, some 38, O.ld CK.str (Opd.t 37), [5])),
   (7, false, (none, some 39, O.bsl 1 [AV.str []] 1 [(0, Opd.t 38)], [6])),
   (4, true, (none, some 36, O.call 70 [Opd.t 5, Opd.t 35], [3])),
   (8, true, (none, some 40, O.call 72 [Opd.t 36, Opd.t 39], [4, 7, 4]))]
theorem l42_0_ok : okDraw d42_0 o42_0 = true ∧ mkL d42_0 o42_0 = some l42_0 := ⟨by kernel_rfl, by kernel_rfl⟩

def c42 : List C :=
  [C.op none (some 4) (O.mv (Opd.c (AV.str []))), C.op none (some 5) (O.alloc [AV.nilsl]),
    C.op none (some 9) (O.mv (Opd.t 0)), C.op none (some 10) (O.nck (Opd.t 9)),
    C.op none (some 11) (O.fad 1 (Opd.t 10)), C.op none (some 12) (O.ld CK.any (Opd.t 11)),
    C.op none (some 13) (O.call 69 [Opd.t 12]),
    C.op none (some 6) (O.alloc [AV.int IntKind.u32 0, AV.int IntKind.u32 0]),
    C.op none none (O.st 2 (Opd.t 6) (Opd.t 13)), C.op none (some 14) (O.fad 0 (Opd.t 6)),
    C.op none (some 15) (O.ld (CK.int IntKind.u32) (Opd.t 14)), C.op none (some 16) (O.cvi IntKind.u64 (Opd.t 15)),
    C.op none (some 17) (O.fad 1 (Opd.t 6)), C.op none (some 18) (O.ld (CK.int IntKind.u32) (Opd.t 17)),
    C.op none (some 19) (O.cvi IntKind.u64 (Opd.t 18)),
    C.op none (some 20) (O.bsl 1 [AV.int IntKind.u64 0] 2 [(0, Opd.t 16), (1, Opd.t 19)]),
    C.op none (some 21) (O.call 70 [Opd.t 5, Opd.t 20]), C.op none (some 22) (O.mv (Opd.t 1)),
    C.op none (some 23) (O.len false (Opd.t 22)),
    C.op none (some 24) (O.bsl 1 [AV.int IntKind.i64 0] 1 [(0, Opd.t 23)]),
    C.op none (some 25) (O.call 71 [Opd.t 21, Opd.t 24]), C.op none (some 26) (O.mv (Opd.t 1)),
    C.op none (some 27) (O.len false (Opd.t 26)), C.op none (some 28) (O.mv (Opd.c (AV.int IntKind.i64 0))),
    C.blk 0
      [C.loop
          [C.op none (some 29) (O.bin BinOp.lss (Opd.t 28) (Opd.t 27)), C.cond (Opd.t 29) [] [C.exit 0],
            C.blk 1
              [C.op none (some 30) (O.iad 2 (Opd.t 26) (Opd.t 28)),
                C.op none (some 31) (O.ldn [CK.int IntKind.u32, CK.str] (Opd.t 30)),
                C.op none (some 8) (O.alloc [AV.int IntKind.u32 0, AV.str []]),
                C.op none none (O.st 2 (Opd.t 8) (Opd.t 31)),
                C.draw d42_0],
            C.op none (some 41) (O.bin BinOp.add (Opd.t 28) (Opd.c (AV.int IntKind.i64 1))),
            C.op none (some 28) (O.mv (Opd.t 41))]],
    C.op none (some 42) (O.call 74 [Opd.t 5]), C.op none (some 43) (O.call 73 [Opd.t 42]),
    C.op none (some 4) (O.mv (Opd.t 43)), C.ret]
def r42 : List RV := [RV.t 4]
theorem c42_ok : cC Try.prog Try.f42.ntmps (Try.f42.body.getD .skip) = some c42 := by kernel_rfl

def c43 : List C :=
  [C.op none (some 4) (O.mv (Opd.c AV.nilsl)), C.op none (some 5) (O.mv (Opd.c AV.nilsl)),
    C.blk 0
      [C.loop
          [C.op none (some 9) (O.mv (Opd.t 0)), C.op none (some 10) (O.nck (Opd.t 9)),
            C.op none (some 11) (O.fad 5 (Opd.t 10)), C.op none (some 12) (O.ld CK.any (Opd.t 11)),
            C.op none (some 13) (O.len false (Opd.t 12)),
            C.op none (some 14) (O.bin BinOp.gtr (Opd.t 13) (Opd.c (AV.int IntKind.i64 0))),
            C.cond (Opd.t 14) [] [C.exit 0],
            C.blk 1
              [C.op none (some 15) (O.mv (Opd.t 0)), C.op none (some 16) (O.nck (Opd.t 15)),
                C.op none (some 17) (O.fad 5 (Opd.t 16)), C.op none (some 18) (O.ld CK.any (Opd.t 17)),
                C.op none (some 19) (O.iad 2 (Opd.t 18) (Opd.c (AV.int IntKind.i64 0))),
                C.op none (some 20) (O.ldn [CK.bool, CK.str] (Opd.t 19)), C.op none (some 21) (O.call 75 [Opd.t 20]),
                C.op none (some 6) (O.mv (Opd.t 21)), C.op none (some 23) (O.mv (Opd.t 0)),
                C.op none (some 24) (O.nck (Opd.t 23)), C.op none (some 25) (O.fad 0 (Opd.t 24)),
                C.op none (some 26) (O.ld CK.any (Opd.t 25)), C.op none (some 27) (O.mv (Opd.t 6)),
                C.op none (some 28) (O.call 76 [Opd.t 26, Opd.t 27]), C.op none (some 22) (O.mv (Opd.t 28)),
                C.op none (some 29) (O.ext (Opd.t 22) 0), C.op none (some 30) (O.ext (Opd.t 22) 1),
                C.op none (some 7) (O.mv (Opd.t 29)), C.op none (some 8) (O.mv (Opd.t 30)),
                C.op none (some 31) (O.mv (Opd.t 8)),
                C.op none (some 32) (O.bin BinOp.neq (Opd.t 31) (Opd.c (AV.int IntKind.i64 0))),
                C.cond (Opd.t 32) [C.exit 0] [], C.op none (some 33) (O.mv (Opd.t 0)),
                C.op none (some 34) (O.mv (Opd.t 0)), C.op none (some 35) (O.nck (Opd.t 34)),
                C.op none (some 36) (O.fad 5 (Opd.t 35)), C.op none (some 37) (O.ld CK.any (Opd.t 36)),
                C.op none (some 38) (O.lsl 2 (Opd.t 37) (some (Opd.c (AV.int IntKind.i64 1))) none none),
                C.op none (some 39) (O.nck (Opd.t 33)), C.op none (some 40) (O.fad 5 (Opd.t 39)),
                C.op none none (O.st 1 (Opd.t 40) (Opd.t 38)), C.op none (some 41) (O.mv (Opd.t 0)),
                C.op none (some 42) (O.nck (Opd.t 41)), C.op none (some 43) (O.fad 2 (Opd.t 42)),
                C.op none (some 44) (O.ld CK.any (Opd.t 43)), C.op none (some 45) (O.mv (Opd.t 7)),
                C.op none (some 46) (O.mv (Opd.t 1)), C.op none (some 47) (O.call 77 [Opd.t 44, Opd.t 45, Opd.t 46]),
                C.op none (some 48) (O.mv (Opd.t 5)), C.op none (some 49) (O.mv (Opd.t 7)),
                C.op none (some 50) (O.mv (Opd.t 6)),
                C.op none (some 51)
                  (O.build [AV.int IntKind.u32 0, AV.str []] [(0, 1, Opd.t 49), (1, 1, Opd.t 50)]),
                C.op none (some 52) (O.bsl 2 [AV.int IntKind.u32 0, AV.str []] 1 [(0, Opd.t 51)]),
                C.op none (some 53) (O.app 2 (Opd.t 48) (Opd.t 52)), C.op none (some 5) (O.mv (Opd.t 53))]]],
    C.op none (some 54) (O.mv (Opd.t 5)), C.op none (some 4) (O.mv (Opd.t 54)), C.ret]
def r43 : List RV := [RV.t 4]
theorem c43_ok : cC Try.prog Try.f43.ntmps (Try.f43.body.getD .skip) = some c43 := by kernel_rfl

def d44_0 : List It :=
  [(none, some 39, O.mv (Opd.t 4), []), (none, some 40, O.mv (Opd.t 7), []),
                    (none, some 41, O.ist (Opd.t 40) (Opd.c (AV.int IntKind.i64 0)), [1]),
                    (none, some 42, O.bin BinOp.rem (Opd.t 41) (Opd.c (AV.int IntKind.u8 128)), [2]),
                    (none, some 43, O.cvi IntKind.u64 (Opd.t 42), [3]), (none, some 44, O.mv (Opd.t 5), []),
                    (none, some 45, O.call 78 [Opd.t 44], [5]),
                    (none, some 46, O.bin BinOp.mul (Opd.t 43) (Opd.t 45), [4, 6]),
                    (none, some 47, O.bin BinOp.add (Opd.t 39) (Opd.t 46), [0, 7]),
                    (none, some 4, O.mv (Opd.t 47), [8, 6, 0, 1, 2, 3, 4, 5, 6, 7, 8])]
def o44_0 : List (Nat × Bool) := [(0, false), (1, false), (2, false), (3, false), (4, false), (5, false), (6, true), (7, false), (8, false), (9, true)]
def l44_0 : List (Nat × Bool × It) :=
  [(0, false, (none, some 39, O.mv (Opd.t 4), [])),
   (1, false, (none, some 40, O.mv (Opd.t 7), [])),
   (2, false, (none, some 41, O.ist (Opd.t 40) (Opd.c (AV.int IntKind.i64 0)), [1])),
   (3, false, (none, some 42, O.bin BinOp.rem (Opd.t 41) (Opd.c (AV.int IntKind.u8 128)), [2])),
   (4, false, (none, some 43, O.cvi IntKind.u64 (Opd.t 42), [3])),
   (5, false, (none, some 44, O.mv (Opd.t 5), [])),
   (6, true, (none, some 45, O.call 78 [Opd.t 44], [5])),
   (7, false, (none, some 46, O.bin BinOp.mul (Opd.t 43) (Opd.t 45), [4, 6])),
   (8, false, (none, some 47, O.bin BinOp.add (Opd.t 39) (Opd.t 46), [0, 7])),
   (9, true, (none, some 4, O.mv (Opd.t 47), [8, 6, 0, 1, 2, 3, 4, 5, 6, 7, 8]))]
theorem l44_0_ok : okDraw d44_0 o44_0 = true ∧ mkL d44_0 o44_0 = some l44_0 := ⟨by kernel_rfl, by kernel_rfl⟩

def c44 : List C :=
  [C.op none (some 1) (O.box (Opd.t 0)), C.op none (some 2) (O.alloc [AV.str [], AV.int IntKind.i64 0]),
    C.op none (some 3) (O.mv (Opd.c (AV.int IntKind.u64 0))),
    C.op none (some 4) (O.mv (Opd.c (AV.int IntKind.u64 0))),
    C.op none (some 5) (O.mv (Opd.c (AV.int IntKind.i64 0))),
    C.blk 0
      [C.loop
          [C.op none (some 8) (O.mv (Opd.t 5)),
            C.op none (some 9) (O.bin BinOp.lss (Opd.t 8) (Opd.c (AV.int IntKind.i64 11))),
            C.cond (Opd.t 9) [] [C.exit 0],
            C.blk 1
              [C.op none (some 13) (O.ldn [CK.str, CK.int IntKind.i64] (Opd.t 1)),
                C.op none (some 14) (O.call 46 [Opd.t 13, Opd.c (AV.int IntKind.i64 1)]),
                C.op none (some 12) (O.mv (Opd.t 14)), C.op none (some 15) (O.ext (Opd.t 12) 0),
                C.op none (some 16) (O.ext (Opd.t 12) 1),
                C.op none (some 6) (O.alloc [AV.str [], AV.int IntKind.i64 0]),
                C.op none none (O.st 2 (Opd.t 6) (Opd.t 15)), C.op none (some 7) (O.mv (Opd.t 16)),
                C.op none (some 17) (O.ldn [CK.str, CK.int IntKind.i64] (Opd.t 6)),
                C.op none none (O.st 2 (Opd.t 1) (Opd.t 17)), C.op none (some 18) (O.fad 1 (Opd.t 1)),
                C.op none (some 19) (O.ld (CK.int IntKind.i64) (Opd.t 18)),
                C.op none (some 20) (O.bin BinOp.neq (Opd.t 19) (Opd.c (AV.int IntKind.i64 0))),
                C.cond (Opd.t 20)
                  [C.op none (some 21) (O.ldn [CK.str, CK.int IntKind.i64] (Opd.t 1)),
                    C.op none none (O.st 2 (Opd.t 2) (Opd.t 21)),
                    C.op none (some 3) (O.mv (Opd.c (AV.int IntKind.u64 0))), C.ret]
                  [],
                C.op none (some 22) (O.mv (Opd.t 5)),
                C.op none (some 23) (O.bin BinOp.gtr (Opd.t 22) (Opd.c (AV.int IntKind.i64 0))),
                C.op none (some 24) (O.mv (Opd.t 23)), C.op (some (24, true)) (some 25) (O.mv (Opd.t 7)),
                C.op (some (24, true)) (some 26) (O.ist (Opd.t 25) (Opd.c (AV.int IntKind.i64 0))),
                C.op (some (24, true)) (some 27) (O.bin BinOp.eql (Opd.t 26) (Opd.c (AV.int IntKind.u8 0))),
                C.op none (some 28) (O.pick (Opd.t 24) (Opd.t 27) (Opd.c (AV.bool false))),
                C.op none (some 29) (O.mv (Opd.t 28)), C.op (some (29, false)) (some 30) (O.mv (Opd.t 5)),
                C.op (some (29, false)) (some 31)
                  (O.bin BinOp.eql (Opd.t 30) (Opd.c (AV.int IntKind.i64 9))),
                C.op (some (29, false)) (some 32) (O.mv (Opd.t 31)), C.op (some (32, true)) (some 33) (O.mv (Opd.t 7)),
                C.op (some (32, true)) (some 34) (O.ist (Opd.t 33) (Opd.c (AV.int IntKind.i64 0))),
                C.op (some (32, true)) (some 35) (O.bin BinOp.gtr (Opd.t 34) (Opd.c (AV.int IntKind.u8 1))),
                C.op (some (29, false)) (some 36) (O.pick (Opd.t 32) (Opd.t 35) (Opd.c (AV.bool false))),
                C.op none (some 37) (O.pick (Opd.t 29) (Opd.c (AV.bool true)) (Opd.t 36)),
                C.cond (Opd.t 37)
                  [C.op none (some 38)
                      (O.build [AV.str [], AV.int IntKind.i64 0]
                        [(0, 1, Opd.c (AV.str [])), (1, 1, Opd.c (AV.int IntKind.i64 2))]),
                    C.op none none (O.st 2 (Opd.t 2) (Opd.t 38)),
                    C.op none (some 3) (O.mv (Opd.c (AV.int IntKind.u64 0))), C.ret]
                  [],
                C.draw d44_0,
                C.op none (some 48) (O.mv (Opd.t 7)),
                C.op none (some 49) (O.ist (Opd.t 48) (Opd.c (AV.int IntKind.i64 0))),
                C.op none (some 50) (O.bin BinOp.lss (Opd.t 49) (Opd.c (AV.int IntKind.u8 128))),
                C.cond (Opd.t 50)
                  [C.op none (some 51) (O.ldn [CK.str, CK.int IntKind.i64] (Opd.t 1)),
                    C.op none (some 52) (O.mv (Opd.t 4)), C.op none none (O.st 2 (Opd.t 2) (Opd.t 51)),
                    C.op none (some 3) (O.mv (Opd.t 52)), C.ret]
                  []],
            C.op none (some 10) (O.mv (Opd.t 5)),
            C.op none (some 11) (O.bin BinOp.add (Opd.t 10) (Opd.c (AV.int IntKind.i64 1))),
            C.op none (some 5) (O.mv (Opd.t 11))]],
    C.op none (some 53)
      (O.build [AV.str [], AV.int IntKind.i64 0]
        [(0, 1, Opd.c (AV.str [])), (1, 1, Opd.c (AV.int IntKind.i64 2))]),
    C.op none none (O.st 2 (Opd.t 2) (Opd.t 53)), C.op none (some 3) (O.mv (Opd.c (AV.int IntKind.u64 0))),
    C.ret]
def r44 : List RV := [RV.cn 2 2, RV.t 3]
theorem c44_ok : cC Try.prog Try.f44.ntmps (Try.f44.body.getD .skip) = some c44 := by kernel_rfl

def c45 : List C :=
  [C.op none (some 2) (O.box (Opd.t 0)), C.op none (some 4) (O.alloc [AV.str [], AV.int IntKind.i64 0]),
    C.op none (some 5) (O.fad 1 (Opd.t 2)), C.op none (some 6) (O.ld (CK.int IntKind.i64) (Opd.t 5)),
    C.op none (some 7) (O.bin BinOp.eql (Opd.t 6) (Opd.c (AV.int IntKind.i64 0))),
    C.op none (some 8) (O.mv (Opd.t 7)), C.op (some (8, true)) (some 9) (O.mv (Opd.t 1)),
    C.op (some (8, true)) (some 10) (O.bin BinOp.neq (Opd.t 9) (Opd.c (AV.int IntKind.i64 0))),
    C.op none (some 11) (O.pick (Opd.t 8) (Opd.t 10) (Opd.c (AV.bool false))),
    C.cond (Opd.t 11)
      [C.op none (some 12) (O.mv (Opd.t 1)),
        C.op none (some 13)
          (O.build [AV.str [], AV.int IntKind.i64 0] [(0, 1, Opd.c (AV.str [])), (1, 1, Opd.t 12)]),
        C.op none none (O.st 2 (Opd.t 4) (Opd.t 13)), C.ret]
      [],
    C.op none (some 14) (O.ldn [CK.str, CK.int IntKind.i64] (Opd.t 2)), C.op none none (O.st 2 (Opd.t 4) (Opd.t 14)),
    C.ret]
def r45 : List RV := [RV.cn 4 2]
theorem c45_ok : cC Try.prog Try.f45.ntmps (Try.f45.body.getD .skip) = some c45 := by kernel_rfl

def d46_0 : List It :=
  [(none, some 20, O.fad 0 (Opd.t 2), []), (none, some 21, O.ld CK.str (Opd.t 20), [0]),
        (none, some 22, O.mv (Opd.t 1), []), (none, some 23, O.ssl (Opd.t 21) (some (Opd.t 22)) none, [1, 2]),
        (none, some 24,
          O.build [AV.str [], AV.int IntKind.i64 0]
            [(0, 1, Opd.t 23), (1, 1, Opd.c (AV.int IntKind.i64 0))],
          [3]),
        (none, some 25, O.fad 0 (Opd.t 2), []), (none, some 26, O.ld CK.str (Opd.t 25), [5]),
        (none, some 27, O.mv (Opd.t 1), []), (none, some 28, O.ssl (Opd.t 26) none (some (Opd.t 27)), [6, 7]),
        (none, none, O.st 2 (Opd.t 4) (Opd.t 24), [4, 0, 1, 2, 3, 4]),
        (none, some 5, O.mv (Opd.t 28), [8, 9, 0, 1, 2, 3, 4, 5, 6, 7, 8, 9])]
def o46_0 : List (Nat × Bool) := [(0, false), (1, false), (2, false), (3, false), (4, false), (5, false), (6, false), (7, false), (8, false), (9, true), (10, false)]
def l46_0 : List (Nat × Bool × It) :=
  [(0, false, (none, some 20, O.fad 0 (Opd.t 2), [])),
   (1, false, (none, some 21, O.ld CK.str (Opd.t 20), [0])),
   (2, false, (none, some 22, O.mv (Opd.t 1), [])),
   (3, false, (none, some 23, O.ssl (Opd.t 21) (some (Opd.t 22)) none, [1, 2])),
   (4, false, (none, some 24,
          O.build [AV.str [], AV.int IntKind.i64 0]
            [(0, 1, Opd.t 23), (1, 1, Opd.c (AV.int IntKind.i64 0))],
          [3])),
   (5, false, (none, some 25, O.fad 0 (Opd.t 2), [])),
   (6, false, (none, some 26, O.ld CK.str (Opd.t 25), [5])),
   (7, false, (none, some 27, O.mv (Opd.t 1), [])),
   (8, false, (none, some 28, O.ssl (Opd.t 26) none (some (Opd.t 27)), [6, 7])),
   (9, true, (none, none, O.st 2 (Opd.t 4) (Opd.t 24), [4, 0, 1, 2, 3, 4])),
   (10, false, (none, some 5, O.mv (Opd.t 28), [8, 9, 0, 1, 2, 3, 4, 5, 6, 7, 8, 9]))]
theorem l46_0_ok : okDraw d46_0 o46_0 = true ∧ mkL d46_0 o46_0 = some l46_0 := ⟨by kernel_rfl, by kernel_rfl⟩

def c46 : List C :=
  [C.op none (some 2) (O.box (Opd.t 0)), C.op none (some 4) (O.alloc [AV.str [], AV.int IntKind.i64 0]),
    C.op none (some 5) (O.mv (Opd.c (AV.str []))), C.op none (some 6) (O.fad 1 (Opd.t 2)),
    C.op none (some 7) (O.ld (CK.int IntKind.i64) (Opd.t 6)),
    C.op none (some 8) (O.bin BinOp.neq (Opd.t 7) (Opd.c (AV.int IntKind.i64 0))),
    C.op none (some 9) (O.mv (Opd.t 8)), C.op (some (9, false)) (some 10) (O.mv (Opd.t 1)),
    C.op (some (9, false)) (some 11) (O.bin BinOp.leq (Opd.t 10) (Opd.c (AV.int IntKind.i64 0))),
    C.op none (some 12) (O.pick (Opd.t 9) (Opd.c (AV.bool true)) (Opd.t 11)),
    C.cond (Opd.t 12)
      [C.op none (some 13) (O.ldn [CK.str, CK.int IntKind.i64] (Opd.t 2)), C.op none none (O.st 2 (Opd.t 4) (Opd.t 13)),
        C.op none (some 5) (O.mv (Opd.c (AV.str []))), C.ret]
      [],
    C.op none (some 14) (O.mv (Opd.t 1)), C.op none (some 15) (O.fad 0 (Opd.t 2)),
    C.op none (some 16) (O.ld CK.str (Opd.t 15)), C.op none (some 17) (O.len true (Opd.t 16)),
    C.op none (some 18) (O.bin BinOp.gtr (Opd.t 14) (Opd.t 17)),
    C.cond (Opd.t 18)
      [C.op none (some 19)
          (O.build [AV.str [], AV.int IntKind.i64 0]
            [(0, 1, Opd.c (AV.str [])), (1, 1, Opd.c (AV.int IntKind.i64 1))]),
        C.op none none (O.st 2 (Opd.t 4) (Opd.t 19)), C.op none (some 5) (O.mv (Opd.c (AV.str []))), C.ret]
      [],
    C.draw d46_0,
    C.ret]
def r46 : List RV := [RV.cn 4 2, RV.t 5]
theorem c46_ok : cC Try.prog Try.f46.ntmps (Try.f46.body.getD .skip) = some c46 := by kernel_rfl

def d47_0 : List It :=
  [(none, some 13, O.mv (Opd.t 0), []),
                    (none, some 14,
                      O.ssl (Opd.t 13) (some (Opd.c (AV.int IntKind.i64 1)))
                        (some (Opd.c (AV.int IntKind.i64 5))),
                      [0]),
                    (none, some 15, O.mv (Opd.t 0), []),
                    (none, some 16, O.ssl (Opd.t 15) none (some (Opd.c (AV.int IntKind.i64 1))), [2]),
                    (none, some 17, O.mv (Opd.t 0), []),
                    (none, some 18, O.ssl (Opd.t 17) (some (Opd.c (AV.int IntKind.i64 5))) none, [4]),
                    (none, some 19, O.bsl 1 [AV.str []] 2 [(0, Opd.t 16), (1, Opd.t 18)], [3, 5]),
                    (none, some 20, O.call 80 [Opd.t 19], [6]), (none, some 21, O.call 79 [Opd.t 20], [7, 7]),
                    (none, some 22, O.bin BinOp.neq (Opd.t 14) (Opd.t 21), [1, 8]),
                    (none, some 12, O.mv (Opd.t 22), [9, 8])]
def o47_0 : List (Nat × Bool) := [(0, false), (1, false), (2, false), (3, false), (4, false), (5, false), (6, false), (7, true), (8, true), (9, false), (10, false)]
def l47_0 : List (Nat × Bool × It) :=
  [(0, false, (none, some 13, O.mv (Opd.t 0), [])),
   (1, false, (none, some 14,
                      O.ssl (Opd.t 13) (some (Opd.c (AV.int IntKind.i64 1)))
                        (some (Opd.c (AV.int IntKind.i64 5))),
                      [0])),
   (2, false, (none, some 15, O.mv (Opd.t 0), [])),
   (3, false, (none, some 16, O.ssl (Opd.t 15) none (some (Opd.c (AV.int IntKind.i64 1))), [2])),
   (4, false, (none, some 17, O.mv (Opd.t 0), [])),
   (5, false, (none, some 18, O.ssl (Opd.t 17) (some (Opd.c (AV.int IntKind.i64 5))) none, [4])),
   (6, false, (none, some 19, O.bsl 1 [AV.str []] 2 [(0, Opd.t 16), (1, Opd.t 18)], [3, 5])),
   (7, true, (none, some 20, O.call 80 [Opd.t 19], [6])),
   (8, true, (none, some 21, O.call 79 [Opd.t 20], [7, 7])),
   (9, false, (none, some 22, O.bin BinOp.neq (Opd.t 14) (Opd.t 21), [1, 8])),
   (10, false, (none, some 12, O.mv (Opd.t 22), [9, 8]))]
theorem l47_0_ok : okDraw d47_0 o47_0 = true ∧ mkL d47_0 o47_0 = some l47_0 := ⟨by kernel_rfl, by kernel_rfl⟩

def c47 : List C :=
  [C.op none (some 2) (O.mv (Opd.c (AV.str []))), C.op none (some 3) (O.mv (Opd.c (AV.int IntKind.i64 0))),
    C.blk 0
      [C.op none (some 5) (O.mv (Opd.t 0)), C.op none (some 6) (O.len true (Opd.t 5)),
        C.op none (some 7) (O.bin BinOp.lss (Opd.t 6) (Opd.c (AV.int IntKind.i64 5))),
        C.op none (some 4) (O.mv (Opd.t 7)),
        C.cond (Opd.t 4)
          [C.op none (some 2) (O.mv (Opd.c (AV.str []))),
            C.op none (some 3) (O.mv (Opd.c (AV.int IntKind.i64 1))), C.ret]
          [C.op none (some 9) (O.mv (Opd.t 0)),
            C.op none (some 10) (O.ist (Opd.t 9) (Opd.c (AV.int IntKind.i64 0))),
            C.op none (some 11) (O.bin BinOp.neq (Opd.t 10) (Opd.c (AV.int IntKind.u8 7))),
            C.op none (some 8) (O.mv (Opd.t 11)),
            C.cond (Opd.t 8)
              [C.op none (some 2) (O.mv (Opd.c (AV.str []))),
                C.op none (some 3) (O.mv (Opd.c (AV.int IntKind.i64 6))), C.ret]
              [C.draw d47_0,
                C.cond (Opd.t 12)
                  [C.op none (some 2) (O.mv (Opd.c (AV.str []))),
                    C.op none (some 3) (O.mv (Opd.c (AV.int IntKind.i64 5))), C.ret]
                  []]]],
    C.op none (some 23) (O.mv (Opd.t 0)),
    C.op none (some 24) (O.ssl (Opd.t 23) (some (Opd.c (AV.int IntKind.i64 5))) none),
    C.op none (some 2) (O.mv (Opd.t 24)), C.op none (some 3) (O.mv (Opd.c (AV.int IntKind.i64 0))), C.ret]
def r47 : List RV := [RV.t 2, RV.t 3]
theorem c47_ok : cC Try.prog Try.f47.ntmps (Try.f47.body.getD .skip) = some c47 := by kernel_rfl

def c48 : List C :=
  [C.op none (some 2) (O.mv (Opd.c AV.nilptr)), C.op none (some 3) (O.mv (Opd.t 0)),
    C.op none (some 4) (O.build [AV.str [], AV.int IntKind.i64 0] [(0, 1, Opd.t 3)]),
    C.op none (some 5) (O.box (Opd.t 4)), C.op none (some 2) (O.mv (Opd.t 5)), C.ret]
def r48 : List RV := [RV.t 2]
theorem c48_ok : cC Try.prog Try.f48.ntmps (Try.f48.body.getD .skip) = some c48 := by kernel_rfl

def c49 : List C :=
  [C.op none (some 4) (O.mv (Opd.c (AV.int IntKind.i64 0))), C.op none (some 6) (O.mv (Opd.t 0)),
    C.op none (some 7) (O.call 81 [Opd.t 6]), C.op none (some 5) (O.mv (Opd.t 7)), C.op none (some 8) (O.mv (Opd.t 5)),
    C.op none (some 9) (O.mv (Opd.t 1)), C.op none (some 10) (O.mx [Opd.t 9, Opd.c (AV.int IntKind.i64 0)]),
    C.op none (some 11) (O.cvi IntKind.u64 (Opd.t 10)), C.op none (some 12) (O.bin BinOp.gtr (Opd.t 8) (Opd.t 11)),
    C.cond (Opd.t 12)
      [C.op none (some 13) (O.mv (Opd.t 0)),
        C.op none (some 14) (O.call 82 [Opd.t 13, Opd.c (AV.int IntKind.i64 3)]),
        C.op none (some 4) (O.mv (Opd.c (AV.int IntKind.i64 0))), C.ret]
      [],
    C.op none (some 15) (O.mv (Opd.t 5)), C.op none (some 16) (O.cvi IntKind.i64 (Opd.t 15)),
    C.op none (some 4) (O.mv (Opd.t 16)), C.ret]
def r49 : List RV := [RV.t 4]
theorem c49_ok : cC Try.prog Try.f49.ntmps (Try.f49.body.getD .skip) = some c49 := by kernel_rfl

def c50 : List C :=
  [C.op none (some 2) (O.mv (Opd.c (AV.int IntKind.i64 0))), C.op none (some 3) (O.mv (Opd.t 0)),
    C.op none (some 4) (O.nck (Opd.t 3)), C.op none (some 5) (O.fad 1 (Opd.t 4)),
    C.op none (some 6) (O.ld (CK.int IntKind.i64) (Opd.t 5)), C.op none (some 2) (O.mv (Opd.t 6)), C.ret]
def r50 : List RV := [RV.t 2]
theorem c50_ok : cC Try.prog Try.f50.ntmps (Try.f50.body.getD .skip) = some c50 := by kernel_rfl

def c51 : List C :=
  [C.op none (some 4) (O.mv (Opd.c (AV.str []))), C.op none (some 5) (O.mv (Opd.t 0)),
    C.op none (some 6) (O.mv (Opd.t 0)), C.op none (some 7) (O.mv (Opd.t 1)),
    C.op none (some 8) (O.call 49 [Opd.t 6, Opd.t 7]), C.op none (some 9) (O.call 83 [Opd.t 5, Opd.t 8]),
    C.op none (some 4) (O.mv (Opd.t 9)), C.ret]
def r51 : List RV := [RV.t 4]
theorem c51_ok : cC Try.prog Try.f51.ntmps (Try.f51.body.getD .skip) = some c51 := by kernel_rfl

def c52 : List C :=
  [C.op none (some 2) (O.mv (Opd.c (AV.int IntKind.i64 0))), C.op none (some 3) (O.mv (Opd.t 0)),
    C.op none (some 4) (O.nck (Opd.t 3)), C.op none (some 5) (O.fad 0 (Opd.t 4)),
    C.op none (some 6) (O.ld CK.str (Opd.t 5)), C.op none (some 7) (O.bin BinOp.neq (Opd.t 6) (Opd.c (AV.str []))),
    C.cond (Opd.t 7)
      [C.op none (some 8) (O.mv (Opd.t 0)),
        C.op none (some 9) (O.call 82 [Opd.t 8, Opd.c (AV.int IntKind.i64 2)])]
      [],
    C.op none (some 10) (O.mv (Opd.t 0)), C.op none (some 11) (O.nck (Opd.t 10)),
    C.op none (some 12) (O.fad 1 (Opd.t 11)), C.op none (some 13) (O.ld (CK.int IntKind.i64) (Opd.t 12)),
    C.op none (some 2) (O.mv (Opd.t 13)), C.ret]
def r52 : List RV := [RV.t 2]
theorem c52_ok : cC Try.prog Try.f52.ntmps (Try.f52.body.getD .skip) = some c52 := by kernel_rfl

def c53 : List C :=
  [C.op none (some 4) (O.mv (Opd.c AV.nilsl)), C.op none (some 8) (O.mv (Opd.t 0)), C.op none (some 9) (O.mv (Opd.t 1)),
    C.op none (some 10) (O.call 84 [Opd.t 8, Opd.t 9]), C.op none (some 5) (O.mv (Opd.t 10)),
    C.op none (some 11) (O.mv (Opd.t 5)),
    C.op none (some 12) (O.bin BinOp.eql (Opd.t 11) (Opd.c (AV.int IntKind.i64 (-1)))),
    C.cond (Opd.t 12) [C.op none (some 13) (O.mv (Opd.t 0)), C.op none (some 4) (O.mv (Opd.t 13)), C.ret] [],
    C.op none (some 14) (O.mv (Opd.t 5)),
    C.op none (some 15) (O.bin BinOp.add (Opd.t 14) (Opd.c (AV.int IntKind.i64 1))),
    C.op none (some 6) (O.mv (Opd.t 15)),
    C.blk 0
      [C.loop
          [C.op none (some 16) (O.mv (Opd.t 6)), C.op none (some 17) (O.mv (Opd.t 0)),
            C.op none (some 18) (O.len false (Opd.t 17)), C.op none (some 19) (O.bin BinOp.lss (Opd.t 16) (Opd.t 18)),
            C.cond (Opd.t 19) [] [C.exit 0],
            C.blk 1
              [C.op none (some 22) (O.mv (Opd.t 0)), C.op none (some 23) (O.mv (Opd.t 6)),
                C.op none (some 24) (O.iad 4 (Opd.t 22) (Opd.t 23)),
                C.op none (some 25)
                  (O.ldn [CK.int IntKind.u32, CK.int IntKind.i64, CK.int IntKind.i64, CK.int IntKind.i64] (Opd.t 24)),
                C.op none (some 7)
                  (O.alloc
                    [AV.int IntKind.u32 0, AV.int IntKind.i64 0,
                      AV.int IntKind.i64 0, AV.int IntKind.i64 0]),
                C.op none none (O.st 4 (Opd.t 7) (Opd.t 25)), C.op none (some 26) (O.mv (Opd.t 1)),
                C.op none (some 27)
                  (O.ldn [CK.int IntKind.u32, CK.int IntKind.i64, CK.int IntKind.i64, CK.int IntKind.i64] (Opd.t 7)),
                C.op none (some 28) (O.callv (Opd.t 26) [Opd.t 27]), C.op none (some 29) (O.un UnOp.not (Opd.t 28)),
                C.cond (Opd.t 29)
                  [C.op none (some 30) (O.mv (Opd.t 0)), C.op none (some 31) (O.mv (Opd.t 5)),
                    C.op none (some 32)
                      (O.ldn [CK.int IntKind.u32, CK.int IntKind.i64, CK.int IntKind.i64, CK.int IntKind.i64]
                        (Opd.t 7)),
                    C.op none (some 33) (O.iad 4 (Opd.t 30) (Opd.t 31)), C.op none none (O.st 4 (Opd.t 33) (Opd.t 32)),
                    C.op none (some 34) (O.mv (Opd.t 5)),
                    C.op none (some 35) (O.bin BinOp.add (Opd.t 34) (Opd.c (AV.int IntKind.i64 1))),
                    C.op none (some 5) (O.mv (Opd.t 35))]
                  []],
            C.op none (some 20) (O.mv (Opd.t 6)),
            C.op none (some 21) (O.bin BinOp.add (Opd.t 20) (Opd.c (AV.int IntKind.i64 1))),
            C.op none (some 6) (O.mv (Opd.t 21))]],
    C.op none (some 36) (O.mv (Opd.t 0)), C.op none (some 37) (O.mv (Opd.t 5)),
    C.op none (some 38) (O.lsl 4 (Opd.t 36) (some (Opd.t 37)) none none),
    C.op none none
      (O.clr 4
        [AV.int IntKind.u32 0, AV.int IntKind.i64 0, AV.int IntKind.i64 0,
          AV.int IntKind.i64 0]
        (Opd.t 38)),
    C.op none (some 39) (O.mv (Opd.t 0)), C.op none (some 40) (O.mv (Opd.t 5)),
    C.op none (some 41) (O.lsl 4 (Opd.t 39) none (some (Opd.t 40)) none), C.op none (some 4) (O.mv (Opd.t 41)), C.ret]
def r53 : List RV := [RV.t 4]
theorem c53_ok : cC Try.prog Try.f53.ntmps (Try.f53.body.getD .skip) = some c53 := by kernel_rfl

def c54 : List C :=
  [C.op none (some 2) (O.mv (Opd.c AV.nilsl)), C.op none (some 3) (O.mv (Opd.t 0)),
    C.op none (some 4) (O.eqn false (Opd.t 3)), C.cond (Opd.t 4) [C.op none (some 2) (O.mv (Opd.c AV.nilsl)), C.ret] [],
    C.op none (some 5)
      (O.bsl 4
        [AV.int IntKind.u32 0, AV.int IntKind.i64 0, AV.int IntKind.i64 0,
          AV.int IntKind.i64 0]
        0 []),
    C.op none (some 6) (O.mv (Opd.t 0)), C.op none (some 7) (O.app 4 (Opd.t 5) (Opd.t 6)),
    C.op none (some 2) (O.mv (Opd.t 7)), C.ret]
def r54 : List RV := [RV.t 2]
theorem c54_ok : cC Try.prog Try.f54.ntmps (Try.f54.body.getD .skip) = some c54 := by kernel_rfl

def c55 : List C :=
  [C.op none (some 2) (O.box (Opd.t 0)), C.op none (some 3) (O.mv (Opd.c (AV.bool false))),
    C.op none (some 4) (O.ld CK.any (Opd.t 1)), C.op none (some 5) (O.fad 0 (Opd.t 2)),
    C.op none (some 6) (O.ld (CK.int IntKind.u32) (Opd.t 5)), C.op none (some 7) (O.call 56 [Opd.t 4, Opd.t 6]),
    C.op none (some 3) (O.mv (Opd.t 7)), C.ret]
def r55 : List RV := [RV.t 3]
theorem c55_ok : cC Try.prog Try.f55.ntmps (Try.f55.body.getD .skip) = some c55 := by kernel_rfl

def c56 : List C :=
  [C.op none (some 4) (O.mv (Opd.c (AV.bool false))), C.op none (some 5) (O.mv (Opd.t 0)),
    C.op none (some 6) (O.mv (Opd.t 1)), C.op none (some 7) (O.call 85 [Opd.t 5, Opd.t 6]),
    C.op none (some 8) (O.bin BinOp.geq (Opd.t 7) (Opd.c (AV.int IntKind.i64 0))),
    C.op none (some 4) (O.mv (Opd.t 8)), C.ret]
def r56 : List RV := [RV.t 4]
theorem c56_ok : cC Try.prog Try.f56.ntmps (Try.f56.body.getD .skip) = some c56 := by kernel_rfl

def c57 : List C :=
  [C.op none (some 4) (O.mv (Opd.c AV.nilsl)), C.op none (some 8) (O.mv (Opd.t 0)), C.op none (some 9) (O.mv (Opd.t 1)),
    C.op none (some 10) (O.call 86 [Opd.t 8, Opd.t 9]), C.op none (some 5) (O.mv (Opd.t 10)),
    C.op none (some 11) (O.mv (Opd.t 5)),
    C.op none (some 12) (O.bin BinOp.eql (Opd.t 11) (Opd.c (AV.int IntKind.i64 (-1)))),
    C.cond (Opd.t 12) [C.op none (some 13) (O.mv (Opd.t 0)), C.op none (some 4) (O.mv (Opd.t 13)), C.ret] [],
    C.op none (some 14) (O.mv (Opd.t 5)),
    C.op none (some 15) (O.bin BinOp.add (Opd.t 14) (Opd.c (AV.int IntKind.i64 1))),
    C.op none (some 6) (O.mv (Opd.t 15)),
    C.blk 0
      [C.loop
          [C.op none (some 16) (O.mv (Opd.t 6)), C.op none (some 17) (O.mv (Opd.t 0)),
            C.op none (some 18) (O.len false (Opd.t 17)), C.op none (some 19) (O.bin BinOp.lss (Opd.t 16) (Opd.t 18)),
            C.cond (Opd.t 19) [] [C.exit 0],
            C.blk 1
              [C.op none (some 22) (O.mv (Opd.t 0)), C.op none (some 23) (O.mv (Opd.t 6)),
                C.op none (some 24) (O.iad 2 (Opd.t 22) (Opd.t 23)),
                C.op none (some 25) (O.ldn [CK.int IntKind.u32, CK.str] (Opd.t 24)),
                C.op none (some 7) (O.alloc [AV.int IntKind.u32 0, AV.str []]),
                C.op none none (O.st 2 (Opd.t 7) (Opd.t 25)), C.op none (some 26) (O.mv (Opd.t 1)),
                C.op none (some 27) (O.ldn [CK.int IntKind.u32, CK.str] (Opd.t 7)),
                C.op none (some 28) (O.callv (Opd.t 26) [Opd.t 27]), C.op none (some 29) (O.un UnOp.not (Opd.t 28)),
                C.cond (Opd.t 29)
                  [C.op none (some 30) (O.mv (Opd.t 0)), C.op none (some 31) (O.mv (Opd.t 5)),
                    C.op none (some 32) (O.ldn [CK.int IntKind.u32, CK.str] (Opd.t 7)),
                    C.op none (some 33) (O.iad 2 (Opd.t 30) (Opd.t 31)), C.op none none (O.st 2 (Opd.t 33) (Opd.t 32)),
                    C.op none (some 34) (O.mv (Opd.t 5)),
                    C.op none (some 35) (O.bin BinOp.add (Opd.t 34) (Opd.c (AV.int IntKind.i64 1))),
                    C.op none (some 5) (O.mv (Opd.t 35))]
                  []],
            C.op none (some 20) (O.mv (Opd.t 6)),
            C.op none (some 21) (O.bin BinOp.add (Opd.t 20) (Opd.c (AV.int IntKind.i64 1))),
            C.op none (some 6) (O.mv (Opd.t 21))]],
    C.op none (some 36) (O.mv (Opd.t 0)), C.op none (some 37) (O.mv (Opd.t 5)),
    C.op none (some 38) (O.lsl 2 (Opd.t 36) (some (Opd.t 37)) none none),
    C.op none none (O.clr 2 [AV.int IntKind.u32 0, AV.str []] (Opd.t 38)),
    C.op none (some 39) (O.mv (Opd.t 0)), C.op none (some 40) (O.mv (Opd.t 5)),
    C.op none (some 41) (O.lsl 2 (Opd.t 39) none (some (Opd.t 40)) none), C.op none (some 4) (O.mv (Opd.t 41)), C.ret]
def r57 : List RV := [RV.t 4]
theorem c57_ok : cC Try.prog Try.f57.ntmps (Try.f57.body.getD .skip) = some c57 := by kernel_rfl

def c58 : List C :=
  [C.op none (some 2) (O.mv (Opd.c AV.nilsl)), C.op none (some 3) (O.mv (Opd.t 0)),
    C.op none (some 4) (O.eqn false (Opd.t 3)), C.cond (Opd.t 4) [C.op none (some 2) (O.mv (Opd.c AV.nilsl)), C.ret] [],
    C.op none (some 5) (O.bsl 2 [AV.int IntKind.u32 0, AV.str []] 0 []),
    C.op none (some 6) (O.mv (Opd.t 0)), C.op none (some 7) (O.app 2 (Opd.t 5) (Opd.t 6)),
    C.op none (some 2) (O.mv (Opd.t 7)), C.ret]
def r58 : List RV := [RV.t 2]
theorem c58_ok : cC Try.prog Try.f58.ntmps (Try.f58.body.getD .skip) = some c58 := by kernel_rfl

def c59 : List C :=
  [C.op none (some 3) (O.box (Opd.t 0)), C.op none (some 4) (O.mv (Opd.c (AV.bool false))),
    C.op none (some 5) (O.ldn [CK.int IntKind.u32, CK.int IntKind.u32] (Opd.t 1)),
    C.op none (some 6) (O.fad 0 (Opd.t 3)), C.op none (some 7) (O.ld (CK.int IntKind.u32) (Opd.t 6)),
    C.op none (some 8) (O.call 60 [Opd.t 5, Opd.t 7]),
    C.cond (Opd.t 8)
      [C.op none (some 9) (O.ld CK.any (Opd.t 2)), C.op none (some 10) (O.fad 0 (Opd.t 3)),
        C.op none (some 11) (O.ld (CK.int IntKind.u32) (Opd.t 10)),
        C.op none (some 12) (O.bsl 1 [AV.int IntKind.u32 0] 1 [(0, Opd.t 11)]),
        C.op none (some 13) (O.app 1 (Opd.t 9) (Opd.t 12)), C.op none none (O.st 1 (Opd.t 2) (Opd.t 13)),
        C.op none (some 4) (O.mv (Opd.c (AV.bool true))), C.ret]
      [],
    C.op none (some 4) (O.mv (Opd.c (AV.bool false))), C.ret]
def r59 : List RV := [RV.t 4]
theorem c59_ok : cC Try.prog Try.f59.ntmps (Try.f59.body.getD .skip) = some c59 := by kernel_rfl

def c60 : List C :=
  [C.op none (some 2) (O.box (Opd.t 0)), C.op none (some 4) (O.mv (Opd.c (AV.bool false))),
    C.op none (some 6) (O.mv (Opd.t 1)), C.op none (some 7) (O.fad 0 (Opd.t 2)),
    C.op none (some 8) (O.ld (CK.int IntKind.u32) (Opd.t 7)), C.op none (some 9) (O.bin BinOp.sub (Opd.t 6) (Opd.t 8)),
    C.op none (some 5) (O.mv (Opd.t 9)), C.op none (some 10) (O.mv (Opd.t 5)),
    C.op none (some 11) (O.bin BinOp.geq (Opd.t 10) (Opd.c (AV.int IntKind.u32 2147483648))),
    C.cond (Opd.t 11) [C.op none (some 4) (O.mv (Opd.c (AV.bool true))), C.ret] [],
    C.op none (some 12) (O.mv (Opd.t 5)),
    C.op none (some 13) (O.bin BinOp.geq (Opd.t 12) (Opd.c (AV.int IntKind.u32 1))),
    C.op none (some 14) (O.mv (Opd.t 13)), C.op (some (14, true)) (some 15) (O.mv (Opd.t 5)),
    C.op (some (14, true)) (some 16) (O.bin BinOp.leq (Opd.t 15) (Opd.c (AV.int IntKind.u32 32))),
    C.op none (some 17) (O.pick (Opd.t 14) (Opd.t 16) (Opd.c (AV.bool false))), C.op none (some 18) (O.mv (Opd.t 17)),
    C.op (some (18, true)) (some 19) (O.fad 1 (Opd.t 2)),
    C.op (some (18, true)) (some 20) (O.ld (CK.int IntKind.u32) (Opd.t 19)),
    C.op (some (18, true)) (some 21) (O.mv (Opd.t 5)),
    C.op (some (18, true)) (some 22) (O.bin BinOp.sub (Opd.t 21) (Opd.c (AV.int IntKind.u32 1))),
    C.op (some (18, true)) (some 23) (O.bin BinOp.shr (Opd.t 20) (Opd.t 22)),
    C.op (some (18, true)) (some 24) (O.bin BinOp.and (Opd.t 23) (Opd.c (AV.int IntKind.u32 1))),
    C.op (some (18, true)) (some 25) (O.bin BinOp.eql (Opd.t 24) (Opd.c (AV.int IntKind.u32 1))),
    C.op none (some 26) (O.pick (Opd.t 18) (Opd.t 25) (Opd.c (AV.bool false))), C.op none (some 4) (O.mv (Opd.t 26)),
    C.ret]
def r60 : List RV := [RV.t 4]
theorem c60_ok : cC Try.prog Try.f60.ntmps (Try.f60.body.getD .skip) = some c60 := by kernel_rfl

def d61_0 : List It :=
  [(none, some 18, O.mv (Opd.t 0), []),
        (none, some 19, O.ist (Opd.t 18) (Opd.c (AV.int IntKind.i64 0)), [0]),
        (none, some 20, O.bin BinOp.eql (Opd.t 19) (Opd.c (AV.int IntKind.u8 1)), [1]),
        (none, some 21, O.mv (Opd.t 0), []),
        (none, some 22, O.ssl (Opd.t 21) (some (Opd.c (AV.int IntKind.i64 1))) none, [3]),
        (none, some 23, O.build [AV.bool false, AV.str []] [(0, 1, Opd.t 20), (1, 1, Opd.t 22)], [2, 4]),
        (none, none, O.st 2 (Opd.t 2) (Opd.t 23), [5, 0, 1, 2, 3, 4, 5]),
        (none, some 3, O.mv (Opd.c (AV.int IntKind.i64 0)), [6, 0, 1, 2, 3, 4, 5, 6])]
def o61_0 : List (Nat × Bool) := [(0, false), (1, false), (2, false), (3, false), (4, false), (5, false), (6, true), (7, false)]
def l61_0 : List (Nat × Bool × It) :=
  [(0, false, (none, some 18, O.mv (Opd.t 0), [])),
   (1, false, (none, some 19, O.ist (Opd.t 18) (Opd.c (AV.int IntKind.i64 0)), [0])),
   (2, false, (none, some 20, O.bin BinOp.eql (Opd.t 19) (Opd.c (AV.int IntKind.u8 1)), [1])),
   (3, false, (none, some 21, O.mv (Opd.t 0), [])),
   (4, false, (none, some 22, O.ssl (Opd.t 21) (some (Opd.c (AV.int IntKind.i64 1))) none, [3])),
   (5, false, (none, some 23, O.build [AV.bool false, AV.str []] [(0, 1, Opd.t 20), (1, 1, Opd.t 22)], [2, 4])),
   (6, true, (none, none, O.st 2 (Opd.t 2) (Opd.t 23), [5, 0, 1, 2, 3, 4, 5])),
   (7, false, (none, some 3, O.mv (Opd.c (AV.int IntKind.i64 0)), [6, 0, 1, 2, 3, 4, 5, 6]))]
theorem l61_0_ok : okDraw d61_0 o61_0 = true ∧ mkL d61_0 o61_0 = some l61_0 := ⟨by kernel_rfl, by kernel_rfl⟩

def c61 : List C :=
  [C.op none (some 2) (O.alloc [AV.bool false, AV.str []]),
    C.op none (some 3) (O.mv (Opd.c (AV.int IntKind.i64 0))),
    C.blk 0
      [C.op none (some 5) (O.mv (Opd.t 0)), C.op none (some 6) (O.bin BinOp.eql (Opd.t 5) (Opd.c (AV.str []))),
        C.op none (some 4) (O.mv (Opd.t 6)),
        C.cond (Opd.t 4)
          [C.op none (some 7) (O.build [AV.bool false, AV.str []] []), C.op none none (O.st 2 (Opd.t 2) (Opd.t 7)),
            C.op none (some 3) (O.mv (Opd.c (AV.int IntKind.i64 1))), C.ret]
          [C.op none (some 9) (O.mv (Opd.t 0)),
            C.op none (some 10) (O.ist (Opd.t 9) (Opd.c (AV.int IntKind.i64 0))),
            C.op none (some 11) (O.bin BinOp.gtr (Opd.t 10) (Opd.c (AV.int IntKind.u8 1))),
            C.op none (some 8) (O.mv (Opd.t 11)),
            C.cond (Opd.t 8)
              [C.op none (some 12) (O.build [AV.bool false, AV.str []] []),
                C.op none none (O.st 2 (Opd.t 2) (Opd.t 12)),
                C.op none (some 3) (O.mv (Opd.c (AV.int IntKind.i64 2))), C.ret]
              [C.op none (some 14) (O.mv (Opd.t 0)), C.op none (some 15) (O.len true (Opd.t 14)),
                C.op none (some 16) (O.bin BinOp.gtr (Opd.t 15) (Opd.c (AV.int IntKind.i64 201))),
                C.op none (some 13) (O.mv (Opd.t 16)),
                C.cond (Opd.t 13)
                  [C.op none (some 17) (O.build [AV.bool false, AV.str []] []),
                    C.op none none (O.st 2 (Opd.t 2) (Opd.t 17)),
                    C.op none (some 3) (O.mv (Opd.c (AV.int IntKind.i64 3))), C.ret]
                  []]]],
    C.draw d61_0,
    C.ret]
def r61 : List RV := [RV.cn 2 2, RV.t 3]
theorem c61_ok : cC Try.prog Try.f61.ntmps (Try.f61.body.getD .skip) = some c61 := by kernel_rfl

def c62 : List C :=
  [C.op none (some 4) (O.mv (Opd.c AV.nilsl)), C.op none (some 5) (O.mv (Opd.c (AV.int IntKind.i64 0))),
    C.op none (some 6) (O.mv (Opd.c AV.nilsl)), C.op none (some 12) (O.mv (Opd.t 1)),
    C.op none (some 13) (O.len false (Opd.t 12)), C.op none (some 14) (O.mv (Opd.c (AV.int IntKind.i64 0))),
    C.blk 0
      [C.loop
          [C.op none (some 15) (O.bin BinOp.lss (Opd.t 14) (Opd.t 13)), C.cond (Opd.t 15) [] [C.exit 0],
            C.blk 1
              [C.op none (some 16) (O.iad 2 (Opd.t 12) (Opd.t 14)),
                C.op none (some 17) (O.ldn [CK.bool, CK.str] (Opd.t 16)),
                C.op none (some 8) (O.alloc [AV.bool false, AV.str []]), C.op none none (O.st 2 (Opd.t 8) (Opd.t 17)),
                C.op none (some 19) (O.mv (Opd.t 0)), C.op none (some 20) (O.ldn [CK.bool, CK.str] (Opd.t 8)),
                C.op none (some 21) (O.call 87 [Opd.t 19, Opd.t 20]), C.op none (some 18) (O.mv (Opd.t 21)),
                C.op none (some 22) (O.ext (Opd.t 18) 0), C.op none (some 23) (O.ext (Opd.t 18) 1),
                C.op none (some 24) (O.ext (Opd.t 18) 2), C.op none (some 9) (O.mv (Opd.t 22)),
                C.op none (some 10) (O.mv (Opd.t 23)), C.op none (some 11) (O.mv (Opd.t 24)),
                C.op none (some 25) (O.mv (Opd.t 11)),
                C.op none (some 26) (O.bin BinOp.neq (Opd.t 25) (Opd.c (AV.int IntKind.i64 0))),
                C.cond (Opd.t 26)
                  [C.op none (some 27) (O.mv (Opd.t 6)), C.op none (some 28) (O.mv (Opd.t 11)),
                    C.op none (some 4) (O.mv (Opd.t 27)), C.op none (some 5) (O.mv (Opd.t 28)), C.ret]
                  [],
                C.op none (some 29) (O.mv (Opd.t 10)),
                C.cond (Opd.t 29)
                  [C.op none (some 30) (O.mv (Opd.t 6)), C.op none (some 31) (O.mv (Opd.t 9)),
                    C.op none (some 32) (O.bsl 1 [AV.str []] 1 [(0, Opd.t 31)]),
                    C.op none (some 33) (O.app 1 (Opd.t 30) (Opd.t 32)), C.op none (some 6) (O.mv (Opd.t 33))]
                  []],
            C.op none (some 34) (O.bin BinOp.add (Opd.t 14) (Opd.c (AV.int IntKind.i64 1))),
            C.op none (some 14) (O.mv (Opd.t 34))]],
    C.op none (some 35) (O.mv (Opd.t 6)), C.op none (some 4) (O.mv (Opd.t 35)),
    C.op none (some 5) (O.mv (Opd.c (AV.int IntKind.i64 0))), C.ret]
def r62 : List RV := [RV.t 4, RV.t 5]
theorem c62_ok : cC Try.prog Try.f62.ntmps (Try.f62.body.getD .skip) = some c62 := by kernel_rfl

def c63 : List C :=
  [C.op none (some 2) (O.mv (Opd.c (AV.str []))), C.op none (some 3) (O.mv (Opd.c (AV.str []))),
    C.op none (some 4) (O.mv (Opd.c (AV.int IntKind.i64 0))),
    C.blk 0
      [C.loop
          [C.op none (some 5) (O.mv (Opd.t 4)),
            C.op none (some 6) (O.bin BinOp.lss (Opd.t 5) (Opd.c (AV.int IntKind.i64 10))),
            C.op none (some 7) (O.mv (Opd.t 6)), C.op (some (7, true)) (some 8) (O.mv (Opd.t 0)),
            C.op (some (7, true)) (some 9) (O.bin BinOp.gtr (Opd.t 8) (Opd.c (AV.int IntKind.u64 127))),
            C.op none (some 10) (O.pick (Opd.t 7) (Opd.t 9) (Opd.c (AV.bool false))), C.cond (Opd.t 10) [] [C.exit 0],
            C.blk 1
              [C.op none (some 13) (O.mv (Opd.t 3)), C.op none (some 14) (O.mv (Opd.t 0)),
                C.op none (some 15) (O.bin BinOp.rem (Opd.t 14) (Opd.c (AV.int IntKind.u64 128))),
                C.op none (some 16) (O.bin BinOp.add (Opd.c (AV.int IntKind.u64 128)) (Opd.t 15)),
                C.op none (some 17) (O.cvi IntKind.u8 (Opd.t 16)),
                C.op none (some 18) (O.bsl 1 [AV.int IntKind.u8 0] 1 [(0, Opd.t 17)]),
                C.op none (some 19) (O.cvb (Opd.t 18)), C.op none (some 20) (O.bin BinOp.add (Opd.t 13) (Opd.t 19)),
                C.op none (some 3) (O.mv (Opd.t 20)), C.op none (some 21) (O.mv (Opd.t 0)),
                C.op none (some 22) (O.bin BinOp.quo (Opd.t 21) (Opd.c (AV.int IntKind.u64 128))),
                C.op none (some 0) (O.mv (Opd.t 22))],
            C.op none (some 11) (O.mv (Opd.t 4)),
            C.op none (some 12) (O.bin BinOp.add (Opd.t 11) (Opd.c (AV.int IntKind.i64 1))),
            C.op none (some 4) (O.mv (Opd.t 12))]],
    C.op none (some 23) (O.mv (Opd.t 3)), C.op none (some 24) (O.mv (Opd.t 0)),
    C.op none (some 25) (O.cvi IntKind.u8 (Opd.t 24)),
    C.op none (some 26) (O.bsl 1 [AV.int IntKind.u8 0] 1 [(0, Opd.t 25)]),
    C.op none (some 27) (O.cvb (Opd.t 26)), C.op none (some 28) (O.bin BinOp.add (Opd.t 23) (Opd.t 27)),
    C.op none (some 2) (O.mv (Opd.t 28)), C.ret]
def r63 : List RV := [RV.t 2]
theorem c63_ok : cC Try.prog Try.f63.ntmps (Try.f63.body.getD .skip) = some c63 := by kernel_rfl

def c64 : List C :=
  [C.op none (some 2) (O.mv (Opd.c (AV.int IntKind.u32 0))),
    C.op none (some 3) (O.mv (Opd.c (AV.int IntKind.u32 4294967295))),
    C.op none (some 4) (O.mv (Opd.c (AV.int IntKind.i64 0))),
    C.blk 0
      [C.loop
          [C.op none (some 8) (O.mv (Opd.t 4)), C.op none (some 9) (O.mv (Opd.t 0)),
            C.op none (some 10) (O.len true (Opd.t 9)), C.op none (some 11) (O.bin BinOp.lss (Opd.t 8) (Opd.t 10)),
            C.cond (Opd.t 11) [] [C.exit 0],
            C.blk 1
              [C.op none (some 14) (O.mv (Opd.t 0)), C.op none (some 15) (O.mv (Opd.t 4)),
                C.op none (some 16) (O.ist (Opd.t 14) (Opd.t 15)), C.op none (some 17) (O.cvi IntKind.u32 (Opd.t 16)),
                C.op none (some 5) (O.mv (Opd.t 17)),
                C.op none (some 6) (O.mv (Opd.c (AV.int IntKind.i64 0))),
                C.blk 2
                  [C.loop
                      [C.op none (some 18) (O.mv (Opd.t 6)),
                        C.op none (some 19) (O.bin BinOp.lss (Opd.t 18) (Opd.c (AV.int IntKind.i64 8))),
                        C.cond (Opd.t 19) [] [C.exit 2],
                        C.blk 3
                          [C.op none (some 22) (O.mv (Opd.t 3)), C.op none (some 23) (O.mv (Opd.t 5)),
                            C.op none (some 24) (O.bin BinOp.add (Opd.t 22) (Opd.t 23)),
                            C.op none (some 25) (O.bin BinOp.rem (Opd.t 24) (Opd.c (AV.int IntKind.u32 2))),
                            C.op none (some 26) (O.bin BinOp.eql (Opd.t 25) (Opd.c (AV.int IntKind.u32 1))),
                            C.op none (some 7) (O.mv (Opd.t 26)), C.op none (some 27) (O.mv (Opd.t 3)),
                            C.op none (some 28) (O.bin BinOp.quo (Opd.t 27) (Opd.c (AV.int IntKind.u32 2))),
                            C.op none (some 3) (O.mv (Opd.t 28)), C.op none (some 29) (O.mv (Opd.t 5)),
                            C.op none (some 30) (O.bin BinOp.quo (Opd.t 29) (Opd.c (AV.int IntKind.u32 2))),
                            C.op none (some 5) (O.mv (Opd.t 30)), C.op none (some 31) (O.mv (Opd.t 7)),
                            C.cond (Opd.t 31)
                              [C.op none (some 32) (O.mv (Opd.t 3)),
                                C.op none (some 33)
                                  (O.bin BinOp.xor (Opd.t 32) (Opd.c (AV.int IntKind.u32 3988292384))),
                                C.op none (some 3) (O.mv (Opd.t 33))]
                              []],
                        C.op none (some 20) (O.mv (Opd.t 6)),
                        C.op none (some 21) (O.bin BinOp.add (Opd.t 20) (Opd.c (AV.int IntKind.i64 1))),
                        C.op none (some 6) (O.mv (Opd.t 21))]]],
            C.op none (some 12) (O.mv (Opd.t 4)),
            C.op none (some 13) (O.bin BinOp.add (Opd.t 12) (Opd.c (AV.int IntKind.i64 1))),
            C.op none (some 4) (O.mv (Opd.t 13))]],
    C.op none (some 34) (O.mv (Opd.t 3)),
    C.op none (some 35) (O.bin BinOp.sub (Opd.c (AV.int IntKind.u32 4294967295)) (Opd.t 34)),
    C.op none (some 2) (O.mv (Opd.t 35)), C.ret]
def r64 : List RV := [RV.t 2]
theorem c64_ok : cC Try.prog Try.f64.ntmps (Try.f64.body.getD .skip) = some c64 := by kernel_rfl

def c65 : List C :=
  [C.op none (some 1) (O.box (Opd.t 0)), C.op none (some 2) (O.mv (Opd.c (AV.int IntKind.i64 0))),
    C.op none (some 3) (O.fad 0 (Opd.t 1)), C.op none (some 4) (O.ld (CK.int IntKind.i64) (Opd.t 3)),
    C.op none (some 5) (O.bin BinOp.lss (Opd.t 4) (Opd.c (AV.int IntKind.i64 1))),
    C.op none (some 6) (O.mv (Opd.t 5)), C.op (some (6, false)) (some 7) (O.fad 1 (Opd.t 1)),
    C.op (some (6, false)) (some 8) (O.ld (CK.int IntKind.i64) (Opd.t 7)),
    C.op (some (6, false)) (some 9) (O.fad 0 (Opd.t 1)),
    C.op (some (6, false)) (some 10) (O.ld (CK.int IntKind.i64) (Opd.t 9)),
    C.op (some (6, false)) (some 11) (O.bin BinOp.lss (Opd.t 8) (Opd.t 10)),
    C.op none (some 12) (O.pick (Opd.t 6) (Opd.c (AV.bool true)) (Opd.t 11)), C.op none (some 13) (O.mv (Opd.t 12)),
    C.op (some (13, false)) (some 14) (O.fad 1 (Opd.t 1)),
    C.op (some (13, false)) (some 15) (O.ld (CK.int IntKind.i64) (Opd.t 14)),
    C.op (some (13, false)) (some 16) (O.bin BinOp.gtr (Opd.t 15) (Opd.c (AV.int IntKind.i64 1048576))),
    C.op none (some 17) (O.pick (Opd.t 13) (Opd.c (AV.bool true)) (Opd.t 16)),
    C.cond (Opd.t 17) [C.op none (some 2) (O.mv (Opd.c (AV.int IntKind.i64 4))), C.ret] [],
    C.op none (some 2) (O.mv (Opd.c (AV.int IntKind.i64 0))), C.ret]
def r65 : List RV := [RV.t 2]
theorem c65_ok : cC Try.prog Try.f65.ntmps (Try.f65.body.getD .skip) = some c65 := by kernel_rfl

def c66 : List C :=
  [C.op none (some 4) (O.mv (Opd.t 0)), C.op none (some 5) (O.mv (Opd.t 0)), C.op none (some 6) (O.len false (Opd.t 5)),
    C.op none (some 7) (O.mv (Opd.t 1)), C.op none (some 8) (O.call 88 [Opd.t 4, Opd.t 6, Opd.t 7])]
def r66 : List RV := []
theorem c66_ok : cC Try.prog Try.f66.ntmps (Try.f66.body.getD .skip) = some c66 := by kernel_rfl

def c67 : List C :=
  [C.op none (some 2) (O.box (Opd.t 0)), C.op none (some 3) (O.box (Opd.t 1)),
    C.op none (some 4) (O.mv (Opd.c (AV.int IntKind.i64 0))), C.op none (some 5) (O.fad 1 (Opd.t 2)),
    C.op none (some 6) (O.ld (CK.int IntKind.i64) (Opd.t 5)), C.op none (some 7) (O.fad 1 (Opd.t 3)),
    C.op none (some 8) (O.ld (CK.int IntKind.i64) (Opd.t 7)), C.op none (some 9) (O.call 68 [Opd.t 6, Opd.t 8]),
    C.op none (some 4) (O.mv (Opd.t 9)), C.ret]
def r67 : List RV := [RV.t 4]
theorem c67_ok : cC Try.prog Try.f67.ntmps (Try.f67.body.getD .skip) = some c67 := by kernel_rfl

def c68 : List C :=
  [C.op none (some 4) (O.mv (Opd.c (AV.int IntKind.i64 0))), C.op none (some 7) (O.mv (Opd.t 0)),
    C.op none (some 8) (O.call 89 [Opd.t 7]), C.op none (some 5) (O.mv (Opd.t 8)), C.op none (some 9) (O.mv (Opd.t 1)),
    C.op none (some 10) (O.call 89 [Opd.t 9]), C.op none (some 6) (O.mv (Opd.t 10)),
    C.op none (some 11) (O.mv (Opd.t 5)),
    C.cond (Opd.t 11)
      [C.op none (some 12) (O.mv (Opd.t 6)),
        C.cond (Opd.t 12) [C.op none (some 4) (O.mv (Opd.c (AV.int IntKind.i64 0))), C.ret] [],
        C.op none (some 4) (O.mv (Opd.c (AV.int IntKind.i64 (-1)))), C.ret]
      [],
    C.op none (some 13) (O.mv (Opd.t 6)),
    C.cond (Opd.t 13) [C.op none (some 4) (O.mv (Opd.c (AV.int IntKind.i64 1))), C.ret] [],
    C.op none (some 14) (O.mv (Opd.t 0)), C.op none (some 15) (O.mv (Opd.t 1)),
    C.op none (some 16) (O.bin BinOp.lss (Opd.t 14) (Opd.t 15)),
    C.cond (Opd.t 16) [C.op none (some 4) (O.mv (Opd.c (AV.int IntKind.i64 (-1)))), C.ret] [],
    C.op none (some 17) (O.mv (Opd.t 0)), C.op none (some 18) (O.mv (Opd.t 1)),
    C.op none (some 19) (O.bin BinOp.gtr (Opd.t 17) (Opd.t 18)),
    C.cond (Opd.t 19) [C.op none (some 4) (O.mv (Opd.c (AV.int IntKind.i64 1))), C.ret] [],
    C.op none (some 4) (O.mv (Opd.c (AV.int IntKind.i64 0))), C.ret]
def r68 : List RV := [RV.t 4]
theorem c68_ok : cC Try.prog Try.f68.ntmps (Try.f68.body.getD .skip) = some c68 := by kernel_rfl

def d69_0 : List It :=
  [(none, some 17, O.mv (Opd.t 0), []), (none, some 18, O.nck (Opd.t 17), [0]),
                    (none, some 19, O.fad 1 (Opd.t 18), [1]), (none, some 20, O.ld CK.any (Opd.t 19), [2]),
                    (none, some 21, O.mv (Opd.t 0), []), (none, some 22, O.nck (Opd.t 21), [4]),
                    (none, some 23, O.fad 0 (Opd.t 22), [5]),
                    (none, some 24, O.ld (CK.int IntKind.u32) (Opd.t 23), [6]), (none, some 25, O.mv (Opd.t 4), []),
                    (none, some 26, O.bin BinOp.add (Opd.t 24) (Opd.t 25), [7, 8]),
                    (none, some 27, O.look false CK.str (AV.str []) true (Opd.t 20) (Opd.t 26), [3, 9]),
                    (none, some 16, O.mv (Opd.t 27), [10]), (none, some 28, O.ext (Opd.t 16) 0, [11]),
                    (none, some 29, O.ext (Opd.t 16) 1, [11]),
                    (none, some 5, O.mv (Opd.t 28), [12, 0, 1, 2, 3, 4, 5, 6, 7, 8, 9, 10, 11, 12]),
                    (none, some 6, O.mv (Opd.t 29), [13, 14, 0, 1, 2, 3, 4, 5, 6, 7, 8, 9, 10, 11, 12, 13, 14])]
def o69_0 : List (Nat × Bool) := [(0, false), (1, false), (2, false), (3, false), (4, false), (5, false), (6, false), (7, false), (8, false), (9, false), (10, false), (11, false), (12, false), (13, false), (14, false), (15, false)]
def l69_0 : List (Nat × Bool × It) :=
  [(0, false, (none, some 17, O.mv (Opd.t 0), [])),
   (1, false, (none, some 18, O.nck (Opd.t 17), [0])),
   (2, false, (none, some 19, O.fad 1 (Opd.t 18), [1])),
   (3, false, (none, some 20, O.ld CK.any (Opd.t 19), [2])),
   (4, false, (none, some 21, O.mv (Opd.t 0), [])),
   (5, false, (none, some 22, O.nck (Opd.t 21), [4])),
   (6, false, (none, some 23, O.fad 0 (Opd.t 22), [5])),
   (7, false, (none, some 24, O.ld (CK.int IntKind.u32) (Opd.t 23), [6])),
   (8, false, (none, some 25, O.mv (Opd.t 4), [])),
   (9, false, (none, some 26, O.bin BinOp.add (Opd.t 24) (Opd.t 25), [7, 8])),
   (10, false, (none, some 27, O.look false CK.str (AV.str []) true (Opd.t 20) (Opd.t 26), [3, 9])),
   (11, false, (none, some 16, O.mv (Opd.t 27), [10])),
   (12, false, (none, some 28, O.ext (Opd.t 16) 0, [11])),
   (13, false, (none, some 29, O.ext (Opd.t 16) 1, [11])),
   (14, false, (none, some 5, O.mv (Opd.t 28), [12, 0, 1, 2, 3, 4, 5, 6, 7, 8, 9, 10, 11, 12])),
   (15, false, (none, some 6, O.mv (Opd.t 29), [13, 14, 0, 1, 2, 3, 4, 5, 6, 7, 8, 9, 10, 11, 12, 13, 14]))]
theorem l69_0_ok : okDraw d69_0 o69_0 = true ∧ mkL d69_0 o69_0 = some l69_0 := ⟨by kernel_rfl, by kernel_rfl⟩

def c69 : List C :=
  [C.op none (some 2) (O.alloc [AV.int IntKind.u32 0, AV.int IntKind.u32 0]),
    C.op none (some 7) (O.mv (Opd.t 0)), C.op none (some 8) (O.nck (Opd.t 7)), C.op none (some 9) (O.fad 0 (Opd.t 8)),
    C.op none (some 10) (O.ld (CK.int IntKind.u32) (Opd.t 9)),
    C.op none (some 11)
      (O.build [AV.int IntKind.u32 0, AV.int IntKind.u32 0] [(0, 1, Opd.t 10)]),
    C.op none (some 3) (O.alloc [AV.int IntKind.u32 0, AV.int IntKind.u32 0]),
    C.op none none (O.st 2 (Opd.t 3) (Opd.t 11)), C.op none (some 4) (O.mv (Opd.c (AV.int IntKind.u32 1))),
    C.blk 0
      [C.loop
          [C.op none (some 12) (O.mv (Opd.t 4)),
            C.op none (some 13) (O.bin BinOp.leq (Opd.t 12) (Opd.c (AV.int IntKind.u32 32))),
            C.cond (Opd.t 13) [] [C.exit 0],
            C.blk 1
              [C.draw d69_0,
                C.op none (some 30) (O.mv (Opd.t 6)),
                C.cond (Opd.t 30)
                  [C.op none (some 31) (O.fad 1 (Opd.t 3)), C.op none (some 32) (O.ld (CK.int IntKind.u32) (Opd.t 31)),
                    C.op none (some 33) (O.mv (Opd.t 4)),
                    C.op none (some 34) (O.bin BinOp.sub (Opd.t 33) (Opd.c (AV.int IntKind.u32 1))),
                    C.op none (some 35) (O.bin BinOp.shl (Opd.c (AV.int IntKind.u32 1)) (Opd.t 34)),
                    C.op none (some 36) (O.bin BinOp.or (Opd.t 32) (Opd.t 35)), C.op none (some 37) (O.fad 1 (Opd.t 3)),
                    C.op none none (O.st 1 (Opd.t 37) (Opd.t 36))]
                  []],
            C.op none (some 14) (O.mv (Opd.t 4)),
            C.op none (some 15) (O.bin BinOp.add (Opd.t 14) (Opd.c (AV.int IntKind.u32 1))),
            C.op none (some 4) (O.mv (Opd.t 15))]],
    C.op none (some 38) (O.ldn [CK.int IntKind.u32, CK.int IntKind.u32] (Opd.t 3)),
    C.op none none (O.st 2 (Opd.t 2) (Opd.t 38)), C.ret]
def r69 : List RV := [RV.cn 2 2]
theorem c69_ok : cC Try.prog Try.f69.ntmps (Try.f69.body.getD .skip) = some c69 := by kernel_rfl

def c70 : List C :=
  [C.op none (some 4) (O.mv (Opd.c AV.nilptr)), C.op none (some 7) (O.mv (Opd.t 1)),
    C.op none (some 8) (O.len false (Opd.t 7)), C.op none (some 9) (O.mv (Opd.c (AV.int IntKind.i64 0))),
    C.blk 0
      [C.loop
          [C.op none (some 10) (O.bin BinOp.lss (Opd.t 9) (Opd.t 8)), C.cond (Opd.t 10) [] [C.exit 0],
            C.blk 1
              [C.op none (some 11) (O.iad 1 (Opd.t 7) (Opd.t 9)),
                C.op none (some 12) (O.ld (CK.int IntKind.u64) (Opd.t 11)), C.op none (some 6) (O.mv (Opd.t 12)),
                C.blk 2
                  [C.loop
                      [C.op none (some 13) (O.mv (Opd.t 6)),
                        C.op none (some 14) (O.bin BinOp.gtr (Opd.t 13) (Opd.c (AV.int IntKind.u64 127))),
                        C.cond (Opd.t 14) [] [C.exit 2],
                        C.blk 3
                          [C.op none (some 15) (O.mv (Opd.t 0)), C.op none (some 16) (O.mv (Opd.t 0)),
                            C.op none (some 17) (O.nck (Opd.t 16)), C.op none (some 18) (O.fad 0 (Opd.t 17)),
                            C.op none (some 19) (O.ld CK.any (Opd.t 18)), C.op none (some 20) (O.mv (Opd.t 6)),
                            C.op none (some 21) (O.cvi IntKind.u8 (Opd.t 20)),
                            C.op none (some 22) (O.bin BinOp.or (Opd.t 21) (Opd.c (AV.int IntKind.u8 128))),
                            C.op none (some 23) (O.bsl 1 [AV.int IntKind.u8 0] 1 [(0, Opd.t 22)]),
                            C.op none (some 24) (O.app 1 (Opd.t 19) (Opd.t 23)), C.op none (some 25) (O.nck (Opd.t 15)),
                            C.op none (some 26) (O.fad 0 (Opd.t 25)), C.op none none (O.st 1 (Opd.t 26) (Opd.t 24)),
                            C.op none (some 27) (O.mv (Opd.t 6)),
                            C.op none (some 28) (O.bin BinOp.shr (Opd.t 27) (Opd.c (AV.int IntKind.u64 7))),
                            C.op none (some 6) (O.mv (Opd.t 28))]]],
                C.op none (some 29) (O.mv (Opd.t 0)), C.op none (some 30) (O.mv (Opd.t 0)),
                C.op none (some 31) (O.nck (Opd.t 30)), C.op none (some 32) (O.fad 0 (Opd.t 31)),
                C.op none (some 33) (O.ld CK.any (Opd.t 32)), C.op none (some 34) (O.mv (Opd.t 6)),
                C.op none (some 35) (O.cvi IntKind.u8 (Opd.t 34)),
                C.op none (some 36) (O.bsl 1 [AV.int IntKind.u8 0] 1 [(0, Opd.t 35)]),
                C.op none (some 37) (O.app 1 (Opd.t 33) (Opd.t 36)), C.op none (some 38) (O.nck (Opd.t 29)),
                C.op none (some 39) (O.fad 0 (Opd.t 38)), C.op none none (O.st 1 (Opd.t 39) (Opd.t 37))],
            C.op none (some 40) (O.bin BinOp.add (Opd.t 9) (Opd.c (AV.int IntKind.i64 1))),
            C.op none (some 9) (O.mv (Opd.t 40))]],
    C.op none (some 41) (O.mv (Opd.t 0)), C.op none (some 4) (O.mv (Opd.t 41)), C.ret]
def r70 : List RV := [RV.t 4]
theorem c70_ok : cC Try.prog Try.f70.ntmps (Try.f70.body.getD .skip) = some c70 := by kernel_rfl

def c71 : List C :=
  [C.op none (some 4) (O.mv (Opd.c AV.nilptr)), C.op none (some 7) (O.mv (Opd.t 1)),
    C.op none (some 8) (O.len false (Opd.t 7)), C.op none (some 9) (O.mv (Opd.c (AV.int IntKind.i64 0))),
    C.blk 0
      [C.loop
          [C.op none (some 10) (O.bin BinOp.lss (Opd.t 9) (Opd.t 8)), C.cond (Opd.t 10) [] [C.exit 0],
            C.blk 1
              [C.op none (some 11) (O.iad 1 (Opd.t 7) (Opd.t 9)),
                C.op none (some 12) (O.ld (CK.int IntKind.i64) (Opd.t 11)), C.op none (some 6) (O.mv (Opd.t 12)),
                C.op none (some 13) (O.mv (Opd.t 0)), C.op none (some 14) (O.mv (Opd.t 6)),
                C.op none (some 15) (O.mx [Opd.t 14, Opd.c (AV.int IntKind.i64 0)]),
                C.op none (some 16) (O.cvi IntKind.u64 (Opd.t 15)),
                C.op none (some 17) (O.bsl 1 [AV.int IntKind.u64 0] 1 [(0, Opd.t 16)]),
                C.op none (some 18) (O.call 70 [Opd.t 13, Opd.t 17])],
            C.op none (some 19) (O.bin BinOp.add (Opd.t 9) (Opd.c (AV.int IntKind.i64 1))),
            C.op none (some 9) (O.mv (Opd.t 19))]],
    C.op none (some 20) (O.mv (Opd.t 0)), C.op none (some 4) (O.mv (Opd.t 20)), C.ret]
def r71 : List RV := [RV.t 4]
theorem c71_ok : cC Try.prog Try.f71.ntmps (Try.f71.body.getD .skip) = some c71 := by kernel_rfl

def c72 : List C :=
  [C.op none (some 4) (O.mv (Opd.c AV.nilptr)), C.op none (some 7) (O.mv (Opd.t 1)),
    C.op none (some 8) (O.len false (Opd.t 7)), C.op none (some 9) (O.mv (Opd.c (AV.int IntKind.i64 0))),
    C.blk 0
      [C.loop
          [C.op none (some 10) (O.bin BinOp.lss (Opd.t 9) (Opd.t 8)), C.cond (Opd.t 10) [] [C.exit 0],
            C.blk 1
              [C.op none (some 11) (O.iad 1 (Opd.t 7) (Opd.t 9)), C.op none (some 12) (O.ld CK.str (Opd.t 11)),
                C.op none (some 6) (O.mv (Opd.t 12)), C.op none (some 13) (O.mv (Opd.t 0)),
                C.op none (some 14) (O.mv (Opd.t 6)), C.op none (some 15) (O.len true (Opd.t 14)),
                C.op none (some 16) (O.bsl 1 [AV.int IntKind.i64 0] 1 [(0, Opd.t 15)]),
                C.op none (some 17) (O.call 71 [Opd.t 13, Opd.t 16]), C.op none (some 18) (O.mv (Opd.t 0)),
                C.op none (some 19) (O.mv (Opd.t 0)), C.op none (some 20) (O.nck (Opd.t 19)),
                C.op none (some 21) (O.fad 0 (Opd.t 20)), C.op none (some 22) (O.ld CK.any (Opd.t 21)),
                C.op none (some 23) (O.mv (Opd.t 6)), C.op none (some 24) (O.app 1 (Opd.t 22) (Opd.t 23)),
                C.op none (some 25) (O.nck (Opd.t 18)), C.op none (some 26) (O.fad 0 (Opd.t 25)),
                C.op none none (O.st 1 (Opd.t 26) (Opd.t 24))],
            C.op none (some 27) (O.bin BinOp.add (Opd.t 9) (Opd.c (AV.int IntKind.i64 1))),
            C.op none (some 9) (O.mv (Opd.t 27))]],
    C.op none (some 28) (O.mv (Opd.t 0)), C.op none (some 4) (O.mv (Opd.t 28)), C.ret]
def r72 : List RV := [RV.t 4]
theorem c72_ok : cC Try.prog Try.f72.ntmps (Try.f72.body.getD .skip) = some c72 := by kernel_rfl

def c73 : List C :=
  [C.op none (some 2) (O.mv (Opd.c (AV.str []))),
    C.op none (some 4) (O.bsl 1 [AV.int IntKind.u8 0] 1 [(0, Opd.c (AV.int IntKind.u8 7))]),
    C.op none (some 5) (O.cvb (Opd.t 4)), C.op none (some 3) (O.mv (Opd.t 5)), C.op none (some 6) (O.mv (Opd.t 3)),
    C.op none (some 7) (O.mv (Opd.t 3)), C.op none (some 8) (O.mv (Opd.t 0)),
    C.op none (some 9) (O.bsl 1 [AV.str []] 2 [(0, Opd.t 7), (1, Opd.t 8)]), C.op none (some 10) (O.call 80 [Opd.t 9]),
    C.op none (some 11) (O.call 79 [Opd.t 10]), C.op none (some 12) (O.bin BinOp.add (Opd.t 6) (Opd.t 11)),
    C.op none (some 13) (O.mv (Opd.t 0)), C.op none (some 14) (O.bin BinOp.add (Opd.t 12) (Opd.t 13)),
    C.op none (some 2) (O.mv (Opd.t 14)), C.ret]
def r73 : List RV := [RV.t 2]
theorem c73_ok : cC Try.prog Try.f73.ntmps (Try.f73.body.getD .skip) = some c73 := by kernel_rfl

def c74 : List C :=
  [C.op none (some 2) (O.mv (Opd.c (AV.str []))), C.op none (some 3) (O.mv (Opd.t 0)),
    C.op none (some 4) (O.nck (Opd.t 3)), C.op none (some 5) (O.fad 0 (Opd.t 4)),
    C.op none (some 6) (O.ld CK.any (Opd.t 5)), C.op none (some 7) (O.cvb (Opd.t 6)),
    C.op none (some 2) (O.mv (Opd.t 7)), C.ret]
def r74 : List RV := [RV.t 2]
theorem c74_ok : cC Try.prog Try.f74.ntmps (Try.f74.body.getD .skip) = some c74 := by kernel_rfl

def c75 : List C :=
  [C.op none (some 1) (O.box (Opd.t 0)), C.op none (some 2) (O.mv (Opd.c (AV.str []))),
    C.op none (some 3) (O.fad 0 (Opd.t 1)), C.op none (some 4) (O.ld CK.bool (Opd.t 3)),
    C.cond (Opd.t 4)
      [C.op none (some 5) (O.fad 1 (Opd.t 1)), C.op none (some 6) (O.ld CK.str (Opd.t 5)),
        C.op none (some 7)
          (O.bin BinOp.add (Opd.c (AV.str [1]))
            (Opd.t 6)),
        C.op none (some 2) (O.mv (Opd.t 7)), C.ret]
      [],
    C.op none (some 8) (O.fad 1 (Opd.t 1)), C.op none (some 9) (O.ld CK.str (Opd.t 8)),
    C.op none (some 10)
      (O.bin BinOp.add (Opd.c (AV.str [0]))
        (Opd.t 9)),
    C.op none (some 2) (O.mv (Opd.t 10)), C.ret]
def r75 : List RV := [RV.t 2]
theorem c75_ok : cC Try.prog Try.f75.ntmps (Try.f75.body.getD .skip) = some c75 := by kernel_rfl

def d76_0 : List It :=
  [(none, some 9, O.mv (Opd.t 0), []), (none, some 10, O.mv (Opd.t 0), []), (none, some 11, O.nck (Opd.t 10), [1]),
        (none, some 12, O.fad 1 (Opd.t 11), [2]), (none, some 13, O.ld CK.any (Opd.t 12), [3]),
        (none, some 14, O.mv (Opd.t 0), []), (none, some 15, O.nck (Opd.t 14), [5]),
        (none, some 16, O.fad 0 (Opd.t 15), [6]), (none, some 17, O.ld (CK.int IntKind.u32) (Opd.t 16), [7]),
        (none, some 18, O.mv (Opd.t 1), []),
        (none, some 19, O.build [AV.int IntKind.u32 0, AV.str []] [(0, 1, Opd.t 17), (1, 1, Opd.t 18)],
          [8, 9]),
        (none, some 20, O.bsl 2 [AV.int IntKind.u32 0, AV.str []] 1 [(0, Opd.t 19)], [10]),
        (none, some 21, O.app 2 (Opd.t 13) (Opd.t 20), [4, 11]),
        (none, some 22, O.nck (Opd.t 9), [0, 0, 1, 2, 3, 4, 5, 6, 7, 8, 9, 10, 11, 12]),
        (none, some 23, O.fad 1 (Opd.t 22), [13, 0, 1, 2, 3, 4, 5, 6, 7, 8, 9, 10, 11, 12]),
        (none, none, O.st 1 (Opd.t 23) (Opd.t 21), [14, 12, 12, 0, 1, 2, 3, 4, 5, 6, 7, 8, 9, 10, 11, 12])]
def o76_0 : List (Nat × Bool) := [(0, false), (1, false), (2, false), (3, false), (4, false), (5, false), (6, false), (7, false), (8, false), (9, false), (10, false), (11, false), (12, true), (13, false), (14, false), (15, true)]
def l76_0 : List (Nat × Bool × It) :=
  [(0, false, (none, some 9, O.mv (Opd.t 0), [])),
   (1, false, (none, some 10, O.mv (Opd.t 0), [])),
   (2, false, (none, some 11, O.nck (Opd.t 10), [1])),
   (3, false, (none, some 12, O.fad 1 (Opd.t 11), [2])),
   (4, false, (none, some 13, O.ld CK.any (Opd.t 12), [3])),
   (5, false, (none, some 14, O.mv (Opd.t 0), [])),
   (6, false, (none, some 15, O.nck (Opd.t 14), [5])),
   (7, false, (none, some 16, O.fad 0 (Opd.t 15), [6])),
   (8, false, (none, some 17, O.ld (CK.int IntKind.u32) (Opd.t 16), [7])),
   (9, false, (none, some 18, O.mv (Opd.t 1), [])),
   (10, false, (none, some 19, O.build [AV.int IntKind.u32 0, AV.str []] [(0, 1, Opd.t 17), (1, 1, Opd.t 18)],
          [8, 9])),
   (11, false, (none, some 20, O.bsl 2 [AV.int IntKind.u32 0, AV.str []] 1 [(0, Opd.t 19)], [10])),
   (12, true, (none, some 21, O.app 2 (Opd.t 13) (Opd.t 20), [4, 11])),
   (13, false, (none, some 22, O.nck (Opd.t 9), [0, 0, 1, 2, 3, 4, 5, 6, 7, 8, 9, 10, 11, 12])),
   (14, false, (none, some 23, O.fad 1 (Opd.t 22), [13, 0, 1, 2, 3, 4, 5, 6, 7, 8, 9, 10, 11, 12])),
   (15, true, (none, none, O.st 1 (Opd.t 23) (Opd.t 21), [14, 12, 12, 0, 1, 2, 3, 4, 5, 6, 7, 8, 9, 10, 11, 12]))]
theorem l76_0_ok : okDraw d76_0 o76_0 = true ∧ mkL d76_0 o76_0 = some l76_0 := ⟨by kernel_rfl, by kernel_rfl⟩

def c76 : List C :=
  [C.op none (some 4) (O.mv (Opd.c (AV.int IntKind.u32 0))),
    C.op none (some 5) (O.mv (Opd.c (AV.int IntKind.i64 0))), C.op none (some 6) (O.mv (Opd.t 0)),
    C.op none (some 7) (O.call 90 [Opd.t 6]), C.op none (some 8) (O.un UnOp.not (Opd.t 7)),
    C.cond (Opd.t 8)
      [C.op none (some 4) (O.mv (Opd.c (AV.int IntKind.u32 0))),
        C.op none (some 5) (O.mv (Opd.c (AV.int IntKind.i64 8))), C.ret]
      [],
    C.draw d76_0,
    C.op none (some 24) (O.mv (Opd.t 0)), C.op none (some 25) (O.nck (Opd.t 24)),
    C.op none (some 26) (O.fad 0 (Opd.t 25)), C.op none (some 27) (O.ld (CK.int IntKind.u32) (Opd.t 26)),
    C.op none (some 28) (O.bin BinOp.add (Opd.t 27) (Opd.c (AV.int IntKind.u32 1))),
    C.op none (some 29) (O.nck (Opd.t 24)), C.op none (some 30) (O.fad 0 (Opd.t 29)),
    C.op none none (O.st 1 (Opd.t 30) (Opd.t 28)), C.op none (some 31) (O.mv (Opd.t 0)),
    C.op none (some 32) (O.nck (Opd.t 31)), C.op none (some 33) (O.fad 0 (Opd.t 32)),
    C.op none (some 34) (O.ld (CK.int IntKind.u32) (Opd.t 33)),
    C.op none (some 35) (O.bin BinOp.sub (Opd.t 34) (Opd.c (AV.int IntKind.u32 1))),
    C.op none (some 4) (O.mv (Opd.t 35)), C.op none (some 5) (O.mv (Opd.c (AV.int IntKind.i64 0))), C.ret]
def r76 : List RV := [RV.t 4, RV.t 5]
theorem c76_ok : cC Try.prog Try.f76.ntmps (Try.f76.body.getD .skip) = some c76 := by kernel_rfl

def d77_0 : List It :=
  [(none, some 11, O.mv (Opd.t 0), []), (none, some 12, O.mv (Opd.t 0), []), (none, some 13, O.nck (Opd.t 12), [1]),
        (none, some 14, O.fad 2 (Opd.t 13), [2]), (none, some 15, O.ld CK.any (Opd.t 14), [3]),
        (none, some 16, O.mv (Opd.t 1), []), (none, some 17, O.mv (Opd.t 2), []), (none, some 18, O.mv (Opd.t 0), []),
        (none, some 19, O.nck (Opd.t 18), [7]), (none, some 20, O.fad 0 (Opd.t 19), [8]),
        (none, some 21, O.fad 0 (Opd.t 20), [9]), (none, some 22, O.ld (CK.int IntKind.i64) (Opd.t 21), [10]),
        (none, some 23, O.bin BinOp.add (Opd.t 17) (Opd.t 22), [6, 11]), (none, some 24, O.mv (Opd.t 0), []),
        (none, some 25, O.nck (Opd.t 24), [13]), (none, some 26, O.fad 0 (Opd.t 25), [14]),
        (none, some 27, O.fad 0 (Opd.t 26), [15]), (none, some 28, O.ld (CK.int IntKind.i64) (Opd.t 27), [16]),
        (none, some 29,
          O.build
            [AV.int IntKind.u32 0, AV.int IntKind.i64 0, AV.int IntKind.i64 0,
              AV.int IntKind.i64 0]
            [(0, 1, Opd.t 16), (1, 1, Opd.t 23), (2, 1, Opd.t 28), (3, 1, Opd.c (AV.int IntKind.i64 0))],
          [5, 12, 17]),
        (none, some 30,
          O.bsl 4
            [AV.int IntKind.u32 0, AV.int IntKind.i64 0, AV.int IntKind.i64 0,
              AV.int IntKind.i64 0]
            1 [(0, Opd.t 29)],
          [18]),
        (none, some 31, O.app 4 (Opd.t 15) (Opd.t 30), [4, 19]),
        (none, some 32, O.nck (Opd.t 11),
          [0, 0, 1, 2, 3, 4, 5, 6, 7, 8, 9, 10, 11, 12, 13, 14, 15, 16, 17, 18, 19, 20]),
        (none, some 33, O.fad 2 (Opd.t 32),
          [21, 0, 1, 2, 3, 4, 5, 6, 7, 8, 9, 10, 11, 12, 13, 14, 15, 16, 17, 18, 19, 20]),
        (none, none, O.st 1 (Opd.t 33) (Opd.t 31),
          [22, 20, 20, 0, 1, 2, 3, 4, 5, 6, 7, 8, 9, 10, 11, 12, 13, 14, 15, 16, 17, 18, 19, 20])]
def o77_0 : List (Nat × Bool) := [(0, false), (1, false), (2, false), (3, false), (4, false), (5, false), (6, false), (7, false), (8, false), (9, false), (10, false), (11, false), (12, false), (13, false), (14, false), (15, false), (16, false), (17, false), (18, false), (19, false), (20, true), (21, false), (22, false), (23, true)]
def l77_0 : List (Nat × Bool × It) :=
  [(0, false, (none, some 11, O.mv (Opd.t 0), [])),
   (1, false, (none, some 12, O.mv (Opd.t 0), [])),
   (2, false, (none, some 13, O.nck (Opd.t 12), [1])),
   (3, false, (none, some 14, O.fad 2 (Opd.t 13), [2])),
   (4, false, (none, some 15, O.ld CK.any (Opd.t 14), [3])),
   (5, false, (none, some 16, O.mv (Opd.t 1), [])),
   (6, false, (none, some 17, O.mv (Opd.t 2), [])),
   (7, false, (none, some 18, O.mv (Opd.t 0), [])),
   (8, false, (none, some 19, O.nck (Opd.t 18), [7])),
   (9, false, (none, some 20, O.fad 0 (Opd.t 19), [8])),
   (10, false, (none, some 21, O.fad 0 (Opd.t 20), [9])),
   (11, false, (none, some 22, O.ld (CK.int IntKind.i64) (Opd.t 21), [10])),
   (12, false, (none, some 23, O.bin BinOp.add (Opd.t 17) (Opd.t 22), [6, 11])),
   (13, false, (none, some 24, O.mv (Opd.t 0), [])),
   (14, false, (none, some 25, O.nck (Opd.t 24), [13])),
   (15, false, (none, some 26, O.fad 0 (Opd.t 25), [14])),
   (16, false, (none, some 27, O.fad 0 (Opd.t 26), [15])),
   (17, false, (none, some 28, O.ld (CK.int IntKind.i64) (Opd.t 27), [16])),
   (18, false, (none, some 29,
          O.build
            [AV.int IntKind.u32 0, AV.int IntKind.i64 0, AV.int IntKind.i64 0,
              AV.int IntKind.i64 0]
            [(0, 1, Opd.t 16), (1, 1, Opd.t 23), (2, 1, Opd.t 28), (3, 1, Opd.c (AV.int IntKind.i64 0))],
          [5, 12, 17])),
   (19, false, (none, some 30,
          O.bsl 4
            [AV.int IntKind.u32 0, AV.int IntKind.i64 0, AV.int IntKind.i64 0,
              AV.int IntKind.i64 0]
            1 [(0, Opd.t 29)],
          [18])),
   (20, true, (none, some 31, O.app 4 (Opd.t 15) (Opd.t 30), [4, 19])),
   (21, false, (none, some 32, O.nck (Opd.t 11),
          [0, 0, 1, 2, 3, 4, 5, 6, 7, 8, 9, 10, 11, 12, 13, 14, 15, 16, 17, 18, 19, 20])),
   (22, false, (none, some 33, O.fad 2 (Opd.t 32),
          [21, 0, 1, 2, 3, 4, 5, 6, 7, 8, 9, 10, 11, 12, 13, 14, 15, 16, 17, 18, 19, 20])),
   (23, true, (none, none, O.st 1 (Opd.t 33) (Opd.t 31),
          [22, 20, 20, 0, 1, 2, 3, 4, 5, 6, 7, 8, 9, 10, 11, 12, 13, 14, 15, 16, 17, 18, 19, 20]))]
theorem l77_0_ok : okDraw d77_0 o77_0 = true ∧ mkL d77_0 o77_0 = some l77_0 := ⟨by kernel_rfl, by kernel_rfl⟩

def c77 : List C :=
  [C.op none (some 6) (O.mv (Opd.c (AV.bool false))), C.op none (some 7) (O.mv (Opd.t 0)),
    C.op none (some 8) (O.mv (Opd.t 1)), C.op none (some 9) (O.call 91 [Opd.t 7, Opd.t 8]),
    C.op none (some 10) (O.bin BinOp.geq (Opd.t 9) (Opd.c (AV.int IntKind.i64 0))),
    C.cond (Opd.t 10) [C.op none (some 6) (O.mv (Opd.c (AV.bool false))), C.ret] [],
    C.draw d77_0,
    C.op none (some 6) (O.mv (Opd.c (AV.bool true))), C.ret]
def r77 : List RV := [RV.t 6]
theorem c77_ok : cC Try.prog Try.f77.ntmps (Try.f77.body.getD .skip) = some c77 := by kernel_rfl

def c78 : List C :=
  [C.op none (some 2) (O.mv (Opd.c (AV.int IntKind.u64 0))),
    C.op none (some 3) (O.mv (Opd.c (AV.int IntKind.u64 1))),
    C.op none (some 4) (O.mv (Opd.c (AV.int IntKind.i64 0))),
    C.blk 0
      [C.loop
          [C.op none (some 5) (O.mv (Opd.t 4)), C.op none (some 6) (O.mv (Opd.t 0)),
            C.op none (some 7) (O.bin BinOp.lss (Opd.t 5) (Opd.t 6)), C.cond (Opd.t 7) [] [C.exit 0],
            C.blk 1
              [C.op none (some 10) (O.mv (Opd.t 3)),
                C.op none (some 11) (O.bin BinOp.mul (Opd.t 10) (Opd.c (AV.int IntKind.u64 128))),
                C.op none (some 3) (O.mv (Opd.t 11))],
            C.op none (some 8) (O.mv (Opd.t 4)),
            C.op none (some 9) (O.bin BinOp.add (Opd.t 8) (Opd.c (AV.int IntKind.i64 1))),
            C.op none (some 4) (O.mv (Opd.t 9))]],
    C.op none (some 12) (O.mv (Opd.t 3)), C.op none (some 2) (O.mv (Opd.t 12)), C.ret]
def r78 : List RV := [RV.t 2]
theorem c78_ok : cC Try.prog Try.f78.ntmps (Try.f78.body.getD .skip) = some c78 := by kernel_rfl

def c79 : List C :=
  [C.op none (some 2) (O.mv (Opd.c (AV.str []))), C.op none (some 3) (O.mv (Opd.t 0)),
    C.op none (some 4) (O.cvi IntKind.u8 (Opd.t 3)), C.op none (some 5) (O.mv (Opd.t 0)),
    C.op none (some 6) (O.bin BinOp.shr (Opd.t 5) (Opd.c (AV.int IntKind.u64 8))),
    C.op none (some 7) (O.cvi IntKind.u8 (Opd.t 6)), C.op none (some 8) (O.mv (Opd.t 0)),
    C.op none (some 9) (O.bin BinOp.shr (Opd.t 8) (Opd.c (AV.int IntKind.u64 16))),
    C.op none (some 10) (O.cvi IntKind.u8 (Opd.t 9)), C.op none (some 11) (O.mv (Opd.t 0)),
    C.op none (some 12) (O.bin BinOp.shr (Opd.t 11) (Opd.c (AV.int IntKind.u64 24))),
    C.op none (some 13) (O.cvi IntKind.u8 (Opd.t 12)),
    C.op none (some 14)
      (O.bsl 1 [AV.int IntKind.u8 0] 4 [(0, Opd.t 4), (1, Opd.t 7), (2, Opd.t 10), (3, Opd.t 13)]),
    C.op none (some 15) (O.cvb (Opd.t 14)), C.op none (some 2) (O.mv (Opd.t 15)), C.ret]
def r79 : List RV := [RV.t 2]
theorem c79_ok : cC Try.prog Try.f79.ntmps (Try.f79.body.getD .skip) = some c79 := by kernel_rfl

def c80 : List C :=
  [C.op none (some 2) (O.mv (Opd.c (AV.int IntKind.u32 0))), C.op none (some 3) (O.mv (Opd.t 0)),
    C.op none (some 4) (O.call 92 [Opd.c (AV.int IntKind.u32 0), Opd.t 3]),
    C.op none (some 2) (O.mv (Opd.t 4)), C.ret]
def r80 : List RV := [RV.t 2]
theorem c80_ok : cC Try.prog Try.f80.ntmps (Try.f80.body.getD .skip) = some c80 := by kernel_rfl

def c81 : List C :=
  [C.op none (some 2) (O.mv (Opd.c (AV.int IntKind.u64 0))),
    C.op none (some 3) (O.mv (Opd.c (AV.int IntKind.u64 0))),
    C.op none (some 4) (O.mv (Opd.c (AV.int IntKind.i64 0))),
    C.blk 0
      [C.loop
          [C.blk 1
              [C.op none (some 9) (O.mv (Opd.t 0)),
                C.op none (some 10) (O.call 83 [Opd.t 9, Opd.c (AV.int IntKind.i64 1)]),
                C.op none (some 5) (O.mv (Opd.t 10)), C.op none (some 11) (O.mv (Opd.t 0)),
                C.op none (some 12) (O.nck (Opd.t 11)), C.op none (some 13) (O.fad 1 (Opd.t 12)),
                C.op none (some 14) (O.ld (CK.int IntKind.i64) (Opd.t 13)),
                C.op none (some 15) (O.bin BinOp.neq (Opd.t 14) (Opd.c (AV.int IntKind.i64 0))),
                C.cond (Opd.t 15) [C.op none (some 2) (O.mv (Opd.c (AV.int IntKind.u64 0))), C.ret] [],
                C.op none (some 16) (O.mv (Opd.t 5)),
                C.op none (some 17) (O.ist (Opd.t 16) (Opd.c (AV.int IntKind.i64 0))),
                C.op none (some 6) (O.mv (Opd.t 17)), C.op none (some 18) (O.mv (Opd.t 6)),
                C.op none (some 19) (O.bin BinOp.eql (Opd.t 18) (Opd.c (AV.int IntKind.u8 0))),
                C.op none (some 20) (O.mv (Opd.t 19)), C.op (some (20, true)) (some 21) (O.mv (Opd.t 4)),
                C.op (some (20, true)) (some 22)
                  (O.bin BinOp.gtr (Opd.t 21) (Opd.c (AV.int IntKind.i64 0))),
                C.op none (some 23) (O.pick (Opd.t 20) (Opd.t 22) (Opd.c (AV.bool false))),
                C.op none (some 24) (O.mv (Opd.t 23)), C.op (some (24, false)) (some 25) (O.mv (Opd.t 4)),
                C.op (some (24, false)) (some 26)
                  (O.bin BinOp.eql (Opd.t 25) (Opd.c (AV.int IntKind.i64 63))),
                C.op (some (24, false)) (some 27) (O.mv (Opd.t 26)), C.op (some (27, true)) (some 28) (O.mv (Opd.t 6)),
                C.op (some (27, true)) (some 29) (O.bin BinOp.gtr (Opd.t 28) (Opd.c (AV.int IntKind.u8 1))),
                C.op (some (24, false)) (some 30) (O.pick (Opd.t 27) (Opd.t 29) (Opd.c (AV.bool false))),
                C.op none (some 31) (O.pick (Opd.t 24) (Opd.c (AV.bool true)) (Opd.t 30)),
                C.cond (Opd.t 31)
                  [C.op none (some 32) (O.mv (Opd.t 0)),
                    C.op none (some 33) (O.call 82 [Opd.t 32, Opd.c (AV.int IntKind.i64 2)]),
                    C.op none (some 2) (O.mv (Opd.c (AV.int IntKind.u64 0))), C.ret]
                  [],
                C.op none (some 34) (O.mv (Opd.t 3)), C.op none (some 35) (O.mv (Opd.t 6)),
                C.op none (some 36) (O.bin BinOp.and (Opd.t 35) (Opd.c (AV.int IntKind.u8 127))),
                C.op none (some 37) (O.cvi IntKind.u64 (Opd.t 36)), C.op none (some 38) (O.mv (Opd.t 4)),
                C.op none (some 39) (O.bin BinOp.shl (Opd.t 37) (Opd.t 38)),
                C.op none (some 40) (O.bin BinOp.or (Opd.t 34) (Opd.t 39)), C.op none (some 3) (O.mv (Opd.t 40)),
                C.op none (some 41) (O.mv (Opd.t 6)),
                C.op none (some 42) (O.bin BinOp.lss (Opd.t 41) (Opd.c (AV.int IntKind.u8 128))),
                C.cond (Opd.t 42) [C.op none (some 43) (O.mv (Opd.t 3)), C.op none (some 2) (O.mv (Opd.t 43)), C.ret]
                  []],
            C.op none (some 7) (O.mv (Opd.t 4)),
            C.op none (some 8) (O.bin BinOp.add (Opd.t 7) (Opd.c (AV.int IntKind.i64 7))),
            C.op none (some 4) (O.mv (Opd.t 8))]]]
def r81 : List RV := [RV.t 2]
theorem c81_ok : cC Try.prog Try.f81.ntmps (Try.f81.body.getD .skip) = some c81 := by kernel_rfl

def c82 : List C :=
  [C.op none (some 4) (O.mv (Opd.t 0)), C.op none (some 5) (O.nck (Opd.t 4)), C.op none (some 6) (O.fad 1 (Opd.t 5)),
    C.op none (some 7) (O.ld (CK.int IntKind.i64) (Opd.t 6)),
    C.op none (some 8) (O.bin BinOp.eql (Opd.t 7) (Opd.c (AV.int IntKind.i64 0))),
    C.op none (some 9) (O.mv (Opd.t 8)), C.op (some (9, true)) (some 10) (O.mv (Opd.t 1)),
    C.op (some (9, true)) (some 11) (O.bin BinOp.neq (Opd.t 10) (Opd.c (AV.int IntKind.i64 0))),
    C.op none (some 12) (O.pick (Opd.t 9) (Opd.t 11) (Opd.c (AV.bool false))),
    C.cond (Opd.t 12)
      [C.op none (some 13) (O.mv (Opd.t 0)), C.op none (some 14) (O.mv (Opd.t 0)), C.op none (some 15) (O.mv (Opd.t 1)),
        C.op none (some 16) (O.nck (Opd.t 13)), C.op none (some 17) (O.fad 1 (Opd.t 16)),
        C.op none none (O.st 1 (Opd.t 17) (Opd.t 15)), C.op none (some 18) (O.nck (Opd.t 14)),
        C.op none (some 19) (O.fad 0 (Opd.t 18)), C.op none none (O.st 1 (Opd.t 19) (Opd.c (AV.str [])))]
      []]
def r82 : List RV := []
theorem c82_ok : cC Try.prog Try.f82.ntmps (Try.f82.body.getD .skip) = some c82 := by kernel_rfl

def c83 : List C :=
  [C.op none (some 4) (O.mv (Opd.c (AV.str []))),
    C.blk 0
      [C.op none (some 7) (O.mv (Opd.t 0)), C.op none (some 8) (O.nck (Opd.t 7)),
        C.op none (some 9) (O.fad 1 (Opd.t 8)), C.op none (some 10) (O.ld (CK.int IntKind.i64) (Opd.t 9)),
        C.op none (some 11) (O.bin BinOp.neq (Opd.t 10) (Opd.c (AV.int IntKind.i64 0))),
        C.op none (some 12) (O.mv (Opd.t 11)), C.op (some (12, false)) (some 13) (O.mv (Opd.t 1)),
        C.op (some (12, false)) (some 14) (O.bin BinOp.leq (Opd.t 13) (Opd.c (AV.int IntKind.i64 0))),
        C.op none (some 15) (O.pick (Opd.t 12) (Opd.c (AV.bool true)) (Opd.t 14)), C.op none (some 6) (O.mv (Opd.t 15)),
        C.cond (Opd.t 6) [C.op none (some 4) (O.mv (Opd.c (AV.str []))), C.ret]
          [C.op none (some 17) (O.mv (Opd.t 1)), C.op none (some 18) (O.mv (Opd.t 0)),
            C.op none (some 19) (O.nck (Opd.t 18)), C.op none (some 20) (O.fad 0 (Opd.t 19)),
            C.op none (some 21) (O.ld CK.str (Opd.t 20)), C.op none (some 22) (O.len true (Opd.t 21)),
            C.op none (some 23) (O.bin BinOp.gtr (Opd.t 17) (Opd.t 22)), C.op none (some 16) (O.mv (Opd.t 23)),
            C.cond (Opd.t 16)
              [C.op none (some 24) (O.mv (Opd.t 0)),
                C.op none (some 25) (O.call 82 [Opd.t 24, Opd.c (AV.int IntKind.i64 1)]),
                C.op none (some 4) (O.mv (Opd.c (AV.str []))), C.ret]
              []]],
    C.op none (some 26) (O.mv (Opd.t 0)), C.op none (some 27) (O.nck (Opd.t 26)),
    C.op none (some 28) (O.fad 0 (Opd.t 27)), C.op none (some 29) (O.ld CK.str (Opd.t 28)),
    C.op none (some 30) (O.mv (Opd.t 1)), C.op none (some 31) (O.ssl (Opd.t 29) none (some (Opd.t 30))),
    C.op none (some 5) (O.mv (Opd.t 31)), C.op none (some 32) (O.mv (Opd.t 0)), C.op none (some 33) (O.mv (Opd.t 0)),
    C.op none (some 34) (O.nck (Opd.t 33)), C.op none (some 35) (O.fad 0 (Opd.t 34)),
    C.op none (some 36) (O.ld CK.str (Opd.t 35)), C.op none (some 37) (O.mv (Opd.t 1)),
    C.op none (some 38) (O.ssl (Opd.t 36) (some (Opd.t 37)) none), C.op none (some 39) (O.nck (Opd.t 32)),
    C.op none (some 40) (O.fad 0 (Opd.t 39)), C.op none none (O.st 1 (Opd.t 40) (Opd.t 38)),
    C.op none (some 41) (O.mv (Opd.t 5)), C.op none (some 4) (O.mv (Opd.t 41)), C.ret]
def r83 : List RV := [RV.t 4]
theorem c83_ok : cC Try.prog Try.f83.ntmps (Try.f83.body.getD .skip) = some c83 := by kernel_rfl

def c84 : List C :=
  [C.op none (some 4) (O.mv (Opd.c (AV.int IntKind.i64 0))), C.op none (some 6) (O.mv (Opd.t 0)),
    C.op none (some 7) (O.len false (Opd.t 6)), C.op none (some 8) (O.mv (Opd.c (AV.int IntKind.i64 0))),
    C.blk 0
      [C.loop
          [C.op none (some 9) (O.bin BinOp.lss (Opd.t 8) (Opd.t 7)), C.cond (Opd.t 9) [] [C.exit 0],
            C.blk 1
              [C.op none (some 10) (O.mv (Opd.t 8)), C.op none (some 5) (O.mv (Opd.t 10)),
                C.op none (some 11) (O.mv (Opd.t 1)), C.op none (some 12) (O.mv (Opd.t 0)),
                C.op none (some 13) (O.mv (Opd.t 5)), C.op none (some 14) (O.iad 4 (Opd.t 12) (Opd.t 13)),
                C.op none (some 15)
                  (O.ldn [CK.int IntKind.u32, CK.int IntKind.i64, CK.int IntKind.i64, CK.int IntKind.i64] (Opd.t 14)),
                C.op none (some 16) (O.callv (Opd.t 11) [Opd.t 15]),
                C.cond (Opd.t 16) [C.op none (some 17) (O.mv (Opd.t 5)), C.op none (some 4) (O.mv (Opd.t 17)), C.ret]
                  []],
            C.op none (some 18) (O.bin BinOp.add (Opd.t 8) (Opd.c (AV.int IntKind.i64 1))),
            C.op none (some 8) (O.mv (Opd.t 18))]],
    C.op none (some 4) (O.mv (Opd.c (AV.int IntKind.i64 (-1)))), C.ret]
def r84 : List RV := [RV.t 4]
theorem c84_ok : cC Try.prog Try.f84.ntmps (Try.f84.body.getD .skip) = some c84 := by kernel_rfl

def c85 : List C :=
  [C.op none (some 4) (O.mv (Opd.c (AV.int IntKind.i64 0))), C.op none (some 6) (O.mv (Opd.t 0)),
    C.op none (some 7) (O.len false (Opd.t 6)), C.op none (some 8) (O.mv (Opd.c (AV.int IntKind.i64 0))),
    C.blk 0
      [C.loop
          [C.op none (some 9) (O.bin BinOp.lss (Opd.t 8) (Opd.t 7)), C.cond (Opd.t 9) [] [C.exit 0],
            C.blk 1
              [C.op none (some 10) (O.mv (Opd.t 8)), C.op none (some 5) (O.mv (Opd.t 10)),
                C.op none (some 11) (O.mv (Opd.t 1)), C.op none (some 12) (O.mv (Opd.t 0)),
                C.op none (some 13) (O.mv (Opd.t 5)), C.op none (some 14) (O.iad 1 (Opd.t 12) (Opd.t 13)),
                C.op none (some 15) (O.ld (CK.int IntKind.u32) (Opd.t 14)),
                C.op none (some 16) (O.bin BinOp.eql (Opd.t 11) (Opd.t 15)),
                C.cond (Opd.t 16) [C.op none (some 17) (O.mv (Opd.t 5)), C.op none (some 4) (O.mv (Opd.t 17)), C.ret]
                  []],
            C.op none (some 18) (O.bin BinOp.add (Opd.t 8) (Opd.c (AV.int IntKind.i64 1))),
            C.op none (some 8) (O.mv (Opd.t 18))]],
    C.op none (some 4) (O.mv (Opd.c (AV.int IntKind.i64 (-1)))), C.ret]
def r85 : List RV := [RV.t 4]
theorem c85_ok : cC Try.prog Try.f85.ntmps (Try.f85.body.getD .skip) = some c85 := by kernel_rfl

def c86 : List C :=
  [C.op none (some 4) (O.mv (Opd.c (AV.int IntKind.i64 0))), C.op none (some 6) (O.mv (Opd.t 0)),
    C.op none (some 7) (O.len false (Opd.t 6)), C.op none (some 8) (O.mv (Opd.c (AV.int IntKind.i64 0))),
    C.blk 0
      [C.loop
          [C.op none (some 9) (O.bin BinOp.lss (Opd.t 8) (Opd.t 7)), C.cond (Opd.t 9) [] [C.exit 0],
            C.blk 1
              [C.op none (some 10) (O.mv (Opd.t 8)), C.op none (some 5) (O.mv (Opd.t 10)),
                C.op none (some 11) (O.mv (Opd.t 1)), C.op none (some 12) (O.mv (Opd.t 0)),
                C.op none (some 13) (O.mv (Opd.t 5)), C.op none (some 14) (O.iad 2 (Opd.t 12) (Opd.t 13)),
                C.op none (some 15) (O.ldn [CK.int IntKind.u32, CK.str] (Opd.t 14)),
                C.op none (some 16) (O.callv (Opd.t 11) [Opd.t 15]),
                C.cond (Opd.t 16) [C.op none (some 17) (O.mv (Opd.t 5)), C.op none (some 4) (O.mv (Opd.t 17)), C.ret]
                  []],
            C.op none (some 18) (O.bin BinOp.add (Opd.t 8) (Opd.c (AV.int IntKind.i64 1))),
            C.op none (some 8) (O.mv (Opd.t 18))]],
    C.op none (some 4) (O.mv (Opd.c (AV.int IntKind.i64 (-1)))), C.ret]
def r86 : List RV := [RV.t 4]
theorem c86_ok : cC Try.prog Try.f86.ntmps (Try.f86.body.getD .skip) = some c86 := by kernel_rfl

def d87_0 : List It :=
  [(none, some 8, O.fad 1 (Opd.t 3), []), (none, some 9, O.ld CK.str (Opd.t 8), [0]),
        (none, some 10, O.len true (Opd.t 9), [1]),
        (none, some 11, O.bin BinOp.gtr (Opd.t 10) (Opd.c (AV.int IntKind.i64 200)), [2]),
        (none, some 12, O.mv (Opd.t 11), [3]), (some (12, false), some 13, O.mv (Opd.t 0), [4]),
        (some (12, false), some 14, O.nck (Opd.t 13), [5, 4]), (some (12, false), some 15, O.fad 0 (Opd.t 14), [6, 4]),
        (some (12, false), some 16, O.ld CK.str (Opd.t 15), [7, 4]),
        (some (12, false), some 17, O.len true (Opd.t 16), [8, 4]), (some (12, false), some 18, O.fad 1 (Opd.t 3), [4]),
        (some (12, false), some 19, O.ld CK.str (Opd.t 18), [10, 4]),
        (some (12, false), some 20, O.len true (Opd.t 19), [11, 4]),
        (some (12, false), some 21, O.bin BinOp.add (Opd.t 17) (Opd.t 20), [9, 12, 4]),
        (some (12, false), some 22, O.bin BinOp.gtr (Opd.t 21) (Opd.c (AV.int IntKind.i64 65536)), [13, 4]),
        (none, some 23, O.pick (Opd.t 12) (Opd.c (AV.bool true)) (Opd.t 22), [4, 14])]
def o87_0 : List (Nat × Bool) := [(0, false), (1, false), (2, false), (3, false), (4, false), (5, false), (6, false), (7, false), (8, false), (9, false), (10, false), (11, false), (12, false), (13, false), (14, false), (15, false)]
def l87_0 : List (Nat × Bool × It) :=
  [(0, false, (none, some 8, O.fad 1 (Opd.t 3), [])),
   (1, false, (none, some 9, O.ld CK.str (Opd.t 8), [0])),
   (2, false, (none, some 10, O.len true (Opd.t 9), [1])),
   (3, false, (none, some 11, O.bin BinOp.gtr (Opd.t 10) (Opd.c (AV.int IntKind.i64 200)), [2])),
   (4, false, (none, some 12, O.mv (Opd.t 11), [3])),
   (5, false, (some (12, false), some 13, O.mv (Opd.t 0), [4])),
   (6, false, (some (12, false), some 14, O.nck (Opd.t 13), [5, 4])),
   (7, false, (some (12, false), some 15, O.fad 0 (Opd.t 14), [6, 4])),
   (8, false, (some (12, false), some 16, O.ld CK.str (Opd.t 15), [7, 4])),
   (9, false, (some (12, false), some 17, O.len true (Opd.t 16), [8, 4])),
   (10, false, (some (12, false), some 18, O.fad 1 (Opd.t 3), [4])),
   (11, false, (some (12, false), some 19, O.ld CK.str (Opd.t 18), [10, 4])),
   (12, false, (some (12, false), some 20, O.len true (Opd.t 19), [11, 4])),
   (13, false, (some (12, false), some 21, O.bin BinOp.add (Opd.t 17) (Opd.t 20), [9, 12, 4])),
   (14, false, (some (12, false), some 22, O.bin BinOp.gtr (Opd.t 21) (Opd.c (AV.int IntKind.i64 65536)), [13, 4])),
   (15, false, (none, some 23, O.pick (Opd.t 12) (Opd.c (AV.bool true)) (Opd.t 22), [4, 14]))]
theorem l87_0_ok : okDraw d87_0 o87_0 = true ∧ mkL d87_0 o87_0 = some l87_0 := ⟨by kernel_rfl, by kernel_rfl⟩

def d87_1 : List It :=
  [(none, some 24, O.mv (Opd.t 0), []), (none, some 25, O.nck (Opd.t 24), [0]),
        (none, some 26, O.fad 0 (Opd.t 25), [1]), (none, some 27, O.ld CK.str (Opd.t 26), [2]),
        (none, some 28, O.fad 1 (Opd.t 3), []), (none, some 29, O.ld CK.str (Opd.t 28), [4]),
        (none, some 30, O.bin BinOp.add (Opd.t 27) (Opd.t 29), [3, 5]),
        (none, some 31, O.nck (Opd.t 24), [0, 0, 1, 2, 3, 4, 5, 6]),
        (none, some 32, O.fad 0 (Opd.t 31), [7, 0, 1, 2, 3, 4, 5, 6]),
        (none, none, O.st 1 (Opd.t 32) (Opd.t 30), [8, 6, 0, 1, 2, 3, 4, 5, 6])]
def o87_1 : List (Nat × Bool) := [(0, false), (1, false), (2, false), (3, false), (4, false), (5, false), (6, false), (7, false), (8, false), (9, true)]
def l87_1 : List (Nat × Bool × It) :=
  [(0, false, (none, some 24, O.mv (Opd.t 0), [])),
   (1, false, (none, some 25, O.nck (Opd.t 24), [0])),
   (2, false, (none, some 26, O.fad 0 (Opd.t 25), [1])),
   (3, false, (none, some 27, O.ld CK.str (Opd.t 26), [2])),
   (4, false, (none, some 28, O.fad 1 (Opd.t 3), [])),
   (5, false, (none, some 29, O.ld CK.str (Opd.t 28), [4])),
   (6, false, (none, some 30, O.bin BinOp.add (Opd.t 27) (Opd.t 29), [3, 5])),
   (7, false, (none, some 31, O.nck (Opd.t 24), [0, 0, 1, 2, 3, 4, 5, 6])),
   (8, false, (none, some 32, O.fad 0 (Opd.t 31), [7, 0, 1, 2, 3, 4, 5, 6])),
   (9, true, (none, none, O.st 1 (Opd.t 32) (Opd.t 30), [8, 6, 0, 1, 2, 3, 4, 5, 6]))]
theorem l87_1_ok : okDraw d87_1 o87_1 = true ∧ mkL d87_1 o87_1 = some l87_1 := ⟨by kernel_rfl, by kernel_rfl⟩

def c87 : List C :=
  [C.op none (some 3) (O.box (Opd.t 1)), C.op none (some 4) (O.mv (Opd.c (AV.str []))),
    C.op none (some 5) (O.mv (Opd.c (AV.bool false))),
    C.op none (some 6) (O.mv (Opd.c (AV.int IntKind.i64 0))),
    C.draw d87_0,
    C.cond (Opd.t 23)
      [C.op none (some 4) (O.mv (Opd.c (AV.str []))), C.op none (some 5) (O.mv (Opd.c (AV.bool false))),
        C.op none (some 6) (O.mv (Opd.c (AV.int IntKind.i64 3))), C.ret]
      [],
    C.draw d87_1,
    C.op none (some 33) (O.mv (Opd.t 0)), C.op none (some 34) (O.nck (Opd.t 33)),
    C.op none (some 35) (O.fad 1 (Opd.t 34)), C.op none (some 36) (O.ld (CK.int IntKind.i64) (Opd.t 35)),
    C.op none (some 37) (O.bin BinOp.add (Opd.t 36) (Opd.c (AV.int IntKind.i64 1))),
    C.op none (some 38) (O.nck (Opd.t 33)), C.op none (some 39) (O.fad 1 (Opd.t 38)),
    C.op none none (O.st 1 (Opd.t 39) (Opd.t 37)), C.op none (some 40) (O.fad 0 (Opd.t 3)),
    C.op none (some 41) (O.ld CK.bool (Opd.t 40)), C.op none (some 42) (O.un UnOp.not (Opd.t 41)),
    C.cond (Opd.t 42)
      [C.op none (some 4) (O.mv (Opd.c (AV.str []))), C.op none (some 5) (O.mv (Opd.c (AV.bool false))),
        C.op none (some 6) (O.mv (Opd.c (AV.int IntKind.i64 0))), C.ret]
      [],
    C.op none (some 43) (O.mv (Opd.t 0)), C.op none (some 44) (O.nck (Opd.t 43)),
    C.op none (some 45) (O.fad 0 (Opd.t 44)), C.op none (some 46) (O.ld CK.str (Opd.t 45)),
    C.op none (some 7) (O.mv (Opd.t 46)), C.op none (some 47) (O.mv (Opd.t 0)), C.op none (some 48) (O.mv (Opd.t 0)),
    C.op none (some 49) (O.nck (Opd.t 47)), C.op none (some 50) (O.fad 0 (Opd.t 49)),
    C.op none none (O.st 1 (Opd.t 50) (Opd.c (AV.str []))), C.op none (some 51) (O.nck (Opd.t 48)),
    C.op none (some 52) (O.fad 1 (Opd.t 51)),
    C.op none none (O.st 1 (Opd.t 52) (Opd.c (AV.int IntKind.i64 0))), C.op none (some 53) (O.mv (Opd.t 7)),
    C.op none (some 4) (O.mv (Opd.t 53)), C.op none (some 5) (O.mv (Opd.c (AV.bool true))),
    C.op none (some 6) (O.mv (Opd.c (AV.int IntKind.i64 0))), C.ret]
def r87 : List RV := [RV.t 4, RV.t 5, RV.t 6]
theorem c87_ok : cC Try.prog Try.f87.ntmps (Try.f87.body.getD .skip) = some c87 := by kernel_rfl

def c88 : List C :=
  [C.op none (some 6) (O.mv (Opd.c (AV.int IntKind.i64 20))), C.op none (some 10) (O.mv (Opd.t 6)),
    C.op none (some 7) (O.mv (Opd.c (AV.int IntKind.i64 0))), C.op none (some 8) (O.mv (Opd.t 10)),
    C.blk 0
      [C.loop
          [C.op none (some 11) (O.mv (Opd.t 8)), C.op none (some 12) (O.mv (Opd.t 1)),
            C.op none (some 13) (O.bin BinOp.leq (Opd.t 11) (Opd.t 12)), C.cond (Opd.t 13) [] [C.exit 0],
            C.blk 1
              [C.op none (some 14) (O.mv (Opd.t 0)), C.op none (some 15) (O.mv (Opd.t 7)),
                C.op none (some 16) (O.mv (Opd.t 8)), C.op none (some 17) (O.mv (Opd.t 2)),
                C.op none (some 18) (O.call 93 [Opd.t 14, Opd.t 15, Opd.t 16, Opd.t 17]),
                C.op none (some 19) (O.mv (Opd.t 8)), C.op none (some 7) (O.mv (Opd.t 19)),
                C.op none (some 20) (O.mv (Opd.t 8)), C.op none (some 21) (O.mv (Opd.t 6)),
                C.op none (some 22) (O.bin BinOp.add (Opd.t 20) (Opd.t 21)), C.op none (some 8) (O.mv (Opd.t 22))]]],
    C.op none (some 23) (O.mv (Opd.t 0)), C.op none (some 24) (O.mv (Opd.t 7)), C.op none (some 25) (O.mv (Opd.t 1)),
    C.op none (some 26) (O.mv (Opd.t 2)), C.op none (some 27) (O.call 93 [Opd.t 23, Opd.t 24, Opd.t 25, Opd.t 26]),
    C.blk 2
      [C.loop
          [C.op none (some 28) (O.mv (Opd.t 6)), C.op none (some 29) (O.mv (Opd.t 1)),
            C.op none (some 30) (O.bin BinOp.lss (Opd.t 28) (Opd.t 29)), C.cond (Opd.t 30) [] [C.exit 2],
            C.blk 3
              [C.op none (some 31) (O.mv (Opd.t 6)),
                C.op none (some 32) (O.bin BinOp.mul (Opd.c (AV.int IntKind.i64 2)) (Opd.t 31)),
                C.op none (some 7) (O.mv (Opd.c (AV.int IntKind.i64 0))),
                C.op none (some 8) (O.mv (Opd.t 32)),
                C.blk 4
                  [C.loop
                      [C.op none (some 33) (O.mv (Opd.t 8)), C.op none (some 34) (O.mv (Opd.t 1)),
                        C.op none (some 35) (O.bin BinOp.leq (Opd.t 33) (Opd.t 34)), C.cond (Opd.t 35) [] [C.exit 4],
                        C.blk 5
                          [C.op none (some 36) (O.mv (Opd.t 0)), C.op none (some 37) (O.mv (Opd.t 7)),
                            C.op none (some 38) (O.mv (Opd.t 7)), C.op none (some 39) (O.mv (Opd.t 6)),
                            C.op none (some 40) (O.bin BinOp.add (Opd.t 38) (Opd.t 39)),
                            C.op none (some 41) (O.mv (Opd.t 8)), C.op none (some 42) (O.mv (Opd.t 2)),
                            C.op none (some 43) (O.call 94 [Opd.t 36, Opd.t 37, Opd.t 40, Opd.t 41, Opd.t 42]),
                            C.op none (some 44) (O.mv (Opd.t 8)), C.op none (some 7) (O.mv (Opd.t 44)),
                            C.op none (some 45) (O.mv (Opd.t 8)), C.op none (some 46) (O.mv (Opd.t 6)),
                            C.op none (some 47) (O.bin BinOp.mul (Opd.c (AV.int IntKind.i64 2)) (Opd.t 46)),
                            C.op none (some 48) (O.bin BinOp.add (Opd.t 45) (Opd.t 47)),
                            C.op none (some 8) (O.mv (Opd.t 48))]]],
                C.op none (some 49) (O.mv (Opd.t 7)), C.op none (some 50) (O.mv (Opd.t 6)),
                C.op none (some 51) (O.bin BinOp.add (Opd.t 49) (Opd.t 50)), C.op none (some 9) (O.mv (Opd.t 51)),
                C.op none (some 52) (O.mv (Opd.t 9)), C.op none (some 53) (O.mv (Opd.t 1)),
                C.op none (some 54) (O.bin BinOp.lss (Opd.t 52) (Opd.t 53)),
                C.cond (Opd.t 54)
                  [C.op none (some 55) (O.mv (Opd.t 0)), C.op none (some 56) (O.mv (Opd.t 7)),
                    C.op none (some 57) (O.mv (Opd.t 9)), C.op none (some 58) (O.mv (Opd.t 1)),
                    C.op none (some 59) (O.mv (Opd.t 2)),
                    C.op none (some 60) (O.call 94 [Opd.t 55, Opd.t 56, Opd.t 57, Opd.t 58, Opd.t 59])]
                  [],
                C.op none (some 61) (O.mv (Opd.t 6)),
                C.op none (some 62) (O.bin BinOp.mul (Opd.t 61) (Opd.c (AV.int IntKind.i64 2))),
                C.op none (some 6) (O.mv (Opd.t 62))]]]]
def r88 : List RV := []
theorem c88_ok : cC Try.prog Try.f88.ntmps (Try.f88.body.getD .skip) = some c88 := by kernel_rfl

def c89 : List C :=
  [C.op none (some 2) (O.mv (Opd.c (AV.bool false))), C.op none (some 3) (O.mv (Opd.t 0)),
    C.op none (some 4) (O.mv (Opd.t 0)), C.op none (some 5) (O.bin BinOp.neq (Opd.t 3) (Opd.t 4)),
    C.op none (some 2) (O.mv (Opd.t 5)), C.ret]
def r89 : List RV := [RV.t 2]
theorem c89_ok : cC Try.prog Try.f89.ntmps (Try.f89.body.getD .skip) = some c89 := by kernel_rfl

def d90_0 : List It :=
  [(none, some 3, O.mv (Opd.t 0), []), (none, some 4, O.nck (Opd.t 3), [0]), (none, some 5, O.fad 1 (Opd.t 4), [1]),
        (none, some 6, O.ld CK.any (Opd.t 5), [2]), (none, some 7, O.len false (Opd.t 6), [3]),
        (none, some 8, O.bin BinOp.eql (Opd.t 7) (Opd.c (AV.int IntKind.i64 0)), [4]),
        (none, some 9, O.mv (Opd.t 8), [5]), (some (9, false), some 10, O.mv (Opd.t 0), [6]),
        (some (9, false), some 11, O.nck (Opd.t 10), [7, 6]), (some (9, false), some 12, O.fad 0 (Opd.t 11), [8, 6]),
        (some (9, false), some 13, O.ld (CK.int IntKind.u32) (Opd.t 12), [9, 6]),
        (some (9, false), some 14, O.mv (Opd.t 0), [6]), (some (9, false), some 15, O.nck (Opd.t 14), [11, 6]),
        (some (9, false), some 16, O.fad 1 (Opd.t 15), [12, 6]),
        (some (9, false), some 17, O.ld CK.any (Opd.t 16), [13, 6]),
        (some (9, false), some 18, O.iad 2 (Opd.t 17) (Opd.c (AV.int IntKind.i64 0)), [14, 6]),
        (some (9, false), some 19, O.fad 0 (Opd.t 18), [15, 6]),
        (some (9, false), some 20, O.ld (CK.int IntKind.u32) (Opd.t 19), [16, 6]),
        (some (9, false), some 21, O.bin BinOp.sub (Opd.t 13) (Opd.t 20), [10, 17, 6]),
        (some (9, false), some 22, O.bin BinOp.lss (Opd.t 21) (Opd.c (AV.int IntKind.u32 32)), [18, 6]),
        (none, some 23, O.pick (Opd.t 9) (Opd.c (AV.bool true)) (Opd.t 22), [6, 19]),
        (none, some 2, O.mv (Opd.t 23),
          [20, 6, 0, 1, 2, 3, 4, 5, 6, 7, 8, 9, 10, 11, 12, 13, 14, 15, 16, 17, 18, 19, 20])]
def o90_0 : List (Nat × Bool) := [(0, false), (1, false), (2, false), (3, false), (4, false), (5, false), (6, false), (7, false), (8, false), (9, false), (10, false), (11, false), (12, false), (13, false), (14, false), (15, false), (16, false), (17, false), (18, false), (19, false), (20, false), (21, false)]
def l90_0 : List (Nat × Bool × It) :=
  [(0, false, (none, some 3, O.mv (Opd.t 0), [])),
   (1, false, (none, some 4, O.nck (Opd.t 3), [0])),
   (2, false, (none, some 5, O.fad 1 (Opd.t 4), [1])),
   (3, false, (none, some 6, O.ld CK.any (Opd.t 5), [2])),
   (4, false, (none, some 7, O.len false (Opd.t 6), [3])),
   (5, false, (none, some 8, O.bin BinOp.eql (Opd.t 7) (Opd.c (AV.int IntKind.i64 0)), [4])),
   (6, false, (none, some 9, O.mv (Opd.t 8), [5])),
   (7, false, (some (9, false), some 10, O.mv (Opd.t 0), [6])),
   (8, false, (some (9, false), some 11, O.nck (Opd.t 10), [7, 6])),
   (9, false, (some (9, false), some 12, O.fad 0 (Opd.t 11), [8, 6])),
   (10, false, (some (9, false), some 13, O.ld (CK.int IntKind.u32) (Opd.t 12), [9, 6])),
   (11, false, (some (9, false), some 14, O.mv (Opd.t 0), [6])),
   (12, false, (some (9, false), some 15, O.nck (Opd.t 14), [11, 6])),
   (13, false, (some (9, false), some 16, O.fad 1 (Opd.t 15), [12, 6])),
   (14, false, (some (9, false), some 17, O.ld CK.any (Opd.t 16), [13, 6])),
   (15, false, (some (9, false), some 18, O.iad 2 (Opd.t 17) (Opd.c (AV.int IntKind.i64 0)), [14, 6])),
   (16, false, (some (9, false), some 19, O.fad 0 (Opd.t 18), [15, 6])),
   (17, false, (some (9, false), some 20, O.ld (CK.int IntKind.u32) (Opd.t 19), [16, 6])),
   (18, false, (some (9, false), some 21, O.bin BinOp.sub (Opd.t 13) (Opd.t 20), [10, 17, 6])),
   (19, false, (some (9, false), some 22, O.bin BinOp.lss (Opd.t 21) (Opd.c (AV.int IntKind.u32 32)), [18, 6])),
   (20, false, (none, some 23, O.pick (Opd.t 9) (Opd.c (AV.bool true)) (Opd.t 22), [6, 19])),
   (21, false, (none, some 2, O.mv (Opd.t 23),
          [20, 6, 0, 1, 2, 3, 4, 5, 6, 7, 8, 9, 10, 11, 12, 13, 14, 15, 16, 17, 18, 19, 20]))]
theorem l90_0_ok : okDraw d90_0 o90_0 = true ∧ mkL d90_0 o90_0 = some l90_0 := ⟨by kernel_rfl, by kernel_rfl⟩

def c90 : List C :=
  [C.op none (some 2) (O.mv (Opd.c (AV.bool false))),
    C.draw d90_0,
    C.ret]
def r90 : List RV := [RV.t 2]
theorem c90_ok : cC Try.prog Try.f90.ntmps (Try.f90.body.getD .skip) = some c90 := by kernel_rfl

def c91 : List C :=
  [C.op none (some 3) (O.box (Opd.t 1)), C.op none (some 4) (O.mv (Opd.c (AV.int IntKind.i64 0))),
    C.op none (some 5) (O.mv (Opd.t 0)), C.op none (some 6) (O.nck (Opd.t 5)), C.op none (some 7) (O.fad 2 (Opd.t 6)),
    C.op none (some 8) (O.ld CK.any (Opd.t 7)), C.op none (some 9) (O.mkfn 95 [] [Opd.t 3]),
    C.op none (some 10) (O.call 84 [Opd.t 8, Opd.t 9]), C.op none (some 4) (O.mv (Opd.t 10)), C.ret]
def r91 : List RV := [RV.t 4]
theorem c91_ok : cC Try.prog Try.f91.ntmps (Try.f91.body.getD .skip) = some c91 := by kernel_rfl

def c92 : List C :=
  [C.op none (some 4) (O.mv (Opd.c (AV.int IntKind.u32 0))), C.op none (some 8) (O.mv (Opd.t 0)),
    C.op none (some 9) (O.un UnOp.xor (Opd.t 8)), C.op none (some 0) (O.mv (Opd.t 9)),
    C.op none (some 10) (O.mv (Opd.t 1)), C.op none (some 11) (O.len false (Opd.t 10)),
    C.op none (some 12) (O.mv (Opd.c (AV.int IntKind.i64 0))),
    C.blk 0
      [C.loop
          [C.op none (some 13) (O.bin BinOp.lss (Opd.t 12) (Opd.t 11)), C.cond (Opd.t 13) [] [C.exit 0],
            C.blk 1
              [C.op none (some 14) (O.iad 1 (Opd.t 10) (Opd.t 12)), C.op none (some 15) (O.ld CK.str (Opd.t 14)),
                C.op none (some 6) (O.mv (Opd.t 15)), C.op none (some 16) (O.mv (Opd.t 6)),
                C.op none (some 17) (O.len true (Opd.t 16)),
                C.op none (some 18) (O.mv (Opd.c (AV.int IntKind.i64 0))),
                C.blk 2
                  [C.loop
                      [C.op none (some 19) (O.bin BinOp.lss (Opd.t 18) (Opd.t 17)), C.cond (Opd.t 19) [] [C.exit 2],
                        C.blk 3
                          [C.op none (some 20) (O.mv (Opd.t 18)), C.op none (some 7) (O.mv (Opd.t 20)),
                            C.op none (some 21) (O.mv (Opd.t 0)),
                            C.op none (some 22) (O.bin BinOp.shr (Opd.t 21) (Opd.c (AV.int IntKind.u64 8))),
                            C.op none (some 23) (O.mv (Opd.t 0)), C.op none (some 24) (O.mv (Opd.t 6)),
                            C.op none (some 25) (O.mv (Opd.t 7)), C.op none (some 26) (O.ist (Opd.t 24) (Opd.t 25)),
                            C.op none (some 27) (O.cvi IntKind.u32 (Opd.t 26)),
                            C.op none (some 28) (O.bin BinOp.xor (Opd.t 23) (Opd.t 27)),
                            C.op none (some 29)
                              (O.bin BinOp.and (Opd.t 28) (Opd.c (AV.int IntKind.u32 255))),
                            C.op none (some 30) (O.call 96 [Opd.t 29]),
                            C.op none (some 31) (O.bin BinOp.xor (Opd.t 22) (Opd.t 30)),
                            C.op none (some 0) (O.mv (Opd.t 31))],
                        C.op none (some 32) (O.bin BinOp.add (Opd.t 18) (Opd.c (AV.int IntKind.i64 1))),
                        C.op none (some 18) (O.mv (Opd.t 32))]]],
            C.op none (some 33) (O.bin BinOp.add (Opd.t 12) (Opd.c (AV.int IntKind.i64 1))),
            C.op none (some 12) (O.mv (Opd.t 33))]],
    C.op none (some 34) (O.mv (Opd.t 0)), C.op none (some 35) (O.un UnOp.xor (Opd.t 34)),
    C.op none (some 4) (O.mv (Opd.t 35)), C.ret]
def r92 : List RV := [RV.t 4]
theorem c92_ok : cC Try.prog Try.f92.ntmps (Try.f92.body.getD .skip) = some c92 := by kernel_rfl

def d93_0 : List It :=
  [(none, some 18, O.mv (Opd.t 9), []), (none, some 19, O.mv (Opd.t 1), []),
                            (none, some 20, O.bin BinOp.gtr (Opd.t 18) (Opd.t 19), [0, 1]),
                            (none, some 21, O.mv (Opd.t 20), [2]), (some (21, true), some 22, O.mv (Opd.t 3), [3]),
                            (some (21, true), some 23, O.mv (Opd.t 0), [3]),
                            (some (21, true), some 24, O.mv (Opd.t 9), [3]),
                            (some (21, true), some 25, O.iad 4 (Opd.t 23) (Opd.t 24), [5, 6, 3]),
                            (some (21, true), some 26,
                              O.ldn [CK.int IntKind.u32, CK.int IntKind.i64, CK.int IntKind.i64, CK.int IntKind.i64]
                                (Opd.t 25),
                              [7, 3]),
                            (some (21, true), some 27, O.mv (Opd.t 0), [3]),
                            (some (21, true), some 28, O.mv (Opd.t 9), [3]),
                            (some (21, true), some 29,
                              O.bin BinOp.sub (Opd.t 28) (Opd.c (AV.int IntKind.i64 1)), [10, 3]),
                            (some (21, true), some 30, O.iad 4 (Opd.t 27) (Opd.t 29), [9, 11, 3]),
                            (some (21, true), some 31,
                              O.ldn [CK.int IntKind.u32, CK.int IntKind.i64, CK.int IntKind.i64, CK.int IntKind.i64]
                                (Opd.t 30),
                              [12, 3]),
                            (some (21, true), some 32, O.callv (Opd.t 22) [Opd.t 26, Opd.t 31], [4, 8, 13, 3, 3]),
                            (some (21, true), some 33,
                              O.bin BinOp.lss (Opd.t 32) (Opd.c (AV.int IntKind.i64 0)), [14, 3]),
                            (none, some 34, O.pick (Opd.t 21) (Opd.t 33) (Opd.c (AV.bool false)), [3, 15])]
def o93_0 : List (Nat × Bool) := [(0, false), (1, false), (2, false), (3, false), (4, false), (5, false), (6, false), (7, false), (8, false), (9, false), (10, false), (11, false), (12, false), (13, false), (14, true), (15, false), (16, false)]
def l93_0 : List (Nat × Bool × It) :=
  [(0, false, (none, some 18, O.mv (Opd.t 9), [])),
   (1, false, (none, some 19, O.mv (Opd.t 1), [])),
   (2, false, (none, some 20, O.bin BinOp.gtr (Opd.t 18) (Opd.t 19), [0, 1])),
   (3, false, (none, some 21, O.mv (Opd.t 20), [2])),
   (4, false, (some (21, true), some 22, O.mv (Opd.t 3), [3])),
   (5, false, (some (21, true), some 23, O.mv (Opd.t 0), [3])),
   (6, false, (some (21, true), some 24, O.mv (Opd.t 9), [3])),
   (7, false, (some (21, true), some 25, O.iad 4 (Opd.t 23) (Opd.t 24), [5, 6, 3])),
   (8, false, (some (21, true), some 26,
                              O.ldn [CK.int IntKind.u32, CK.int IntKind.i64, CK.int IntKind.i64, CK.int IntKind.i64]
                                (Opd.t 25),
                              [7, 3])),
   (9, false, (some (21, true), some 27, O.mv (Opd.t 0), [3])),
   (10, false, (some (21, true), some 28, O.mv (Opd.t 9), [3])),
   (11, false, (some (21, true), some 29,
                              O.bin BinOp.sub (Opd.t 28) (Opd.c (AV.int IntKind.i64 1)), [10, 3])),
   (12, false, (some (21, true), some 30, O.iad 4 (Opd.t 27) (Opd.t 29), [9, 11, 3])),
   (13, false, (some (21, true), some 31,
                              O.ldn [CK.int IntKind.u32, CK.int IntKind.i64, CK.int IntKind.i64, CK.int IntKind.i64]
                                (Opd.t 30),
                              [12, 3])),
   (14, true, (some (21, true), some 32, O.callv (Opd.t 22) [Opd.t 26, Opd.t 31], [4, 8, 13, 3, 3])),
   (15, false, (some (21, true), some 33,
                              O.bin BinOp.lss (Opd.t 32) (Opd.c (AV.int IntKind.i64 0)), [14, 3])),
   (16, false, (none, some 34, O.pick (Opd.t 21) (Opd.t 33) (Opd.c (AV.bool false)), [3, 15]))]
theorem l93_0_ok : okDraw d93_0 o93_0 = true ∧ mkL d93_0 o93_0 = some l93_0 := ⟨by kernel_rfl, by kernel_rfl⟩

def d93_1 : List It :=
  [(none, some 37, O.mv (Opd.t 0), []), (none, some 38, O.mv (Opd.t 9), []),
                                (none, some 39, O.mv (Opd.t 0), []), (none, some 40, O.mv (Opd.t 9), []),
                                (none, some 41, O.bin BinOp.sub (Opd.t 40) (Opd.c (AV.int IntKind.i64 1)),
                                  [3]),
                                (none, some 42, O.mv (Opd.t 0), []), (none, some 43, O.mv (Opd.t 9), []),
                                (none, some 44, O.bin BinOp.sub (Opd.t 43) (Opd.c (AV.int IntKind.i64 1)),
                                  [6]),
                                (none, some 45, O.iad 4 (Opd.t 42) (Opd.t 44), [5, 7]),
                                (none, some 46,
                                  O.ldn [CK.int IntKind.u32, CK.int IntKind.i64, CK.int IntKind.i64, CK.int IntKind.i64]
                                    (Opd.t 45),
                                  [8]),
                                (none, some 47, O.mv (Opd.t 0), []), (none, some 48, O.mv (Opd.t 9), []),
                                (none, some 49, O.iad 4 (Opd.t 47) (Opd.t 48), [10, 11]),
                                (none, some 50,
                                  O.ldn [CK.int IntKind.u32, CK.int IntKind.i64, CK.int IntKind.i64, CK.int IntKind.i64]
                                    (Opd.t 49),
                                  [12]),
                                (none, some 51, O.iad 4 (Opd.t 37) (Opd.t 38), [0, 1, 0, 1, 5, 6, 7, 8, 9, 13]),
                                (none, none, O.st 4 (Opd.t 51) (Opd.t 46), [14, 9, 0, 1, 5, 6, 7, 8, 9, 13]),
                                (none, some 52, O.iad 4 (Opd.t 39) (Opd.t 41),
                                  [2, 4, 0, 1, 2, 3, 4, 5, 6, 7, 8, 9, 10, 11, 12, 13, 14, 15]),
                                (none, none, O.st 4 (Opd.t 52) (Opd.t 50),
                                  [16, 13, 15, 0, 1, 2, 3, 4, 5, 6, 7, 8, 9, 10, 11, 12, 13, 14, 15])]
def o93_1 : List (Nat × Bool) := [(0, false), (1, false), (2, false), (3, false), (4, false), (5, false), (6, false), (7, false), (8, false), (9, false), (10, false), (11, false), (12, false), (13, false), (14, false), (15, true), (16, false), (17, true)]
def l93_1 : List (Nat × Bool × It) :=
  [(0, false, (none, some 37, O.mv (Opd.t 0), [])),
   (1, false, (none, some 38, O.mv (Opd.t 9), [])),
   (2, false, (none, some 39, O.mv (Opd.t 0), [])),
   (3, false, (none, some 40, O.mv (Opd.t 9), [])),
   (4, false, (none, some 41, O.bin BinOp.sub (Opd.t 40) (Opd.c (AV.int IntKind.i64 1)),
                                  [3])),
   (5, false, (none, some 42, O.mv (Opd.t 0), [])),
   (6, false, (none, some 43, O.mv (Opd.t 9), [])),
   (7, false, (none, some 44, O.bin BinOp.sub (Opd.t 43) (Opd.c (AV.int IntKind.i64 1)),
                                  [6])),
   (8, false, (none, some 45, O.iad 4 (Opd.t 42) (Opd.t 44), [5, 7])),
   (9, false, (none, some 46,
                                  O.ldn [CK.int IntKind.u32, CK.int IntKind.i64, CK.int IntKind.i64, CK.int IntKind.i64]
                                    (Opd.t 45),
                                  [8])),
   (10, false, (none, some 47, O.mv (Opd.t 0), [])),
   (11, false, (none, some 48, O.mv (Opd.t 9), [])),
   (12, false, (none, some 49, O.iad 4 (Opd.t 47) (Opd.t 48), [10, 11])),
   (13, false, (none, some 50,
                                  O.ldn [CK.int IntKind.u32, CK.int IntKind.i64, CK.int IntKind.i64, CK.int IntKind.i64]
                                    (Opd.t 49),
                                  [12])),
   (14, false, (none, some 51, O.iad 4 (Opd.t 37) (Opd.t 38), [0, 1, 0, 1, 5, 6, 7, 8, 9, 13])),
   (15, true, (none, none, O.st 4 (Opd.t 51) (Opd.t 46), [14, 9, 0, 1, 5, 6, 7, 8, 9, 13])),
   (16, false, (none, some 52, O.iad 4 (Opd.t 39) (Opd.t 41),
                                  [2, 4, 0, 1, 2, 3, 4, 5, 6, 7, 8, 9, 10, 11, 12, 13, 14, 15])),
   (17, true, (none, none, O.st 4 (Opd.t 52) (Opd.t 50),
                                  [16, 13, 15, 0, 1, 2, 3, 4, 5, 6, 7, 8, 9, 10, 11, 12, 13, 14, 15]))]
theorem l93_1_ok : okDraw d93_1 o93_1 = true ∧ mkL d93_1 o93_1 = some l93_1 := ⟨by kernel_rfl, by kernel_rfl⟩

def c93 : List C :=
  [C.op none (some 10) (O.mv (Opd.t 1)),
    C.op none (some 11) (O.bin BinOp.add (Opd.t 10) (Opd.c (AV.int IntKind.i64 1))),
    C.op none (some 8) (O.mv (Opd.t 11)),
    C.blk 0
      [C.loop
          [C.op none (some 12) (O.mv (Opd.t 8)), C.op none (some 13) (O.mv (Opd.t 2)),
            C.op none (some 14) (O.bin BinOp.lss (Opd.t 12) (Opd.t 13)), C.cond (Opd.t 14) [] [C.exit 0],
            C.blk 1
              [C.op none (some 17) (O.mv (Opd.t 8)), C.op none (some 9) (O.mv (Opd.t 17)),
                C.blk 2
                  [C.loop
                      [C.draw d93_0,
                        C.cond (Opd.t 34) [] [C.exit 2],
                        C.blk 3
                          [C.draw d93_1],
                        C.op none (some 35) (O.mv (Opd.t 9)),
                        C.op none (some 36) (O.bin BinOp.sub (Opd.t 35) (Opd.c (AV.int IntKind.i64 1))),
                        C.op none (some 9) (O.mv (Opd.t 36))]]],
            C.op none (some 15) (O.mv (Opd.t 8)),
            C.op none (some 16) (O.bin BinOp.add (Opd.t 15) (Opd.c (AV.int IntKind.i64 1))),
            C.op none (some 8) (O.mv (Opd.t 16))]]]
def r93 : List RV := []
theorem c93_ok : cC Try.prog Try.f93.ntmps (Try.f93.body.getD .skip) = some c93 := by kernel_rfl

def d94_0 : List It :=
  [(none, some 40, O.mv (Opd.t 4), []), (none, some 41, O.mv (Opd.t 0), []),
                        (none, some 42, O.mv (Opd.t 12), []), (none, some 43, O.iad 4 (Opd.t 41) (Opd.t 42), [1, 2]),
                        (none, some 44,
                          O.ldn [CK.int IntKind.u32, CK.int IntKind.i64, CK.int IntKind.i64, CK.int IntKind.i64]
                            (Opd.t 43),
                          [3]),
                        (none, some 45, O.mv (Opd.t 0), []), (none, some 46, O.mv (Opd.t 1), []),
                        (none, some 47, O.iad 4 (Opd.t 45) (Opd.t 46), [5, 6]),
                        (none, some 48,
                          O.ldn [CK.int IntKind.u32, CK.int IntKind.i64, CK.int IntKind.i64, CK.int IntKind.i64]
                            (Opd.t 47),
                          [7]),
                        (none, some 49, O.callv (Opd.t 40) [Opd.t 44, Opd.t 48], [0, 4, 8]),
                        (none, some 50, O.bin BinOp.lss (Opd.t 49) (Opd.c (AV.int IntKind.i64 0)), [9])]
def o94_0 : List (Nat × Bool) := [(0, false), (1, false), (2, false), (3, false), (4, false), (5, false), (6, false), (7, false), (8, false), (9, true), (10, false)]
def l94_0 : List (Nat × Bool × It) :=
  [(0, false, (none, some 40, O.mv (Opd.t 4), [])),
   (1, false, (none, some 41, O.mv (Opd.t 0), [])),
   (2, false, (none, some 42, O.mv (Opd.t 12), [])),
   (3, false, (none, some 43, O.iad 4 (Opd.t 41) (Opd.t 42), [1, 2])),
   (4, false, (none, some 44,
                          O.ldn [CK.int IntKind.u32, CK.int IntKind.i64, CK.int IntKind.i64, CK.int IntKind.i64]
                            (Opd.t 43),
                          [3])),
   (5, false, (none, some 45, O.mv (Opd.t 0), [])),
   (6, false, (none, some 46, O.mv (Opd.t 1), [])),
   (7, false, (none, some 47, O.iad 4 (Opd.t 45) (Opd.t 46), [5, 6])),
   (8, false, (none, some 48,
                          O.ldn [CK.int IntKind.u32, CK.int IntKind.i64, CK.int IntKind.i64, CK.int IntKind.i64]
                            (Opd.t 47),
                          [7])),
   (9, true, (none, some 49, O.callv (Opd.t 40) [Opd.t 44, Opd.t 48], [0, 4, 8])),
   (10, false, (none, some 50, O.bin BinOp.lss (Opd.t 49) (Opd.c (AV.int IntKind.i64 0)), [9]))]
theorem l94_0_ok : okDraw d94_0 o94_0 = true ∧ mkL d94_0 o94_0 = some l94_0 := ⟨by kernel_rfl, by kernel_rfl⟩

def d94_1 : List It :=
  [(none, some 61, O.mv (Opd.t 0), []), (none, some 62, O.mv (Opd.t 13), []),
                        (none, some 63, O.mv (Opd.t 0), []), (none, some 64, O.mv (Opd.t 13), []),
                        (none, some 65, O.bin BinOp.add (Opd.t 64) (Opd.c (AV.int IntKind.i64 1)), [3]),
                        (none, some 66, O.mv (Opd.t 0), []), (none, some 67, O.mv (Opd.t 13), []),
                        (none, some 68, O.bin BinOp.add (Opd.t 67) (Opd.c (AV.int IntKind.i64 1)), [6]),
                        (none, some 69, O.iad 4 (Opd.t 66) (Opd.t 68), [5, 7]),
                        (none, some 70,
                          O.ldn [CK.int IntKind.u32, CK.int IntKind.i64, CK.int IntKind.i64, CK.int IntKind.i64]
                            (Opd.t 69),
                          [8]),
                        (none, some 71, O.mv (Opd.t 0), []), (none, some 72, O.mv (Opd.t 13), []),
                        (none, some 73, O.iad 4 (Opd.t 71) (Opd.t 72), [10, 11]),
                        (none, some 74,
                          O.ldn [CK.int IntKind.u32, CK.int IntKind.i64, CK.int IntKind.i64, CK.int IntKind.i64]
                            (Opd.t 73),
                          [12]),
                        (none, some 75, O.iad 4 (Opd.t 61) (Opd.t 62), [0, 1, 0, 1, 5, 6, 7, 8, 9, 13]),
                        (none, none, O.st 4 (Opd.t 75) (Opd.t 70), [14, 9, 0, 1, 5, 6, 7, 8, 9, 13]),
                        (none, some 76, O.iad 4 (Opd.t 63) (Opd.t 65),
                          [2, 4, 0, 1, 2, 3, 4, 5, 6, 7, 8, 9, 10, 11, 12, 13, 14, 15]),
                        (none, none, O.st 4 (Opd.t 76) (Opd.t 74),
                          [16, 13, 15, 0, 1, 2, 3, 4, 5, 6, 7, 8, 9, 10, 11, 12, 13, 14, 15])]
def o94_1 : List (Nat × Bool) := [(0, false), (1, false), (2, false), (3, false), (4, false), (5, false), (6, false), (7, false), (8, false), (9, false), (10, false), (11, false), (12, false), (13, false), (14, false), (15, true), (16, false), (17, true)]
def l94_1 : List (Nat × Bool × It) :=
  [(0, false, (none, some 61, O.mv (Opd.t 0), [])),
   (1, false, (none, some 62, O.mv (Opd.t 13), [])),
   (2, false, (none, some 63, O.mv (Opd.t 0), [])),
   (3, false, (none, some 64, O.mv (Opd.t 13), [])),
   (4, false, (none, some 65, O.bin BinOp.add (Opd.t 64) (Opd.c (AV.int IntKind.i64 1)), [3])),
   (5, false, (none, some 66, O.mv (Opd.t 0), [])),
   (6, false, (none, some 67, O.mv (Opd.t 13), [])),
   (7, false, (none, some 68, O.bin BinOp.add (Opd.t 67) (Opd.c (AV.int IntKind.i64 1)), [6])),
   (8, false, (none, some 69, O.iad 4 (Opd.t 66) (Opd.t 68), [5, 7])),
   (9, false, (none, some 70,
                          O.ldn [CK.int IntKind.u32, CK.int IntKind.i64, CK.int IntKind.i64, CK.int IntKind.i64]
                            (Opd.t 69),
                          [8])),
   (10, false, (none, some 71, O.mv (Opd.t 0), [])),
   (11, false, (none, some 72, O.mv (Opd.t 13), [])),
   (12, false, (none, some 73, O.iad 4 (Opd.t 71) (Opd.t 72), [10, 11])),
   (13, false, (none, some 74,
                          O.ldn [CK.int IntKind.u32, CK.int IntKind.i64, CK.int IntKind.i64, CK.int IntKind.i64]
                            (Opd.t 73),
                          [12])),
   (14, false, (none, some 75, O.iad 4 (Opd.t 61) (Opd.t 62), [0, 1, 0, 1, 5, 6, 7, 8, 9, 13])),
   (15, true, (none, none, O.st 4 (Opd.t 75) (Opd.t 70), [14, 9, 0, 1, 5, 6, 7, 8, 9, 13])),
   (16, false, (none, some 76, O.iad 4 (Opd.t 63) (Opd.t 65),
                          [2, 4, 0, 1, 2, 3, 4, 5, 6, 7, 8, 9, 10, 11, 12, 13, 14, 15])),
   (17, true, (none, none, O.st 4 (Opd.t 76) (Opd.t 74),
                          [16, 13, 15, 0, 1, 2, 3, 4, 5, 6, 7, 8, 9, 10, 11, 12, 13, 14, 15]))]
theorem l94_1_ok : okDraw d94_1 o94_1 = true ∧ mkL d94_1 o94_1 = some l94_1 := ⟨by kernel_rfl, by kernel_rfl⟩

def d94_2 : List It :=
  [(none, some 92, O.mv (Opd.t 4), []), (none, some 93, O.mv (Opd.t 0), []),
                        (none, some 94, O.mv (Opd.t 2), []), (none, some 95, O.iad 4 (Opd.t 93) (Opd.t 94), [1, 2]),
                        (none, some 96,
                          O.ldn [CK.int IntKind.u32, CK.int IntKind.i64, CK.int IntKind.i64, CK.int IntKind.i64]
                            (Opd.t 95),
                          [3]),
                        (none, some 97, O.mv (Opd.t 0), []), (none, some 98, O.mv (Opd.t 16), []),
                        (none, some 99, O.iad 4 (Opd.t 97) (Opd.t 98), [5, 6]),
                        (none, some 100,
                          O.ldn [CK.int IntKind.u32, CK.int IntKind.i64, CK.int IntKind.i64, CK.int IntKind.i64]
                            (Opd.t 99),
                          [7]),
                        (none, some 101, O.callv (Opd.t 92) [Opd.t 96, Opd.t 100], [0, 4, 8]),
                        (none, some 102, O.bin BinOp.lss (Opd.t 101) (Opd.c (AV.int IntKind.i64 0)), [9]),
                        (none, some 103, O.un UnOp.not (Opd.t 102), [10])]
def o94_2 : List (Nat × Bool) := [(0, false), (1, false), (2, false), (3, false), (4, false), (5, false), (6, false), (7, false), (8, false), (9, true), (10, false), (11, false)]
def l94_2 : List (Nat × Bool × It) :=
  [(0, false, (none, some 92, O.mv (Opd.t 4), [])),
   (1, false, (none, some 93, O.mv (Opd.t 0), [])),
   (2, false, (none, some 94, O.mv (Opd.t 2), [])),
   (3, false, (none, some 95, O.iad 4 (Opd.t 93) (Opd.t 94), [1, 2])),
   (4, false, (none, some 96,
                          O.ldn [CK.int IntKind.u32, CK.int IntKind.i64, CK.int IntKind.i64, CK.int IntKind.i64]
                            (Opd.t 95),
                          [3])),
   (5, false, (none, some 97, O.mv (Opd.t 0), [])),
   (6, false, (none, some 98, O.mv (Opd.t 16), [])),
   (7, false, (none, some 99, O.iad 4 (Opd.t 97) (Opd.t 98), [5, 6])),
   (8, false, (none, some 100,
                          O.ldn [CK.int IntKind.u32, CK.int IntKind.i64, CK.int IntKind.i64, CK.int IntKind.i64]
                            (Opd.t 99),
                          [7])),
   (9, true, (none, some 101, O.callv (Opd.t 92) [Opd.t 96, Opd.t 100], [0, 4, 8])),
   (10, false, (none, some 102, O.bin BinOp.lss (Opd.t 101) (Opd.c (AV.int IntKind.i64 0)), [9])),
   (11, false, (none, some 103, O.un UnOp.not (Opd.t 102), [10]))]
theorem l94_2_ok : okDraw d94_2 o94_2 = true ∧ mkL d94_2 o94_2 = some l94_2 := ⟨by kernel_rfl, by kernel_rfl⟩

def d94_3 : List It :=
  [(none, some 113, O.mv (Opd.t 0), []), (none, some 114, O.mv (Opd.t 17), []),
                        (none, some 115, O.mv (Opd.t 0), []), (none, some 116, O.mv (Opd.t 17), []),
                        (none, some 117, O.bin BinOp.sub (Opd.t 116) (Opd.c (AV.int IntKind.i64 1)), [3]),
                        (none, some 118, O.mv (Opd.t 0), []), (none, some 119, O.mv (Opd.t 17), []),
                        (none, some 120, O.bin BinOp.sub (Opd.t 119) (Opd.c (AV.int IntKind.i64 1)), [6]),
                        (none, some 121, O.iad 4 (Opd.t 118) (Opd.t 120), [5, 7]),
                        (none, some 122,
                          O.ldn [CK.int IntKind.u32, CK.int IntKind.i64, CK.int IntKind.i64, CK.int IntKind.i64]
                            (Opd.t 121),
                          [8]),
                        (none, some 123, O.mv (Opd.t 0), []), (none, some 124, O.mv (Opd.t 17), []),
                        (none, some 125, O.iad 4 (Opd.t 123) (Opd.t 124), [10, 11]),
                        (none, some 126,
                          O.ldn [CK.int IntKind.u32, CK.int IntKind.i64, CK.int IntKind.i64, CK.int IntKind.i64]
                            (Opd.t 125),
                          [12]),
                        (none, some 127, O.iad 4 (Opd.t 113) (Opd.t 114), [0, 1, 0, 1, 5, 6, 7, 8, 9, 13]),
                        (none, none, O.st 4 (Opd.t 127) (Opd.t 122), [14, 9, 0, 1, 5, 6, 7, 8, 9, 13]),
                        (none, some 128, O.iad 4 (Opd.t 115) (Opd.t 117),
                          [2, 4, 0, 1, 2, 3, 4, 5, 6, 7, 8, 9, 10, 11, 12, 13, 14, 15]),
                        (none, none, O.st 4 (Opd.t 128) (Opd.t 126),
                          [16, 13, 15, 0, 1, 2, 3, 4, 5, 6, 7, 8, 9, 10, 11, 12, 13, 14, 15])]
def o94_3 : List (Nat × Bool) := [(0, false), (1, false), (2, false), (3, false), (4, false), (5, false), (6, false), (7, false), (8, false), (9, false), (10, false), (11, false), (12, false), (13, false), (14, false), (15, true), (16, false), (17, true)]
def l94_3 : List (Nat × Bool × It) :=
  [(0, false, (none, some 113, O.mv (Opd.t 0), [])),
   (1, false, (none, some 114, O.mv (Opd.t 17), [])),
   (2, false, (none, some 115, O.mv (Opd.t 0), [])),
   (3, false, (none, some 116, O.mv (Opd.t 17), [])),
   (4, false, (none, some 117, O.bin BinOp.sub (Opd.t 116) (Opd.c (AV.int IntKind.i64 1)), [3])),
   (5, false, (none, some 118, O.mv (Opd.t 0), [])),
   (6, false, (none, some 119, O.mv (Opd.t 17), [])),
   (7, false, (none, some 120, O.bin BinOp.sub (Opd.t 119) (Opd.c (AV.int IntKind.i64 1)), [6])),
   (8, false, (none, some 121, O.iad 4 (Opd.t 118) (Opd.t 120), [5, 7])),
   (9, false, (none, some 122,
                          O.ldn [CK.int IntKind.u32, CK.int IntKind.i64, CK.int IntKind.i64, CK.int IntKind.i64]
                            (Opd.t 121),
                          [8])),
   (10, false, (none, some 123, O.mv (Opd.t 0), [])),
   (11, false, (none, some 124, O.mv (Opd.t 17), [])),
   (12, false, (none, some 125, O.iad 4 (Opd.t 123) (Opd.t 124), [10, 11])),
   (13, false, (none, some 126,
                          O.ldn [CK.int IntKind.u32, CK.int IntKind.i64, CK.int IntKind.i64, CK.int IntKind.i64]
                            (Opd.t 125),
                          [12])),
   (14, false, (none, some 127, O.iad 4 (Opd.t 113) (Opd.t 114), [0, 1, 0, 1, 5, 6, 7, 8, 9, 13])),
   (15, true, (none, none, O.st 4 (Opd.t 127) (Opd.t 122), [14, 9, 0, 1, 5, 6, 7, 8, 9, 13])),
   (16, false, (none, some 128, O.iad 4 (Opd.t 115) (Opd.t 117),
                          [2, 4, 0, 1, 2, 3, 4, 5, 6, 7, 8, 9, 10, 11, 12, 13, 14, 15])),
   (17, true, (none, none, O.st 4 (Opd.t 128) (Opd.t 126),
                          [16, 13, 15, 0, 1, 2, 3, 4, 5, 6, 7, 8, 9, 10, 11, 12, 13, 14, 15]))]
theorem l94_3_ok : okDraw d94_3 o94_3 = true ∧ mkL d94_3 o94_3 = some l94_3 := ⟨by kernel_rfl, by kernel_rfl⟩

def d94_4 : List It :=
  [(none, some 158, O.mv (Opd.t 4), []), (none, some 159, O.mv (Opd.t 0), []),
                    (none, some 160, O.mv (Opd.t 22), []), (none, some 161, O.mv (Opd.t 23), []),
                    (none, some 162, O.bin BinOp.sub (Opd.t 160) (Opd.t 161), [2, 3]),
                    (none, some 163, O.iad 4 (Opd.t 159) (Opd.t 162), [1, 4]),
                    (none, some 164,
                      O.ldn [CK.int IntKind.u32, CK.int IntKind.i64, CK.int IntKind.i64, CK.int IntKind.i64]
                        (Opd.t 163),
                      [5]),
                    (none, some 165, O.mv (Opd.t 0), []), (none, some 166, O.mv (Opd.t 23), []),
                    (none, some 167, O.iad 4 (Opd.t 165) (Opd.t 166), [7, 8]),
                    (none, some 168,
                      O.ldn [CK.int IntKind.u32, CK.int IntKind.i64, CK.int IntKind.i64, CK.int IntKind.i64]
                        (Opd.t 167),
                      [9]),
                    (none, some 169, O.callv (Opd.t 158) [Opd.t 164, Opd.t 168], [0, 6, 10]),
                    (none, some 170, O.bin BinOp.lss (Opd.t 169) (Opd.c (AV.int IntKind.i64 0)), [11]),
                    (none, some 171, O.un UnOp.not (Opd.t 170), [12])]
def o94_4 : List (Nat × Bool) := [(0, false), (1, false), (2, false), (3, false), (4, false), (5, false), (6, false), (7, false), (8, false), (9, false), (10, false), (11, true), (12, false), (13, false)]
def l94_4 : List (Nat × Bool × It) :=
  [(0, false, (none, some 158, O.mv (Opd.t 4), [])),
   (1, false, (none, some 159, O.mv (Opd.t 0), [])),
   (2, false, (none, some 160, O.mv (Opd.t 22), [])),
   (3, false, (none, some 161, O.mv (Opd.t 23), [])),
   (4, false, (none, some 162, O.bin BinOp.sub (Opd.t 160) (Opd.t 161), [2, 3])),
   (5, false, (none, some 163, O.iad 4 (Opd.t 159) (Opd.t 162), [1, 4])),
   (6, false, (none, some 164,
                      O.ldn [CK.int IntKind.u32, CK.int IntKind.i64, CK.int IntKind.i64, CK.int IntKind.i64]
                        (Opd.t 163),
                      [5])),
   (7, false, (none, some 165, O.mv (Opd.t 0), [])),
   (8, false, (none, some 166, O.mv (Opd.t 23), [])),
   (9, false, (none, some 167, O.iad 4 (Opd.t 165) (Opd.t 166), [7, 8])),
   (10, false, (none, some 168,
                      O.ldn [CK.int IntKind.u32, CK.int IntKind.i64, CK.int IntKind.i64, CK.int IntKind.i64]
                        (Opd.t 167),
                      [9])),
   (11, true, (none, some 169, O.callv (Opd.t 158) [Opd.t 164, Opd.t 168], [0, 6, 10])),
   (12, false, (none, some 170, O.bin BinOp.lss (Opd.t 169) (Opd.c (AV.int IntKind.i64 0)), [11])),
   (13, false, (none, some 171, O.un UnOp.not (Opd.t 170), [12]))]
theorem l94_4_ok : okDraw d94_4 o94_4 = true ∧ mkL d94_4 o94_4 = some l94_4 := ⟨by kernel_rfl, by kernel_rfl⟩

def c94 : List C :=
  [C.op none (some 25) (O.mv (Opd.t 2)), C.op none (some 26) (O.mv (Opd.t 1)),
    C.op none (some 27) (O.bin BinOp.sub (Opd.t 25) (Opd.t 26)),
    C.op none (some 28) (O.bin BinOp.eql (Opd.t 27) (Opd.c (AV.int IntKind.i64 1))),
    C.cond (Opd.t 28)
      [C.op none (some 29) (O.mv (Opd.t 2)), C.op none (some 10) (O.mv (Opd.t 29)),
        C.op none (some 30) (O.mv (Opd.t 3)), C.op none (some 11) (O.mv (Opd.t 30)),
        C.blk 0
          [C.loop
              [C.op none (some 31) (O.mv (Opd.t 10)), C.op none (some 32) (O.mv (Opd.t 11)),
                C.op none (some 33) (O.bin BinOp.lss (Opd.t 31) (Opd.t 32)), C.cond (Opd.t 33) [] [C.exit 0],
                C.blk 1
                  [C.op none (some 34) (O.mv (Opd.t 10)), C.op none (some 35) (O.mv (Opd.t 11)),
                    C.op none (some 36) (O.bin BinOp.add (Opd.t 34) (Opd.t 35)),
                    C.op none (some 37) (O.cvi IntKind.u64 (Opd.t 36)),
                    C.op none (some 38) (O.bin BinOp.shr (Opd.t 37) (Opd.c (AV.int IntKind.u64 1))),
                    C.op none (some 39) (O.cvi IntKind.i64 (Opd.t 38)), C.op none (some 12) (O.mv (Opd.t 39)),
                    C.draw d94_0,
                    C.cond (Opd.t 50)
                      [C.op none (some 51) (O.mv (Opd.t 12)),
                        C.op none (some 52) (O.bin BinOp.add (Opd.t 51) (Opd.c (AV.int IntKind.i64 1))),
                        C.op none (some 10) (O.mv (Opd.t 52))]
                      [C.op none (some 53) (O.mv (Opd.t 12)), C.op none (some 11) (O.mv (Opd.t 53))]]]],
        C.op none (some 54) (O.mv (Opd.t 1)), C.op none (some 13) (O.mv (Opd.t 54)),
        C.blk 2
          [C.loop
              [C.op none (some 55) (O.mv (Opd.t 13)), C.op none (some 56) (O.mv (Opd.t 10)),
                C.op none (some 57) (O.bin BinOp.sub (Opd.t 56) (Opd.c (AV.int IntKind.i64 1))),
                C.op none (some 58) (O.bin BinOp.lss (Opd.t 55) (Opd.t 57)), C.cond (Opd.t 58) [] [C.exit 2],
                C.blk 3
                  [C.draw d94_1],
                C.op none (some 59) (O.mv (Opd.t 13)),
                C.op none (some 60) (O.bin BinOp.add (Opd.t 59) (Opd.c (AV.int IntKind.i64 1))),
                C.op none (some 13) (O.mv (Opd.t 60))]],
        C.ret]
      [],
    C.op none (some 77) (O.mv (Opd.t 3)), C.op none (some 78) (O.mv (Opd.t 2)),
    C.op none (some 79) (O.bin BinOp.sub (Opd.t 77) (Opd.t 78)),
    C.op none (some 80) (O.bin BinOp.eql (Opd.t 79) (Opd.c (AV.int IntKind.i64 1))),
    C.cond (Opd.t 80)
      [C.op none (some 81) (O.mv (Opd.t 1)), C.op none (some 14) (O.mv (Opd.t 81)),
        C.op none (some 82) (O.mv (Opd.t 2)), C.op none (some 15) (O.mv (Opd.t 82)),
        C.blk 4
          [C.loop
              [C.op none (some 83) (O.mv (Opd.t 14)), C.op none (some 84) (O.mv (Opd.t 15)),
                C.op none (some 85) (O.bin BinOp.lss (Opd.t 83) (Opd.t 84)), C.cond (Opd.t 85) [] [C.exit 4],
                C.blk 5
                  [C.op none (some 86) (O.mv (Opd.t 14)), C.op none (some 87) (O.mv (Opd.t 15)),
                    C.op none (some 88) (O.bin BinOp.add (Opd.t 86) (Opd.t 87)),
                    C.op none (some 89) (O.cvi IntKind.u64 (Opd.t 88)),
                    C.op none (some 90) (O.bin BinOp.shr (Opd.t 89) (Opd.c (AV.int IntKind.u64 1))),
                    C.op none (some 91) (O.cvi IntKind.i64 (Opd.t 90)), C.op none (some 16) (O.mv (Opd.t 91)),
                    C.draw d94_2,
                    C.cond (Opd.t 103)
                      [C.op none (some 104) (O.mv (Opd.t 16)),
                        C.op none (some 105) (O.bin BinOp.add (Opd.t 104) (Opd.c (AV.int IntKind.i64 1))),
                        C.op none (some 14) (O.mv (Opd.t 105))]
                      [C.op none (some 106) (O.mv (Opd.t 16)), C.op none (some 15) (O.mv (Opd.t 106))]]]],
        C.op none (some 107) (O.mv (Opd.t 2)), C.op none (some 17) (O.mv (Opd.t 107)),
        C.blk 6
          [C.loop
              [C.op none (some 108) (O.mv (Opd.t 17)), C.op none (some 109) (O.mv (Opd.t 14)),
                C.op none (some 110) (O.bin BinOp.gtr (Opd.t 108) (Opd.t 109)), C.cond (Opd.t 110) [] [C.exit 6],
                C.blk 7
                  [C.draw d94_3],
                C.op none (some 111) (O.mv (Opd.t 17)),
                C.op none (some 112) (O.bin BinOp.sub (Opd.t 111) (Opd.c (AV.int IntKind.i64 1))),
                C.op none (some 17) (O.mv (Opd.t 112))]],
        C.ret]
      [],
    C.op none (some 129) (O.mv (Opd.t 1)), C.op none (some 130) (O.mv (Opd.t 3)),
    C.op none (some 131) (O.bin BinOp.add (Opd.t 129) (Opd.t 130)),
    C.op none (some 132) (O.cvi IntKind.u64 (Opd.t 131)),
    C.op none (some 133) (O.bin BinOp.shr (Opd.t 132) (Opd.c (AV.int IntKind.u64 1))),
    C.op none (some 134) (O.cvi IntKind.i64 (Opd.t 133)), C.op none (some 18) (O.mv (Opd.t 134)),
    C.op none (some 135) (O.mv (Opd.t 18)), C.op none (some 136) (O.mv (Opd.t 2)),
    C.op none (some 137) (O.bin BinOp.add (Opd.t 135) (Opd.t 136)), C.op none (some 19) (O.mv (Opd.t 137)),
    C.op none (some 20) (O.mv (Opd.c (AV.int IntKind.i64 0))),
    C.op none (some 21) (O.mv (Opd.c (AV.int IntKind.i64 0))), C.op none (some 138) (O.mv (Opd.t 2)),
    C.op none (some 139) (O.mv (Opd.t 18)), C.op none (some 140) (O.bin BinOp.gtr (Opd.t 138) (Opd.t 139)),
    C.cond (Opd.t 140)
      [C.op none (some 141) (O.mv (Opd.t 19)), C.op none (some 142) (O.mv (Opd.t 3)),
        C.op none (some 143) (O.bin BinOp.sub (Opd.t 141) (Opd.t 142)), C.op none (some 20) (O.mv (Opd.t 143)),
        C.op none (some 144) (O.mv (Opd.t 18)), C.op none (some 21) (O.mv (Opd.t 144))]
      [C.op none (some 145) (O.mv (Opd.t 1)), C.op none (some 20) (O.mv (Opd.t 145)),
        C.op none (some 146) (O.mv (Opd.t 2)), C.op none (some 21) (O.mv (Opd.t 146))],
    C.op none (some 147) (O.mv (Opd.t 19)),
    C.op none (some 148) (O.bin BinOp.sub (Opd.t 147) (Opd.c (AV.int IntKind.i64 1))),
    C.op none (some 22) (O.mv (Opd.t 148)),
    C.blk 8
      [C.loop
          [C.op none (some 149) (O.mv (Opd.t 20)), C.op none (some 150) (O.mv (Opd.t 21)),
            C.op none (some 151) (O.bin BinOp.lss (Opd.t 149) (Opd.t 150)), C.cond (Opd.t 151) [] [C.exit 8],
            C.blk 9
              [C.op none (some 152) (O.mv (Opd.t 20)), C.op none (some 153) (O.mv (Opd.t 21)),
                C.op none (some 154) (O.bin BinOp.add (Opd.t 152) (Opd.t 153)),
                C.op none (some 155) (O.cvi IntKind.u64 (Opd.t 154)),
                C.op none (some 156) (O.bin BinOp.shr (Opd.t 155) (Opd.c (AV.int IntKind.u64 1))),
                C.op none (some 157) (O.cvi IntKind.i64 (Opd.t 156)), C.op none (some 23) (O.mv (Opd.t 157)),
                C.draw d94_4,
                C.cond (Opd.t 171)
                  [C.op none (some 172) (O.mv (Opd.t 23)),
                    C.op none (some 173) (O.bin BinOp.add (Opd.t 172) (Opd.c (AV.int IntKind.i64 1))),
                    C.op none (some 20) (O.mv (Opd.t 173))]
                  [C.op none (some 174) (O.mv (Opd.t 23)), C.op none (some 21) (O.mv (Opd.t 174))]]]],
    C.op none (some 175) (O.mv (Opd.t 19)), C.op none (some 176) (O.mv (Opd.t 20)),
    C.op none (some 177) (O.bin BinOp.sub (Opd.t 175) (Opd.t 176)), C.op none (some 24) (O.mv (Opd.t 177)),
    C.op none (some 178) (O.mv (Opd.t 20)), C.op none (some 179) (O.mv (Opd.t 2)),
    C.op none (some 180) (O.bin BinOp.lss (Opd.t 178) (Opd.t 179)), C.op none (some 181) (O.mv (Opd.t 180)),
    C.op (some (181, true)) (some 182) (O.mv (Opd.t 2)), C.op (some (181, true)) (some 183) (O.mv (Opd.t 24)),
    C.op (some (181, true)) (some 184) (O.bin BinOp.lss (Opd.t 182) (Opd.t 183)),
    C.op none (some 185) (O.pick (Opd.t 181) (Opd.t 184) (Opd.c (AV.bool false))),
    C.cond (Opd.t 185)
      [C.op none (some 186) (O.mv (Opd.t 0)), C.op none (some 187) (O.mv (Opd.t 20)),
        C.op none (some 188) (O.mv (Opd.t 2)), C.op none (some 189) (O.mv (Opd.t 24)),
        C.op none (some 190) (O.mv (Opd.t 4)),
        C.op none (some 191) (O.call 97 [Opd.t 186, Opd.t 187, Opd.t 188, Opd.t 189, Opd.t 190])]
      [],
    C.op none (some 192) (O.mv (Opd.t 1)), C.op none (some 193) (O.mv (Opd.t 20)),
    C.op none (some 194) (O.bin BinOp.lss (Opd.t 192) (Opd.t 193)), C.op none (some 195) (O.mv (Opd.t 194)),
    C.op (some (195, true)) (some 196) (O.mv (Opd.t 20)), C.op (some (195, true)) (some 197) (O.mv (Opd.t 18)),
    C.op (some (195, true)) (some 198) (O.bin BinOp.lss (Opd.t 196) (Opd.t 197)),
    C.op none (some 199) (O.pick (Opd.t 195) (Opd.t 198) (Opd.c (AV.bool false))),
    C.cond (Opd.t 199)
      [C.op none (some 200) (O.mv (Opd.t 0)), C.op none (some 201) (O.mv (Opd.t 1)),
        C.op none (some 202) (O.mv (Opd.t 20)), C.op none (some 203) (O.mv (Opd.t 18)),
        C.op none (some 204) (O.mv (Opd.t 4)),
        C.op none (some 205) (O.call 94 [Opd.t 200, Opd.t 201, Opd.t 202, Opd.t 203, Opd.t 204])]
      [],
    C.op none (some 206) (O.mv (Opd.t 18)), C.op none (some 207) (O.mv (Opd.t 24)),
    C.op none (some 208) (O.bin BinOp.lss (Opd.t 206) (Opd.t 207)), C.op none (some 209) (O.mv (Opd.t 208)),
    C.op (some (209, true)) (some 210) (O.mv (Opd.t 24)), C.op (some (209, true)) (some 211) (O.mv (Opd.t 3)),
    C.op (some (209, true)) (some 212) (O.bin BinOp.lss (Opd.t 210) (Opd.t 211)),
    C.op none (some 213) (O.pick (Opd.t 209) (Opd.t 212) (Opd.c (AV.bool false))),
    C.cond (Opd.t 213)
      [C.op none (some 214) (O.mv (Opd.t 0)), C.op none (some 215) (O.mv (Opd.t 18)),
        C.op none (some 216) (O.mv (Opd.t 24)), C.op none (some 217) (O.mv (Opd.t 3)),
        C.op none (some 218) (O.mv (Opd.t 4)),
        C.op none (some 219) (O.call 94 [Opd.t 214, Opd.t 215, Opd.t 216, Opd.t 217, Opd.t 218])]
      []]
def r94 : List RV := []
theorem c94_ok : cC Try.prog Try.f94.ntmps (Try.f94.body.getD .skip) = some c94 := by kernel_rfl

def c95 : List C :=
  [C.op none (some 2) (O.box (Opd.t 0)), C.op none (some 3) (O.mv (Opd.c (AV.bool false))),
    C.op none (some 4) (O.fad 0 (Opd.t 2)), C.op none (some 5) (O.ld (CK.int IntKind.u32) (Opd.t 4)),
    C.op none (some 6) (O.ld (CK.int IntKind.u32) (Opd.t 1)), C.op none (some 7) (O.bin BinOp.eql (Opd.t 5) (Opd.t 6)),
    C.op none (some 3) (O.mv (Opd.t 7)), C.ret]
def r95 : List RV := [RV.t 3]
theorem c95_ok : cC Try.prog Try.f95.ntmps (Try.f95.body.getD .skip) = some c95 := by kernel_rfl

def c96 : List C :=
  [C.op none (some 2) (O.mv (Opd.c (AV.int IntKind.u32 0))),
    C.op none (some 3) (O.mv (Opd.c (AV.int IntKind.i64 0))),
    C.blk 0
      [C.loop
          [C.op none (some 4) (O.bin BinOp.lss (Opd.t 3) (Opd.c (AV.int IntKind.i64 8))),
            C.cond (Opd.t 4) [] [C.exit 0],
            C.blk 1
              [C.op none (some 5) (O.mv (Opd.t 0)),
                C.op none (some 6) (O.bin BinOp.and (Opd.t 5) (Opd.c (AV.int IntKind.u32 1))),
                C.op none (some 7) (O.bin BinOp.eql (Opd.t 6) (Opd.c (AV.int IntKind.u32 1))),
                C.cond (Opd.t 7)
                  [C.op none (some 8) (O.mv (Opd.t 0)),
                    C.op none (some 9) (O.bin BinOp.shr (Opd.t 8) (Opd.c (AV.int IntKind.u64 1))),
                    C.op none (some 10) (O.bin BinOp.xor (Opd.t 9) (Opd.c (AV.int IntKind.u32 3988292384))),
                    C.op none (some 0) (O.mv (Opd.t 10))]
                  [C.op none (some 11) (O.mv (Opd.t 0)),
                    C.op none (some 12) (O.bin BinOp.shr (Opd.t 11) (Opd.c (AV.int IntKind.u64 1))),
                    C.op none (some 0) (O.mv (Opd.t 12))]],
            C.op none (some 13) (O.bin BinOp.add (Opd.t 3) (Opd.c (AV.int IntKind.i64 1))),
            C.op none (some 3) (O.mv (Opd.t 13))]],
    C.op none (some 14) (O.mv (Opd.t 0)), C.op none (some 2) (O.mv (Opd.t 14)), C.ret]
def r96 : List RV := [RV.t 2]
theorem c96_ok : cC Try.prog Try.f96.ntmps (Try.f96.body.getD .skip) = some c96 := by kernel_rfl

def c97 : List C :=
  [C.op none (some 12) (O.mv (Opd.t 2)), C.op none (some 13) (O.mv (Opd.t 1)),
    C.op none (some 14) (O.bin BinOp.sub (Opd.t 12) (Opd.t 13)), C.op none (some 10) (O.mv (Opd.t 14)),
    C.op none (some 15) (O.mv (Opd.t 3)), C.op none (some 16) (O.mv (Opd.t 2)),
    C.op none (some 17) (O.bin BinOp.sub (Opd.t 15) (Opd.t 16)), C.op none (some 11) (O.mv (Opd.t 17)),
    C.blk 0
      [C.loop
          [C.op none (some 18) (O.mv (Opd.t 10)), C.op none (some 19) (O.mv (Opd.t 11)),
            C.op none (some 20) (O.bin BinOp.neq (Opd.t 18) (Opd.t 19)), C.cond (Opd.t 20) [] [C.exit 0],
            C.blk 1
              [C.op none (some 21) (O.mv (Opd.t 10)), C.op none (some 22) (O.mv (Opd.t 11)),
                C.op none (some 23) (O.bin BinOp.gtr (Opd.t 21) (Opd.t 22)),
                C.cond (Opd.t 23)
                  [C.op none (some 24) (O.mv (Opd.t 0)), C.op none (some 25) (O.mv (Opd.t 2)),
                    C.op none (some 26) (O.mv (Opd.t 10)), C.op none (some 27) (O.bin BinOp.sub (Opd.t 25) (Opd.t 26)),
                    C.op none (some 28) (O.mv (Opd.t 2)), C.op none (some 29) (O.mv (Opd.t 11)),
                    C.op none (some 30) (O.mv (Opd.t 4)),
                    C.op none (some 31) (O.call 98 [Opd.t 24, Opd.t 27, Opd.t 28, Opd.t 29, Opd.t 30]),
                    C.op none (some 32) (O.mv (Opd.t 10)), C.op none (some 33) (O.mv (Opd.t 11)),
                    C.op none (some 34) (O.bin BinOp.sub (Opd.t 32) (Opd.t 33)), C.op none (some 10) (O.mv (Opd.t 34))]
                  [C.op none (some 35) (O.mv (Opd.t 0)), C.op none (some 36) (O.mv (Opd.t 2)),
                    C.op none (some 37) (O.mv (Opd.t 10)), C.op none (some 38) (O.bin BinOp.sub (Opd.t 36) (Opd.t 37)),
                    C.op none (some 39) (O.mv (Opd.t 2)), C.op none (some 40) (O.mv (Opd.t 11)),
                    C.op none (some 41) (O.bin BinOp.add (Opd.t 39) (Opd.t 40)), C.op none (some 42) (O.mv (Opd.t 10)),
                    C.op none (some 43) (O.bin BinOp.sub (Opd.t 41) (Opd.t 42)), C.op none (some 44) (O.mv (Opd.t 10)),
                    C.op none (some 45) (O.mv (Opd.t 4)),
                    C.op none (some 46) (O.call 98 [Opd.t 35, Opd.t 38, Opd.t 43, Opd.t 44, Opd.t 45]),
                    C.op none (some 47) (O.mv (Opd.t 11)), C.op none (some 48) (O.mv (Opd.t 10)),
                    C.op none (some 49) (O.bin BinOp.sub (Opd.t 47) (Opd.t 48)),
                    C.op none (some 11) (O.mv (Opd.t 49))]]]],
    C.op none (some 50) (O.mv (Opd.t 0)), C.op none (some 51) (O.mv (Opd.t 2)), C.op none (some 52) (O.mv (Opd.t 10)),
    C.op none (some 53) (O.bin BinOp.sub (Opd.t 51) (Opd.t 52)), C.op none (some 54) (O.mv (Opd.t 2)),
    C.op none (some 55) (O.mv (Opd.t 10)), C.op none (some 56) (O.mv (Opd.t 4)),
    C.op none (some 57) (O.call 98 [Opd.t 50, Opd.t 53, Opd.t 54, Opd.t 55, Opd.t 56])]
def r97 : List RV := []
theorem c97_ok : cC Try.prog Try.f97.ntmps (Try.f97.body.getD .skip) = some c97 := by kernel_rfl

def d98_0 : List It :=
  [(none, some 16, O.mv (Opd.t 0), []), (none, some 17, O.mv (Opd.t 1), []),
                    (none, some 18, O.mv (Opd.t 10), []),
                    (none, some 19, O.bin BinOp.add (Opd.t 17) (Opd.t 18), [1, 2]), (none, some 20, O.mv (Opd.t 0), []),
                    (none, some 21, O.mv (Opd.t 2), []), (none, some 22, O.mv (Opd.t 10), []),
                    (none, some 23, O.bin BinOp.add (Opd.t 21) (Opd.t 22), [5, 6]), (none, some 24, O.mv (Opd.t 0), []),
                    (none, some 25, O.mv (Opd.t 2), []), (none, some 26, O.mv (Opd.t 10), []),
                    (none, some 27, O.bin BinOp.add (Opd.t 25) (Opd.t 26), [9, 10]),
                    (none, some 28, O.iad 4 (Opd.t 24) (Opd.t 27), [8, 11]),
                    (none, some 29,
                      O.ldn [CK.int IntKind.u32, CK.int IntKind.i64, CK.int IntKind.i64, CK.int IntKind.i64] (Opd.t 28),
                      [12]),
                    (none, some 30, O.mv (Opd.t 0), []), (none, some 31, O.mv (Opd.t 1), []),
                    (none, some 32, O.mv (Opd.t 10), []),
                    (none, some 33, O.bin BinOp.add (Opd.t 31) (Opd.t 32), [15, 16]),
                    (none, some 34, O.iad 4 (Opd.t 30) (Opd.t 33), [14, 17]),
                    (none, some 35,
                      O.ldn [CK.int IntKind.u32, CK.int IntKind.i64, CK.int IntKind.i64, CK.int IntKind.i64] (Opd.t 34),
                      [18]),
                    (none, some 36, O.iad 4 (Opd.t 16) (Opd.t 19), [0, 3, 0, 1, 2, 3, 8, 9, 10, 11, 12, 13, 19]),
                    (none, none, O.st 4 (Opd.t 36) (Opd.t 29), [20, 13, 0, 1, 2, 3, 8, 9, 10, 11, 12, 13, 19]),
                    (none, some 37, O.iad 4 (Opd.t 20) (Opd.t 23),
                      [4, 7, 0, 1, 2, 3, 4, 5, 6, 7, 8, 9, 10, 11, 12, 13, 14, 15, 16, 17, 18, 19, 20, 21]),
                    (none, none, O.st 4 (Opd.t 37) (Opd.t 35),
                      [22, 19, 21, 0, 1, 2, 3, 4, 5, 6, 7, 8, 9, 10, 11, 12, 13, 14, 15, 16, 17, 18, 19, 20, 21])]
def o98_0 : List (Nat × Bool) := [(0, false), (1, false), (2, false), (3, false), (4, false), (5, false), (6, false), (7, false), (8, false), (9, false), (10, false), (11, false), (12, false), (13, false), (14, false), (15, false), (16, false), (17, false), (18, false), (19, false), (20, false), (21, true), (22, false), (23, true)]
def l98_0 : List (Nat × Bool × It) :=
  [(0, false, (none, some 16, O.mv (Opd.t 0), [])),
   (1, false, (none, some 17, O.mv (Opd.t 1), [])),
   (2, false, (none, some 18, O.mv (Opd.t 10), [])),
   (3, false, (none, some 19, O.bin BinOp.add (Opd.t 17) (Opd.t 18), [1, 2])),
   (4, false, (none, some 20, O.mv (Opd.t 0), [])),
   (5, false, (none, some 21, O.mv (Opd.t 2), [])),
   (6, false, (none, some 22, O.mv (Opd.t 10), [])),
   (7, false, (none, some 23, O.bin BinOp.add (Opd.t 21) (Opd.t 22), [5, 6])),
   (8, false, (none, some 24, O.mv (Opd.t 0), [])),
   (9, false, (none, some 25, O.mv (Opd.t 2), [])),
   (10, false, (none, some 26, O.mv (Opd.t 10), [])),
   (11, false, (none, some 27, O.bin BinOp.add (Opd.t 25) (Opd.t 26), [9, 10])),
   (12, false, (none, some 28, O.iad 4 (Opd.t 24) (Opd.t 27), [8, 11])),
   (13, false, (none, some 29,
                      O.ldn [CK.int IntKind.u32, CK.int IntKind.i64, CK.int IntKind.i64, CK.int IntKind.i64] (Opd.t 28),
                      [12])),
   (14, false, (none, some 30, O.mv (Opd.t 0), [])),
   (15, false, (none, some 31, O.mv (Opd.t 1), [])),
   (16, false, (none, some 32, O.mv (Opd.t 10), [])),
   (17, false, (none, some 33, O.bin BinOp.add (Opd.t 31) (Opd.t 32), [15, 16])),
   (18, false, (none, some 34, O.iad 4 (Opd.t 30) (Opd.t 33), [14, 17])),
   (19, false, (none, some 35,
                      O.ldn [CK.int IntKind.u32, CK.int IntKind.i64, CK.int IntKind.i64, CK.int IntKind.i64] (Opd.t 34),
                      [18])),
   (20, false, (none, some 36, O.iad 4 (Opd.t 16) (Opd.t 19), [0, 3, 0, 1, 2, 3, 8, 9, 10, 11, 12, 13, 19])),
   (21, true, (none, none, O.st 4 (Opd.t 36) (Opd.t 29), [20, 13, 0, 1, 2, 3, 8, 9, 10, 11, 12, 13, 19])),
   (22, false, (none, some 37, O.iad 4 (Opd.t 20) (Opd.t 23),
                      [4, 7, 0, 1, 2, 3, 4, 5, 6, 7, 8, 9, 10, 11, 12, 13, 14, 15, 16, 17, 18, 19, 20, 21])),
   (23, true, (none, none, O.st 4 (Opd.t 37) (Opd.t 35),
                      [22, 19, 21, 0, 1, 2, 3, 4, 5, 6, 7, 8, 9, 10, 11, 12, 13, 14, 15, 16, 17, 18, 19, 20, 21]))]
theorem l98_0_ok : okDraw d98_0 o98_0 = true ∧ mkL d98_0 o98_0 = some l98_0 := ⟨by kernel_rfl, by kernel_rfl⟩

def c98 : List C :=
  [C.op none (some 10) (O.mv (Opd.c (AV.int IntKind.i64 0))),
    C.blk 0
      [C.loop
          [C.op none (some 11) (O.mv (Opd.t 10)), C.op none (some 12) (O.mv (Opd.t 3)),
            C.op none (some 13) (O.bin BinOp.lss (Opd.t 11) (Opd.t 12)), C.cond (Opd.t 13) [] [C.exit 0],
            C.blk 1
              [C.draw d98_0],
            C.op none (some 14) (O.mv (Opd.t 10)),
            C.op none (some 15) (O.bin BinOp.add (Opd.t 14) (Opd.c (AV.int IntKind.i64 1))),
            C.op none (some 10) (O.mv (Opd.t 15))]]]
def r98 : List RV := []
theorem c98_ok : cC Try.prog Try.f98.ntmps (Try.f98.body.getD .skip) = some c98 := by kernel_rfl

def c114 : List C :=
  []
def r114 : List RV := []
theorem c114_ok : cC Try.prog Try.f114.ntmps (Try.f114.body.getD .skip) = some c114 := by kernel_rfl

def c115 : List C :=
  []
def r115 : List RV := []
theorem c115_ok : cC Try.prog Try.f115.ntmps (Try.f115.body.getD .skip) = some c115 := by kernel_rfl

def c116 : List C :=
  []
def r116 : List RV := []
theorem c116_ok : cC Try.prog Try.f116.ntmps (Try.f116.body.getD .skip) = some c116 := by kernel_rfl

def c117 : List C :=
  []
def r117 : List RV := []
theorem c117_ok : cC Try.prog Try.f117.ntmps (Try.f117.body.getD .skip) = some c117 := by kernel_rfl

end Go.AEX
