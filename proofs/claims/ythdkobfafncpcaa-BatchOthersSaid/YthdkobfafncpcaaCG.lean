/- Compact codes, printed by gen.py from the given form; each is checked by its theorem. -/
import Derived.Test.YthdkobfafncpcaaAEzh
import Derived.Test.YthdkobfafncpcaaProg
import Derived.KernelRfl
namespace Go.AE
abbrev C.q (d : Nat) (o : O) : C := .op none (some d) o
abbrev C.m (d i : Nat) : C := .op none (some d) (.mv (.t i))
def pk (l : List (Nat × Bool × It)) : List It := (List.range l.length).filterMap fun i => (l.find? fun x => x.1 == i).map (·.2.2)
def po (l : List (Nat × Bool × It)) : List (Nat × Bool) := l.map fun x => (x.1, x.2.1)
end Go.AE
namespace Go.AEX
open Go Go.AE Go.Proofs
set_option maxRecDepth 100000
attribute [go_sem] C.q C.m

def r3 : List RV :=
  [.t 6]
def r4 : List RV :=
  [.t 2]
def r5 : List RV :=
  [.t 6]
def c7 : List C :=
  [.q 4 (.mv (.c (.bool false))), .q 13 (.call 9 []), .q 14 (.un .not (.t 13)), .cond (.t 14) [.q 4 (.mv (.c (.bool false))), .ret] [], .q 15 (.call 10 [.c (.int .i64 0)]), .m 5 15, .m 16 0, .q 17 (.bin .and (.t 16) (.c (.int .i64 7))), .q 18 (.bin .add (.c (.int .i64 1)) (.t 17)), .m 0 18, .q 19 (.mv (.c (.int .i64 0))), .blk 0 [.loop [.q 20 (.bin .lss (.t 19) (.c (.int .i64 8))), .cond (.t 20) [] [.exit 0], .blk 1 [.m 21 19, .m 6 21, .m 22 0, .q 23 (.mv (.c (.int .i64 0))), .blk 2 [.loop [.q 24 (.bin .lss (.t 23) (.t 22)), .cond (.t 24) [] [.exit 2], .blk 3 [.m 25 23, .m 7 25, .m 26 5, .m 27 6, .m 28 7, .q 29 (.call 12 [.t 26, .t 27, .t 28, .c .nilsl]), .q 30 (.bin .neq (.t 29) (.c (.int .i64 0))), .cond (.t 30) [.q 4 (.mv (.c (.bool false))), .ret] []], .q 31 (.bin .add (.t 23) (.c (.int .i64 1))), .m 23 31]]], .q 32 (.bin .add (.t 19) (.c (.int .i64 1))), .m 19 32]], .m 33 1, .q 34 (.call 28 [.t 33]), .m 8 34, .m 35 0, .q 36 (.mv (.c (.int .i64 0))), .blk 4 [.loop [.q 37 (.bin .lss (.t 36) (.t 35)), .cond (.t 37) [] [.exit 4], .blk 5 [.m 38 36, .m 9 38, .m 40 5, .m 41 8, .q 42 (.call 16 [.t 40, .t 41]), .m 39 42, .q 43 (.ext (.t 39) 0), .q 44 (.ext (.t 39) 1), .m 10 43, .m 11 44, .m 45 11, .q 46 (.un .not (.t 45)), .m 47 46, .op (some (47, false)) (some 48) (.mv (.t 10)), .op (some (47, false)) (some 49) (.len false (.t 48)), .op (some (47, false)) (some 50) (.mv (.t 8)), .op (some (47, false)) (some 51) (.len false (.t 50)), .op (some (47, false)) (some 52) (.bin .neq (.t 49) (.t 51)), .q 53 (.pick (.t 47) (.c (.bool true)) (.t 52)), .m 54 53, .op (some (54, false)) (some 55) (.mv (.t 5)), .op (some (54, false)) (some 56) (.call 19 [.t 55]), .op (some (54, false)) (some 57) (.mv (.t 9)), .op (some (54, false)) (some 58) (.bin .add (.t 57) (.c (.int .i64 1))), .op (some (54, false)) (some 59) (.bin .neq (.t 56) (.t 58)), .q 60 (.pick (.t 54) (.c (.bool true)) (.t 59)), .cond (.t 60) [.q 4 (.mv (.c (.bool false))), .ret] [], .q 61 (.mv (.c (.int .i64 0))), .blk 6
  [.loop [.q 62 (.bin .lss (.t 61) (.c (.int .i64 8))), .cond (.t 62) [] [.exit 6], .blk 7 [.m 63 61, .m 12 63, .m 64 5, .m 65 12, .q 66 (.call 15 [.t 64, .t 65]), .m 67 0, .q 68 (.bin .neq (.t 66) (.t 67)), .m 69 68, .op (some (69, false)) (some 70) (.mv (.t 5)), .op (some (69, false)) (some 71) (.mv (.t 12)), .op (some (69, false)) (some 72) (.call 14 [.t 70, .t 71]), .op (some (69, false)) (some 73) (.mv (.t 9)), .op (some (69, false)) (some 74) (.bin .add (.t 73) (.c (.int .i64 1))), .op (some (69, false)) (some 75) (.mv (.t 0)), .op (some (69, false)) (some 76) (.bin .lss (.t 74) (.t 75)), .op (some (69, false)) (some 77) (.eqb true (.t 72) (.t 76)), .q 78 (.pick (.t 69) (.c (.bool true)) (.t 77)), .cond (.t 78) [.q 4 (.mv (.c (.bool false))), .ret] []], .q 79 (.bin .add (.t 61) (.c (.int .i64 1))), .m 61 79]]], .q 80 (.bin .add (.t 36) (.c (.int .i64 1))), .m 36 80]], .m 81 5, .q 82 (.call 30 [.t 81]), .q 83 (.len false (.t 82)), .q 84 (.bin .eql (.t 83) (.c (.int .i64 0))), .m 85 84, .op (some (85, true)) (some 86) (.mv (.t 5)), .op (some (85, true)) (some 87) (.mv (.t 0)), .op (some (85, true)) (some 88) (.call 12 [.t 86, .c (.int .i64 3), .t 87, .c .nilsl]), .op (some (85, true)) (some 89) (.bin .eql (.t 88) (.c (.int .i64 0))), .q 90 (.pick (.t 85) (.t 89) (.c (.bool false))), .m 4 90, .ret]
def r7 : List RV :=
  [.t 4]
theorem c7_ok : cC Try.prog Try.f7.ntmps (Try.f7.body.getD .skip) = some c7 := by kernel_rfl

def c9 : List C :=
  [.q 0 (.mv (.c (.bool false))), .q 4 (.call 10 [.c (.int .i64 5)]), .m 1 4, .m 5 1, .q 6 (.eqp 0 false (.t 5) (.c .nilptr)), .m 7 6, .op (some (7, false)) (some 8) (.mv (.t 1)), .op (some (7, false)) (some 9) (.call 12 [.t 8, .c (.int .i64 0), .c (.int .i64 5), .c .nilsl]), .op (some (7, false)) (some 10) (.bin .neq (.t 9) (.c (.int .i64 0))), .q 11 (.pick (.t 7) (.c (.bool true)) (.t 10)), .m 12 11, .op (some (12, false)) (some 13) (.mv (.t 1)), .op (some (12, false)) (some 14) (.call 12 [.t 13, .c (.int .i64 1), .c (.int .i64 5), .c .nilsl]), .op (some (12, false)) (some 15) (.bin .neq (.t 14) (.c (.int .i64 0))), .q 16 (.pick (.t 12) (.c (.bool true)) (.t 15)), .cond (.t 16) [.q 0 (.mv (.c (.bool false))), .ret] [], .m 18 1, .q 19 (.bsl 1 [.int .i64 0] 2 [(0, .c (.int .i64 0)), (1, .c (.int .i64 1))]), .q 20 (.call 16 [.t 18, .t 19]), .m 17 20, .q 21 (.ext (.t 17) 0), .q 22 (.ext (.t 17) 1), .m 2 21, .m 3 22, .m 23 3, .m 24 23, .op (some (24, true)) (some 25) (.mv (.t 2)), .op (some (24, true)) (some 26) (.len false (.t 25)), .op (some (24, true)) (some 27) (.bin .eql (.t 26) (.c (.int .i64 2))), .q 28 (.pick (.t 24) (.t 27) (.c (.bool false))), .m 29 28, .op (some (29, true)) (some 30) (.mv (.t 2)), .op (some (29, true)) (some 31) (.iad 2 (.t 30) (.c (.int .i64 1))), .op (some (29, true)) (some 32) (.fad 0 (.t 31)), .op (some (29, true)) (some 33) (.ld (.int .i64) (.t 32)), .op (some (29, true)) (some 34) (.bin .eql (.t 33) (.c (.int .i64 1))), .q 35 (.pick (.t 29) (.t 34) (.c (.bool false))), .m 36 35, .op (some (36, true)) (some 37) (.mv (.t 1)), .op (some (36, true)) (some 38) (.call 19 [.t 37]), .op (some (36, true)) (some 39) (.bin .eql (.t 38) (.c (.int .i64 6))), .q 40 (.pick (.t 36) (.t 39) (.c (.bool false))), .m 41 40, .op (some (41, true)) (some 42) (.mv (.t 1)), .op (some (41, true)) (some 43) (.call 15 [.t 42, .c (.int .i64 0)]), .op (some (41, true)) (some 44) (.bin .eql (.t 43) (.c (.int .i64 6))), .q 45 (.pick (.t 41) (.t 44) (.c (.bool false))),
  .m 0 45, .ret]
def r9 : List RV :=
  [.t 0]
theorem c9_ok : cC Try.prog Try.f9.ntmps (Try.f9.body.getD .skip) = some c9 := by kernel_rfl

def c10 : List C :=
  [.q 2 (.mv (.c .nilptr)), .m 3 0, .q 4 .mkmap, .q 5 (.build [.int .i64 0, .nilmap] [(0, 1, .t 3), (1, 1, .t 4)]), .q 6 (.box (.t 5)), .m 2 6, .ret]
def r10 : List RV :=
  [.t 2]
theorem c10_ok : cC Try.prog Try.f10.ntmps (Try.f10.body.getD .skip) = some c10 := by kernel_rfl

def l12_0 : List (Nat × Bool × It) :=
  [(0, false, (none, some 55, .mv (.t 0), [])), (1, false, (none, some 56, .nck (.t 55), [0])), (2, false, (none, some 57, .fad 1 (.t 56), [1])), (3, false, (none, some 58, .ld .any (.t 57), [2])), (4, false, (none, some 59, .mv (.t 1), [])), (5, false, (none, some 60, .look false .any .nilmap false (.t 58) (.t 59), [3, 4])), (6, false, (none, some 61, .mv (.t 2), [])), (7, false, (none, some 62, .mv (.t 3), [])), (8, true, (none, some 63, .call 37 [.t 62], [7])), (9, true, (none, none, .mput false (.t 60) (.t 61) (.t 63), [5, 6, 8, 8, 0, 1, 2, 3, 4, 5, 6, 7, 8]))]
def d12_0 : List It := pk l12_0
def o12_0 : List (Nat × Bool) := po l12_0
theorem l12_0_ok : okDraw d12_0 o12_0 = true ∧ mkL d12_0 o12_0 = some l12_0 := ⟨by kernel_rfl, by kernel_rfl⟩

def c12 : List C :=
  [.q 8 (.mv (.c (.int .i64 0))), .blk 0 [.m 11 1, .q 12 (.bin .lss (.t 11) (.c (.int .i64 0))), .m 13 12, .op (some (13, false)) (some 14) (.mv (.t 1)), .op (some (13, false)) (some 15) (.bin .geq (.t 14) (.c (.int .i64 32))), .q 16 (.pick (.t 13) (.c (.bool true)) (.t 15)), .m 10 16, .cond (.t 10) [.q 8 (.mv (.c (.int .i64 13))), .ret] [.m 18 2, .m 19 0, .m 20 1, .q 21 (.call 15 [.t 19, .t 20]), .q 22 (.bin .lss (.t 18) (.t 21)), .m 17 22, .cond (.t 17) [.q 8 (.mv (.c (.int .i64 11))), .ret] [.m 24 2, .m 25 0, .m 26 1, .q 27 (.call 15 [.t 25, .t 26]), .q 28 (.bin .gtr (.t 24) (.t 27)), .m 23 28, .cond (.t 23) [.q 8 (.mv (.c (.int .i64 12))), .ret] [.m 30 2, .m 31 0, .q 32 (.nck (.t 31)), .q 33 (.fad 0 (.t 32)), .q 34 (.ld (.int .i64) (.t 33)), .q 35 (.bin .add (.t 34) (.c (.int .i64 8))), .q 36 (.bin .geq (.t 30) (.t 35)), .m 29 36, .cond (.t 29) [.q 8 (.mv (.c (.int .i64 8))), .ret] []]]]], .m 37 3, .q 38 (.call 36 [.t 37]), .m 9 38, .m 39 9, .q 40 (.bin .neq (.t 39) (.c (.int .i64 0))), .cond (.t 40) [.m 41 9, .m 8 41, .ret] [], .m 42 0, .q 43 (.nck (.t 42)), .q 44 (.fad 1 (.t 43)), .q 45 (.ld .any (.t 44)), .m 46 1, .q 47 (.look false .any .nilmap false (.t 45) (.t 46)), .q 48 (.eqp 1 false (.t 47) (.c .nilmap)), .cond (.t 48) [.m 49 0, .q 50 (.nck (.t 49)), .q 51 (.fad 1 (.t 50)), .q 52 (.ld .any (.t 51)), .m 53 1, .q 54 .mkmap, .op none none (.mput false (.t 52) (.t 53) (.t 54))] [], .draw d12_0, .q 8 (.mv (.c (.int .i64 0))), .ret]
def r12 : List RV :=
  [.t 8]
theorem c12_ok : cC Try.prog Try.f12.ntmps (Try.f12.body.getD .skip) = some c12 := by kernel_rfl

def l14_0 : List (Nat × Bool × It) :=
  [(0, false, (none, some 8, .mv (.t 0), [])), (1, false, (none, some 9, .nck (.t 8), [0])), (2, false, (none, some 10, .fad 1 (.t 9), [1])), (3, false, (none, some 11, .ld .any (.t 10), [2])), (4, false, (none, some 12, .mv (.t 1), [])), (5, false, (none, some 13, .look false .any .nilmap false (.t 11) (.t 12), [3, 4])), (6, false, (none, some 14, .mv (.t 0), [])), (7, false, (none, some 15, .nck (.t 14), [6])), (8, false, (none, some 16, .fad 0 (.t 15), [7])), (9, false, (none, some 17, .ld (.int .i64) (.t 16), [8])), (10, false, (none, some 18, .look false .any .nilsl true (.t 13) (.t 17), [5, 9])), (11, false, (none, some 7, .mv (.t 18), [10])), (12, false, (none, some 19, .ext (.t 7) 0, [11])), (13, false, (none, some 20, .ext (.t 7) 1, [11])), (14, false, (none, some 5, .mv (.t 19), [12, 0, 1, 2, 3, 4, 5, 6, 7, 8, 9, 10, 11, 12])), (15, false, (none, some 6, .mv (.t 20), [13, 14, 0, 1, 2, 3, 4, 5, 6, 7, 8, 9, 10, 11, 12, 13, 14]))]
def d14_0 : List It := pk l14_0
def o14_0 : List (Nat × Bool) := po l14_0
theorem l14_0_ok : okDraw d14_0 o14_0 = true ∧ mkL d14_0 o14_0 = some l14_0 := ⟨by kernel_rfl, by kernel_rfl⟩

def c14 : List C :=
  [.q 4 (.mv (.c (.bool false))), .draw d14_0, .m 21 6, .m 4 21, .ret]
def r14 : List RV :=
  [.t 4]
theorem c14_ok : cC Try.prog Try.f14.ntmps (Try.f14.body.getD .skip) = some c14 := by kernel_rfl

def l15_0 : List (Nat × Bool × It) :=
  [(0, false, (none, some 5, .mv (.t 0), [])), (1, false, (none, some 6, .nck (.t 5), [0])), (2, false, (none, some 7, .fad 0 (.t 6), [1])), (3, false, (none, some 8, .ld (.int .i64) (.t 7), [2])), (4, false, (none, some 9, .mv (.t 0), [])), (5, false, (none, some 10, .nck (.t 9), [4])), (6, false, (none, some 11, .fad 1 (.t 10), [5])), (7, false, (none, some 12, .ld .any (.t 11), [6])), (8, false, (none, some 13, .mv (.t 1), [])), (9, false, (none, some 14, .look false .any .nilmap false (.t 12) (.t 13), [7, 8])), (10, false, (none, some 15, .lenm (.t 14), [9])), (11, false, (none, some 16, .bin .add (.t 8) (.t 15), [3, 10])), (12, false, (none, some 4, .mv (.t 16), [11, 10, 0, 1, 2, 3, 4, 5, 6, 7, 8, 9, 10, 11]))]
def d15_0 : List It := pk l15_0
def o15_0 : List (Nat × Bool) := po l15_0
theorem l15_0_ok : okDraw d15_0 o15_0 = true ∧ mkL d15_0 o15_0 = some l15_0 := ⟨by kernel_rfl, by kernel_rfl⟩

def c15 : List C :=
  [.q 4 (.mv (.c (.int .i64 0))), .draw d15_0, .ret]
def r15 : List RV :=
  [.t 4]
theorem c15_ok : cC Try.prog Try.f15.ntmps (Try.f15.body.getD .skip) = some c15 := by kernel_rfl

def l16_0 : List (Nat × Bool × It) :=
  [(0, false, (none, some 22, .mv (.t 6), [])), (1, false, (none, some 23, .mv (.t 8), [])), (2, false, (none, some 24, .mv (.t 0), [])), (3, false, (none, some 25, .nck (.t 24), [2])), (4, false, (none, some 26, .fad 1 (.t 25), [3])), (5, false, (none, some 27, .ld .any (.t 26), [4])), (6, false, (none, some 28, .mv (.t 8), [])), (7, false, (none, some 29, .look false .any .nilmap false (.t 27) (.t 28), [5, 6])), (8, false, (none, some 30, .mv (.t 0), [])), (9, false, (none, some 31, .nck (.t 30), [8])), (10, false, (none, some 32, .fad 0 (.t 31), [9])), (11, false, (none, some 33, .ld (.int .i64) (.t 32), [10])), (12, false, (none, some 34, .look false .any .nilsl false (.t 29) (.t 33), [7, 11])), (13, false, (none, some 35, .build [.int .i64 0, .nilsl] [(0, 1, .t 23), (1, 1, .t 34)], [1, 12])), (14, false, (none, some 36, .bsl 2 [.int .i64 0, .nilsl] 1 [(0, .t 35)], [13])), (15, true, (none, some 37, .app 2 (.t 22) (.t 36), [0, 14])), (16, true, (none, some 6, .mv (.t 37), [15, 15, 0, 1, 2, 3, 4, 5, 6, 7, 8, 9, 10, 11, 12, 13, 14, 15]))]
def d16_0 : List It := pk l16_0
def o16_0 : List (Nat × Bool) := po l16_0
theorem l16_0_ok : okDraw d16_0 o16_0 = true ∧ mkL d16_0 o16_0 = some l16_0 := ⟨by kernel_rfl, by kernel_rfl⟩

def c16 : List C :=
  [.q 4 (.mv (.c .nilsl)), .q 5 (.mv (.c (.bool false))), .m 11 0, .m 12 1, .q 13 (.call 29 [.t 11, .t 12]), .q 14 (.len false (.t 13)), .q 15 (.bin .gtr (.t 14) (.c (.int .i64 0))), .cond (.t 15) [.q 4 (.mv (.c .nilsl)), .q 5 (.mv (.c (.bool false))), .ret] [], .q 6 (.mv (.c .nilsl)), .m 16 1, .q 17 (.len false (.t 16)), .q 18 (.mv (.c (.int .i64 0))), .blk 0 [.loop [.q 19 (.bin .lss (.t 18) (.t 17)), .cond (.t 19) [] [.exit 0], .blk 1 [.q 20 (.iad 1 (.t 16) (.t 18)), .q 21 (.ld (.int .i64) (.t 20)), .m 8 21, .draw d16_0], .q 38 (.bin .add (.t 18) (.c (.int .i64 1))), .m 18 38]], .m 39 0, .q 40 (.nck (.t 39)), .q 41 (.fad 1 (.t 40)), .q 42 (.ld .any (.t 41)), .q 43 (.rng (.t 42)), .blk 2 [.loop [.q 44 (.nxt (.t 43)), .q 45 (.ext (.t 44) 0), .cond (.t 45) [] [.exit 2], .blk 3 [.q 46 (.ent (.t 43)), .q 47 (.ext (.t 46) 0), .q 48 (.ext (.t 46) 1), .m 9 47, .m 10 48, .m 49 10, .m 50 0, .q 51 (.nck (.t 50)), .q 52 (.fad 0 (.t 51)), .q 53 (.ld (.int .i64) (.t 52)), .op none none (.mdel false (.t 49) (.t 53)), .m 54 10, .q 55 (.lenm (.t 54)), .q 56 (.bin .eql (.t 55) (.c (.int .i64 0))), .cond (.t 56) [.m 57 0, .q 58 (.nck (.t 57)), .q 59 (.fad 1 (.t 58)), .q 60 (.ld .any (.t 59)), .m 61 9, .op none none (.mdel false (.t 60) (.t 61))] []]]], .m 62 0, .q 63 (.nck (.t 62)), .q 64 (.fad 0 (.t 63)), .q 65 (.ld (.int .i64) (.t 64)), .q 66 (.bin .add (.t 65) (.c (.int .i64 1))), .q 67 (.nck (.t 62)), .q 68 (.fad 0 (.t 67)), .op none none (.st 1 (.t 68) (.t 66)), .m 69 6, .m 4 69, .q 5 (.mv (.c (.bool true))), .ret]
def r16 : List RV :=
  [.t 4, .t 5]
theorem c16_ok : cC Try.prog Try.f16.ntmps (Try.f16.body.getD .skip) = some c16 := by kernel_rfl

def c19 : List C :=
  [.q 2 (.mv (.c (.int .i64 0))), .m 3 0, .q 4 (.nck (.t 3)), .q 5 (.fad 0 (.t 4)), .q 6 (.ld (.int .i64) (.t 5)), .m 2 6, .ret]
def r19 : List RV :=
  [.t 2]
theorem c19_ok : cC Try.prog Try.f19.ntmps (Try.f19.body.getD .skip) = some c19 := by kernel_rfl

def c28 : List C :=
  [.q 2 (.mv (.c .nilsl)), .q 3 (.alloc [.bool false, .bool false, .bool false, .bool false, .bool false, .bool false, .bool false, .bool false]), .q 4 (.mv (.c (.int .i64 0))), .blk 0 [.loop [.m 8 4, .m 9 0, .q 10 (.len false (.t 9)), .q 11 (.bin .lss (.t 8) (.t 10)), .m 12 11, .op (some (12, true)) (some 13) (.mv (.t 4)), .op (some (12, true)) (some 14) (.bin .lss (.t 13) (.c (.int .i64 20))), .q 15 (.pick (.t 12) (.t 14) (.c (.bool false))), .cond (.t 15) [] [.exit 0], .blk 1 [.m 18 0, .m 19 4, .q 20 (.iad 1 (.t 18) (.t 19)), .q 21 (.ld (.int .i64) (.t 20)), .q 22 (.bin .and (.t 21) (.c (.int .i64 7))), .q 23 (.iaa 8 (.t 3) (.t 22)), .op none none (.st 1 (.t 23) (.c (.bool true)))], .m 16 4, .q 17 (.bin .add (.t 16) (.c (.int .i64 1))), .m 4 17]], .q 5 (.mv (.c .nilsl)), .q 24 (.ldn [.bool, .bool, .bool, .bool, .bool, .bool, .bool, .bool] (.t 3)), .q 25 (.mv (.c (.int .i64 0))), .blk 2 [.loop [.q 26 (.bin .lss (.t 25) (.c (.int .i64 8))), .cond (.t 26) [] [.exit 2], .blk 3 [.m 27 25, .q 28 (.ixa 8 .bool (.t 24) (.t 25)), .m 6 27, .m 7 28, .m 29 7, .cond (.t 29) [.m 30 5, .m 31 6, .q 32 (.bsl 1 [.int .i64 0] 1 [(0, .t 31)]), .q 33 (.app 1 (.t 30) (.t 32)), .m 5 33] []], .q 34 (.bin .add (.t 25) (.c (.int .i64 1))), .m 25 34]], .m 35 5, .m 2 35, .ret]
def r28 : List RV :=
  [.t 2]
theorem c28_ok : cC Try.prog Try.f28.ntmps (Try.f28.body.getD .skip) = some c28 := by kernel_rfl

def c29 : List C :=
  [.q 4 (.mv (.c .nilsl)), .m 5 1, .q 6 (.call 43 [.t 5]), .m 7 0, .q 8 (.mkfn 14 [.t 7] []), .q 9 (.call 42 [.t 6, .t 8]), .m 4 9, .ret]
def r29 : List RV :=
  [.t 4]
theorem c29_ok : cC Try.prog Try.f29.ntmps (Try.f29.body.getD .skip) = some c29 := by kernel_rfl

def c30 : List C :=
  [.q 2 (.mv (.c .nilsl)), .m 3 0, .q 4 (.nck (.t 3)), .q 5 (.fad 1 (.t 4)), .q 6 (.ld .any (.t 5)), .q 7 (.call 45 [.t 6]), .q 8 (.call 44 [.t 7]), .m 2 8, .ret]
def r30 : List RV :=
  [.t 2]
theorem c30_ok : cC Try.prog Try.f30.ntmps (Try.f30.body.getD .skip) = some c30 := by kernel_rfl

def c36 : List C :=
  [.q 2 (.mv (.c (.int .i64 0))), .m 6 0, .q 7 (.len false (.t 6)), .q 8 (.bin .gtr (.t 7) (.c (.int .i64 8))), .cond (.t 8) [.q 2 (.mv (.c (.int .i64 8))), .ret] [], .m 9 0, .q 10 (.len false (.t 9)), .q 11 (.mv (.c (.int .i64 0))), .blk 0 [.loop [.q 12 (.bin .lss (.t 11) (.t 10)), .cond (.t 12) [] [.exit 0], .blk 1 [.q 13 (.iad 4 (.t 9) (.t 11)), .q 14 (.ldn [.int .i64, .int .i64, .int .i64, .int .i64] (.t 13)), .q 4 (.alloc [.int .i64 0, .int .i64 0, .int .i64 0, .int .i64 0]), .op none none (.st 4 (.t 4) (.t 14)), .q 15 (.ldn [.int .i64, .int .i64, .int .i64, .int .i64] (.t 4)), .q 16 (.call 52 [.t 15]), .m 5 16, .m 17 5, .q 18 (.bin .neq (.t 17) (.c (.int .i64 0))), .cond (.t 18) [.m 19 5, .m 2 19, .ret] []], .q 20 (.bin .add (.t 11) (.c (.int .i64 1))), .m 11 20]], .q 2 (.mv (.c (.int .i64 0))), .ret]
def r36 : List RV :=
  [.t 2]
theorem c36_ok : cC Try.prog Try.f36.ntmps (Try.f36.body.getD .skip) = some c36 := by kernel_rfl

def c37 : List C :=
  [.q 2 (.mv (.c .nilsl)), .m 3 0, .q 4 (.eqn false (.t 3)), .cond (.t 4) [.q 2 (.mv (.c .nilsl)), .ret] [], .q 5 (.bsl 4 [.int .i64 0, .int .i64 0, .int .i64 0, .int .i64 0] 0 []), .m 6 0, .q 7 (.app 4 (.t 5) (.t 6)), .m 2 7, .ret]
def r37 : List RV :=
  [.t 2]
theorem c37_ok : cC Try.prog Try.f37.ntmps (Try.f37.body.getD .skip) = some c37 := by kernel_rfl

def c42 : List C :=
  [.q 4 (.mv (.c .nilsl)), .m 8 0, .m 9 1, .q 10 (.call 55 [.t 8, .t 9]), .m 5 10, .m 11 5, .q 12 (.bin .eql (.t 11) (.c (.int .i64 (-1)))), .cond (.t 12) [.m 13 0, .m 4 13, .ret] [], .m 14 5, .q 15 (.bin .add (.t 14) (.c (.int .i64 1))), .m 6 15, .blk 0 [.loop [.m 16 6, .m 17 0, .q 18 (.len false (.t 17)), .q 19 (.bin .lss (.t 16) (.t 18)), .cond (.t 19) [] [.exit 0], .blk 1 [.m 22 0, .m 23 6, .q 24 (.iad 1 (.t 22) (.t 23)), .q 25 (.ld (.int .i64) (.t 24)), .m 7 25, .m 26 1, .m 27 7, .q 28 (.callv (.t 26) [.t 27]), .q 29 (.un .not (.t 28)), .cond (.t 29) [.m 30 0, .m 31 5, .m 32 7, .q 33 (.iad 1 (.t 30) (.t 31)), .op none none (.st 1 (.t 33) (.t 32)), .m 34 5, .q 35 (.bin .add (.t 34) (.c (.int .i64 1))), .m 5 35] []], .m 20 6, .q 21 (.bin .add (.t 20) (.c (.int .i64 1))), .m 6 21]], .m 36 0, .m 37 5, .q 38 (.lsl 1 (.t 36) (some (.t 37)) none none), .op none none (.clr 1 [.int .i64 0] (.t 38)), .m 39 0, .m 40 5, .q 41 (.lsl 1 (.t 39) none (some (.t 40)) none), .m 4 41, .ret]
def r42 : List RV :=
  [.t 4]
theorem c42_ok : cC Try.prog Try.f42.ntmps (Try.f42.body.getD .skip) = some c42 := by kernel_rfl

def c43 : List C :=
  [.q 2 (.mv (.c .nilsl)), .m 3 0, .q 4 (.eqn false (.t 3)), .cond (.t 4) [.q 2 (.mv (.c .nilsl)), .ret] [], .q 5 (.bsl 1 [.int .i64 0] 0 []), .m 6 0, .q 7 (.app 1 (.t 5) (.t 6)), .m 2 7, .ret]
def r43 : List RV :=
  [.t 2]
theorem c43_ok : cC Try.prog Try.f43.ntmps (Try.f43.body.getD .skip) = some c43 := by kernel_rfl

def c45 : List C :=
  [.q 1 (.box (.t 0)), .q 2 (.mv (.c .nilfn)), .q 3 (.mkfn 58 [] [.t 1]), .m 2 3, .ret]
def r45 : List RV :=
  [.t 2]
theorem c45_ok : cC Try.prog Try.f45.ntmps (Try.f45.body.getD .skip) = some c45 := by kernel_rfl

def c52 : List C :=
  [.q 1 (.box (.t 0)), .q 2 (.mv (.c (.int .i64 0))), .blk 0 [.q 4 (.fad 0 (.t 1)), .q 5 (.ld (.int .i64) (.t 4)), .q 6 (.bin .lss (.t 5) (.c (.int .i64 1))), .m 7 6, .op (some (7, false)) (some 8) (.fad 0 (.t 1)), .op (some (7, false)) (some 9) (.ld (.int .i64) (.t 8)), .op (some (7, false)) (some 10) (.bin .gtr (.t 9) (.c (.int .i64 4))), .q 11 (.pick (.t 7) (.c (.bool true)) (.t 10)), .m 3 11, .cond (.t 3) [.q 2 (.mv (.c (.int .i64 7))), .ret] [.q 13 (.fad 1 (.t 1)), .q 14 (.ld (.int .i64) (.t 13)), .q 15 (.bin .lss (.t 14) (.c (.int .i64 0))), .m 16 15, .op (some (16, false)) (some 17) (.fad 1 (.t 1)), .op (some (16, false)) (some 18) (.ld (.int .i64) (.t 17)), .op (some (16, false)) (some 19) (.bin .geq (.t 18) (.c (.int .i64 1099511627776))), .q 20 (.pick (.t 16) (.c (.bool true)) (.t 19)), .m 21 20, .op (some (21, false)) (some 22) (.fad 0 (.t 1)), .op (some (21, false)) (some 23) (.ld (.int .i64) (.t 22)), .op (some (21, false)) (some 24) (.bin .eql (.t 23) (.c (.int .i64 3))), .op (some (21, false)) (some 25) (.fad 1 (.t 1)), .op (some (21, false)) (some 26) (.ld (.int .i64) (.t 25)), .op (some (21, false)) (some 27) (.bin .eql (.t 26) (.c (.int .i64 0))), .op (some (21, false)) (some 28) (.eqb true (.t 24) (.t 27)), .q 29 (.pick (.t 21) (.c (.bool true)) (.t 28)), .m 12 29, .cond (.t 12) [.q 2 (.mv (.c (.int .i64 4))), .ret] [.q 31 (.fad 0 (.t 1)), .q 32 (.ld (.int .i64) (.t 31)), .q 33 (.bin .eql (.t 32) (.c (.int .i64 4))), .m 34 33, .op (some (34, true)) (some 35) (.fad 2 (.t 1)), .op (some (34, true)) (some 36) (.ld (.int .i64) (.t 35)), .op (some (34, true)) (some 37) (.bin .neq (.t 36) (.c (.int .i64 0))), .op (some (34, true)) (some 38) (.mv (.t 37)), .op (some (38, false)) (some 39) (.fad 3 (.t 1)), .op (some (38, false)) (some 40) (.ld (.int .i64) (.t 39)), .op (some (38, false)) (some 41) (.bin .neq (.t 40) (.c (.int .i64 0))), .op (some (34, true)) (some 42) (.pick (.t 38) (.c (.bool true)) (.t 41)), .q 43 (.pick (.t 34) (.t 42) (.c (.bool
  false))), .m 30 43, .cond (.t 30) [] [.q 44 (.fad 0 (.t 1)), .q 45 (.ld (.int .i64) (.t 44)), .q 46 (.bin .eql (.t 45) (.c (.int .i64 2))), .m 47 46, .op (some (47, true)) (some 48) (.fad 2 (.t 1)), .op (some (47, true)) (some 49) (.ld (.int .i64) (.t 48)), .op (some (47, true)) (some 50) (.bin .lss (.t 49) (.c (.int .i64 1))), .op (some (47, true)) (some 51) (.mv (.t 50)), .op (some (51, false)) (some 52) (.fad 2 (.t 1)), .op (some (51, false)) (some 53) (.ld (.int .i64) (.t 52)), .op (some (51, false)) (some 54) (.bin .geq (.t 53) (.c (.int .i64 1099511627776))), .op (some (47, true)) (some 55) (.pick (.t 51) (.c (.bool true)) (.t 54)), .op (some (47, true)) (some 56) (.mv (.t 55)), .op (some (56, false)) (some 57) (.fad 3 (.t 1)), .op (some (56, false)) (some 58) (.ld (.int .i64) (.t 57)), .op (some (56, false)) (some 59) (.bin .neq (.t 58) (.c (.int .i64 0))), .op (some (47, true)) (some 60) (.pick (.t 56) (.c (.bool true)) (.t 59)), .q 61 (.pick (.t 47) (.t 60) (.c (.bool false))), .m 30 61], .cond (.t 30) [.q 2 (.mv (.c (.int .i64 4))), .ret] [.q 63 (.fad 0 (.t 1)), .q 64 (.ld (.int .i64) (.t 63)), .q 65 (.bin .eql (.t 64) (.c (.int .i64 1))), .m 66 65, .op (some (66, true)) (some 67) (.fad 2 (.t 1)), .op (some (66, true)) (some 68) (.ld (.int .i64) (.t 67)), .op (some (66, true)) (some 69) (.call 60 [.t 68]), .op (some (66, true)) (some 70) (.mv (.t 69)), .op (some (70, false)) (some 71) (.fad 3 (.t 1)), .op (some (70, false)) (some 72) (.ld (.int .i64) (.t 71)), .op (some (70, false)) (some 73) (.call 60 [.t 72]), .op (some (66, true)) (some 74) (.pick (.t 70) (.c (.bool true)) (.t 73)), .q 75 (.pick (.t 66) (.t 74) (.c (.bool false))), .m 62 75, .cond (.t 62) [] [.q 76 (.fad 0 (.t 1)), .q 77 (.ld (.int .i64) (.t 76)), .q 78 (.bin .eql (.t 77) (.c (.int .i64 3))), .m 79 78, .op (some (79, true)) (some 80) (.fad 2 (.t 1)), .op (some (79, true)) (some 81) (.ld (.int .i64) (.t 80)), .op (some (79, true)) (some 82) (.bin .lss (.t 81) (.c (.int .i64 0))), .op
  (some (79, true)) (some 83) (.mv (.t 82)), .op (some (83, false)) (some 84) (.fad 2 (.t 1)), .op (some (83, false)) (some 85) (.ld (.int .i64) (.t 84)), .op (some (83, false)) (some 86) (.bin .gtr (.t 85) (.c (.int .i64 255))), .op (some (79, true)) (some 87) (.pick (.t 83) (.c (.bool true)) (.t 86)), .op (some (79, true)) (some 88) (.mv (.t 87)), .op (some (88, false)) (some 89) (.fad 3 (.t 1)), .op (some (88, false)) (some 90) (.ld (.int .i64) (.t 89)), .op (some (88, false)) (some 91) (.call 60 [.t 90]), .op (some (79, true)) (some 92) (.pick (.t 88) (.c (.bool true)) (.t 91)), .q 93 (.pick (.t 79) (.t 92) (.c (.bool false))), .m 62 93], .cond (.t 62) [.q 2 (.mv (.c (.int .i64 4))), .ret] []]]]], .q 2 (.mv (.c (.int .i64 0))), .ret]
def r52 : List RV :=
  [.t 2]
theorem c52_ok : cC Try.prog Try.f52.ntmps (Try.f52.body.getD .skip) = some c52 := by kernel_rfl

def c55 : List C :=
  [.q 4 (.mv (.c (.int .i64 0))), .m 6 0, .q 7 (.len false (.t 6)), .q 8 (.mv (.c (.int .i64 0))), .blk 0 [.loop [.q 9 (.bin .lss (.t 8) (.t 7)), .cond (.t 9) [] [.exit 0], .blk 1 [.m 10 8, .m 5 10, .m 11 1, .m 12 0, .m 13 5, .q 14 (.iad 1 (.t 12) (.t 13)), .q 15 (.ld (.int .i64) (.t 14)), .q 16 (.callv (.t 11) [.t 15]), .cond (.t 16) [.m 17 5, .m 4 17, .ret] []], .q 18 (.bin .add (.t 8) (.c (.int .i64 1))), .m 8 18]], .q 4 (.mv (.c (.int .i64 (-1)))), .ret]
def r55 : List RV :=
  [.t 4]
theorem c55_ok : cC Try.prog Try.f55.ntmps (Try.f55.body.getD .skip) = some c55 := by kernel_rfl

def c60 : List C :=
  [.q 2 (.mv (.c (.bool false))), .m 3 0, .q 4 (.bin .lss (.t 3) (.c (.int .i64 (-1000)))), .m 5 4, .op (some (5, false)) (some 6) (.mv (.t 0)), .op (some (5, false)) (some 7) (.bin .gtr (.t 6) (.c (.int .i64 1000))), .q 8 (.pick (.t 5) (.c (.bool true)) (.t 7)), .m 2 8, .ret]
def r60 : List RV :=
  [.t 2]
theorem c60_ok : cC Try.prog Try.f60.ntmps (Try.f60.body.getD .skip) = some c60 := by kernel_rfl

end Go.AEX
