/- Compact codes, printed by gen.py from the given form; each is checked by its theorem. -/
import Derived.Test.YthpfmahafgfbeaaAEzh
import Derived.Test.YthpfmahafgfbeaaProg
import Derived.KernelRfl
namespace Go.AE
abbrev C.q (d : Nat) (o : O) : C := .op none (some d) o
abbrev C.m (d i : Nat) : C := .op none (some d) (.mv (.t i))
def pk (l : List (Nat × Bool × It)) : List It := (List.range l.length).filterMap fun i => (l.find? fun x => x.1 == i).map (·.2.2)
def po (l : List (Nat × Bool × It)) : List (Nat × Bool) := l.map fun x => (x.1, x.2.1)
end Go.AE
namespace Go.AEX
open Go Go.AE Go.Proofs
set_option maxRecDepth 100000
attribute [go_sem] C.q C.m

def l4_0 : List (Nat × Bool × It) :=
  [(0, false, (none, some 96, .mv (.t 5), [])), (1, false, (none, some 97, .nck (.t 96), [0])), (2, false, (none, some 98, .fad 0 (.t 97), [1])), (3, false, (none, some 99, .iaa 2 (.t 98) (.c (.int .i64 0)), [2])), (4, false, (none, some 100, .ld .any (.t 99), [3])), (5, true, (none, some 101, .mksl 1 [.int .u8 0] 1 (.c (.int .i64 65537)) (.c (.int .i64 65537)), [])), (6, false, (none, some 102, .cvb (.t 101), [5])), (7, true, (none, some 103, .call 14 [.t 100, .t 102], [4, 6])), (8, false, (none, some 104, .bin .eql (.t 103) (.c (.int .i64 3)), [7])), (9, false, (none, some 105, .mv (.t 104), [8, 7])), (10, false, (some (105, true), some 106, .mv (.t 5), [9])), (11, false, (some (105, true), some 107, .nck (.t 106), [10, 9])), (12, false, (some (105, true), some 108, .fad 0 (.t 107), [11, 9])), (13, false, (some (105, true), some 109, .iaa 2 (.t 108) (.c (.int .i64 0)), [12, 9])), (14, false, (some (105, true), some 110, .ld .any (.t 109), [13, 9])), (16, false, (some (105, true), some 112, .mv (.t 12), [9])), (15, true, (some (105, true), some 111, .call 13 [.t 110], [14, 9, 9])), (17, false, (some (105, true), some 113, .bin .eql (.t 111) (.t 112), [15, 16, 9])), (18, false, (none, some 114, .pick (.t 105) (.t 113) (.c (.bool false)), [9, 17])), (19, false, (none, some 4, .mv (.t 114), [18, 15, 0, 1, 2, 3, 4, 5, 6, 7, 8, 9, 10, 11, 12, 13, 14, 15, 16, 17, 18]))]
def d4_0 : List It := pk l4_0
def c4 : List C :=
  [.q 4 (.mv (.c (.bool false))), .q 14 (.call 7 []), .m 13 14, .q 15 (.ext (.t 13) 0), .q 16 (.ext (.t 13) 1), .m 5 15, .m 6 16, .m 17 6, .q 18 (.un .not (.t 17)), .m 19 18, .op (some (19, false)) (some 20) (.call 8 []), .op (some (19, false)) (some 21) (.un .not (.t 20)), .q 22 (.pick (.t 19) (.c (.bool true)) (.t 21)), .cond (.t 22) [.q 4 (.mv (.c (.bool false))), .ret] [], .m 23 1, .q 24 (.bin .and (.t 23) (.c (.int .i64 15))), .q 25 (.bin .mul (.c (.int .i64 200)) (.t 24)), .q 26 (.mksl 1 [.int .u8 0] 1 (.t 25) (.t 25)), .q 27 (.cvb (.t 26)), .m 7 27, .m 28 1, .q 29 (.bin .and (.t 28) (.c (.int .i64 15))), .q 30 (.mx [.t 29, .c (.int .i64 1)]), .m 8 30, .m 31 0, .q 32 (.bin .and (.t 31) (.c (.int .i64 1023))), .q 33 (.mv (.c (.int .i64 0))), .blk 0 [.loop [.q 34 (.bin .lss (.t 33) (.t 32)), .cond (.t 34) [] [.exit 0], .blk 1 [.m 35 5, .q 36 (.nck (.t 35)), .q 37 (.fad 0 (.t 36)), .q 38 (.iaa 2 (.t 37) (.c (.int .i64 0))), .q 39 (.ld .any (.t 38)), .q 40 (.call 13 [.t 39]), .m 9 40, .m 41 5, .q 42 (.nck (.t 41)), .q 43 (.fad 0 (.t 42)), .q 44 (.iaa 2 (.t 43) (.c (.int .i64 0))), .q 45 (.ld .any (.t 44)), .m 46 7, .q 47 (.call 14 [.t 45, .t 46]), .m 10 47, .m 48 9, .m 49 8, .q 50 (.bin .add (.t 48) (.t 49)), .q 51 (.bin .leq (.t 50) (.c (.int .i64 700))), .m 11 51, .m 52 10, .q 53 (.bin .eql (.t 52) (.c (.int .i64 0))), .m 54 11, .q 55 (.eqb true (.t 53) (.t 54)), .m 56 55, .op (some (56, false)) (some 57) (.mv (.t 11)), .op (some (56, false)) (some 58) (.un .not (.t 57)), .op (some (56, false)) (some 59) (.mv (.t 58)), .op (some (59, true)) (some 60) (.mv (.t 10)), .op (some (59, true)) (some 61) (.bin .neq (.t 60) (.c (.int .i64 8))), .op (some (59, true)) (some 62) (.mv (.t 61)), .op (some (62, false)) (some 63) (.mv (.t 5)), .op (some (62, false)) (some 64) (.nck (.t 63)), .op (some (62, false)) (some 65) (.fad 0 (.t 64)), .op (some (62, false)) (some 66) (.iaa 2 (.t 65) (.c (.int .i64 0))), .op (some (62, false)) (some 67) (.ld .any (.t 66)), .op (some (62,
  false)) (some 68) (.call 13 [.t 67]), .op (some (62, false)) (some 69) (.mv (.t 9)), .op (some (62, false)) (some 70) (.bin .neq (.t 68) (.t 69)), .op (some (59, true)) (some 71) (.pick (.t 62) (.c (.bool true)) (.t 70)), .op (some (56, false)) (some 72) (.pick (.t 59) (.t 71) (.c (.bool false))), .q 73 (.pick (.t 56) (.c (.bool true)) (.t 72)), .m 74 73, .op (some (74, false)) (some 75) (.mv (.t 11)), .op (some (74, false)) (some 76) (.mv (.t 75)), .op (some (76, true)) (some 77) (.mv (.t 5)), .op (some (76, true)) (some 78) (.nck (.t 77)), .op (some (76, true)) (some 79) (.fad 0 (.t 78)), .op (some (76, true)) (some 80) (.iaa 2 (.t 79) (.c (.int .i64 0))), .op (some (76, true)) (some 81) (.ld .any (.t 80)), .op (some (76, true)) (some 82) (.call 13 [.t 81]), .op (some (76, true)) (some 83) (.mv (.t 9)), .op (some (76, true)) (some 84) (.mv (.t 8)), .op (some (76, true)) (some 85) (.bin .add (.t 83) (.t 84)), .op (some (76, true)) (some 86) (.bin .neq (.t 82) (.t 85)), .op (some (74, false)) (some 87) (.pick (.t 76) (.t 86) (.c (.bool false))), .q 88 (.pick (.t 74) (.c (.bool true)) (.t 87)), .cond (.t 88) [.q 4 (.mv (.c (.bool false))), .ret] []], .q 89 (.bin .add (.t 33) (.c (.int .i64 1))), .m 33 89]], .m 90 5, .q 91 (.nck (.t 90)), .q 92 (.fad 0 (.t 91)), .q 93 (.iaa 2 (.t 92) (.c (.int .i64 0))), .q 94 (.ld .any (.t 93)), .q 95 (.call 13 [.t 94]), .m 12 95, .draw d4_0, .ret]
def r4 : List RV :=
  [.t 4]
def c7 : List C :=
  [.q 0 (.mv (.c .nilptr)), .q 1 (.mv (.c (.bool false))), .q 7 (.call 21 []), .q 8 (.call 20 [.t 7]), .m 6 8, .q 9 (.ext (.t 6) 0), .q 10 (.ext (.t 6) 1), .m 2 9, .m 3 10, .q 12 (.call 21 []), .q 13 (.call 20 [.t 12]), .m 11 13, .q 14 (.ext (.t 11) 0), .q 15 (.ext (.t 11) 1), .m 4 14, .m 5 15, .m 16 2, .m 17 4, .q 18 (.build [.nilptr, .nilptr] [(0, 1, .t 16), (1, 1, .t 17)]), .q 19 (.build [.nilptr, .nilptr, .nilsl, .nilsl, .nilsl, .nilsl, .nilsl, .nilsl, .int .i64 0] [(0, 2, .t 18)]), .q 20 (.box (.t 19)), .m 21 3, .q 22 (.bin .eql (.t 21) (.c (.int .i64 0))), .m 23 22, .op (some (23, true)) (some 24) (.mv (.t 5)), .op (some (23, true)) (some 25) (.bin .eql (.t 24) (.c (.int .i64 0))), .q 26 (.pick (.t 23) (.t 25) (.c (.bool false))), .m 27 26, .op (some (27, true)) (some 28) (.mv (.t 2)), .op (some (27, true)) (some 29) (.eqp 0 true (.t 28) (.c .nilptr)), .q 30 (.pick (.t 27) (.t 29) (.c (.bool false))), .m 31 30, .op (some (31, true)) (some 32) (.mv (.t 4)), .op (some (31, true)) (some 33) (.eqp 0 true (.t 32) (.c .nilptr)), .q 34 (.pick (.t 31) (.t 33) (.c (.bool false))), .m 0 20, .m 1 34, .ret]
def r7 : List RV :=
  [.t 0, .t 1]
theorem c7_ok : cC Try.prog Try.f7.ntmps (Try.f7.body.getD .skip) = some c7 := by kernel_rfl

def l8_0 : List (Nat × Bool × It) :=
  [(0, false, (none, some 34, .mv (.t 1), [])), (1, false, (none, some 35, .nck (.t 34), [0])), (2, false, (none, some 36, .fad 0 (.t 35), [1])), (3, false, (none, some 37, .iaa 2 (.t 36) (.c (.int .i64 1)), [2])), (4, false, (none, some 38, .ld .any (.t 37), [3])), (5, false, (none, some 39, .mv (.t 3), [])), (6, false, (none, some 40, .iad 1 (.t 39) (.c (.int .i64 0)), [5])), (7, false, (none, some 41, .ld .str (.t 40), [6])), (8, true, (none, some 42, .call 18 [.t 38, .t 41], [4, 7])), (9, false, (none, some 33, .mv (.t 42), [8])), (10, false, (none, some 43, .ext (.t 33) 0, [9])), (11, false, (none, some 44, .ext (.t 33) 1, [9])), (12, false, (none, some 4, .mv (.t 43), [10, 8, 0, 1, 2, 3, 4, 5, 6, 7, 8, 9, 10])), (13, false, (none, some 5, .mv (.t 44), [11, 12, 0, 1, 2, 3, 4, 5, 6, 7, 8, 9, 10, 11, 12]))]
def d8_0 : List It := pk l8_0
def o8_0 : List (Nat × Bool) := po l8_0
theorem l8_0_ok : okDraw d8_0 o8_0 = true ∧ mkL d8_0 o8_0 = some l8_0 := ⟨by kernel_rfl, by kernel_rfl⟩

def l8_1 : List (Nat × Bool × It) :=
  [(0, false, (none, some 63, .mv (.t 1), [])), (1, false, (none, some 64, .nck (.t 63), [0])), (2, false, (none, some 65, .fad 0 (.t 64), [1])), (3, false, (none, some 66, .iaa 2 (.t 65) (.c (.int .i64 0)), [2])), (4, false, (none, some 67, .ld .any (.t 66), [3])), (5, false, (none, some 68, .mv (.t 6), [])), (6, false, (none, some 69, .iad 1 (.t 68) (.c (.int .i64 0)), [5])), (7, false, (none, some 70, .ld .str (.t 69), [6])), (8, true, (none, some 71, .call 18 [.t 67, .t 70], [4, 7])), (9, false, (none, some 62, .mv (.t 71), [8])), (10, false, (none, some 72, .ext (.t 62) 0, [9])), (11, false, (none, some 73, .ext (.t 62) 1, [9])), (12, false, (none, some 7, .mv (.t 72), [10, 8, 0, 1, 2, 3, 4, 5, 6, 7, 8, 9, 10])), (13, false, (none, some 8, .mv (.t 73), [11, 12, 0, 1, 2, 3, 4, 5, 6, 7, 8, 9, 10, 11, 12]))]
def d8_1 : List It := pk l8_1
def o8_1 : List (Nat × Bool) := po l8_1
theorem l8_1_ok : okDraw d8_1 o8_1 = true ∧ mkL d8_1 o8_1 = some l8_1 := ⟨by kernel_rfl, by kernel_rfl⟩

def c8 : List C :=
  [.q 0 (.mv (.c (.bool false))), .q 10 (.call 7 []), .m 9 10, .q 11 (.ext (.t 9) 0), .q 12 (.ext (.t 9) 1), .m 1 11, .m 2 12, .m 13 2, .q 14 (.un .not (.t 13)), .m 15 14, .op (some (15, false)) (some 16) (.mv (.t 1)), .op (some (15, false)) (some 17) (.nck (.t 16)), .op (some (15, false)) (some 18) (.fad 0 (.t 17)), .op (some (15, false)) (some 19) (.iaa 2 (.t 18) (.c (.int .i64 0))), .op (some (15, false)) (some 20) (.ld .any (.t 19)), .op (some (15, false)) (some 21) (.call 14 [.t 20, .c (.str [97])]), .op (some (15, false)) (some 22) (.bin .neq (.t 21) (.c (.int .i64 0))), .q 23 (.pick (.t 15) (.c (.bool true)) (.t 22)), .cond (.t 23) [.q 0 (.mv (.c (.bool false))), .ret] [], .m 24 1, .q 25 (.nck (.t 24)), .q 26 (.fad 0 (.t 25)), .q 27 (.iaa 2 (.t 26) (.c (.int .i64 0))), .q 28 (.ld .any (.t 27)), .q 29 (.call 22 [.t 28, .c (.int .i64 0)]), .m 3 29, .m 30 3, .q 31 (.len false (.t 30)), .q 32 (.bin .neq (.t 31) (.c (.int .i64 1))), .cond (.t 32) [.q 0 (.mv (.c (.bool false))), .ret] [], .draw d8_0, .m 45 1, .q 46 (.nck (.t 45)), .q 47 (.fad 0 (.t 46)), .q 48 (.iaa 2 (.t 47) (.c (.int .i64 1))), .q 49 (.ld .any (.t 48)), .q 50 (.call 22 [.t 49, .c (.int .i64 0)]), .m 6 50, .m 51 6, .q 52 (.len false (.t 51)), .q 53 (.bin .neq (.t 52) (.c (.int .i64 1))), .m 54 53, .op (some (54, false)) (some 55) (.mv (.t 1)), .op (some (54, false)) (some 56) (.nck (.t 55)), .op (some (54, false)) (some 57) (.fad 0 (.t 56)), .op (some (54, false)) (some 58) (.iaa 2 (.t 57) (.c (.int .i64 0))), .op (some (54, false)) (some 59) (.ld .any (.t 58)), .op (some (54, false)) (some 60) (.call 10 [.t 59]), .q 61 (.pick (.t 54) (.c (.bool true)) (.t 60)), .cond (.t 61) [.q 0 (.mv (.c (.bool false))), .ret] [], .draw d8_1, .m 74 4, .q 75 (.len false (.t 74)), .q 76 (.bin .eql (.t 75) (.c (.int .i64 1))), .m 77 76, .op (some (77, true)) (some 78) (.mv (.t 4)), .op (some (77, true)) (some 79) (.iad 1 (.t 78) (.c (.int .i64 0))), .op (some (77, true)) (some 80) (.ld .str (.t 79)), .op (some (77,
  true)) (some 81) (.bin .eql (.t 80) (.c (.str [97]))), .q 82 (.pick (.t 77) (.t 81) (.c (.bool false))), .m 83 82, .op (some (83, true)) (some 84) (.mv (.t 5)), .op (some (83, true)) (some 85) (.bin .eql (.t 84) (.c (.int .i64 0))), .q 86 (.pick (.t 83) (.t 85) (.c (.bool false))), .m 87 86, .op (some (87, true)) (some 88) (.mv (.t 8)), .op (some (87, true)) (some 89) (.bin .eql (.t 88) (.c (.int .i64 0))), .q 90 (.pick (.t 87) (.t 89) (.c (.bool false))), .m 91 90, .op (some (91, true)) (some 92) (.mv (.t 1)), .op (some (91, true)) (some 93) (.nck (.t 92)), .op (some (91, true)) (some 94) (.fad 0 (.t 93)), .op (some (91, true)) (some 95) (.iaa 2 (.t 94) (.c (.int .i64 0))), .op (some (91, true)) (some 96) (.ld .any (.t 95)), .op (some (91, true)) (some 97) (.call 10 [.t 96]), .q 98 (.pick (.t 91) (.t 97) (.c (.bool false))), .m 99 98, .op (some (99, true)) (some 100) (.mv (.t 1)), .op (some (99, true)) (some 101) (.nck (.t 100)), .op (some (99, true)) (some 102) (.fad 0 (.t 101)), .op (some (99, true)) (some 103) (.iaa 2 (.t 102) (.c (.int .i64 1))), .op (some (99, true)) (some 104) (.ld .any (.t 103)), .op (some (99, true)) (some 105) (.call 10 [.t 104]), .q 106 (.pick (.t 99) (.t 105) (.c (.bool false))), .m 0 106, .ret]
def r8 : List RV :=
  [.t 0]
theorem c8_ok : cC Try.prog Try.f8.ntmps (Try.f8.body.getD .skip) = some c8 := by kernel_rfl

def c10 : List C :=
  [.q 2 (.mv (.c (.bool false))), .m 3 0, .q 4 (.nck (.t 3)), .q 5 (.fad 5 (.t 4)), .q 6 (.ld .any (.t 5)), .q 7 (.len false (.t 6)), .q 8 (.bin .eql (.t 7) (.c (.int .i64 0))), .m 9 8, .op (some (9, true)) (some 10) (.mv (.t 0)), .op (some (9, true)) (some 11) (.nck (.t 10)), .op (some (9, true)) (some 12) (.fad 0 (.t 11)), .op (some (9, true)) (some 13) (.ld .any (.t 12)), .op (some (9, true)) (some 14) (.call 23 [.t 13]), .op (some (9, true)) (some 15) (.bin .eql (.t 14) (.c (.int .i64 0))), .q 16 (.pick (.t 9) (.t 15) (.c (.bool false))), .m 2 16, .ret]
def r10 : List RV :=
  [.t 2]
theorem c10_ok : cC Try.prog Try.f10.ntmps (Try.f10.body.getD .skip) = some c10 := by kernel_rfl

def c13 : List C :=
  [.q 2 (.mv (.c (.int .i64 0))), .m 3 0, .q 4 (.nck (.t 3)), .q 5 (.fad 5 (.t 4)), .q 6 (.ld .any (.t 5)), .q 7 (.len false (.t 6)), .m 2 7, .ret]
def r13 : List RV :=
  [.t 2]
theorem c13_ok : cC Try.prog Try.f13.ntmps (Try.f13.body.getD .skip) = some c13 := by kernel_rfl

def l14_0 : List (Nat × Bool × It) :=
  [(0, false, (none, some 26, .mv (.t 0), [])), (1, false, (none, some 27, .mv (.t 0), [])), (2, false, (none, some 28, .nck (.t 27), [1])), (3, false, (none, some 29, .fad 5 (.t 28), [2])), (4, false, (none, some 30, .ld .any (.t 29), [3])), (5, false, (none, some 31, .mv (.t 0), [])), (6, false, (none, some 32, .nck (.t 31), [5])), (7, false, (none, some 33, .fad 5 (.t 32), [6])), (8, false, (none, some 34, .ld .any (.t 33), [7])), (9, false, (none, some 35, .len false (.t 34), [8])), (10, false, (none, some 36, .mv (.t 0), [])), (11, false, (none, some 37, .nck (.t 36), [10])), (12, false, (none, some 38, .fad 5 (.t 37), [11])), (13, false, (none, some 39, .ld .any (.t 38), [12])), (14, false, (none, some 40, .len false (.t 39), [13])), (15, false, (none, some 41, .lsl 2 (.t 30) none (some (.t 35)) (some (.t 40)), [4, 9, 14])), (16, false, (none, some 42, .mv (.t 5), [])), (17, true, (none, some 43, .app 2 (.t 41) (.t 42), [15, 16])), (18, false, (none, some 44, .nck (.t 26), [0, 0, 1, 2, 3, 4, 5, 6, 7, 8, 9, 10, 11, 12, 13, 14, 15, 16, 17])), (19, false, (none, some 45, .fad 5 (.t 44), [18, 0, 1, 2, 3, 4, 5, 6, 7, 8, 9, 10, 11, 12, 13, 14, 15, 16, 17])), (20, true, (none, none, .st 1 (.t 45) (.t 43), [19, 17, 17, 0, 1, 2, 3, 4, 5, 6, 7, 8, 9, 10, 11, 12, 13, 14, 15, 16, 17]))]
def d14_0 : List It := pk l14_0
def o14_0 : List (Nat × Bool) := po l14_0
theorem l14_0_ok : okDraw d14_0 o14_0 = true ∧ mkL d14_0 o14_0 = some l14_0 := ⟨by kernel_rfl, by kernel_rfl⟩

def c14 : List C :=
  [.q 4 (.mv (.c (.int .i64 0))), .m 8 1, .q 9 (.call 24 [.t 8]), .m 7 9, .q 10 (.ext (.t 7) 0), .q 11 (.ext (.t 7) 1), .m 5 10, .m 6 11, .blk 0 [.m 13 6, .q 14 (.bin .neq (.t 13) (.c (.int .i64 0))), .m 12 14, .cond (.t 12) [.m 15 6, .m 4 15, .ret] [.m 17 0, .q 18 (.nck (.t 17)), .q 19 (.fad 5 (.t 18)), .q 20 (.ld .any (.t 19)), .q 21 (.len false (.t 20)), .m 22 5, .q 23 (.len false (.t 22)), .q 24 (.bin .add (.t 21) (.t 23)), .q 25 (.bin .gtr (.t 24) (.c (.int .i64 700))), .m 16 25, .cond (.t 16) [.q 4 (.mv (.c (.int .i64 8))), .ret] []]], .draw d14_0, .q 4 (.mv (.c (.int .i64 0))), .ret]
def r14 : List RV :=
  [.t 4]
theorem c14_ok : cC Try.prog Try.f14.ntmps (Try.f14.body.getD .skip) = some c14 := by kernel_rfl

def l15_0 : List (Nat × Bool × It) :=
  [(0, false, (none, some 4, .mv (.t 0), [])), (1, false, (none, some 5, .nck (.t 4), [0])), (2, false, (none, some 6, .fad 7 (.t 5), [1])), (3, false, (none, some 7, .ld (.int .i64) (.t 6), [2])), (4, false, (none, some 8, .mv (.t 0), [])), (5, false, (none, some 9, .nck (.t 8), [4])), (6, false, (none, some 10, .fad 8 (.t 9), [5])), (7, false, (none, some 11, .ld (.int .i64) (.t 10), [6])), (8, false, (none, some 2, .mv (.t 7), [3, 0, 1, 2, 3])), (9, false, (none, some 3, .mv (.t 11), [7, 8, 0, 1, 2, 3, 4, 5, 6, 7, 8]))]
def d15_0 : List It := pk l15_0
def o15_0 : List (Nat × Bool) := po l15_0
theorem l15_0_ok : okDraw d15_0 o15_0 = true ∧ mkL d15_0 o15_0 = some l15_0 := ⟨by kernel_rfl, by kernel_rfl⟩

def c15 : List C :=
  [.q 2 (.mv (.c (.int .i64 0))), .q 3 (.mv (.c (.int .i64 0))), .draw d15_0, .ret]
def r15 : List RV :=
  [.t 2, .t 3]
theorem c15_ok : cC Try.prog Try.f15.ntmps (Try.f15.body.getD .skip) = some c15 := by kernel_rfl

def c16 : List C :=
  [.q 4 (.mv (.c (.str []))), .m 5 0, .q 6 (.len true (.t 5)), .m 7 1, .q 8 (.bin .gtr (.t 6) (.t 7)), .cond (.t 8) [.m 9 0, .m 10 1, .q 11 (.ssl (.t 9) none (some (.t 10))), .m 4 11, .ret] [], .m 12 0, .m 4 12, .ret]
def r16 : List RV :=
  [.t 4]
theorem c16_ok : cC Try.prog Try.f16.ntmps (Try.f16.body.getD .skip) = some c16 := by kernel_rfl

def c17 : List C :=
  [.q 2 (.alloc [.int .i64 0, .int .i64 0, .int .i64 0, .str []]), .q 3 (.mv (.c (.int .i64 0))), .m 16 0, .q 17 (.call 25 [.t 16]), .m 15 17, .q 18 (.ext (.t 15) 0), .q 19 (.ext (.t 15) 1), .m 4 18, .m 5 19, .m 20 5, .q 21 (.bin .neq (.t 20) (.c (.int .i64 0))), .cond (.t 21) [.q 22 (.build [.int .i64 0, .int .i64 0, .int .i64 0, .str []] []), .m 23 5, .op none none (.st 4 (.t 2) (.t 22)), .m 3 23, .ret] [], .m 25 4, .q 26 (.build [.str [], .int .i64 0] [(0, 1, .t 25)]), .q 27 (.call 26 [.t 26, .c (.int .i64 4294967295)]), .m 24 27, .q 28 (.ext (.t 24) 0), .q 29 (.ext (.t 24) 1), .q 6 (.alloc [.str [], .int .i64 0]), .op none none (.st 2 (.t 6) (.t 28)), .m 7 29, .q 31 (.ldn [.str, .int .i64] (.t 6)), .q 32 (.call 26 [.t 31, .c (.int .i64 4294967295)]), .m 30 32, .q 33 (.ext (.t 30) 0), .q 34 (.ext (.t 30) 1), .op none none (.st 2 (.t 6) (.t 33)), .m 8 34, .q 36 (.ldn [.str, .int .i64] (.t 6)), .q 37 (.call 26 [.t 36, .c (.int .i64 1)]), .m 35 37, .q 38 (.ext (.t 35) 0), .q 39 (.ext (.t 35) 1), .op none none (.st 2 (.t 6) (.t 38)), .m 9 39, .m 40 7, .m 41 8, .q 42 (.build [.int .i64 0, .int .i64 0, .int .i64 0, .str []] [(0, 1, .t 40), (1, 1, .t 41), (2, 1, .c (.int .i64 (-1)))]), .q 10 (.alloc [.int .i64 0, .int .i64 0, .int .i64 0, .str []]), .op none none (.st 4 (.t 10) (.t 42)), .m 43 9, .q 44 (.bin .eql (.t 43) (.c (.int .i64 1))), .cond (.t 44) [.q 46 (.ldn [.str, .int .i64] (.t 6)), .q 47 (.call 26 [.t 46, .c (.int .i64 4294967295)]), .m 45 47, .q 48 (.ext (.t 45) 0), .q 49 (.ext (.t 45) 1), .q 11 (.alloc [.str [], .int .i64 0]), .op none none (.st 2 (.t 11) (.t 48)), .m 12 49, .q 51 (.ldn [.str, .int .i64] (.t 11)), .q 52 (.call 27 [.t 51, .c (.int .i64 201)]), .m 50 52, .q 53 (.ext (.t 50) 0), .q 54 (.ext (.t 50) 1), .q 13 (.alloc [.str [], .int .i64 0]), .op none none (.st 2 (.t 13) (.t 53)), .m 14 54, .q 55 (.ldn [.str, .int .i64] (.t 13)), .op none none (.st 2 (.t 6) (.t 55)), .m 56 12, .q 57 (.fad 2 (.t 10)), .op none none (.st 1 (.t 57) (.t 56)), .m 58
  14, .q 59 (.fad 3 (.t 10)), .op none none (.st 1 (.t 59) (.t 58))] [], .q 60 (.ldn [.str, .int .i64] (.t 6)), .q 61 (.call 28 [.t 60]), .q 62 (.bin .neq (.t 61) (.c (.int .i64 0))), .cond (.t 62) [.q 63 (.build [.int .i64 0, .int .i64 0, .int .i64 0, .str []] []), .q 64 (.ldn [.str, .int .i64] (.t 6)), .q 65 (.call 28 [.t 64]), .op none none (.st 4 (.t 2) (.t 63)), .m 3 65, .ret] [], .q 66 (.ldn [.int .i64, .int .i64, .int .i64, .str] (.t 10)), .op none none (.st 4 (.t 2) (.t 66)), .q 3 (.mv (.c (.int .i64 0))), .ret]
def r17 : List RV :=
  [.cn 2 4, .t 3]
theorem c17_ok : cC Try.prog Try.f17.ntmps (Try.f17.body.getD .skip) = some c17 := by kernel_rfl

def l18_0 : List (Nat × Bool × It) :=
  [(0, false, (none, some 32, .mv (.t 0), [])), (1, false, (none, some 33, .nck (.t 32), [0])), (2, false, (none, some 34, .fad 2 (.t 33), [1])), (3, false, (none, some 35, .ld .any (.t 34), [2])), (4, false, (none, some 36, .mv (.t 0), [])), (5, false, (none, some 37, .nck (.t 36), [4])), (6, false, (none, some 38, .fad 0 (.t 37), [5])), (7, false, (none, some 39, .ld .any (.t 38), [6])), (8, false, (none, some 40, .ldn [.int .u32, .int .u32] (.t 6), [])), (9, true, (none, some 41, .call 31 [.t 39, .t 40], [7, 8])), (10, true, (none, some 42, .call 30 [.t 35, .t 41], [3, 9, 9]))]
def d18_0 : List It := pk l18_0
def o18_0 : List (Nat × Bool) := po l18_0
theorem l18_0_ok : okDraw d18_0 o18_0 = true ∧ mkL d18_0 o18_0 = some l18_0 := ⟨by kernel_rfl, by kernel_rfl⟩

def l18_1 : List (Nat × Bool × It) :=
  [(0, false, (none, some 53, .mv (.t 0), [])), (1, false, (none, some 54, .nck (.t 53), [0])), (2, false, (none, some 55, .fad 1 (.t 54), [1])), (3, false, (none, some 56, .ld .any (.t 55), [2])), (4, false, (none, some 57, .ldn [.int .u32, .str] (.t 11), [])), (5, true, (none, some 58, .call 32 [.t 56, .t 57], [3, 4])), (6, false, (none, some 52, .mv (.t 58), [5])), (7, false, (none, some 59, .ext (.t 52) 0, [6])), (8, false, (none, some 60, .ext (.t 52) 1, [6])), (9, false, (none, some 12, .mv (.t 59), [7, 5, 0, 1, 2, 3, 4, 5, 6, 7])), (10, false, (none, some 13, .mv (.t 60), [8, 9, 0, 1, 2, 3, 4, 5, 6, 7, 8, 9]))]
def d18_1 : List It := pk l18_1
def o18_1 : List (Nat × Bool) := po l18_1
theorem l18_1_ok : okDraw d18_1 o18_1 = true ∧ mkL d18_1 o18_1 = some l18_1 := ⟨by kernel_rfl, by kernel_rfl⟩

def c18 : List C :=
  [.q 4 (.mv (.c .nilsl)), .q 5 (.mv (.c (.int .i64 0))), .m 17 1, .q 18 (.call 29 [.t 17]), .m 16 18, .q 19 (.ext (.t 16) 0), .q 20 (.ext (.t 16) 1), .q 21 (.ext (.t 16) 2), .q 6 (.alloc [.int .u32 0, .int .u32 0]), .op none none (.st 2 (.t 6) (.t 19)), .m 7 20, .m 8 21, .m 22 8, .q 23 (.bin .neq (.t 22) (.c (.int .i64 0))), .cond (.t 23) [.m 24 0, .q 25 (.nck (.t 24)), .q 26 (.fad 7 (.t 25)), .q 27 (.ld (.int .i64) (.t 26)), .q 28 (.bin .add (.t 27) (.c (.int .i64 1))), .q 29 (.nck (.t 24)), .q 30 (.fad 7 (.t 29)), .op none none (.st 1 (.t 30) (.t 28)), .m 31 8, .q 4 (.mv (.c .nilsl)), .m 5 31, .ret] [], .draw d18_0, .q 9 (.mv (.c .nilsl)), .m 43 7, .q 44 (.len false (.t 43)), .q 45 (.mv (.c (.int .i64 0))), .blk 0 [.loop [.q 46 (.bin .lss (.t 45) (.t 44)), .cond (.t 46) [] [.exit 0], .blk 1 [.q 47 (.iad 2 (.t 43) (.t 45)), .q 48 (.ldn [.int .u32, .str] (.t 47)), .q 11 (.alloc [.int .u32 0, .str []]), .op none none (.st 2 (.t 11) (.t 48)), .m 49 0, .q 50 (.nck (.t 49)), .q 51 (.fad 6 (.t 50)), .op none none (.st 1 (.t 51) (.c (.bool true))), .draw d18_1, .m 61 12, .q 62 (.len false (.t 61)), .q 63 (.mv (.c (.int .i64 0))), .blk 2 [.loop [.q 64 (.bin .lss (.t 63) (.t 62)), .cond (.t 64) [] [.exit 2], .blk 3 [.q 65 (.iad 1 (.t 61) (.t 63)), .q 66 (.ld .str (.t 65)), .m 15 66, .m 67 9, .m 68 0, .m 69 15, .q 70 (.call 33 [.t 68, .t 69]), .q 71 (.app 1 (.t 67) (.t 70)), .m 9 71], .q 72 (.bin .add (.t 63) (.c (.int .i64 1))), .m 63 72]]], .q 73 (.bin .add (.t 45) (.c (.int .i64 1))), .m 45 73]], .m 74 0, .q 75 (.nck (.t 74)), .q 76 (.fad 8 (.t 75)), .q 77 (.ld (.int .i64) (.t 76)), .m 78 9, .q 79 (.len false (.t 78)), .q 80 (.bin .add (.t 77) (.t 79)), .q 81 (.nck (.t 74)), .q 82 (.fad 8 (.t 81)), .op none none (.st 1 (.t 82) (.t 80)), .m 83 9, .m 4 83, .q 5 (.mv (.c (.int .i64 0))), .ret]
def r18 : List RV :=
  [.t 4, .t 5]
theorem c18_ok : cC Try.prog Try.f18.ntmps (Try.f18.body.getD .skip) = some c18 := by kernel_rfl

def l19_0 : List (Nat × Bool × It) :=
  [(0, false, (none, some 4, .fad 0 (.t 1), [])), (1, false, (none, some 5, .ld (.int .i64) (.t 4), [0])), (3, false, (none, some 7, .fad 1 (.t 1), [])), (4, false, (none, some 8, .ld (.int .i64) (.t 7), [3])), (2, true, (none, some 6, .call 34 [.t 5], [1])), (5, true, (none, some 9, .call 34 [.t 8], [4, 2])), (6, false, (none, some 10, .bin .add (.t 6) (.t 9), [2, 5])), (7, false, (none, some 3, .mv (.t 10), [6, 5, 0, 1, 2, 3, 4, 5, 6]))]
def d19_0 : List It := pk l19_0
def o19_0 : List (Nat × Bool) := po l19_0
theorem l19_0_ok : okDraw d19_0 o19_0 = true ∧ mkL d19_0 o19_0 = some l19_0 := ⟨by kernel_rfl, by kernel_rfl⟩

def l19_1 : List (Nat × Bool × It) :=
  [(0, false, (none, some 17, .mv (.t 3), [])), (1, false, (none, some 18, .bin .add (.t 17) (.c (.str [1])), [0])), (2, false, (none, some 19, .fad 2 (.t 1), [])), (3, false, (none, some 20, .ld (.int .i64) (.t 19), [2])), (6, false, (none, some 23, .fad 3 (.t 1), [])), (7, false, (none, some 24, .ld .str (.t 23), [6])), (4, true, (none, some 21, .call 34 [.t 20], [3])), (5, false, (none, some 22, .bin .add (.t 18) (.t 21), [1, 4])), (8, true, (none, some 25, .call 36 [.t 24], [7, 4])), (9, false, (none, some 26, .bin .add (.t 22) (.t 25), [5, 8])), (10, true, (none, some 27, .call 35 [.t 26], [9, 8])), (11, false, (none, some 2, .mv (.t 27), [10, 10, 0, 1, 2, 3, 4, 5, 6, 7, 8, 9, 10]))]
def d19_1 : List It := pk l19_1
def o19_1 : List (Nat × Bool) := po l19_1
theorem l19_1_ok : okDraw d19_1 o19_1 = true ∧ mkL d19_1 o19_1 = some l19_1 := ⟨by kernel_rfl, by kernel_rfl⟩

def c19 : List C :=
  [.q 1 (.box (.t 0)), .q 2 (.mv (.c (.str []))), .draw d19_0, .q 11 (.fad 2 (.t 1)), .q 12 (.ld (.int .i64) (.t 11)), .q 13 (.bin .lss (.t 12) (.c (.int .i64 0))), .cond (.t 13) [.m 14 3, .q 15 (.bin .add (.t 14) (.c (.str [0]))), .q 16 (.call 35 [.t 15]), .m 2 16, .ret] [], .draw d19_1, .ret]
def r19 : List RV :=
  [.t 2]
theorem c19_ok : cC Try.prog Try.f19.ntmps (Try.f19.body.getD .skip) = some c19 := by kernel_rfl

def c20 : List C :=
  [.q 1 (.box (.t 0)), .q 2 (.mv (.c .nilptr)), .q 3 (.mv (.c (.int .i64 0))), .q 7 (.ldn [.int .i64, .int .i64] (.t 1)), .q 8 (.call 37 [.t 7]), .m 6 8, .q 9 (.ext (.t 6) 0), .q 10 (.ext (.t 6) 1), .m 4 9, .m 5 10, .m 11 5, .q 12 (.bin .neq (.t 11) (.c (.int .i64 0))), .cond (.t 12) [.m 13 5, .q 2 (.mv (.c .nilptr)), .m 3 13, .ret] [], .q 14 (.call 38 [.c (.int .u32 0)]), .q 15 (.call 39 [.c (.int .u32 0)]), .m 16 4, .q 17 (.build [.nilptr, .nilptr, .nilptr, .str [], .int .i64 0, .nilsl, .bool false, .int .i64 0, .int .i64 0] [(0, 1, .t 14), (1, 1, .t 15), (2, 1, .t 16)]), .q 18 (.box (.t 17)), .m 2 18, .q 3 (.mv (.c (.int .i64 0))), .ret]
def r20 : List RV :=
  [.t 2, .t 3]
theorem c20_ok : cC Try.prog Try.f20.ntmps (Try.f20.body.getD .skip) = some c20 := by kernel_rfl

def c21 : List C :=
  [.q 0 (.alloc [.int .i64 0, .int .i64 0]), .q 1 (.build [.int .i64 0, .int .i64 0] [(0, 1, .c (.int .i64 3)), (1, 1, .c (.int .i64 12))]), .op none none (.st 2 (.t 0) (.t 1)), .ret]
def r21 : List RV :=
  [.cn 0 2]
theorem c21_ok : cC Try.prog Try.f21.ntmps (Try.f21.body.getD .skip) = some c21 := by kernel_rfl

def c22 : List C :=
  [.q 4 (.mv (.c .nilsl)), .q 5 (.mv (.c .nilsl)), .q 13 .mkmap, .m 6 13, .m 14 0, .q 15 (.nck (.t 14)), .q 16 (.fad 2 (.t 15)), .q 17 (.ld .any (.t 16)), .m 18 1, .q 19 (.call 40 [.t 17, .t 18]), .q 20 (.len false (.t 19)), .q 21 (.mv (.c (.int .i64 0))), .blk 0 [.loop [.q 22 (.bin .lss (.t 21) (.t 20)), .cond (.t 22) [] [.exit 0], .blk 1 [.m 23 21, .q 24 (.iad 1 (.t 19) (.t 21)), .q 25 (.ld (.int .u32) (.t 24)), .m 7 23, .m 8 25, .m 26 6, .m 27 8, .m 28 7, .q 29 (.bin .add (.t 28) (.c (.int .i64 1))), .op none none (.mput false (.t 26) (.t 27) (.t 29))], .q 30 (.bin .add (.t 21) (.c (.int .i64 1))), .m 21 30]], .m 31 0, .q 32 (.nck (.t 31)), .q 33 (.fad 0 (.t 32)), .q 34 (.ld .any (.t 33)), .q 35 (.call 41 [.t 34]), .q 36 (.len false (.t 35)), .q 37 (.mv (.c (.int .i64 0))), .blk 2 [.loop [.q 38 (.bin .lss (.t 37) (.t 36)), .cond (.t 38) [] [.exit 2], .blk 3 [.q 39 (.iad 2 (.t 35) (.t 37)), .q 40 (.ldn [.int .u32, .str] (.t 39)), .q 10 (.alloc [.int .u32 0, .str []]), .op none none (.st 2 (.t 10) (.t 40)), .m 41 6, .q 42 (.fad 0 (.t 10)), .q 43 (.ld (.int .u32) (.t 42)), .q 44 (.look false (.int .i64) (.int .i64 0) false (.t 41) (.t 43)), .q 45 (.bin .gtr (.t 44) (.c (.int .i64 0))), .cond (.t 45) [.m 46 5, .m 47 0, .q 48 (.ldn [.int .u32, .str] (.t 10)), .q 49 (.bsl 2 [.int .u32 0, .str []] 1 [(0, .t 48)]), .q 50 (.call 42 [.t 47, .t 49]), .q 51 (.bsl 1 [.str []] 1 [(0, .t 50)]), .q 52 (.app 1 (.t 46) (.t 51)), .m 5 52] []], .q 53 (.bin .add (.t 37) (.c (.int .i64 1))), .m 37 53]], .m 54 0, .m 55 1, .q 56 (.call 43 [.t 54, .t 55]), .q 57 (.len false (.t 56)), .q 58 (.mv (.c (.int .i64 0))), .blk 4 [.loop [.q 59 (.bin .lss (.t 58) (.t 57)), .cond (.t 59) [] [.exit 4], .blk 5 [.q 60 (.iad 2 (.t 56) (.t 58)), .q 61 (.ldn [.int .u32, .str] (.t 60)), .q 12 (.alloc [.int .u32 0, .str []]), .op none none (.st 2 (.t 12) (.t 61)), .m 62 5, .m 63 0, .q 64 (.ldn [.int .u32, .str] (.t 12)), .q 65 (.bsl 2 [.int .u32 0, .str []] 1 [(0, .t 64)]), .q 66 (.call 42 [.t 63, .t 65]),
  .q 67 (.bsl 1 [.str []] 1 [(0, .t 66)]), .q 68 (.app 1 (.t 62) (.t 67)), .m 5 68], .q 69 (.bin .add (.t 58) (.c (.int .i64 1))), .m 58 69]], .m 70 0, .q 71 (.nck (.t 70)), .q 72 (.fad 6 (.t 71)), .q 73 (.ld .bool (.t 72)), .m 74 73, .op (some (74, true)) (some 75) (.mv (.t 5)), .op (some (74, true)) (some 76) (.len false (.t 75)), .op (some (74, true)) (some 77) (.bin .eql (.t 76) (.c (.int .i64 0))), .q 78 (.pick (.t 74) (.t 77) (.c (.bool false))), .cond (.t 78) [.m 79 5, .m 80 0, .q 81 (.call 42 [.t 80, .c .nilsl]), .q 82 (.bsl 1 [.str []] 1 [(0, .t 81)]), .q 83 (.app 1 (.t 79) (.t 82)), .m 5 83] [], .m 84 0, .q 85 (.nck (.t 84)), .q 86 (.fad 6 (.t 85)), .op none none (.st 1 (.t 86) (.c (.bool false))), .m 87 5, .m 4 87, .ret]
def r22 : List RV :=
  [.t 4]
theorem c22_ok : cC Try.prog Try.f22.ntmps (Try.f22.body.getD .skip) = some c22 := by kernel_rfl

def c23 : List C :=
  [.q 2 (.mv (.c (.int .i64 0))), .m 3 0, .q 4 (.nck (.t 3)), .q 5 (.fad 1 (.t 4)), .q 6 (.ld .any (.t 5)), .q 7 (.len false (.t 6)), .m 2 7, .ret]
def r23 : List RV :=
  [.t 2]
theorem c23_ok : cC Try.prog Try.f23.ntmps (Try.f23.body.getD .skip) = some c23 := by kernel_rfl

def c24 : List C :=
  [.q 2 (.mv (.c .nilsl)), .q 3 (.mv (.c (.int .i64 0))), .m 5 0, .q 6 (.len true (.t 5)), .q 7 (.bin .gtr (.t 6) (.c (.int .i64 65536))), .cond (.t 7) [.q 2 (.mv (.c .nilsl)), .q 3 (.mv (.c (.int .i64 3))), .ret] [], .q 4 (.mv (.c .nilsl)), .blk 0 [.loop [.m 8 0, .q 9 (.len true (.t 8)), .q 10 (.bin .gtr (.t 9) (.c (.int .i64 200))), .cond (.t 10) [] [.exit 0], .blk 1 [.m 11 4, .m 12 0, .q 13 (.ssl (.t 12) none (some (.c (.int .i64 200)))), .q 14 (.build [.bool false, .str []] [(1, 1, .t 13)]), .q 15 (.bsl 2 [.bool false, .str []] 1 [(0, .t 14)]), .q 16 (.app 2 (.t 11) (.t 15)), .m 4 16, .m 17 0, .q 18 (.ssl (.t 17) (some (.c (.int .i64 200))) none), .m 0 18]]], .m 19 4, .m 20 0, .q 21 (.build [.bool false, .str []] [(0, 1, .c (.bool true)), (1, 1, .t 20)]), .q 22 (.bsl 2 [.bool false, .str []] 1 [(0, .t 21)]), .q 23 (.app 2 (.t 19) (.t 22)), .m 2 23, .q 3 (.mv (.c (.int .i64 0))), .ret]
def r24 : List RV :=
  [.t 2, .t 3]
theorem c24_ok : cC Try.prog Try.f24.ntmps (Try.f24.body.getD .skip) = some c24 := by kernel_rfl

def c25 : List C :=
  [.q 2 (.mv (.c (.str []))), .q 3 (.mv (.c (.int .i64 0))), .m 4 0, .q 5 (.len true (.t 4)), .q 6 (.bin .lss (.t 5) (.c (.int .i64 5))), .cond (.t 6) [.q 2 (.mv (.c (.str []))), .q 3 (.mv (.c (.int .i64 1))), .ret] [], .m 7 0, .q 8 (.ist (.t 7) (.c (.int .i64 0))), .q 9 (.bin .neq (.t 8) (.c (.int .u8 7))), .cond (.t 9) [.q 2 (.mv (.c (.str []))), .q 3 (.mv (.c (.int .i64 6))), .ret] [], .m 10 0, .q 11 (.ssl (.t 10) (some (.c (.int .i64 5))) none), .q 12 (.call 35 [.t 11]), .m 13 0, .q 14 (.bin .neq (.t 12) (.t 13)), .cond (.t 14) [.q 2 (.mv (.c (.str []))), .q 3 (.mv (.c (.int .i64 5))), .ret] [], .m 15 0, .q 16 (.ssl (.t 15) (some (.c (.int .i64 5))) none), .m 2 16, .q 3 (.mv (.c (.int .i64 0))), .ret]
def r25 : List RV :=
  [.t 2, .t 3]
theorem c25_ok : cC Try.prog Try.f25.ntmps (Try.f25.body.getD .skip) = some c25 := by kernel_rfl

def c26 : List C :=
  [.q 2 (.box (.t 0)), .q 4 (.alloc [.str [], .int .i64 0]), .q 5 (.mv (.c (.int .i64 0))), .q 8 (.ldn [.str, .int .i64] (.t 2)), .q 9 (.call 44 [.t 8]), .m 7 9, .q 10 (.ext (.t 7) 0), .q 11 (.ext (.t 7) 1), .op none none (.st 2 (.t 2) (.t 10)), .m 6 11, .m 12 6, .m 13 1, .q 14 (.mx [.t 13, .c (.int .i64 0)]), .q 15 (.cvi .u64 (.t 14)), .q 16 (.bin .gtr (.t 12) (.t 15)), .cond (.t 16) [.q 17 (.ldn [.str, .int .i64] (.t 2)), .q 18 (.call 45 [.t 17, .c (.int .i64 3)]), .op none none (.st 2 (.t 4) (.t 18)), .q 5 (.mv (.c (.int .i64 0))), .ret] [], .q 19 (.ldn [.str, .int .i64] (.t 2)), .m 20 6, .q 21 (.cvi .i64 (.t 20)), .op none none (.st 2 (.t 4) (.t 19)), .m 5 21, .ret]
def r26 : List RV :=
  [.cn 4 2, .t 5]
theorem c26_ok : cC Try.prog Try.f26.ntmps (Try.f26.body.getD .skip) = some c26 := by kernel_rfl

def c27 : List C :=
  [.q 2 (.box (.t 0)), .q 4 (.alloc [.str [], .int .i64 0]), .q 5 (.mv (.c (.str []))), .q 8 (.ldn [.str, .int .i64] (.t 2)), .m 9 1, .q 10 (.call 26 [.t 8, .t 9]), .m 7 10, .q 11 (.ext (.t 7) 0), .q 12 (.ext (.t 7) 1), .op none none (.st 2 (.t 2) (.t 11)), .m 6 12, .q 13 (.ldn [.str, .int .i64] (.t 2)), .m 14 6, .q 15 (.call 46 [.t 13, .t 14]), .q 16 (.ext (.t 15) 0), .q 17 (.ext (.t 15) 1), .op none none (.st 2 (.t 4) (.t 16)), .m 5 17, .ret]
def r27 : List RV :=
  [.cn 4 2, .t 5]
theorem c27_ok : cC Try.prog Try.f27.ntmps (Try.f27.body.getD .skip) = some c27 := by kernel_rfl

def c28 : List C :=
  [.q 1 (.box (.t 0)), .q 2 (.mv (.c (.int .i64 0))), .q 3 (.fad 1 (.t 1)), .q 4 (.ld (.int .i64) (.t 3)), .q 5 (.bin .eql (.t 4) (.c (.int .i64 0))), .m 6 5, .op (some (6, true)) (some 7) (.fad 0 (.t 1)), .op (some (6, true)) (some 8) (.ld .str (.t 7)), .op (some (6, true)) (some 9) (.bin .neq (.t 8) (.c (.str []))), .q 10 (.pick (.t 6) (.t 9) (.c (.bool false))), .cond (.t 10) [.q 2 (.mv (.c (.int .i64 2))), .ret] [], .q 11 (.fad 1 (.t 1)), .q 12 (.ld (.int .i64) (.t 11)), .m 2 12, .ret]
def r28 : List RV :=
  [.t 2]
theorem c28_ok : cC Try.prog Try.f28.ntmps (Try.f28.body.getD .skip) = some c28 := by kernel_rfl

def l29_0 : List (Nat × Bool × It) :=
  [(0, false, (none, some 49, .ldn [.int .u32, .int .u32] (.t 8), [])), (1, false, (none, some 50, .mv (.t 9), [])), (2, false, (none, some 51, .mv (.t 7), [])), (3, true, (none, some 52, .call 52 [.t 51], [2])), (4, true, (none, none, .st 2 (.t 2) (.t 49), [0, 3, 0])), (5, false, (none, some 3, .mv (.t 50), [1, 4, 0, 1, 4])), (6, false, (none, some 4, .mv (.t 52), [3, 5, 0, 1, 2, 3, 4, 5]))]
def d29_0 : List It := pk l29_0
def o29_0 : List (Nat × Bool) := po l29_0
theorem l29_0_ok : okDraw d29_0 o29_0 = true ∧ mkL d29_0 o29_0 = some l29_0 := ⟨by kernel_rfl, by kernel_rfl⟩

def c29 : List C :=
  [.q 2 (.alloc [.int .u32 0, .int .u32 0]), .q 3 (.mv (.c .nilsl)), .q 4 (.mv (.c (.int .i64 0))), .m 12 0, .q 13 (.call 47 [.t 12]), .m 11 13, .q 14 (.ext (.t 11) 0), .q 15 (.ext (.t 11) 1), .m 5 14, .m 6 15, .m 16 6, .q 17 (.bin .neq (.t 16) (.c (.int .i64 0))), .cond (.t 17) [.q 18 (.build [.int .u32 0, .int .u32 0] []), .m 19 6, .op none none (.st 2 (.t 2) (.t 18)), .q 3 (.mv (.c .nilsl)), .m 4 19, .ret] [], .m 20 5, .q 21 (.call 48 [.t 20]), .m 7 21, .m 22 7, .q 23 (.call 49 [.t 22, .c (.int .i64 4294967295)]), .q 24 (.cvi .u32 (.t 23)), .m 25 7, .q 26 (.call 49 [.t 25, .c (.int .i64 4294967295)]), .q 27 (.cvi .u32 (.t 26)), .q 28 (.build [.int .u32 0, .int .u32 0] [(0, 1, .t 24), (1, 1, .t 27)]), .q 8 (.alloc [.int .u32 0, .int .u32 0]), .op none none (.st 2 (.t 8) (.t 28)), .q 9 (.mv (.c .nilsl)), .m 29 7, .q 30 (.call 49 [.t 29, .c (.int .i64 1)]), .m 10 30, .blk 0 [.loop [.m 31 10, .q 32 (.bin .gtr (.t 31) (.c (.int .i64 0))), .m 33 32, .op (some (33, true)) (some 34) (.mv (.t 7)), .op (some (33, true)) (some 35) (.call 50 [.t 34]), .op (some (33, true)) (some 36) (.bin .eql (.t 35) (.c (.int .i64 0))), .q 37 (.pick (.t 33) (.t 36) (.c (.bool false))), .cond (.t 37) [] [.exit 0], .blk 1 [.m 40 9, .m 41 7, .q 42 (.call 49 [.t 41, .c (.int .i64 4294967295)]), .q 43 (.cvi .u32 (.t 42)), .m 44 7, .q 45 (.call 51 [.t 44, .c (.int .i64 201)]), .q 46 (.build [.int .u32 0, .str []] [(0, 1, .t 43), (1, 1, .t 45)]), .q 47 (.bsl 2 [.int .u32 0, .str []] 1 [(0, .t 46)]), .q 48 (.app 2 (.t 40) (.t 47)), .m 9 48], .m 38 10, .q 39 (.bin .sub (.t 38) (.c (.int .i64 1))), .m 10 39]], .draw d29_0, .ret]
def r29 : List RV :=
  [.cn 2 2, .t 3, .t 4]
theorem c29_ok : cC Try.prog Try.f29.ntmps (Try.f29.body.getD .skip) = some c29 := by kernel_rfl

def c30 : List C :=
  [.q 3 (.box (.t 1)), .q 4 (.mv (.c (.int .i64 0))), .m 6 0, .q 7 (.nck (.t 6)), .q 8 (.fad 2 (.t 7)), .q 9 (.ld .any (.t 8)), .q 10 (.len false (.t 9)), .m 5 10, .m 11 0, .m 12 0, .q 13 (.nck (.t 12)), .q 14 (.fad 2 (.t 13)), .q 15 (.ld .any (.t 14)), .q 16 (.call 54 [.t 15]), .q 17 (.mkfn 55 [] [.t 3]), .q 18 (.call 53 [.t 16, .t 17]), .q 19 (.nck (.t 11)), .q 20 (.fad 2 (.t 19)), .op none none (.st 1 (.t 20) (.t 18)), .m 21 5, .m 22 0, .q 23 (.nck (.t 22)), .q 24 (.fad 2 (.t 23)), .q 25 (.ld .any (.t 24)), .q 26 (.len false (.t 25)), .q 27 (.bin .sub (.t 21) (.t 26)), .m 4 27, .ret]
def r30 : List RV :=
  [.t 4]
theorem c30_ok : cC Try.prog Try.f30.ntmps (Try.f30.body.getD .skip) = some c30 := by kernel_rfl

def l31_0 : List (Nat × Bool × It) :=
  [(0, false, (none, some 7, .mv (.t 0), [])), (1, false, (none, some 8, .nck (.t 7), [0])), (2, false, (none, some 9, .fad 0 (.t 8), [1])), (3, false, (none, some 10, .ld (.int .u32) (.t 9), [2])), (4, false, (none, some 11, .fad 0 (.t 3), [])), (5, false, (none, some 12, .ld (.int .u32) (.t 11), [4])), (6, false, (none, some 13, .bin .sub (.t 10) (.t 12), [3, 5])), (7, false, (none, some 5, .mv (.t 13), [6, 0, 1, 2, 3, 4, 5, 6]))]
def d31_0 : List It := pk l31_0
def o31_0 : List (Nat × Bool) := po l31_0
theorem l31_0_ok : okDraw d31_0 o31_0 = true ∧ mkL d31_0 o31_0 = some l31_0 := ⟨by kernel_rfl, by kernel_rfl⟩

def c31 : List C :=
  [.q 3 (.box (.t 1)), .q 4 (.mv (.c .nilsl)), .draw d31_0, .m 14 5, .q 15 (.bin .geq (.t 14) (.c (.int .u32 2147483648))), .cond (.t 15) [.q 4 (.mv (.c .nilsl)), .ret] [], .q 6 (.alloc [.nilsl]), .m 16 0, .m 17 0, .q 18 (.nck (.t 17)), .q 19 (.fad 1 (.t 18)), .q 20 (.ld .any (.t 19)), .q 21 (.call 58 [.t 20]), .q 22 (.mkfn 59 [] [.t 3, .t 6]), .q 23 (.call 57 [.t 21, .t 22]), .q 24 (.nck (.t 16)), .q 25 (.fad 1 (.t 24)), .op none none (.st 1 (.t 25) (.t 23)), .q 26 (.ld .any (.t 6)), .m 4 26, .ret]
def r31 : List RV :=
  [.t 4]
theorem c31_ok : cC Try.prog Try.f31.ntmps (Try.f31.body.getD .skip) = some c31 := by kernel_rfl

def l32_0 : List (Nat × Bool × It) :=
  [(0, false, (none, some 12, .fad 0 (.t 3), [])), (1, false, (none, some 13, .ld (.int .u32) (.t 12), [0])), (2, false, (none, some 14, .mv (.t 0), [])), (3, false, (none, some 15, .nck (.t 14), [2])), (4, false, (none, some 16, .fad 0 (.t 15), [3])), (5, false, (none, some 17, .ld (.int .u32) (.t 16), [4])), (6, false, (none, some 18, .bin .sub (.t 13) (.t 17), [1, 5])), (7, false, (none, some 6, .mv (.t 18), [6, 0, 1, 2, 3, 4, 5, 6]))]
def d32_0 : List It := pk l32_0
def o32_0 : List (Nat × Bool) := po l32_0
theorem l32_0_ok : okDraw d32_0 o32_0 = true ∧ mkL d32_0 o32_0 = some l32_0 := ⟨by kernel_rfl, by kernel_rfl⟩

def l32_1 : List (Nat × Bool × It) :=
  [(0, false, (none, some 26, .mv (.t 0), [])), (1, false, (none, some 27, .nck (.t 26), [0])), (2, false, (none, some 28, .fad 1 (.t 27), [1])), (3, false, (none, some 29, .ld .any (.t 28), [2])), (4, false, (none, some 30, .fad 0 (.t 3), [])), (5, false, (none, some 31, .ld (.int .u32) (.t 30), [4])), (6, false, (none, some 32, .look false .str (.str []) true (.t 29) (.t 31), [3, 5])), (7, false, (none, some 25, .mv (.t 32), [6])), (8, false, (none, some 33, .ext (.t 25) 0, [7])), (9, false, (none, some 34, .ext (.t 25) 1, [7])), (10, false, (none, some 7, .mv (.t 33), [8, 0, 1, 2, 3, 4, 5, 6, 7, 8])), (11, false, (none, some 8, .mv (.t 34), [9, 10, 0, 1, 2, 3, 4, 5, 6, 7, 8, 9, 10]))]
def d32_1 : List It := pk l32_1
def o32_1 : List (Nat × Bool) := po l32_1
theorem l32_1_ok : okDraw d32_1 o32_1 = true ∧ mkL d32_1 o32_1 = some l32_1 := ⟨by kernel_rfl, by kernel_rfl⟩

def l32_2 : List (Nat × Bool × It) :=
  [(0, false, (none, some 36, .mv (.t 0), [])), (1, false, (none, some 37, .nck (.t 36), [0])), (2, false, (none, some 38, .fad 1 (.t 37), [1])), (3, false, (none, some 39, .ld .any (.t 38), [2])), (4, false, (none, some 40, .fad 0 (.t 3), [])), (5, false, (none, some 41, .ld (.int .u32) (.t 40), [4])), (6, false, (none, some 42, .fad 1 (.t 3), [])), (7, false, (none, some 43, .ld .str (.t 42), [6])), (8, true, (none, none, .mput false (.t 39) (.t 41) (.t 43), [3, 5, 7, 0, 1, 2, 3, 4, 5, 6, 7]))]
def d32_2 : List It := pk l32_2
def o32_2 : List (Nat × Bool) := po l32_2
theorem l32_2_ok : okDraw d32_2 o32_2 = true ∧ mkL d32_2 o32_2 = some l32_2 := ⟨by kernel_rfl, by kernel_rfl⟩

def l32_3 : List (Nat × Bool × It) :=
  [(0, false, (none, some 45, .mv (.t 0), [])), (1, false, (none, some 46, .nck (.t 45), [0])), (2, false, (none, some 47, .fad 1 (.t 46), [1])), (3, false, (none, some 48, .ld .any (.t 47), [2])), (4, false, (none, some 49, .mv (.t 0), [])), (5, false, (none, some 50, .nck (.t 49), [4])), (6, false, (none, some 51, .fad 0 (.t 50), [5])), (7, false, (none, some 52, .ld (.int .u32) (.t 51), [6])), (8, false, (none, some 53, .look false .str (.str []) true (.t 48) (.t 52), [3, 7])), (9, false, (none, some 44, .mv (.t 53), [8])), (10, false, (none, some 54, .ext (.t 44) 0, [9])), (11, false, (none, some 55, .ext (.t 44) 1, [9])), (12, false, (none, some 10, .mv (.t 54), [10, 0, 1, 2, 3, 4, 5, 6, 7, 8, 9, 10])), (13, false, (none, some 11, .mv (.t 55), [11, 12, 0, 1, 2, 3, 4, 5, 6, 7, 8, 9, 10, 11, 12]))]
def d32_3 : List It := pk l32_3
def o32_3 : List (Nat × Bool) := po l32_3
theorem l32_3_ok : okDraw d32_3 o32_3 = true ∧ mkL d32_3 o32_3 = some l32_3 := ⟨by kernel_rfl, by kernel_rfl⟩

def l32_4 : List (Nat × Bool × It) :=
  [(0, false, (none, some 59, .mv (.t 0), [])), (1, false, (none, some 60, .nck (.t 59), [0])), (2, false, (none, some 61, .fad 1 (.t 60), [1])), (3, false, (none, some 62, .ld .any (.t 61), [2])), (4, false, (none, some 63, .mv (.t 0), [])), (5, false, (none, some 64, .nck (.t 63), [4])), (6, false, (none, some 65, .fad 0 (.t 64), [5])), (7, false, (none, some 66, .ld (.int .u32) (.t 65), [6])), (8, true, (none, none, .mdel false (.t 62) (.t 66), [3, 7]))]
def d32_4 : List It := pk l32_4
def o32_4 : List (Nat × Bool) := po l32_4
theorem l32_4_ok : okDraw d32_4 o32_4 = true ∧ mkL d32_4 o32_4 = some l32_4 := ⟨by kernel_rfl, by kernel_rfl⟩

def c32 : List C :=
  [.q 3 (.box (.t 1)), .q 4 (.mv (.c .nilsl)), .q 5 (.mv (.c (.int .i64 0))), .draw d32_0, .blk 0 [.m 20 6, .q 21 (.bin .geq (.t 20) (.c (.int .u32 2147483648))), .m 19 21, .cond (.t 19) [.q 4 (.mv (.c .nilsl)), .q 5 (.mv (.c (.int .i64 11))), .ret] [.m 23 6, .q 24 (.bin .gtr (.t 23) (.c (.int .u32 32))), .m 22 24, .cond (.t 22) [.q 4 (.mv (.c .nilsl)), .q 5 (.mv (.c (.int .i64 8))), .ret] []]], .draw d32_1, .m 35 8, .cond (.t 35) [.q 4 (.mv (.c .nilsl)), .q 5 (.mv (.c (.int .i64 10))), .ret] [], .draw d32_2, .q 9 (.mv (.c .nilsl)), .blk 1 [.loop [.blk 2 [.draw d32_3, .m 56 11, .q 57 (.un .not (.t 56)), .cond (.t 57) [.m 58 9, .m 4 58, .q 5 (.mv (.c (.int .i64 0))), .ret] [], .draw d32_4, .m 67 9, .m 68 10, .q 69 (.bsl 1 [.str []] 1 [(0, .t 68)]), .q 70 (.app 1 (.t 67) (.t 69)), .m 9 70, .m 71 0, .q 72 (.nck (.t 71)), .q 73 (.fad 0 (.t 72)), .q 74 (.ld (.int .u32) (.t 73)), .q 75 (.bin .add (.t 74) (.c (.int .u32 1))), .q 76 (.nck (.t 71)), .q 77 (.fad 0 (.t 76)), .op none none (.st 1 (.t 77) (.t 75))]]]]
def r32 : List RV :=
  [.t 4, .t 5]
theorem c32_ok : cC Try.prog Try.f32.ntmps (Try.f32.body.getD .skip) = some c32 := by kernel_rfl

def l33_0 : List (Nat × Bool × It) :=
  [(0, false, (none, some 23, .mv (.t 0), [])), (1, false, (none, some 24, .nck (.t 23), [0])), (2, false, (none, some 25, .fad 3 (.t 24), [1])), (3, false, (none, some 26, .ldn [.bool, .str] (.t 5), [])), (4, false, (none, some 27, .bsl 2 [.bool false, .str []] 1 [(0, .t 26)], [3])), (5, true, (none, some 28, .call 62 [.t 25, .t 27], [2, 4])), (6, false, (none, some 22, .mv (.t 28), [5])), (7, false, (none, some 29, .ext (.t 22) 0, [6])), (8, false, (none, some 30, .ext (.t 22) 1, [6])), (9, false, (none, some 7, .mv (.t 29), [7, 5, 0, 1, 2, 3, 4, 5, 6, 7])), (10, false, (none, some 6, .mv (.t 30), [8, 9, 0, 1, 2, 3, 4, 5, 6, 7, 8, 9]))]
def d33_0 : List It := pk l33_0
def o33_0 : List (Nat × Bool) := po l33_0
theorem l33_0_ok : okDraw d33_0 o33_0 = true ∧ mkL d33_0 o33_0 = some l33_0 := ⟨by kernel_rfl, by kernel_rfl⟩

def c33 : List C :=
  [.q 4 (.mv (.c .nilsl)), .m 9 1, .q 10 (.call 61 [.t 9]), .m 8 10, .q 11 (.ext (.t 8) 0), .q 12 (.ext (.t 8) 1), .q 5 (.alloc [.bool false, .str []]), .op none none (.st 2 (.t 5) (.t 11)), .m 6 12, .m 13 6, .q 14 (.bin .neq (.t 13) (.c (.int .i64 0))), .cond (.t 14) [.m 15 0, .q 16 (.nck (.t 15)), .q 17 (.fad 7 (.t 16)), .q 18 (.ld (.int .i64) (.t 17)), .q 19 (.bin .add (.t 18) (.c (.int .i64 1))), .q 20 (.nck (.t 15)), .q 21 (.fad 7 (.t 20)), .op none none (.st 1 (.t 21) (.t 19)), .q 4 (.mv (.c .nilsl)), .ret] [], .draw d33_0, .m 31 6, .q 32 (.bin .neq (.t 31) (.c (.int .i64 0))), .cond (.t 32) [.m 33 0, .q 34 (.nck (.t 33)), .q 35 (.fad 7 (.t 34)), .q 36 (.ld (.int .i64) (.t 35)), .q 37 (.bin .add (.t 36) (.c (.int .i64 1))), .q 38 (.nck (.t 33)), .q 39 (.fad 7 (.t 38)), .op none none (.st 1 (.t 39) (.t 37))] [], .m 40 7, .m 4 40, .ret]
def r33 : List RV :=
  [.t 4]
theorem c33_ok : cC Try.prog Try.f33.ntmps (Try.f33.body.getD .skip) = some c33 := by kernel_rfl

def c34 : List C :=
  [.q 2 (.mv (.c (.str []))), .m 3 0, .q 4 (.mx [.t 3, .c (.int .i64 0)]), .q 5 (.cvi .u64 (.t 4)), .q 6 (.call 63 [.t 5]), .m 2 6, .ret]
def r34 : List RV :=
  [.t 2]
theorem c34_ok : cC Try.prog Try.f34.ntmps (Try.f34.body.getD .skip) = some c34 := by kernel_rfl

def c35 : List C :=
  [.q 2 (.mv (.c (.str []))), .m 4 0, .q 5 (.bin .add (.c (.str [7])) (.t 4)), .q 6 (.call 64 [.t 5]), .m 3 6, .m 7 3, .q 8 (.bin .rem (.t 7) (.c (.int .u32 256))), .q 9 (.cvi .u8 (.t 8)), .m 10 3, .q 11 (.bin .quo (.t 10) (.c (.int .u32 256))), .q 12 (.bin .rem (.t 11) (.c (.int .u32 256))), .q 13 (.cvi .u8 (.t 12)), .m 14 3, .q 15 (.bin .quo (.t 14) (.c (.int .u32 65536))), .q 16 (.bin .rem (.t 15) (.c (.int .u32 256))), .q 17 (.cvi .u8 (.t 16)), .m 18 3, .q 19 (.bin .quo (.t 18) (.c (.int .u32 16777216))), .q 20 (.cvi .u8 (.t 19)), .q 21 (.bsl 1 [.int .u8 0] 4 [(0, .t 9), (1, .t 13), (2, .t 17), (3, .t 20)]), .q 22 (.cvb (.t 21)), .q 23 (.bin .add (.c (.str [7])) (.t 22)), .m 24 0, .q 25 (.bin .add (.t 23) (.t 24)), .m 2 25, .ret]
def r35 : List RV :=
  [.t 2]
theorem c35_ok : cC Try.prog Try.f35.ntmps (Try.f35.body.getD .skip) = some c35 := by kernel_rfl

def c36 : List C :=
  [.q 2 (.mv (.c (.str []))), .m 3 0, .q 4 (.len true (.t 3)), .q 5 (.cvi .u64 (.t 4)), .q 6 (.call 63 [.t 5]), .m 7 0, .q 8 (.bin .add (.t 6) (.t 7)), .m 2 8, .ret]
def r36 : List RV :=
  [.t 2]
theorem c36_ok : cC Try.prog Try.f36.ntmps (Try.f36.body.getD .skip) = some c36 := by kernel_rfl

def c37 : List C :=
  [.q 1 (.box (.t 0)), .q 2 (.mv (.c .nilptr)), .q 3 (.mv (.c (.int .i64 0))), .q 5 (.ldn [.int .i64, .int .i64] (.t 1)), .q 6 (.call 65 [.t 5]), .m 4 6, .m 7 4, .q 8 (.bin .neq (.t 7) (.c (.int .i64 0))), .cond (.t 8) [.m 9 4, .q 2 (.mv (.c .nilptr)), .m 3 9, .ret] [], .q 10 (.ldn [.int .i64, .int .i64] (.t 1)), .q 11 (.build [.int .i64 0, .int .i64 0, .nilsl] [(0, 2, .t 10)]), .q 12 (.box (.t 11)), .m 2 12, .q 3 (.mv (.c (.int .i64 0))), .ret]
def r37 : List RV :=
  [.t 2, .t 3]
theorem c37_ok : cC Try.prog Try.f37.ntmps (Try.f37.body.getD .skip) = some c37 := by kernel_rfl

def c38 : List C :=
  [.q 2 (.mv (.c .nilptr)), .m 3 0, .q 4 (.build [.int .u32 0, .nilsl] [(0, 1, .t 3)]), .q 5 (.box (.t 4)), .m 2 5, .ret]
def r38 : List RV :=
  [.t 2]
theorem c38_ok : cC Try.prog Try.f38.ntmps (Try.f38.body.getD .skip) = some c38 := by kernel_rfl

def c39 : List C :=
  [.q 2 (.mv (.c .nilptr)), .m 3 0, .q 4 .mkmap, .q 5 (.build [.int .u32 0, .nilmap] [(0, 1, .t 3), (1, 1, .t 4)]), .q 6 (.box (.t 5)), .m 2 6, .ret]
def r39 : List RV :=
  [.t 2]
theorem c39_ok : cC Try.prog Try.f39.ntmps (Try.f39.body.getD .skip) = some c39 := by kernel_rfl

def l40_0 : List (Nat × Bool × It) :=
  [(0, false, (none, some 29, .fad 2 (.t 7), [])), (1, false, (none, some 30, .ld (.int .i64) (.t 29), [0])), (2, false, (none, some 31, .bin .mul (.c (.int .i64 2)) (.t 30), [1])), (3, false, (none, some 32, .mv (.t 0), [])), (4, false, (none, some 33, .nck (.t 32), [3])), (5, false, (none, some 34, .fad 0 (.t 33), [4])), (6, false, (none, some 35, .fad 1 (.t 34), [5])), (7, false, (none, some 36, .ld (.int .i64) (.t 35), [6])), (8, false, (none, some 37, .mn [.t 31, .t 36], [2, 7])), (9, false, (none, some 38, .fad 2 (.t 7), [0, 1, 2, 3, 4, 5, 6, 7, 8])), (10, true, (none, none, .st 1 (.t 38) (.t 37), [9, 8, 0, 1, 2, 3, 4, 5, 6, 7, 8]))]
def d40_0 : List It := pk l40_0
def o40_0 : List (Nat × Bool) := po l40_0
theorem l40_0_ok : okDraw d40_0 o40_0 = true ∧ mkL d40_0 o40_0 = some l40_0 := ⟨by kernel_rfl, by kernel_rfl⟩

def l40_1 : List (Nat × Bool × It) :=
  [(0, false, (none, some 48, .mv (.t 0), [])), (1, false, (none, some 49, .nck (.t 48), [0])), (2, false, (none, some 50, .fad 2 (.t 49), [1])), (3, false, (none, some 51, .ld .any (.t 50), [2])), (4, false, (none, some 52, .mv (.t 6), [])), (5, false, (none, some 53, .ldn [.int .u32, .int .i64, .int .i64, .int .i64] (.t 7), [])), (6, false, (none, some 54, .iad 4 (.t 51) (.t 52), [3, 4, 0, 1, 2, 3, 4, 5])), (7, true, (none, none, .st 4 (.t 54) (.t 53), [6, 5, 0, 1, 2, 3, 4, 5]))]
def d40_1 : List It := pk l40_1
def o40_1 : List (Nat × Bool) := po l40_1
theorem l40_1_ok : okDraw d40_1 o40_1 = true ∧ mkL d40_1 o40_1 = some l40_1 := ⟨by kernel_rfl, by kernel_rfl⟩

def c40 : List C :=
  [.q 4 (.mv (.c .nilsl)), .q 5 (.mv (.c .nilsl)), .m 11 0, .q 12 (.nck (.t 11)), .q 13 (.fad 2 (.t 12)), .q 14 (.ld .any (.t 13)), .q 15 (.len false (.t 14)), .q 16 (.mv (.c (.int .i64 0))), .blk 0 [.loop [.q 17 (.bin .lss (.t 16) (.t 15)), .cond (.t 17) [] [.exit 0], .blk 1 [.m 18 16, .q 19 (.iad 4 (.t 14) (.t 16)), .q 20 (.ldn [.int .u32, .int .i64, .int .i64, .int .i64] (.t 19)), .q 7 (.alloc [.int .u32 0, .int .i64 0, .int .i64 0, .int .i64 0]), .m 6 18, .op none none (.st 4 (.t 7) (.t 20)), .q 21 (.fad 1 (.t 7)), .q 22 (.ld (.int .i64) (.t 21)), .m 23 1, .q 24 (.bin .gtr (.t 22) (.t 23)), .cond (.t 24) [.exit 1] [], .m 25 5, .q 26 (.ldn [.int .u32, .int .i64, .int .i64, .int .i64] (.t 7)), .q 27 (.bsl 4 [.int .u32 0, .int .i64 0, .int .i64 0, .int .i64 0] 1 [(0, .t 26)]), .q 28 (.app 4 (.t 25) (.t 27)), .m 5 28, .draw d40_0, .m 39 1, .q 40 (.fad 2 (.t 7)), .q 41 (.ld (.int .i64) (.t 40)), .q 42 (.bin .add (.t 39) (.t 41)), .q 43 (.fad 1 (.t 7)), .op none none (.st 1 (.t 43) (.t 42)), .q 44 (.fad 3 (.t 7)), .q 45 (.ld (.int .i64) (.t 44)), .q 46 (.bin .add (.t 45) (.c (.int .i64 1))), .q 47 (.fad 3 (.t 7)), .op none none (.st 1 (.t 47) (.t 46)), .draw d40_1], .q 55 (.bin .add (.t 16) (.c (.int .i64 1))), .m 16 55]], .m 56 5, .q 57 (.call 66 [.t 56, .c (.fn 67 [] [])]), .q 8 (.mv (.c .nilsl)), .m 58 5, .q 59 (.len false (.t 58)), .q 60 (.mv (.c (.int .i64 0))), .blk 2 [.loop [.q 61 (.bin .lss (.t 60) (.t 59)), .cond (.t 61) [] [.exit 2], .blk 3 [.q 62 (.iad 4 (.t 58) (.t 60)), .q 63 (.ldn [.int .u32, .int .i64, .int .i64, .int .i64] (.t 62)), .q 10 (.alloc [.int .u32 0, .int .i64 0, .int .i64 0, .int .i64 0]), .op none none (.st 4 (.t 10) (.t 63)), .m 64 8, .q 65 (.fad 0 (.t 10)), .q 66 (.ld (.int .u32) (.t 65)), .q 67 (.bsl 1 [.int .u32 0] 1 [(0, .t 66)]), .q 68 (.app 1 (.t 64) (.t 67)), .m 8 68], .q 69 (.bin .add (.t 60) (.c (.int .i64 1))), .m 60 69]], .m 70 8, .m 4 70, .ret]
def r40 : List RV :=
  [.t 4]
theorem c40_ok : cC Try.prog Try.f40.ntmps (Try.f40.body.getD .skip) = some c40 := by kernel_rfl

def c41 : List C :=
  [.q 2 (.mv (.c .nilsl)), .m 3 0, .q 4 (.nck (.t 3)), .q 5 (.fad 1 (.t 4)), .q 6 (.ld .any (.t 5)), .q 7 (.call 58 [.t 6]), .m 2 7, .ret]
def r41 : List RV :=
  [.t 2]
theorem c41_ok : cC Try.prog Try.f41.ntmps (Try.f41.body.getD .skip) = some c41 := by kernel_rfl

def l42_0 : List (Nat × Bool × It) :=
  [(0, false, (none, some 32, .fad 0 (.t 8), [])), (1, false, (none, some 33, .ld (.int .u32) (.t 32), [0])), (2, false, (none, some 34, .cvi .u64 (.t 33), [1])), (3, false, (none, some 35, .bsl 1 [.int .u64 0] 1 [(0, .t 34)], [2])), (5, false, (none, some 37, .fad 1 (.t 8), [])), (6, false, (none, some 38, .ld .str (.t 37), [5])), (7, false, (none, some 39, .bsl 1 [.str []] 1 [(0, .t 38)], [6])), (4, true, (none, some 36, .call 70 [.t 5, .t 35], [3])), (8, true, (none, some 40, .call 72 [.t 36, .t 39], [4, 7, 4]))]
def d42_0 : List It := pk l42_0
def o42_0 : List (Nat × Bool) := po l42_0
theorem l42_0_ok : okDraw d42_0 o42_0 = true ∧ mkL d42_0 o42_0 = some l42_0 := ⟨by kernel_rfl, by kernel_rfl⟩

def c42 : List C :=
  [.q 4 (.mv (.c (.str []))), .q 5 (.alloc [.nilsl]), .m 9 0, .q 10 (.nck (.t 9)), .q 11 (.fad 1 (.t 10)), .q 12 (.ld .any (.t 11)), .q 13 (.call 69 [.t 12]), .q 6 (.alloc [.int .u32 0, .int .u32 0]), .op none none (.st 2 (.t 6) (.t 13)), .q 14 (.fad 0 (.t 6)), .q 15 (.ld (.int .u32) (.t 14)), .q 16 (.cvi .u64 (.t 15)), .q 17 (.fad 1 (.t 6)), .q 18 (.ld (.int .u32) (.t 17)), .q 19 (.cvi .u64 (.t 18)), .q 20 (.bsl 1 [.int .u64 0] 2 [(0, .t 16), (1, .t 19)]), .q 21 (.call 70 [.t 5, .t 20]), .m 22 1, .q 23 (.len false (.t 22)), .q 24 (.bsl 1 [.int .i64 0] 1 [(0, .t 23)]), .q 25 (.call 71 [.t 21, .t 24]), .m 26 1, .q 27 (.len false (.t 26)), .q 28 (.mv (.c (.int .i64 0))), .blk 0 [.loop [.q 29 (.bin .lss (.t 28) (.t 27)), .cond (.t 29) [] [.exit 0], .blk 1 [.q 30 (.iad 2 (.t 26) (.t 28)), .q 31 (.ldn [.int .u32, .str] (.t 30)), .q 8 (.alloc [.int .u32 0, .str []]), .op none none (.st 2 (.t 8) (.t 31)), .draw d42_0], .q 41 (.bin .add (.t 28) (.c (.int .i64 1))), .m 28 41]], .q 42 (.call 74 [.t 5]), .q 43 (.call 73 [.t 42]), .m 4 43, .ret]
def r42 : List RV :=
  [.t 4]
theorem c42_ok : cC Try.prog Try.f42.ntmps (Try.f42.body.getD .skip) = some c42 := by kernel_rfl

def c43 : List C :=
  [.q 4 (.mv (.c .nilsl)), .q 5 (.mv (.c .nilsl)), .blk 0 [.loop [.m 9 0, .q 10 (.nck (.t 9)), .q 11 (.fad 5 (.t 10)), .q 12 (.ld .any (.t 11)), .q 13 (.len false (.t 12)), .q 14 (.bin .gtr (.t 13) (.c (.int .i64 0))), .cond (.t 14) [] [.exit 0], .blk 1 [.m 15 0, .q 16 (.nck (.t 15)), .q 17 (.fad 5 (.t 16)), .q 18 (.ld .any (.t 17)), .q 19 (.iad 2 (.t 18) (.c (.int .i64 0))), .q 20 (.ldn [.bool, .str] (.t 19)), .q 21 (.call 75 [.t 20]), .m 6 21, .m 23 0, .q 24 (.nck (.t 23)), .q 25 (.fad 0 (.t 24)), .q 26 (.ld .any (.t 25)), .m 27 6, .q 28 (.call 76 [.t 26, .t 27]), .m 22 28, .q 29 (.ext (.t 22) 0), .q 30 (.ext (.t 22) 1), .m 7 29, .m 8 30, .m 31 8, .q 32 (.bin .neq (.t 31) (.c (.int .i64 0))), .cond (.t 32) [.exit 0] [], .m 33 0, .m 34 0, .q 35 (.nck (.t 34)), .q 36 (.fad 5 (.t 35)), .q 37 (.ld .any (.t 36)), .q 38 (.lsl 2 (.t 37) (some (.c (.int .i64 1))) none none), .q 39 (.nck (.t 33)), .q 40 (.fad 5 (.t 39)), .op none none (.st 1 (.t 40) (.t 38)), .m 41 0, .q 42 (.nck (.t 41)), .q 43 (.fad 2 (.t 42)), .q 44 (.ld .any (.t 43)), .m 45 7, .m 46 1, .q 47 (.call 77 [.t 44, .t 45, .t 46]), .m 48 5, .m 49 7, .m 50 6, .q 51 (.build [.int .u32 0, .str []] [(0, 1, .t 49), (1, 1, .t 50)]), .q 52 (.bsl 2 [.int .u32 0, .str []] 1 [(0, .t 51)]), .q 53 (.app 2 (.t 48) (.t 52)), .m 5 53]]], .m 54 5, .m 4 54, .ret]
def r43 : List RV :=
  [.t 4]
theorem c43_ok : cC Try.prog Try.f43.ntmps (Try.f43.body.getD .skip) = some c43 := by kernel_rfl

def l44_0 : List (Nat × Bool × It) :=
  [(0, false, (none, some 39, .mv (.t 4), [])), (1, false, (none, some 40, .mv (.t 7), [])), (2, false, (none, some 41, .ist (.t 40) (.c (.int .i64 0)), [1])), (3, false, (none, some 42, .bin .rem (.t 41) (.c (.int .u8 128)), [2])), (4, false, (none, some 43, .cvi .u64 (.t 42), [3])), (5, false, (none, some 44, .mv (.t 5), [])), (6, true, (none, some 45, .call 78 [.t 44], [5])), (7, false, (none, some 46, .bin .mul (.t 43) (.t 45), [4, 6])), (8, false, (none, some 47, .bin .add (.t 39) (.t 46), [0, 7])), (9, true, (none, some 4, .mv (.t 47), [8, 6, 0, 1, 2, 3, 4, 5, 6, 7, 8]))]
def d44_0 : List It := pk l44_0
def o44_0 : List (Nat × Bool) := po l44_0
theorem l44_0_ok : okDraw d44_0 o44_0 = true ∧ mkL d44_0 o44_0 = some l44_0 := ⟨by kernel_rfl, by kernel_rfl⟩

def c44 : List C :=
  [.q 1 (.box (.t 0)), .q 2 (.alloc [.str [], .int .i64 0]), .q 3 (.mv (.c (.int .u64 0))), .q 4 (.mv (.c (.int .u64 0))), .q 5 (.mv (.c (.int .i64 0))), .blk 0 [.loop [.m 8 5, .q 9 (.bin .lss (.t 8) (.c (.int .i64 11))), .cond (.t 9) [] [.exit 0], .blk 1 [.q 13 (.ldn [.str, .int .i64] (.t 1)), .q 14 (.call 46 [.t 13, .c (.int .i64 1)]), .m 12 14, .q 15 (.ext (.t 12) 0), .q 16 (.ext (.t 12) 1), .q 6 (.alloc [.str [], .int .i64 0]), .op none none (.st 2 (.t 6) (.t 15)), .m 7 16, .q 17 (.ldn [.str, .int .i64] (.t 6)), .op none none (.st 2 (.t 1) (.t 17)), .q 18 (.fad 1 (.t 1)), .q 19 (.ld (.int .i64) (.t 18)), .q 20 (.bin .neq (.t 19) (.c (.int .i64 0))), .cond (.t 20) [.q 21 (.ldn [.str, .int .i64] (.t 1)), .op none none (.st 2 (.t 2) (.t 21)), .q 3 (.mv (.c (.int .u64 0))), .ret] [], .m 22 5, .q 23 (.bin .gtr (.t 22) (.c (.int .i64 0))), .m 24 23, .op (some (24, true)) (some 25) (.mv (.t 7)), .op (some (24, true)) (some 26) (.ist (.t 25) (.c (.int .i64 0))), .op (some (24, true)) (some 27) (.bin .eql (.t 26) (.c (.int .u8 0))), .q 28 (.pick (.t 24) (.t 27) (.c (.bool false))), .m 29 28, .op (some (29, false)) (some 30) (.mv (.t 5)), .op (some (29, false)) (some 31) (.bin .eql (.t 30) (.c (.int .i64 9))), .op (some (29, false)) (some 32) (.mv (.t 31)), .op (some (32, true)) (some 33) (.mv (.t 7)), .op (some (32, true)) (some 34) (.ist (.t 33) (.c (.int .i64 0))), .op (some (32, true)) (some 35) (.bin .gtr (.t 34) (.c (.int .u8 1))), .op (some (29, false)) (some 36) (.pick (.t 32) (.t 35) (.c (.bool false))), .q 37 (.pick (.t 29) (.c (.bool true)) (.t 36)), .cond (.t 37) [.q 38 (.build [.str [], .int .i64 0] [(0, 1, .c (.str [])), (1, 1, .c (.int .i64 2))]), .op none none (.st 2 (.t 2) (.t 38)), .q 3 (.mv (.c (.int .u64 0))), .ret] [], .draw d44_0, .m 48 7, .q 49 (.ist (.t 48) (.c (.int .i64 0))), .q 50 (.bin .lss (.t 49) (.c (.int .u8 128))), .cond (.t 50) [.q 51 (.ldn [.str, .int .i64] (.t 1)), .m 52 4, .op none none (.st 2 (.t 2) (.t 51)), .m 3 52, .ret] []], .m 10 5,
  .q 11 (.bin .add (.t 10) (.c (.int .i64 1))), .m 5 11]], .q 53 (.build [.str [], .int .i64 0] [(0, 1, .c (.str [])), (1, 1, .c (.int .i64 2))]), .op none none (.st 2 (.t 2) (.t 53)), .q 3 (.mv (.c (.int .u64 0))), .ret]
def r44 : List RV :=
  [.cn 2 2, .t 3]
theorem c44_ok : cC Try.prog Try.f44.ntmps (Try.f44.body.getD .skip) = some c44 := by kernel_rfl

def c45 : List C :=
  [.q 2 (.box (.t 0)), .q 4 (.alloc [.str [], .int .i64 0]), .q 5 (.fad 1 (.t 2)), .q 6 (.ld (.int .i64) (.t 5)), .q 7 (.bin .eql (.t 6) (.c (.int .i64 0))), .m 8 7, .op (some (8, true)) (some 9) (.mv (.t 1)), .op (some (8, true)) (some 10) (.bin .neq (.t 9) (.c (.int .i64 0))), .q 11 (.pick (.t 8) (.t 10) (.c (.bool false))), .cond (.t 11) [.m 12 1, .q 13 (.build [.str [], .int .i64 0] [(0, 1, .c (.str [])), (1, 1, .t 12)]), .op none none (.st 2 (.t 4) (.t 13)), .ret] [], .q 14 (.ldn [.str, .int .i64] (.t 2)), .op none none (.st 2 (.t 4) (.t 14)), .ret]
def r45 : List RV :=
  [.cn 4 2]
theorem c45_ok : cC Try.prog Try.f45.ntmps (Try.f45.body.getD .skip) = some c45 := by kernel_rfl

def l46_0 : List (Nat × Bool × It) :=
  [(0, false, (none, some 20, .fad 0 (.t 2), [])), (1, false, (none, some 21, .ld .str (.t 20), [0])), (2, false, (none, some 22, .mv (.t 1), [])), (3, false, (none, some 23, .ssl (.t 21) (some (.t 22)) none, [1, 2])), (4, false, (none, some 24, .build [.str [], .int .i64 0] [(0, 1, .t 23), (1, 1, .c (.int .i64 0))], [3])), (5, false, (none, some 25, .fad 0 (.t 2), [])), (6, false, (none, some 26, .ld .str (.t 25), [5])), (7, false, (none, some 27, .mv (.t 1), [])), (8, false, (none, some 28, .ssl (.t 26) none (some (.t 27)), [6, 7])), (9, true, (none, none, .st 2 (.t 4) (.t 24), [4, 0, 1, 2, 3, 4])), (10, false, (none, some 5, .mv (.t 28), [8, 9, 0, 1, 2, 3, 4, 5, 6, 7, 8, 9]))]
def d46_0 : List It := pk l46_0
def o46_0 : List (Nat × Bool) := po l46_0
theorem l46_0_ok : okDraw d46_0 o46_0 = true ∧ mkL d46_0 o46_0 = some l46_0 := ⟨by kernel_rfl, by kernel_rfl⟩

def c46 : List C :=
  [.q 2 (.box (.t 0)), .q 4 (.alloc [.str [], .int .i64 0]), .q 5 (.mv (.c (.str []))), .q 6 (.fad 1 (.t 2)), .q 7 (.ld (.int .i64) (.t 6)), .q 8 (.bin .neq (.t 7) (.c (.int .i64 0))), .m 9 8, .op (some (9, false)) (some 10) (.mv (.t 1)), .op (some (9, false)) (some 11) (.bin .leq (.t 10) (.c (.int .i64 0))), .q 12 (.pick (.t 9) (.c (.bool true)) (.t 11)), .cond (.t 12) [.q 13 (.ldn [.str, .int .i64] (.t 2)), .op none none (.st 2 (.t 4) (.t 13)), .q 5 (.mv (.c (.str []))), .ret] [], .m 14 1, .q 15 (.fad 0 (.t 2)), .q 16 (.ld .str (.t 15)), .q 17 (.len true (.t 16)), .q 18 (.bin .gtr (.t 14) (.t 17)), .cond (.t 18) [.q 19 (.build [.str [], .int .i64 0] [(0, 1, .c (.str [])), (1, 1, .c (.int .i64 1))]), .op none none (.st 2 (.t 4) (.t 19)), .q 5 (.mv (.c (.str []))), .ret] [], .draw d46_0, .ret]
def r46 : List RV :=
  [.cn 4 2, .t 5]
theorem c46_ok : cC Try.prog Try.f46.ntmps (Try.f46.body.getD .skip) = some c46 := by kernel_rfl

def l47_0 : List (Nat × Bool × It) :=
  [(0, false, (none, some 13, .mv (.t 0), [])), (1, false, (none, some 14, .ssl (.t 13) (some (.c (.int .i64 1))) (some (.c (.int .i64 5))), [0])), (2, false, (none, some 15, .mv (.t 0), [])), (3, false, (none, some 16, .ssl (.t 15) none (some (.c (.int .i64 1))), [2])), (4, false, (none, some 17, .mv (.t 0), [])), (5, false, (none, some 18, .ssl (.t 17) (some (.c (.int .i64 5))) none, [4])), (6, false, (none, some 19, .bsl 1 [.str []] 2 [(0, .t 16), (1, .t 18)], [3, 5])), (7, true, (none, some 20, .call 80 [.t 19], [6])), (8, true, (none, some 21, .call 79 [.t 20], [7, 7])), (9, false, (none, some 22, .bin .neq (.t 14) (.t 21), [1, 8])), (10, false, (none, some 12, .mv (.t 22), [9, 8]))]
def d47_0 : List It := pk l47_0
def o47_0 : List (Nat × Bool) := po l47_0
theorem l47_0_ok : okDraw d47_0 o47_0 = true ∧ mkL d47_0 o47_0 = some l47_0 := ⟨by kernel_rfl, by kernel_rfl⟩

def c47 : List C :=
  [.q 2 (.mv (.c (.str []))), .q 3 (.mv (.c (.int .i64 0))), .blk 0 [.m 5 0, .q 6 (.len true (.t 5)), .q 7 (.bin .lss (.t 6) (.c (.int .i64 5))), .m 4 7, .cond (.t 4) [.q 2 (.mv (.c (.str []))), .q 3 (.mv (.c (.int .i64 1))), .ret] [.m 9 0, .q 10 (.ist (.t 9) (.c (.int .i64 0))), .q 11 (.bin .neq (.t 10) (.c (.int .u8 7))), .m 8 11, .cond (.t 8) [.q 2 (.mv (.c (.str []))), .q 3 (.mv (.c (.int .i64 6))), .ret] [.draw d47_0, .cond (.t 12) [.q 2 (.mv (.c (.str []))), .q 3 (.mv (.c (.int .i64 5))), .ret] []]]], .m 23 0, .q 24 (.ssl (.t 23) (some (.c (.int .i64 5))) none), .m 2 24, .q 3 (.mv (.c (.int .i64 0))), .ret]
def r47 : List RV :=
  [.t 2, .t 3]
theorem c47_ok : cC Try.prog Try.f47.ntmps (Try.f47.body.getD .skip) = some c47 := by kernel_rfl

def c48 : List C :=
  [.q 2 (.mv (.c .nilptr)), .m 3 0, .q 4 (.build [.str [], .int .i64 0] [(0, 1, .t 3)]), .q 5 (.box (.t 4)), .m 2 5, .ret]
def r48 : List RV :=
  [.t 2]
theorem c48_ok : cC Try.prog Try.f48.ntmps (Try.f48.body.getD .skip) = some c48 := by kernel_rfl

def c49 : List C :=
  [.q 4 (.mv (.c (.int .i64 0))), .m 6 0, .q 7 (.call 81 [.t 6]), .m 5 7, .m 8 5, .m 9 1, .q 10 (.mx [.t 9, .c (.int .i64 0)]), .q 11 (.cvi .u64 (.t 10)), .q 12 (.bin .gtr (.t 8) (.t 11)), .cond (.t 12) [.m 13 0, .q 14 (.call 82 [.t 13, .c (.int .i64 3)]), .q 4 (.mv (.c (.int .i64 0))), .ret] [], .m 15 5, .q 16 (.cvi .i64 (.t 15)), .m 4 16, .ret]
def r49 : List RV :=
  [.t 4]
theorem c49_ok : cC Try.prog Try.f49.ntmps (Try.f49.body.getD .skip) = some c49 := by kernel_rfl

def c50 : List C :=
  [.q 2 (.mv (.c (.int .i64 0))), .m 3 0, .q 4 (.nck (.t 3)), .q 5 (.fad 1 (.t 4)), .q 6 (.ld (.int .i64) (.t 5)), .m 2 6, .ret]
def r50 : List RV :=
  [.t 2]
theorem c50_ok : cC Try.prog Try.f50.ntmps (Try.f50.body.getD .skip) = some c50 := by kernel_rfl

def c51 : List C :=
  [.q 4 (.mv (.c (.str []))), .m 5 0, .m 6 0, .m 7 1, .q 8 (.call 49 [.t 6, .t 7]), .q 9 (.call 83 [.t 5, .t 8]), .m 4 9, .ret]
def r51 : List RV :=
  [.t 4]
theorem c51_ok : cC Try.prog Try.f51.ntmps (Try.f51.body.getD .skip) = some c51 := by kernel_rfl

def c52 : List C :=
  [.q 2 (.mv (.c (.int .i64 0))), .m 3 0, .q 4 (.nck (.t 3)), .q 5 (.fad 0 (.t 4)), .q 6 (.ld .str (.t 5)), .q 7 (.bin .neq (.t 6) (.c (.str []))), .cond (.t 7) [.m 8 0, .q 9 (.call 82 [.t 8, .c (.int .i64 2)])] [], .m 10 0, .q 11 (.nck (.t 10)), .q 12 (.fad 1 (.t 11)), .q 13 (.ld (.int .i64) (.t 12)), .m 2 13, .ret]
def r52 : List RV :=
  [.t 2]
theorem c52_ok : cC Try.prog Try.f52.ntmps (Try.f52.body.getD .skip) = some c52 := by kernel_rfl

def c53 : List C :=
  [.q 4 (.mv (.c .nilsl)), .m 8 0, .m 9 1, .q 10 (.call 84 [.t 8, .t 9]), .m 5 10, .m 11 5, .q 12 (.bin .eql (.t 11) (.c (.int .i64 (-1)))), .cond (.t 12) [.m 13 0, .m 4 13, .ret] [], .m 14 5, .q 15 (.bin .add (.t 14) (.c (.int .i64 1))), .m 6 15, .blk 0 [.loop [.m 16 6, .m 17 0, .q 18 (.len false (.t 17)), .q 19 (.bin .lss (.t 16) (.t 18)), .cond (.t 19) [] [.exit 0], .blk 1 [.m 22 0, .m 23 6, .q 24 (.iad 4 (.t 22) (.t 23)), .q 25 (.ldn [.int .u32, .int .i64, .int .i64, .int .i64] (.t 24)), .q 7 (.alloc [.int .u32 0, .int .i64 0, .int .i64 0, .int .i64 0]), .op none none (.st 4 (.t 7) (.t 25)), .m 26 1, .q 27 (.ldn [.int .u32, .int .i64, .int .i64, .int .i64] (.t 7)), .q 28 (.callv (.t 26) [.t 27]), .q 29 (.un .not (.t 28)), .cond (.t 29) [.m 30 0, .m 31 5, .q 32 (.ldn [.int .u32, .int .i64, .int .i64, .int .i64] (.t 7)), .q 33 (.iad 4 (.t 30) (.t 31)), .op none none (.st 4 (.t 33) (.t 32)), .m 34 5, .q 35 (.bin .add (.t 34) (.c (.int .i64 1))), .m 5 35] []], .m 20 6, .q 21 (.bin .add (.t 20) (.c (.int .i64 1))), .m 6 21]], .m 36 0, .m 37 5, .q 38 (.lsl 4 (.t 36) (some (.t 37)) none none), .op none none (.clr 4 [.int .u32 0, .int .i64 0, .int .i64 0, .int .i64 0] (.t 38)), .m 39 0, .m 40 5, .q 41 (.lsl 4 (.t 39) none (some (.t 40)) none), .m 4 41, .ret]
def r53 : List RV :=
  [.t 4]
theorem c53_ok : cC Try.prog Try.f53.ntmps (Try.f53.body.getD .skip) = some c53 := by kernel_rfl

def c54 : List C :=
  [.q 2 (.mv (.c .nilsl)), .m 3 0, .q 4 (.eqn false (.t 3)), .cond (.t 4) [.q 2 (.mv (.c .nilsl)), .ret] [], .q 5 (.bsl 4 [.int .u32 0, .int .i64 0, .int .i64 0, .int .i64 0] 0 []), .m 6 0, .q 7 (.app 4 (.t 5) (.t 6)), .m 2 7, .ret]
def r54 : List RV :=
  [.t 2]
theorem c54_ok : cC Try.prog Try.f54.ntmps (Try.f54.body.getD .skip) = some c54 := by kernel_rfl

def c55 : List C :=
  [.q 2 (.box (.t 0)), .q 3 (.mv (.c (.bool false))), .q 4 (.ld .any (.t 1)), .q 5 (.fad 0 (.t 2)), .q 6 (.ld (.int .u32) (.t 5)), .q 7 (.call 56 [.t 4, .t 6]), .m 3 7, .ret]
def r55 : List RV :=
  [.t 3]
theorem c55_ok : cC Try.prog Try.f55.ntmps (Try.f55.body.getD .skip) = some c55 := by kernel_rfl

def c56 : List C :=
  [.q 4 (.mv (.c (.bool false))), .m 5 0, .m 6 1, .q 7 (.call 85 [.t 5, .t 6]), .q 8 (.bin .geq (.t 7) (.c (.int .i64 0))), .m 4 8, .ret]
def r56 : List RV :=
  [.t 4]
theorem c56_ok : cC Try.prog Try.f56.ntmps (Try.f56.body.getD .skip) = some c56 := by kernel_rfl

def c57 : List C :=
  [.q 4 (.mv (.c .nilsl)), .m 8 0, .m 9 1, .q 10 (.call 86 [.t 8, .t 9]), .m 5 10, .m 11 5, .q 12 (.bin .eql (.t 11) (.c (.int .i64 (-1)))), .cond (.t 12) [.m 13 0, .m 4 13, .ret] [], .m 14 5, .q 15 (.bin .add (.t 14) (.c (.int .i64 1))), .m 6 15, .blk 0 [.loop [.m 16 6, .m 17 0, .q 18 (.len false (.t 17)), .q 19 (.bin .lss (.t 16) (.t 18)), .cond (.t 19) [] [.exit 0], .blk 1 [.m 22 0, .m 23 6, .q 24 (.iad 2 (.t 22) (.t 23)), .q 25 (.ldn [.int .u32, .str] (.t 24)), .q 7 (.alloc [.int .u32 0, .str []]), .op none none (.st 2 (.t 7) (.t 25)), .m 26 1, .q 27 (.ldn [.int .u32, .str] (.t 7)), .q 28 (.callv (.t 26) [.t 27]), .q 29 (.un .not (.t 28)), .cond (.t 29) [.m 30 0, .m 31 5, .q 32 (.ldn [.int .u32, .str] (.t 7)), .q 33 (.iad 2 (.t 30) (.t 31)), .op none none (.st 2 (.t 33) (.t 32)), .m 34 5, .q 35 (.bin .add (.t 34) (.c (.int .i64 1))), .m 5 35] []], .m 20 6, .q 21 (.bin .add (.t 20) (.c (.int .i64 1))), .m 6 21]], .m 36 0, .m 37 5, .q 38 (.lsl 2 (.t 36) (some (.t 37)) none none), .op none none (.clr 2 [.int .u32 0, .str []] (.t 38)), .m 39 0, .m 40 5, .q 41 (.lsl 2 (.t 39) none (some (.t 40)) none), .m 4 41, .ret]
def r57 : List RV :=
  [.t 4]
theorem c57_ok : cC Try.prog Try.f57.ntmps (Try.f57.body.getD .skip) = some c57 := by kernel_rfl

def c58 : List C :=
  [.q 2 (.mv (.c .nilsl)), .m 3 0, .q 4 (.eqn false (.t 3)), .cond (.t 4) [.q 2 (.mv (.c .nilsl)), .ret] [], .q 5 (.bsl 2 [.int .u32 0, .str []] 0 []), .m 6 0, .q 7 (.app 2 (.t 5) (.t 6)), .m 2 7, .ret]
def r58 : List RV :=
  [.t 2]
theorem c58_ok : cC Try.prog Try.f58.ntmps (Try.f58.body.getD .skip) = some c58 := by kernel_rfl

def c59 : List C :=
  [.q 3 (.box (.t 0)), .q 4 (.mv (.c (.bool false))), .q 5 (.ldn [.int .u32, .int .u32] (.t 1)), .q 6 (.fad 0 (.t 3)), .q 7 (.ld (.int .u32) (.t 6)), .q 8 (.call 60 [.t 5, .t 7]), .cond (.t 8) [.q 9 (.ld .any (.t 2)), .q 10 (.fad 0 (.t 3)), .q 11 (.ld (.int .u32) (.t 10)), .q 12 (.bsl 1 [.int .u32 0] 1 [(0, .t 11)]), .q 13 (.app 1 (.t 9) (.t 12)), .op none none (.st 1 (.t 2) (.t 13)), .q 4 (.mv (.c (.bool true))), .ret] [], .q 4 (.mv (.c (.bool false))), .ret]
def r59 : List RV :=
  [.t 4]
theorem c59_ok : cC Try.prog Try.f59.ntmps (Try.f59.body.getD .skip) = some c59 := by kernel_rfl

def c60 : List C :=
  [.q 2 (.box (.t 0)), .q 4 (.mv (.c (.bool false))), .m 6 1, .q 7 (.fad 0 (.t 2)), .q 8 (.ld (.int .u32) (.t 7)), .q 9 (.bin .sub (.t 6) (.t 8)), .m 5 9, .m 10 5, .q 11 (.bin .geq (.t 10) (.c (.int .u32 2147483648))), .cond (.t 11) [.q 4 (.mv (.c (.bool true))), .ret] [], .m 12 5, .q 13 (.bin .geq (.t 12) (.c (.int .u32 1))), .m 14 13, .op (some (14, true)) (some 15) (.mv (.t 5)), .op (some (14, true)) (some 16) (.bin .leq (.t 15) (.c (.int .u32 32))), .q 17 (.pick (.t 14) (.t 16) (.c (.bool false))), .m 18 17, .op (some (18, true)) (some 19) (.fad 1 (.t 2)), .op (some (18, true)) (some 20) (.ld (.int .u32) (.t 19)), .op (some (18, true)) (some 21) (.mv (.t 5)), .op (some (18, true)) (some 22) (.bin .sub (.t 21) (.c (.int .u32 1))), .op (some (18, true)) (some 23) (.bin .shr (.t 20) (.t 22)), .op (some (18, true)) (some 24) (.bin .and (.t 23) (.c (.int .u32 1))), .op (some (18, true)) (some 25) (.bin .eql (.t 24) (.c (.int .u32 1))), .q 26 (.pick (.t 18) (.t 25) (.c (.bool false))), .m 4 26, .ret]
def r60 : List RV :=
  [.t 4]
theorem c60_ok : cC Try.prog Try.f60.ntmps (Try.f60.body.getD .skip) = some c60 := by kernel_rfl

def l61_0 : List (Nat × Bool × It) :=
  [(0, false, (none, some 18, .mv (.t 0), [])), (1, false, (none, some 19, .ist (.t 18) (.c (.int .i64 0)), [0])), (2, false, (none, some 20, .bin .eql (.t 19) (.c (.int .u8 1)), [1])), (3, false, (none, some 21, .mv (.t 0), [])), (4, false, (none, some 22, .ssl (.t 21) (some (.c (.int .i64 1))) none, [3])), (5, false, (none, some 23, .build [.bool false, .str []] [(0, 1, .t 20), (1, 1, .t 22)], [2, 4])), (6, true, (none, none, .st 2 (.t 2) (.t 23), [5, 0, 1, 2, 3, 4, 5])), (7, false, (none, some 3, .mv (.c (.int .i64 0)), [6, 0, 1, 2, 3, 4, 5, 6]))]
def d61_0 : List It := pk l61_0
def o61_0 : List (Nat × Bool) := po l61_0
theorem l61_0_ok : okDraw d61_0 o61_0 = true ∧ mkL d61_0 o61_0 = some l61_0 := ⟨by kernel_rfl, by kernel_rfl⟩

def c61 : List C :=
  [.q 2 (.alloc [.bool false, .str []]), .q 3 (.mv (.c (.int .i64 0))), .blk 0 [.m 5 0, .q 6 (.bin .eql (.t 5) (.c (.str []))), .m 4 6, .cond (.t 4) [.q 7 (.build [.bool false, .str []] []), .op none none (.st 2 (.t 2) (.t 7)), .q 3 (.mv (.c (.int .i64 1))), .ret] [.m 9 0, .q 10 (.ist (.t 9) (.c (.int .i64 0))), .q 11 (.bin .gtr (.t 10) (.c (.int .u8 1))), .m 8 11, .cond (.t 8) [.q 12 (.build [.bool false, .str []] []), .op none none (.st 2 (.t 2) (.t 12)), .q 3 (.mv (.c (.int .i64 2))), .ret] [.m 14 0, .q 15 (.len true (.t 14)), .q 16 (.bin .gtr (.t 15) (.c (.int .i64 201))), .m 13 16, .cond (.t 13) [.q 17 (.build [.bool false, .str []] []), .op none none (.st 2 (.t 2) (.t 17)), .q 3 (.mv (.c (.int .i64 3))), .ret] []]]], .draw d61_0, .ret]
def r61 : List RV :=
  [.cn 2 2, .t 3]
theorem c61_ok : cC Try.prog Try.f61.ntmps (Try.f61.body.getD .skip) = some c61 := by kernel_rfl

def c62 : List C :=
  [.q 4 (.mv (.c .nilsl)), .q 5 (.mv (.c (.int .i64 0))), .q 6 (.mv (.c .nilsl)), .m 12 1, .q 13 (.len false (.t 12)), .q 14 (.mv (.c (.int .i64 0))), .blk 0 [.loop [.q 15 (.bin .lss (.t 14) (.t 13)), .cond (.t 15) [] [.exit 0], .blk 1 [.q 16 (.iad 2 (.t 12) (.t 14)), .q 17 (.ldn [.bool, .str] (.t 16)), .q 8 (.alloc [.bool false, .str []]), .op none none (.st 2 (.t 8) (.t 17)), .m 19 0, .q 20 (.ldn [.bool, .str] (.t 8)), .q 21 (.call 87 [.t 19, .t 20]), .m 18 21, .q 22 (.ext (.t 18) 0), .q 23 (.ext (.t 18) 1), .q 24 (.ext (.t 18) 2), .m 9 22, .m 10 23, .m 11 24, .m 25 11, .q 26 (.bin .neq (.t 25) (.c (.int .i64 0))), .cond (.t 26) [.m 27 6, .m 28 11, .m 4 27, .m 5 28, .ret] [], .m 29 10, .cond (.t 29) [.m 30 6, .m 31 9, .q 32 (.bsl 1 [.str []] 1 [(0, .t 31)]), .q 33 (.app 1 (.t 30) (.t 32)), .m 6 33] []], .q 34 (.bin .add (.t 14) (.c (.int .i64 1))), .m 14 34]], .m 35 6, .m 4 35, .q 5 (.mv (.c (.int .i64 0))), .ret]
def r62 : List RV :=
  [.t 4, .t 5]
theorem c62_ok : cC Try.prog Try.f62.ntmps (Try.f62.body.getD .skip) = some c62 := by kernel_rfl

def c63 : List C :=
  [.q 2 (.mv (.c (.str []))), .q 3 (.mv (.c (.str []))), .q 4 (.mv (.c (.int .i64 0))), .blk 0 [.loop [.m 5 4, .q 6 (.bin .lss (.t 5) (.c (.int .i64 10))), .m 7 6, .op (some (7, true)) (some 8) (.mv (.t 0)), .op (some (7, true)) (some 9) (.bin .gtr (.t 8) (.c (.int .u64 127))), .q 10 (.pick (.t 7) (.t 9) (.c (.bool false))), .cond (.t 10) [] [.exit 0], .blk 1 [.m 13 3, .m 14 0, .q 15 (.bin .rem (.t 14) (.c (.int .u64 128))), .q 16 (.bin .add (.c (.int .u64 128)) (.t 15)), .q 17 (.cvi .u8 (.t 16)), .q 18 (.bsl 1 [.int .u8 0] 1 [(0, .t 17)]), .q 19 (.cvb (.t 18)), .q 20 (.bin .add (.t 13) (.t 19)), .m 3 20, .m 21 0, .q 22 (.bin .quo (.t 21) (.c (.int .u64 128))), .m 0 22], .m 11 4, .q 12 (.bin .add (.t 11) (.c (.int .i64 1))), .m 4 12]], .m 23 3, .m 24 0, .q 25 (.cvi .u8 (.t 24)), .q 26 (.bsl 1 [.int .u8 0] 1 [(0, .t 25)]), .q 27 (.cvb (.t 26)), .q 28 (.bin .add (.t 23) (.t 27)), .m 2 28, .ret]
def r63 : List RV :=
  [.t 2]
theorem c63_ok : cC Try.prog Try.f63.ntmps (Try.f63.body.getD .skip) = some c63 := by kernel_rfl

def c64 : List C :=
  [.q 2 (.mv (.c (.int .u32 0))), .q 3 (.mv (.c (.int .u32 4294967295))), .q 4 (.mv (.c (.int .i64 0))), .blk 0 [.loop [.m 8 4, .m 9 0, .q 10 (.len true (.t 9)), .q 11 (.bin .lss (.t 8) (.t 10)), .cond (.t 11) [] [.exit 0], .blk 1 [.m 14 0, .m 15 4, .q 16 (.ist (.t 14) (.t 15)), .q 17 (.cvi .u32 (.t 16)), .m 5 17, .q 6 (.mv (.c (.int .i64 0))), .blk 2 [.loop [.m 18 6, .q 19 (.bin .lss (.t 18) (.c (.int .i64 8))), .cond (.t 19) [] [.exit 2], .blk 3 [.m 22 3, .m 23 5, .q 24 (.bin .add (.t 22) (.t 23)), .q 25 (.bin .rem (.t 24) (.c (.int .u32 2))), .q 26 (.bin .eql (.t 25) (.c (.int .u32 1))), .m 7 26, .m 27 3, .q 28 (.bin .quo (.t 27) (.c (.int .u32 2))), .m 3 28, .m 29 5, .q 30 (.bin .quo (.t 29) (.c (.int .u32 2))), .m 5 30, .m 31 7, .cond (.t 31) [.m 32 3, .q 33 (.bin .xor (.t 32) (.c (.int .u32 3988292384))), .m 3 33] []], .m 20 6, .q 21 (.bin .add (.t 20) (.c (.int .i64 1))), .m 6 21]]], .m 12 4, .q 13 (.bin .add (.t 12) (.c (.int .i64 1))), .m 4 13]], .m 34 3, .q 35 (.bin .sub (.c (.int .u32 4294967295)) (.t 34)), .m 2 35, .ret]
def r64 : List RV :=
  [.t 2]
theorem c64_ok : cC Try.prog Try.f64.ntmps (Try.f64.body.getD .skip) = some c64 := by kernel_rfl

def c65 : List C :=
  [.q 1 (.box (.t 0)), .q 2 (.mv (.c (.int .i64 0))), .q 3 (.fad 0 (.t 1)), .q 4 (.ld (.int .i64) (.t 3)), .q 5 (.bin .lss (.t 4) (.c (.int .i64 1))), .m 6 5, .op (some (6, false)) (some 7) (.fad 1 (.t 1)), .op (some (6, false)) (some 8) (.ld (.int .i64) (.t 7)), .op (some (6, false)) (some 9) (.fad 0 (.t 1)), .op (some (6, false)) (some 10) (.ld (.int .i64) (.t 9)), .op (some (6, false)) (some 11) (.bin .lss (.t 8) (.t 10)), .q 12 (.pick (.t 6) (.c (.bool true)) (.t 11)), .m 13 12, .op (some (13, false)) (some 14) (.fad 1 (.t 1)), .op (some (13, false)) (some 15) (.ld (.int .i64) (.t 14)), .op (some (13, false)) (some 16) (.bin .gtr (.t 15) (.c (.int .i64 1048576))), .q 17 (.pick (.t 13) (.c (.bool true)) (.t 16)), .cond (.t 17) [.q 2 (.mv (.c (.int .i64 4))), .ret] [], .q 2 (.mv (.c (.int .i64 0))), .ret]
def r65 : List RV :=
  [.t 2]
theorem c65_ok : cC Try.prog Try.f65.ntmps (Try.f65.body.getD .skip) = some c65 := by kernel_rfl

def c66 : List C :=
  [.m 4 0, .m 5 0, .q 6 (.len false (.t 5)), .m 7 1, .q 8 (.call 88 [.t 4, .t 6, .t 7])]
def r66 : List RV :=
  []
theorem c66_ok : cC Try.prog Try.f66.ntmps (Try.f66.body.getD .skip) = some c66 := by kernel_rfl

def c67 : List C :=
  [.q 2 (.box (.t 0)), .q 3 (.box (.t 1)), .q 4 (.mv (.c (.int .i64 0))), .q 5 (.fad 1 (.t 2)), .q 6 (.ld (.int .i64) (.t 5)), .q 7 (.fad 1 (.t 3)), .q 8 (.ld (.int .i64) (.t 7)), .q 9 (.call 68 [.t 6, .t 8]), .m 4 9, .ret]
def r67 : List RV :=
  [.t 4]
theorem c67_ok : cC Try.prog Try.f67.ntmps (Try.f67.body.getD .skip) = some c67 := by kernel_rfl

def c68 : List C :=
  [.q 4 (.mv (.c (.int .i64 0))), .m 7 0, .q 8 (.call 89 [.t 7]), .m 5 8, .m 9 1, .q 10 (.call 89 [.t 9]), .m 6 10, .m 11 5, .cond (.t 11) [.m 12 6, .cond (.t 12) [.q 4 (.mv (.c (.int .i64 0))), .ret] [], .q 4 (.mv (.c (.int .i64 (-1)))), .ret] [], .m 13 6, .cond (.t 13) [.q 4 (.mv (.c (.int .i64 1))), .ret] [], .m 14 0, .m 15 1, .q 16 (.bin .lss (.t 14) (.t 15)), .cond (.t 16) [.q 4 (.mv (.c (.int .i64 (-1)))), .ret] [], .m 17 0, .m 18 1, .q 19 (.bin .gtr (.t 17) (.t 18)), .cond (.t 19) [.q 4 (.mv (.c (.int .i64 1))), .ret] [], .q 4 (.mv (.c (.int .i64 0))), .ret]
def r68 : List RV :=
  [.t 4]
theorem c68_ok : cC Try.prog Try.f68.ntmps (Try.f68.body.getD .skip) = some c68 := by kernel_rfl

def l69_0 : List (Nat × Bool × It) :=
  [(0, false, (none, some 17, .mv (.t 0), [])), (1, false, (none, some 18, .nck (.t 17), [0])), (2, false, (none, some 19, .fad 1 (.t 18), [1])), (3, false, (none, some 20, .ld .any (.t 19), [2])), (4, false, (none, some 21, .mv (.t 0), [])), (5, false, (none, some 22, .nck (.t 21), [4])), (6, false, (none, some 23, .fad 0 (.t 22), [5])), (7, false, (none, some 24, .ld (.int .u32) (.t 23), [6])), (8, false, (none, some 25, .mv (.t 4), [])), (9, false, (none, some 26, .bin .add (.t 24) (.t 25), [7, 8])), (10, false, (none, some 27, .look false .str (.str []) true (.t 20) (.t 26), [3, 9])), (11, false, (none, some 16, .mv (.t 27), [10])), (12, false, (none, some 28, .ext (.t 16) 0, [11])), (13, false, (none, some 29, .ext (.t 16) 1, [11])), (14, false, (none, some 5, .mv (.t 28), [12, 0, 1, 2, 3, 4, 5, 6, 7, 8, 9, 10, 11, 12])), (15, false, (none, some 6, .mv (.t 29), [13, 14, 0, 1, 2, 3, 4, 5, 6, 7, 8, 9, 10, 11, 12, 13, 14]))]
def d69_0 : List It := pk l69_0
def o69_0 : List (Nat × Bool) := po l69_0
theorem l69_0_ok : okDraw d69_0 o69_0 = true ∧ mkL d69_0 o69_0 = some l69_0 := ⟨by kernel_rfl, by kernel_rfl⟩

def c69 : List C :=
  [.q 2 (.alloc [.int .u32 0, .int .u32 0]), .m 7 0, .q 8 (.nck (.t 7)), .q 9 (.fad 0 (.t 8)), .q 10 (.ld (.int .u32) (.t 9)), .q 11 (.build [.int .u32 0, .int .u32 0] [(0, 1, .t 10)]), .q 3 (.alloc [.int .u32 0, .int .u32 0]), .op none none (.st 2 (.t 3) (.t 11)), .q 4 (.mv (.c (.int .u32 1))), .blk 0 [.loop [.m 12 4, .q 13 (.bin .leq (.t 12) (.c (.int .u32 32))), .cond (.t 13) [] [.exit 0], .blk 1 [.draw d69_0, .m 30 6, .cond (.t 30) [.q 31 (.fad 1 (.t 3)), .q 32 (.ld (.int .u32) (.t 31)), .m 33 4, .q 34 (.bin .sub (.t 33) (.c (.int .u32 1))), .q 35 (.bin .shl (.c (.int .u32 1)) (.t 34)), .q 36 (.bin .or (.t 32) (.t 35)), .q 37 (.fad 1 (.t 3)), .op none none (.st 1 (.t 37) (.t 36))] []], .m 14 4, .q 15 (.bin .add (.t 14) (.c (.int .u32 1))), .m 4 15]], .q 38 (.ldn [.int .u32, .int .u32] (.t 3)), .op none none (.st 2 (.t 2) (.t 38)), .ret]
def r69 : List RV :=
  [.cn 2 2]
theorem c69_ok : cC Try.prog Try.f69.ntmps (Try.f69.body.getD .skip) = some c69 := by kernel_rfl

def c70 : List C :=
  [.q 4 (.mv (.c .nilptr)), .m 7 1, .q 8 (.len false (.t 7)), .q 9 (.mv (.c (.int .i64 0))), .blk 0 [.loop [.q 10 (.bin .lss (.t 9) (.t 8)), .cond (.t 10) [] [.exit 0], .blk 1 [.q 11 (.iad 1 (.t 7) (.t 9)), .q 12 (.ld (.int .u64) (.t 11)), .m 6 12, .blk 2 [.loop [.m 13 6, .q 14 (.bin .gtr (.t 13) (.c (.int .u64 127))), .cond (.t 14) [] [.exit 2], .blk 3 [.m 15 0, .m 16 0, .q 17 (.nck (.t 16)), .q 18 (.fad 0 (.t 17)), .q 19 (.ld .any (.t 18)), .m 20 6, .q 21 (.cvi .u8 (.t 20)), .q 22 (.bin .or (.t 21) (.c (.int .u8 128))), .q 23 (.bsl 1 [.int .u8 0] 1 [(0, .t 22)]), .q 24 (.app 1 (.t 19) (.t 23)), .q 25 (.nck (.t 15)), .q 26 (.fad 0 (.t 25)), .op none none (.st 1 (.t 26) (.t 24)), .m 27 6, .q 28 (.bin .shr (.t 27) (.c (.int .u64 7))), .m 6 28]]], .m 29 0, .m 30 0, .q 31 (.nck (.t 30)), .q 32 (.fad 0 (.t 31)), .q 33 (.ld .any (.t 32)), .m 34 6, .q 35 (.cvi .u8 (.t 34)), .q 36 (.bsl 1 [.int .u8 0] 1 [(0, .t 35)]), .q 37 (.app 1 (.t 33) (.t 36)), .q 38 (.nck (.t 29)), .q 39 (.fad 0 (.t 38)), .op none none (.st 1 (.t 39) (.t 37))], .q 40 (.bin .add (.t 9) (.c (.int .i64 1))), .m 9 40]], .m 41 0, .m 4 41, .ret]
def r70 : List RV :=
  [.t 4]
theorem c70_ok : cC Try.prog Try.f70.ntmps (Try.f70.body.getD .skip) = some c70 := by kernel_rfl

def c71 : List C :=
  [.q 4 (.mv (.c .nilptr)), .m 7 1, .q 8 (.len false (.t 7)), .q 9 (.mv (.c (.int .i64 0))), .blk 0 [.loop [.q 10 (.bin .lss (.t 9) (.t 8)), .cond (.t 10) [] [.exit 0], .blk 1 [.q 11 (.iad 1 (.t 7) (.t 9)), .q 12 (.ld (.int .i64) (.t 11)), .m 6 12, .m 13 0, .m 14 6, .q 15 (.mx [.t 14, .c (.int .i64 0)]), .q 16 (.cvi .u64 (.t 15)), .q 17 (.bsl 1 [.int .u64 0] 1 [(0, .t 16)]), .q 18 (.call 70 [.t 13, .t 17])], .q 19 (.bin .add (.t 9) (.c (.int .i64 1))), .m 9 19]], .m 20 0, .m 4 20, .ret]
def r71 : List RV :=
  [.t 4]
theorem c71_ok : cC Try.prog Try.f71.ntmps (Try.f71.body.getD .skip) = some c71 := by kernel_rfl

def c72 : List C :=
  [.q 4 (.mv (.c .nilptr)), .m 7 1, .q 8 (.len false (.t 7)), .q 9 (.mv (.c (.int .i64 0))), .blk 0 [.loop [.q 10 (.bin .lss (.t 9) (.t 8)), .cond (.t 10) [] [.exit 0], .blk 1 [.q 11 (.iad 1 (.t 7) (.t 9)), .q 12 (.ld .str (.t 11)), .m 6 12, .m 13 0, .m 14 6, .q 15 (.len true (.t 14)), .q 16 (.bsl 1 [.int .i64 0] 1 [(0, .t 15)]), .q 17 (.call 71 [.t 13, .t 16]), .m 18 0, .m 19 0, .q 20 (.nck (.t 19)), .q 21 (.fad 0 (.t 20)), .q 22 (.ld .any (.t 21)), .m 23 6, .q 24 (.app 1 (.t 22) (.t 23)), .q 25 (.nck (.t 18)), .q 26 (.fad 0 (.t 25)), .op none none (.st 1 (.t 26) (.t 24))], .q 27 (.bin .add (.t 9) (.c (.int .i64 1))), .m 9 27]], .m 28 0, .m 4 28, .ret]
def r72 : List RV :=
  [.t 4]
theorem c72_ok : cC Try.prog Try.f72.ntmps (Try.f72.body.getD .skip) = some c72 := by kernel_rfl

def c73 : List C :=
  [.q 2 (.mv (.c (.str []))), .q 4 (.bsl 1 [.int .u8 0] 1 [(0, .c (.int .u8 7))]), .q 5 (.cvb (.t 4)), .m 3 5, .m 6 3, .m 7 3, .m 8 0, .q 9 (.bsl 1 [.str []] 2 [(0, .t 7), (1, .t 8)]), .q 10 (.call 80 [.t 9]), .q 11 (.call 79 [.t 10]), .q 12 (.bin .add (.t 6) (.t 11)), .m 13 0, .q 14 (.bin .add (.t 12) (.t 13)), .m 2 14, .ret]
def r73 : List RV :=
  [.t 2]
theorem c73_ok : cC Try.prog Try.f73.ntmps (Try.f73.body.getD .skip) = some c73 := by kernel_rfl

def c74 : List C :=
  [.q 2 (.mv (.c (.str []))), .m 3 0, .q 4 (.nck (.t 3)), .q 5 (.fad 0 (.t 4)), .q 6 (.ld .any (.t 5)), .q 7 (.cvb (.t 6)), .m 2 7, .ret]
def r74 : List RV :=
  [.t 2]
theorem c74_ok : cC Try.prog Try.f74.ntmps (Try.f74.body.getD .skip) = some c74 := by kernel_rfl

def c75 : List C :=
  [.q 1 (.box (.t 0)), .q 2 (.mv (.c (.str []))), .q 3 (.fad 0 (.t 1)), .q 4 (.ld .bool (.t 3)), .cond (.t 4) [.q 5 (.fad 1 (.t 1)), .q 6 (.ld .str (.t 5)), .q 7 (.bin .add (.c (.str [1])) (.t 6)), .m 2 7, .ret] [], .q 8 (.fad 1 (.t 1)), .q 9 (.ld .str (.t 8)), .q 10 (.bin .add (.c (.str [0])) (.t 9)), .m 2 10, .ret]
def r75 : List RV :=
  [.t 2]
theorem c75_ok : cC Try.prog Try.f75.ntmps (Try.f75.body.getD .skip) = some c75 := by kernel_rfl

def l76_0 : List (Nat × Bool × It) :=
  [(0, false, (none, some 9, .mv (.t 0), [])), (1, false, (none, some 10, .mv (.t 0), [])), (2, false, (none, some 11, .nck (.t 10), [1])), (3, false, (none, some 12, .fad 1 (.t 11), [2])), (4, false, (none, some 13, .ld .any (.t 12), [3])), (5, false, (none, some 14, .mv (.t 0), [])), (6, false, (none, some 15, .nck (.t 14), [5])), (7, false, (none, some 16, .fad 0 (.t 15), [6])), (8, false, (none, some 17, .ld (.int .u32) (.t 16), [7])), (9, false, (none, some 18, .mv (.t 1), [])), (10, false, (none, some 19, .build [.int .u32 0, .str []] [(0, 1, .t 17), (1, 1, .t 18)], [8, 9])), (11, false, (none, some 20, .bsl 2 [.int .u32 0, .str []] 1 [(0, .t 19)], [10])), (12, true, (none, some 21, .app 2 (.t 13) (.t 20), [4, 11])), (13, false, (none, some 22, .nck (.t 9), [0, 0, 1, 2, 3, 4, 5, 6, 7, 8, 9, 10, 11, 12])), (14, false, (none, some 23, .fad 1 (.t 22), [13, 0, 1, 2, 3, 4, 5, 6, 7, 8, 9, 10, 11, 12])), (15, true, (none, none, .st 1 (.t 23) (.t 21), [14, 12, 12, 0, 1, 2, 3, 4, 5, 6, 7, 8, 9, 10, 11, 12]))]
def d76_0 : List It := pk l76_0
def o76_0 : List (Nat × Bool) := po l76_0
theorem l76_0_ok : okDraw d76_0 o76_0 = true ∧ mkL d76_0 o76_0 = some l76_0 := ⟨by kernel_rfl, by kernel_rfl⟩

def c76 : List C :=
  [.q 4 (.mv (.c (.int .u32 0))), .q 5 (.mv (.c (.int .i64 0))), .m 6 0, .q 7 (.call 90 [.t 6]), .q 8 (.un .not (.t 7)), .cond (.t 8) [.q 4 (.mv (.c (.int .u32 0))), .q 5 (.mv (.c (.int .i64 8))), .ret] [], .draw d76_0, .m 24 0, .q 25 (.nck (.t 24)), .q 26 (.fad 0 (.t 25)), .q 27 (.ld (.int .u32) (.t 26)), .q 28 (.bin .add (.t 27) (.c (.int .u32 1))), .q 29 (.nck (.t 24)), .q 30 (.fad 0 (.t 29)), .op none none (.st 1 (.t 30) (.t 28)), .m 31 0, .q 32 (.nck (.t 31)), .q 33 (.fad 0 (.t 32)), .q 34 (.ld (.int .u32) (.t 33)), .q 35 (.bin .sub (.t 34) (.c (.int .u32 1))), .m 4 35, .q 5 (.mv (.c (.int .i64 0))), .ret]
def r76 : List RV :=
  [.t 4, .t 5]
theorem c76_ok : cC Try.prog Try.f76.ntmps (Try.f76.body.getD .skip) = some c76 := by kernel_rfl

def l77_0 : List (Nat × Bool × It) :=
  [(0, false, (none, some 11, .mv (.t 0), [])), (1, false, (none, some 12, .mv (.t 0), [])), (2, false, (none, some 13, .nck (.t 12), [1])), (3, false, (none, some 14, .fad 2 (.t 13), [2])), (4, false, (none, some 15, .ld .any (.t 14), [3])), (5, false, (none, some 16, .mv (.t 1), [])), (6, false, (none, some 17, .mv (.t 2), [])), (7, false, (none, some 18, .mv (.t 0), [])), (8, false, (none, some 19, .nck (.t 18), [7])), (9, false, (none, some 20, .fad 0 (.t 19), [8])), (10, false, (none, some 21, .fad 0 (.t 20), [9])), (11, false, (none, some 22, .ld (.int .i64) (.t 21), [10])), (12, false, (none, some 23, .bin .add (.t 17) (.t 22), [6, 11])), (13, false, (none, some 24, .mv (.t 0), [])), (14, false, (none, some 25, .nck (.t 24), [13])), (15, false, (none, some 26, .fad 0 (.t 25), [14])), (16, false, (none, some 27, .fad 0 (.t 26), [15])), (17, false, (none, some 28, .ld (.int .i64) (.t 27), [16])), (18, false, (none, some 29, .build [.int .u32 0, .int .i64 0, .int .i64 0, .int .i64 0] [(0, 1, .t 16), (1, 1, .t 23), (2, 1, .t 28), (3, 1, .c (.int .i64 0))], [5, 12, 17])), (19, false, (none, some 30, .bsl 4 [.int .u32 0, .int .i64 0, .int .i64 0, .int .i64 0] 1 [(0, .t 29)], [18])), (20, true, (none, some 31, .app 4 (.t 15) (.t 30), [4, 19])), (21, false, (none, some 32, .nck (.t 11), [0, 0, 1, 2, 3, 4, 5, 6, 7, 8, 9, 10, 11, 12, 13, 14, 15, 16, 17, 18, 19, 20])), (22, false, (none, some 33, .fad 2 (.t 32), [21, 0, 1, 2, 3, 4, 5, 6, 7, 8, 9, 10, 11, 12, 13, 14, 15, 16, 17, 18, 19, 20])), (23, true, (none, none, .st 1 (.t 33) (.t 31), [22, 20, 20, 0, 1, 2, 3, 4, 5, 6, 7, 8, 9, 10, 11, 12, 13, 14, 15, 16, 17, 18, 19, 20]))]
def d77_0 : List It := pk l77_0
def o77_0 : List (Nat × Bool) := po l77_0
theorem l77_0_ok : okDraw d77_0 o77_0 = true ∧ mkL d77_0 o77_0 = some l77_0 := ⟨by kernel_rfl, by kernel_rfl⟩

def c77 : List C :=
  [.q 6 (.mv (.c (.bool false))), .m 7 0, .m 8 1, .q 9 (.call 91 [.t 7, .t 8]), .q 10 (.bin .geq (.t 9) (.c (.int .i64 0))), .cond (.t 10) [.q 6 (.mv (.c (.bool false))), .ret] [], .draw d77_0, .q 6 (.mv (.c (.bool true))), .ret]
def r77 : List RV :=
  [.t 6]
theorem c77_ok : cC Try.prog Try.f77.ntmps (Try.f77.body.getD .skip) = some c77 := by kernel_rfl

def c78 : List C :=
  [.q 2 (.mv (.c (.int .u64 0))), .q 3 (.mv (.c (.int .u64 1))), .q 4 (.mv (.c (.int .i64 0))), .blk 0 [.loop [.m 5 4, .m 6 0, .q 7 (.bin .lss (.t 5) (.t 6)), .cond (.t 7) [] [.exit 0], .blk 1 [.m 10 3, .q 11 (.bin .mul (.t 10) (.c (.int .u64 128))), .m 3 11], .m 8 4, .q 9 (.bin .add (.t 8) (.c (.int .i64 1))), .m 4 9]], .m 12 3, .m 2 12, .ret]
def r78 : List RV :=
  [.t 2]
theorem c78_ok : cC Try.prog Try.f78.ntmps (Try.f78.body.getD .skip) = some c78 := by kernel_rfl

def c79 : List C :=
  [.q 2 (.mv (.c (.str []))), .m 3 0, .q 4 (.cvi .u8 (.t 3)), .m 5 0, .q 6 (.bin .shr (.t 5) (.c (.int .u64 8))), .q 7 (.cvi .u8 (.t 6)), .m 8 0, .q 9 (.bin .shr (.t 8) (.c (.int .u64 16))), .q 10 (.cvi .u8 (.t 9)), .m 11 0, .q 12 (.bin .shr (.t 11) (.c (.int .u64 24))), .q 13 (.cvi .u8 (.t 12)), .q 14 (.bsl 1 [.int .u8 0] 4 [(0, .t 4), (1, .t 7), (2, .t 10), (3, .t 13)]), .q 15 (.cvb (.t 14)), .m 2 15, .ret]
def r79 : List RV :=
  [.t 2]
theorem c79_ok : cC Try.prog Try.f79.ntmps (Try.f79.body.getD .skip) = some c79 := by kernel_rfl

def c80 : List C :=
  [.q 2 (.mv (.c (.int .u32 0))), .m 3 0, .q 4 (.call 92 [.c (.int .u32 0), .t 3]), .m 2 4, .ret]
def r80 : List RV :=
  [.t 2]
theorem c80_ok : cC Try.prog Try.f80.ntmps (Try.f80.body.getD .skip) = some c80 := by kernel_rfl

def c81 : List C :=
  [.q 2 (.mv (.c (.int .u64 0))), .q 3 (.mv (.c (.int .u64 0))), .q 4 (.mv (.c (.int .i64 0))), .blk 0 [.loop [.blk 1 [.m 9 0, .q 10 (.call 83 [.t 9, .c (.int .i64 1)]), .m 5 10, .m 11 0, .q 12 (.nck (.t 11)), .q 13 (.fad 1 (.t 12)), .q 14 (.ld (.int .i64) (.t 13)), .q 15 (.bin .neq (.t 14) (.c (.int .i64 0))), .cond (.t 15) [.q 2 (.mv (.c (.int .u64 0))), .ret] [], .m 16 5, .q 17 (.ist (.t 16) (.c (.int .i64 0))), .m 6 17, .m 18 6, .q 19 (.bin .eql (.t 18) (.c (.int .u8 0))), .m 20 19, .op (some (20, true)) (some 21) (.mv (.t 4)), .op (some (20, true)) (some 22) (.bin .gtr (.t 21) (.c (.int .i64 0))), .q 23 (.pick (.t 20) (.t 22) (.c (.bool false))), .m 24 23, .op (some (24, false)) (some 25) (.mv (.t 4)), .op (some (24, false)) (some 26) (.bin .eql (.t 25) (.c (.int .i64 63))), .op (some (24, false)) (some 27) (.mv (.t 26)), .op (some (27, true)) (some 28) (.mv (.t 6)), .op (some (27, true)) (some 29) (.bin .gtr (.t 28) (.c (.int .u8 1))), .op (some (24, false)) (some 30) (.pick (.t 27) (.t 29) (.c (.bool false))), .q 31 (.pick (.t 24) (.c (.bool true)) (.t 30)), .cond (.t 31) [.m 32 0, .q 33 (.call 82 [.t 32, .c (.int .i64 2)]), .q 2 (.mv (.c (.int .u64 0))), .ret] [], .m 34 3, .m 35 6, .q 36 (.bin .and (.t 35) (.c (.int .u8 127))), .q 37 (.cvi .u64 (.t 36)), .m 38 4, .q 39 (.bin .shl (.t 37) (.t 38)), .q 40 (.bin .or (.t 34) (.t 39)), .m 3 40, .m 41 6, .q 42 (.bin .lss (.t 41) (.c (.int .u8 128))), .cond (.t 42) [.m 43 3, .m 2 43, .ret] []], .m 7 4, .q 8 (.bin .add (.t 7) (.c (.int .i64 7))), .m 4 8]]]
def r81 : List RV :=
  [.t 2]
theorem c81_ok : cC Try.prog Try.f81.ntmps (Try.f81.body.getD .skip) = some c81 := by kernel_rfl

def c82 : List C :=
  [.m 4 0, .q 5 (.nck (.t 4)), .q 6 (.fad 1 (.t 5)), .q 7 (.ld (.int .i64) (.t 6)), .q 8 (.bin .eql (.t 7) (.c (.int .i64 0))), .m 9 8, .op (some (9, true)) (some 10) (.mv (.t 1)), .op (some (9, true)) (some 11) (.bin .neq (.t 10) (.c (.int .i64 0))), .q 12 (.pick (.t 9) (.t 11) (.c (.bool false))), .cond (.t 12) [.m 13 0, .m 14 0, .m 15 1, .q 16 (.nck (.t 13)), .q 17 (.fad 1 (.t 16)), .op none none (.st 1 (.t 17) (.t 15)), .q 18 (.nck (.t 14)), .q 19 (.fad 0 (.t 18)), .op none none (.st 1 (.t 19) (.c (.str [])))] []]
def r82 : List RV :=
  []
theorem c82_ok : cC Try.prog Try.f82.ntmps (Try.f82.body.getD .skip) = some c82 := by kernel_rfl

def c83 : List C :=
  [.q 4 (.mv (.c (.str []))), .blk 0 [.m 7 0, .q 8 (.nck (.t 7)), .q 9 (.fad 1 (.t 8)), .q 10 (.ld (.int .i64) (.t 9)), .q 11 (.bin .neq (.t 10) (.c (.int .i64 0))), .m 12 11, .op (some (12, false)) (some 13) (.mv (.t 1)), .op (some (12, false)) (some 14) (.bin .leq (.t 13) (.c (.int .i64 0))), .q 15 (.pick (.t 12) (.c (.bool true)) (.t 14)), .m 6 15, .cond (.t 6) [.q 4 (.mv (.c (.str []))), .ret] [.m 17 1, .m 18 0, .q 19 (.nck (.t 18)), .q 20 (.fad 0 (.t 19)), .q 21 (.ld .str (.t 20)), .q 22 (.len true (.t 21)), .q 23 (.bin .gtr (.t 17) (.t 22)), .m 16 23, .cond (.t 16) [.m 24 0, .q 25 (.call 82 [.t 24, .c (.int .i64 1)]), .q 4 (.mv (.c (.str []))), .ret] []]], .m 26 0, .q 27 (.nck (.t 26)), .q 28 (.fad 0 (.t 27)), .q 29 (.ld .str (.t 28)), .m 30 1, .q 31 (.ssl (.t 29) none (some (.t 30))), .m 5 31, .m 32 0, .m 33 0, .q 34 (.nck (.t 33)), .q 35 (.fad 0 (.t 34)), .q 36 (.ld .str (.t 35)), .m 37 1, .q 38 (.ssl (.t 36) (some (.t 37)) none), .q 39 (.nck (.t 32)), .q 40 (.fad 0 (.t 39)), .op none none (.st 1 (.t 40) (.t 38)), .m 41 5, .m 4 41, .ret]
def r83 : List RV :=
  [.t 4]
theorem c83_ok : cC Try.prog Try.f83.ntmps (Try.f83.body.getD .skip) = some c83 := by kernel_rfl

def c84 : List C :=
  [.q 4 (.mv (.c (.int .i64 0))), .m 6 0, .q 7 (.len false (.t 6)), .q 8 (.mv (.c (.int .i64 0))), .blk 0 [.loop [.q 9 (.bin .lss (.t 8) (.t 7)), .cond (.t 9) [] [.exit 0], .blk 1 [.m 10 8, .m 5 10, .m 11 1, .m 12 0, .m 13 5, .q 14 (.iad 4 (.t 12) (.t 13)), .q 15 (.ldn [.int .u32, .int .i64, .int .i64, .int .i64] (.t 14)), .q 16 (.callv (.t 11) [.t 15]), .cond (.t 16) [.m 17 5, .m 4 17, .ret] []], .q 18 (.bin .add (.t 8) (.c (.int .i64 1))), .m 8 18]], .q 4 (.mv (.c (.int .i64 (-1)))), .ret]
def r84 : List RV :=
  [.t 4]
theorem c84_ok : cC Try.prog Try.f84.ntmps (Try.f84.body.getD .skip) = some c84 := by kernel_rfl

def c85 : List C :=
  [.q 4 (.mv (.c (.int .i64 0))), .m 6 0, .q 7 (.len false (.t 6)), .q 8 (.mv (.c (.int .i64 0))), .blk 0 [.loop [.q 9 (.bin .lss (.t 8) (.t 7)), .cond (.t 9) [] [.exit 0], .blk 1 [.m 10 8, .m 5 10, .m 11 1, .m 12 0, .m 13 5, .q 14 (.iad 1 (.t 12) (.t 13)), .q 15 (.ld (.int .u32) (.t 14)), .q 16 (.bin .eql (.t 11) (.t 15)), .cond (.t 16) [.m 17 5, .m 4 17, .ret] []], .q 18 (.bin .add (.t 8) (.c (.int .i64 1))), .m 8 18]], .q 4 (.mv (.c (.int .i64 (-1)))), .ret]
def r85 : List RV :=
  [.t 4]
theorem c85_ok : cC Try.prog Try.f85.ntmps (Try.f85.body.getD .skip) = some c85 := by kernel_rfl

def c86 : List C :=
  [.q 4 (.mv (.c (.int .i64 0))), .m 6 0, .q 7 (.len false (.t 6)), .q 8 (.mv (.c (.int .i64 0))), .blk 0 [.loop [.q 9 (.bin .lss (.t 8) (.t 7)), .cond (.t 9) [] [.exit 0], .blk 1 [.m 10 8, .m 5 10, .m 11 1, .m 12 0, .m 13 5, .q 14 (.iad 2 (.t 12) (.t 13)), .q 15 (.ldn [.int .u32, .str] (.t 14)), .q 16 (.callv (.t 11) [.t 15]), .cond (.t 16) [.m 17 5, .m 4 17, .ret] []], .q 18 (.bin .add (.t 8) (.c (.int .i64 1))), .m 8 18]], .q 4 (.mv (.c (.int .i64 (-1)))), .ret]
def r86 : List RV :=
  [.t 4]
theorem c86_ok : cC Try.prog Try.f86.ntmps (Try.f86.body.getD .skip) = some c86 := by kernel_rfl

def l87_0 : List (Nat × Bool × It) :=
  [(0, false, (none, some 8, .fad 1 (.t 3), [])), (1, false, (none, some 9, .ld .str (.t 8), [0])), (2, false, (none, some 10, .len true (.t 9), [1])), (3, false, (none, some 11, .bin .gtr (.t 10) (.c (.int .i64 200)), [2])), (4, false, (none, some 12, .mv (.t 11), [3])), (5, false, (some (12, false), some 13, .mv (.t 0), [4])), (6, false, (some (12, false), some 14, .nck (.t 13), [5, 4])), (7, false, (some (12, false), some 15, .fad 0 (.t 14), [6, 4])), (8, false, (some (12, false), some 16, .ld .str (.t 15), [7, 4])), (9, false, (some (12, false), some 17, .len true (.t 16), [8, 4])), (10, false, (some (12, false), some 18, .fad 1 (.t 3), [4])), (11, false, (some (12, false), some 19, .ld .str (.t 18), [10, 4])), (12, false, (some (12, false), some 20, .len true (.t 19), [11, 4])), (13, false, (some (12, false), some 21, .bin .add (.t 17) (.t 20), [9, 12, 4])), (14, false, (some (12, false), some 22, .bin .gtr (.t 21) (.c (.int .i64 65536)), [13, 4])), (15, false, (none, some 23, .pick (.t 12) (.c (.bool true)) (.t 22), [4, 14]))]
def d87_0 : List It := pk l87_0
def o87_0 : List (Nat × Bool) := po l87_0
theorem l87_0_ok : okDraw d87_0 o87_0 = true ∧ mkL d87_0 o87_0 = some l87_0 := ⟨by kernel_rfl, by kernel_rfl⟩

def l87_1 : List (Nat × Bool × It) :=
  [(0, false, (none, some 24, .mv (.t 0), [])), (1, false, (none, some 25, .nck (.t 24), [0])), (2, false, (none, some 26, .fad 0 (.t 25), [1])), (3, false, (none, some 27, .ld .str (.t 26), [2])), (4, false, (none, some 28, .fad 1 (.t 3), [])), (5, false, (none, some 29, .ld .str (.t 28), [4])), (6, false, (none, some 30, .bin .add (.t 27) (.t 29), [3, 5])), (7, false, (none, some 31, .nck (.t 24), [0, 0, 1, 2, 3, 4, 5, 6])), (8, false, (none, some 32, .fad 0 (.t 31), [7, 0, 1, 2, 3, 4, 5, 6])), (9, true, (none, none, .st 1 (.t 32) (.t 30), [8, 6, 0, 1, 2, 3, 4, 5, 6]))]
def d87_1 : List It := pk l87_1
def o87_1 : List (Nat × Bool) := po l87_1
theorem l87_1_ok : okDraw d87_1 o87_1 = true ∧ mkL d87_1 o87_1 = some l87_1 := ⟨by kernel_rfl, by kernel_rfl⟩

def c87 : List C :=
  [.q 3 (.box (.t 1)), .q 4 (.mv (.c (.str []))), .q 5 (.mv (.c (.bool false))), .q 6 (.mv (.c (.int .i64 0))), .draw d87_0, .cond (.t 23) [.q 4 (.mv (.c (.str []))), .q 5 (.mv (.c (.bool false))), .q 6 (.mv (.c (.int .i64 3))), .ret] [], .draw d87_1, .m 33 0, .q 34 (.nck (.t 33)), .q 35 (.fad 1 (.t 34)), .q 36 (.ld (.int .i64) (.t 35)), .q 37 (.bin .add (.t 36) (.c (.int .i64 1))), .q 38 (.nck (.t 33)), .q 39 (.fad 1 (.t 38)), .op none none (.st 1 (.t 39) (.t 37)), .q 40 (.fad 0 (.t 3)), .q 41 (.ld .bool (.t 40)), .q 42 (.un .not (.t 41)), .cond (.t 42) [.q 4 (.mv (.c (.str []))), .q 5 (.mv (.c (.bool false))), .q 6 (.mv (.c (.int .i64 0))), .ret] [], .m 43 0, .q 44 (.nck (.t 43)), .q 45 (.fad 0 (.t 44)), .q 46 (.ld .str (.t 45)), .m 7 46, .m 47 0, .m 48 0, .q 49 (.nck (.t 47)), .q 50 (.fad 0 (.t 49)), .op none none (.st 1 (.t 50) (.c (.str []))), .q 51 (.nck (.t 48)), .q 52 (.fad 1 (.t 51)), .op none none (.st 1 (.t 52) (.c (.int .i64 0))), .m 53 7, .m 4 53, .q 5 (.mv (.c (.bool true))), .q 6 (.mv (.c (.int .i64 0))), .ret]
def r87 : List RV :=
  [.t 4, .t 5, .t 6]
theorem c87_ok : cC Try.prog Try.f87.ntmps (Try.f87.body.getD .skip) = some c87 := by kernel_rfl

def c88 : List C :=
  [.q 6 (.mv (.c (.int .i64 20))), .m 10 6, .q 7 (.mv (.c (.int .i64 0))), .m 8 10, .blk 0 [.loop [.m 11 8, .m 12 1, .q 13 (.bin .leq (.t 11) (.t 12)), .cond (.t 13) [] [.exit 0], .blk 1 [.m 14 0, .m 15 7, .m 16 8, .m 17 2, .q 18 (.call 93 [.t 14, .t 15, .t 16, .t 17]), .m 19 8, .m 7 19, .m 20 8, .m 21 6, .q 22 (.bin .add (.t 20) (.t 21)), .m 8 22]]], .m 23 0, .m 24 7, .m 25 1, .m 26 2, .q 27 (.call 93 [.t 23, .t 24, .t 25, .t 26]), .blk 2 [.loop [.m 28 6, .m 29 1, .q 30 (.bin .lss (.t 28) (.t 29)), .cond (.t 30) [] [.exit 2], .blk 3 [.m 31 6, .q 32 (.bin .mul (.c (.int .i64 2)) (.t 31)), .q 7 (.mv (.c (.int .i64 0))), .m 8 32, .blk 4 [.loop [.m 33 8, .m 34 1, .q 35 (.bin .leq (.t 33) (.t 34)), .cond (.t 35) [] [.exit 4], .blk 5 [.m 36 0, .m 37 7, .m 38 7, .m 39 6, .q 40 (.bin .add (.t 38) (.t 39)), .m 41 8, .m 42 2, .q 43 (.call 94 [.t 36, .t 37, .t 40, .t 41, .t 42]), .m 44 8, .m 7 44, .m 45 8, .m 46 6, .q 47 (.bin .mul (.c (.int .i64 2)) (.t 46)), .q 48 (.bin .add (.t 45) (.t 47)), .m 8 48]]], .m 49 7, .m 50 6, .q 51 (.bin .add (.t 49) (.t 50)), .m 9 51, .m 52 9, .m 53 1, .q 54 (.bin .lss (.t 52) (.t 53)), .cond (.t 54) [.m 55 0, .m 56 7, .m 57 9, .m 58 1, .m 59 2, .q 60 (.call 94 [.t 55, .t 56, .t 57, .t 58, .t 59])] [], .m 61 6, .q 62 (.bin .mul (.t 61) (.c (.int .i64 2))), .m 6 62]]]]
def r88 : List RV :=
  []
theorem c88_ok : cC Try.prog Try.f88.ntmps (Try.f88.body.getD .skip) = some c88 := by kernel_rfl

def c89 : List C :=
  [.q 2 (.mv (.c (.bool false))), .m 3 0, .m 4 0, .q 5 (.bin .neq (.t 3) (.t 4)), .m 2 5, .ret]
def r89 : List RV :=
  [.t 2]
theorem c89_ok : cC Try.prog Try.f89.ntmps (Try.f89.body.getD .skip) = some c89 := by kernel_rfl

def l90_0 : List (Nat × Bool × It) :=
  [(0, false, (none, some 3, .mv (.t 0), [])), (1, false, (none, some 4, .nck (.t 3), [0])), (2, false, (none, some 5, .fad 1 (.t 4), [1])), (3, false, (none, some 6, .ld .any (.t 5), [2])), (4, false, (none, some 7, .len false (.t 6), [3])), (5, false, (none, some 8, .bin .eql (.t 7) (.c (.int .i64 0)), [4])), (6, false, (none, some 9, .mv (.t 8), [5])), (7, false, (some (9, false), some 10, .mv (.t 0), [6])), (8, false, (some (9, false), some 11, .nck (.t 10), [7, 6])), (9, false, (some (9, false), some 12, .fad 0 (.t 11), [8, 6])), (10, false, (some (9, false), some 13, .ld (.int .u32) (.t 12), [9, 6])), (11, false, (some (9, false), some 14, .mv (.t 0), [6])), (12, false, (some (9, false), some 15, .nck (.t 14), [11, 6])), (13, false, (some (9, false), some 16, .fad 1 (.t 15), [12, 6])), (14, false, (some (9, false), some 17, .ld .any (.t 16), [13, 6])), (15, false, (some (9, false), some 18, .iad 2 (.t 17) (.c (.int .i64 0)), [14, 6])), (16, false, (some (9, false), some 19, .fad 0 (.t 18), [15, 6])), (17, false, (some (9, false), some 20, .ld (.int .u32) (.t 19), [16, 6])), (18, false, (some (9, false), some 21, .bin .sub (.t 13) (.t 20), [10, 17, 6])), (19, false, (some (9, false), some 22, .bin .lss (.t 21) (.c (.int .u32 32)), [18, 6])), (20, false, (none, some 23, .pick (.t 9) (.c (.bool true)) (.t 22), [6, 19])), (21, false, (none, some 2, .mv (.t 23), [20, 6, 0, 1, 2, 3, 4, 5, 6, 7, 8, 9, 10, 11, 12, 13, 14, 15, 16, 17, 18, 19, 20]))]
def d90_0 : List It := pk l90_0
def o90_0 : List (Nat × Bool) := po l90_0
theorem l90_0_ok : okDraw d90_0 o90_0 = true ∧ mkL d90_0 o90_0 = some l90_0 := ⟨by kernel_rfl, by kernel_rfl⟩

def c90 : List C :=
  [.q 2 (.mv (.c (.bool false))), .draw d90_0, .ret]
def r90 : List RV :=
  [.t 2]
theorem c90_ok : cC Try.prog Try.f90.ntmps (Try.f90.body.getD .skip) = some c90 := by kernel_rfl

def c91 : List C :=
  [.q 3 (.box (.t 1)), .q 4 (.mv (.c (.int .i64 0))), .m 5 0, .q 6 (.nck (.t 5)), .q 7 (.fad 2 (.t 6)), .q 8 (.ld .any (.t 7)), .q 9 (.mkfn 95 [] [.t 3]), .q 10 (.call 84 [.t 8, .t 9]), .m 4 10, .ret]
def r91 : List RV :=
  [.t 4]
theorem c91_ok : cC Try.prog Try.f91.ntmps (Try.f91.body.getD .skip) = some c91 := by kernel_rfl

def c92 : List C :=
  [.q 4 (.mv (.c (.int .u32 0))), .m 8 0, .q 9 (.un .xor (.t 8)), .m 0 9, .m 10 1, .q 11 (.len false (.t 10)), .q 12 (.mv (.c (.int .i64 0))), .blk 0 [.loop [.q 13 (.bin .lss (.t 12) (.t 11)), .cond (.t 13) [] [.exit 0], .blk 1 [.q 14 (.iad 1 (.t 10) (.t 12)), .q 15 (.ld .str (.t 14)), .m 6 15, .m 16 6, .q 17 (.len true (.t 16)), .q 18 (.mv (.c (.int .i64 0))), .blk 2 [.loop [.q 19 (.bin .lss (.t 18) (.t 17)), .cond (.t 19) [] [.exit 2], .blk 3 [.m 20 18, .m 7 20, .m 21 0, .q 22 (.bin .shr (.t 21) (.c (.int .u64 8))), .m 23 0, .m 24 6, .m 25 7, .q 26 (.ist (.t 24) (.t 25)), .q 27 (.cvi .u32 (.t 26)), .q 28 (.bin .xor (.t 23) (.t 27)), .q 29 (.bin .and (.t 28) (.c (.int .u32 255))), .q 30 (.call 96 [.t 29]), .q 31 (.bin .xor (.t 22) (.t 30)), .m 0 31], .q 32 (.bin .add (.t 18) (.c (.int .i64 1))), .m 18 32]]], .q 33 (.bin .add (.t 12) (.c (.int .i64 1))), .m 12 33]], .m 34 0, .q 35 (.un .xor (.t 34)), .m 4 35, .ret]
def r92 : List RV :=
  [.t 4]
theorem c92_ok : cC Try.prog Try.f92.ntmps (Try.f92.body.getD .skip) = some c92 := by kernel_rfl

def l93_0 : List (Nat × Bool × It) :=
  [(0, false, (none, some 18, .mv (.t 9), [])), (1, false, (none, some 19, .mv (.t 1), [])), (2, false, (none, some 20, .bin .gtr (.t 18) (.t 19), [0, 1])), (3, false, (none, some 21, .mv (.t 20), [2])), (4, false, (some (21, true), some 22, .mv (.t 3), [3])), (5, false, (some (21, true), some 23, .mv (.t 0), [3])), (6, false, (some (21, true), some 24, .mv (.t 9), [3])), (7, false, (some (21, true), some 25, .iad 4 (.t 23) (.t 24), [5, 6, 3])), (8, false, (some (21, true), some 26, .ldn [.int .u32, .int .i64, .int .i64, .int .i64] (.t 25), [7, 3])), (9, false, (some (21, true), some 27, .mv (.t 0), [3])), (10, false, (some (21, true), some 28, .mv (.t 9), [3])), (11, false, (some (21, true), some 29, .bin .sub (.t 28) (.c (.int .i64 1)), [10, 3])), (12, false, (some (21, true), some 30, .iad 4 (.t 27) (.t 29), [9, 11, 3])), (13, false, (some (21, true), some 31, .ldn [.int .u32, .int .i64, .int .i64, .int .i64] (.t 30), [12, 3])), (14, true, (some (21, true), some 32, .callv (.t 22) [.t 26, .t 31], [4, 8, 13, 3, 3])), (15, false, (some (21, true), some 33, .bin .lss (.t 32) (.c (.int .i64 0)), [14, 3])), (16, false, (none, some 34, .pick (.t 21) (.t 33) (.c (.bool false)), [3, 15]))]
def d93_0 : List It := pk l93_0
def o93_0 : List (Nat × Bool) := po l93_0
theorem l93_0_ok : okDraw d93_0 o93_0 = true ∧ mkL d93_0 o93_0 = some l93_0 := ⟨by kernel_rfl, by kernel_rfl⟩

def l93_1 : List (Nat × Bool × It) :=
  [(0, false, (none, some 37, .mv (.t 0), [])), (1, false, (none, some 38, .mv (.t 9), [])), (2, false, (none, some 39, .mv (.t 0), [])), (3, false, (none, some 40, .mv (.t 9), [])), (4, false, (none, some 41, .bin .sub (.t 40) (.c (.int .i64 1)), [3])), (5, false, (none, some 42, .mv (.t 0), [])), (6, false, (none, some 43, .mv (.t 9), [])), (7, false, (none, some 44, .bin .sub (.t 43) (.c (.int .i64 1)), [6])), (8, false, (none, some 45, .iad 4 (.t 42) (.t 44), [5, 7])), (9, false, (none, some 46, .ldn [.int .u32, .int .i64, .int .i64, .int .i64] (.t 45), [8])), (10, false, (none, some 47, .mv (.t 0), [])), (11, false, (none, some 48, .mv (.t 9), [])), (12, false, (none, some 49, .iad 4 (.t 47) (.t 48), [10, 11])), (13, false, (none, some 50, .ldn [.int .u32, .int .i64, .int .i64, .int .i64] (.t 49), [12])), (14, false, (none, some 51, .iad 4 (.t 37) (.t 38), [0, 1, 0, 1, 5, 6, 7, 8, 9, 13])), (15, true, (none, none, .st 4 (.t 51) (.t 46), [14, 9, 0, 1, 5, 6, 7, 8, 9, 13])), (16, false, (none, some 52, .iad 4 (.t 39) (.t 41), [2, 4, 0, 1, 2, 3, 4, 5, 6, 7, 8, 9, 10, 11, 12, 13, 14, 15])), (17, true, (none, none, .st 4 (.t 52) (.t 50), [16, 13, 15, 0, 1, 2, 3, 4, 5, 6, 7, 8, 9, 10, 11, 12, 13, 14, 15]))]
def d93_1 : List It := pk l93_1
def o93_1 : List (Nat × Bool) := po l93_1
theorem l93_1_ok : okDraw d93_1 o93_1 = true ∧ mkL d93_1 o93_1 = some l93_1 := ⟨by kernel_rfl, by kernel_rfl⟩

def c93 : List C :=
  [.m 10 1, .q 11 (.bin .add (.t 10) (.c (.int .i64 1))), .m 8 11, .blk 0 [.loop [.m 12 8, .m 13 2, .q 14 (.bin .lss (.t 12) (.t 13)), .cond (.t 14) [] [.exit 0], .blk 1 [.m 17 8, .m 9 17, .blk 2 [.loop [.draw d93_0, .cond (.t 34) [] [.exit 2], .blk 3 [.draw d93_1], .m 35 9, .q 36 (.bin .sub (.t 35) (.c (.int .i64 1))), .m 9 36]]], .m 15 8, .q 16 (.bin .add (.t 15) (.c (.int .i64 1))), .m 8 16]]]
def r93 : List RV :=
  []
theorem c93_ok : cC Try.prog Try.f93.ntmps (Try.f93.body.getD .skip) = some c93 := by kernel_rfl

def l94_0 : List (Nat × Bool × It) :=
  [(0, false, (none, some 40, .mv (.t 4), [])), (1, false, (none, some 41, .mv (.t 0), [])), (2, false, (none, some 42, .mv (.t 12), [])), (3, false, (none, some 43, .iad 4 (.t 41) (.t 42), [1, 2])), (4, false, (none, some 44, .ldn [.int .u32, .int .i64, .int .i64, .int .i64] (.t 43), [3])), (5, false, (none, some 45, .mv (.t 0), [])), (6, false, (none, some 46, .mv (.t 1), [])), (7, false, (none, some 47, .iad 4 (.t 45) (.t 46), [5, 6])), (8, false, (none, some 48, .ldn [.int .u32, .int .i64, .int .i64, .int .i64] (.t 47), [7])), (9, true, (none, some 49, .callv (.t 40) [.t 44, .t 48], [0, 4, 8])), (10, false, (none, some 50, .bin .lss (.t 49) (.c (.int .i64 0)), [9]))]
def d94_0 : List It := pk l94_0
def o94_0 : List (Nat × Bool) := po l94_0
theorem l94_0_ok : okDraw d94_0 o94_0 = true ∧ mkL d94_0 o94_0 = some l94_0 := ⟨by kernel_rfl, by kernel_rfl⟩

def l94_1 : List (Nat × Bool × It) :=
  [(0, false, (none, some 61, .mv (.t 0), [])), (1, false, (none, some 62, .mv (.t 13), [])), (2, false, (none, some 63, .mv (.t 0), [])), (3, false, (none, some 64, .mv (.t 13), [])), (4, false, (none, some 65, .bin .add (.t 64) (.c (.int .i64 1)), [3])), (5, false, (none, some 66, .mv (.t 0), [])), (6, false, (none, some 67, .mv (.t 13), [])), (7, false, (none, some 68, .bin .add (.t 67) (.c (.int .i64 1)), [6])), (8, false, (none, some 69, .iad 4 (.t 66) (.t 68), [5, 7])), (9, false, (none, some 70, .ldn [.int .u32, .int .i64, .int .i64, .int .i64] (.t 69), [8])), (10, false, (none, some 71, .mv (.t 0), [])), (11, false, (none, some 72, .mv (.t 13), [])), (12, false, (none, some 73, .iad 4 (.t 71) (.t 72), [10, 11])), (13, false, (none, some 74, .ldn [.int .u32, .int .i64, .int .i64, .int .i64] (.t 73), [12])), (14, false, (none, some 75, .iad 4 (.t 61) (.t 62), [0, 1, 0, 1, 5, 6, 7, 8, 9, 13])), (15, true, (none, none, .st 4 (.t 75) (.t 70), [14, 9, 0, 1, 5, 6, 7, 8, 9, 13])), (16, false, (none, some 76, .iad 4 (.t 63) (.t 65), [2, 4, 0, 1, 2, 3, 4, 5, 6, 7, 8, 9, 10, 11, 12, 13, 14, 15])), (17, true, (none, none, .st 4 (.t 76) (.t 74), [16, 13, 15, 0, 1, 2, 3, 4, 5, 6, 7, 8, 9, 10, 11, 12, 13, 14, 15]))]
def d94_1 : List It := pk l94_1
def o94_1 : List (Nat × Bool) := po l94_1
theorem l94_1_ok : okDraw d94_1 o94_1 = true ∧ mkL d94_1 o94_1 = some l94_1 := ⟨by kernel_rfl, by kernel_rfl⟩

def l94_2 : List (Nat × Bool × It) :=
  [(0, false, (none, some 92, .mv (.t 4), [])), (1, false, (none, some 93, .mv (.t 0), [])), (2, false, (none, some 94, .mv (.t 2), [])), (3, false, (none, some 95, .iad 4 (.t 93) (.t 94), [1, 2])), (4, false, (none, some 96, .ldn [.int .u32, .int .i64, .int .i64, .int .i64] (.t 95), [3])), (5, false, (none, some 97, .mv (.t 0), [])), (6, false, (none, some 98, .mv (.t 16), [])), (7, false, (none, some 99, .iad 4 (.t 97) (.t 98), [5, 6])), (8, false, (none, some 100, .ldn [.int .u32, .int .i64, .int .i64, .int .i64] (.t 99), [7])), (9, true, (none, some 101, .callv (.t 92) [.t 96, .t 100], [0, 4, 8])), (10, false, (none, some 102, .bin .lss (.t 101) (.c (.int .i64 0)), [9])), (11, false, (none, some 103, .un .not (.t 102), [10]))]
def d94_2 : List It := pk l94_2
def o94_2 : List (Nat × Bool) := po l94_2
theorem l94_2_ok : okDraw d94_2 o94_2 = true ∧ mkL d94_2 o94_2 = some l94_2 := ⟨by kernel_rfl, by kernel_rfl⟩

def l94_3 : List (Nat × Bool × It) :=
  [(0, false, (none, some 113, .mv (.t 0), [])), (1, false, (none, some 114, .mv (.t 17), [])), (2, false, (none, some 115, .mv (.t 0), [])), (3, false, (none, some 116, .mv (.t 17), [])), (4, false, (none, some 117, .bin .sub (.t 116) (.c (.int .i64 1)), [3])), (5, false, (none, some 118, .mv (.t 0), [])), (6, false, (none, some 119, .mv (.t 17), [])), (7, false, (none, some 120, .bin .sub (.t 119) (.c (.int .i64 1)), [6])), (8, false, (none, some 121, .iad 4 (.t 118) (.t 120), [5, 7])), (9, false, (none, some 122, .ldn [.int .u32, .int .i64, .int .i64, .int .i64] (.t 121), [8])), (10, false, (none, some 123, .mv (.t 0), [])), (11, false, (none, some 124, .mv (.t 17), [])), (12, false, (none, some 125, .iad 4 (.t 123) (.t 124), [10, 11])), (13, false, (none, some 126, .ldn [.int .u32, .int .i64, .int .i64, .int .i64] (.t 125), [12])), (14, false, (none, some 127, .iad 4 (.t 113) (.t 114), [0, 1, 0, 1, 5, 6, 7, 8, 9, 13])), (15, true, (none, none, .st 4 (.t 127) (.t 122), [14, 9, 0, 1, 5, 6, 7, 8, 9, 13])), (16, false, (none, some 128, .iad 4 (.t 115) (.t 117), [2, 4, 0, 1, 2, 3, 4, 5, 6, 7, 8, 9, 10, 11, 12, 13, 14, 15])), (17, true, (none, none, .st 4 (.t 128) (.t 126), [16, 13, 15, 0, 1, 2, 3, 4, 5, 6, 7, 8, 9, 10, 11, 12, 13, 14, 15]))]
def d94_3 : List It := pk l94_3
def o94_3 : List (Nat × Bool) := po l94_3
theorem l94_3_ok : okDraw d94_3 o94_3 = true ∧ mkL d94_3 o94_3 = some l94_3 := ⟨by kernel_rfl, by kernel_rfl⟩

def l94_4 : List (Nat × Bool × It) :=
  [(0, false, (none, some 158, .mv (.t 4), [])), (1, false, (none, some 159, .mv (.t 0), [])), (2, false, (none, some 160, .mv (.t 22), [])), (3, false, (none, some 161, .mv (.t 23), [])), (4, false, (none, some 162, .bin .sub (.t 160) (.t 161), [2, 3])), (5, false, (none, some 163, .iad 4 (.t 159) (.t 162), [1, 4])), (6, false, (none, some 164, .ldn [.int .u32, .int .i64, .int .i64, .int .i64] (.t 163), [5])), (7, false, (none, some 165, .mv (.t 0), [])), (8, false, (none, some 166, .mv (.t 23), [])), (9, false, (none, some 167, .iad 4 (.t 165) (.t 166), [7, 8])), (10, false, (none, some 168, .ldn [.int .u32, .int .i64, .int .i64, .int .i64] (.t 167), [9])), (11, true, (none, some 169, .callv (.t 158) [.t 164, .t 168], [0, 6, 10])), (12, false, (none, some 170, .bin .lss (.t 169) (.c (.int .i64 0)), [11])), (13, false, (none, some 171, .un .not (.t 170), [12]))]
def d94_4 : List It := pk l94_4
def o94_4 : List (Nat × Bool) := po l94_4
theorem l94_4_ok : okDraw d94_4 o94_4 = true ∧ mkL d94_4 o94_4 = some l94_4 := ⟨by kernel_rfl, by kernel_rfl⟩

def c94 : List C :=
  [.m 25 2, .m 26 1, .q 27 (.bin .sub (.t 25) (.t 26)), .q 28 (.bin .eql (.t 27) (.c (.int .i64 1))), .cond (.t 28) [.m 29 2, .m 10 29, .m 30 3, .m 11 30, .blk 0 [.loop [.m 31 10, .m 32 11, .q 33 (.bin .lss (.t 31) (.t 32)), .cond (.t 33) [] [.exit 0], .blk 1 [.m 34 10, .m 35 11, .q 36 (.bin .add (.t 34) (.t 35)), .q 37 (.cvi .u64 (.t 36)), .q 38 (.bin .shr (.t 37) (.c (.int .u64 1))), .q 39 (.cvi .i64 (.t 38)), .m 12 39, .draw d94_0, .cond (.t 50) [.m 51 12, .q 52 (.bin .add (.t 51) (.c (.int .i64 1))), .m 10 52] [.m 53 12, .m 11 53]]]], .m 54 1, .m 13 54, .blk 2 [.loop [.m 55 13, .m 56 10, .q 57 (.bin .sub (.t 56) (.c (.int .i64 1))), .q 58 (.bin .lss (.t 55) (.t 57)), .cond (.t 58) [] [.exit 2], .blk 3 [.draw d94_1], .m 59 13, .q 60 (.bin .add (.t 59) (.c (.int .i64 1))), .m 13 60]], .ret] [], .m 77 3, .m 78 2, .q 79 (.bin .sub (.t 77) (.t 78)), .q 80 (.bin .eql (.t 79) (.c (.int .i64 1))), .cond (.t 80) [.m 81 1, .m 14 81, .m 82 2, .m 15 82, .blk 4 [.loop [.m 83 14, .m 84 15, .q 85 (.bin .lss (.t 83) (.t 84)), .cond (.t 85) [] [.exit 4], .blk 5 [.m 86 14, .m 87 15, .q 88 (.bin .add (.t 86) (.t 87)), .q 89 (.cvi .u64 (.t 88)), .q 90 (.bin .shr (.t 89) (.c (.int .u64 1))), .q 91 (.cvi .i64 (.t 90)), .m 16 91, .draw d94_2, .cond (.t 103) [.m 104 16, .q 105 (.bin .add (.t 104) (.c (.int .i64 1))), .m 14 105] [.m 106 16, .m 15 106]]]], .m 107 2, .m 17 107, .blk 6 [.loop [.m 108 17, .m 109 14, .q 110 (.bin .gtr (.t 108) (.t 109)), .cond (.t 110) [] [.exit 6], .blk 7 [.draw d94_3], .m 111 17, .q 112 (.bin .sub (.t 111) (.c (.int .i64 1))), .m 17 112]], .ret] [], .m 129 1, .m 130 3, .q 131 (.bin .add (.t 129) (.t 130)), .q 132 (.cvi .u64 (.t 131)), .q 133 (.bin .shr (.t 132) (.c (.int .u64 1))), .q 134 (.cvi .i64 (.t 133)), .m 18 134, .m 135 18, .m 136 2, .q 137 (.bin .add (.t 135) (.t 136)), .m 19 137, .q 20 (.mv (.c (.int .i64 0))), .q 21 (.mv (.c (.int .i64 0))), .m 138 2, .m 139 18, .q 140 (.bin .gtr (.t 138) (.t 139)), .cond (.t 140) [.m 141 19, .m 142 3, .q 143 (.bin
  .sub (.t 141) (.t 142)), .m 20 143, .m 144 18, .m 21 144] [.m 145 1, .m 20 145, .m 146 2, .m 21 146], .m 147 19, .q 148 (.bin .sub (.t 147) (.c (.int .i64 1))), .m 22 148, .blk 8 [.loop [.m 149 20, .m 150 21, .q 151 (.bin .lss (.t 149) (.t 150)), .cond (.t 151) [] [.exit 8], .blk 9 [.m 152 20, .m 153 21, .q 154 (.bin .add (.t 152) (.t 153)), .q 155 (.cvi .u64 (.t 154)), .q 156 (.bin .shr (.t 155) (.c (.int .u64 1))), .q 157 (.cvi .i64 (.t 156)), .m 23 157, .draw d94_4, .cond (.t 171) [.m 172 23, .q 173 (.bin .add (.t 172) (.c (.int .i64 1))), .m 20 173] [.m 174 23, .m 21 174]]]], .m 175 19, .m 176 20, .q 177 (.bin .sub (.t 175) (.t 176)), .m 24 177, .m 178 20, .m 179 2, .q 180 (.bin .lss (.t 178) (.t 179)), .m 181 180, .op (some (181, true)) (some 182) (.mv (.t 2)), .op (some (181, true)) (some 183) (.mv (.t 24)), .op (some (181, true)) (some 184) (.bin .lss (.t 182) (.t 183)), .q 185 (.pick (.t 181) (.t 184) (.c (.bool false))), .cond (.t 185) [.m 186 0, .m 187 20, .m 188 2, .m 189 24, .m 190 4, .q 191 (.call 97 [.t 186, .t 187, .t 188, .t 189, .t 190])] [], .m 192 1, .m 193 20, .q 194 (.bin .lss (.t 192) (.t 193)), .m 195 194, .op (some (195, true)) (some 196) (.mv (.t 20)), .op (some (195, true)) (some 197) (.mv (.t 18)), .op (some (195, true)) (some 198) (.bin .lss (.t 196) (.t 197)), .q 199 (.pick (.t 195) (.t 198) (.c (.bool false))), .cond (.t 199) [.m 200 0, .m 201 1, .m 202 20, .m 203 18, .m 204 4, .q 205 (.call 94 [.t 200, .t 201, .t 202, .t 203, .t 204])] [], .m 206 18, .m 207 24, .q 208 (.bin .lss (.t 206) (.t 207)), .m 209 208, .op (some (209, true)) (some 210) (.mv (.t 24)), .op (some (209, true)) (some 211) (.mv (.t 3)), .op (some (209, true)) (some 212) (.bin .lss (.t 210) (.t 211)), .q 213 (.pick (.t 209) (.t 212) (.c (.bool false))), .cond (.t 213) [.m 214 0, .m 215 18, .m 216 24, .m 217 3, .m 218 4, .q 219 (.call 94 [.t 214, .t 215, .t 216, .t 217, .t 218])] []]
def r94 : List RV :=
  []
theorem c94_ok : cC Try.prog Try.f94.ntmps (Try.f94.body.getD .skip) = some c94 := by kernel_rfl

def c95 : List C :=
  [.q 2 (.box (.t 0)), .q 3 (.mv (.c (.bool false))), .q 4 (.fad 0 (.t 2)), .q 5 (.ld (.int .u32) (.t 4)), .q 6 (.ld (.int .u32) (.t 1)), .q 7 (.bin .eql (.t 5) (.t 6)), .m 3 7, .ret]
def r95 : List RV :=
  [.t 3]
theorem c95_ok : cC Try.prog Try.f95.ntmps (Try.f95.body.getD .skip) = some c95 := by kernel_rfl

def c96 : List C :=
  [.q 2 (.mv (.c (.int .u32 0))), .q 3 (.mv (.c (.int .i64 0))), .blk 0 [.loop [.q 4 (.bin .lss (.t 3) (.c (.int .i64 8))), .cond (.t 4) [] [.exit 0], .blk 1 [.m 5 0, .q 6 (.bin .and (.t 5) (.c (.int .u32 1))), .q 7 (.bin .eql (.t 6) (.c (.int .u32 1))), .cond (.t 7) [.m 8 0, .q 9 (.bin .shr (.t 8) (.c (.int .u64 1))), .q 10 (.bin .xor (.t 9) (.c (.int .u32 3988292384))), .m 0 10] [.m 11 0, .q 12 (.bin .shr (.t 11) (.c (.int .u64 1))), .m 0 12]], .q 13 (.bin .add (.t 3) (.c (.int .i64 1))), .m 3 13]], .m 14 0, .m 2 14, .ret]
def r96 : List RV :=
  [.t 2]
theorem c96_ok : cC Try.prog Try.f96.ntmps (Try.f96.body.getD .skip) = some c96 := by kernel_rfl

def c97 : List C :=
  [.m 12 2, .m 13 1, .q 14 (.bin .sub (.t 12) (.t 13)), .m 10 14, .m 15 3, .m 16 2, .q 17 (.bin .sub (.t 15) (.t 16)), .m 11 17, .blk 0 [.loop [.m 18 10, .m 19 11, .q 20 (.bin .neq (.t 18) (.t 19)), .cond (.t 20) [] [.exit 0], .blk 1 [.m 21 10, .m 22 11, .q 23 (.bin .gtr (.t 21) (.t 22)), .cond (.t 23) [.m 24 0, .m 25 2, .m 26 10, .q 27 (.bin .sub (.t 25) (.t 26)), .m 28 2, .m 29 11, .m 30 4, .q 31 (.call 98 [.t 24, .t 27, .t 28, .t 29, .t 30]), .m 32 10, .m 33 11, .q 34 (.bin .sub (.t 32) (.t 33)), .m 10 34] [.m 35 0, .m 36 2, .m 37 10, .q 38 (.bin .sub (.t 36) (.t 37)), .m 39 2, .m 40 11, .q 41 (.bin .add (.t 39) (.t 40)), .m 42 10, .q 43 (.bin .sub (.t 41) (.t 42)), .m 44 10, .m 45 4, .q 46 (.call 98 [.t 35, .t 38, .t 43, .t 44, .t 45]), .m 47 11, .m 48 10, .q 49 (.bin .sub (.t 47) (.t 48)), .m 11 49]]]], .m 50 0, .m 51 2, .m 52 10, .q 53 (.bin .sub (.t 51) (.t 52)), .m 54 2, .m 55 10, .m 56 4, .q 57 (.call 98 [.t 50, .t 53, .t 54, .t 55, .t 56])]
def r97 : List RV :=
  []
theorem c97_ok : cC Try.prog Try.f97.ntmps (Try.f97.body.getD .skip) = some c97 := by kernel_rfl

def l98_0 : List (Nat × Bool × It) :=
  [(0, false, (none, some 16, .mv (.t 0), [])), (1, false, (none, some 17, .mv (.t 1), [])), (2, false, (none, some 18, .mv (.t 10), [])), (3, false, (none, some 19, .bin .add (.t 17) (.t 18), [1, 2])), (4, false, (none, some 20, .mv (.t 0), [])), (5, false, (none, some 21, .mv (.t 2), [])), (6, false, (none, some 22, .mv (.t 10), [])), (7, false, (none, some 23, .bin .add (.t 21) (.t 22), [5, 6])), (8, false, (none, some 24, .mv (.t 0), [])), (9, false, (none, some 25, .mv (.t 2), [])), (10, false, (none, some 26, .mv (.t 10), [])), (11, false, (none, some 27, .bin .add (.t 25) (.t 26), [9, 10])), (12, false, (none, some 28, .iad 4 (.t 24) (.t 27), [8, 11])), (13, false, (none, some 29, .ldn [.int .u32, .int .i64, .int .i64, .int .i64] (.t 28), [12])), (14, false, (none, some 30, .mv (.t 0), [])), (15, false, (none, some 31, .mv (.t 1), [])), (16, false, (none, some 32, .mv (.t 10), [])), (17, false, (none, some 33, .bin .add (.t 31) (.t 32), [15, 16])), (18, false, (none, some 34, .iad 4 (.t 30) (.t 33), [14, 17])), (19, false, (none, some 35, .ldn [.int .u32, .int .i64, .int .i64, .int .i64] (.t 34), [18])), (20, false, (none, some 36, .iad 4 (.t 16) (.t 19), [0, 3, 0, 1, 2, 3, 8, 9, 10, 11, 12, 13, 19])), (21, true, (none, none, .st 4 (.t 36) (.t 29), [20, 13, 0, 1, 2, 3, 8, 9, 10, 11, 12, 13, 19])), (22, false, (none, some 37, .iad 4 (.t 20) (.t 23), [4, 7, 0, 1, 2, 3, 4, 5, 6, 7, 8, 9, 10, 11, 12, 13, 14, 15, 16, 17, 18, 19, 20, 21])), (23, true, (none, none, .st 4 (.t 37) (.t 35), [22, 19, 21, 0, 1, 2, 3, 4, 5, 6, 7, 8, 9, 10, 11, 12, 13, 14, 15, 16, 17, 18, 19, 20, 21]))]
def d98_0 : List It := pk l98_0
def o98_0 : List (Nat × Bool) := po l98_0
theorem l98_0_ok : okDraw d98_0 o98_0 = true ∧ mkL d98_0 o98_0 = some l98_0 := ⟨by kernel_rfl, by kernel_rfl⟩

def c98 : List C :=
  [.q 10 (.mv (.c (.int .i64 0))), .blk 0 [.loop [.m 11 10, .m 12 3, .q 13 (.bin .lss (.t 11) (.t 12)), .cond (.t 13) [] [.exit 0], .blk 1 [.draw d98_0], .m 14 10, .q 15 (.bin .add (.t 14) (.c (.int .i64 1))), .m 10 15]]]
def r98 : List RV :=
  []
theorem c98_ok : cC Try.prog Try.f98.ntmps (Try.f98.body.getD .skip) = some c98 := by kernel_rfl

def l3_0 : List (Nat × Bool × It) :=
  [(0, false, (none, some 83, .mv (.t 3), [])), (1, false, (none, some 84, .mv (.t 7), [])), (2, false, (none, some 85, .mv (.t 3), [])), (3, false, (none, some 86, .mv (.t 7), [])), (4, false, (none, some 87, .nck (.t 85), [2])), (5, false, (none, some 88, .fad 2 (.t 87), [4])), (6, false, (none, some 89, .iaa 2 (.t 88) (.t 86), [5, 3])), (7, false, (none, some 90, .ld .any (.t 89), [6])), (8, false, (none, some 91, .lsl 1 (.t 90) (some (.c (.int .i64 1))) none none, [7])), (9, false, (none, some 92, .nck (.t 83), [0])), (10, false, (none, some 93, .fad 2 (.t 92), [9])), (11, false, (none, some 94, .iaa 2 (.t 93) (.t 84), [10, 1, 0, 1, 2, 3, 4, 5, 6, 7, 8])), (12, true, (none, none, .st 1 (.t 94) (.t 91), [11, 8, 0, 1, 2, 3, 4, 5, 6, 7, 8]))]
def d3_0 : List It := pk l3_0
def l3_1 : List (Nat × Bool × It) :=
  [(0, false, (none, some 101, .mv (.t 3), [])), (1, false, (none, some 102, .nck (.t 101), [0])), (2, false, (none, some 103, .fad 0 (.t 102), [1])), (3, false, (none, some 104, .iaa 2 (.t 103) (.c (.int .i64 0)), [2])), (4, false, (none, some 105, .ld .any (.t 104), [3])), (5, true, (none, some 106, .call 10 [.t 105], [4])), (6, false, (none, some 107, .mv (.t 106), [5, 5])), (7, false, (some (107, true), some 108, .mv (.t 3), [6])), (8, false, (some (107, true), some 109, .nck (.t 108), [7, 6])), (9, false, (some (107, true), some 110, .fad 0 (.t 109), [8, 6])), (10, false, (some (107, true), some 111, .iaa 2 (.t 110) (.c (.int .i64 1)), [9, 6])), (11, false, (some (107, true), some 112, .ld .any (.t 111), [10, 6])), (12, true, (some (107, true), some 113, .call 10 [.t 112], [11, 6, 6])), (13, false, (none, some 114, .pick (.t 107) (.t 113) (.c (.bool false)), [6, 12])), (14, false, (none, some 115, .mv (.t 114), [13, 12])), (15, false, (some (115, true), some 116, .mv (.t 3), [14])), (16, false, (some (115, true), some 117, .nck (.t 116), [15, 14])), (17, false, (some (115, true), some 118, .fad 6 (.t 117), [16, 14])), (18, false, (some (115, true), some 119, .iaa 2 (.t 118) (.c (.int .i64 0)), [17, 14])), (19, false, (some (115, true), some 120, .ld .any (.t 119), [18, 14])), (20, false, (some (115, true), some 121, .len false (.t 120), [19, 14])), (21, false, (some (115, true), some 122, .mv (.t 3), [14])), (22, false, (some (115, true), some 123, .nck (.t 122), [21, 14])), (23, false, (some (115, true), some 124, .fad 4 (.t 123), [22, 14])), (24, false, (some (115, true), some 125, .iaa 2 (.t 124) (.c (.int .i64 1)), [23, 14])), (25, false, (some (115, true), some 126, .ld .any (.t 125), [24, 14])), (26, false, (some (115, true), some 127, .len false (.t 126), [25, 14])), (27, false, (some (115, true), some 128, .bin .eql (.t 121) (.t 127), [20, 26, 14])), (28, false, (none, some 129, .pick (.t 115) (.t 128) (.c (.bool false)), [14, 27])), (29, false, (none,
  some 130, .mv (.t 129), [28, 14])), (30, false, (some (130, true), some 131, .mv (.t 3), [29])), (31, false, (some (130, true), some 132, .nck (.t 131), [30, 29])), (32, false, (some (130, true), some 133, .fad 6 (.t 132), [31, 29])), (33, false, (some (130, true), some 134, .iaa 2 (.t 133) (.c (.int .i64 1)), [32, 29])), (34, false, (some (130, true), some 135, .ld .any (.t 134), [33, 29])), (35, false, (some (130, true), some 136, .len false (.t 135), [34, 29])), (36, false, (some (130, true), some 137, .mv (.t 3), [29])), (37, false, (some (130, true), some 138, .nck (.t 137), [36, 29])), (38, false, (some (130, true), some 139, .fad 4 (.t 138), [37, 29])), (39, false, (some (130, true), some 140, .iaa 2 (.t 139) (.c (.int .i64 0)), [38, 29])), (40, false, (some (130, true), some 141, .ld .any (.t 140), [39, 29])), (41, false, (some (130, true), some 142, .len false (.t 141), [40, 29])), (42, false, (some (130, true), some 143, .bin .eql (.t 136) (.t 142), [35, 41, 29])), (43, false, (none, some 144, .pick (.t 130) (.t 143) (.c (.bool false)), [29, 42])), (44, false, (none, some 2, .mv (.t 144), [43, 29, 0, 1, 2, 3, 4, 5, 6, 7, 8, 9, 10, 11, 12, 13, 14, 15, 16, 17, 18, 19, 20, 21, 22, 23, 24, 25, 26, 27, 28, 29, 30, 31, 32, 33, 34, 35, 36, 37, 38, 39, 40, 41, 42, 43]))]
def d3_1 : List It := pk l3_1
def c3 : List C :=
  [.q 2 (.mv (.c (.bool false))), .q 10 (.call 7 []), .m 9 10, .q 11 (.ext (.t 9) 0), .q 12 (.ext (.t 9) 1), .m 3 11, .m 4 12, .m 13 4, .q 14 (.un .not (.t 13)), .m 15 14, .op (some (15, false)) (some 16) (.call 8 []), .op (some (15, false)) (some 17) (.un .not (.t 16)), .q 18 (.pick (.t 15) (.c (.bool true)) (.t 17)), .cond (.t 18) [.q 2 (.mv (.c (.bool false))), .ret] [], .q 5 (.mv (.c (.int .i64 0))), .blk 0 [.loop [.m 19 5, .m 20 0, .q 21 (.len false (.t 20)), .q 22 (.bin .lss (.t 19) (.t 21)), .m 23 22, .op (some (23, true)) (some 24) (.mv (.t 5)), .op (some (23, true)) (some 25) (.bin .lss (.t 24) (.c (.int .i64 120))), .q 26 (.pick (.t 23) (.t 25) (.c (.bool false))), .cond (.t 26) [] [.exit 0], .blk 1 [.m 29 3, .m 30 0, .m 31 5, .q 32 (.iad 6 (.t 30) (.t 31)), .q 33 (.ldn [.int .i64, .int .i64, .int .i64, .int .i64, .int .u8, .str] (.t 32)), .q 34 (.call 9 [.t 29, .t 33]), .q 35 (.un .not (.t 34)), .cond (.t 35) [.q 2 (.mv (.c (.bool false))), .ret] []], .m 27 5, .q 28 (.bin .add (.t 27) (.c (.int .i64 1))), .m 5 28]], .q 6 (.mv (.c (.int .i64 0))), .blk 2 [.loop [.m 36 6, .q 37 (.bin .lss (.t 36) (.c (.int .i64 400))), .m 38 37, .op (some (38, true)) (some 39) (.mv (.t 6)), .op (some (38, true)) (some 40) (.bin .lss (.t 39) (.c (.int .i64 3))), .op (some (38, true)) (some 41) (.mv (.t 40)), .op (some (41, false)) (some 42) (.mv (.t 3)), .op (some (41, false)) (some 43) (.nck (.t 42)), .op (some (41, false)) (some 44) (.fad 0 (.t 43)), .op (some (41, false)) (some 45) (.iaa 2 (.t 44) (.c (.int .i64 0))), .op (some (41, false)) (some 46) (.ld .any (.t 45)), .op (some (41, false)) (some 47) (.call 10 [.t 46]), .op (some (41, false)) (some 48) (.un .not (.t 47)), .op (some (38, true)) (some 49) (.pick (.t 41) (.c (.bool true)) (.t 48)), .op (some (38, true)) (some 50) (.mv (.t 49)), .op (some (50, false)) (some 51) (.mv (.t 3)), .op (some (50, false)) (some 52) (.nck (.t 51)), .op (some (50, false)) (some 53) (.fad 0 (.t 52)), .op (some (50, false)) (some 54)
  (.iaa 2 (.t 53) (.c (.int .i64 1))), .op (some (50, false)) (some 55) (.ld .any (.t 54)), .op (some (50, false)) (some 56) (.call 10 [.t 55]), .op (some (50, false)) (some 57) (.un .not (.t 56)), .op (some (38, true)) (some 58) (.pick (.t 50) (.c (.bool true)) (.t 57)), .q 59 (.pick (.t 38) (.t 58) (.c (.bool false))), .cond (.t 59) [] [.exit 2], .blk 3 [.m 62 3, .q 63 (.call 11 [.t 62]), .q 64 (.mv (.c (.int .i64 0))), .blk 4 [.loop [.q 65 (.bin .lss (.t 64) (.c (.int .i64 2))), .cond (.t 65) [] [.exit 4], .blk 5 [.m 66 64, .m 7 66, .blk 6 [.loop [.m 67 3, .m 68 7, .q 69 (.nck (.t 67)), .q 70 (.fad 2 (.t 69)), .q 71 (.iaa 2 (.t 70) (.t 68)), .q 72 (.ld .any (.t 71)), .q 73 (.len false (.t 72)), .q 74 (.bin .gtr (.t 73) (.c (.int .i64 0))), .cond (.t 74) [] [.exit 6], .blk 7 [.m 75 3, .m 76 7, .q 77 (.nck (.t 75)), .q 78 (.fad 2 (.t 77)), .q 79 (.iaa 2 (.t 78) (.t 76)), .q 80 (.ld .any (.t 79)), .q 81 (.iad 1 (.t 80) (.c (.int .i64 0))), .q 82 (.ld .str (.t 81)), .m 8 82, .draw d3_0, .m 95 3, .m 96 7, .m 97 8, .q 98 (.call 12 [.t 95, .t 96, .t 97]), .q 99 (.un .not (.t 98)), .cond (.t 99) [.q 2 (.mv (.c (.bool false))), .ret] []]]]], .q 100 (.bin .add (.t 64) (.c (.int .i64 1))), .m 64 100]]], .m 60 6, .q 61 (.bin .add (.t 60) (.c (.int .i64 1))), .m 6 61]], .draw d3_1, .ret]
def r3 : List RV :=
  [.t 2]
def r5 : List RV :=
  [.t 2]
def l6_0 : List (Nat × Bool × It) :=
  [(0, false, (none, some 120, .mv (.t 5), [])), (1, false, (none, some 121, .mv (.t 18), [])), (2, false, (none, some 122, .nck (.t 120), [0])), (3, false, (none, some 123, .fad 2 (.t 122), [2])), (4, false, (none, some 124, .iaa 2 (.t 123) (.t 121), [3, 1])), (5, false, (none, some 125, .ld .any (.t 124), [4])), (6, false, (none, some 126, .len false (.t 125), [5])), (7, false, (none, some 127, .mv (.t 7), [])), (8, false, (none, some 128, .mv (.t 18), [])), (9, false, (none, some 129, .nck (.t 127), [7])), (10, false, (none, some 130, .fad 2 (.t 129), [9])), (11, false, (none, some 131, .iaa 2 (.t 130) (.t 128), [10, 8])), (12, false, (none, some 132, .ld .any (.t 131), [11])), (13, false, (none, some 133, .len false (.t 132), [12])), (14, false, (none, some 134, .bin .neq (.t 126) (.t 133), [6, 13])), (15, false, (none, some 135, .mv (.t 134), [14])), (16, false, (some (135, false), some 136, .mv (.t 5), [15])), (17, false, (some (135, false), some 137, .mv (.t 18), [15])), (18, false, (some (135, false), some 138, .nck (.t 136), [16, 15])), (19, false, (some (135, false), some 139, .fad 6 (.t 138), [18, 15])), (20, false, (some (135, false), some 140, .iaa 2 (.t 139) (.t 137), [19, 17, 15])), (21, false, (some (135, false), some 141, .ld .any (.t 140), [20, 15])), (22, false, (some (135, false), some 142, .len false (.t 141), [21, 15])), (23, false, (some (135, false), some 143, .mv (.t 7), [15])), (24, false, (some (135, false), some 144, .mv (.t 18), [15])), (25, false, (some (135, false), some 145, .nck (.t 143), [23, 15])), (26, false, (some (135, false), some 146, .fad 6 (.t 145), [25, 15])), (27, false, (some (135, false), some 147, .iaa 2 (.t 146) (.t 144), [26, 24, 15])), (28, false, (some (135, false), some 148, .ld .any (.t 147), [27, 15])), (29, false, (some (135, false), some 149, .len false (.t 148), [28, 15])), (30, false, (some (135, false), some 150, .bin .neq (.t 142) (.t 149), [22, 29, 15])), (31, false, (none, some 151, .pick (.t 135) (.c (.bool
  true)) (.t 150), [15, 30])), (32, false, (none, some 152, .mv (.t 151), [31, 15])), (33, false, (some (152, false), some 153, .mv (.t 5), [32])), (34, false, (some (152, false), some 154, .mv (.t 18), [32])), (35, false, (some (152, false), some 155, .nck (.t 153), [33, 32])), (36, false, (some (152, false), some 156, .fad 0 (.t 155), [35, 32])), (37, false, (some (152, false), some 157, .iaa 2 (.t 156) (.t 154), [36, 34, 32])), (38, false, (some (152, false), some 158, .ld .any (.t 157), [37, 32])), (40, false, (some (152, false), some 160, .mv (.t 7), [32])), (41, false, (some (152, false), some 161, .mv (.t 18), [32])), (42, false, (some (152, false), some 162, .nck (.t 160), [40, 32])), (43, false, (some (152, false), some 163, .fad 0 (.t 162), [42, 32])), (44, false, (some (152, false), some 164, .iaa 2 (.t 163) (.t 161), [43, 41, 32])), (45, false, (some (152, false), some 165, .ld .any (.t 164), [44, 32])), (39, true, (some (152, false), some 159, .call 10 [.t 158], [38, 32, 32])), (46, true, (some (152, false), some 166, .call 10 [.t 165], [45, 39, 32])), (47, false, (some (152, false), some 167, .eqb true (.t 159) (.t 166), [39, 46, 32])), (48, false, (none, some 168, .pick (.t 152) (.c (.bool true)) (.t 167), [32, 47]))]
def d6_0 : List It := pk l6_0
def o6_0 : List (Nat × Bool) := po l6_0
theorem l6_0_ok : okDraw d6_0 o6_0 = true ∧ mkL d6_0 o6_0 = some l6_0 := ⟨by kernel_rfl, by kernel_rfl⟩

def c6 : List C :=
  [.q 4 (.mv (.c (.bool false))), .q 24 (.call 7 []), .m 23 24, .q 25 (.ext (.t 23) 0), .q 26 (.ext (.t 23) 1), .m 5 25, .m 6 26, .q 28 (.call 7 []), .m 27 28, .q 29 (.ext (.t 27) 0), .q 30 (.ext (.t 27) 1), .m 7 29, .m 8 30, .m 31 6, .q 32 (.un .not (.t 31)), .m 33 32, .op (some (33, false)) (some 34) (.mv (.t 8)), .op (some (33, false)) (some 35) (.un .not (.t 34)), .q 36 (.pick (.t 33) (.c (.bool true)) (.t 35)), .m 37 36, .op (some (37, false)) (some 38) (.call 8 []), .op (some (37, false)) (some 39) (.un .not (.t 38)), .q 40 (.pick (.t 37) (.c (.bool true)) (.t 39)), .cond (.t 40) [.q 4 (.mv (.c (.bool false))), .ret] [], .m 41 1, .q 42 (.call 16 [.t 41, .c (.int .i64 80)]), .m 1 42, .m 44 1, .q 45 (.call 17 [.t 44]), .m 43 45, .q 46 (.ext (.t 43) 0), .q 47 (.ext (.t 43) 1), .q 9 (.alloc [.int .i64 0, .int .i64 0, .int .i64 0, .str []]), .op none none (.st 4 (.t 9) (.t 46)), .m 10 47, .q 11 (.mv (.c (.int .i64 0))), .blk 0 [.loop [.m 48 11, .m 49 0, .q 50 (.len false (.t 49)), .q 51 (.bin .lss (.t 48) (.t 50)), .m 52 51, .op (some (52, true)) (some 53) (.mv (.t 11)), .op (some (52, true)) (some 54) (.bin .lss (.t 53) (.c (.int .i64 80))), .q 55 (.pick (.t 52) (.t 54) (.c (.bool false))), .cond (.t 55) [] [.exit 0], .blk 1 [.m 58 10, .q 59 (.bin .neq (.t 58) (.c (.int .i64 0))), .cond (.t 59) [.m 61 7, .q 62 (.nck (.t 61)), .q 63 (.fad 0 (.t 62)), .q 64 (.iaa 2 (.t 63) (.c (.int .i64 0))), .q 65 (.ld .any (.t 64)), .q 66 (.call 15 [.t 65]), .m 60 66, .q 67 (.ext (.t 60) 0), .q 68 (.ext (.t 60) 1), .m 12 67, .m 13 68, .m 70 7, .q 71 (.nck (.t 70)), .q 72 (.fad 0 (.t 71)), .q 73 (.iaa 2 (.t 72) (.c (.int .i64 0))), .q 74 (.ld .any (.t 73)), .m 75 1, .q 76 (.call 18 [.t 74, .t 75]), .m 69 76, .q 77 (.ext (.t 69) 0), .q 78 (.ext (.t 69) 1), .m 14 77, .m 15 78, .m 80 7, .q 81 (.nck (.t 80)), .q 82 (.fad 0 (.t 81)), .q 83 (.iaa 2 (.t 82) (.c (.int .i64 0))), .q 84 (.ld .any (.t 83)), .q 85 (.call 15 [.t 84]), .m 79 85, .q 86 (.ext (.t 79) 0), .q 87 (.ext (.t 79) 1), .m
  16 86, .m 17 87, .m 88 15, .m 89 10, .q 90 (.bin .neq (.t 88) (.t 89)), .m 91 90, .op (some (91, false)) (some 92) (.mv (.t 14)), .op (some (91, false)) (some 93) (.eqn true (.t 92)), .q 94 (.pick (.t 91) (.c (.bool true)) (.t 93)), .m 95 94, .op (some (95, false)) (some 96) (.mv (.t 16)), .op (some (95, false)) (some 97) (.mv (.t 12)), .op (some (95, false)) (some 98) (.bin .add (.t 97) (.c (.int .i64 1))), .op (some (95, false)) (some 99) (.bin .neq (.t 96) (.t 98)), .q 100 (.pick (.t 95) (.c (.bool true)) (.t 99)), .cond (.t 100) [.q 4 (.mv (.c (.bool false))), .ret] []] [], .m 101 5, .m 102 0, .m 103 11, .q 104 (.iad 6 (.t 102) (.t 103)), .q 105 (.ldn [.int .i64, .int .i64, .int .i64, .int .i64, .int .u8, .str] (.t 104)), .q 106 (.call 9 [.t 101, .t 105]), .q 107 (.un .not (.t 106)), .m 108 107, .op (some (108, false)) (some 109) (.mv (.t 7)), .op (some (108, false)) (some 110) (.mv (.t 0)), .op (some (108, false)) (some 111) (.mv (.t 11)), .op (some (108, false)) (some 112) (.iad 6 (.t 110) (.t 111)), .op (some (108, false)) (some 113) (.ldn [.int .i64, .int .i64, .int .i64, .int .i64, .int .u8, .str] (.t 112)), .op (some (108, false)) (some 114) (.call 9 [.t 109, .t 113]), .op (some (108, false)) (some 115) (.un .not (.t 114)), .q 116 (.pick (.t 108) (.c (.bool true)) (.t 115)), .cond (.t 116) [.q 4 (.mv (.c (.bool false))), .ret] [], .q 117 (.mv (.c (.int .i64 0))), .blk 2 [.loop [.q 118 (.bin .lss (.t 117) (.c (.int .i64 2))), .cond (.t 118) [] [.exit 2], .blk 3 [.m 119 117, .m 18 119, .draw d6_0, .cond (.t 168) [.q 4 (.mv (.c (.bool false))), .ret] [], .m 169 5, .m 170 18, .q 171 (.nck (.t 169)), .q 172 (.fad 2 (.t 171)), .q 173 (.iaa 2 (.t 172) (.t 170)), .q 174 (.ld .any (.t 173)), .q 175 (.len false (.t 174)), .q 176 (.mv (.c (.int .i64 0))), .blk 4 [.loop [.q 177 (.bin .lss (.t 176) (.t 175)), .cond (.t 177) [] [.exit 4], .blk 5 [.m 178 176, .q 179 (.iad 1 (.t 174) (.t 176)), .q 180 (.ld .str (.t 179)), .m 19 178, .m 20 180, .m 182 20, .q 183 (.call 17
  [.t 182]), .m 181 183, .q 184 (.ext (.t 181) 0), .q 185 (.ext (.t 181) 1), .q 21 (.alloc [.int .i64 0, .int .i64 0, .int .i64 0, .str []]), .op none none (.st 4 (.t 21) (.t 184)), .m 22 185, .m 186 22, .q 187 (.bin .neq (.t 186) (.c (.int .i64 0))), .m 188 187, .op (some (188, false)) (some 189) (.mv (.t 20)), .op (some (188, false)) (some 190) (.mv (.t 7)), .op (some (188, false)) (some 191) (.mv (.t 18)), .op (some (188, false)) (some 192) (.nck (.t 190)), .op (some (188, false)) (some 193) (.fad 2 (.t 192)), .op (some (188, false)) (some 194) (.iaa 2 (.t 193) (.t 191)), .op (some (188, false)) (some 195) (.ld .any (.t 194)), .op (some (188, false)) (some 196) (.mv (.t 19)), .op (some (188, false)) (some 197) (.iad 1 (.t 195) (.t 196)), .op (some (188, false)) (some 198) (.ld .str (.t 197)), .op (some (188, false)) (some 199) (.bin .neq (.t 189) (.t 198)), .q 200 (.pick (.t 188) (.c (.bool true)) (.t 199)), .m 201 200, .op (some (201, false)) (some 202) (.ldn [.int .i64, .int .i64, .int .i64, .str] (.t 21)), .op (some (201, false)) (some 203) (.call 19 [.t 202]), .op (some (201, false)) (some 204) (.mv (.t 20)), .op (some (201, false)) (some 205) (.bin .neq (.t 203) (.t 204)), .q 206 (.pick (.t 201) (.c (.bool true)) (.t 205)), .cond (.t 206) [.q 4 (.mv (.c (.bool false))), .ret] []], .q 207 (.bin .add (.t 176) (.c (.int .i64 1))), .m 176 207]]], .q 208 (.bin .add (.t 117) (.c (.int .i64 1))), .m 117 208]]], .m 56 11, .q 57 (.bin .add (.t 56) (.c (.int .i64 1))), .m 11 57]], .q 4 (.mv (.c (.bool true))), .ret]
def r6 : List RV :=
  [.t 4]
theorem c6_ok : cC Try.prog Try.f6.ntmps (Try.f6.body.getD .skip) = some c6 := by kernel_rfl

def l9_0 : List (Nat × Bool × It) :=
  [(0, false, (none, some 35, .mv (.t 0), [])), (1, false, (none, some 36, .mv (.t 5), [])), (2, false, (none, some 37, .mv (.t 0), [])), (3, false, (none, some 38, .mv (.t 5), [])), (4, false, (none, some 39, .nck (.t 37), [2])), (5, false, (none, some 40, .fad 4 (.t 39), [4])), (6, false, (none, some 41, .iaa 2 (.t 40) (.t 38), [5, 3])), (7, false, (none, some 42, .ld .any (.t 41), [6])), (8, false, (none, some 43, .mv (.t 6), [])), (9, false, (none, some 44, .bsl 1 [.str []] 1 [(0, .t 43)], [8])), (11, false, (none, some 46, .nck (.t 35), [0])), (12, false, (none, some 47, .fad 4 (.t 46), [11])), (10, true, (none, some 45, .app 1 (.t 42) (.t 44), [7, 9])), (13, false, (none, some 48, .iaa 2 (.t 47) (.t 36), [12, 1, 0, 1, 2, 3, 4, 5, 6, 7, 8, 9, 10])), (14, true, (none, none, .st 1 (.t 48) (.t 45), [13, 10, 10, 0, 1, 2, 3, 4, 5, 6, 7, 8, 9, 10]))]
def d9_0 : List It := pk l9_0
def o9_0 : List (Nat × Bool) := po l9_0
theorem l9_0_ok : okDraw d9_0 o9_0 = true ∧ mkL d9_0 o9_0 = some l9_0 := ⟨by kernel_rfl, by kernel_rfl⟩

def l9_1 : List (Nat × Bool × It) :=
  [(0, false, (none, some 123, .mv (.t 0), [])), (1, false, (none, some 124, .mv (.t 5), [])), (2, false, (none, some 125, .bsl 1 [.str []] 0 [], [])), (3, false, (none, some 126, .mv (.t 0), [])), (4, false, (none, some 127, .mv (.t 5), [])), (5, false, (none, some 128, .nck (.t 126), [3])), (6, false, (none, some 129, .fad 2 (.t 128), [5])), (7, false, (none, some 130, .iaa 2 (.t 129) (.t 127), [6, 4])), (8, false, (none, some 131, .ld .any (.t 130), [7])), (9, false, (none, some 132, .mv (.t 12), [])), (10, false, (none, some 133, .lsl 1 (.t 131) none (some (.t 132)) none, [8, 9])), (12, false, (none, some 135, .mv (.t 0), [])), (13, false, (none, some 136, .mv (.t 5), [])), (14, false, (none, some 137, .nck (.t 135), [12])), (15, false, (none, some 138, .fad 2 (.t 137), [14])), (16, false, (none, some 139, .iaa 2 (.t 138) (.t 136), [15, 13])), (17, false, (none, some 140, .ld .any (.t 139), [16])), (18, false, (none, some 141, .mv (.t 12), [])), (19, false, (none, some 142, .bin .add (.t 141) (.c (.int .i64 1)), [18])), (20, false, (none, some 143, .lsl 1 (.t 140) (some (.t 142)) none none, [17, 19])), (22, false, (none, some 145, .nck (.t 123), [0])), (23, false, (none, some 146, .fad 2 (.t 145), [22])), (11, true, (none, some 134, .app 1 (.t 125) (.t 133), [2, 10])), (21, true, (none, some 144, .app 1 (.t 134) (.t 143), [11, 20, 11])), (24, false, (none, some 147, .iaa 2 (.t 146) (.t 124), [23, 1, 0, 1, 2, 3, 4, 5, 6, 7, 8, 9, 10, 11, 12, 13, 14, 15, 16, 17, 18, 19, 20, 21])), (25, true, (none, none, .st 1 (.t 147) (.t 144), [24, 21, 21, 0, 1, 2, 3, 4, 5, 6, 7, 8, 9, 10, 11, 12, 13, 14, 15, 16, 17, 18, 19, 20, 21]))]
def d9_1 : List It := pk l9_1
def o9_1 : List (Nat × Bool) := po l9_1
theorem l9_1_ok : okDraw d9_1 o9_1 = true ∧ mkL d9_1 o9_1 = some l9_1 := ⟨by kernel_rfl, by kernel_rfl⟩

def l9_2 : List (Nat × Bool × It) :=
  [(0, false, (none, some 153, .mv (.t 14), [])), (1, false, (none, some 154, .fad 3 (.t 3), [])), (2, false, (none, some 155, .ld (.int .i64) (.t 154), [1])), (3, false, (none, some 156, .bin .and (.t 155) (.c (.int .i64 255)), [2])), (4, false, (none, some 157, .mv (.t 14), [])), (5, false, (none, some 158, .len false (.t 157), [4])), (6, false, (none, some 159, .bin .rem (.t 156) (.t 158), [3, 5])), (7, false, (none, some 160, .iad 1 (.t 153) (.t 159), [0, 6])), (8, false, (none, some 161, .ld (.int .u8) (.t 160), [7])), (9, false, (none, some 162, .fad 4 (.t 3), [])), (10, false, (none, some 163, .ld (.int .u8) (.t 162), [9])), (11, false, (none, some 164, .bin .xor (.t 161) (.t 163), [8, 10])), (12, false, (none, some 165, .iad 1 (.t 153) (.t 159), [0, 6, 0, 1, 2, 3, 4, 5, 6, 7, 8, 9, 10, 11])), (13, true, (none, none, .st 1 (.t 165) (.t 164), [12, 11, 0, 1, 2, 3, 4, 5, 6, 7, 8, 9, 10, 11]))]
def d9_2 : List It := pk l9_2
def o9_2 : List (Nat × Bool) := po l9_2
theorem l9_2_ok : okDraw d9_2 o9_2 = true ∧ mkL d9_2 o9_2 = some l9_2 := ⟨by kernel_rfl, by kernel_rfl⟩

def c9 : List C :=
  [.q 3 (.box (.t 1)), .q 4 (.mv (.c (.bool false))), .q 15 (.fad 1 (.t 3)), .q 16 (.ld (.int .i64) (.t 15)), .q 17 (.bin .and (.t 16) (.c (.int .i64 1))), .m 5 17, .q 18 (.fad 0 (.t 3)), .q 19 (.ld (.int .i64) (.t 18)), .blk 0 [.q 21 (.bin .eql (.t 19) (.c (.int .i64 1))), .m 20 21, .cond (.t 20) [.q 22 (.fad 5 (.t 3)), .q 23 (.ld .str (.t 22)), .q 24 (.call 16 [.t 23, .c (.int .i64 500)]), .m 6 24, .m 25 0, .m 26 5, .q 27 (.nck (.t 25)), .q 28 (.fad 0 (.t 27)), .q 29 (.iaa 2 (.t 28) (.t 26)), .q 30 (.ld .any (.t 29)), .m 31 6, .q 32 (.call 14 [.t 30, .t 31]), .m 7 32, .m 33 7, .q 34 (.bin .eql (.t 33) (.c (.int .i64 0))), .cond (.t 34) [.draw d9_0] [], .m 49 7, .q 50 (.bin .eql (.t 49) (.c (.int .i64 0))), .m 51 50, .op (some (51, false)) (some 52) (.mv (.t 7)), .op (some (51, false)) (some 53) (.bin .eql (.t 52) (.c (.int .i64 8))), .op (some (51, false)) (some 54) (.mv (.t 53)), .op (some (54, true)) (some 55) (.mv (.t 0)), .op (some (54, true)) (some 56) (.mv (.t 5)), .op (some (54, true)) (some 57) (.nck (.t 55)), .op (some (54, true)) (some 58) (.fad 0 (.t 57)), .op (some (54, true)) (some 59) (.iaa 2 (.t 58) (.t 56)), .op (some (54, true)) (some 60) (.ld .any (.t 59)), .op (some (54, true)) (some 61) (.call 13 [.t 60]), .op (some (54, true)) (some 62) (.bin .gtr (.t 61) (.c (.int .i64 690))), .op (some (51, false)) (some 63) (.pick (.t 54) (.t 62) (.c (.bool false))), .q 64 (.pick (.t 51) (.c (.bool true)) (.t 63)), .m 4 64, .ret] [.q 66 (.bin .eql (.t 19) (.c (.int .i64 2))), .m 65 66, .cond (.t 65) [.m 67 0, .q 68 (.call 11 [.t 67]), .q 4 (.mv (.c (.bool true))), .ret] [.q 70 (.bin .eql (.t 19) (.c (.int .i64 7))), .m 69 70, .cond (.t 69) [.q 71 (.fad 5 (.t 3)), .q 72 (.ld .str (.t 71)), .q 73 (.call 16 [.t 72, .c (.int .i64 60)]), .m 8 73, .m 75 8, .q 76 (.call 17 [.t 75]), .m 74 76, .q 77 (.ext (.t 74) 0), .q 78 (.ext (.t 74) 1), .q 9 (.alloc [.int .i64 0, .int .i64 0, .int .i64 0, .str []]), .op none none (.st 4 (.t 9) (.t 77)), .m 10 78, .m 79 10, .q 80
  (.bin .eql (.t 79) (.c (.int .i64 0))), .cond (.t 80) [.q 4 (.mv (.c (.bool true))), .ret] [], .m 81 0, .m 82 5, .m 83 8, .q 84 (.call 12 [.t 81, .t 82, .t 83]), .m 4 84, .ret] []]]], .m 85 0, .m 86 5, .q 87 (.nck (.t 85)), .q 88 (.fad 2 (.t 87)), .q 89 (.iaa 2 (.t 88) (.t 86)), .q 90 (.ld .any (.t 89)), .q 91 (.len false (.t 90)), .m 11 91, .q 92 (.fad 0 (.t 3)), .q 93 (.ld (.int .i64) (.t 92)), .q 94 (.bin .lss (.t 93) (.c (.int .i64 3))), .m 95 94, .op (some (95, false)) (some 96) (.fad 0 (.t 3)), .op (some (95, false)) (some 97) (.ld (.int .i64) (.t 96)), .op (some (95, false)) (some 98) (.bin .gtr (.t 97) (.c (.int .i64 6))), .q 99 (.pick (.t 95) (.c (.bool true)) (.t 98)), .m 100 99, .op (some (100, false)) (some 101) (.mv (.t 11)), .op (some (100, false)) (some 102) (.bin .eql (.t 101) (.c (.int .i64 0))), .q 103 (.pick (.t 100) (.c (.bool true)) (.t 102)), .cond (.t 103) [.q 4 (.mv (.c (.bool true))), .ret] [], .q 104 (.fad 2 (.t 3)), .q 105 (.ld (.int .i64) (.t 104)), .q 106 (.bin .and (.t 105) (.c (.int .i64 255))), .m 107 11, .q 108 (.bin .add (.t 106) (.t 107)), .m 109 11, .q 110 (.bin .rem (.t 108) (.t 109)), .m 12 110, .m 111 0, .m 112 5, .q 113 (.nck (.t 111)), .q 114 (.fad 2 (.t 113)), .q 115 (.iaa 2 (.t 114) (.t 112)), .q 116 (.ld .any (.t 115)), .m 117 12, .q 118 (.iad 1 (.t 116) (.t 117)), .q 119 (.ld .str (.t 118)), .m 13 119, .q 120 (.fad 0 (.t 3)), .q 121 (.ld (.int .i64) (.t 120)), .q 122 (.bin .neq (.t 121) (.c (.int .i64 5))), .cond (.t 122) [.draw d9_1] [], .q 148 (.fad 0 (.t 3)), .q 149 (.ld (.int .i64) (.t 148)), .q 150 (.bin .eql (.t 149) (.c (.int .i64 6))), .cond (.t 150) [.m 151 13, .q 152 (.cvs (.t 151)), .m 14 152, .draw d9_2, .m 166 14, .q 167 (.cvb (.t 166)), .m 13 167] [], .q 168 (.fad 0 (.t 3)), .q 169 (.ld (.int .i64) (.t 168)), .q 170 (.bin .eql (.t 169) (.c (.int .i64 4))), .m 171 170, .op (some (171, false)) (some 172) (.mv (.t 0)), .op (some (171, false)) (some 173) (.mv (.t 5)), .op (some (171, false)) (some 174) (.mv (.t
  13)), .op (some (171, false)) (some 175) (.call 12 [.t 172, .t 173, .t 174]), .q 176 (.pick (.t 171) (.c (.bool true)) (.t 175)), .m 4 176, .ret]
def r9 : List RV :=
  [.t 4]
theorem c9_ok : cC Try.prog Try.f9.ntmps (Try.f9.body.getD .skip) = some c9 := by kernel_rfl

def l11_0 : List (Nat × Bool × It) :=
  [(0, false, (none, some 15, .mv (.t 0), [])), (1, false, (none, some 16, .mv (.t 2), [])), (2, false, (none, some 17, .nck (.t 15), [0])), (3, false, (none, some 18, .fad 0 (.t 17), [2])), (4, false, (none, some 19, .iaa 2 (.t 18) (.t 16), [3, 1])), (5, false, (none, some 20, .ld .any (.t 19), [4])), (6, false, (none, some 21, .mv (.t 0), [])), (7, false, (none, some 22, .nck (.t 21), [6])), (8, false, (none, some 23, .fad 8 (.t 22), [7])), (9, false, (none, some 24, .ld (.int .i64) (.t 23), [8])), (12, false, (none, some 27, .mv (.c (.int .i64 0)), [])), (10, true, (none, some 25, .call 22 [.t 20, .t 24], [5, 9])), (11, false, (none, some 26, .len false (.t 25), [10]))]
def d11_0 : List It := pk l11_0
def o11_0 : List (Nat × Bool) := po l11_0
theorem l11_0_ok : okDraw d11_0 o11_0 = true ∧ mkL d11_0 o11_0 = some l11_0 := ⟨by kernel_rfl, by kernel_rfl⟩

def l11_1 : List (Nat × Bool × It) :=
  [(0, false, (none, some 40, .mv (.t 0), [])), (1, false, (none, some 41, .mv (.t 2), [])), (2, false, (none, some 42, .bin .sub (.c (.int .i64 1)) (.t 41), [1])), (3, false, (none, some 43, .mv (.t 0), [])), (4, false, (none, some 44, .mv (.t 2), [])), (5, false, (none, some 45, .bin .sub (.c (.int .i64 1)) (.t 44), [4])), (6, false, (none, some 46, .nck (.t 43), [3])), (7, false, (none, some 47, .fad 2 (.t 46), [6])), (8, false, (none, some 48, .iaa 2 (.t 47) (.t 45), [7, 5])), (9, false, (none, some 49, .ld .any (.t 48), [8])), (10, false, (none, some 50, .mv (.t 4), [])), (11, false, (none, some 51, .bsl 1 [.str []] 1 [(0, .t 50)], [10])), (13, false, (none, some 53, .nck (.t 40), [0])), (14, false, (none, some 54, .fad 2 (.t 53), [13])), (12, true, (none, some 52, .app 1 (.t 49) (.t 51), [9, 11])), (15, false, (none, some 55, .iaa 2 (.t 54) (.t 42), [14, 2, 0, 1, 2, 3, 4, 5, 6, 7, 8, 9, 10, 11, 12])), (16, true, (none, none, .st 1 (.t 55) (.t 52), [15, 12, 12, 0, 1, 2, 3, 4, 5, 6, 7, 8, 9, 10, 11, 12]))]
def d11_1 : List It := pk l11_1
def o11_1 : List (Nat × Bool) := po l11_1
theorem l11_1_ok : okDraw d11_1 o11_1 = true ∧ mkL d11_1 o11_1 = some l11_1 := ⟨by kernel_rfl, by kernel_rfl⟩

def c11 : List C :=
  [.m 5 0, .q 6 (.nck (.t 5)), .q 7 (.fad 8 (.t 6)), .q 8 (.ld (.int .i64) (.t 7)), .q 9 (.bin .add (.t 8) (.c (.int .i64 1))), .q 10 (.nck (.t 5)), .q 11 (.fad 8 (.t 10)), .op none none (.st 1 (.t 11) (.t 9)), .q 12 (.mv (.c (.int .i64 0))), .blk 0 [.loop [.q 13 (.bin .lss (.t 12) (.c (.int .i64 2))), .cond (.t 13) [] [.exit 0], .blk 1 [.m 14 12, .m 2 14, .draw d11_0, .blk 2 [.loop [.q 28 (.bin .lss (.t 27) (.t 26)), .cond (.t 28) [] [.exit 2], .blk 3 [.q 29 (.iad 1 (.t 25) (.t 27)), .q 30 (.ld .str (.t 29)), .m 4 30, .m 31 0, .m 32 2, .q 33 (.bin .sub (.c (.int .i64 1)) (.t 32)), .q 34 (.nck (.t 31)), .q 35 (.fad 2 (.t 34)), .q 36 (.iaa 2 (.t 35) (.t 33)), .q 37 (.ld .any (.t 36)), .q 38 (.len false (.t 37)), .q 39 (.bin .lss (.t 38) (.c (.int .i64 60))), .cond (.t 39) [.draw d11_1] []], .q 56 (.bin .add (.t 27) (.c (.int .i64 1))), .m 27 56]]], .q 57 (.bin .add (.t 12) (.c (.int .i64 1))), .m 12 57]]]
def r11 : List RV :=
  []
theorem c11_ok : cC Try.prog Try.f11.ntmps (Try.f11.body.getD .skip) = some c11 := by kernel_rfl

def l12_0 : List (Nat × Bool × It) :=
  [(0, false, (none, some 60, .mv (.t 0), [])), (1, false, (none, some 61, .mv (.t 1), [])), (2, false, (none, some 62, .mv (.t 0), [])), (3, false, (none, some 63, .mv (.t 1), [])), (4, false, (none, some 64, .nck (.t 62), [2])), (5, false, (none, some 65, .fad 6 (.t 64), [4])), (6, false, (none, some 66, .iaa 2 (.t 65) (.t 63), [5, 3])), (7, false, (none, some 67, .ld .any (.t 66), [6])), (8, false, (none, some 68, .mv (.t 10), [])), (9, false, (none, some 69, .bsl 1 [.str []] 1 [(0, .t 68)], [8])), (11, false, (none, some 71, .nck (.t 60), [0])), (12, false, (none, some 72, .fad 6 (.t 71), [11])), (10, true, (none, some 70, .app 1 (.t 67) (.t 69), [7, 9])), (13, false, (none, some 73, .iaa 2 (.t 72) (.t 61), [12, 1, 0, 1, 2, 3, 4, 5, 6, 7, 8, 9, 10])), (14, true, (none, none, .st 1 (.t 73) (.t 70), [13, 10, 10, 0, 1, 2, 3, 4, 5, 6, 7, 8, 9, 10]))]
def d12_0 : List It := pk l12_0
def o12_0 : List (Nat × Bool) := po l12_0
theorem l12_0_ok : okDraw d12_0 o12_0 = true ∧ mkL d12_0 o12_0 = some l12_0 := ⟨by kernel_rfl, by kernel_rfl⟩

def c12 : List C :=
  [.q 6 (.mv (.c (.bool false))), .m 13 0, .m 14 1, .q 15 (.nck (.t 13)), .q 16 (.fad 0 (.t 15)), .q 17 (.iaa 2 (.t 16) (.t 14)), .q 18 (.ld .any (.t 17)), .m 19 2, .q 20 (.call 18 [.t 18, .t 19]), .m 12 20, .q 21 (.ext (.t 12) 0), .q 22 (.ext (.t 12) 1), .m 7 21, .m 8 22, .m 23 7, .q 24 (.len false (.t 23)), .q 25 (.mv (.c (.int .i64 0))), .blk 0 [.loop [.q 26 (.bin .lss (.t 25) (.t 24)), .cond (.t 26) [] [.exit 0], .blk 1 [.q 27 (.iad 1 (.t 23) (.t 25)), .q 28 (.ld .str (.t 27)), .m 10 28, .m 29 0, .m 30 1, .q 31 (.nck (.t 29)), .q 32 (.fad 6 (.t 31)), .q 33 (.iaa 2 (.t 32) (.t 30)), .q 34 (.ld .any (.t 33)), .q 35 (.len false (.t 34)), .m 11 35, .m 36 11, .m 37 0, .m 38 1, .q 39 (.bin .sub (.c (.int .i64 1)) (.t 38)), .q 40 (.nck (.t 37)), .q 41 (.fad 4 (.t 40)), .q 42 (.iaa 2 (.t 41) (.t 39)), .q 43 (.ld .any (.t 42)), .q 44 (.len false (.t 43)), .q 45 (.bin .geq (.t 36) (.t 44)), .m 46 45, .op (some (46, false)) (some 47) (.mv (.t 0)), .op (some (46, false)) (some 48) (.mv (.t 1)), .op (some (46, false)) (some 49) (.bin .sub (.c (.int .i64 1)) (.t 48)), .op (some (46, false)) (some 50) (.nck (.t 47)), .op (some (46, false)) (some 51) (.fad 4 (.t 50)), .op (some (46, false)) (some 52) (.iaa 2 (.t 51) (.t 49)), .op (some (46, false)) (some 53) (.ld .any (.t 52)), .op (some (46, false)) (some 54) (.mv (.t 11)), .op (some (46, false)) (some 55) (.iad 1 (.t 53) (.t 54)), .op (some (46, false)) (some 56) (.ld .str (.t 55)), .op (some (46, false)) (some 57) (.mv (.t 10)), .op (some (46, false)) (some 58) (.bin .neq (.t 56) (.t 57)), .q 59 (.pick (.t 46) (.c (.bool true)) (.t 58)), .cond (.t 59) [.q 6 (.mv (.c (.bool false))), .ret] [], .draw d12_0], .q 74 (.bin .add (.t 25) (.c (.int .i64 1))), .m 25 74]], .q 6 (.mv (.c (.bool true))), .ret]
def r12 : List RV :=
  [.t 6]
theorem c12_ok : cC Try.prog Try.f12.ntmps (Try.f12.body.getD .skip) = some c12 := by kernel_rfl

end Go.AEX
