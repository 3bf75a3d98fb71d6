/- Compact codes, printed by gen.py from the given form; each is checked by its theorem. -/
import Derived.Test.YthdkobfafncpcaaAEzh
import Derived.Test.YthdkobfafncpcaaProg
import Derived.KernelRfl
namespace Go.AE
abbrev C.q (d : Nat) (o : O) : C := .op none (some d) o
abbrev C.m (d i : Nat) : C := .op none (some d) (.mv (.t i))
def pk (l : List (Nat × Bool × It)) : List It := (List.range l.length).filterMap fun i => (l.find? fun x => x.1 == i).map (·.2.2)
def po (l : List (Nat × Bool × It)) : List (Nat × Bool) := l.map fun x => (x.1, x.2.1)
end Go.AE
namespace Go.AEX
open Go Go.AE Go.Proofs
set_option maxRecDepth 100000
attribute [go_sem] C.q C.m

def big0 : List UInt8 := [0, 1, 1, 2, 1, 2, 2, 3, 1, 2, 2, 3, 2, 3, 3, 4, 1, 2, 2, 3, 2, 3, 3, 4, 2, 3, 3, 4, 3, 4, 4, 5, 1, 2, 2, 3, 2, 3, 3, 4, 2, 3, 3, 4, 3, 4, 4, 5, 2, 3, 3, 4, 3, 4, 4, 5, 3, 4, 4, 5, 4, 5, 5, 6, 1, 2, 2, 3, 2, 3, 3, 4, 2, 3, 3, 4, 3, 4, 4, 5, 2, 3, 3, 4, 3, 4, 4, 5, 3, 4, 4, 5, 4, 5, 5, 6, 2, 3, 3, 4, 3, 4, 4, 5, 3, 4, 4, 5, 4, 5, 5, 6, 3, 4, 4, 5, 4, 5, 5, 6, 4, 5, 5, 6, 5, 6, 6, 7, 1, 2, 2, 3, 2, 3, 3, 4, 2, 3, 3, 4, 3, 4, 4, 5, 2, 3, 3, 4, 3, 4, 4, 5, 3, 4, 4, 5, 4, 5, 5, 6, 2, 3, 3, 4, 3, 4, 4, 5, 3, 4, 4, 5, 4, 5, 5, 6, 3, 4, 4, 5, 4, 5, 5, 6, 4, 5, 5, 6, 5, 6, 6, 7, 2, 3, 3, 4, 3, 4, 4, 5, 3, 4, 4, 5, 4, 5, 5, 6, 3, 4, 4, 5, 4, 5, 5, 6, 4, 5, 5, 6, 5, 6, 6, 7, 3, 4, 4, 5, 4, 5, 5, 6, 4, 5, 5, 6, 5, 6, 6, 7, 4, 5, 5, 6, 5, 6, 6, 7, 5, 6, 6, 7, 6, 7, 7, 8]
abbrev big1 := big0

def r3 : List RV :=
  [.t 6]
def r4 : List RV :=
  [.t 2]
def c5 : List C :=
  [.q 6 (.mv (.c (.bool false))), .q 14 (.call 20 []), .q 15 (.un .not (.t 14)), .cond (.t 15) [.q 6 (.mv (.c (.bool false))), .ret] [], .m 16 0, .q 17 (.bin .and (.t 16) (.c (.int .i64 15))), .q 18 (.bin .add (.c (.int .i64 2)) (.t 17)), .m 0 18, .q 19 (.bsl 1 [.int .i64 0] 0 []), .m 7 19, .m 20 0, .q 21 (.mv (.c (.int .i64 0))), .blk 0 [.loop [.q 22 (.bin .lss (.t 21) (.t 20)), .cond (.t 22) [] [.exit 0], .blk 1 [.m 23 21, .m 8 23, .m 24 7, .m 25 8, .q 26 (.bsl 1 [.int .i64 0] 1 [(0, .t 25)]), .q 27 (.app 1 (.t 24) (.t 26)), .m 7 27], .q 28 (.bin .add (.t 21) (.c (.int .i64 1))), .m 21 28]], .m 29 1, .q 30 (.bin .and (.t 29) (.c (.int .i64 255))), .m 31 0, .q 32 (.bin .rem (.t 30) (.t 31)), .m 1 32, .m 33 2, .q 34 (.bin .and (.t 33) (.c (.int .i64 255))), .m 35 0, .m 36 1, .q 37 (.bin .sub (.t 35) (.t 36)), .q 38 (.bin .rem (.t 34) (.t 37)), .m 2 38, .m 39 7, .q 40 (.call 22 [.t 39]), .q 41 (.call 21 [.t 40]), .m 9 41, .m 42 0, .q 43 (.bin .sub (.t 42) (.c (.int .i64 1))), .m 10 43, .m 44 9, .m 45 10, .q 46 (.call 23 [.t 44, .t 45]), .q 47 (.bin .neq (.t 46) (.c (.int .i64 0))), .cond (.t 47) [.q 6 (.mv (.c (.bool false))), .ret] [], .m 48 1, .m 49 2, .q 50 (.bin .add (.t 48) (.t 49)), .q 51 (.mv (.c (.int .i64 0))), .blk 2 [.loop [.q 52 (.bin .lss (.t 51) (.t 50)), .cond (.t 52) [] [.exit 2], .blk 3 [.m 53 51, .m 11 53, .m 54 11, .m 55 10, .q 56 (.bin .lss (.t 54) (.t 55)), .m 57 56, .op (some (57, true)) (some 58) (.mv (.t 9)), .op (some (57, true)) (some 59) (.mv (.t 11)), .op (some (57, true)) (some 60) (.mv (.t 10)), .op (some (57, true)) (some 61) (.mv (.t 11)), .op (some (57, true)) (some 62) (.mv (.t 1)), .op (some (57, true)) (some 63) (.bin .lss (.t 61) (.t 62)), .op (some (57, true)) (some 64) (.call 24 [.t 58, .t 59, .t 60, .t 63]), .op (some (57, true)) (some 65) (.bin .neq (.t 64) (.c (.int .i64 0))), .q 66 (.pick (.t 57) (.t 65) (.c (.bool false))), .cond (.t 66) [.q 6 (.mv (.c (.bool false))), .ret] []], .q 67 (.bin .add (.t 51) (.c (.int .i64 1))),
  .m 51 67]], .m 68 2, .m 69 0, .q 70 (.bin .sub (.t 69) (.c (.int .i64 1))), .m 71 1, .q 72 (.bin .sub (.t 70) (.t 71)), .q 73 (.mn [.t 68, .t 72]), .m 2 73, .m 75 9, .m 76 10, .q 77 (.call 26 [.t 75, .t 76]), .m 74 77, .q 78 (.ext (.t 74) 0), .q 79 (.ext (.t 74) 1), .q 12 (.alloc [.int .i64 0, .int .i64 0, .nilsl]), .op none none (.st 3 (.t 12) (.t 78)), .m 13 79, .m 80 13, .m 81 1, .q 82 (.bin .mul (.c (.int .i64 2)) (.t 81)), .m 83 0, .q 84 (.bin .gtr (.t 82) (.t 83)), .q 85 (.eqb false (.t 80) (.t 84)), .m 86 85, .op (some (86, true)) (some 87) (.mv (.t 9)), .op (some (86, true)) (some 88) (.mv (.t 10)), .op (some (86, true)) (some 89) (.call 27 [.t 87, .t 88]), .op (some (86, true)) (some 90) (.mv (.t 0)), .op (some (86, true)) (some 91) (.bin .sub (.t 90) (.c (.int .i64 1))), .op (some (86, true)) (some 92) (.mv (.t 2)), .op (some (86, true)) (some 93) (.bin .sub (.t 91) (.t 92)), .op (some (86, true)) (some 94) (.bin .mul (.c (.int .i64 2)) (.t 93)), .op (some (86, true)) (some 95) (.mv (.t 0)), .op (some (86, true)) (some 96) (.bin .leq (.t 94) (.t 95)), .op (some (86, true)) (some 97) (.eqb false (.t 89) (.t 96)), .q 98 (.pick (.t 86) (.t 97) (.c (.bool false))), .m 99 98, .op (some (99, true)) (some 100) (.mv (.t 13)), .op (some (99, true)) (some 101) (.mv (.t 100)), .op (some (101, true)) (some 102) (.mv (.t 9)), .op (some (101, true)) (some 103) (.mv (.t 10)), .op (some (101, true)) (some 104) (.call 27 [.t 102, .t 103]), .op (some (99, true)) (some 105) (.pick (.t 101) (.t 104) (.c (.bool false))), .op (some (99, true)) (some 106) (.un .not (.t 105)), .q 107 (.pick (.t 99) (.t 106) (.c (.bool false))), .m 108 107, .op (some (108, true)) (some 109) (.mv (.t 9)), .op (some (108, true)) (some 110) (.mv (.t 10)), .op (some (108, true)) (some 111) (.mv (.t 10)), .op (some (108, true)) (some 112) (.call 24 [.t 109, .t 110, .t 111, .c (.bool true)]), .op (some (108, true)) (some 113) (.bin .eql (.t 112) (.c (.int .i64 13))), .q 114 (.pick (.t 108) (.t 113) (.c
  (.bool false))), .m 6 114, .ret]
def r5 : List RV :=
  [.t 6]
theorem c5_ok : cC Try.prog Try.f5.ntmps (Try.f5.body.getD .skip) = some c5 := by kernel_rfl

def c20 : List C :=
  [.q 0 (.mv (.c (.bool false))), .q 4 (.bsl 1 [.int .i64 0] 3 [(0, .c (.int .i64 0)), (1, .c (.int .i64 1)), (2, .c (.int .i64 2))]), .q 5 (.call 22 [.t 4]), .q 6 (.call 21 [.t 5]), .m 1 6, .m 7 1, .q 8 (.eqp 0 false (.t 7) (.c .nilptr)), .m 9 8, .op (some (9, false)) (some 10) (.mv (.t 1)), .op (some (9, false)) (some 11) (.call 23 [.t 10, .c (.int .i64 2)]), .op (some (9, false)) (some 12) (.bin .neq (.t 11) (.c (.int .i64 0))), .q 13 (.pick (.t 9) (.c (.bool true)) (.t 12)), .m 14 13, .op (some (14, false)) (some 15) (.mv (.t 1)), .op (some (14, false)) (some 16) (.call 24 [.t 15, .c (.int .i64 0), .c (.int .i64 2), .c (.bool true)]), .op (some (14, false)) (some 17) (.bin .neq (.t 16) (.c (.int .i64 0))), .q 18 (.pick (.t 14) (.c (.bool true)) (.t 17)), .m 19 18, .op (some (19, false)) (some 20) (.mv (.t 1)), .op (some (19, false)) (some 21) (.call 24 [.t 20, .c (.int .i64 1), .c (.int .i64 2), .c (.bool true)]), .op (some (19, false)) (some 22) (.bin .neq (.t 21) (.c (.int .i64 0))), .q 23 (.pick (.t 19) (.c (.bool true)) (.t 22)), .cond (.t 23) [.q 0 (.mv (.c (.bool false))), .ret] [], .m 25 1, .q 26 (.call 26 [.t 25, .c (.int .i64 2)]), .m 24 26, .q 27 (.ext (.t 24) 0), .q 28 (.ext (.t 24) 1), .q 2 (.alloc [.int .i64 0, .int .i64 0, .nilsl]), .op none none (.st 3 (.t 2) (.t 27)), .m 3 28, .m 29 3, .m 30 29, .op (some (30, true)) (some 31) (.fad 0 (.t 2)), .op (some (30, true)) (some 32) (.ld (.int .i64) (.t 31)), .op (some (30, true)) (some 33) (.bin .eql (.t 32) (.c (.int .i64 3))), .q 34 (.pick (.t 30) (.t 33) (.c (.bool false))), .m 35 34, .op (some (35, true)) (some 36) (.fad 1 (.t 2)), .op (some (35, true)) (some 37) (.ld (.int .i64) (.t 36)), .op (some (35, true)) (some 38) (.bin .eql (.t 37) (.c (.int .i64 2))), .q 39 (.pick (.t 35) (.t 38) (.c (.bool false))), .m 40 39, .op (some (40, true)) (some 41) (.fad 2 (.t 2)), .op (some (40, true)) (some 42) (.ld .any (.t 41)), .op (some (40, true)) (some 43) (.len false (.t 42)), .op (some (40, true)) (some 44)
  (.bin .eql (.t 43) (.c (.int .i64 2))), .q 45 (.pick (.t 40) (.t 44) (.c (.bool false))), .m 0 45, .ret]
def r20 : List RV :=
  [.t 0]
theorem c20_ok : cC Try.prog Try.f20.ntmps (Try.f20.body.getD .skip) = some c20 := by kernel_rfl

def c21 : List C :=
  [.q 1 (.box (.t 0)), .q 2 (.mv (.c .nilptr)), .q 3 (.ldn [.int .u32, .int .i64] (.t 1)), .q 4 .mkmap, .q 5 (.build [.int .u32 0, .int .i64 0, .nilmap] [(0, 2, .t 3), (2, 1, .t 4)]), .q 6 (.box (.t 5)), .m 2 6, .ret]
def r21 : List RV :=
  [.t 2]
theorem c21_ok : cC Try.prog Try.f21.ntmps (Try.f21.body.getD .skip) = some c21 := by kernel_rfl

def l22_0 : List (Nat × Bool × It) :=
  [(0, false, (none, some 18, .fad 0 (.t 3), [])), (1, false, (none, some 19, .ld (.int .u32) (.t 18), [0])), (2, false, (none, some 20, .mv (.t 5), [])), (3, false, (none, some 21, .bin .shl (.c (.int .u32 1)) (.t 20), [2])), (4, false, (none, some 22, .bin .or (.t 19) (.t 21), [1, 3])), (5, false, (none, some 23, .fad 0 (.t 3), [0, 1, 2, 3, 4])), (6, true, (none, none, .st 1 (.t 23) (.t 22), [5, 4, 0, 1, 2, 3, 4]))]
def d22_0 : List It := pk l22_0
def o22_0 : List (Nat × Bool) := po l22_0
theorem l22_0_ok : okDraw d22_0 o22_0 = true ∧ mkL d22_0 o22_0 = some l22_0 := ⟨by kernel_rfl, by kernel_rfl⟩

def c22 : List C :=
  [.q 2 (.alloc [.int .u32 0, .int .i64 0]), .q 3 (.alloc [.int .u32 0, .int .i64 0]), .m 6 0, .q 7 (.len false (.t 6)), .q 8 (.mv (.c (.int .i64 0))), .blk 0 [.loop [.q 9 (.bin .lss (.t 8) (.t 7)), .cond (.t 9) [] [.exit 0], .blk 1 [.q 10 (.iad 1 (.t 6) (.t 8)), .q 11 (.ld (.int .i64) (.t 10)), .m 5 11, .m 12 5, .q 13 (.bin .geq (.t 12) (.c (.int .i64 0))), .m 14 13, .op (some (14, true)) (some 15) (.mv (.t 5)), .op (some (14, true)) (some 16) (.bin .lss (.t 15) (.c (.int .i64 32))), .q 17 (.pick (.t 14) (.t 16) (.c (.bool false))), .cond (.t 17) [.draw d22_0] []], .q 24 (.bin .add (.t 8) (.c (.int .i64 1))), .m 8 24]], .q 25 (.ldn [.int .u32, .int .i64] (.t 3)), .op none none (.st 2 (.t 2) (.t 25)), .ret]
def r22 : List RV :=
  [.cn 2 2]
theorem c22_ok : cC Try.prog Try.f22.ntmps (Try.f22.body.getD .skip) = some c22 := by kernel_rfl

def c23 : List C :=
  [.q 4 (.mv (.c (.int .i64 0))), .blk 0 [.m 6 1, .q 7 (.bin .eql (.t 6) (.c (.int .i64 0))), .m 5 7, .cond (.t 5) [.q 4 (.mv (.c (.int .i64 4))), .ret] [.m 9 0, .q 10 (.nck (.t 9)), .q 11 (.fad 0 (.t 10)), .q 12 (.ldn [.int .u32, .int .i64] (.t 11)), .m 13 1, .q 14 (.call 38 [.t 12, .t 13]), .q 15 (.un .not (.t 14)), .m 8 15, .cond (.t 8) [.q 4 (.mv (.c (.int .i64 13))), .ret] [.m 17 0, .m 18 1, .q 19 (.call 34 [.t 17, .t 18]), .m 16 19, .cond (.t 16) [.q 4 (.mv (.c (.int .i64 10))), .ret] []]]], .m 20 0, .q 21 (.nck (.t 20)), .q 22 (.fad 2 (.t 21)), .q 23 (.ld .any (.t 22)), .m 24 1, .q 25 .mkmap, .op none none (.mput false (.t 23) (.t 24) (.t 25)), .q 4 (.mv (.c (.int .i64 0))), .ret]
def r23 : List RV :=
  [.t 4]
theorem c23_ok : cC Try.prog Try.f23.ntmps (Try.f23.body.getD .skip) = some c23 := by kernel_rfl

def c24 : List C :=
  [.q 8 (.mv (.c (.int .i64 0))), .blk 0 [.m 12 0, .m 13 2, .q 14 (.call 34 [.t 12, .t 13]), .q 15 (.un .not (.t 14)), .m 11 15, .cond (.t 11) [.q 8 (.mv (.c (.int .i64 9))), .ret] [.m 17 0, .q 18 (.nck (.t 17)), .q 19 (.fad 0 (.t 18)), .q 20 (.ldn [.int .u32, .int .i64] (.t 19)), .m 21 1, .q 22 (.call 38 [.t 20, .t 21]), .q 23 (.un .not (.t 22)), .m 24 23, .op (some (24, false)) (some 25) (.mv (.t 1)), .op (some (24, false)) (some 26) (.mv (.t 2)), .op (some (24, false)) (some 27) (.bin .eql (.t 25) (.t 26)), .q 28 (.pick (.t 24) (.c (.bool true)) (.t 27)), .m 16 28, .cond (.t 16) [.q 8 (.mv (.c (.int .i64 13))), .ret] []]], .m 30 0, .q 31 (.nck (.t 30)), .q 32 (.fad 2 (.t 31)), .q 33 (.ld .any (.t 32)), .m 34 2, .q 35 (.look false .any .nilmap false (.t 33) (.t 34)), .m 36 1, .q 37 (.look false .bool (.bool false) true (.t 35) (.t 36)), .m 29 37, .q 38 (.ext (.t 29) 0), .q 39 (.ext (.t 29) 1), .m 9 38, .m 10 39, .m 40 10, .cond (.t 40) [.q 8 (.mv (.c (.int .i64 10))), .ret] [], .m 41 0, .q 42 (.nck (.t 41)), .q 43 (.fad 2 (.t 42)), .q 44 (.ld .any (.t 43)), .m 45 2, .q 46 (.look false .any .nilmap false (.t 44) (.t 45)), .m 47 1, .m 48 3, .op none none (.mput false (.t 46) (.t 47) (.t 48)), .q 8 (.mv (.c (.int .i64 0))), .ret]
def r24 : List RV :=
  [.t 8]
theorem c24_ok : cC Try.prog Try.f24.ntmps (Try.f24.body.getD .skip) = some c24 := by kernel_rfl

def c25 : List C :=
  [.q 4 (.mv (.c .nilsl)), .m 5 0, .m 6 1, .q 7 (.call 39 [.t 5, .t 6, .c (.bool true)]), .m 4 7, .ret]
def r25 : List RV :=
  [.t 4]
theorem c25_ok : cC Try.prog Try.f25.ntmps (Try.f25.body.getD .skip) = some c25 := by kernel_rfl

def c26 : List C :=
  [.q 4 (.alloc [.int .i64 0, .int .i64 0, .nilsl]), .q 5 (.mv (.c (.bool false))), .m 7 0, .m 8 1, .q 9 (.call 25 [.t 7, .t 8]), .m 6 9, .m 10 0, .m 11 1, .q 12 (.call 34 [.t 10, .t 11]), .q 13 (.un .not (.t 12)), .m 14 13, .op (some (14, false)) (some 15) (.mv (.t 0)), .op (some (14, false)) (some 16) (.nck (.t 15)), .op (some (14, false)) (some 17) (.fad 0 (.t 16)), .op (some (14, false)) (some 18) (.ldn [.int .u32, .int .i64] (.t 17)), .op (some (14, false)) (some 19) (.mv (.t 1)), .op (some (14, false)) (some 20) (.mv (.t 6)), .op (some (14, false)) (some 21) (.call 40 [.t 18, .t 19, .t 20]), .op (some (14, false)) (some 22) (.un .not (.t 21)), .q 23 (.pick (.t 14) (.c (.bool true)) (.t 22)), .cond (.t 23) [.q 24 (.build [.int .i64 0, .int .i64 0, .nilsl] []), .op none none (.st 3 (.t 4) (.t 24)), .q 5 (.mv (.c (.bool false))), .ret] [], .m 25 1, .m 26 6, .q 27 (.build [.int .i64 0, .int .i64 0, .nilsl] [(0, 1, .c (.int .i64 3)), (1, 1, .t 25), (2, 1, .t 26)]), .op none none (.st 3 (.t 4) (.t 27)), .q 5 (.mv (.c (.bool true))), .ret]
def r26 : List RV :=
  [.cn 4 3, .t 5]
theorem c26_ok : cC Try.prog Try.f26.ntmps (Try.f26.body.getD .skip) = some c26 := by kernel_rfl

def l27_0 : List (Nat × Bool × It) :=
  [(0, false, (none, some 5, .mv (.t 0), [])), (1, false, (none, some 6, .mv (.t 1), [])), (2, true, (none, some 7, .call 34 [.t 5, .t 6], [0, 1])), (3, false, (none, some 8, .mv (.t 7), [2, 2])), (4, false, (some (8, true), some 9, .mv (.t 0), [3])), (5, false, (some (8, true), some 10, .nck (.t 9), [4, 3])), (6, false, (some (8, true), some 11, .fad 0 (.t 10), [5, 3])), (7, false, (some (8, true), some 12, .ldn [.int .u32, .int .i64] (.t 11), [6, 3])), (10, false, (some (8, true), some 15, .mv (.t 0), [3])), (11, false, (some (8, true), some 16, .mv (.t 1), [3])), (16, false, (some (8, true), some 21, .mv (.t 0), [3])), (17, false, (some (8, true), some 22, .nck (.t 21), [16, 3])), (18, false, (some (8, true), some 23, .fad 0 (.t 22), [17, 3])), (19, false, (some (8, true), some 24, .ldn [.int .u32, .int .i64] (.t 23), [18, 3])), (8, true, (some (8, true), some 13, .call 41 [.t 12], [7, 3, 3])), (9, false, (some (8, true), some 14, .bin .sub (.t 13) (.c (.int .i64 1)), [8, 3])), (12, true, (some (8, true), some 17, .call 39 [.t 15, .t 16, .c (.bool false)], [10, 11, 8, 3])), (13, false, (some (8, true), some 18, .len false (.t 17), [12, 3])), (14, false, (some (8, true), some 19, .bin .sub (.t 14) (.t 18), [9, 13, 3])), (15, false, (some (8, true), some 20, .bin .mul (.c (.int .i64 2)) (.t 19), [14, 3])), (20, true, (some (8, true), some 25, .call 41 [.t 24], [19, 12, 3])), (21, false, (some (8, true), some 26, .bin .leq (.t 20) (.t 25), [15, 20, 3])), (22, false, (none, some 27, .pick (.t 8) (.t 26) (.c (.bool false)), [3, 21])), (23, false, (none, some 4, .mv (.t 27), [22, 20, 0, 1, 2, 3, 4, 5, 6, 7, 8, 9, 10, 11, 12, 13, 14, 15, 16, 17, 18, 19, 20, 21, 22]))]
def d27_0 : List It := pk l27_0
def o27_0 : List (Nat × Bool) := po l27_0
theorem l27_0_ok : okDraw d27_0 o27_0 = true ∧ mkL d27_0 o27_0 = some l27_0 := ⟨by kernel_rfl, by kernel_rfl⟩

def c27 : List C :=
  [.q 4 (.mv (.c (.bool false))), .draw d27_0, .ret]
def r27 : List RV :=
  [.t 4]
theorem c27_ok : cC Try.prog Try.f27.ntmps (Try.f27.body.getD .skip) = some c27 := by kernel_rfl

def c34 : List C :=
  [.q 4 (.mv (.c (.bool false))), .m 5 0, .q 6 (.nck (.t 5)), .q 7 (.fad 2 (.t 6)), .q 8 (.ld .any (.t 7)), .m 9 1, .q 10 (.look false .any .nilmap false (.t 8) (.t 9)), .q 11 (.eqp 1 true (.t 10) (.c .nilmap)), .m 4 11, .ret]
def r34 : List RV :=
  [.t 4]
theorem c34_ok : cC Try.prog Try.f34.ntmps (Try.f34.body.getD .skip) = some c34 := by kernel_rfl

def c38 : List C :=
  [.q 2 (.box (.t 0)), .q 4 (.mv (.c (.bool false))), .m 5 1, .q 6 (.bin .geq (.t 5) (.c (.int .i64 0))), .m 7 6, .op (some (7, true)) (some 8) (.mv (.t 1)), .op (some (7, true)) (some 9) (.bin .lss (.t 8) (.c (.int .i64 32))), .q 10 (.pick (.t 7) (.t 9) (.c (.bool false))), .m 11 10, .op (some (11, true)) (some 12) (.fad 0 (.t 2)), .op (some (11, true)) (some 13) (.ld (.int .u32) (.t 12)), .op (some (11, true)) (some 14) (.mv (.t 1)), .op (some (11, true)) (some 15) (.bin .shr (.t 13) (.t 14)), .op (some (11, true)) (some 16) (.bin .and (.t 15) (.c (.int .u32 1))), .op (some (11, true)) (some 17) (.bin .eql (.t 16) (.c (.int .u32 1))), .q 18 (.pick (.t 11) (.t 17) (.c (.bool false))), .m 4 18, .ret]
def r38 : List RV :=
  [.t 4]
theorem c38_ok : cC Try.prog Try.f38.ntmps (Try.f38.body.getD .skip) = some c38 := by kernel_rfl

def c39 : List C :=
  [.q 6 (.mv (.c .nilsl)), .q 7 (.mv (.c .nilsl)), .m 10 0, .q 11 (.nck (.t 10)), .q 12 (.fad 2 (.t 11)), .q 13 (.ld .any (.t 12)), .m 14 1, .q 15 (.look false .any .nilmap false (.t 13) (.t 14)), .q 16 (.call 53 [.t 15]), .q 17 (.call 44 [.t 16]), .q 18 (.len false (.t 17)), .q 19 (.mv (.c (.int .i64 0))), .blk 0 [.loop [.q 20 (.bin .lss (.t 19) (.t 18)), .cond (.t 20) [] [.exit 0], .blk 1 [.q 21 (.iad 1 (.t 17) (.t 19)), .q 22 (.ld (.int .i64) (.t 21)), .m 9 22, .m 23 0, .q 24 (.nck (.t 23)), .q 25 (.fad 2 (.t 24)), .q 26 (.ld .any (.t 25)), .m 27 1, .q 28 (.look false .any .nilmap false (.t 26) (.t 27)), .m 29 9, .q 30 (.look false .bool (.bool false) false (.t 28) (.t 29)), .m 31 2, .q 32 (.eqb false (.t 30) (.t 31)), .cond (.t 32) [.m 33 7, .m 34 9, .q 35 (.bsl 1 [.int .i64 0] 1 [(0, .t 34)]), .q 36 (.app 1 (.t 33) (.t 35)), .m 7 36] []], .q 37 (.bin .add (.t 19) (.c (.int .i64 1))), .m 19 37]], .m 38 7, .m 6 38, .ret]
def r39 : List RV :=
  [.t 6]
theorem c39_ok : cC Try.prog Try.f39.ntmps (Try.f39.body.getD .skip) = some c39 := by kernel_rfl

def c40 : List C :=
  [.q 3 (.box (.t 0)), .q 6 (.mv (.c (.bool false))), .m 9 2, .q 10 (.len false (.t 9)), .q 11 (.mv (.c (.int .i64 0))), .blk 0 [.loop [.q 12 (.bin .lss (.t 11) (.t 10)), .cond (.t 12) [] [.exit 0], .blk 1 [.m 13 11, .q 14 (.iad 1 (.t 9) (.t 11)), .q 15 (.ld (.int .i64) (.t 14)), .m 7 13, .m 8 15, .q 16 (.ldn [.int .u32, .int .i64] (.t 3)), .m 17 8, .q 18 (.call 38 [.t 16, .t 17]), .q 19 (.un .not (.t 18)), .m 20 19, .op (some (20, false)) (some 21) (.mv (.t 8)), .op (some (20, false)) (some 22) (.mv (.t 1)), .op (some (20, false)) (some 23) (.bin .eql (.t 21) (.t 22)), .q 24 (.pick (.t 20) (.c (.bool true)) (.t 23)), .m 25 24, .op (some (25, false)) (some 26) (.mv (.t 7)), .op (some (25, false)) (some 27) (.bin .gtr (.t 26) (.c (.int .i64 0))), .op (some (25, false)) (some 28) (.mv (.t 27)), .op (some (28, true)) (some 29) (.mv (.t 2)), .op (some (28, true)) (some 30) (.mv (.t 7)), .op (some (28, true)) (some 31) (.bin .sub (.t 30) (.c (.int .i64 1))), .op (some (28, true)) (some 32) (.iad 1 (.t 29) (.t 31)), .op (some (28, true)) (some 33) (.ld (.int .i64) (.t 32)), .op (some (28, true)) (some 34) (.mv (.t 8)), .op (some (28, true)) (some 35) (.bin .geq (.t 33) (.t 34)), .op (some (25, false)) (some 36) (.pick (.t 28) (.t 35) (.c (.bool false))), .q 37 (.pick (.t 25) (.c (.bool true)) (.t 36)), .cond (.t 37) [.q 6 (.mv (.c (.bool false))), .ret] []], .q 38 (.bin .add (.t 11) (.c (.int .i64 1))), .m 11 38]], .m 39 2, .q 40 (.len false (.t 39)), .q 41 (.bin .mul (.c (.int .i64 2)) (.t 40)), .q 42 (.ldn [.int .u32, .int .i64] (.t 3)), .q 43 (.call 41 [.t 42]), .q 44 (.bin .gtr (.t 41) (.t 43)), .m 6 44, .ret]
def r40 : List RV :=
  [.t 6]
theorem c40_ok : cC Try.prog Try.f40.ntmps (Try.f40.body.getD .skip) = some c40 := by kernel_rfl

def c41 : List C :=
  [.q 1 (.box (.t 0)), .q 2 (.mv (.c (.int .i64 0))), .q 3 (.fad 0 (.t 1)), .q 4 (.ld (.int .u32) (.t 3)), .q 5 (.call 54 [.t 4]), .m 2 5, .ret]
def r41 : List RV :=
  [.t 2]
theorem c41_ok : cC Try.prog Try.f41.ntmps (Try.f41.body.getD .skip) = some c41 := by kernel_rfl

def c53 : List C :=
  [.q 1 (.box (.t 0)), .q 2 (.mv (.c .nilfn)), .q 3 (.mkfn 61 [] [.t 1]), .m 2 3, .ret]
def r53 : List RV :=
  [.t 2]
theorem c53_ok : cC Try.prog Try.f53.ntmps (Try.f53.body.getD .skip) = some c53 := by kernel_rfl

def l54_0 : List (Nat × Bool × It) :=
  [(0, false, (none, some 3, .mv (.t 0), [])), (1, false, (none, some 4, .bin .shr (.t 3) (.c (.int .u64 24)), [0])), (2, false, (none, some 5, .ist (.c (.str big0)) (.t 4), [1])), (3, false, (none, some 6, .mv (.t 0), [])), (4, false, (none, some 7, .bin .shr (.t 6) (.c (.int .u64 16)), [3])), (5, false, (none, some 8, .bin .and (.t 7) (.c (.int .u32 255)), [4])), (6, false, (none, some 9, .ist (.c (.str big0)) (.t 8), [5])), (7, false, (none, some 10, .bin .add (.t 5)
  (.t 9), [2, 6])), (8, false, (none, some 11, .mv (.t 0), [])), (9, false, (none, some 12, .bin .shr (.t 11) (.c (.int .u64 8)), [8])), (10, false, (none, some 13, .bin .and (.t 12) (.c (.int .u32 255)), [9])), (11, false, (none, some 14, .ist (.c (.str big0)) (.t 13), [10])), (12, false, (none, some 15, .bin .add (.t 10) (.t 14), [7, 11])), (13, false, (none, some 16, .mv (.t 0), [])), (14, false, (none, some 17, .bin .and (.t 16) (.c (.int .u32 255)), [13])), (15, false, (none, some 18, .ist (.c (.str big1)) (.t 17), [14])), (16, false, (none, some 19, .bin .add (.t 15) (.t 18), [12, 15])), (17, false, (none, some 20, .cvi .i64 (.t 19), [16])), (18, false, (none, some 2, .mv (.t 20), [17, 0, 1, 2, 3, 4, 5, 6, 7, 8, 9, 10, 11, 12, 13, 14, 15, 16, 17]))]
def d54_0 : List It := pk l54_0
def o54_0 : List (Nat × Bool) := po l54_0
theorem l54_0_ok : okDraw d54_0 o54_0 = true ∧ mkL d54_0 o54_0 = some l54_0 := ⟨by kernel_rfl, by kernel_rfl⟩

def c54 : List C :=
  [.q 2 (.mv (.c (.int .i64 0))), .draw d54_0, .ret]
def r54 : List RV :=
  [.t 2]
theorem c54_ok : cC Try.prog Try.f54.ntmps (Try.f54.body.getD .skip) = some c54 := by kernel_rfl

end Go.AEX
