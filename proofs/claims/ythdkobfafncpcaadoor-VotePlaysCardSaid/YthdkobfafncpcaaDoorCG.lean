/- CG. -/
import Derived.Test.YthdkobfafncpcaaDoorAEzr
import Derived.Test.YthdkobfafncpcaaDoorProg
import Derived.KernelRfl
/- Compact codes, printed by gen.py from the given form; each is checked by its theorem. -/
namespace Go.AE
abbrev C.q (d : Nat) (o : O) : C := .op none (some d) o
abbrev C.m (d i : Nat) : C := .op none (some d) (.mv (.t i))
def pk (l : List (Nat × Bool × It)) : List It := (List.range l.length).filterMap fun i => (l.find? fun x => x.1 == i).map (·.2.2)
def po (l : List (Nat × Bool × It)) : List (Nat × Bool) := l.map fun x => (x.1, x.2.1)
end Go.AE
namespace Go.AEX
open Go Go.AE Go.Proofs
set_option maxRecDepth 100000
attribute [go_sem] C.q C.m

def big0 : List UInt8 := [0, 1, 1, 2, 1, 2, 2, 3, 1, 2, 2, 3, 2, 3, 3, 4, 1, 2, 2, 3, 2, 3, 3, 4, 2, 3, 3, 4, 3, 4, 4, 5, 1, 2, 2, 3, 2, 3, 3, 4, 2, 3, 3, 4, 3, 4, 4, 5, 2, 3, 3, 4, 3, 4, 4, 5, 3, 4, 4, 5, 4, 5, 5, 6, 1, 2, 2, 3, 2, 3, 3, 4, 2, 3, 3, 4, 3, 4, 4, 5, 2, 3, 3, 4, 3, 4, 4, 5, 3, 4, 4, 5, 4, 5, 5, 6, 2, 3, 3, 4, 3, 4, 4, 5, 3, 4, 4, 5, 4, 5, 5, 6, 3, 4, 4, 5, 4, 5, 5, 6, 4, 5, 5, 6, 5, 6, 6, 7, 1, 2, 2, 3, 2, 3, 3, 4, 2, 3, 3, 4, 3, 4, 4, 5, 2, 3, 3, 4, 3, 4, 4, 5, 3, 4, 4, 5, 4, 5, 5, 6, 2, 3, 3, 4, 3, 4, 4, 5, 3, 4, 4, 5, 4, 5, 5, 6, 3, 4, 4, 5, 4, 5, 5, 6, 4, 5, 5, 6, 5, 6, 6, 7, 2, 3, 3, 4, 3, 4, 4, 5, 3, 4, 4, 5, 4, 5, 5, 6, 3, 4, 4, 5, 4, 5, 5, 6, 4, 5, 5, 6, 5, 6, 6, 7, 3, 4, 4, 5, 4, 5, 5, 6, 4, 5, 5, 6, 5, 6, 6, 7, 4, 5, 5, 6, 5, 6, 6, 7, 5, 6, 6, 7, 6, 7, 7, 8]
abbrev big1 := big0

def d3_0 : List It :=
  [(none, some 112, .fad 0 (.t 6), []), (none, some 113, .ldn [.any, .int .i64] (.t 112), [0]), (none, some 114, .mv (.t 12), []), (none, some 115, .call 19 [.t 114], [2]), (none, some 116, .call 18 [.t 113, .t 115], [1, 3, 3]), (none, some 111, .mv (.t 116), [4]), (none, some 117, .ext (.t 111) 0, [5]), (none, some 118, .ext (.t 111) 1, [5]), (none, some 15, .alloc [.nilsl, .int .i64 0], []), (none, none, .st 2 (.t 15) (.t 117), [8, 6, 4, 0, 1, 2, 3, 4, 5, 6, 8]), (none, some 16, .mv (.t 118), [7, 9, 0, 1, 2, 3, 4, 5, 6, 7, 8, 9])]
def ot3_0 : OT := (.cons 0 false (.cons 1 false (.cons 2 false (.br 3 (.br 4 (.cons 5 false (.cons 6 false (.cons 7 false (.cons 8 true (.cons 9 true (.cons 10 false .nil)))))) 8 (.cons 4 true (.cons 5 false (.cons 6 false (.cons 7 false (.cons 9 true (.cons 10 false .nil))))))) 8 (.cons 3 true (.cons 4 true (.cons 5 false (.cons 6 false (.cons 7 false (.cons 9 true (.cons 10 false .nil)))))))))))
def lt3_0 : LT :=
  (.cons 0 false (none, some 112, .fad 0 (.t 6), []) (.cons 1 false (none, some 113, .ldn [.any, .int .i64] (.t 112), [0]) (.cons 2 false (none, some 114, .mv (.t 12), []) (.br 3 (none, some 115, .call 19 [.t 114], [2]) (.br 4 (none, some 116, .call 18 [.t 113, .t 115], [1, 3, 3]) (.cons 5 false (none, some 111, .mv (.t 116), [4]) (.cons 6 false (none, some 117, .ext (.t 111) 0, [5]) (.cons 7 false (none, some 118, .ext (.t 111) 1, [5]) (.cons 8 true (none, some 15, .alloc [.nilsl, .int .i64 0], []) (.cons 9 true (none, none, .st 2 (.t 15) (.t 117), [8, 6, 4, 0, 1, 2, 3, 4, 5, 6, 8]) (.cons 10 false (none, some 16, .mv (.t 118), [7, 9, 0, 1, 2, 3, 4, 5, 6, 7, 8, 9]) .nil)))))) 8 (none, some 15, .alloc [.nilsl, .int .i64 0], []) (.cons 4 true (none, some 116, .call 18 [.t 113, .t 115], [1, 3, 3]) (.cons 5 false (none, some 111, .mv (.t 116), [4]) (.cons 6 false (none, some 117, .ext (.t 111) 0, [5]) (.cons 7 false (none, some 118, .ext (.t 111) 1, [5]) (.cons 9 true (none, none, .st 2 (.t 15) (.t 117), [8, 6, 4, 0, 1, 2, 3, 4, 5, 6, 8]) (.cons 10 false (none, some 16, .mv (.t 118), [7, 9, 0, 1, 2, 3, 4, 5, 6, 7, 8, 9]) .nil))))))) 8 (none, some 15, .alloc [.nilsl, .int .i64 0], []) (.cons 3 true (none, some 115, .call 19 [.t 114], [2]) (.cons 4 true (none, some 116, .call 18 [.t 113, .t 115], [1, 3, 3]) (.cons 5 false (none, some 111, .mv (.t 116), [4]) (.cons 6 false (none, some 117, .ext (.t 111) 0, [5]) (.cons 7 false (none, some 118, .ext (.t 111) 1, [5]) (.cons 9 true (none, none, .st 2 (.t 15) (.t 117), [8, 6, 4, 0, 1, 2, 3, 4, 5, 6, 8]) (.cons 10 false (none, some 16, .mv (.t 118), [7, 9, 0, 1, 2, 3, 4, 5, 6, 7, 8, 9]) .nil)))))))))))
theorem lt3_0_ok : okDrawT d3_0 ot3_0 = true ∧ mkLT d3_0 ot3_0 = some lt3_0 := ⟨by kernel_rfl, by kernel_rfl⟩

def c3 : List C :=
  [.q 4 (.mv (.c (.bool false))), .q 17 (.call 4 []), .q 18 (.un .not (.t 17)), .cond (.t 18) [.q 4 (.mv (.c (.bool false))), .ret] [], .m 19 0, .q 20 (.len false (.t 19)), .q 21 (.bin .gtr (.t 20) (.c (.int .i64 12))), .cond (.t 21) [.m 22 0, .q 23 (.lsl 1 (.t 22) none (some (.c (.int .i64 12))) none), .m 0 23] [], .m 24 0, .q 25 (.call 6 [.t 24]), .q 26 (.call 5 [.t 25]), .m 5 26, .m 27 0, .q 28 (.call 7 [.t 27]), .q 29 (.build [.nilsl, .int .i64 0, .nilsl, .nilsl] [(0, 2, .t 28)]), .q 6 (.alloc [.nilsl, .int .i64 0, .nilsl, .nilsl]), .op none none (.st 4 (.t 6) (.t 29)), .q 7 (.mv (.c (.int .i64 0))), .blk 0 [.loop [.m 30 7, .m 31 1, .q 32 (.len false (.t 31)), .q 33 (.bin .lss (.t 30) (.t 32)), .m 34 33, .op (some (34, true)) (some 35) (.mv (.t 7)), .op (some (34, true)) (some 36) (.bin .lss (.t 35) (.c (.int .i64 120))), .q 37 (.pick (.t 34) (.t 36) (.c (.bool false))), .cond (.t 37) [] [.exit 0], .blk 1 [.m 40 1, .m 41 7, .q 42 (.iad 7 (.t 40) (.t 41)), .q 43 (.ldn [.int .i64, .int .i64, .int .i64, .bool, .int .i64, .int .i64, .any] (.t 42)), .q 8 (.alloc [.int .i64 0, .int .i64 0, .int .i64 0, .bool false, .int .i64 0, .int .i64 0, .nilsl]), .op none none (.st 7 (.t 8) (.t 43)), .q 9 (.mv (.c (.int .i64 0))), .q 10 (.mv (.c (.int .i64 0))), .q 44 (.fad 0 (.t 8)), .q 45 (.ld (.int .i64) (.t 44)), .blk 2 [.q 47 (.bin .eql (.t 45) (.c (.int .i64 1))), .m 46 47, .cond (.t 46) [.m 48 5, .q 49 (.fad 2 (.t 8)), .q 50 (.ld (.int .i64) (.t 49)), .q 51 (.call 8 [.t 48, .t 50]), .m 10 51, .q 53 (.ldn [.any, .int .i64, .any, .any] (.t 6)), .q 54 (.fad 2 (.t 8)), .q 55 (.ld (.int .i64) (.t 54)), .q 56 (.call 9 [.t 53, .t 55]), .m 52 56, .q 57 (.ext (.t 52) 0), .q 58 (.ext (.t 52) 1), .op none none (.st 4 (.t 6) (.t 57)), .m 9 58] [.q 60 (.bin .eql (.t 45) (.c (.int .i64 2))), .m 59 60, .cond (.t 59) [.m 61 5, .q 62 (.fad 1 (.t 8)), .q 63 (.ld (.int .i64) (.t 62)), .q 64 (.fad 2 (.t 8)), .q 65 (.ld (.int .i64) (.t 64)), .q 66 (.fad 3 (.t 8)), .q 67 (.ld .bool (.t 66)), .q 68
  (.call 10 [.t 61, .t 63, .t 65, .t 67]), .m 10 68, .q 70 (.ldn [.any, .int .i64, .any, .any] (.t 6)), .q 71 (.fad 1 (.t 8)), .q 72 (.ld (.int .i64) (.t 71)), .q 73 (.fad 2 (.t 8)), .q 74 (.ld (.int .i64) (.t 73)), .q 75 (.fad 3 (.t 8)), .q 76 (.ld .bool (.t 75)), .q 77 (.build [.int .i64 0, .int .i64 0, .bool false] [(0, 1, .t 72), (1, 1, .t 74), (2, 1, .t 76)]), .q 78 (.call 11 [.t 70, .t 77]), .m 69 78, .q 79 (.ext (.t 69) 0), .q 80 (.ext (.t 69) 1), .op none none (.st 4 (.t 6) (.t 79)), .m 9 80] [.q 82 (.bin .eql (.t 45) (.c (.int .i64 3))), .m 81 82, .cond (.t 81) [.q 83 (.fad 2 (.t 6)), .q 84 (.ld .any (.t 83)), .q 85 (.fad 2 (.t 8)), .q 86 (.ld (.int .i64) (.t 85)), .q 87 (.call 12 [.t 84, .t 86]), .m 11 87, .m 88 5, .q 89 (.fad 2 (.t 8)), .q 90 (.ld (.int .i64) (.t 89)), .q 91 (.call 13 [.t 88, .t 90]), .m 92 11, .q 93 (.eqb true (.t 91) (.t 92)), .cond (.t 93) [.q 4 (.mv (.c (.bool false))), .ret] [], .q 94 (.ldn [.any, .int .i64, .any, .any] (.t 6)), .q 95 (.fad 2 (.t 8)), .q 96 (.ld (.int .i64) (.t 95)), .q 97 (.call 14 [.t 94, .t 96]), .op none none (.st 4 (.t 6) (.t 97))] [.q 99 (.bin .eql (.t 45) (.c (.int .i64 4))), .m 98 99, .cond (.t 98) [.q 100 (.fad 4 (.t 8)), .q 101 (.ldn [.int .i64, .int .i64, .any] (.t 100)), .q 102 (.bsl 3 [.int .i64 0, .int .i64 0, .nilsl] 1 [(0, .t 101)]), .q 103 (.call 15 [.t 102]), .m 12 103, .m 105 5, .q 106 (.call 16 [.t 105]), .m 107 12, .q 108 (.call 17 [.t 106, .t 107]), .m 104 108, .q 109 (.ext (.t 104) 0), .q 110 (.ext (.t 104) 1), .q 13 (.alloc [.int .u32 0, .int .i64 0]), .op none none (.st 2 (.t 13) (.t 109)), .m 14 110, .draw d3_0, .m 119 14, .m 120 16, .q 121 (.bin .neq (.t 119) (.t 120)), .cond (.t 121) [.q 4 (.mv (.c (.bool false))), .ret] [], .m 122 5, .q 123 (.ldn [.int .u32, .int .i64] (.t 13)), .q 124 (.call 20 [.t 122, .t 123]), .q 125 (.ldn [.any, .int .i64] (.t 15)), .q 126 (.fad 2 (.t 6)), .q 127 (.ld .any (.t 126)), .q 128 (.fad 3 (.t 6)), .q 129 (.ld .any (.t 128)), .q 130 (.build [.nilsl, .int .i64
  0, .nilsl, .nilsl] [(0, 2, .t 125), (2, 1, .t 127), (3, 1, .t 129)]), .q 131 (.call 14 [.t 130, .c (.int .i64 (-5))]), .op none none (.st 4 (.t 6) (.t 131))] []]]]], .m 132 10, .m 133 9, .q 134 (.bin .neq (.t 132) (.t 133)), .m 135 134, .op (some (135, false)) (some 136) (.mv (.t 5)), .op (some (135, false)) (some 137) (.ldn [.any, .int .i64, .any, .any] (.t 6)), .op (some (135, false)) (some 138) (.call 21 [.t 136, .t 137]), .op (some (135, false)) (some 139) (.bin .neq (.t 138) (.c (.int .i64 0))), .q 140 (.pick (.t 135) (.c (.bool true)) (.t 139)), .cond (.t 140) [.q 4 (.mv (.c (.bool false))), .ret] []], .m 38 7, .q 39 (.bin .add (.t 38) (.c (.int .i64 1))), .m 7 39]], .q 4 (.mv (.c (.bool true))), .ret]
def r3 : List RV :=
  [.t 4]
theorem c3_ok : cC Tryd.prog Tryd.f3.ntmps (Tryd.f3.body.getD .skip) = some c3 := by kernel_rfl

def c4 : List C :=
  [.q 0 (.mv (.c (.bool false))), .q 4 (.bsl 1 [.int .i64 0] 3 [(0, .c (.int .i64 0)), (1, .c (.int .i64 1)), (2, .c (.int .i64 2))]), .q 5 (.call 6 [.t 4]), .q 6 (.call 5 [.t 5]), .m 1 6, .m 7 1, .q 8 (.eqp 0 false (.t 7) (.c .nilptr)), .m 9 8, .op (some (9, false)) (some 10) (.mv (.t 1)), .op (some (9, false)) (some 11) (.call 8 [.t 10, .c (.int .i64 2)]), .op (some (9, false)) (some 12) (.bin .neq (.t 11) (.c (.int .i64 0))), .q 13 (.pick (.t 9) (.c (.bool true)) (.t 12)), .m 14 13, .op (some (14, false)) (some 15) (.mv (.t 1)), .op (some (14, false)) (some 16) (.call 10 [.t 15, .c (.int .i64 0), .c (.int .i64 2), .c (.bool true)]), .op (some (14, false)) (some 17) (.bin .neq (.t 16) (.c (.int .i64 0))), .q 18 (.pick (.t 14) (.c (.bool true)) (.t 17)), .m 19 18, .op (some (19, false)) (some 20) (.mv (.t 1)), .op (some (19, false)) (some 21) (.call 10 [.t 20, .c (.int .i64 1), .c (.int .i64 2), .c (.bool true)]), .op (some (19, false)) (some 22) (.bin .neq (.t 21) (.c (.int .i64 0))), .q 23 (.pick (.t 19) (.c (.bool true)) (.t 22)), .cond (.t 23) [.q 0 (.mv (.c (.bool false))), .ret] [], .m 25 1, .q 26 (.call 22 [.t 25, .c (.int .i64 2)]), .m 24 26, .q 27 (.ext (.t 24) 0), .q 28 (.ext (.t 24) 1), .q 2 (.alloc [.int .i64 0, .int .i64 0, .nilsl]), .op none none (.st 3 (.t 2) (.t 27)), .m 3 28, .m 29 3, .m 30 29, .op (some (30, true)) (some 31) (.fad 0 (.t 2)), .op (some (30, true)) (some 32) (.ld (.int .i64) (.t 31)), .op (some (30, true)) (some 33) (.bin .eql (.t 32) (.c (.int .i64 3))), .q 34 (.pick (.t 30) (.t 33) (.c (.bool false))), .m 35 34, .op (some (35, true)) (some 36) (.fad 1 (.t 2)), .op (some (35, true)) (some 37) (.ld (.int .i64) (.t 36)), .op (some (35, true)) (some 38) (.bin .eql (.t 37) (.c (.int .i64 2))), .q 39 (.pick (.t 35) (.t 38) (.c (.bool false))), .m 40 39, .op (some (40, true)) (some 41) (.fad 2 (.t 2)), .op (some (40, true)) (some 42) (.ld .any (.t 41)), .op (some (40, true)) (some 43) (.len false (.t 42)), .op (some (40, true)) (some 44)
  (.bin .eql (.t 43) (.c (.int .i64 2))), .q 45 (.pick (.t 40) (.t 44) (.c (.bool false))), .m 0 45, .ret]
def r4 : List RV :=
  [.t 0]
theorem c4_ok : cC Tryd.prog Tryd.f4.ntmps (Tryd.f4.body.getD .skip) = some c4 := by kernel_rfl

def c5 : List C :=
  [.q 1 (.box (.t 0)), .q 2 (.mv (.c .nilptr)), .q 3 (.ldn [.int .u32, .int .i64] (.t 1)), .q 4 .mkmap, .q 5 (.build [.int .u32 0, .int .i64 0, .nilmap] [(0, 2, .t 3), (2, 1, .t 4)]), .q 6 (.box (.t 5)), .m 2 6, .ret]
def r5 : List RV :=
  [.t 2]
theorem c5_ok : cC Tryd.prog Tryd.f5.ntmps (Tryd.f5.body.getD .skip) = some c5 := by kernel_rfl

def l6_0 : List (Nat × Bool × It) :=
  [(0, false, (none, some 18, .fad 0 (.t 3), [])), (1, false, (none, some 19, .ld (.int .u32) (.t 18), [0])), (2, false, (none, some 20, .mv (.t 5), [])), (3, false, (none, some 21, .bin .shl (.c (.int .u32 1)) (.t 20), [2])), (4, false, (none, some 22, .bin .or (.t 19) (.t 21), [1, 3])), (5, false, (none, some 23, .fad 0 (.t 3), [0, 1, 2, 3, 4])), (6, true, (none, none, .st 1 (.t 23) (.t 22), [5, 4, 0, 1, 2, 3, 4]))]
def d6_0 : List It := pk l6_0
def o6_0 : List (Nat × Bool) := po l6_0
theorem l6_0_ok : okDraw d6_0 o6_0 = true ∧ mkL d6_0 o6_0 = some l6_0 := ⟨by kernel_rfl, by kernel_rfl⟩

def c6 : List C :=
  [.q 2 (.alloc [.int .u32 0, .int .i64 0]), .q 3 (.alloc [.int .u32 0, .int .i64 0]), .m 6 0, .q 7 (.len false (.t 6)), .q 8 (.mv (.c (.int .i64 0))), .blk 0 [.loop [.q 9 (.bin .lss (.t 8) (.t 7)), .cond (.t 9) [] [.exit 0], .blk 1 [.q 10 (.iad 1 (.t 6) (.t 8)), .q 11 (.ld (.int .i64) (.t 10)), .m 5 11, .m 12 5, .q 13 (.bin .geq (.t 12) (.c (.int .i64 0))), .m 14 13, .op (some (14, true)) (some 15) (.mv (.t 5)), .op (some (14, true)) (some 16) (.bin .lss (.t 15) (.c (.int .i64 32))), .q 17 (.pick (.t 14) (.t 16) (.c (.bool false))), .cond (.t 17) [.draw d6_0] []], .q 24 (.bin .add (.t 8) (.c (.int .i64 1))), .m 8 24]], .q 25 (.ldn [.int .u32, .int .i64] (.t 3)), .op none none (.st 2 (.t 2) (.t 25)), .ret]
def r6 : List RV :=
  [.cn 2 2]
theorem c6_ok : cC Tryd.prog Tryd.f6.ntmps (Tryd.f6.body.getD .skip) = some c6 := by kernel_rfl

def c7 : List C :=
  [.q 2 (.alloc [.nilsl, .int .i64 0]), .q 5 (.build [.nilsl, .int .i64 0] []), .q 3 (.alloc [.nilsl, .int .i64 0]), .op none none (.st 2 (.t 3) (.t 5)), .q 4 (.mv (.c (.int .i64 0))), .blk 0 [.loop [.m 6 4, .q 7 (.bin .lss (.t 6) (.c (.int .i64 32))), .cond (.t 7) [] [.exit 0], .blk 1 [.m 10 0, .q 11 (.build [.nilsl, .int .i64 0] [(0, 1, .t 10)]), .m 12 4, .q 13 (.call 23 [.t 11, .t 12]), .cond (.t 13) [.q 14 (.fad 0 (.t 3)), .q 15 (.ld .any (.t 14)), .m 16 4, .q 17 (.bsl 1 [.int .i64 0] 1 [(0, .t 16)]), .q 18 (.app 1 (.t 15) (.t 17)), .q 19 (.fad 0 (.t 3)), .op none none (.st 1 (.t 19) (.t 18))] []], .m 8 4, .q 9 (.bin .add (.t 8) (.c (.int .i64 1))), .m 4 9]], .q 20 (.ldn [.any, .int .i64] (.t 3)), .op none none (.st 2 (.t 2) (.t 20)), .ret]
def r7 : List RV :=
  [.cn 2 2]
theorem c7_ok : cC Tryd.prog Tryd.f7.ntmps (Tryd.f7.body.getD .skip) = some c7 := by kernel_rfl

def c8 : List C :=
  [.q 4 (.mv (.c (.int .i64 0))), .blk 0 [.m 6 1, .q 7 (.bin .eql (.t 6) (.c (.int .i64 0))), .m 5 7, .cond (.t 5) [.q 4 (.mv (.c (.int .i64 4))), .ret] [.m 9 0, .q 10 (.nck (.t 9)), .q 11 (.fad 0 (.t 10)), .q 12 (.ldn [.int .u32, .int .i64] (.t 11)), .m 13 1, .q 14 (.call 24 [.t 12, .t 13]), .q 15 (.un .not (.t 14)), .m 8 15, .cond (.t 8) [.q 4 (.mv (.c (.int .i64 13))), .ret] [.m 17 0, .m 18 1, .q 19 (.call 25 [.t 17, .t 18]), .m 16 19, .cond (.t 16) [.q 4 (.mv (.c (.int .i64 10))), .ret] []]]], .m 20 0, .q 21 (.nck (.t 20)), .q 22 (.fad 2 (.t 21)), .q 23 (.ld .any (.t 22)), .m 24 1, .q 25 .mkmap, .op none none (.mput false (.t 23) (.t 24) (.t 25)), .q 4 (.mv (.c (.int .i64 0))), .ret]
def r8 : List RV :=
  [.t 4]
theorem c8_ok : cC Tryd.prog Tryd.f8.ntmps (Tryd.f8.body.getD .skip) = some c8 := by kernel_rfl

def c9 : List C :=
  [.q 2 (.box (.t 0)), .q 4 (.alloc [.nilsl, .int .i64 0, .nilsl, .nilsl]), .q 5 (.mv (.c (.int .i64 0))), .m 6 1, .q 7 (.bin .eql (.t 6) (.c (.int .i64 0))), .cond (.t 7) [.q 8 (.ldn [.any, .int .i64, .any, .any] (.t 2)), .op none none (.st 4 (.t 4) (.t 8)), .q 5 (.mv (.c (.int .i64 4))), .ret] [], .q 9 (.fad 0 (.t 2)), .q 10 (.ldn [.any, .int .i64] (.t 9)), .m 11 1, .q 12 (.call 23 [.t 10, .t 11]), .q 13 (.un .not (.t 12)), .cond (.t 13) [.q 14 (.ldn [.any, .int .i64, .any, .any] (.t 2)), .op none none (.st 4 (.t 4) (.t 14)), .q 5 (.mv (.c (.int .i64 13))), .ret] [], .q 15 (.fad 2 (.t 2)), .q 16 (.ld .any (.t 15)), .m 17 1, .q 18 (.call 12 [.t 16, .t 17]), .cond (.t 18) [.q 19 (.ldn [.any, .int .i64, .any, .any] (.t 2)), .op none none (.st 4 (.t 4) (.t 19)), .q 5 (.mv (.c (.int .i64 10))), .ret] [], .q 20 (.bsl 1 [.int .i64 0] 0 []), .q 21 (.fad 2 (.t 2)), .q 22 (.ld .any (.t 21)), .q 23 (.app 1 (.t 20) (.t 22)), .m 24 1, .q 25 (.bsl 1 [.int .i64 0] 1 [(0, .t 24)]), .q 26 (.app 1 (.t 23) (.t 25)), .q 27 (.fad 2 (.t 2)), .op none none (.st 1 (.t 27) (.t 26)), .q 28 (.ldn [.any, .int .i64, .any, .any] (.t 2)), .op none none (.st 4 (.t 4) (.t 28)), .q 5 (.mv (.c (.int .i64 0))), .ret]
def r9 : List RV :=
  [.cn 4 4, .t 5]
theorem c9_ok : cC Tryd.prog Tryd.f9.ntmps (Tryd.f9.body.getD .skip) = some c9 := by kernel_rfl

def c10 : List C :=
  [.q 8 (.mv (.c (.int .i64 0))), .blk 0 [.m 12 0, .m 13 2, .q 14 (.call 25 [.t 12, .t 13]), .q 15 (.un .not (.t 14)), .m 11 15, .cond (.t 11) [.q 8 (.mv (.c (.int .i64 9))), .ret] [.m 17 0, .q 18 (.nck (.t 17)), .q 19 (.fad 0 (.t 18)), .q 20 (.ldn [.int .u32, .int .i64] (.t 19)), .m 21 1, .q 22 (.call 24 [.t 20, .t 21]), .q 23 (.un .not (.t 22)), .m 24 23, .op (some (24, false)) (some 25) (.mv (.t 1)), .op (some (24, false)) (some 26) (.mv (.t 2)), .op (some (24, false)) (some 27) (.bin .eql (.t 25) (.t 26)), .q 28 (.pick (.t 24) (.c (.bool true)) (.t 27)), .m 16 28, .cond (.t 16) [.q 8 (.mv (.c (.int .i64 13))), .ret] []]], .m 30 0, .q 31 (.nck (.t 30)), .q 32 (.fad 2 (.t 31)), .q 33 (.ld .any (.t 32)), .m 34 2, .q 35 (.look false .any .nilmap false (.t 33) (.t 34)), .m 36 1, .q 37 (.look false .bool (.bool false) true (.t 35) (.t 36)), .m 29 37, .q 38 (.ext (.t 29) 0), .q 39 (.ext (.t 29) 1), .m 9 38, .m 10 39, .m 40 10, .cond (.t 40) [.q 8 (.mv (.c (.int .i64 10))), .ret] [], .m 41 0, .q 42 (.nck (.t 41)), .q 43 (.fad 2 (.t 42)), .q 44 (.ld .any (.t 43)), .m 45 2, .q 46 (.look false .any .nilmap false (.t 44) (.t 45)), .m 47 1, .m 48 3, .op none none (.mput false (.t 46) (.t 47) (.t 48)), .q 8 (.mv (.c (.int .i64 0))), .ret]
def r10 : List RV :=
  [.t 8]
theorem c10_ok : cC Tryd.prog Tryd.f10.ntmps (Tryd.f10.body.getD .skip) = some c10 := by kernel_rfl

def l11_0 : List (Nat × Bool × It) :=
  [(0, false, (none, some 50, .bsl 3 [.int .i64 0, .int .i64 0, .bool false] 0 [], [])), (1, false, (none, some 51, .fad 3 (.t 2), [])), (2, false, (none, some 52, .ld .any (.t 51), [1])), (4, false, (none, some 54, .ldn [.int .i64, .int .i64, .bool] (.t 3), [])), (5, false, (none, some 55, .bsl 3 [.int .i64 0, .int .i64 0, .bool false] 1 [(0, .t 54)], [4])), (3, true, (none, some 53, .app 3 (.t 50) (.t 52), [0, 2])), (6, true, (none, some 56, .app 3 (.t 53) (.t 55), [3, 5, 3])), (7, false, (none, some 57, .fad 3 (.t 2), [0, 1, 2, 3, 4, 5, 6])), (8, true, (none, none, .st 1 (.t 57) (.t 56), [7, 6, 6, 0, 1, 2, 3, 4, 5, 6]))]
def d11_0 : List It := pk l11_0
def o11_0 : List (Nat × Bool) := po l11_0
theorem l11_0_ok : okDraw d11_0 o11_0 = true ∧ mkL d11_0 o11_0 = some l11_0 := ⟨by kernel_rfl, by kernel_rfl⟩

def c11 : List C :=
  [.q 2 (.box (.t 0)), .q 3 (.box (.t 1)), .q 4 (.alloc [.nilsl, .int .i64 0, .nilsl, .nilsl]), .q 5 (.mv (.c (.int .i64 0))), .q 8 (.fad 2 (.t 2)), .q 9 (.ld .any (.t 8)), .q 10 (.fad 1 (.t 3)), .q 11 (.ld (.int .i64) (.t 10)), .q 12 (.call 12 [.t 9, .t 11]), .q 13 (.un .not (.t 12)), .cond (.t 13) [.q 14 (.ldn [.any, .int .i64, .any, .any] (.t 2)), .op none none (.st 4 (.t 4) (.t 14)), .q 5 (.mv (.c (.int .i64 9))), .ret] [], .q 15 (.fad 0 (.t 2)), .q 16 (.ldn [.any, .int .i64] (.t 15)), .q 17 (.fad 0 (.t 3)), .q 18 (.ld (.int .i64) (.t 17)), .q 19 (.call 23 [.t 16, .t 18]), .q 20 (.un .not (.t 19)), .m 21 20, .op (some (21, false)) (some 22) (.fad 0 (.t 3)), .op (some (21, false)) (some 23) (.ld (.int .i64) (.t 22)), .op (some (21, false)) (some 24) (.fad 1 (.t 3)), .op (some (21, false)) (some 25) (.ld (.int .i64) (.t 24)), .op (some (21, false)) (some 26) (.bin .eql (.t 23) (.t 25)), .q 27 (.pick (.t 21) (.c (.bool true)) (.t 26)), .cond (.t 27) [.q 28 (.ldn [.any, .int .i64, .any, .any] (.t 2)), .op none none (.st 4 (.t 4) (.t 28)), .q 5 (.mv (.c (.int .i64 13))), .ret] [], .q 29 (.fad 3 (.t 2)), .q 30 (.ld .any (.t 29)), .q 31 (.len false (.t 30)), .q 32 (.mv (.c (.int .i64 0))), .blk 0 [.loop [.q 33 (.bin .lss (.t 32) (.t 31)), .cond (.t 33) [] [.exit 0], .blk 1 [.q 34 (.iad 3 (.t 30) (.t 32)), .q 35 (.ldn [.int .i64, .int .i64, .bool] (.t 34)), .q 7 (.alloc [.int .i64 0, .int .i64 0, .bool false]), .op none none (.st 3 (.t 7) (.t 35)), .q 36 (.fad 0 (.t 7)), .q 37 (.ld (.int .i64) (.t 36)), .q 38 (.fad 0 (.t 3)), .q 39 (.ld (.int .i64) (.t 38)), .q 40 (.bin .eql (.t 37) (.t 39)), .m 41 40, .op (some (41, true)) (some 42) (.fad 1 (.t 7)), .op (some (41, true)) (some 43) (.ld (.int .i64) (.t 42)), .op (some (41, true)) (some 44) (.fad 1 (.t 3)), .op (some (41, true)) (some 45) (.ld (.int .i64) (.t 44)), .op (some (41, true)) (some 46) (.bin .eql (.t 43) (.t 45)), .q 47 (.pick (.t 41) (.t 46) (.c (.bool false))), .cond (.t 47) [.q 48 (.ldn [.any, .int .i64, .any,
  .any] (.t 2)), .op none none (.st 4 (.t 4) (.t 48)), .q 5 (.mv (.c (.int .i64 10))), .ret] []], .q 49 (.bin .add (.t 32) (.c (.int .i64 1))), .m 32 49]], .draw d11_0, .q 58 (.ldn [.any, .int .i64, .any, .any] (.t 2)), .op none none (.st 4 (.t 4) (.t 58)), .q 5 (.mv (.c (.int .i64 0))), .ret]
def r11 : List RV :=
  [.cn 4 4, .t 5]
theorem c11_ok : cC Tryd.prog Tryd.f11.ntmps (Tryd.f11.body.getD .skip) = some c11 := by kernel_rfl

def c12 : List C :=
  [.q 4 (.mv (.c (.bool false))), .m 7 0, .q 8 (.len false (.t 7)), .q 9 (.mv (.c (.int .i64 0))), .blk 0 [.loop [.q 10 (.bin .lss (.t 9) (.t 8)), .cond (.t 10) [] [.exit 0], .blk 1 [.q 11 (.iad 1 (.t 7) (.t 9)), .q 12 (.ld (.int .i64) (.t 11)), .m 6 12, .m 13 6, .m 14 1, .q 15 (.bin .eql (.t 13) (.t 14)), .cond (.t 15) [.q 4 (.mv (.c (.bool true))), .ret] []], .q 16 (.bin .add (.t 9) (.c (.int .i64 1))), .m 9 16]], .q 4 (.mv (.c (.bool false))), .ret]
def r12 : List RV :=
  [.t 4]
theorem c12_ok : cC Tryd.prog Tryd.f12.ntmps (Tryd.f12.body.getD .skip) = some c12 := by kernel_rfl

def c13 : List C :=
  [.q 4 (.mv (.c (.bool false))), .m 6 0, .m 7 1, .q 8 (.call 25 [.t 6, .t 7]), .m 5 8, .m 9 0, .q 10 (.nck (.t 9)), .q 11 (.fad 2 (.t 10)), .q 12 (.ld .any (.t 11)), .m 13 1, .op none none (.mdel false (.t 12) (.t 13)), .m 14 5, .m 4 14, .ret]
def r13 : List RV :=
  [.t 4]
theorem c13_ok : cC Tryd.prog Tryd.f13.ntmps (Tryd.f13.body.getD .skip) = some c13 := by kernel_rfl

def c14 : List C :=
  [.q 2 (.box (.t 0)), .q 4 (.alloc [.nilsl, .int .i64 0, .nilsl, .nilsl]), .q 11 (.bsl 1 [.int .i64 0] 0 []), .m 5 11, .q 12 (.fad 2 (.t 2)), .q 13 (.ld .any (.t 12)), .q 14 (.len false (.t 13)), .q 15 (.mv (.c (.int .i64 0))), .blk 0 [.loop [.q 16 (.bin .lss (.t 15) (.t 14)), .cond (.t 16) [] [.exit 0], .blk 1 [.q 17 (.iad 1 (.t 13) (.t 15)), .q 18 (.ld (.int .i64) (.t 17)), .m 7 18, .m 19 7, .m 20 1, .q 21 (.bin .neq (.t 19) (.t 20)), .m 22 21, .op (some (22, true)) (some 23) (.fad 0 (.t 2)), .op (some (22, true)) (some 24) (.ldn [.any, .int .i64] (.t 23)), .op (some (22, true)) (some 25) (.mv (.t 7)), .op (some (22, true)) (some 26) (.call 23 [.t 24, .t 25]), .q 27 (.pick (.t 22) (.t 26) (.c (.bool false))), .cond (.t 27) [.m 28 5, .m 29 7, .q 30 (.bsl 1 [.int .i64 0] 1 [(0, .t 29)]), .q 31 (.app 1 (.t 28) (.t 30)), .m 5 31] []], .q 32 (.bin .add (.t 15) (.c (.int .i64 1))), .m 15 32]], .q 33 (.bsl 3 [.int .i64 0, .int .i64 0, .bool false] 0 []), .m 8 33, .q 34 (.fad 3 (.t 2)), .q 35 (.ld .any (.t 34)), .q 36 (.len false (.t 35)), .q 37 (.mv (.c (.int .i64 0))), .blk 2 [.loop [.q 38 (.bin .lss (.t 37) (.t 36)), .cond (.t 38) [] [.exit 2], .blk 3 [.q 39 (.iad 3 (.t 35) (.t 37)), .q 40 (.ldn [.int .i64, .int .i64, .bool] (.t 39)), .q 10 (.alloc [.int .i64 0, .int .i64 0, .bool false]), .op none none (.st 3 (.t 10) (.t 40)), .m 41 5, .q 42 (.fad 1 (.t 10)), .q 43 (.ld (.int .i64) (.t 42)), .q 44 (.call 12 [.t 41, .t 43]), .m 45 44, .op (some (45, true)) (some 46) (.fad 0 (.t 2)), .op (some (45, true)) (some 47) (.ldn [.any, .int .i64] (.t 46)), .op (some (45, true)) (some 48) (.fad 0 (.t 10)), .op (some (45, true)) (some 49) (.ld (.int .i64) (.t 48)), .op (some (45, true)) (some 50) (.call 23 [.t 47, .t 49]), .q 51 (.pick (.t 45) (.t 50) (.c (.bool false))), .cond (.t 51) [.m 52 8, .q 53 (.ldn [.int .i64, .int .i64, .bool] (.t 10)), .q 54 (.bsl 3 [.int .i64 0, .int .i64 0, .bool false] 1 [(0, .t 53)]), .q 55 (.app 3 (.t 52) (.t 54)), .m 8 55] []], .q 56 (.bin .add (.t
  37) (.c (.int .i64 1))), .m 37 56]], .q 57 (.fad 0 (.t 2)), .q 58 (.ldn [.any, .int .i64] (.t 57)), .m 59 5, .m 60 8, .q 61 (.build [.nilsl, .int .i64 0, .nilsl, .nilsl] [(0, 2, .t 58), (2, 1, .t 59), (3, 1, .t 60)]), .op none none (.st 4 (.t 4) (.t 61)), .ret]
def r14 : List RV :=
  [.cn 4 4]
theorem c14_ok : cC Tryd.prog Tryd.f14.ntmps (Tryd.f14.body.getD .skip) = some c14 := by kernel_rfl

def c15 : List C :=
  [.q 2 (.mv (.c .nilsl)), .q 3 (.mv (.c .nilsl)), .q 4 (.mv (.c (.int .i64 0))), .blk 0 [.loop [.m 6 4, .m 7 0, .q 8 (.len false (.t 7)), .q 9 (.bin .lss (.t 6) (.t 8)), .m 10 9, .op (some (10, true)) (some 11) (.mv (.t 4)), .op (some (10, true)) (some 12) (.bin .lss (.t 11) (.c (.int .i64 10))), .q 13 (.pick (.t 10) (.t 12) (.c (.bool false))), .cond (.t 13) [] [.exit 0], .blk 1 [.m 16 0, .m 17 4, .q 18 (.iad 3 (.t 16) (.t 17)), .q 19 (.ldn [.int .i64, .int .i64, .any] (.t 18)), .q 5 (.alloc [.int .i64 0, .int .i64 0, .nilsl]), .op none none (.st 3 (.t 5) (.t 19)), .q 20 (.fad 2 (.t 5)), .q 21 (.ld .any (.t 20)), .q 22 (.len false (.t 21)), .q 23 (.bin .gtr (.t 22) (.c (.int .i64 34))), .cond (.t 23) [.q 24 (.fad 2 (.t 5)), .q 25 (.ld .any (.t 24)), .q 26 (.lsl 1 (.t 25) none (some (.c (.int .i64 34))) none), .q 27 (.fad 2 (.t 5)), .op none none (.st 1 (.t 27) (.t 26))] [], .m 28 3, .q 29 (.ldn [.int .i64, .int .i64, .any] (.t 5)), .q 30 (.bsl 3 [.int .i64 0, .int .i64 0, .nilsl] 1 [(0, .t 29)]), .q 31 (.app 3 (.t 28) (.t 30)), .m 3 31], .m 14 4, .q 15 (.bin .add (.t 14) (.c (.int .i64 1))), .m 4 15]], .m 32 3, .m 2 32, .ret]
def r15 : List RV :=
  [.t 2]
theorem c15_ok : cC Tryd.prog Tryd.f15.ntmps (Tryd.f15.body.getD .skip) = some c15 := by kernel_rfl

def c16 : List C :=
  [.q 2 (.alloc [.int .u32 0, .int .i64 0]), .m 3 0, .q 4 (.nck (.t 3)), .q 5 (.fad 0 (.t 4)), .q 6 (.ldn [.int .u32, .int .i64] (.t 5)), .op none none (.st 2 (.t 2) (.t 6)), .ret]
def r16 : List RV :=
  [.cn 2 2]
theorem c16_ok : cC Tryd.prog Tryd.f16.ntmps (Tryd.f16.body.getD .skip) = some c16 := by kernel_rfl

def l17_0 : List (Nat × Bool × It) :=
  [(0, false, (none, some 24, .fad 0 (.t 2), [])), (1, false, (none, some 25, .ld (.int .u32) (.t 24), [0])), (2, false, (none, some 26, .fad 1 (.t 8), [])), (3, false, (none, some 27, .ld (.int .i64) (.t 26), [2])), (4, false, (none, some 28, .bin .shl (.c (.int .u32 1)) (.t 27), [3])), (5, false, (none, some 29, .bin .xor (.t 25) (.t 28), [1, 4])), (6, false, (none, some 30, .fad 0 (.t 2), [0, 1, 2, 3, 4, 5])), (7, true, (none, none, .st 1 (.t 30) (.t 29), [6, 5, 0, 1, 2, 3, 4, 5]))]
def d17_0 : List It := pk l17_0
def o17_0 : List (Nat × Bool) := po l17_0
theorem l17_0_ok : okDraw d17_0 o17_0 = true ∧ mkL d17_0 o17_0 = some l17_0 := ⟨by kernel_rfl, by kernel_rfl⟩

def c17 : List C :=
  [.q 2 (.box (.t 0)), .q 4 (.alloc [.int .u32 0, .int .i64 0]), .q 5 (.mv (.c (.int .i64 0))), .q 10 (.ldn [.int .u32, .int .i64] (.t 2)), .q 6 (.alloc [.int .u32 0, .int .i64 0]), .op none none (.st 2 (.t 6) (.t 10)), .m 11 1, .q 12 (.len false (.t 11)), .q 13 (.mv (.c (.int .i64 0))), .blk 0 [.loop [.q 14 (.bin .lss (.t 13) (.t 12)), .cond (.t 14) [] [.exit 0], .blk 1 [.q 15 (.iad 3 (.t 11) (.t 13)), .q 16 (.ldn [.int .i64, .int .i64, .any] (.t 15)), .q 8 (.alloc [.int .i64 0, .int .i64 0, .nilsl]), .op none none (.st 3 (.t 8) (.t 16)), .q 17 (.ldn [.int .u32, .int .i64] (.t 2)), .q 18 (.ldn [.int .i64, .int .i64, .any] (.t 8)), .q 19 (.call 26 [.t 17, .t 18]), .m 9 19, .m 20 9, .q 21 (.bin .neq (.t 20) (.c (.int .i64 0))), .cond (.t 21) [.q 22 (.ldn [.int .u32, .int .i64] (.t 6)), .m 23 9, .op none none (.st 2 (.t 4) (.t 22)), .m 5 23, .ret] [], .draw d17_0, .q 31 (.fad 1 (.t 2)), .q 32 (.ld (.int .i64) (.t 31)), .q 33 (.bin .add (.t 32) (.c (.int .i64 1))), .q 34 (.fad 1 (.t 2)), .op none none (.st 1 (.t 34) (.t 33))], .q 35 (.bin .add (.t 13) (.c (.int .i64 1))), .m 13 35]], .q 36 (.ldn [.int .u32, .int .i64] (.t 2)), .op none none (.st 2 (.t 4) (.t 36)), .q 5 (.mv (.c (.int .i64 0))), .ret]
def r17 : List RV :=
  [.cn 4 2, .t 5]
theorem c17_ok : cC Tryd.prog Tryd.f17.ntmps (Tryd.f17.body.getD .skip) = some c17 := by kernel_rfl

def l18_0 : List (Nat × Bool × It) :=
  [(0, false, (none, some 20, .ldn [.any, .int .i64] (.t 2), [])), (1, false, (none, some 21, .ldn [.any, .int .i64] (.t 6), [])), (2, false, (none, some 22, .ldn [.int .i64, .int .i64, .any] (.t 8), [])), (3, true, (none, some 23, .call 27 [.t 21, .t 22], [1, 2])), (4, true, (none, none, .st 2 (.t 4) (.t 20), [0, 3, 0])), (5, false, (none, some 5, .mv (.t 23), [3, 4, 0, 1, 2, 3, 4]))]
def d18_0 : List It := pk l18_0
def o18_0 : List (Nat × Bool) := po l18_0
theorem l18_0_ok : okDraw d18_0 o18_0 = true ∧ mkL d18_0 o18_0 = some l18_0 := ⟨by kernel_rfl, by kernel_rfl⟩

def c18 : List C :=
  [.q 2 (.box (.t 0)), .q 4 (.alloc [.nilsl, .int .i64 0]), .q 5 (.mv (.c (.int .i64 0))), .q 9 (.ldn [.any, .int .i64] (.t 2)), .q 6 (.alloc [.nilsl, .int .i64 0]), .op none none (.st 2 (.t 6) (.t 9)), .m 10 1, .q 11 (.len false (.t 10)), .q 12 (.mv (.c (.int .i64 0))), .blk 0 [.loop [.q 13 (.bin .lss (.t 12) (.t 11)), .cond (.t 13) [] [.exit 0], .blk 1 [.q 14 (.iad 3 (.t 10) (.t 12)), .q 15 (.ldn [.int .i64, .int .i64, .any] (.t 14)), .q 8 (.alloc [.int .i64 0, .int .i64 0, .nilsl]), .op none none (.st 3 (.t 8) (.t 15)), .q 16 (.ldn [.any, .int .i64] (.t 6)), .q 17 (.ldn [.int .i64, .int .i64, .any] (.t 8)), .q 18 (.call 27 [.t 16, .t 17]), .q 19 (.bin .neq (.t 18) (.c (.int .i64 0))), .cond (.t 19) [.draw d18_0, .ret] [], .q 24 (.ldn [.any, .int .i64] (.t 6)), .q 25 (.ldn [.int .i64, .int .i64, .any] (.t 8)), .q 26 (.call 28 [.t 24, .t 25]), .op none none (.st 2 (.t 6) (.t 26))], .q 27 (.bin .add (.t 12) (.c (.int .i64 1))), .m 12 27]], .q 28 (.ldn [.any, .int .i64] (.t 6)), .op none none (.st 2 (.t 4) (.t 28)), .q 5 (.mv (.c (.int .i64 0))), .ret]
def r18 : List RV :=
  [.cn 4 2, .t 5]
theorem c18_ok : cC Tryd.prog Tryd.f18.ntmps (Tryd.f18.body.getD .skip) = some c18 := by kernel_rfl

def c19 : List C :=
  [.q 2 (.mv (.c .nilsl)), .q 6 (.bsl 3 [.int .i64 0, .int .i64 0, .nilsl] 0 []), .m 3 6, .m 7 0, .q 8 (.len false (.t 7)), .q 9 (.mv (.c (.int .i64 0))), .blk 0 [.loop [.q 10 (.bin .lss (.t 9) (.t 8)), .cond (.t 10) [] [.exit 0], .blk 1 [.q 11 (.iad 3 (.t 7) (.t 9)), .q 12 (.ldn [.int .i64, .int .i64, .any] (.t 11)), .q 5 (.alloc [.int .i64 0, .int .i64 0, .nilsl]), .op none none (.st 3 (.t 5) (.t 12)), .m 13 3, .q 14 (.ldn [.int .i64, .int .i64, .any] (.t 5)), .q 15 (.bsl 3 [.int .i64 0, .int .i64 0, .nilsl] 1 [(0, .t 14)]), .q 16 (.app 3 (.t 13) (.t 15)), .m 3 16], .q 17 (.bin .add (.t 9) (.c (.int .i64 1))), .m 9 17]], .m 18 3, .m 2 18, .ret]
def r19 : List RV :=
  [.t 2]
theorem c19_ok : cC Tryd.prog Tryd.f19.ntmps (Tryd.f19.body.getD .skip) = some c19 := by kernel_rfl

def c20 : List C :=
  [.q 3 (.box (.t 1)), .m 6 0, .q 7 (.ldn [.int .u32, .int .i64] (.t 3)), .q 8 (.nck (.t 6)), .q 9 (.fad 0 (.t 8)), .op none none (.st 2 (.t 9) (.t 7)), .m 10 0, .q 11 (.nck (.t 10)), .q 12 (.fad 2 (.t 11)), .q 13 (.ld .any (.t 12)), .q 14 (.mkfn 30 [] [.t 3]), .q 15 (.call 29 [.t 13, .t 14]), .m 16 0, .q 17 (.nck (.t 16)), .q 18 (.fad 2 (.t 17)), .q 19 (.ld .any (.t 18)), .q 20 (.rng (.t 19)), .blk 0 [.loop [.q 21 (.nxt (.t 20)), .q 22 (.ext (.t 21) 0), .cond (.t 22) [] [.exit 0], .blk 1 [.q 23 (.ent (.t 20)), .q 24 (.ext (.t 23) 1), .m 5 24, .m 25 5, .q 26 (.mkfn 32 [] [.t 3]), .q 27 (.call 31 [.t 25, .t 26])]]]]
def r20 : List RV :=
  []
theorem c20_ok : cC Tryd.prog Tryd.f20.ntmps (Tryd.f20.body.getD .skip) = some c20 := by kernel_rfl

def l21_0 : List (Nat × Bool × It) :=
  [(0, false, (none, some 10, .mv (.t 0), [])), (3, false, (none, some 13, .fad 2 (.t 3), [])), (4, false, (none, some 14, .ld .any (.t 13), [3])), (5, false, (none, some 15, .len false (.t 14), [4])), (1, true, (none, some 11, .call 33 [.t 10], [0])), (2, false, (none, some 12, .len false (.t 11), [1])), (6, false, (none, some 16, .bin .neq (.t 12) (.t 15), [2, 5])), (7, false, (none, some 17, .mv (.t 16), [6, 1])), (8, false, (some (17, false), some 18, .mv (.t 0), [7])), (10, false, (some (17, false), some 20, .fad 0 (.t 3), [7])), (11, false, (some (17, false), some 21, .ldn [.any, .int .i64] (.t 20), [10, 7])), (9, true, (some (17, false), some 19, .call 16 [.t 18], [8, 7, 7])), (12, true, (some (17, false), some 22, .call 34 [.t 19, .t 21], [9, 11, 9, 7])), (13, false, (some (17, false), some 23, .bin .neq (.t 22) (.c (.int .i64 0)), [12, 7])), (14, false, (none, some 24, .pick (.t 17) (.c (.bool true)) (.t 23), [7, 13]))]
def d21_0 : List It := pk l21_0
def o21_0 : List (Nat × Bool) := po l21_0
theorem l21_0_ok : okDraw d21_0 o21_0 = true ∧ mkL d21_0 o21_0 = some l21_0 := ⟨by kernel_rfl, by kernel_rfl⟩

def l21_1 : List (Nat × Bool × It) :=
  [(0, false, (none, some 49, .mv (.t 0), [])), (1, false, (none, some 50, .mv (.t 5), [])), (3, false, (none, some 52, .fad 2 (.t 3), [])), (4, false, (none, some 53, .ld .any (.t 52), [3])), (5, false, (none, some 54, .mv (.t 5), [])), (2, true, (none, some 51, .call 25 [.t 49, .t 50], [0, 1])), (6, true, (none, some 55, .call 12 [.t 53, .t 54], [4, 5, 2])), (7, false, (none, some 56, .eqb true (.t 51) (.t 55), [2, 6])), (8, false, (none, some 57, .mv (.t 56), [7, 6])), (9, false, (some (57, false), some 58, .mv (.t 0), [8])), (10, false, (some (57, false), some 59, .mv (.t 5), [8])), (12, false, (some (57, false), some 61, .mv (.t 6), [8])), (11, true, (some (57, false), some 60, .call 38 [.t 58, .t 59], [9, 10, 8, 8])), (13, true, (some (57, false), some 62, .call 37 [.t 60, .t 61], [11, 12, 11, 8])), (14, false, (some (57, false), some 63, .bin .neq (.t 62) (.c (.int .i64 0)), [13, 8])), (15, false, (none, some 64, .pick (.t 57) (.c (.bool true)) (.t 63), [8, 14])), (16, false, (none, some 65, .mv (.t 64), [15, 13])), (17, false, (some (65, false), some 66, .mv (.t 0), [16])), (18, false, (some (65, false), some 67, .mv (.t 5), [16])), (20, false, (some (65, false), some 69, .ldn [.any, .int .i64, .any, .any] (.t 3), [16])), (21, false, (some (65, false), some 70, .mv (.t 5), [16])), (19, true, (some (65, false), some 68, .call 39 [.t 66, .t 67], [17, 18, 16, 16])), (22, true, (some (65, false), some 71, .call 40 [.t 69, .t 70], [20, 21, 19, 16])), (23, false, (some (65, false), some 72, .eqb true (.t 68) (.t 71), [19, 22, 16])), (24, false, (none, some 73, .pick (.t 65) (.c (.bool true)) (.t 72), [16, 23])), (25, false, (none, some 74, .mv (.t 73), [24, 22])), (26, false, (some (74, false), some 75, .mv (.t 8), [25])), (27, false, (some (74, false), some 76, .mv (.t 9), [25])), (28, false, (some (74, false), some 77, .eqb true (.t 75) (.t 76), [26, 27, 25])), (29, false, (none, some 78, .pick (.t 74) (.c (.bool true)) (.t 77), [25, 28]))]
def d21_1 : List It := pk l21_1
def o21_1 : List (Nat × Bool) := po l21_1
theorem l21_1_ok : okDraw d21_1 o21_1 = true ∧ mkL d21_1 o21_1 = some l21_1 := ⟨by kernel_rfl, by kernel_rfl⟩

def l21_2 : List (Nat × Bool × It) :=
  [(0, false, (none, some 79, .mv (.t 8), [])), (1, false, (none, some 80, .mv (.t 79), [0])), (2, false, (some (80, true), some 81, .fad 0 (.t 7), [1])), (3, false, (some (80, true), some 82, .ld (.int .i64) (.t 81), [2, 1])), (4, false, (some (80, true), some 83, .bin .neq (.t 82) (.c (.int .i64 3)), [3, 1])), (5, false, (some (80, true), some 84, .mv (.t 83), [4, 1, 1])), (6, false, (some (84, false), some 85, .fad 1 (.t 7), [5])), (7, false, (some (84, false), some 86, .ld (.int .i64) (.t 85), [6, 5])), (8, false, (some (84, false), some 87, .mv (.t 5), [5])), (9, false, (some (84, false), some 88, .bin .neq (.t 86) (.t 87), [7, 8, 5])), (10, false, (some (80, true), some 89, .pick (.t 84) (.c (.bool true)) (.t 88), [5, 9, 1])), (11, false, (some (80, true), some 90, .mv (.t 89), [10, 5, 1])), (12, false, (some (90, false), some 91, .fad 2 (.t 7), [11])), (13, false, (some (90, false), some 92, .ld .any (.t 91), [12, 11])), (14, false, (some (90, false), some 93, .mv (.t 6), [11])), (15, true, (some (90, false), some 94, .call 37 [.t 92, .t 93], [13, 14, 11, 11])), (16, false, (some (90, false), some 95, .bin .neq (.t 94) (.c (.int .i64 0)), [15, 11])), (17, false, (some (80, true), some 96, .pick (.t 90) (.c (.bool true)) (.t 95), [11, 16, 1])), (18, false, (some (80, true), some 97, .mv (.t 96), [17, 15, 1])), (19, false, (some (97, false), some 98, .mv (.t 0), [18])), (21, false, (some (97, false), some 100, .ldn [.int .i64, .int .i64, .any] (.t 7), [18])), (20, true, (some (97, false), some 99, .call 16 [.t 98], [19, 18, 18])), (22, true, (some (97, false), some 101, .call 26 [.t 99, .t 100], [20, 21, 20, 18])), (23, false, (some (97, false), some 102, .bin .neq (.t 101) (.c (.int .i64 0)), [22, 18])), (24, false, (some (80, true), some 103, .pick (.t 97) (.c (.bool true)) (.t 102), [18, 23, 1])), (25, false, (some (80, true), some 104, .mv (.t 103), [24, 22, 1])), (26, false, (some (104, false), some 105, .mv (.t 0), [25])), (27, false, (some (104, false),
  some 106, .mv (.t 5), [25])), (28, true, (some (104, false), some 107, .call 39 [.t 105, .t 106], [26, 27, 25, 25])), (29, false, (some (80, true), some 108, .pick (.t 104) (.c (.bool true)) (.t 107), [25, 28, 1])), (30, false, (none, some 109, .pick (.t 80) (.t 108) (.c (.bool false)), [1, 29]))]
def d21_2 : List It := pk l21_2
def o21_2 : List (Nat × Bool) := po l21_2
theorem l21_2_ok : okDraw d21_2 o21_2 = true ∧ mkL d21_2 o21_2 = some l21_2 := ⟨by kernel_rfl, by kernel_rfl⟩

def c21 : List C :=
  [.q 3 (.box (.t 1)), .q 4 (.mv (.c (.int .i64 0))), .draw d21_0, .cond (.t 24) [.q 4 (.mv (.c (.int .i64 (-1)))), .ret] [], .q 5 (.mv (.c (.int .i64 (-1)))), .blk 0 [.loop [.m 25 5, .q 26 (.bin .lss (.t 25) (.c (.int .i64 9))), .cond (.t 26) [] [.exit 0], .blk 1 [.q 29 (.ldn [.any, .int .i64, .any, .any] (.t 3)), .m 30 5, .q 31 (.call 35 [.t 29, .t 30, .c (.bool true)]), .m 6 31, .m 33 0, .m 34 5, .q 35 (.call 22 [.t 33, .t 34]), .m 32 35, .q 36 (.ext (.t 32) 0), .q 37 (.ext (.t 32) 1), .q 7 (.alloc [.int .i64 0, .int .i64 0, .nilsl]), .op none none (.st 3 (.t 7) (.t 36)), .m 8 37, .q 38 (.fad 2 (.t 3)), .q 39 (.ld .any (.t 38)), .m 40 5, .q 41 (.call 12 [.t 39, .t 40]), .m 42 41, .op (some (42, true)) (some 43) (.fad 0 (.t 3)), .op (some (42, true)) (some 44) (.ldn [.any, .int .i64] (.t 43)), .op (some (42, true)) (some 45) (.mv (.t 5)), .op (some (42, true)) (some 46) (.mv (.t 6)), .op (some (42, true)) (some 47) (.call 36 [.t 44, .t 45, .t 46]), .q 48 (.pick (.t 42) (.t 47) (.c (.bool false))), .m 9 48, .draw d21_1, .cond (.t 78) [.q 4 (.mv (.c (.int .i64 (-1)))), .ret] [], .draw d21_2, .cond (.t 109) [.q 4 (.mv (.c (.int .i64 (-1)))), .ret] []], .m 27 5, .q 28 (.bin .add (.t 27) (.c (.int .i64 1))), .m 5 28]], .q 4 (.mv (.c (.int .i64 0))), .ret]
def r21 : List RV :=
  [.t 4]
theorem c21_ok : cC Tryd.prog Tryd.f21.ntmps (Tryd.f21.body.getD .skip) = some c21 := by kernel_rfl

def c22 : List C :=
  [.q 4 (.alloc [.int .i64 0, .int .i64 0, .nilsl]), .q 5 (.mv (.c (.bool false))), .m 7 0, .m 8 1, .q 9 (.call 38 [.t 7, .t 8]), .m 6 9, .m 10 0, .m 11 1, .q 12 (.call 25 [.t 10, .t 11]), .q 13 (.un .not (.t 12)), .m 14 13, .op (some (14, false)) (some 15) (.mv (.t 0)), .op (some (14, false)) (some 16) (.nck (.t 15)), .op (some (14, false)) (some 17) (.fad 0 (.t 16)), .op (some (14, false)) (some 18) (.ldn [.int .u32, .int .i64] (.t 17)), .op (some (14, false)) (some 19) (.mv (.t 1)), .op (some (14, false)) (some 20) (.mv (.t 6)), .op (some (14, false)) (some 21) (.call 41 [.t 18, .t 19, .t 20]), .op (some (14, false)) (some 22) (.un .not (.t 21)), .q 23 (.pick (.t 14) (.c (.bool true)) (.t 22)), .cond (.t 23) [.q 24 (.build [.int .i64 0, .int .i64 0, .nilsl] []), .op none none (.st 3 (.t 4) (.t 24)), .q 5 (.mv (.c (.bool false))), .ret] [], .m 25 1, .m 26 6, .q 27 (.build [.int .i64 0, .int .i64 0, .nilsl] [(0, 1, .c (.int .i64 3)), (1, 1, .t 25), (2, 1, .t 26)]), .op none none (.st 3 (.t 4) (.t 27)), .q 5 (.mv (.c (.bool true))), .ret]
def r22 : List RV :=
  [.cn 4 3, .t 5]
theorem c22_ok : cC Tryd.prog Tryd.f22.ntmps (Tryd.f22.body.getD .skip) = some c22 := by kernel_rfl

def c23 : List C :=
  [.q 2 (.box (.t 0)), .q 4 (.mv (.c (.bool false))), .q 7 (.fad 0 (.t 2)), .q 8 (.ld .any (.t 7)), .q 9 (.len false (.t 8)), .q 10 (.mv (.c (.int .i64 0))), .blk 0 [.loop [.q 11 (.bin .lss (.t 10) (.t 9)), .cond (.t 11) [] [.exit 0], .blk 1 [.q 12 (.iad 1 (.t 8) (.t 10)), .q 13 (.ld (.int .i64) (.t 12)), .m 6 13, .m 14 6, .m 15 1, .q 16 (.bin .eql (.t 14) (.t 15)), .cond (.t 16) [.q 4 (.mv (.c (.bool true))), .ret] []], .q 17 (.bin .add (.t 10) (.c (.int .i64 1))), .m 10 17]], .q 4 (.mv (.c (.bool false))), .ret]
def r23 : List RV :=
  [.t 4]
theorem c23_ok : cC Tryd.prog Tryd.f23.ntmps (Tryd.f23.body.getD .skip) = some c23 := by kernel_rfl

def c24 : List C :=
  [.q 2 (.box (.t 0)), .q 4 (.mv (.c (.bool false))), .m 5 1, .q 6 (.bin .geq (.t 5) (.c (.int .i64 0))), .m 7 6, .op (some (7, true)) (some 8) (.mv (.t 1)), .op (some (7, true)) (some 9) (.bin .lss (.t 8) (.c (.int .i64 32))), .q 10 (.pick (.t 7) (.t 9) (.c (.bool false))), .m 11 10, .op (some (11, true)) (some 12) (.fad 0 (.t 2)), .op (some (11, true)) (some 13) (.ld (.int .u32) (.t 12)), .op (some (11, true)) (some 14) (.mv (.t 1)), .op (some (11, true)) (some 15) (.bin .shr (.t 13) (.t 14)), .op (some (11, true)) (some 16) (.bin .and (.t 15) (.c (.int .u32 1))), .op (some (11, true)) (some 17) (.bin .eql (.t 16) (.c (.int .u32 1))), .q 18 (.pick (.t 11) (.t 17) (.c (.bool false))), .m 4 18, .ret]
def r24 : List RV :=
  [.t 4]
theorem c24_ok : cC Tryd.prog Tryd.f24.ntmps (Tryd.f24.body.getD .skip) = some c24 := by kernel_rfl

def c25 : List C :=
  [.q 4 (.mv (.c (.bool false))), .m 5 0, .q 6 (.nck (.t 5)), .q 7 (.fad 2 (.t 6)), .q 8 (.ld .any (.t 7)), .m 9 1, .q 10 (.look false .any .nilmap false (.t 8) (.t 9)), .q 11 (.eqp 1 true (.t 10) (.c .nilmap)), .m 4 11, .ret]
def r25 : List RV :=
  [.t 4]
theorem c25_ok : cC Tryd.prog Tryd.f25.ntmps (Tryd.f25.body.getD .skip) = some c25 := by kernel_rfl

def c26 : List C :=
  [.q 2 (.box (.t 0)), .q 3 (.box (.t 1)), .q 4 (.mv (.c (.int .i64 0))), .blk 0 [.q 6 (.fad 0 (.t 3)), .q 7 (.ld (.int .i64) (.t 6)), .q 8 (.bin .lss (.t 7) (.c (.int .i64 1))), .m 9 8, .op (some (9, false)) (some 10) (.fad 0 (.t 3)), .op (some (9, false)) (some 11) (.ld (.int .i64) (.t 10)), .op (some (9, false)) (some 12) (.bin .gtr (.t 11) (.c (.int .i64 3))), .q 13 (.pick (.t 9) (.c (.bool true)) (.t 12)), .m 5 13, .cond (.t 5) [.q 4 (.mv (.c (.int .i64 7))), .ret] [.q 15 (.fad 1 (.t 3)), .q 16 (.ld (.int .i64) (.t 15)), .q 17 (.bin .lss (.t 16) (.c (.int .i64 0))), .m 18 17, .op (some (18, false)) (some 19) (.fad 1 (.t 3)), .op (some (18, false)) (some 20) (.ld (.int .i64) (.t 19)), .op (some (18, false)) (some 21) (.bin .geq (.t 20) (.c (.int .i64 32))), .q 22 (.pick (.t 18) (.c (.bool true)) (.t 21)), .m 23 22, .op (some (23, false)) (some 24) (.fad 1 (.t 3)), .op (some (23, false)) (some 25) (.ld (.int .i64) (.t 24)), .op (some (23, false)) (some 26) (.bin .eql (.t 25) (.c (.int .i64 0))), .op (some (23, false)) (some 27) (.mv (.t 26)), .op (some (27, true)) (some 28) (.fad 0 (.t 3)), .op (some (27, true)) (some 29) (.ld (.int .i64) (.t 28)), .op (some (27, true)) (some 30) (.bin .neq (.t 29) (.c (.int .i64 1))), .op (some (23, false)) (some 31) (.pick (.t 27) (.t 30) (.c (.bool false))), .q 32 (.pick (.t 23) (.c (.bool true)) (.t 31)), .m 33 32, .op (some (33, false)) (some 34) (.fad 0 (.t 3)), .op (some (33, false)) (some 35) (.ld (.int .i64) (.t 34)), .op (some (33, false)) (some 36) (.bin .neq (.t 35) (.c (.int .i64 3))), .op (some (33, false)) (some 37) (.mv (.t 36)), .op (some (37, true)) (some 38) (.fad 2 (.t 3)), .op (some (37, true)) (some 39) (.ld .any (.t 38)), .op (some (37, true)) (some 40) (.len false (.t 39)), .op (some (37, true)) (some 41) (.bin .gtr (.t 40) (.c (.int .i64 0))), .op (some (33, false)) (some 42) (.pick (.t 37) (.t 41) (.c (.bool false))), .q 43 (.pick (.t 33) (.c (.bool true)) (.t 42)), .m 14 43, .cond (.t 14) [.q 4 (.mv (.c
  (.int .i64 4))), .ret] [.q 45 (.fad 0 (.t 3)), .q 46 (.ld (.int .i64) (.t 45)), .q 47 (.bin .eql (.t 46) (.c (.int .i64 1))), .m 48 47, .op (some (48, true)) (some 49) (.ldn [.int .u32, .int .i64] (.t 2)), .op (some (48, true)) (some 50) (.fad 1 (.t 3)), .op (some (48, true)) (some 51) (.ld (.int .i64) (.t 50)), .op (some (48, true)) (some 52) (.call 24 [.t 49, .t 51]), .q 53 (.pick (.t 48) (.t 52) (.c (.bool false))), .m 44 53, .cond (.t 44) [.q 4 (.mv (.c (.int .i64 10))), .ret] [.q 55 (.fad 0 (.t 3)), .q 56 (.ld (.int .i64) (.t 55)), .q 57 (.bin .neq (.t 56) (.c (.int .i64 1))), .m 58 57, .op (some (58, true)) (some 59) (.ldn [.int .u32, .int .i64] (.t 2)), .op (some (58, true)) (some 60) (.fad 1 (.t 3)), .op (some (58, true)) (some 61) (.ld (.int .i64) (.t 60)), .op (some (58, true)) (some 62) (.call 24 [.t 59, .t 61]), .op (some (58, true)) (some 63) (.un .not (.t 62)), .q 64 (.pick (.t 58) (.t 63) (.c (.bool false))), .m 54 64, .cond (.t 54) [.q 4 (.mv (.c (.int .i64 13))), .ret] [.q 66 (.fad 0 (.t 3)), .q 67 (.ld (.int .i64) (.t 66)), .q 68 (.bin .eql (.t 67) (.c (.int .i64 3))), .m 69 68, .op (some (69, true)) (some 70) (.ldn [.int .u32, .int .i64] (.t 2)), .op (some (69, true)) (some 71) (.fad 1 (.t 3)), .op (some (69, true)) (some 72) (.ld (.int .i64) (.t 71)), .op (some (69, true)) (some 73) (.fad 2 (.t 3)), .op (some (69, true)) (some 74) (.ld .any (.t 73)), .op (some (69, true)) (some 75) (.call 41 [.t 70, .t 72, .t 74]), .op (some (69, true)) (some 76) (.un .not (.t 75)), .q 77 (.pick (.t 69) (.t 76) (.c (.bool false))), .m 65 77, .cond (.t 65) [.q 4 (.mv (.c (.int .i64 15))), .ret] []]]]]], .q 4 (.mv (.c (.int .i64 0))), .ret]
def r26 : List RV :=
  [.t 4]
theorem c26_ok : cC Tryd.prog Tryd.f26.ntmps (Tryd.f26.body.getD .skip) = some c26 := by kernel_rfl

def c27 : List C :=
  [.q 2 (.box (.t 0)), .q 3 (.box (.t 1)), .q 4 (.mv (.c (.int .i64 0))), .q 5 (.fad 0 (.t 3)), .q 6 (.ld (.int .i64) (.t 5)), .q 7 (.bin .lss (.t 6) (.c (.int .i64 1))), .m 8 7, .op (some (8, false)) (some 9) (.fad 0 (.t 3)), .op (some (8, false)) (some 10) (.ld (.int .i64) (.t 9)), .op (some (8, false)) (some 11) (.bin .gtr (.t 10) (.c (.int .i64 3))), .q 12 (.pick (.t 8) (.c (.bool true)) (.t 11)), .cond (.t 12) [.q 4 (.mv (.c (.int .i64 7))), .ret] [], .q 13 (.fad 1 (.t 3)), .q 14 (.ld (.int .i64) (.t 13)), .q 15 (.bin .lss (.t 14) (.c (.int .i64 0))), .m 16 15, .op (some (16, false)) (some 17) (.fad 1 (.t 3)), .op (some (16, false)) (some 18) (.ld (.int .i64) (.t 17)), .op (some (16, false)) (some 19) (.bin .gtr (.t 18) (.c (.int .i64 31))), .q 20 (.pick (.t 16) (.c (.bool true)) (.t 19)), .m 21 20, .op (some (21, false)) (some 22) (.fad 1 (.t 3)), .op (some (21, false)) (some 23) (.ld (.int .i64) (.t 22)), .op (some (21, false)) (some 24) (.bin .eql (.t 23) (.c (.int .i64 0))), .op (some (21, false)) (some 25) (.mv (.t 24)), .op (some (25, true)) (some 26) (.fad 0 (.t 3)), .op (some (25, true)) (some 27) (.ld (.int .i64) (.t 26)), .op (some (25, true)) (some 28) (.bin .gtr (.t 27) (.c (.int .i64 1))), .op (some (21, false)) (some 29) (.pick (.t 25) (.t 28) (.c (.bool false))), .q 30 (.pick (.t 21) (.c (.bool true)) (.t 29)), .m 31 30, .op (some (31, false)) (some 32) (.fad 0 (.t 3)), .op (some (31, false)) (some 33) (.ld (.int .i64) (.t 32)), .op (some (31, false)) (some 34) (.bin .lss (.t 33) (.c (.int .i64 3))), .op (some (31, false)) (some 35) (.mv (.t 34)), .op (some (35, true)) (some 36) (.fad 2 (.t 3)), .op (some (35, true)) (some 37) (.ld .any (.t 36)), .op (some (35, true)) (some 38) (.len false (.t 37)), .op (some (35, true)) (some 39) (.bin .gtr (.t 38) (.c (.int .i64 0))), .op (some (31, false)) (some 40) (.pick (.t 35) (.t 39) (.c (.bool false))), .q 41 (.pick (.t 31) (.c (.bool true)) (.t 40)), .cond (.t 41) [.q 4 (.mv (.c (.int .i64 4))), .ret] [],
  .q 42 (.fad 0 (.t 3)), .q 43 (.ld (.int .i64) (.t 42)), .q 44 (.bin .eql (.t 43) (.c (.int .i64 1))), .cond (.t 44) [.q 45 (.ldn [.any, .int .i64] (.t 2)), .q 46 (.fad 1 (.t 3)), .q 47 (.ld (.int .i64) (.t 46)), .q 48 (.call 23 [.t 45, .t 47]), .cond (.t 48) [.q 4 (.mv (.c (.int .i64 10))), .ret] [], .q 4 (.mv (.c (.int .i64 0))), .ret] [], .q 49 (.ldn [.any, .int .i64] (.t 2)), .q 50 (.fad 1 (.t 3)), .q 51 (.ld (.int .i64) (.t 50)), .q 52 (.call 23 [.t 49, .t 51]), .q 53 (.un .not (.t 52)), .cond (.t 53) [.q 4 (.mv (.c (.int .i64 13))), .ret] [], .q 54 (.fad 0 (.t 3)), .q 55 (.ld (.int .i64) (.t 54)), .q 56 (.bin .eql (.t 55) (.c (.int .i64 3))), .m 57 56, .op (some (57, true)) (some 58) (.ldn [.any, .int .i64] (.t 2)), .op (some (57, true)) (some 59) (.fad 1 (.t 3)), .op (some (57, true)) (some 60) (.ld (.int .i64) (.t 59)), .op (some (57, true)) (some 61) (.fad 2 (.t 3)), .op (some (57, true)) (some 62) (.ld .any (.t 61)), .op (some (57, true)) (some 63) (.call 36 [.t 58, .t 60, .t 62]), .op (some (57, true)) (some 64) (.un .not (.t 63)), .q 65 (.pick (.t 57) (.t 64) (.c (.bool false))), .cond (.t 65) [.q 4 (.mv (.c (.int .i64 15))), .ret] [], .q 4 (.mv (.c (.int .i64 0))), .ret]
def r27 : List RV :=
  [.t 4]
theorem c27_ok : cC Tryd.prog Tryd.f27.ntmps (Tryd.f27.body.getD .skip) = some c27 := by kernel_rfl

def l28_0 : List (Nat × Bool × It) :=
  [(0, false, (none, some 11, .bsl 1 [.int .i64 0] 0 [], [])), (1, false, (none, some 12, .fad 0 (.t 2), [])), (2, false, (none, some 13, .ld .any (.t 12), [1])), (4, false, (none, some 15, .fad 1 (.t 3), [])), (5, false, (none, some 16, .ld (.int .i64) (.t 15), [4])), (6, false, (none, some 17, .bsl 1 [.int .i64 0] 1 [(0, .t 16)], [5])), (10, false, (none, some 21, .fad 1 (.t 2), [])), (11, false, (none, some 22, .ld (.int .i64) (.t 21), [10])), (12, false, (none, some 23, .bin .add (.t 22) (.c (.int .i64 1)), [11])), (3, true, (none, some 14, .app 1 (.t 11) (.t 13), [0, 2])), (7, true, (none, some 18, .app 1 (.t 14) (.t 17), [3, 6, 3])), (8, true, (none, some 19, .call 7 [.t 18], [7, 7])), (9, false, (none, some 20, .fld 0 none (.t 19), [8])), (13, false, (none, some 24, .build [.nilsl, .int .i64 0] [(0, 1, .t 20), (1, 1, .t 23)], [9, 12])), (14, true, (none, none, .st 2 (.t 4) (.t 24), [13, 8, 0, 1, 2, 3, 4, 5, 6, 7, 8, 9, 10, 11, 12, 13]))]
def d28_0 : List It := pk l28_0
def o28_0 : List (Nat × Bool) := po l28_0
theorem l28_0_ok : okDraw d28_0 o28_0 = true ∧ mkL d28_0 o28_0 = some l28_0 := ⟨by kernel_rfl, by kernel_rfl⟩

def c28 : List C :=
  [.q 2 (.box (.t 0)), .q 3 (.box (.t 1)), .q 4 (.alloc [.nilsl, .int .i64 0]), .q 8 (.fad 0 (.t 3)), .q 9 (.ld (.int .i64) (.t 8)), .q 10 (.bin .eql (.t 9) (.c (.int .i64 1))), .cond (.t 10) [.draw d28_0, .ret] [], .q 25 (.bsl 1 [.int .i64 0] 0 []), .m 5 25, .q 26 (.fad 0 (.t 2)), .q 27 (.ld .any (.t 26)), .q 28 (.len false (.t 27)), .q 29 (.mv (.c (.int .i64 0))), .blk 0 [.loop [.q 30 (.bin .lss (.t 29) (.t 28)), .cond (.t 30) [] [.exit 0], .blk 1 [.q 31 (.iad 1 (.t 27) (.t 29)), .q 32 (.ld (.int .i64) (.t 31)), .m 7 32, .m 33 7, .q 34 (.fad 1 (.t 3)), .q 35 (.ld (.int .i64) (.t 34)), .q 36 (.bin .neq (.t 33) (.t 35)), .cond (.t 36) [.m 37 5, .m 38 7, .q 39 (.bsl 1 [.int .i64 0] 1 [(0, .t 38)]), .q 40 (.app 1 (.t 37) (.t 39)), .m 5 40] []], .q 41 (.bin .add (.t 29) (.c (.int .i64 1))), .m 29 41]], .m 42 5, .q 43 (.fad 1 (.t 2)), .q 44 (.ld (.int .i64) (.t 43)), .q 45 (.bin .add (.t 44) (.c (.int .i64 1))), .q 46 (.build [.nilsl, .int .i64 0] [(0, 1, .t 42), (1, 1, .t 45)]), .op none none (.st 2 (.t 4) (.t 46)), .ret]
def r28 : List RV :=
  [.cn 4 2]
theorem c28_ok : cC Tryd.prog Tryd.f28.ntmps (Tryd.f28.body.getD .skip) = some c28 := by kernel_rfl

def c29 : List C :=
  [.m 6 0, .q 7 (.rng (.t 6)), .blk 0 [.loop [.q 8 (.nxt (.t 7)), .q 9 (.ext (.t 8) 0), .cond (.t 9) [] [.exit 0], .blk 1 [.q 10 (.ent (.t 7)), .q 11 (.ext (.t 10) 0), .q 12 (.ext (.t 10) 1), .m 4 11, .m 5 12, .m 13 1, .m 14 4, .m 15 5, .q 16 (.callv (.t 13) [.t 14, .t 15]), .cond (.t 16) [.m 17 0, .m 18 4, .op none none (.mdel false (.t 17) (.t 18))] []]]]]
def r29 : List RV :=
  []
theorem c29_ok : cC Tryd.prog Tryd.f29.ntmps (Tryd.f29.body.getD .skip) = some c29 := by kernel_rfl

def c30 : List C :=
  [.q 5 (.mv (.c (.bool false))), .q 6 (.ldn [.int .u32, .int .i64] (.t 2)), .m 7 0, .q 8 (.call 24 [.t 6, .t 7]), .q 9 (.un .not (.t 8)), .m 5 9, .ret]
def r30 : List RV :=
  [.t 5]
theorem c30_ok : cC Tryd.prog Tryd.f30.ntmps (Tryd.f30.body.getD .skip) = some c30 := by kernel_rfl

def c31 : List C :=
  [.m 6 0, .q 7 (.rng (.t 6)), .blk 0 [.loop [.q 8 (.nxt (.t 7)), .q 9 (.ext (.t 8) 0), .cond (.t 9) [] [.exit 0], .blk 1 [.q 10 (.ent (.t 7)), .q 11 (.ext (.t 10) 0), .q 12 (.ext (.t 10) 1), .m 4 11, .m 5 12, .m 13 1, .m 14 4, .m 15 5, .q 16 (.callv (.t 13) [.t 14, .t 15]), .cond (.t 16) [.m 17 0, .m 18 4, .op none none (.mdel false (.t 17) (.t 18))] []]]]]
def r31 : List RV :=
  []
theorem c31_ok : cC Tryd.prog Tryd.f31.ntmps (Tryd.f31.body.getD .skip) = some c31 := by kernel_rfl

def c32 : List C :=
  [.q 5 (.mv (.c (.bool false))), .q 6 (.ldn [.int .u32, .int .i64] (.t 2)), .m 7 0, .q 8 (.call 24 [.t 6, .t 7]), .q 9 (.un .not (.t 8)), .m 5 9, .ret]
def r32 : List RV :=
  [.t 5]
theorem c32_ok : cC Tryd.prog Tryd.f32.ntmps (Tryd.f32.body.getD .skip) = some c32 := by kernel_rfl

def c33 : List C :=
  [.q 2 (.mv (.c .nilsl)), .m 3 0, .q 4 (.nck (.t 3)), .q 5 (.fad 2 (.t 4)), .q 6 (.ld .any (.t 5)), .q 7 (.call 43 [.t 6]), .q 8 (.call 42 [.t 7]), .m 2 8, .ret]
def r33 : List RV :=
  [.t 2]
theorem c33_ok : cC Tryd.prog Tryd.f33.ntmps (Tryd.f33.body.getD .skip) = some c33 := by kernel_rfl

def l34_0 : List (Nat × Bool × It) :=
  [(0, false, (none, some 8, .ldn [.int .u32, .int .i64] (.t 2), [])), (2, false, (none, some 10, .fad 0 (.t 3), [])), (3, false, (none, some 11, .ld .any (.t 10), [2])), (1, true, (none, some 9, .call 44 [.t 8], [0])), (4, true, (none, some 12, .call 37 [.t 9, .t 11], [1, 3, 1])), (5, false, (none, some 13, .bin .neq (.t 12) (.c (.int .i64 0)), [4])), (6, false, (none, some 14, .mv (.t 13), [5, 4])), (7, false, (some (14, false), some 15, .ldn [.int .u32, .int .i64] (.t 2), [6])), (9, false, (some (14, false), some 17, .fad 0 (.t 3), [6])), (10, false, (some (14, false), some 18, .ld .any (.t 17), [9, 6])), (11, false, (some (14, false), some 19, .len false (.t 18), [10, 6])), (8, true, (some (14, false), some 16, .call 45 [.t 15], [7, 6, 6])), (12, false, (some (14, false), some 20, .bin .neq (.t 16) (.t 19), [8, 11, 6])), (13, false, (none, some 21, .pick (.t 14) (.c (.bool true)) (.t 20), [6, 12])), (14, false, (none, some 22, .mv (.t 21), [13, 8])), (15, false, (some (22, false), some 23, .ldn [.int .u32, .int .i64] (.t 2), [14])), (17, false, (some (22, false), some 25, .fad 1 (.t 3), [14])), (18, false, (some (22, false), some 26, .ld (.int .i64) (.t 25), [17, 14])), (16, true, (some (22, false), some 24, .call 46 [.t 23], [15, 14, 14])), (19, false, (some (22, false), some 27, .bin .neq (.t 24) (.t 26), [16, 18, 14])), (20, false, (none, some 28, .pick (.t 22) (.c (.bool true)) (.t 27), [14, 19]))]
def d34_0 : List It := pk l34_0
def o34_0 : List (Nat × Bool) := po l34_0
theorem l34_0_ok : okDraw d34_0 o34_0 = true ∧ mkL d34_0 o34_0 = some l34_0 := ⟨by kernel_rfl, by kernel_rfl⟩

def l34_1 : List (Nat × Bool × It) :=
  [(0, false, (none, some 38, .ldn [.int .u32, .int .i64] (.t 2), [])), (1, false, (none, some 39, .mv (.t 7), [])), (3, false, (none, some 41, .ldn [.any, .int .i64] (.t 3), [])), (4, false, (none, some 42, .mv (.t 7), [])), (2, true, (none, some 40, .call 24 [.t 38, .t 39], [0, 1])), (5, true, (none, some 43, .call 23 [.t 41, .t 42], [3, 4, 2])), (6, false, (none, some 44, .eqb true (.t 40) (.t 43), [2, 5])), (7, false, (none, some 45, .mv (.t 44), [6, 5])), (8, false, (some (45, false), some 46, .mv (.t 6), [7])), (9, false, (some (45, false), some 47, .mv (.t 46), [8, 7, 7])), (10, false, (some (47, true), some 48, .mv (.t 7), [9])), (11, false, (some (47, true), some 49, .bin .geq (.t 48) (.c (.int .i64 0)), [10, 9])), (12, false, (some (45, false), some 50, .pick (.t 47) (.t 49) (.c (.bool false)), [9, 11, 7])), (13, false, (some (45, false), some 51, .mv (.t 50), [12, 9, 7])), (14, false, (some (51, true), some 52, .mv (.t 7), [13])), (15, false, (some (51, true), some 53, .mv (.t 5), [13])), (16, false, (some (51, true), some 54, .bin .lss (.t 52) (.t 53), [14, 15, 13])), (17, false, (some (45, false), some 55, .pick (.t 51) (.t 54) (.c (.bool false)), [13, 16, 7])), (18, false, (some (45, false), some 56, .mv (.t 55), [17, 13, 7])), (19, false, (some (56, true), some 57, .ldn [.int .u32, .int .i64] (.t 2), [18])), (20, false, (some (56, true), some 58, .mv (.t 7), [18])), (21, true, (some (56, true), some 59, .call 24 [.t 57, .t 58], [19, 20, 18, 18])), (22, false, (some (56, true), some 60, .un .not (.t 59), [21, 18])), (23, false, (some (45, false), some 61, .pick (.t 56) (.t 60) (.c (.bool false)), [18, 22, 7])), (24, false, (none, some 62, .pick (.t 45) (.c (.bool true)) (.t 61), [7, 23]))]
def d34_1 : List It := pk l34_1
def o34_1 : List (Nat × Bool) := po l34_1
theorem l34_1_ok : okDraw d34_1 o34_1 = true ∧ mkL d34_1 o34_1 = some l34_1 := ⟨by kernel_rfl, by kernel_rfl⟩

def c34 : List C :=
  [.q 2 (.box (.t 0)), .q 3 (.box (.t 1)), .q 4 (.mv (.c (.int .i64 0))), .draw d34_0, .cond (.t 28) [.q 4 (.mv (.c (.int .i64 (-1)))), .ret] [], .q 30 (.ldn [.int .u32, .int .i64] (.t 2)), .q 31 (.call 47 [.t 30]), .m 29 31, .q 32 (.ext (.t 29) 0), .q 33 (.ext (.t 29) 1), .m 5 32, .m 6 33, .q 7 (.mv (.c (.int .i64 (-1)))), .blk 0 [.loop [.m 34 7, .q 35 (.bin .leq (.t 34) (.c (.int .i64 32))), .cond (.t 35) [] [.exit 0], .blk 1 [.draw d34_1, .cond (.t 62) [.q 4 (.mv (.c (.int .i64 (-1)))), .ret] []], .m 36 7, .q 37 (.bin .add (.t 36) (.c (.int .i64 1))), .m 7 37]], .m 63 6, .q 64 (.fad 0 (.t 3)), .q 65 (.ld .any (.t 64)), .q 66 (.len false (.t 65)), .q 67 (.bin .lss (.t 66) (.c (.int .i64 32))), .q 68 (.eqb true (.t 63) (.t 67)), .m 69 68, .op (some (69, false)) (some 70) (.mv (.t 6)), .op (some (69, false)) (some 71) (.mv (.t 70)), .op (some (71, true)) (some 72) (.ldn [.int .u32, .int .i64] (.t 2)), .op (some (71, true)) (some 73) (.mv (.t 5)), .op (some (71, true)) (some 74) (.call 24 [.t 72, .t 73]), .op (some (69, false)) (some 75) (.pick (.t 71) (.t 74) (.c (.bool false))), .q 76 (.pick (.t 69) (.c (.bool true)) (.t 75)), .m 77 76, .op (some (77, false)) (some 78) (.mv (.t 6)), .op (some (77, false)) (some 79) (.un .not (.t 78)), .op (some (77, false)) (some 80) (.mv (.t 79)), .op (some (80, true)) (some 81) (.mv (.t 5)), .op (some (80, true)) (some 82) (.bin .neq (.t 81) (.c (.int .i64 32))), .op (some (77, false)) (some 83) (.pick (.t 80) (.t 82) (.c (.bool false))), .q 84 (.pick (.t 77) (.c (.bool true)) (.t 83)), .cond (.t 84) [.q 4 (.mv (.c (.int .i64 (-1)))), .ret] [], .q 4 (.mv (.c (.int .i64 0))), .ret]
def r34 : List RV :=
  [.t 4]
theorem c34_ok : cC Tryd.prog Tryd.f34.ntmps (Tryd.f34.body.getD .skip) = some c34 := by kernel_rfl

def c35 : List C :=
  [.q 3 (.box (.t 0)), .q 6 (.mv (.c .nilsl)), .q 11 (.bsl 1 [.int .i64 0] 0 []), .m 7 11, .q 8 (.mv (.c (.int .i64 0))), .blk 0 [.loop [.m 12 8, .q 13 (.bin .lss (.t 12) (.c (.int .i64 32))), .cond (.t 13) [] [.exit 0], .blk 1 [.q 16 (.fad 3 (.t 3)), .q 17 (.ld .any (.t 16)), .q 18 (.len false (.t 17)), .q 19 (.mv (.c (.int .i64 0))), .blk 2 [.loop [.q 20 (.bin .lss (.t 19) (.t 18)), .cond (.t 20) [] [.exit 2], .blk 3 [.q 21 (.iad 3 (.t 17) (.t 19)), .q 22 (.ldn [.int .i64, .int .i64, .bool] (.t 21)), .q 10 (.alloc [.int .i64 0, .int .i64 0, .bool false]), .op none none (.st 3 (.t 10) (.t 22)), .q 23 (.fad 0 (.t 10)), .q 24 (.ld (.int .i64) (.t 23)), .m 25 8, .q 26 (.bin .eql (.t 24) (.t 25)), .m 27 26, .op (some (27, true)) (some 28) (.fad 1 (.t 10)), .op (some (27, true)) (some 29) (.ld (.int .i64) (.t 28)), .op (some (27, true)) (some 30) (.mv (.t 1)), .op (some (27, true)) (some 31) (.bin .eql (.t 29) (.t 30)), .q 32 (.pick (.t 27) (.t 31) (.c (.bool false))), .m 33 32, .op (some (33, true)) (some 34) (.fad 2 (.t 10)), .op (some (33, true)) (some 35) (.ld .bool (.t 34)), .op (some (33, true)) (some 36) (.mv (.t 2)), .op (some (33, true)) (some 37) (.eqb false (.t 35) (.t 36)), .q 38 (.pick (.t 33) (.t 37) (.c (.bool false))), .cond (.t 38) [.m 39 7, .m 40 8, .q 41 (.bsl 1 [.int .i64 0] 1 [(0, .t 40)]), .q 42 (.app 1 (.t 39) (.t 41)), .m 7 42] []], .q 43 (.bin .add (.t 19) (.c (.int .i64 1))), .m 19 43]]], .m 14 8, .q 15 (.bin .add (.t 14) (.c (.int .i64 1))), .m 8 15]], .m 44 7, .m 6 44, .ret]
def r35 : List RV :=
  [.t 6]
theorem c35_ok : cC Tryd.prog Tryd.f35.ntmps (Tryd.f35.body.getD .skip) = some c35 := by kernel_rfl

def c36 : List C :=
  [.q 3 (.box (.t 0)), .q 6 (.mv (.c (.bool false))), .m 9 2, .q 10 (.len false (.t 9)), .q 11 (.mv (.c (.int .i64 0))), .blk 0 [.loop [.q 12 (.bin .lss (.t 11) (.t 10)), .cond (.t 12) [] [.exit 0], .blk 1 [.m 13 11, .q 14 (.iad 1 (.t 9) (.t 11)), .q 15 (.ld (.int .i64) (.t 14)), .m 7 13, .m 8 15, .q 16 (.ldn [.any, .int .i64] (.t 3)), .m 17 8, .q 18 (.call 23 [.t 16, .t 17]), .q 19 (.un .not (.t 18)), .m 20 19, .op (some (20, false)) (some 21) (.mv (.t 8)), .op (some (20, false)) (some 22) (.mv (.t 1)), .op (some (20, false)) (some 23) (.bin .eql (.t 21) (.t 22)), .q 24 (.pick (.t 20) (.c (.bool true)) (.t 23)), .m 25 24, .op (some (25, false)) (some 26) (.mv (.t 7)), .op (some (25, false)) (some 27) (.bin .gtr (.t 26) (.c (.int .i64 0))), .op (some (25, false)) (some 28) (.mv (.t 27)), .op (some (28, true)) (some 29) (.mv (.t 2)), .op (some (28, true)) (some 30) (.mv (.t 7)), .op (some (28, true)) (some 31) (.bin .sub (.t 30) (.c (.int .i64 1))), .op (some (28, true)) (some 32) (.iad 1 (.t 29) (.t 31)), .op (some (28, true)) (some 33) (.ld (.int .i64) (.t 32)), .op (some (28, true)) (some 34) (.mv (.t 8)), .op (some (28, true)) (some 35) (.bin .geq (.t 33) (.t 34)), .op (some (25, false)) (some 36) (.pick (.t 28) (.t 35) (.c (.bool false))), .q 37 (.pick (.t 25) (.c (.bool true)) (.t 36)), .cond (.t 37) [.q 6 (.mv (.c (.bool false))), .ret] []], .q 38 (.bin .add (.t 11) (.c (.int .i64 1))), .m 11 38]], .m 39 2, .q 40 (.len false (.t 39)), .q 41 (.fad 0 (.t 3)), .q 42 (.ld .any (.t 41)), .q 43 (.len false (.t 42)), .q 44 (.bin .quo (.t 43) (.c (.int .i64 2))), .q 45 (.bin .gtr (.t 40) (.t 44)), .m 6 45, .ret]
def r36 : List RV :=
  [.t 6]
theorem c36_ok : cC Tryd.prog Tryd.f36.ntmps (Tryd.f36.body.getD .skip) = some c36 := by kernel_rfl

def l37_0 : List (Nat × Bool × It) :=
  [(0, false, (none, some 16, .mv (.t 0), [])), (1, false, (none, some 17, .mv (.t 5), [])), (2, false, (none, some 18, .iad 1 (.t 16) (.t 17), [0, 1])), (3, false, (none, some 19, .ld (.int .i64) (.t 18), [2])), (4, false, (none, some 20, .mv (.t 1), [])), (5, false, (none, some 21, .mv (.t 5), [])), (6, false, (none, some 22, .iad 1 (.t 20) (.t 21), [4, 5])), (7, false, (none, some 23, .ld (.int .i64) (.t 22), [6])), (8, false, (none, some 24, .bin .neq (.t 19) (.t 23), [3, 7]))]
def d37_0 : List It := pk l37_0
def o37_0 : List (Nat × Bool) := po l37_0
theorem l37_0_ok : okDraw d37_0 o37_0 = true ∧ mkL d37_0 o37_0 = some l37_0 := ⟨by kernel_rfl, by kernel_rfl⟩

def c37 : List C :=
  [.q 4 (.mv (.c (.int .i64 0))), .m 6 0, .q 7 (.len false (.t 6)), .m 8 1, .q 9 (.len false (.t 8)), .q 10 (.bin .neq (.t 7) (.t 9)), .cond (.t 10) [.q 4 (.mv (.c (.int .i64 (-1)))), .ret] [], .m 11 1, .q 12 (.len false (.t 11)), .q 13 (.mv (.c (.int .i64 0))), .blk 0 [.loop [.q 14 (.bin .lss (.t 13) (.t 12)), .cond (.t 14) [] [.exit 0], .blk 1 [.m 15 13, .m 5 15, .draw d37_0, .cond (.t 24) [.q 4 (.mv (.c (.int .i64 (-1)))), .ret] []], .q 25 (.bin .add (.t 13) (.c (.int .i64 1))), .m 13 25]], .q 4 (.mv (.c (.int .i64 0))), .ret]
def r37 : List RV :=
  [.t 4]
theorem c37_ok : cC Tryd.prog Tryd.f37.ntmps (Tryd.f37.body.getD .skip) = some c37 := by kernel_rfl

def c38 : List C :=
  [.q 4 (.mv (.c .nilsl)), .m 5 0, .m 6 1, .q 7 (.call 48 [.t 5, .t 6, .c (.bool true)]), .m 4 7, .ret]
def r38 : List RV :=
  [.t 4]
theorem c38_ok : cC Tryd.prog Tryd.f38.ntmps (Tryd.f38.body.getD .skip) = some c38 := by kernel_rfl

def l39_0 : List (Nat × Bool × It) :=
  [(0, false, (none, some 5, .mv (.t 0), [])), (1, false, (none, some 6, .mv (.t 1), [])), (2, true, (none, some 7, .call 25 [.t 5, .t 6], [0, 1])), (3, false, (none, some 8, .mv (.t 7), [2, 2])), (4, false, (some (8, true), some 9, .mv (.t 0), [3])), (5, false, (some (8, true), some 10, .nck (.t 9), [4, 3])), (6, false, (some (8, true), some 11, .fad 0 (.t 10), [5, 3])), (7, false, (some (8, true), some 12, .ldn [.int .u32, .int .i64] (.t 11), [6, 3])), (10, false, (some (8, true), some 15, .mv (.t 0), [3])), (11, false, (some (8, true), some 16, .mv (.t 1), [3])), (16, false, (some (8, true), some 21, .mv (.t 0), [3])), (17, false, (some (8, true), some 22, .nck (.t 21), [16, 3])), (18, false, (some (8, true), some 23, .fad 0 (.t 22), [17, 3])), (19, false, (some (8, true), some 24, .ldn [.int .u32, .int .i64] (.t 23), [18, 3])), (8, true, (some (8, true), some 13, .call 45 [.t 12], [7, 3, 3])), (9, false, (some (8, true), some 14, .bin .sub (.t 13) (.c (.int .i64 1)), [8, 3])), (12, true, (some (8, true), some 17, .call 48 [.t 15, .t 16, .c (.bool false)], [10, 11, 8, 3])), (13, false, (some (8, true), some 18, .len false (.t 17), [12, 3])), (14, false, (some (8, true), some 19, .bin .sub (.t 14) (.t 18), [9, 13, 3])), (15, false, (some (8, true), some 20, .bin .mul (.c (.int .i64 2)) (.t 19), [14, 3])), (20, true, (some (8, true), some 25, .call 45 [.t 24], [19, 12, 3])), (21, false, (some (8, true), some 26, .bin .leq (.t 20) (.t 25), [15, 20, 3])), (22, false, (none, some 27, .pick (.t 8) (.t 26) (.c (.bool false)), [3, 21])), (23, false, (none, some 4, .mv (.t 27), [22, 20, 0, 1, 2, 3, 4, 5, 6, 7, 8, 9, 10, 11, 12, 13, 14, 15, 16, 17, 18, 19, 20, 21, 22]))]
def d39_0 : List It := pk l39_0
def o39_0 : List (Nat × Bool) := po l39_0
theorem l39_0_ok : okDraw d39_0 o39_0 = true ∧ mkL d39_0 o39_0 = some l39_0 := ⟨by kernel_rfl, by kernel_rfl⟩

def c39 : List C :=
  [.q 4 (.mv (.c (.bool false))), .draw d39_0, .ret]
def r39 : List RV :=
  [.t 4]
theorem c39_ok : cC Tryd.prog Tryd.f39.ntmps (Tryd.f39.body.getD .skip) = some c39 := by kernel_rfl

def l40_0 : List (Nat × Bool × It) :=
  [(0, false, (none, some 5, .fad 2 (.t 2), [])), (1, false, (none, some 6, .ld .any (.t 5), [0])), (2, false, (none, some 7, .mv (.t 1), [])), (3, true, (none, some 8, .call 12 [.t 6, .t 7], [1, 2])), (4, false, (none, some 9, .mv (.t 8), [3, 3])), (5, false, (some (9, true), some 10, .fad 0 (.t 2), [4])), (6, false, (some (9, true), some 11, .fad 0 (.t 10), [5, 4])), (7, false, (some (9, true), some 12, .ld .any (.t 11), [6, 4])), (8, false, (some (9, true), some 13, .len false (.t 12), [7, 4])), (9, false, (some (9, true), some 14, .bin .sub (.t 13) (.c (.int .i64 1)), [8, 4])), (10, false, (some (9, true), some 15, .ldn [.any, .int .i64, .any, .any] (.t 2), [4])), (11, false, (some (9, true), some 16, .mv (.t 1), [4])), (16, false, (some (9, true), some 21, .fad 0 (.t 2), [4])), (17, false, (some (9, true), some 22, .fad 0 (.t 21), [16, 4])), (18, false, (some (9, true), some 23, .ld .any (.t 22), [17, 4])), (19, false, (some (9, true), some 24, .len false (.t 23), [18, 4])), (12, true, (some (9, true), some 17, .call 35 [.t 15, .t 16, .c (.bool false)], [10, 11, 4, 4])), (13, false, (some (9, true), some 18, .len false (.t 17), [12, 4])), (14, false, (some (9, true), some 19, .bin .sub (.t 14) (.t 18), [9, 13, 4])), (15, false, (some (9, true), some 20, .bin .mul (.t 19) (.c (.int .i64 2)), [14, 4])), (20, false, (some (9, true), some 25, .bin .leq (.t 20) (.t 24), [15, 19, 4])), (21, false, (none, some 26, .pick (.t 9) (.t 25) (.c (.bool false)), [4, 20])), (22, false, (none, some 4, .mv (.t 26), [21, 12, 0, 1, 2, 3, 4, 5, 6, 7, 8, 9, 10, 11, 12, 13, 14, 15, 16, 17, 18, 19, 20, 21]))]
def d40_0 : List It := pk l40_0
def o40_0 : List (Nat × Bool) := po l40_0
theorem l40_0_ok : okDraw d40_0 o40_0 = true ∧ mkL d40_0 o40_0 = some l40_0 := ⟨by kernel_rfl, by kernel_rfl⟩

def c40 : List C :=
  [.q 2 (.box (.t 0)), .q 4 (.mv (.c (.bool false))), .draw d40_0, .ret]
def r40 : List RV :=
  [.t 4]
theorem c40_ok : cC Tryd.prog Tryd.f40.ntmps (Tryd.f40.body.getD .skip) = some c40 := by kernel_rfl

def c41 : List C :=
  [.q 3 (.box (.t 0)), .q 6 (.mv (.c (.bool false))), .m 9 2, .q 10 (.len false (.t 9)), .q 11 (.mv (.c (.int .i64 0))), .blk 0 [.loop [.q 12 (.bin .lss (.t 11) (.t 10)), .cond (.t 12) [] [.exit 0], .blk 1 [.m 13 11, .q 14 (.iad 1 (.t 9) (.t 11)), .q 15 (.ld (.int .i64) (.t 14)), .m 7 13, .m 8 15, .q 16 (.ldn [.int .u32, .int .i64] (.t 3)), .m 17 8, .q 18 (.call 24 [.t 16, .t 17]), .q 19 (.un .not (.t 18)), .m 20 19, .op (some (20, false)) (some 21) (.mv (.t 8)), .op (some (20, false)) (some 22) (.mv (.t 1)), .op (some (20, false)) (some 23) (.bin .eql (.t 21) (.t 22)), .q 24 (.pick (.t 20) (.c (.bool true)) (.t 23)), .m 25 24, .op (some (25, false)) (some 26) (.mv (.t 7)), .op (some (25, false)) (some 27) (.bin .gtr (.t 26) (.c (.int .i64 0))), .op (some (25, false)) (some 28) (.mv (.t 27)), .op (some (28, true)) (some 29) (.mv (.t 2)), .op (some (28, true)) (some 30) (.mv (.t 7)), .op (some (28, true)) (some 31) (.bin .sub (.t 30) (.c (.int .i64 1))), .op (some (28, true)) (some 32) (.iad 1 (.t 29) (.t 31)), .op (some (28, true)) (some 33) (.ld (.int .i64) (.t 32)), .op (some (28, true)) (some 34) (.mv (.t 8)), .op (some (28, true)) (some 35) (.bin .geq (.t 33) (.t 34)), .op (some (25, false)) (some 36) (.pick (.t 28) (.t 35) (.c (.bool false))), .q 37 (.pick (.t 25) (.c (.bool true)) (.t 36)), .cond (.t 37) [.q 6 (.mv (.c (.bool false))), .ret] []], .q 38 (.bin .add (.t 11) (.c (.int .i64 1))), .m 11 38]], .m 39 2, .q 40 (.len false (.t 39)), .q 41 (.bin .mul (.c (.int .i64 2)) (.t 40)), .q 42 (.ldn [.int .u32, .int .i64] (.t 3)), .q 43 (.call 45 [.t 42]), .q 44 (.bin .gtr (.t 41) (.t 43)), .m 6 44, .ret]
def r41 : List RV :=
  [.t 6]
theorem c41_ok : cC Tryd.prog Tryd.f41.ntmps (Tryd.f41.body.getD .skip) = some c41 := by kernel_rfl

def c43 : List C :=
  [.q 1 (.box (.t 0)), .q 2 (.mv (.c .nilfn)), .q 3 (.mkfn 51 [] [.t 1]), .m 2 3, .ret]
def r43 : List RV :=
  [.t 2]
theorem c43_ok : cC Tryd.prog Tryd.f43.ntmps (Tryd.f43.body.getD .skip) = some c43 := by kernel_rfl

def c44 : List C :=
  [.q 1 (.box (.t 0)), .q 2 (.mv (.c .nilsl)), .q 3 (.mv (.c .nilsl)), .q 5 (.mv (.c (.int .i64 0))), .blk 0 [.loop [.q 6 (.bin .lss (.t 5) (.c (.int .i64 32))), .cond (.t 6) [] [.exit 0], .blk 1 [.m 7 5, .m 4 7, .q 8 (.ldn [.int .u32, .int .i64] (.t 1)), .m 9 4, .q 10 (.call 24 [.t 8, .t 9]), .cond (.t 10) [.m 11 3, .m 12 4, .q 13 (.bsl 1 [.int .i64 0] 1 [(0, .t 12)]), .q 14 (.app 1 (.t 11) (.t 13)), .m 3 14] []], .q 15 (.bin .add (.t 5) (.c (.int .i64 1))), .m 5 15]], .m 16 3, .m 2 16, .ret]
def r44 : List RV :=
  [.t 2]
theorem c44_ok : cC Tryd.prog Tryd.f44.ntmps (Tryd.f44.body.getD .skip) = some c44 := by kernel_rfl

def c45 : List C :=
  [.q 1 (.box (.t 0)), .q 2 (.mv (.c (.int .i64 0))), .q 3 (.fad 0 (.t 1)), .q 4 (.ld (.int .u32) (.t 3)), .q 5 (.call 52 [.t 4]), .m 2 5, .ret]
def r45 : List RV :=
  [.t 2]
theorem c45_ok : cC Tryd.prog Tryd.f45.ntmps (Tryd.f45.body.getD .skip) = some c45 := by kernel_rfl

def c46 : List C :=
  [.q 1 (.box (.t 0)), .q 2 (.mv (.c (.int .i64 0))), .q 3 (.fad 1 (.t 1)), .q 4 (.ld (.int .i64) (.t 3)), .m 2 4, .ret]
def r46 : List RV :=
  [.t 2]
theorem c46_ok : cC Tryd.prog Tryd.f46.ntmps (Tryd.f46.body.getD .skip) = some c46 := by kernel_rfl

def c47 : List C :=
  [.q 1 (.box (.t 0)), .q 2 (.mv (.c (.int .i64 0))), .q 3 (.mv (.c (.bool false))), .q 5 (.fad 0 (.t 1)), .q 6 (.ld (.int .u32) (.t 5)), .q 7 (.un .xor (.t 6)), .q 8 (.call 53 [.t 7]), .m 4 8, .m 9 4, .m 10 4, .q 11 (.bin .lss (.t 10) (.c (.int .i64 32))), .m 2 9, .m 3 11, .ret]
def r47 : List RV :=
  [.t 2, .t 3]
theorem c47_ok : cC Tryd.prog Tryd.f47.ntmps (Tryd.f47.body.getD .skip) = some c47 := by kernel_rfl

def c48 : List C :=
  [.q 6 (.mv (.c .nilsl)), .q 7 (.mv (.c .nilsl)), .m 10 0, .q 11 (.nck (.t 10)), .q 12 (.fad 2 (.t 11)), .q 13 (.ld .any (.t 12)), .m 14 1, .q 15 (.look false .any .nilmap false (.t 13) (.t 14)), .q 16 (.call 54 [.t 15]), .q 17 (.call 42 [.t 16]), .q 18 (.len false (.t 17)), .q 19 (.mv (.c (.int .i64 0))), .blk 0 [.loop [.q 20 (.bin .lss (.t 19) (.t 18)), .cond (.t 20) [] [.exit 0], .blk 1 [.q 21 (.iad 1 (.t 17) (.t 19)), .q 22 (.ld (.int .i64) (.t 21)), .m 9 22, .m 23 0, .q 24 (.nck (.t 23)), .q 25 (.fad 2 (.t 24)), .q 26 (.ld .any (.t 25)), .m 27 1, .q 28 (.look false .any .nilmap false (.t 26) (.t 27)), .m 29 9, .q 30 (.look false .bool (.bool false) false (.t 28) (.t 29)), .m 31 2, .q 32 (.eqb false (.t 30) (.t 31)), .cond (.t 32) [.m 33 7, .m 34 9, .q 35 (.bsl 1 [.int .i64 0] 1 [(0, .t 34)]), .q 36 (.app 1 (.t 33) (.t 35)), .m 7 36] []], .q 37 (.bin .add (.t 19) (.c (.int .i64 1))), .m 19 37]], .m 38 7, .m 6 38, .ret]
def r48 : List RV :=
  [.t 6]
theorem c48_ok : cC Tryd.prog Tryd.f48.ntmps (Tryd.f48.body.getD .skip) = some c48 := by kernel_rfl

def l52_0 : List (Nat × Bool × It) :=
  [(0, false, (none, some 3, .mv (.t 0), [])), (1, false, (none, some 4, .bin .shr (.t 3) (.c (.int .u64 24)), [0])), (2, false, (none, some 5, .ist (.c (.str big0)) (.t 4), [1])), (3, false, (none, some 6, .mv (.t 0), [])), (4, false, (none, some 7, .bin .shr (.t 6) (.c (.int .u64 16)), [3])), (5, false, (none, some 8, .bin .and (.t 7) (.c (.int .u32 255)), [4])), (6, false, (none, some 9, .ist (.c (.str big0)) (.t 8), [5])), (7, false, (none, some 10, .bin .add (.t 5)
  (.t 9), [2, 6])), (8, false, (none, some 11, .mv (.t 0), [])), (9, false, (none, some 12, .bin .shr (.t 11) (.c (.int .u64 8)), [8])), (10, false, (none, some 13, .bin .and (.t 12) (.c (.int .u32 255)), [9])), (11, false, (none, some 14, .ist (.c (.str big0)) (.t 13), [10])), (12, false, (none, some 15, .bin .add (.t 10) (.t 14), [7, 11])), (13, false, (none, some 16, .mv (.t 0), [])), (14, false, (none, some 17, .bin .and (.t 16) (.c (.int .u32 255)), [13])), (15, false, (none, some 18, .ist (.c (.str big1)) (.t 17), [14])), (16, false, (none, some 19, .bin .add (.t 15) (.t 18), [12, 15])), (17, false, (none, some 20, .cvi .i64 (.t 19), [16])), (18, false, (none, some 2, .mv (.t 20), [17, 0, 1, 2, 3, 4, 5, 6, 7, 8, 9, 10, 11, 12, 13, 14, 15, 16, 17]))]
def d52_0 : List It := pk l52_0
def o52_0 : List (Nat × Bool) := po l52_0
theorem l52_0_ok : okDraw d52_0 o52_0 = true ∧ mkL d52_0 o52_0 = some l52_0 := ⟨by kernel_rfl, by kernel_rfl⟩

def c52 : List C :=
  [.q 2 (.mv (.c (.int .i64 0))), .draw d52_0, .ret]
def r52 : List RV :=
  [.t 2]
theorem c52_ok : cC Tryd.prog Tryd.f52.ntmps (Tryd.f52.body.getD .skip) = some c52 := by kernel_rfl

def c53 : List C :=
  [.q 2 (.mv (.c (.int .i64 0))), .m 3 0, .q 4 (.bin .eql (.t 3) (.c (.int .u32 0))), .cond (.t 4) [.q 2 (.mv (.c (.int .i64 32))), .ret] [], .m 5 0, .m 6 0, .q 7 (.un .neg (.t 6)), .q 8 (.bin .and (.t 5) (.t 7)), .q 9 (.bin .mul (.t 8) (.c (.int .u32 125613361))), .q 10 (.bin .shr (.t 9) (.c (.int .u64 27))), .q 11 (.iag 0 .u8 [Int.ofNat 0, Int.ofNat 1, Int.ofNat 28, Int.ofNat 2, Int.ofNat 29, Int.ofNat 14, Int.ofNat 24, Int.ofNat 3, Int.ofNat 30, Int.ofNat 22, Int.ofNat 20, Int.ofNat 15, Int.ofNat 25, Int.ofNat 17, Int.ofNat 4, Int.ofNat 8, Int.ofNat 31, Int.ofNat 27, Int.ofNat 13, Int.ofNat 23, Int.ofNat 21, Int.ofNat 19, Int.ofNat 16, Int.ofNat 7, Int.ofNat 26, Int.ofNat 12, Int.ofNat 18, Int.ofNat 6, Int.ofNat 11, Int.ofNat 5, Int.ofNat 10, Int.ofNat 9] (.t 10)), .q 12 (.ld (.int .u8) (.t 11)), .q 13 (.cvi .i64 (.t 12)), .m 2 13, .ret]
def r53 : List RV :=
  [.t 2]
theorem c53_ok : cC Tryd.prog Tryd.f53.ntmps (Tryd.f53.body.getD .skip) = some c53 := by kernel_rfl

def c54 : List C :=
  [.q 1 (.box (.t 0)), .q 2 (.mv (.c .nilfn)), .q 3 (.mkfn 58 [] [.t 1]), .m 2 3, .ret]
def r54 : List RV :=
  [.t 2]
theorem c54_ok : cC Tryd.prog Tryd.f54.ntmps (Tryd.f54.body.getD .skip) = some c54 := by kernel_rfl

end Go.AEX
