/- Compact codes, printed by gen.py from the given form; each is checked by its theorem. -/
import Derived.Test.YtpbmlaolpfaicaaAEzh
import Derived.Test.YtpbmlaolpfaicaaProg
import Derived.KernelRfl
namespace Go.AE
abbrev C.q (d : Nat) (o : O) : C := .op none (some d) o
abbrev C.m (d i : Nat) : C := .op none (some d) (.mv (.t i))
def pk (l : List (Nat × Bool × It)) : List It := (List.range l.length).filterMap fun i => (l.find? fun x => x.1 == i).map (·.2.2)
def po (l : List (Nat × Bool × It)) : List (Nat × Bool) := l.map fun x => (x.1, x.2.1)
end Go.AE
namespace Go.AEX
open Go Go.AE Go.Proofs
set_option maxRecDepth 100000
attribute [go_sem] C.q C.m

def l3_0 : List (Nat × Bool × It) :=
  [(0, false, (none, some 109, .fad 1 (.t 16), [])), (1, false, (none, some 110, .ld .any (.t 109), [0])), (2, false, (none, some 111, .fad 0 (.t 16), [])), (3, false, (none, some 112, .ld (.int .i64) (.t 111), [2])), (4, false, (none, some 113, .iaa 3 (.t 6) (.t 112), [3])), (5, false, (none, some 114, .ld .any (.t 113), [4])), (6, false, (none, some 115, .mv (.t 7), [])), (7, false, (none, some 116, .iad 1 (.t 114) (.t 115), [5, 6])), (8, false, (none, some 117, .ld .any (.t 116), [7])), (9, true, (none, some 118, .call 14 [.t 117], [8])), (10, true, (none, some 119, .call 13 [.t 110, .t 118], [1, 9, 9])), (11, false, (none, some 120, .bin .neq (.t 119) (.c (.int .i64 0)), [10]))]
def d3_0 : List It := pk l3_0
def c3 : List C :=
  [.q 4 (.mv (.c (.bool false))), .q 17 (.call 7 []), .q 18 (.un .not (.t 17)), .cond (.t 18) [.q 4 (.mv (.c (.bool false))), .ret] [], .q 19 (.call 8 [.c (.int .i64 0)]), .m 5 19, .q 20 (.build [.nilsl, .nilsl, .nilsl] []), .q 6 (.alloc [.nilsl, .nilsl, .nilsl]), .op none none (.st 3 (.t 6) (.t 20)), .q 7 (.mv (.c (.int .i64 0))), .q 8 (.mv (.c (.int .i64 0))), .blk 0 [.loop [.m 21 8, .m 22 0, .q 23 (.len false (.t 22)), .q 24 (.bin .lss (.t 21) (.t 23)), .m 25 24, .op (some (25, true)) (some 26) (.mv (.t 8)), .op (some (25, true)) (some 27) (.mv (.t 1)), .op (some (25, true)) (some 28) (.len false (.t 27)), .op (some (25, true)) (some 29) (.bin .lss (.t 26) (.t 28)), .q 30 (.pick (.t 25) (.t 29) (.c (.bool false))), .m 31 30, .op (some (31, true)) (some 32) (.mv (.t 8)), .op (some (31, true)) (some 33) (.bin .lss (.t 32) (.c (.int .i64 60))), .q 34 (.pick (.t 31) (.t 33) (.c (.bool false))), .cond (.t 34) [] [.exit 0], .blk 1 [.m 37 1, .m 38 8, .q 39 (.iad 1 (.t 37) (.t 38)), .q 40 (.ld (.int .i64) (.t 39)), .q 41 (.bin .and (.t 40) (.c (.int .i64 255))), .q 42 (.bin .rem (.t 41) (.c (.int .i64 3))), .m 9 42, .m 43 0, .m 44 8, .q 45 (.iad 1 (.t 43) (.t 44)), .q 46 (.ld .any (.t 45)), .q 47 (.call 9 [.t 46]), .m 10 47, .m 48 5, .m 49 9, .m 50 5, .m 51 9, .q 52 (.call 11 [.t 50, .t 51]), .m 53 10, .q 54 (.call 10 [.t 48, .t 49, .t 52, .t 53]), .m 11 54, .m 55 9, .q 56 (.iaa 3 (.t 6) (.t 55)), .q 57 (.ld .any (.t 56)), .q 58 (.len false (.t 57)), .m 59 7, .q 60 (.bin .add (.t 59) (.c (.int .i64 8))), .q 61 (.bin .geq (.t 58) (.t 60)), .m 12 61, .m 62 11, .q 63 (.bin .eql (.t 62) (.c (.int .i64 0))), .m 64 12, .q 65 (.eqb false (.t 63) (.t 64)), .cond (.t 65) [.q 4 (.mv (.c (.bool false))), .ret] [], .m 66 11, .q 67 (.bin .eql (.t 66) (.c (.int .i64 0))), .cond (.t 67) [.m 68 9, .m 69 9, .q 70 (.iaa 3 (.t 6) (.t 69)), .q 71 (.ld .any (.t 70)), .m 72 10, .q 73 (.bsl 1 [.nilsl] 1 [(0, .t 72)]), .q 74 (.app 1 (.t 71) (.t 73)), .q 75 (.iaa 3 (.t 6) (.t 68)), .op none none
  (.st 1 (.t 75) (.t 74))] [], .m 77 5, .q 78 (.bsl 1 [.int .i64 0] 3 [(0, .c (.int .i64 0)), (1, .c (.int .i64 1)), (2, .c (.int .i64 2))]), .q 79 (.call 12 [.t 77, .t 78]), .m 76 79, .q 80 (.ext (.t 76) 0), .q 81 (.ext (.t 76) 1), .m 13 80, .m 14 81, .m 82 14, .q 83 (.iaa 3 (.t 6) (.c (.int .i64 0))), .q 84 (.ld .any (.t 83)), .q 85 (.len false (.t 84)), .m 86 7, .q 87 (.bin .gtr (.t 85) (.t 86)), .m 88 87, .op (some (88, true)) (some 89) (.iaa 3 (.t 6) (.c (.int .i64 1))), .op (some (88, true)) (some 90) (.ld .any (.t 89)), .op (some (88, true)) (some 91) (.len false (.t 90)), .op (some (88, true)) (some 92) (.mv (.t 7)), .op (some (88, true)) (some 93) (.bin .gtr (.t 91) (.t 92)), .q 94 (.pick (.t 88) (.t 93) (.c (.bool false))), .m 95 94, .op (some (95, true)) (some 96) (.iaa 3 (.t 6) (.c (.int .i64 2))), .op (some (95, true)) (some 97) (.ld .any (.t 96)), .op (some (95, true)) (some 98) (.len false (.t 97)), .op (some (95, true)) (some 99) (.mv (.t 7)), .op (some (95, true)) (some 100) (.bin .gtr (.t 98) (.t 99)), .q 101 (.pick (.t 95) (.t 100) (.c (.bool false))), .q 102 (.eqb true (.t 82) (.t 101)), .cond (.t 102) [.q 4 (.mv (.c (.bool false))), .ret] [], .m 103 13, .q 104 (.len false (.t 103)), .q 105 (.mv (.c (.int .i64 0))), .blk 2 [.loop [.q 106 (.bin .lss (.t 105) (.t 104)), .cond (.t 106) [] [.exit 2], .blk 3 [.q 107 (.iad 2 (.t 103) (.t 105)), .q 108 (.ldn [.int .i64, .any] (.t 107)), .q 16 (.alloc [.int .i64 0, .nilsl]), .op none none (.st 2 (.t 16) (.t 108)), .draw d3_0, .cond (.t 120) [.q 4 (.mv (.c (.bool false))), .ret] []], .q 121 (.bin .add (.t 105) (.c (.int .i64 1))), .m 105 121]], .m 122 14, .cond (.t 122) [.m 123 7, .q 124 (.bin .add (.t 123) (.c (.int .i64 1))), .m 7 124] []], .m 35 8, .q 36 (.bin .add (.t 35) (.c (.int .i64 1))), .m 8 36]], .m 125 5, .q 126 (.call 15 [.t 125]), .m 127 7, .q 128 (.bin .eql (.t 126) (.t 127)), .m 4 128, .ret]
def r3 : List RV :=
  [.t 4]
def l4_0 : List (Nat × Bool × It) :=
  [(0, false, (none, some 159, .mv (.t 14), [])), (1, false, (none, some 160, .mv (.t 28), [])), (2, false, (none, some 161, .iad 1 (.t 159) (.t 160), [0, 1])), (3, false, (none, some 162, .ld .str (.t 161), [2])), (4, false, (none, some 163, .mv (.t 8), [])), (5, false, (none, some 164, .mv (.t 28), [])), (6, false, (none, some 165, .iad 1 (.t 163) (.t 164), [4, 5])), (7, false, (none, some 166, .ld .str (.t 165), [6])), (8, false, (none, some 167, .bin .neq (.t 162) (.t 166), [3, 7]))]
def d4_0 : List It := pk l4_0
def o4_0 : List (Nat × Bool) := po l4_0
theorem l4_0_ok : okDraw d4_0 o4_0 = true ∧ mkL d4_0 o4_0 = some l4_0 := ⟨by kernel_rfl, by kernel_rfl⟩

def c4 : List C :=
  [.q 4 (.mv (.c (.bool false))), .q 29 (.call 7 []), .q 30 (.un .not (.t 29)), .cond (.t 30) [.q 4 (.mv (.c (.bool false))), .ret] [], .q 31 (.call 16 [.c (.int .u32 7)]), .q 32 (.call 17 [.c (.int .u32 7)]), .m 5 31, .m 6 32, .q 7 (.mv (.c .nilsl)), .q 8 (.mv (.c .nilsl)), .q 9 (.mv (.c (.int .i64 0))), .blk 0 [.loop [.m 33 9, .m 34 0, .q 35 (.len false (.t 34)), .q 36 (.bin .lss (.t 33) (.t 35)), .m 37 36, .op (some (37, true)) (some 38) (.mv (.t 9)), .op (some (37, true)) (some 39) (.bin .lss (.t 38) (.c (.int .i64 8))), .q 40 (.pick (.t 37) (.t 39) (.c (.bool false))), .cond (.t 40) [] [.exit 0], .blk 1 [.m 43 0, .m 44 9, .q 45 (.iad 1 (.t 43) (.t 44)), .q 46 (.ld .str (.t 45)), .q 47 (.call 18 [.t 46, .c (.int .i64 500)]), .m 10 47, .m 49 10, .q 50 (.call 19 [.t 49]), .m 48 50, .q 51 (.ext (.t 48) 0), .q 52 (.ext (.t 48) 1), .m 11 51, .m 12 52, .m 53 12, .q 54 (.bin .neq (.t 53) (.c (.int .i64 0))), .cond (.t 54) [.q 4 (.mv (.c (.bool false))), .ret] [], .m 55 7, .m 56 11, .q 57 (.app 2 (.t 55) (.t 56)), .m 7 57, .m 58 8, .m 59 10, .q 60 (.bsl 1 [.str []] 1 [(0, .t 59)]), .q 61 (.app 1 (.t 58) (.t 60)), .m 8 61], .m 41 9, .q 42 (.bin .add (.t 41) (.c (.int .i64 1))), .m 9 42]], .q 13 (.alloc [.str [], .int .i64 0]), .q 14 (.mv (.c .nilsl)), .q 62 (.mv (.c (.int .i64 0))), .blk 2 [.loop [.q 63 (.bin .lss (.t 62) (.c (.int .i64 200))), .cond (.t 63) [] [.exit 2], .blk 3 [.m 64 62, .m 15 64, .blk 4 [.loop [.m 65 7, .q 66 (.len false (.t 65)), .q 67 (.bin .gtr (.t 66) (.c (.int .i64 0))), .cond (.t 67) [] [.exit 4], .blk 5 [.m 69 5, .m 70 7, .q 71 (.iad 2 (.t 70) (.c (.int .i64 0))), .q 72 (.ldn [.bool, .str] (.t 71)), .q 73 (.call 21 [.t 72]), .q 74 (.call 20 [.t 69, .t 73]), .m 68 74, .q 75 (.ext (.t 68) 0), .q 76 (.ext (.t 68) 1), .m 16 75, .m 17 76, .m 77 17, .q 78 (.bin .neq (.t 77) (.c (.int .i64 0))), .cond (.t 78) [.exit 4] [], .m 79 7, .q 80 (.lsl 2 (.t 79) (some (.c (.int .i64 1))) none none), .m 7 80]]], .m 81 5, .q 82 (.call 22 [.t 81]), .m 18 82, .m 83
  18, .q 84 (.len false (.t 83)), .q 85 (.bin .eql (.t 84) (.c (.int .i64 0))), .cond (.t 85) [.exit 2] [], .q 19 (.mv (.c (.int .i64 0))), .m 86 15, .m 87 1, .q 88 (.len false (.t 87)), .q 89 (.bin .lss (.t 86) (.t 88)), .m 90 89, .op (some (90, true)) (some 91) (.mv (.t 15)), .op (some (90, true)) (some 92) (.bin .lss (.t 91) (.c (.int .i64 100))), .q 93 (.pick (.t 90) (.t 92) (.c (.bool false))), .cond (.t 93) [.m 94 1, .m 95 15, .q 96 (.iad 1 (.t 94) (.t 95)), .q 97 (.ld (.int .i64) (.t 96)), .q 98 (.bin .and (.t 97) (.c (.int .i64 255))), .m 99 18, .q 100 (.len false (.t 99)), .q 101 (.bin .rem (.t 98) (.t 100)), .m 19 101, .m 102 1, .m 103 15, .q 104 (.iad 1 (.t 102) (.t 103)), .q 105 (.ld (.int .i64) (.t 104)), .q 106 (.bin .and (.t 105) (.c (.int .i64 256))), .q 107 (.bin .gtr (.t 106) (.c (.int .i64 0))), .cond (.t 107) [.exit 3] []] [], .m 109 6, .m 110 18, .m 111 19, .q 112 (.iad 2 (.t 110) (.t 111)), .q 113 (.ldn [.int .u32, .str] (.t 112)), .q 114 (.call 23 [.t 109, .t 113]), .m 108 114, .q 115 (.ext (.t 108) 0), .q 116 (.ext (.t 108) 1), .m 20 115, .m 21 116, .m 117 20, .q 118 (.len false (.t 117)), .q 119 (.mv (.c (.int .i64 0))), .blk 6 [.loop [.q 120 (.bin .lss (.t 119) (.t 118)), .cond (.t 120) [] [.exit 6], .blk 7 [.q 121 (.iad 1 (.t 117) (.t 119)), .q 122 (.ld .str (.t 121)), .m 23 122, .m 124 23, .q 125 (.call 24 [.t 124]), .m 123 125, .q 126 (.ext (.t 123) 0), .q 127 (.ext (.t 123) 1), .q 24 (.alloc [.bool false, .str []]), .op none none (.st 2 (.t 24) (.t 126)), .m 25 127, .q 129 (.ldn [.bool, .str] (.t 24)), .q 130 (.bsl 2 [.bool false, .str []] 1 [(0, .t 129)]), .q 131 (.call 25 [.t 13, .t 130]), .m 128 131, .q 132 (.ext (.t 128) 0), .q 133 (.ext (.t 128) 1), .m 26 132, .m 27 133, .m 134 25, .q 135 (.bin .neq (.t 134) (.c (.int .i64 0))), .m 136 135, .op (some (136, false)) (some 137) (.mv (.t 27)), .op (some (136, false)) (some 138) (.bin .neq (.t 137) (.c (.int .i64 0))), .q 139 (.pick (.t 136) (.c (.bool true)) (.t 138)), .cond (.t 139)
  [.q 4 (.mv (.c (.bool false))), .ret] [], .m 140 14, .m 141 26, .q 142 (.app 1 (.t 140) (.t 141)), .m 14 142], .q 143 (.bin .add (.t 119) (.c (.int .i64 1))), .m 119 143]], .m 144 5, .m 145 6, .q 146 (.call 27 [.t 145]), .q 147 (.call 26 [.t 144, .t 146])], .q 148 (.bin .add (.t 62) (.c (.int .i64 1))), .m 62 148]], .m 149 14, .q 150 (.len false (.t 149)), .m 151 8, .q 152 (.len false (.t 151)), .q 153 (.bin .neq (.t 150) (.t 152)), .cond (.t 153) [.q 4 (.mv (.c (.bool false))), .ret] [], .m 154 8, .q 155 (.len false (.t 154)), .q 156 (.mv (.c (.int .i64 0))), .blk 8 [.loop [.q 157 (.bin .lss (.t 156) (.t 155)), .cond (.t 157) [] [.exit 8], .blk 9 [.m 158 156, .m 28 158, .draw d4_0, .cond (.t 167) [.q 4 (.mv (.c (.bool false))), .ret] []], .q 168 (.bin .add (.t 156) (.c (.int .i64 1))), .m 156 168]], .q 4 (.mv (.c (.bool true))), .ret]
def r4 : List RV :=
  [.t 4]
theorem c4_ok : cC Try.prog Try.f4.ntmps (Try.f4.body.getD .skip) = some c4 := by kernel_rfl

def r5 : List RV :=
  [.t 8]
def c7 : List C :=
  [.q 0 (.mv (.c (.bool false))), .q 4 (.call 51 [.c (.str [120])]), .q 5 (.call 50 [.t 4]), .m 3 5, .q 6 (.ext (.t 3) 0), .q 7 (.ext (.t 3) 1), .m 1 6, .m 2 7, .q 8 (.bsl 1 [.str []] 1 [(0, .c (.str [49, 50, 51, 52, 53, 54, 55, 56, 57]))]), .q 9 (.call 52 [.t 8]), .q 10 (.bin .eql (.t 9) (.c (.int .u32 3421780262))), .m 11 10, .op (some (11, true)) (some 12) (.mv (.t 1)), .op (some (11, true)) (some 13) (.bin .eql (.t 12) (.c (.str [120]))), .q 14 (.pick (.t 11) (.t 13) (.c (.bool false))), .m 15 14, .op (some (15, true)) (some 16) (.mv (.t 2)), .op (some (15, true)) (some 17) (.bin .eql (.t 16) (.c (.int .i64 0))), .q 18 (.pick (.t 15) (.t 17) (.c (.bool false))), .m 19 18, .op (some (19, true)) (some 20) (.call 53 [.c (.int .u8 1)]), .op (some (19, true)) (some 21) (.bin .eql (.t 20) (.c (.str [112, 117, 115, 104]))), .q 22 (.pick (.t 19) (.t 21) (.c (.bool false))), .m 0 22, .ret]
def r7 : List RV :=
  [.t 0]
theorem c7_ok : cC Try.prog Try.f7.ntmps (Try.f7.body.getD .skip) = some c7 := by kernel_rfl

def c9 : List C :=
  [.q 2 (.mv (.c .nilsl)), .q 3 (.mv (.c .nilsl)), .q 4 (.mv (.c (.int .i64 0))), .blk 0 [.loop [.m 6 4, .m 7 0, .q 8 (.len false (.t 7)), .q 9 (.bin .lss (.t 6) (.t 8)), .m 10 9, .op (some (10, true)) (some 11) (.mv (.t 4)), .op (some (10, true)) (some 12) (.bin .lss (.t 11) (.c (.int .i64 8))), .q 13 (.pick (.t 10) (.t 12) (.c (.bool false))), .cond (.t 13) [] [.exit 0], .blk 1 [.m 16 0, .m 17 4, .q 18 (.iad 4 (.t 16) (.t 17)), .q 19 (.ldn [.int .i64, .int .i64, .int .i64, .int .i64] (.t 18)), .q 5 (.alloc [.int .i64 0, .int .i64 0, .int .i64 0, .int .i64 0]), .op none none (.st 4 (.t 5) (.t 19)), .q 20 (.fad 0 (.t 5)), .q 21 (.ld (.int .i64) (.t 20)), .q 22 (.bin .and (.t 21) (.c (.int .i64 255))), .q 23 (.bin .rem (.t 22) (.c (.int .i64 4))), .q 24 (.bin .add (.c (.int .i64 1)) (.t 23)), .q 25 (.fad 0 (.t 5)), .op none none (.st 1 (.t 25) (.t 24)), .q 26 (.fad 1 (.t 5)), .q 27 (.ld (.int .i64) (.t 26)), .q 28 (.bin .and (.t 27) (.c (.int .i64 63))), .q 29 (.bin .add (.c (.int .i64 1)) (.t 28)), .q 30 (.fad 2 (.t 5)), .q 31 (.ld (.int .i64) (.t 30)), .q 32 (.bin .and (.t 31) (.c (.int .i64 127))), .q 33 (.bin .add (.c (.int .i64 1)) (.t 32)), .q 34 (.fad 3 (.t 5)), .q 35 (.ld (.int .i64) (.t 34)), .q 36 (.bin .and (.t 35) (.c (.int .i64 127))), .q 37 (.fad 1 (.t 5)), .op none none (.st 1 (.t 37) (.t 29)), .q 38 (.fad 2 (.t 5)), .op none none (.st 1 (.t 38) (.t 33)), .q 39 (.fad 3 (.t 5)), .op none none (.st 1 (.t 39) (.t 36)), .q 40 (.fad 0 (.t 5)), .q 41 (.ld (.int .i64) (.t 40)), .blk 2 [.q 43 (.bin .eql (.t 41) (.c (.int .i64 2))), .m 42 43, .cond (.t 42) [.q 44 (.fad 3 (.t 5)), .op none none (.st 1 (.t 44) (.c (.int .i64 0)))] [.q 46 (.bin .eql (.t 41) (.c (.int .i64 3))), .m 45 46, .cond (.t 45) [.q 47 (.fad 1 (.t 5)), .op none none (.st 1 (.t 47) (.c (.int .i64 0)))] [.q 49 (.bin .eql (.t 41) (.c (.int .i64 4))), .m 48 49, .cond (.t 48) [.q 50 (.fad 2 (.t 5)), .op none none (.st 1 (.t 50) (.c (.int .i64 0))), .q 51 (.fad 3 (.t 5)), .op none none (.st 1 (.t 51)
  (.c (.int .i64 0)))] []]]], .m 52 3, .q 53 (.ldn [.int .i64, .int .i64, .int .i64, .int .i64] (.t 5)), .q 54 (.bsl 4 [.int .i64 0, .int .i64 0, .int .i64 0, .int .i64 0] 1 [(0, .t 53)]), .q 55 (.app 4 (.t 52) (.t 54)), .m 3 55], .m 14 4, .q 15 (.bin .add (.t 14) (.c (.int .i64 1))), .m 4 15]], .m 56 3, .m 2 56, .ret]
def c16 : List C :=
  [.q 2 (.mv (.c .nilptr)), .m 3 0, .q 4 (.build [.int .u32 0, .nilsl] [(0, 1, .t 3)]), .q 5 (.box (.t 4)), .m 2 5, .ret]
def r16 : List RV :=
  [.t 2]
theorem c16_ok : cC Try.prog Try.f16.ntmps (Try.f16.body.getD .skip) = some c16 := by kernel_rfl

def c17 : List C :=
  [.q 2 (.mv (.c .nilptr)), .m 3 0, .q 4 .mkmap, .q 5 (.build [.int .u32 0, .nilmap] [(0, 1, .t 3), (1, 1, .t 4)]), .q 6 (.box (.t 5)), .m 2 6, .ret]
def r17 : List RV :=
  [.t 2]
theorem c17_ok : cC Try.prog Try.f17.ntmps (Try.f17.body.getD .skip) = some c17 := by kernel_rfl

def c18 : List C :=
  [.q 4 (.mv (.c (.str []))), .m 5 0, .q 6 (.len true (.t 5)), .m 7 1, .q 8 (.bin .gtr (.t 6) (.t 7)), .cond (.t 8) [.m 9 0, .m 10 1, .q 11 (.ssl (.t 9) none (some (.t 10))), .m 4 11, .ret] [], .m 12 0, .m 4 12, .ret]
def r18 : List RV :=
  [.t 4]
theorem c18_ok : cC Try.prog Try.f18.ntmps (Try.f18.body.getD .skip) = some c18 := by kernel_rfl

def c19 : List C :=
  [.q 2 (.mv (.c .nilsl)), .q 3 (.mv (.c (.int .i64 0))), .m 5 0, .q 6 (.len true (.t 5)), .q 7 (.bin .gtr (.t 6) (.c (.int .i64 65536))), .cond (.t 7) [.q 2 (.mv (.c .nilsl)), .q 3 (.mv (.c (.int .i64 3))), .ret] [], .q 4 (.mv (.c .nilsl)), .blk 0 [.loop [.m 8 0, .q 9 (.len true (.t 8)), .q 10 (.bin .gtr (.t 9) (.c (.int .i64 200))), .cond (.t 10) [] [.exit 0], .blk 1 [.m 11 4, .m 12 0, .q 13 (.ssl (.t 12) none (some (.c (.int .i64 200)))), .q 14 (.build [.bool false, .str []] [(1, 1, .t 13)]), .q 15 (.bsl 2 [.bool false, .str []] 1 [(0, .t 14)]), .q 16 (.app 2 (.t 11) (.t 15)), .m 4 16, .m 17 0, .q 18 (.ssl (.t 17) (some (.c (.int .i64 200))) none), .m 0 18]]], .m 19 4, .m 20 0, .q 21 (.build [.bool false, .str []] [(0, 1, .c (.bool true)), (1, 1, .t 20)]), .q 22 (.bsl 2 [.bool false, .str []] 1 [(0, .t 21)]), .q 23 (.app 2 (.t 19) (.t 22)), .m 2 23, .q 3 (.mv (.c (.int .i64 0))), .ret]
def r19 : List RV :=
  [.t 2, .t 3]
theorem c19_ok : cC Try.prog Try.f19.ntmps (Try.f19.body.getD .skip) = some c19 := by kernel_rfl

def l20_0 : List (Nat × Bool × It) :=
  [(0, false, (none, some 9, .mv (.t 0), [])), (1, false, (none, some 10, .mv (.t 0), [])), (2, false, (none, some 11, .nck (.t 10), [1])), (3, false, (none, some 12, .fad 1 (.t 11), [2])), (4, false, (none, some 13, .ld .any (.t 12), [3])), (5, false, (none, some 14, .mv (.t 0), [])), (6, false, (none, some 15, .nck (.t 14), [5])), (7, false, (none, some 16, .fad 0 (.t 15), [6])), (8, false, (none, some 17, .ld (.int .u32) (.t 16), [7])), (9, false, (none, some 18, .mv (.t 1), [])), (10, false, (none, some 19, .build [.int .u32 0, .str []] [(0, 1, .t 17), (1, 1, .t 18)], [8, 9])), (11, false, (none, some 20, .bsl 2 [.int .u32 0, .str []] 1 [(0, .t 19)], [10])), (12, true, (none, some 21, .app 2 (.t 13) (.t 20), [4, 11])), (13, false, (none, some 22, .nck (.t 9), [0, 0, 1, 2, 3, 4, 5, 6, 7, 8, 9, 10, 11, 12])), (14, false, (none, some 23, .fad 1 (.t 22), [13, 0, 1, 2, 3, 4, 5, 6, 7, 8, 9, 10, 11, 12])), (15, true, (none, none, .st 1 (.t 23) (.t 21), [14, 12, 12, 0, 1, 2, 3, 4, 5, 6, 7, 8, 9, 10, 11, 12]))]
def d20_0 : List It := pk l20_0
def o20_0 : List (Nat × Bool) := po l20_0
theorem l20_0_ok : okDraw d20_0 o20_0 = true ∧ mkL d20_0 o20_0 = some l20_0 := ⟨by kernel_rfl, by kernel_rfl⟩

def c20 : List C :=
  [.q 4 (.mv (.c (.int .u32 0))), .q 5 (.mv (.c (.int .i64 0))), .m 6 0, .q 7 (.call 57 [.t 6]), .q 8 (.un .not (.t 7)), .cond (.t 8) [.q 4 (.mv (.c (.int .u32 0))), .q 5 (.mv (.c (.int .i64 8))), .ret] [], .draw d20_0, .m 24 0, .q 25 (.nck (.t 24)), .q 26 (.fad 0 (.t 25)), .q 27 (.ld (.int .u32) (.t 26)), .q 28 (.bin .add (.t 27) (.c (.int .u32 1))), .q 29 (.nck (.t 24)), .q 30 (.fad 0 (.t 29)), .op none none (.st 1 (.t 30) (.t 28)), .m 31 0, .q 32 (.nck (.t 31)), .q 33 (.fad 0 (.t 32)), .q 34 (.ld (.int .u32) (.t 33)), .q 35 (.bin .sub (.t 34) (.c (.int .u32 1))), .m 4 35, .q 5 (.mv (.c (.int .i64 0))), .ret]
def r20 : List RV :=
  [.t 4, .t 5]
theorem c20_ok : cC Try.prog Try.f20.ntmps (Try.f20.body.getD .skip) = some c20 := by kernel_rfl

def c21 : List C :=
  [.q 1 (.box (.t 0)), .q 2 (.mv (.c (.str []))), .q 3 (.fad 0 (.t 1)), .q 4 (.ld .bool (.t 3)), .cond (.t 4) [.q 5 (.fad 1 (.t 1)), .q 6 (.ld .str (.t 5)), .q 7 (.bin .add (.c (.str [1])) (.t 6)), .m 2 7, .ret] [], .q 8 (.fad 1 (.t 1)), .q 9 (.ld .str (.t 8)), .q 10 (.bin .add (.c (.str [0])) (.t 9)), .m 2 10, .ret]
def r21 : List RV :=
  [.t 2]
theorem c21_ok : cC Try.prog Try.f21.ntmps (Try.f21.body.getD .skip) = some c21 := by kernel_rfl

def c22 : List C :=
  [.q 2 (.mv (.c .nilsl)), .m 3 0, .q 4 (.nck (.t 3)), .q 5 (.fad 1 (.t 4)), .q 6 (.ld .any (.t 5)), .q 7 (.call 58 [.t 6]), .m 2 7, .ret]
def r22 : List RV :=
  [.t 2]
theorem c22_ok : cC Try.prog Try.f22.ntmps (Try.f22.body.getD .skip) = some c22 := by kernel_rfl

def l23_0 : List (Nat × Bool × It) :=
  [(0, false, (none, some 12, .fad 0 (.t 3), [])), (1, false, (none, some 13, .ld (.int .u32) (.t 12), [0])), (2, false, (none, some 14, .mv (.t 0), [])), (3, false, (none, some 15, .nck (.t 14), [2])), (4, false, (none, some 16, .fad 0 (.t 15), [3])), (5, false, (none, some 17, .ld (.int .u32) (.t 16), [4])), (6, false, (none, some 18, .bin .sub (.t 13) (.t 17), [1, 5])), (7, false, (none, some 6, .mv (.t 18), [6, 0, 1, 2, 3, 4, 5, 6]))]
def d23_0 : List It := pk l23_0
def o23_0 : List (Nat × Bool) := po l23_0
theorem l23_0_ok : okDraw d23_0 o23_0 = true ∧ mkL d23_0 o23_0 = some l23_0 := ⟨by kernel_rfl, by kernel_rfl⟩

def l23_1 : List (Nat × Bool × It) :=
  [(0, false, (none, some 26, .mv (.t 0), [])), (1, false, (none, some 27, .nck (.t 26), [0])), (2, false, (none, some 28, .fad 1 (.t 27), [1])), (3, false, (none, some 29, .ld .any (.t 28), [2])), (4, false, (none, some 30, .fad 0 (.t 3), [])), (5, false, (none, some 31, .ld (.int .u32) (.t 30), [4])), (6, false, (none, some 32, .look false .str (.str []) true (.t 29) (.t 31), [3, 5])), (7, false, (none, some 25, .mv (.t 32), [6])), (8, false, (none, some 33, .ext (.t 25) 0, [7])), (9, false, (none, some 34, .ext (.t 25) 1, [7])), (10, false, (none, some 7, .mv (.t 33), [8, 0, 1, 2, 3, 4, 5, 6, 7, 8])), (11, false, (none, some 8, .mv (.t 34), [9, 10, 0, 1, 2, 3, 4, 5, 6, 7, 8, 9, 10]))]
def d23_1 : List It := pk l23_1
def o23_1 : List (Nat × Bool) := po l23_1
theorem l23_1_ok : okDraw d23_1 o23_1 = true ∧ mkL d23_1 o23_1 = some l23_1 := ⟨by kernel_rfl, by kernel_rfl⟩

def l23_2 : List (Nat × Bool × It) :=
  [(0, false, (none, some 36, .mv (.t 0), [])), (1, false, (none, some 37, .nck (.t 36), [0])), (2, false, (none, some 38, .fad 1 (.t 37), [1])), (3, false, (none, some 39, .ld .any (.t 38), [2])), (4, false, (none, some 40, .fad 0 (.t 3), [])), (5, false, (none, some 41, .ld (.int .u32) (.t 40), [4])), (6, false, (none, some 42, .fad 1 (.t 3), [])), (7, false, (none, some 43, .ld .str (.t 42), [6])), (8, true, (none, none, .mput false (.t 39) (.t 41) (.t 43), [3, 5, 7, 0, 1, 2, 3, 4, 5, 6, 7]))]
def d23_2 : List It := pk l23_2
def o23_2 : List (Nat × Bool) := po l23_2
theorem l23_2_ok : okDraw d23_2 o23_2 = true ∧ mkL d23_2 o23_2 = some l23_2 := ⟨by kernel_rfl, by kernel_rfl⟩

def l23_3 : List (Nat × Bool × It) :=
  [(0, false, (none, some 45, .mv (.t 0), [])), (1, false, (none, some 46, .nck (.t 45), [0])), (2, false, (none, some 47, .fad 1 (.t 46), [1])), (3, false, (none, some 48, .ld .any (.t 47), [2])), (4, false, (none, some 49, .mv (.t 0), [])), (5, false, (none, some 50, .nck (.t 49), [4])), (6, false, (none, some 51, .fad 0 (.t 50), [5])), (7, false, (none, some 52, .ld (.int .u32) (.t 51), [6])), (8, false, (none, some 53, .look false .str (.str []) true (.t 48) (.t 52), [3, 7])), (9, false, (none, some 44, .mv (.t 53), [8])), (10, false, (none, some 54, .ext (.t 44) 0, [9])), (11, false, (none, some 55, .ext (.t 44) 1, [9])), (12, false, (none, some 10, .mv (.t 54), [10, 0, 1, 2, 3, 4, 5, 6, 7, 8, 9, 10])), (13, false, (none, some 11, .mv (.t 55), [11, 12, 0, 1, 2, 3, 4, 5, 6, 7, 8, 9, 10, 11, 12]))]
def d23_3 : List It := pk l23_3
def o23_3 : List (Nat × Bool) := po l23_3
theorem l23_3_ok : okDraw d23_3 o23_3 = true ∧ mkL d23_3 o23_3 = some l23_3 := ⟨by kernel_rfl, by kernel_rfl⟩

def l23_4 : List (Nat × Bool × It) :=
  [(0, false, (none, some 59, .mv (.t 0), [])), (1, false, (none, some 60, .nck (.t 59), [0])), (2, false, (none, some 61, .fad 1 (.t 60), [1])), (3, false, (none, some 62, .ld .any (.t 61), [2])), (4, false, (none, some 63, .mv (.t 0), [])), (5, false, (none, some 64, .nck (.t 63), [4])), (6, false, (none, some 65, .fad 0 (.t 64), [5])), (7, false, (none, some 66, .ld (.int .u32) (.t 65), [6])), (8, true, (none, none, .mdel false (.t 62) (.t 66), [3, 7]))]
def d23_4 : List It := pk l23_4
def o23_4 : List (Nat × Bool) := po l23_4
theorem l23_4_ok : okDraw d23_4 o23_4 = true ∧ mkL d23_4 o23_4 = some l23_4 := ⟨by kernel_rfl, by kernel_rfl⟩

def c23 : List C :=
  [.q 3 (.box (.t 1)), .q 4 (.mv (.c .nilsl)), .q 5 (.mv (.c (.int .i64 0))), .draw d23_0, .blk 0 [.m 20 6, .q 21 (.bin .geq (.t 20) (.c (.int .u32 2147483648))), .m 19 21, .cond (.t 19) [.q 4 (.mv (.c .nilsl)), .q 5 (.mv (.c (.int .i64 11))), .ret] [.m 23 6, .q 24 (.bin .gtr (.t 23) (.c (.int .u32 32))), .m 22 24, .cond (.t 22) [.q 4 (.mv (.c .nilsl)), .q 5 (.mv (.c (.int .i64 8))), .ret] []]], .draw d23_1, .m 35 8, .cond (.t 35) [.q 4 (.mv (.c .nilsl)), .q 5 (.mv (.c (.int .i64 10))), .ret] [], .draw d23_2, .q 9 (.mv (.c .nilsl)), .blk 1 [.loop [.blk 2 [.draw d23_3, .m 56 11, .q 57 (.un .not (.t 56)), .cond (.t 57) [.m 58 9, .m 4 58, .q 5 (.mv (.c (.int .i64 0))), .ret] [], .draw d23_4, .m 67 9, .m 68 10, .q 69 (.bsl 1 [.str []] 1 [(0, .t 68)]), .q 70 (.app 1 (.t 67) (.t 69)), .m 9 70, .m 71 0, .q 72 (.nck (.t 71)), .q 73 (.fad 0 (.t 72)), .q 74 (.ld (.int .u32) (.t 73)), .q 75 (.bin .add (.t 74) (.c (.int .u32 1))), .q 76 (.nck (.t 71)), .q 77 (.fad 0 (.t 76)), .op none none (.st 1 (.t 77) (.t 75))]]]]
def r23 : List RV :=
  [.t 4, .t 5]
theorem c23_ok : cC Try.prog Try.f23.ntmps (Try.f23.body.getD .skip) = some c23 := by kernel_rfl

def l24_0 : List (Nat × Bool × It) :=
  [(0, false, (none, some 18, .mv (.t 0), [])), (1, false, (none, some 19, .ist (.t 18) (.c (.int .i64 0)), [0])), (2, false, (none, some 20, .bin .eql (.t 19) (.c (.int .u8 1)), [1])), (3, false, (none, some 21, .mv (.t 0), [])), (4, false, (none, some 22, .ssl (.t 21) (some (.c (.int .i64 1))) none, [3])), (5, false, (none, some 23, .build [.bool false, .str []] [(0, 1, .t 20), (1, 1, .t 22)], [2, 4])), (6, true, (none, none, .st 2 (.t 2) (.t 23), [5, 0, 1, 2, 3, 4, 5])), (7, false, (none, some 3, .mv (.c (.int .i64 0)), [6, 0, 1, 2, 3, 4, 5, 6]))]
def d24_0 : List It := pk l24_0
def o24_0 : List (Nat × Bool) := po l24_0
theorem l24_0_ok : okDraw d24_0 o24_0 = true ∧ mkL d24_0 o24_0 = some l24_0 := ⟨by kernel_rfl, by kernel_rfl⟩

def c24 : List C :=
  [.q 2 (.alloc [.bool false, .str []]), .q 3 (.mv (.c (.int .i64 0))), .blk 0 [.m 5 0, .q 6 (.bin .eql (.t 5) (.c (.str []))), .m 4 6, .cond (.t 4) [.q 7 (.build [.bool false, .str []] []), .op none none (.st 2 (.t 2) (.t 7)), .q 3 (.mv (.c (.int .i64 1))), .ret] [.m 9 0, .q 10 (.ist (.t 9) (.c (.int .i64 0))), .q 11 (.bin .gtr (.t 10) (.c (.int .u8 1))), .m 8 11, .cond (.t 8) [.q 12 (.build [.bool false, .str []] []), .op none none (.st 2 (.t 2) (.t 12)), .q 3 (.mv (.c (.int .i64 2))), .ret] [.m 14 0, .q 15 (.len true (.t 14)), .q 16 (.bin .gtr (.t 15) (.c (.int .i64 201))), .m 13 16, .cond (.t 13) [.q 17 (.build [.bool false, .str []] []), .op none none (.st 2 (.t 2) (.t 17)), .q 3 (.mv (.c (.int .i64 3))), .ret] []]]], .draw d24_0, .ret]
def r24 : List RV :=
  [.cn 2 2, .t 3]
theorem c24_ok : cC Try.prog Try.f24.ntmps (Try.f24.body.getD .skip) = some c24 := by kernel_rfl

def c25 : List C :=
  [.q 4 (.mv (.c .nilsl)), .q 5 (.mv (.c (.int .i64 0))), .q 6 (.mv (.c .nilsl)), .m 12 1, .q 13 (.len false (.t 12)), .q 14 (.mv (.c (.int .i64 0))), .blk 0 [.loop [.q 15 (.bin .lss (.t 14) (.t 13)), .cond (.t 15) [] [.exit 0], .blk 1 [.q 16 (.iad 2 (.t 12) (.t 14)), .q 17 (.ldn [.bool, .str] (.t 16)), .q 8 (.alloc [.bool false, .str []]), .op none none (.st 2 (.t 8) (.t 17)), .m 19 0, .q 20 (.ldn [.bool, .str] (.t 8)), .q 21 (.call 59 [.t 19, .t 20]), .m 18 21, .q 22 (.ext (.t 18) 0), .q 23 (.ext (.t 18) 1), .q 24 (.ext (.t 18) 2), .m 9 22, .m 10 23, .m 11 24, .m 25 11, .q 26 (.bin .neq (.t 25) (.c (.int .i64 0))), .cond (.t 26) [.m 27 6, .m 28 11, .m 4 27, .m 5 28, .ret] [], .m 29 10, .cond (.t 29) [.m 30 6, .m 31 9, .q 32 (.bsl 1 [.str []] 1 [(0, .t 31)]), .q 33 (.app 1 (.t 30) (.t 32)), .m 6 33] []], .q 34 (.bin .add (.t 14) (.c (.int .i64 1))), .m 14 34]], .m 35 6, .m 4 35, .q 5 (.mv (.c (.int .i64 0))), .ret]
def r25 : List RV :=
  [.t 4, .t 5]
theorem c25_ok : cC Try.prog Try.f25.ntmps (Try.f25.body.getD .skip) = some c25 := by kernel_rfl

def l26_0 : List (Nat × Bool × It) :=
  [(0, false, (none, some 7, .mv (.t 0), [])), (1, false, (none, some 8, .nck (.t 7), [0])), (2, false, (none, some 9, .fad 0 (.t 8), [1])), (3, false, (none, some 10, .ld (.int .u32) (.t 9), [2])), (4, false, (none, some 11, .fad 0 (.t 3), [])), (5, false, (none, some 12, .ld (.int .u32) (.t 11), [4])), (6, false, (none, some 13, .bin .sub (.t 10) (.t 12), [3, 5])), (7, false, (none, some 5, .mv (.t 13), [6, 0, 1, 2, 3, 4, 5, 6]))]
def d26_0 : List It := pk l26_0
def o26_0 : List (Nat × Bool) := po l26_0
theorem l26_0_ok : okDraw d26_0 o26_0 = true ∧ mkL d26_0 o26_0 = some l26_0 := ⟨by kernel_rfl, by kernel_rfl⟩

def c26 : List C :=
  [.q 3 (.box (.t 1)), .q 4 (.mv (.c .nilsl)), .draw d26_0, .m 14 5, .q 15 (.bin .geq (.t 14) (.c (.int .u32 2147483648))), .cond (.t 15) [.q 4 (.mv (.c .nilsl)), .ret] [], .q 6 (.alloc [.nilsl]), .m 16 0, .m 17 0, .q 18 (.nck (.t 17)), .q 19 (.fad 1 (.t 18)), .q 20 (.ld .any (.t 19)), .q 21 (.call 58 [.t 20]), .q 22 (.mkfn 61 [] [.t 3, .t 6]), .q 23 (.call 60 [.t 21, .t 22]), .q 24 (.nck (.t 16)), .q 25 (.fad 1 (.t 24)), .op none none (.st 1 (.t 25) (.t 23)), .q 26 (.ld .any (.t 6)), .m 4 26, .ret]
def r26 : List RV :=
  [.t 4]
theorem c26_ok : cC Try.prog Try.f26.ntmps (Try.f26.body.getD .skip) = some c26 := by kernel_rfl

def l27_0 : List (Nat × Bool × It) :=
  [(0, false, (none, some 17, .mv (.t 0), [])), (1, false, (none, some 18, .nck (.t 17), [0])), (2, false, (none, some 19, .fad 1 (.t 18), [1])), (3, false, (none, some 20, .ld .any (.t 19), [2])), (4, false, (none, some 21, .mv (.t 0), [])), (5, false, (none, some 22, .nck (.t 21), [4])), (6, false, (none, some 23, .fad 0 (.t 22), [5])), (7, false, (none, some 24, .ld (.int .u32) (.t 23), [6])), (8, false, (none, some 25, .mv (.t 4), [])), (9, false, (none, some 26, .bin .add (.t 24) (.t 25), [7, 8])), (10, false, (none, some 27, .look false .str (.str []) true (.t 20) (.t 26), [3, 9])), (11, false, (none, some 16, .mv (.t 27), [10])), (12, false, (none, some 28, .ext (.t 16) 0, [11])), (13, false, (none, some 29, .ext (.t 16) 1, [11])), (14, false, (none, some 5, .mv (.t 28), [12, 0, 1, 2, 3, 4, 5, 6, 7, 8, 9, 10, 11, 12])), (15, false, (none, some 6, .mv (.t 29), [13, 14, 0, 1, 2, 3, 4, 5, 6, 7, 8, 9, 10, 11, 12, 13, 14]))]
def d27_0 : List It := pk l27_0
def o27_0 : List (Nat × Bool) := po l27_0
theorem l27_0_ok : okDraw d27_0 o27_0 = true ∧ mkL d27_0 o27_0 = some l27_0 := ⟨by kernel_rfl, by kernel_rfl⟩

def c27 : List C :=
  [.q 2 (.alloc [.int .u32 0, .int .u32 0]), .m 7 0, .q 8 (.nck (.t 7)), .q 9 (.fad 0 (.t 8)), .q 10 (.ld (.int .u32) (.t 9)), .q 11 (.build [.int .u32 0, .int .u32 0] [(0, 1, .t 10)]), .q 3 (.alloc [.int .u32 0, .int .u32 0]), .op none none (.st 2 (.t 3) (.t 11)), .q 4 (.mv (.c (.int .u32 1))), .blk 0 [.loop [.m 12 4, .q 13 (.bin .leq (.t 12) (.c (.int .u32 32))), .cond (.t 13) [] [.exit 0], .blk 1 [.draw d27_0, .m 30 6, .cond (.t 30) [.q 31 (.fad 1 (.t 3)), .q 32 (.ld (.int .u32) (.t 31)), .m 33 4, .q 34 (.bin .sub (.t 33) (.c (.int .u32 1))), .q 35 (.bin .shl (.c (.int .u32 1)) (.t 34)), .q 36 (.bin .or (.t 32) (.t 35)), .q 37 (.fad 1 (.t 3)), .op none none (.st 1 (.t 37) (.t 36))] []], .m 14 4, .q 15 (.bin .add (.t 14) (.c (.int .u32 1))), .m 4 15]], .q 38 (.ldn [.int .u32, .int .u32] (.t 3)), .op none none (.st 2 (.t 2) (.t 38)), .ret]
def r27 : List RV :=
  [.cn 2 2]
theorem c27_ok : cC Try.prog Try.f27.ntmps (Try.f27.body.getD .skip) = some c27 := by kernel_rfl

def l50_0 : List (Nat × Bool × It) :=
  [(0, false, (none, some 13, .mv (.t 0), [])), (1, false, (none, some 14, .ssl (.t 13) (some (.c (.int .i64 1))) (some (.c (.int .i64 5))), [0])), (2, false, (none, some 15, .mv (.t 0), [])), (3, false, (none, some 16, .ssl (.t 15) none (some (.c (.int .i64 1))), [2])), (4, false, (none, some 17, .mv (.t 0), [])), (5, false, (none, some 18, .ssl (.t 17) (some (.c (.int .i64 5))) none, [4])), (6, false, (none, some 19, .bsl 1 [.str []] 2 [(0, .t 16), (1, .t 18)], [3, 5])), (7, true, (none, some 20, .call 52 [.t 19], [6])), (8, true, (none, some 21, .call 99 [.t 20], [7, 7])), (9, false, (none, some 22, .bin .neq (.t 14) (.t 21), [1, 8])), (10, false, (none, some 12, .mv (.t 22), [9, 8]))]
def d50_0 : List It := pk l50_0
def o50_0 : List (Nat × Bool) := po l50_0
theorem l50_0_ok : okDraw d50_0 o50_0 = true ∧ mkL d50_0 o50_0 = some l50_0 := ⟨by kernel_rfl, by kernel_rfl⟩

def c50 : List C :=
  [.q 2 (.mv (.c (.str []))), .q 3 (.mv (.c (.int .i64 0))), .blk 0 [.m 5 0, .q 6 (.len true (.t 5)), .q 7 (.bin .lss (.t 6) (.c (.int .i64 5))), .m 4 7, .cond (.t 4) [.q 2 (.mv (.c (.str []))), .q 3 (.mv (.c (.int .i64 1))), .ret] [.m 9 0, .q 10 (.ist (.t 9) (.c (.int .i64 0))), .q 11 (.bin .neq (.t 10) (.c (.int .u8 7))), .m 8 11, .cond (.t 8) [.q 2 (.mv (.c (.str []))), .q 3 (.mv (.c (.int .i64 6))), .ret] [.draw d50_0, .cond (.t 12) [.q 2 (.mv (.c (.str []))), .q 3 (.mv (.c (.int .i64 5))), .ret] []]]], .m 23 0, .q 24 (.ssl (.t 23) (some (.c (.int .i64 5))) none), .m 2 24, .q 3 (.mv (.c (.int .i64 0))), .ret]
def r50 : List RV :=
  [.t 2, .t 3]
theorem c50_ok : cC Try.prog Try.f50.ntmps (Try.f50.body.getD .skip) = some c50 := by kernel_rfl

def c51 : List C :=
  [.q 2 (.mv (.c (.str []))), .q 4 (.bsl 1 [.int .u8 0] 1 [(0, .c (.int .u8 7))]), .q 5 (.cvb (.t 4)), .m 3 5, .m 6 3, .m 7 3, .m 8 0, .q 9 (.bsl 1 [.str []] 2 [(0, .t 7), (1, .t 8)]), .q 10 (.call 52 [.t 9]), .q 11 (.call 99 [.t 10]), .q 12 (.bin .add (.t 6) (.t 11)), .m 13 0, .q 14 (.bin .add (.t 12) (.t 13)), .m 2 14, .ret]
def r51 : List RV :=
  [.t 2]
theorem c51_ok : cC Try.prog Try.f51.ntmps (Try.f51.body.getD .skip) = some c51 := by kernel_rfl

def c52 : List C :=
  [.q 2 (.mv (.c (.int .u32 0))), .m 3 0, .q 4 (.call 100 [.c (.int .u32 0), .t 3]), .m 2 4, .ret]
def r52 : List RV :=
  [.t 2]
theorem c52_ok : cC Try.prog Try.f52.ntmps (Try.f52.body.getD .skip) = some c52 := by kernel_rfl

def c53 : List C :=
  [.q 2 (.mv (.c (.str []))), .q 4 (.bsl 1 [.str []] 23 [(0, .c (.str [63])), (1, .c (.str [112, 117, 115, 104])), (2, .c (.str [112, 111, 112])), (3, .c (.str [100, 117, 112])), (4, .c (.str [115, 119, 97, 112])), (5, .c (.str [97, 100, 100])), (6, .c (.str [115, 117, 98])), (7, .c (.str [109, 117, 108])), (8, .c (.str [100, 105, 118])), (9, .c (.str [109, 111, 100])), (10, .c (.str [101, 113])), (11, .c (.str [108, 101, 115, 115])), (12, .c (.str [110, 111, 116])), (13, .c (.str [106, 117, 109, 112])), (14, .c (.str [98, 114, 97, 110, 99, 104])), (15, .c (.str [99, 97, 108, 108])), (16, .c (.str [114, 101, 116])), (17, .c (.str [108, 111, 97, 100])), (18, .c (.str [115, 116, 111, 114, 101])), (19, .c (.str [103, 101, 116])), (20, .c (.str [112, 117, 116])), (21, .c (.str [114, 97, 110, 100])), (22, .c (.str [104, 111, 115, 116]))]), .m 3 4, .m 5 0, .q 6 (.cvi .i64 (.t 5)), .m 7 3, .q 8 (.len false (.t 7)), .q 9 (.bin .geq (.t 6) (.t 8)), .cond (.t 9) [.q 2 (.mv (.c (.str [63]))), .ret] [], .m 10 3, .m 11 0, .q 12 (.iad 1 (.t 10) (.t 11)), .q 13 (.ld .str (.t 12)), .m 2 13, .ret]
def r53 : List RV :=
  [.t 2]
theorem c53_ok : cC Try.prog Try.f53.ntmps (Try.f53.body.getD .skip) = some c53 := by kernel_rfl

def l57_0 : List (Nat × Bool × It) :=
  [(0, false, (none, some 3, .mv (.t 0), [])), (1, false, (none, some 4, .nck (.t 3), [0])), (2, false, (none, some 5, .fad 1 (.t 4), [1])), (3, false, (none, some 6, .ld .any (.t 5), [2])), (4, false, (none, some 7, .len false (.t 6), [3])), (5, false, (none, some 8, .bin .eql (.t 7) (.c (.int .i64 0)), [4])), (6, false, (none, some 9, .mv (.t 8), [5])), (7, false, (some (9, false), some 10, .mv (.t 0), [6])), (8, false, (some (9, false), some 11, .nck (.t 10), [7, 6])), (9, false, (some (9, false), some 12, .fad 0 (.t 11), [8, 6])), (10, false, (some (9, false), some 13, .ld (.int .u32) (.t 12), [9, 6])), (11, false, (some (9, false), some 14, .mv (.t 0), [6])), (12, false, (some (9, false), some 15, .nck (.t 14), [11, 6])), (13, false, (some (9, false), some 16, .fad 1 (.t 15), [12, 6])), (14, false, (some (9, false), some 17, .ld .any (.t 16), [13, 6])), (15, false, (some (9, false), some 18, .iad 2 (.t 17) (.c (.int .i64 0)), [14, 6])), (16, false, (some (9, false), some 19, .fad 0 (.t 18), [15, 6])), (17, false, (some (9, false), some 20, .ld (.int .u32) (.t 19), [16, 6])), (18, false, (some (9, false), some 21, .bin .sub (.t 13) (.t 20), [10, 17, 6])), (19, false, (some (9, false), some 22, .bin .lss (.t 21) (.c (.int .u32 32)), [18, 6])), (20, false, (none, some 23, .pick (.t 9) (.c (.bool true)) (.t 22), [6, 19])), (21, false, (none, some 2, .mv (.t 23), [20, 6, 0, 1, 2, 3, 4, 5, 6, 7, 8, 9, 10, 11, 12, 13, 14, 15, 16, 17, 18, 19, 20]))]
def d57_0 : List It := pk l57_0
def o57_0 : List (Nat × Bool) := po l57_0
theorem l57_0_ok : okDraw d57_0 o57_0 = true ∧ mkL d57_0 o57_0 = some l57_0 := ⟨by kernel_rfl, by kernel_rfl⟩

def c57 : List C :=
  [.q 2 (.mv (.c (.bool false))), .draw d57_0, .ret]
def r57 : List RV :=
  [.t 2]
theorem c57_ok : cC Try.prog Try.f57.ntmps (Try.f57.body.getD .skip) = some c57 := by kernel_rfl

def c58 : List C :=
  [.q 2 (.mv (.c .nilsl)), .m 3 0, .q 4 (.eqn false (.t 3)), .cond (.t 4) [.q 2 (.mv (.c .nilsl)), .ret] [], .q 5 (.bsl 2 [.int .u32 0, .str []] 0 []), .m 6 0, .q 7 (.app 2 (.t 5) (.t 6)), .m 2 7, .ret]
def r58 : List RV :=
  [.t 2]
theorem c58_ok : cC Try.prog Try.f58.ntmps (Try.f58.body.getD .skip) = some c58 := by kernel_rfl

def l59_0 : List (Nat × Bool × It) :=
  [(0, false, (none, some 8, .fad 1 (.t 3), [])), (1, false, (none, some 9, .ld .str (.t 8), [0])), (2, false, (none, some 10, .len true (.t 9), [1])), (3, false, (none, some 11, .bin .gtr (.t 10) (.c (.int .i64 200)), [2])), (4, false, (none, some 12, .mv (.t 11), [3])), (5, false, (some (12, false), some 13, .mv (.t 0), [4])), (6, false, (some (12, false), some 14, .nck (.t 13), [5, 4])), (7, false, (some (12, false), some 15, .fad 0 (.t 14), [6, 4])), (8, false, (some (12, false), some 16, .ld .str (.t 15), [7, 4])), (9, false, (some (12, false), some 17, .len true (.t 16), [8, 4])), (10, false, (some (12, false), some 18, .fad 1 (.t 3), [4])), (11, false, (some (12, false), some 19, .ld .str (.t 18), [10, 4])), (12, false, (some (12, false), some 20, .len true (.t 19), [11, 4])), (13, false, (some (12, false), some 21, .bin .add (.t 17) (.t 20), [9, 12, 4])), (14, false, (some (12, false), some 22, .bin .gtr (.t 21) (.c (.int .i64 65536)), [13, 4])), (15, false, (none, some 23, .pick (.t 12) (.c (.bool true)) (.t 22), [4, 14]))]
def d59_0 : List It := pk l59_0
def o59_0 : List (Nat × Bool) := po l59_0
theorem l59_0_ok : okDraw d59_0 o59_0 = true ∧ mkL d59_0 o59_0 = some l59_0 := ⟨by kernel_rfl, by kernel_rfl⟩

def l59_1 : List (Nat × Bool × It) :=
  [(0, false, (none, some 24, .mv (.t 0), [])), (1, false, (none, some 25, .nck (.t 24), [0])), (2, false, (none, some 26, .fad 0 (.t 25), [1])), (3, false, (none, some 27, .ld .str (.t 26), [2])), (4, false, (none, some 28, .fad 1 (.t 3), [])), (5, false, (none, some 29, .ld .str (.t 28), [4])), (6, false, (none, some 30, .bin .add (.t 27) (.t 29), [3, 5])), (7, false, (none, some 31, .nck (.t 24), [0, 0, 1, 2, 3, 4, 5, 6])), (8, false, (none, some 32, .fad 0 (.t 31), [7, 0, 1, 2, 3, 4, 5, 6])), (9, true, (none, none, .st 1 (.t 32) (.t 30), [8, 6, 0, 1, 2, 3, 4, 5, 6]))]
def d59_1 : List It := pk l59_1
def o59_1 : List (Nat × Bool) := po l59_1
theorem l59_1_ok : okDraw d59_1 o59_1 = true ∧ mkL d59_1 o59_1 = some l59_1 := ⟨by kernel_rfl, by kernel_rfl⟩

def c59 : List C :=
  [.q 3 (.box (.t 1)), .q 4 (.mv (.c (.str []))), .q 5 (.mv (.c (.bool false))), .q 6 (.mv (.c (.int .i64 0))), .draw d59_0, .cond (.t 23) [.q 4 (.mv (.c (.str []))), .q 5 (.mv (.c (.bool false))), .q 6 (.mv (.c (.int .i64 3))), .ret] [], .draw d59_1, .m 33 0, .q 34 (.nck (.t 33)), .q 35 (.fad 1 (.t 34)), .q 36 (.ld (.int .i64) (.t 35)), .q 37 (.bin .add (.t 36) (.c (.int .i64 1))), .q 38 (.nck (.t 33)), .q 39 (.fad 1 (.t 38)), .op none none (.st 1 (.t 39) (.t 37)), .q 40 (.fad 0 (.t 3)), .q 41 (.ld .bool (.t 40)), .q 42 (.un .not (.t 41)), .cond (.t 42) [.q 4 (.mv (.c (.str []))), .q 5 (.mv (.c (.bool false))), .q 6 (.mv (.c (.int .i64 0))), .ret] [], .m 43 0, .q 44 (.nck (.t 43)), .q 45 (.fad 0 (.t 44)), .q 46 (.ld .str (.t 45)), .m 7 46, .m 47 0, .m 48 0, .q 49 (.nck (.t 47)), .q 50 (.fad 0 (.t 49)), .op none none (.st 1 (.t 50) (.c (.str []))), .q 51 (.nck (.t 48)), .q 52 (.fad 1 (.t 51)), .op none none (.st 1 (.t 52) (.c (.int .i64 0))), .m 53 7, .m 4 53, .q 5 (.mv (.c (.bool true))), .q 6 (.mv (.c (.int .i64 0))), .ret]
def r59 : List RV :=
  [.t 4, .t 5, .t 6]
theorem c59_ok : cC Try.prog Try.f59.ntmps (Try.f59.body.getD .skip) = some c59 := by kernel_rfl

def c60 : List C :=
  [.q 4 (.mv (.c .nilsl)), .m 8 0, .m 9 1, .q 10 (.call 105 [.t 8, .t 9]), .m 5 10, .m 11 5, .q 12 (.bin .eql (.t 11) (.c (.int .i64 (-1)))), .cond (.t 12) [.m 13 0, .m 4 13, .ret] [], .m 14 5, .q 15 (.bin .add (.t 14) (.c (.int .i64 1))), .m 6 15, .blk 0 [.loop [.m 16 6, .m 17 0, .q 18 (.len false (.t 17)), .q 19 (.bin .lss (.t 16) (.t 18)), .cond (.t 19) [] [.exit 0], .blk 1 [.m 22 0, .m 23 6, .q 24 (.iad 2 (.t 22) (.t 23)), .q 25 (.ldn [.int .u32, .str] (.t 24)), .q 7 (.alloc [.int .u32 0, .str []]), .op none none (.st 2 (.t 7) (.t 25)), .m 26 1, .q 27 (.ldn [.int .u32, .str] (.t 7)), .q 28 (.callv (.t 26) [.t 27]), .q 29 (.un .not (.t 28)), .cond (.t 29) [.m 30 0, .m 31 5, .q 32 (.ldn [.int .u32, .str] (.t 7)), .q 33 (.iad 2 (.t 30) (.t 31)), .op none none (.st 2 (.t 33) (.t 32)), .m 34 5, .q 35 (.bin .add (.t 34) (.c (.int .i64 1))), .m 5 35] []], .m 20 6, .q 21 (.bin .add (.t 20) (.c (.int .i64 1))), .m 6 21]], .m 36 0, .m 37 5, .q 38 (.lsl 2 (.t 36) (some (.t 37)) none none), .op none none (.clr 2 [.int .u32 0, .str []] (.t 38)), .m 39 0, .m 40 5, .q 41 (.lsl 2 (.t 39) none (some (.t 40)) none), .m 4 41, .ret]
def r60 : List RV :=
  [.t 4]
theorem c60_ok : cC Try.prog Try.f60.ntmps (Try.f60.body.getD .skip) = some c60 := by kernel_rfl

def c61 : List C :=
  [.q 3 (.box (.t 0)), .q 4 (.mv (.c (.bool false))), .q 5 (.ldn [.int .u32, .int .u32] (.t 1)), .q 6 (.fad 0 (.t 3)), .q 7 (.ld (.int .u32) (.t 6)), .q 8 (.call 62 [.t 5, .t 7]), .cond (.t 8) [.q 9 (.ld .any (.t 2)), .q 10 (.fad 0 (.t 3)), .q 11 (.ld (.int .u32) (.t 10)), .q 12 (.bsl 1 [.int .u32 0] 1 [(0, .t 11)]), .q 13 (.app 1 (.t 9) (.t 12)), .op none none (.st 1 (.t 2) (.t 13)), .q 4 (.mv (.c (.bool true))), .ret] [], .q 4 (.mv (.c (.bool false))), .ret]
def r61 : List RV :=
  [.t 4]
theorem c61_ok : cC Try.prog Try.f61.ntmps (Try.f61.body.getD .skip) = some c61 := by kernel_rfl

def c62 : List C :=
  [.q 2 (.box (.t 0)), .q 4 (.mv (.c (.bool false))), .m 6 1, .q 7 (.fad 0 (.t 2)), .q 8 (.ld (.int .u32) (.t 7)), .q 9 (.bin .sub (.t 6) (.t 8)), .m 5 9, .m 10 5, .q 11 (.bin .geq (.t 10) (.c (.int .u32 2147483648))), .cond (.t 11) [.q 4 (.mv (.c (.bool true))), .ret] [], .m 12 5, .q 13 (.bin .geq (.t 12) (.c (.int .u32 1))), .m 14 13, .op (some (14, true)) (some 15) (.mv (.t 5)), .op (some (14, true)) (some 16) (.bin .leq (.t 15) (.c (.int .u32 32))), .q 17 (.pick (.t 14) (.t 16) (.c (.bool false))), .m 18 17, .op (some (18, true)) (some 19) (.fad 1 (.t 2)), .op (some (18, true)) (some 20) (.ld (.int .u32) (.t 19)), .op (some (18, true)) (some 21) (.mv (.t 5)), .op (some (18, true)) (some 22) (.bin .sub (.t 21) (.c (.int .u32 1))), .op (some (18, true)) (some 23) (.bin .shr (.t 20) (.t 22)), .op (some (18, true)) (some 24) (.bin .and (.t 23) (.c (.int .u32 1))), .op (some (18, true)) (some 25) (.bin .eql (.t 24) (.c (.int .u32 1))), .q 26 (.pick (.t 18) (.t 25) (.c (.bool false))), .m 4 26, .ret]
def r62 : List RV :=
  [.t 4]
theorem c62_ok : cC Try.prog Try.f62.ntmps (Try.f62.body.getD .skip) = some c62 := by kernel_rfl

def c99 : List C :=
  [.q 2 (.mv (.c (.str []))), .m 3 0, .q 4 (.cvi .u8 (.t 3)), .m 5 0, .q 6 (.bin .shr (.t 5) (.c (.int .u64 8))), .q 7 (.cvi .u8 (.t 6)), .m 8 0, .q 9 (.bin .shr (.t 8) (.c (.int .u64 16))), .q 10 (.cvi .u8 (.t 9)), .m 11 0, .q 12 (.bin .shr (.t 11) (.c (.int .u64 24))), .q 13 (.cvi .u8 (.t 12)), .q 14 (.bsl 1 [.int .u8 0] 4 [(0, .t 4), (1, .t 7), (2, .t 10), (3, .t 13)]), .q 15 (.cvb (.t 14)), .m 2 15, .ret]
def r99 : List RV :=
  [.t 2]
theorem c99_ok : cC Try.prog Try.f99.ntmps (Try.f99.body.getD .skip) = some c99 := by kernel_rfl

def c100 : List C :=
  [.q 4 (.mv (.c (.int .u32 0))), .m 8 0, .q 9 (.un .xor (.t 8)), .m 0 9, .m 10 1, .q 11 (.len false (.t 10)), .q 12 (.mv (.c (.int .i64 0))), .blk 0 [.loop [.q 13 (.bin .lss (.t 12) (.t 11)), .cond (.t 13) [] [.exit 0], .blk 1 [.q 14 (.iad 1 (.t 10) (.t 12)), .q 15 (.ld .str (.t 14)), .m 6 15, .m 16 6, .q 17 (.len true (.t 16)), .q 18 (.mv (.c (.int .i64 0))), .blk 2 [.loop [.q 19 (.bin .lss (.t 18) (.t 17)), .cond (.t 19) [] [.exit 2], .blk 3 [.m 20 18, .m 7 20, .m 21 0, .q 22 (.bin .shr (.t 21) (.c (.int .u64 8))), .m 23 0, .m 24 6, .m 25 7, .q 26 (.ist (.t 24) (.t 25)), .q 27 (.cvi .u32 (.t 26)), .q 28 (.bin .xor (.t 23) (.t 27)), .q 29 (.bin .and (.t 28) (.c (.int .u32 255))), .q 30 (.call 126 [.t 29]), .q 31 (.bin .xor (.t 22) (.t 30)), .m 0 31], .q 32 (.bin .add (.t 18) (.c (.int .i64 1))), .m 18 32]]], .q 33 (.bin .add (.t 12) (.c (.int .i64 1))), .m 12 33]], .m 34 0, .q 35 (.un .xor (.t 34)), .m 4 35, .ret]
def r100 : List RV :=
  [.t 4]
theorem c100_ok : cC Try.prog Try.f100.ntmps (Try.f100.body.getD .skip) = some c100 := by kernel_rfl

def c105 : List C :=
  [.q 4 (.mv (.c (.int .i64 0))), .m 6 0, .q 7 (.len false (.t 6)), .q 8 (.mv (.c (.int .i64 0))), .blk 0 [.loop [.q 9 (.bin .lss (.t 8) (.t 7)), .cond (.t 9) [] [.exit 0], .blk 1 [.m 10 8, .m 5 10, .m 11 1, .m 12 0, .m 13 5, .q 14 (.iad 2 (.t 12) (.t 13)), .q 15 (.ldn [.int .u32, .str] (.t 14)), .q 16 (.callv (.t 11) [.t 15]), .cond (.t 16) [.m 17 5, .m 4 17, .ret] []], .q 18 (.bin .add (.t 8) (.c (.int .i64 1))), .m 8 18]], .q 4 (.mv (.c (.int .i64 (-1)))), .ret]
def r105 : List RV :=
  [.t 4]
theorem c105_ok : cC Try.prog Try.f105.ntmps (Try.f105.body.getD .skip) = some c105 := by kernel_rfl

def c126 : List C :=
  [.q 2 (.mv (.c (.int .u32 0))), .q 3 (.mv (.c (.int .i64 0))), .blk 0 [.loop [.q 4 (.bin .lss (.t 3) (.c (.int .i64 8))), .cond (.t 4) [] [.exit 0], .blk 1 [.m 5 0, .q 6 (.bin .and (.t 5) (.c (.int .u32 1))), .q 7 (.bin .eql (.t 6) (.c (.int .u32 1))), .cond (.t 7) [.m 8 0, .q 9 (.bin .shr (.t 8) (.c (.int .u64 1))), .q 10 (.bin .xor (.t 9) (.c (.int .u32 3988292384))), .m 0 10] [.m 11 0, .q 12 (.bin .shr (.t 11) (.c (.int .u64 1))), .m 0 12]], .q 13 (.bin .add (.t 3) (.c (.int .i64 1))), .m 3 13]], .m 14 0, .m 2 14, .ret]
def r126 : List RV :=
  [.t 2]
theorem c126_ok : cC Try.prog Try.f126.ntmps (Try.f126.body.getD .skip) = some c126 := by kernel_rfl

end Go.AEX
