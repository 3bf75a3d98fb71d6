/- Compact codes, printed by gen.py from the given form; each is checked by its theorem. -/
import Derived.Test.YtpbmlaolpfaicaaAEzh
import Derived.Test.YtpbmlaolpfaicaaProg
import Derived.KernelRfl
namespace Go.AE
abbrev C.q (d : Nat) (o : O) : C := .op none (some d) o
abbrev C.m (d i : Nat) : C := .op none (some d) (.mv (.t i))
def pk (l : List (Nat × Bool × It)) : List It := (List.range l.length).filterMap fun i => (l.find? fun x => x.1 == i).map (·.2.2)
def po (l : List (Nat × Bool × It)) : List (Nat × Bool) := l.map fun x => (x.1, x.2.1)
end Go.AE
namespace Go.AEX
open Go Go.AE Go.Proofs
set_option maxRecDepth 100000
attribute [go_sem] C.q C.m

def big0 : List UInt8 := [0, 1, 1, 2, 1, 2, 2, 3, 1, 2, 2, 3, 2, 3, 3, 4, 1, 2, 2, 3, 2, 3, 3, 4, 2, 3, 3, 4, 3, 4, 4, 5, 1, 2, 2, 3, 2, 3, 3, 4, 2, 3, 3, 4, 3, 4, 4, 5, 2, 3, 3, 4, 3, 4, 4, 5, 3, 4, 4, 5, 4, 5, 5, 6, 1, 2, 2, 3, 2, 3, 3, 4, 2, 3, 3, 4, 3, 4, 4, 5, 2, 3, 3, 4, 3, 4, 4, 5, 3, 4, 4, 5, 4, 5, 5, 6, 2, 3, 3, 4, 3, 4, 4, 5, 3, 4, 4, 5, 4, 5, 5, 6, 3, 4, 4, 5, 4, 5, 5, 6, 4, 5, 5, 6, 5, 6, 6, 7, 1, 2, 2, 3, 2, 3, 3, 4, 2, 3, 3, 4, 3, 4, 4, 5, 2, 3, 3, 4, 3, 4, 4, 5, 3, 4, 4, 5, 4, 5, 5, 6, 2, 3, 3, 4, 3, 4, 4, 5, 3, 4, 4, 5, 4, 5, 5, 6, 3, 4, 4, 5, 4, 5, 5, 6, 4, 5, 5, 6, 5, 6, 6, 7, 2, 3, 3, 4, 3, 4, 4, 5, 3, 4, 4, 5, 4, 5, 5, 6, 3, 4, 4, 5, 4, 5, 5, 6, 4, 5, 5, 6, 5, 6, 6, 7, 3, 4, 4, 5, 4, 5, 5, 6, 4, 5, 5, 6, 5, 6, 6, 7, 4, 5, 5, 6, 5, 6, 6, 7, 5, 6, 6, 7, 6, 7, 7, 8]
abbrev big1 := big0
def l3_0 : List (Nat × Bool × It) :=
  [(0, false, (none, some 109, .fad 1 (.t 16), [])), (1, false, (none, some 110, .ld .any (.t 109), [0])), (2, false, (none, some 111, .fad 0 (.t 16), [])), (3, false, (none, some 112, .ld (.int .i64) (.t 111), [2])), (4, false, (none, some 113, .iaa 3 (.t 6) (.t 112), [3])), (5, false, (none, some 114, .ld .any (.t 113), [4])), (6, false, (none, some 115, .mv (.t 7), [])), (7, false, (none, some 116, .iad 1 (.t 114) (.t 115), [5, 6])), (8, false, (none, some 117, .ld .any (.t 116), [7])), (9, true, (none, some 118, .call 14 [.t 117], [8])), (10, true, (none, some 119, .call 13 [.t 110, .t 118], [1, 9, 9])), (11, false, (none, some 120, .bin .neq (.t 119) (.c (.int .i64 0)), [10]))]
def d3_0 : List It := pk l3_0
def c3 : List C :=
  [.q 4 (.mv (.c (.bool false))), .q 17 (.call 7 []), .q 18 (.un .not (.t 17)), .cond (.t 18) [.q 4 (.mv (.c (.bool false))), .ret] [], .q 19 (.call 8 [.c (.int .i64 0)]), .m 5 19, .q 20 (.build [.nilsl, .nilsl, .nilsl] []), .q 6 (.alloc [.nilsl, .nilsl, .nilsl]), .op none none (.st 3 (.t 6) (.t 20)), .q 7 (.mv (.c (.int .i64 0))), .q 8 (.mv (.c (.int .i64 0))), .blk 0 [.loop [.m 21 8, .m 22 0, .q 23 (.len false (.t 22)), .q 24 (.bin .lss (.t 21) (.t 23)), .m 25 24, .op (some (25, true)) (some 26) (.mv (.t 8)), .op (some (25, true)) (some 27) (.mv (.t 1)), .op (some (25, true)) (some 28) (.len false (.t 27)), .op (some (25, true)) (some 29) (.bin .lss (.t 26) (.t 28)), .q 30 (.pick (.t 25) (.t 29) (.c (.bool false))), .m 31 30, .op (some (31, true)) (some 32) (.mv (.t 8)), .op (some (31, true)) (some 33) (.bin .lss (.t 32) (.c (.int .i64 60))), .q 34 (.pick (.t 31) (.t 33) (.c (.bool false))), .cond (.t 34) [] [.exit 0], .blk 1 [.m 37 1, .m 38 8, .q 39 (.iad 1 (.t 37) (.t 38)), .q 40 (.ld (.int .i64) (.t 39)), .q 41 (.bin .and (.t 40) (.c (.int .i64 255))), .q 42 (.bin .rem (.t 41) (.c (.int .i64 3))), .m 9 42, .m 43 0, .m 44 8, .q 45 (.iad 1 (.t 43) (.t 44)), .q 46 (.ld .any (.t 45)), .q 47 (.call 9 [.t 46]), .m 10 47, .m 48 5, .m 49 9, .m 50 5, .m 51 9, .q 52 (.call 11 [.t 50, .t 51]), .m 53 10, .q 54 (.call 10 [.t 48, .t 49, .t 52, .t 53]), .m 11 54, .m 55 9, .q 56 (.iaa 3 (.t 6) (.t 55)), .q 57 (.ld .any (.t 56)), .q 58 (.len false (.t 57)), .m 59 7, .q 60 (.bin .add (.t 59) (.c (.int .i64 8))), .q 61 (.bin .geq (.t 58) (.t 60)), .m 12 61, .m 62 11, .q 63 (.bin .eql (.t 62) (.c (.int .i64 0))), .m 64 12, .q 65 (.eqb false (.t 63) (.t 64)), .cond (.t 65) [.q 4 (.mv (.c (.bool false))), .ret] [], .m 66 11, .q 67 (.bin .eql (.t 66) (.c (.int .i64 0))), .cond (.t 67) [.m 68 9, .m 69 9, .q 70 (.iaa 3 (.t 6) (.t 69)), .q 71 (.ld .any (.t 70)), .m 72 10, .q 73 (.bsl 1 [.nilsl] 1 [(0, .t 72)]), .q 74 (.app 1 (.t 71) (.t 73)), .q 75 (.iaa 3 (.t 6) (.t 68)), .op none none
  (.st 1 (.t 75) (.t 74))] [], .m 77 5, .q 78 (.bsl 1 [.int .i64 0] 3 [(0, .c (.int .i64 0)), (1, .c (.int .i64 1)), (2, .c (.int .i64 2))]), .q 79 (.call 12 [.t 77, .t 78]), .m 76 79, .q 80 (.ext (.t 76) 0), .q 81 (.ext (.t 76) 1), .m 13 80, .m 14 81, .m 82 14, .q 83 (.iaa 3 (.t 6) (.c (.int .i64 0))), .q 84 (.ld .any (.t 83)), .q 85 (.len false (.t 84)), .m 86 7, .q 87 (.bin .gtr (.t 85) (.t 86)), .m 88 87, .op (some (88, true)) (some 89) (.iaa 3 (.t 6) (.c (.int .i64 1))), .op (some (88, true)) (some 90) (.ld .any (.t 89)), .op (some (88, true)) (some 91) (.len false (.t 90)), .op (some (88, true)) (some 92) (.mv (.t 7)), .op (some (88, true)) (some 93) (.bin .gtr (.t 91) (.t 92)), .q 94 (.pick (.t 88) (.t 93) (.c (.bool false))), .m 95 94, .op (some (95, true)) (some 96) (.iaa 3 (.t 6) (.c (.int .i64 2))), .op (some (95, true)) (some 97) (.ld .any (.t 96)), .op (some (95, true)) (some 98) (.len false (.t 97)), .op (some (95, true)) (some 99) (.mv (.t 7)), .op (some (95, true)) (some 100) (.bin .gtr (.t 98) (.t 99)), .q 101 (.pick (.t 95) (.t 100) (.c (.bool false))), .q 102 (.eqb true (.t 82) (.t 101)), .cond (.t 102) [.q 4 (.mv (.c (.bool false))), .ret] [], .m 103 13, .q 104 (.len false (.t 103)), .q 105 (.mv (.c (.int .i64 0))), .blk 2 [.loop [.q 106 (.bin .lss (.t 105) (.t 104)), .cond (.t 106) [] [.exit 2], .blk 3 [.q 107 (.iad 2 (.t 103) (.t 105)), .q 108 (.ldn [.int .i64, .any] (.t 107)), .q 16 (.alloc [.int .i64 0, .nilsl]), .op none none (.st 2 (.t 16) (.t 108)), .draw d3_0, .cond (.t 120) [.q 4 (.mv (.c (.bool false))), .ret] []], .q 121 (.bin .add (.t 105) (.c (.int .i64 1))), .m 105 121]], .m 122 14, .cond (.t 122) [.m 123 7, .q 124 (.bin .add (.t 123) (.c (.int .i64 1))), .m 7 124] []], .m 35 8, .q 36 (.bin .add (.t 35) (.c (.int .i64 1))), .m 8 36]], .m 125 5, .q 126 (.call 15 [.t 125]), .m 127 7, .q 128 (.bin .eql (.t 126) (.t 127)), .m 4 128, .ret]
def r3 : List RV :=
  [.t 4]
def r4 : List RV :=
  [.t 4]
def l5_0 : List (Nat × Bool × It) :=
  [(0, false, (none, some 62, .mv (.t 12), [])), (1, false, (none, some 63, .mv (.t 2), [])), (2, false, (none, some 64, .mv (.t 13), [])), (3, false, (none, some 65, .iad 1 (.t 63) (.t 64), [1, 2])), (4, false, (none, some 66, .ld (.int .i64) (.t 65), [3])), (5, false, (none, some 67, .bin .and (.t 66) (.c (.int .i64 255)), [4])), (6, false, (none, some 68, .mv (.t 0), [])), (7, false, (none, some 69, .bin .rem (.t 67) (.t 68), [5, 6])), (8, false, (none, some 70, .mv (.t 1), [])), (9, false, (none, some 71, .mv (.t 2), [])), (10, false, (none, some 72, .mv (.t 13), [])), (11, false, (none, some 73, .iad 1 (.t 71) (.t 72), [9, 10])), (12, false, (none, some 74, .ld (.int .i64) (.t 73), [11])), (13, false, (none, some 75, .bin .and (.t 74) (.c (.int .i64 256)), [12])), (14, false, (none, some 76, .bin .eql (.t 75) (.c (.int .i64 0)), [13])), (15, true, (none, some 77, .call 31 [.t 62, .t 69, .t 70, .t 76], [0, 7, 8, 14]))]
def d5_0 : List It := pk l5_0
def o5_0 : List (Nat × Bool) := po l5_0
theorem l5_0_ok : okDraw d5_0 o5_0 = true ∧ mkL d5_0 o5_0 = some l5_0 := ⟨by kernel_rfl, by kernel_rfl⟩

def c5 : List C :=
  [.q 8 (.mv (.c (.bool false))), .q 21 (.call 7 []), .q 22 (.un .not (.t 21)), .cond (.t 22) [.q 8 (.mv (.c (.bool false))), .ret] [], .m 23 0, .q 24 (.bin .and (.t 23) (.c (.int .i64 7))), .q 25 (.bin .add (.c (.int .i64 3)) (.t 24)), .m 0 25, .m 26 3, .q 27 (.bin .and (.t 26) (.c (.int .i64 65535))), .m 3 27, .m 28 1, .q 29 (.bin .and (.t 28) (.c (.int .i64 255))), .m 30 0, .q 31 (.bin .sub (.t 30) (.c (.int .i64 1))), .q 32 (.bin .rem (.t 29) (.t 31)), .q 33 (.bin .add (.c (.int .i64 1)) (.t 32)), .m 1 33, .q 34 (.bsl 1 [.int .i64 0] 0 []), .m 9 34, .m 35 0, .q 36 (.mv (.c (.int .i64 0))), .blk 0 [.loop [.q 37 (.bin .lss (.t 36) (.t 35)), .cond (.t 37) [] [.exit 0], .blk 1 [.m 38 36, .m 10 38, .m 39 9, .m 40 10, .q 41 (.bsl 1 [.int .i64 0] 1 [(0, .t 40)]), .q 42 (.app 1 (.t 39) (.t 41)), .m 9 42], .q 43 (.bin .add (.t 36) (.c (.int .i64 1))), .m 36 43]], .m 44 9, .q 45 (.call 28 [.t 44]), .q 11 (.alloc [.int .u32 0, .int .i64 0]), .op none none (.st 2 (.t 11) (.t 45)), .q 46 (.ldn [.int .u32, .int .i64] (.t 11)), .q 47 (.call 29 [.t 46]), .m 12 47, .m 48 12, .m 49 1, .q 50 (.call 30 [.t 48, .t 49]), .q 51 (.bin .neq (.t 50) (.c (.int .i64 0))), .cond (.t 51) [.q 8 (.mv (.c (.bool false))), .ret] [], .q 13 (.mv (.c (.int .i64 0))), .blk 2 [.loop [.m 52 13, .m 53 2, .q 54 (.len false (.t 53)), .q 55 (.bin .lss (.t 52) (.t 54)), .m 56 55, .op (some (56, true)) (some 57) (.mv (.t 13)), .op (some (56, true)) (some 58) (.bin .lss (.t 57) (.c (.int .i64 30))), .q 59 (.pick (.t 56) (.t 58) (.c (.bool false))), .cond (.t 59) [] [.exit 2], .blk 3 [.draw d5_0], .m 60 13, .q 61 (.bin .add (.t 60) (.c (.int .i64 1))), .m 13 61]], .m 79 12, .m 80 1, .q 81 (.call 32 [.t 79, .t 80]), .m 78 81, .q 82 (.ext (.t 78) 0), .q 83 (.ext (.t 78) 1), .q 14 (.alloc [.int .i64 0, .int .i64 0, .nilsl]), .op none none (.st 3 (.t 14) (.t 82)), .m 15 83, .m 84 15, .q 85 (.un .not (.t 84)), .cond (.t 85) [.m 86 12, .m 87 1, .q 88 (.call 33 [.t 86, .t 87]), .q 89 (.len false (.t 88)), .q 90 (.bin
  .mul (.c (.int .i64 2)) (.t 89)), .m 91 0, .q 92 (.bin .leq (.t 90) (.t 91)), .m 8 92, .ret] [], .m 93 3, .q 94 (.ldn [.int .u32, .int .i64] (.t 11)), .q 95 (.ldn [.int .i64, .int .i64, .any] (.t 14)), .q 96 (.bsl 3 [.int .i64 0, .int .i64 0, .nilsl] 1 [(0, .t 95)]), .q 97 (.call 34 [.t 93, .t 94, .t 96, .c .nilsl]), .q 16 (.alloc [.int .i64 0, .nilsl, .int .i64 0, .int .i64 0, .nilsl]), .op none none (.st 5 (.t 16) (.t 97)), .q 99 (.ldn [.int .i64, .any, .int .i64, .int .i64, .any] (.t 16)), .q 100 (.ldn [.int .u32, .int .i64] (.t 11)), .q 101 (.call 35 [.t 99, .t 100]), .m 98 101, .q 102 (.ext (.t 98) 0), .q 103 (.ext (.t 98) 1), .q 17 (.alloc [.int .u32 0, .int .i64 0]), .op none none (.st 2 (.t 17) (.t 102)), .m 18 103, .q 105 (.ldn [.int .i64, .any, .int .i64, .int .i64, .any] (.t 16)), .q 106 (.call 37 [.t 105]), .q 107 (.call 36 [.t 106]), .m 104 107, .q 108 (.ext (.t 104) 0), .q 109 (.ext (.t 104) 1), .q 19 (.alloc [.int .i64 0, .nilsl, .int .i64 0, .int .i64 0, .nilsl]), .op none none (.st 5 (.t 19) (.t 108)), .m 20 109, .m 110 18, .q 111 (.bin .eql (.t 110) (.c (.int .i64 0))), .m 112 111, .op (some (112, true)) (some 113) (.ldn [.int .i64, .any, .int .i64, .int .i64, .any] (.t 16)), .op (some (112, true)) (some 114) (.mv (.t 3)), .op (some (112, true)) (some 115) (.ldn [.int .u32, .int .i64] (.t 11)), .op (some (112, true)) (some 116) (.call 38 [.t 113, .t 114, .t 115]), .op (some (112, true)) (some 117) (.bin .eql (.t 116) (.c (.int .i64 0))), .q 118 (.pick (.t 112) (.t 117) (.c (.bool false))), .m 119 118, .op (some (119, true)) (some 120) (.ldn [.int .u32, .int .i64] (.t 17)), .op (some (119, true)) (some 121) (.mv (.t 1)), .op (some (119, true)) (some 122) (.call 39 [.t 120, .t 121]), .op (some (119, true)) (some 123) (.un .not (.t 122)), .q 124 (.pick (.t 119) (.t 123) (.c (.bool false))), .m 125 124, .op (some (125, true)) (some 126) (.ldn [.int .u32, .int .i64] (.t 17)), .op (some (125, true)) (some 127) (.call 40 [.t 126]), .op (some (125, true))
  (some 128) (.mv (.t 0)), .op (some (125, true)) (some 129) (.bin .sub (.t 128) (.c (.int .i64 1))), .op (some (125, true)) (some 130) (.bin .eql (.t 127) (.t 129)), .q 131 (.pick (.t 125) (.t 130) (.c (.bool false))), .m 132 131, .op (some (132, true)) (some 133) (.fad 4 (.t 16)), .op (some (132, true)) (some 134) (.ld .any (.t 133)), .op (some (132, true)) (some 135) (.len false (.t 134)), .op (some (132, true)) (some 136) (.mv (.t 0)), .op (some (132, true)) (some 137) (.bin .sub (.t 136) (.c (.int .i64 1))), .op (some (132, true)) (some 138) (.bin .eql (.t 135) (.t 137)), .q 139 (.pick (.t 132) (.t 138) (.c (.bool false))), .m 140 139, .op (some (140, true)) (some 141) (.mv (.t 20)), .op (some (140, true)) (some 142) (.bin .eql (.t 141) (.c (.int .i64 0))), .q 143 (.pick (.t 140) (.t 142) (.c (.bool false))), .m 144 143, .op (some (144, true)) (some 145) (.ldn [.int .i64, .any, .int .i64, .int .i64, .any] (.t 19)), .op (some (144, true)) (some 146) (.mv (.t 3)), .op (some (144, true)) (some 147) (.ldn [.int .u32, .int .i64] (.t 11)), .op (some (144, true)) (some 148) (.call 38 [.t 145, .t 146, .t 147]), .op (some (144, true)) (some 149) (.bin .eql (.t 148) (.c (.int .i64 0))), .q 150 (.pick (.t 144) (.t 149) (.c (.bool false))), .m 151 150, .op (some (151, true)) (some 152) (.fad 1 (.t 19)), .op (some (151, true)) (some 153) (.ld .any (.t 152)), .op (some (151, true)) (some 154) (.len false (.t 153)), .op (some (151, true)) (some 155) (.bin .eql (.t 154) (.c (.int .i64 1))), .q 156 (.pick (.t 151) (.t 155) (.c (.bool false))), .m 157 156, .op (some (157, true)) (some 158) (.fad 1 (.t 19)), .op (some (157, true)) (some 159) (.ld .any (.t 158)), .op (some (157, true)) (some 160) (.iad 3 (.t 159) (.c (.int .i64 0))), .op (some (157, true)) (some 161) (.fad 1 (.t 160)), .op (some (157, true)) (some 162) (.ld (.int .i64) (.t 161)), .op (some (157, true)) (some 163) (.mv (.t 1)), .op (some (157, true)) (some 164) (.bin .eql (.t 162) (.t 163)), .q 165 (.pick (.t 157)
  (.t 164) (.c (.bool false))), .m 8 165, .ret]
def r5 : List RV :=
  [.t 8]
theorem c5_ok : cC Try.prog Try.f5.ntmps (Try.f5.body.getD .skip) = some c5 := by kernel_rfl

def c7 : List C :=
  [.q 0 (.mv (.c (.bool false))), .q 4 (.call 51 [.c (.str [120])]), .q 5 (.call 50 [.t 4]), .m 3 5, .q 6 (.ext (.t 3) 0), .q 7 (.ext (.t 3) 1), .m 1 6, .m 2 7, .q 8 (.bsl 1 [.str []] 1 [(0, .c (.str [49, 50, 51, 52, 53, 54, 55, 56, 57]))]), .q 9 (.call 52 [.t 8]), .q 10 (.bin .eql (.t 9) (.c (.int .u32 3421780262))), .m 11 10, .op (some (11, true)) (some 12) (.mv (.t 1)), .op (some (11, true)) (some 13) (.bin .eql (.t 12) (.c (.str [120]))), .q 14 (.pick (.t 11) (.t 13) (.c (.bool false))), .m 15 14, .op (some (15, true)) (some 16) (.mv (.t 2)), .op (some (15, true)) (some 17) (.bin .eql (.t 16) (.c (.int .i64 0))), .q 18 (.pick (.t 15) (.t 17) (.c (.bool false))), .m 19 18, .op (some (19, true)) (some 20) (.call 53 [.c (.int .u8 1)]), .op (some (19, true)) (some 21) (.bin .eql (.t 20) (.c (.str [112, 117, 115, 104]))), .q 22 (.pick (.t 19) (.t 21) (.c (.bool false))), .m 0 22, .ret]
def r7 : List RV :=
  [.t 0]
theorem c7_ok : cC Try.prog Try.f7.ntmps (Try.f7.body.getD .skip) = some c7 := by kernel_rfl

def c8 : List C :=
  [.q 2 (.mv (.c .nilptr)), .m 3 0, .q 4 .mkmap, .q 5 (.build [.int .i64 0, .nilmap] [(0, 1, .t 3), (1, 1, .t 4)]), .q 6 (.box (.t 5)), .m 2 6, .ret]
def c9 : List C :=
  [.q 2 (.mv (.c .nilsl)), .q 3 (.mv (.c .nilsl)), .q 4 (.mv (.c (.int .i64 0))), .blk 0 [.loop [.m 6 4, .m 7 0, .q 8 (.len false (.t 7)), .q 9 (.bin .lss (.t 6) (.t 8)), .m 10 9, .op (some (10, true)) (some 11) (.mv (.t 4)), .op (some (10, true)) (some 12) (.bin .lss (.t 11) (.c (.int .i64 8))), .q 13 (.pick (.t 10) (.t 12) (.c (.bool false))), .cond (.t 13) [] [.exit 0], .blk 1 [.m 16 0, .m 17 4, .q 18 (.iad 4 (.t 16) (.t 17)), .q 19 (.ldn [.int .i64, .int .i64, .int .i64, .int .i64] (.t 18)), .q 5 (.alloc [.int .i64 0, .int .i64 0, .int .i64 0, .int .i64 0]), .op none none (.st 4 (.t 5) (.t 19)), .q 20 (.fad 0 (.t 5)), .q 21 (.ld (.int .i64) (.t 20)), .q 22 (.bin .and (.t 21) (.c (.int .i64 255))), .q 23 (.bin .rem (.t 22) (.c (.int .i64 4))), .q 24 (.bin .add (.c (.int .i64 1)) (.t 23)), .q 25 (.fad 0 (.t 5)), .op none none (.st 1 (.t 25) (.t 24)), .q 26 (.fad 1 (.t 5)), .q 27 (.ld (.int .i64) (.t 26)), .q 28 (.bin .and (.t 27) (.c (.int .i64 63))), .q 29 (.bin .add (.c (.int .i64 1)) (.t 28)), .q 30 (.fad 2 (.t 5)), .q 31 (.ld (.int .i64) (.t 30)), .q 32 (.bin .and (.t 31) (.c (.int .i64 127))), .q 33 (.bin .add (.c (.int .i64 1)) (.t 32)), .q 34 (.fad 3 (.t 5)), .q 35 (.ld (.int .i64) (.t 34)), .q 36 (.bin .and (.t 35) (.c (.int .i64 127))), .q 37 (.fad 1 (.t 5)), .op none none (.st 1 (.t 37) (.t 29)), .q 38 (.fad 2 (.t 5)), .op none none (.st 1 (.t 38) (.t 33)), .q 39 (.fad 3 (.t 5)), .op none none (.st 1 (.t 39) (.t 36)), .q 40 (.fad 0 (.t 5)), .q 41 (.ld (.int .i64) (.t 40)), .blk 2 [.q 43 (.bin .eql (.t 41) (.c (.int .i64 2))), .m 42 43, .cond (.t 42) [.q 44 (.fad 3 (.t 5)), .op none none (.st 1 (.t 44) (.c (.int .i64 0)))] [.q 46 (.bin .eql (.t 41) (.c (.int .i64 3))), .m 45 46, .cond (.t 45) [.q 47 (.fad 1 (.t 5)), .op none none (.st 1 (.t 47) (.c (.int .i64 0)))] [.q 49 (.bin .eql (.t 41) (.c (.int .i64 4))), .m 48 49, .cond (.t 48) [.q 50 (.fad 2 (.t 5)), .op none none (.st 1 (.t 50) (.c (.int .i64 0))), .q 51 (.fad 3 (.t 5)), .op none none (.st 1 (.t 51)
  (.c (.int .i64 0)))] []]]], .m 52 3, .q 53 (.ldn [.int .i64, .int .i64, .int .i64, .int .i64] (.t 5)), .q 54 (.bsl 4 [.int .i64 0, .int .i64 0, .int .i64 0, .int .i64 0] 1 [(0, .t 53)]), .q 55 (.app 4 (.t 52) (.t 54)), .m 3 55], .m 14 4, .q 15 (.bin .add (.t 14) (.c (.int .i64 1))), .m 4 15]], .m 56 3, .m 2 56, .ret]
def r9 : List RV :=
  [.t 2]
theorem c9_ok : cC Try.prog Try.f9.ntmps (Try.f9.body.getD .skip) = some c9 := by kernel_rfl

def l28_0 : List (Nat × Bool × It) :=
  [(0, false, (none, some 18, .fad 0 (.t 3), [])), (1, false, (none, some 19, .ld (.int .u32) (.t 18), [0])), (2, false, (none, some 20, .mv (.t 5), [])), (3, false, (none, some 21, .bin .shl (.c (.int .u32 1)) (.t 20), [2])), (4, false, (none, some 22, .bin .or (.t 19) (.t 21), [1, 3])), (5, false, (none, some 23, .fad 0 (.t 3), [0, 1, 2, 3, 4])), (6, true, (none, none, .st 1 (.t 23) (.t 22), [5, 4, 0, 1, 2, 3, 4]))]
def d28_0 : List It := pk l28_0
def o28_0 : List (Nat × Bool) := po l28_0
theorem l28_0_ok : okDraw d28_0 o28_0 = true ∧ mkL d28_0 o28_0 = some l28_0 := ⟨by kernel_rfl, by kernel_rfl⟩

def c28 : List C :=
  [.q 2 (.alloc [.int .u32 0, .int .i64 0]), .q 3 (.alloc [.int .u32 0, .int .i64 0]), .m 6 0, .q 7 (.len false (.t 6)), .q 8 (.mv (.c (.int .i64 0))), .blk 0 [.loop [.q 9 (.bin .lss (.t 8) (.t 7)), .cond (.t 9) [] [.exit 0], .blk 1 [.q 10 (.iad 1 (.t 6) (.t 8)), .q 11 (.ld (.int .i64) (.t 10)), .m 5 11, .m 12 5, .q 13 (.bin .geq (.t 12) (.c (.int .i64 0))), .m 14 13, .op (some (14, true)) (some 15) (.mv (.t 5)), .op (some (14, true)) (some 16) (.bin .lss (.t 15) (.c (.int .i64 32))), .q 17 (.pick (.t 14) (.t 16) (.c (.bool false))), .cond (.t 17) [.draw d28_0] []], .q 24 (.bin .add (.t 8) (.c (.int .i64 1))), .m 8 24]], .q 25 (.ldn [.int .u32, .int .i64] (.t 3)), .op none none (.st 2 (.t 2) (.t 25)), .ret]
def r28 : List RV :=
  [.cn 2 2]
theorem c28_ok : cC Try.prog Try.f28.ntmps (Try.f28.body.getD .skip) = some c28 := by kernel_rfl

def c29 : List C :=
  [.q 1 (.box (.t 0)), .q 2 (.mv (.c .nilptr)), .q 3 (.ldn [.int .u32, .int .i64] (.t 1)), .q 4 .mkmap, .q 5 (.build [.int .u32 0, .int .i64 0, .nilmap] [(0, 2, .t 3), (2, 1, .t 4)]), .q 6 (.box (.t 5)), .m 2 6, .ret]
def r29 : List RV :=
  [.t 2]
theorem c29_ok : cC Try.prog Try.f29.ntmps (Try.f29.body.getD .skip) = some c29 := by kernel_rfl

def c30 : List C :=
  [.q 4 (.mv (.c (.int .i64 0))), .blk 0 [.m 6 1, .q 7 (.bin .eql (.t 6) (.c (.int .i64 0))), .m 5 7, .cond (.t 5) [.q 4 (.mv (.c (.int .i64 4))), .ret] [.m 9 0, .q 10 (.nck (.t 9)), .q 11 (.fad 0 (.t 10)), .q 12 (.ldn [.int .u32, .int .i64] (.t 11)), .m 13 1, .q 14 (.call 39 [.t 12, .t 13]), .q 15 (.un .not (.t 14)), .m 8 15, .cond (.t 8) [.q 4 (.mv (.c (.int .i64 13))), .ret] [.m 17 0, .m 18 1, .q 19 (.call 63 [.t 17, .t 18]), .m 16 19, .cond (.t 16) [.q 4 (.mv (.c (.int .i64 10))), .ret] []]]], .m 20 0, .q 21 (.nck (.t 20)), .q 22 (.fad 2 (.t 21)), .q 23 (.ld .any (.t 22)), .m 24 1, .q 25 .mkmap, .op none none (.mput false (.t 23) (.t 24) (.t 25)), .q 4 (.mv (.c (.int .i64 0))), .ret]
def r30 : List RV :=
  [.t 4]
theorem c30_ok : cC Try.prog Try.f30.ntmps (Try.f30.body.getD .skip) = some c30 := by kernel_rfl

def c31 : List C :=
  [.q 8 (.mv (.c (.int .i64 0))), .blk 0 [.m 12 0, .m 13 2, .q 14 (.call 63 [.t 12, .t 13]), .q 15 (.un .not (.t 14)), .m 11 15, .cond (.t 11) [.q 8 (.mv (.c (.int .i64 9))), .ret] [.m 17 0, .q 18 (.nck (.t 17)), .q 19 (.fad 0 (.t 18)), .q 20 (.ldn [.int .u32, .int .i64] (.t 19)), .m 21 1, .q 22 (.call 39 [.t 20, .t 21]), .q 23 (.un .not (.t 22)), .m 24 23, .op (some (24, false)) (some 25) (.mv (.t 1)), .op (some (24, false)) (some 26) (.mv (.t 2)), .op (some (24, false)) (some 27) (.bin .eql (.t 25) (.t 26)), .q 28 (.pick (.t 24) (.c (.bool true)) (.t 27)), .m 16 28, .cond (.t 16) [.q 8 (.mv (.c (.int .i64 13))), .ret] []]], .m 30 0, .q 31 (.nck (.t 30)), .q 32 (.fad 2 (.t 31)), .q 33 (.ld .any (.t 32)), .m 34 2, .q 35 (.look false .any .nilmap false (.t 33) (.t 34)), .m 36 1, .q 37 (.look false .bool (.bool false) true (.t 35) (.t 36)), .m 29 37, .q 38 (.ext (.t 29) 0), .q 39 (.ext (.t 29) 1), .m 9 38, .m 10 39, .m 40 10, .cond (.t 40) [.q 8 (.mv (.c (.int .i64 10))), .ret] [], .m 41 0, .q 42 (.nck (.t 41)), .q 43 (.fad 2 (.t 42)), .q 44 (.ld .any (.t 43)), .m 45 2, .q 46 (.look false .any .nilmap false (.t 44) (.t 45)), .m 47 1, .m 48 3, .op none none (.mput false (.t 46) (.t 47) (.t 48)), .q 8 (.mv (.c (.int .i64 0))), .ret]
def r31 : List RV :=
  [.t 8]
theorem c31_ok : cC Try.prog Try.f31.ntmps (Try.f31.body.getD .skip) = some c31 := by kernel_rfl

def c32 : List C :=
  [.q 4 (.alloc [.int .i64 0, .int .i64 0, .nilsl]), .q 5 (.mv (.c (.bool false))), .m 7 0, .m 8 1, .q 9 (.call 33 [.t 7, .t 8]), .m 6 9, .m 10 0, .m 11 1, .q 12 (.call 63 [.t 10, .t 11]), .q 13 (.un .not (.t 12)), .m 14 13, .op (some (14, false)) (some 15) (.mv (.t 0)), .op (some (14, false)) (some 16) (.nck (.t 15)), .op (some (14, false)) (some 17) (.fad 0 (.t 16)), .op (some (14, false)) (some 18) (.ldn [.int .u32, .int .i64] (.t 17)), .op (some (14, false)) (some 19) (.mv (.t 1)), .op (some (14, false)) (some 20) (.mv (.t 6)), .op (some (14, false)) (some 21) (.call 64 [.t 18, .t 19, .t 20]), .op (some (14, false)) (some 22) (.un .not (.t 21)), .q 23 (.pick (.t 14) (.c (.bool true)) (.t 22)), .cond (.t 23) [.q 24 (.build [.int .i64 0, .int .i64 0, .nilsl] []), .op none none (.st 3 (.t 4) (.t 24)), .q 5 (.mv (.c (.bool false))), .ret] [], .m 25 1, .m 26 6, .q 27 (.build [.int .i64 0, .int .i64 0, .nilsl] [(0, 1, .c (.int .i64 3)), (1, 1, .t 25), (2, 1, .t 26)]), .op none none (.st 3 (.t 4) (.t 27)), .q 5 (.mv (.c (.bool true))), .ret]
def r32 : List RV :=
  [.cn 4 3, .t 5]
theorem c32_ok : cC Try.prog Try.f32.ntmps (Try.f32.body.getD .skip) = some c32 := by kernel_rfl

def c33 : List C :=
  [.q 4 (.mv (.c .nilsl)), .m 5 0, .m 6 1, .q 7 (.call 65 [.t 5, .t 6, .c (.bool true)]), .m 4 7, .ret]
def r33 : List RV :=
  [.t 4]
theorem c33_ok : cC Try.prog Try.f33.ntmps (Try.f33.body.getD .skip) = some c33 := by kernel_rfl

def c34 : List C :=
  [.q 5 (.box (.t 1)), .q 8 (.alloc [.int .i64 0, .nilsl, .int .i64 0, .int .i64 0, .nilsl]), .m 16 0, .q 17 (.build [.int .i64 0, .nilsl, .int .i64 0, .int .i64 0, .nilsl] [(0, 1, .t 16)]), .q 9 (.alloc [.int .i64 0, .nilsl, .int .i64 0, .int .i64 0, .nilsl]), .op none none (.st 5 (.t 9) (.t 17)), .q 18 (.ldn [.int .u32, .int .i64] (.t 5)), .q 10 (.alloc [.int .u32 0, .int .i64 0]), .op none none (.st 2 (.t 10) (.t 18)), .m 19 2, .q 20 (.call 66 [.t 19]), .q 21 (.len false (.t 20)), .q 22 (.mv (.c (.int .i64 0))), .blk 0 [.loop [.q 23 (.bin .lss (.t 22) (.t 21)), .cond (.t 23) [] [.exit 0], .blk 1 [.q 24 (.iad 3 (.t 20) (.t 22)), .q 25 (.ldn [.int .i64, .int .i64, .any] (.t 24)), .q 12 (.alloc [.int .i64 0, .int .i64 0, .nilsl]), .op none none (.st 3 (.t 12) (.t 25)), .q 26 (.fad 1 (.t 9)), .q 27 (.ld .any (.t 26)), .q 28 (.len false (.t 27)), .q 29 (.bin .lss (.t 28) (.c (.int .i64 8))), .m 30 29, .op (some (30, true)) (some 31) (.ldn [.int .u32, .int .i64] (.t 10)), .op (some (30, true)) (some 32) (.ldn [.int .i64, .int .i64, .any] (.t 12)), .op (some (30, true)) (some 33) (.call 67 [.t 31, .t 32]), .op (some (30, true)) (some 34) (.bin .eql (.t 33) (.c (.int .i64 0))), .q 35 (.pick (.t 30) (.t 34) (.c (.bool false))), .cond (.t 35) [.q 36 (.fad 1 (.t 9)), .q 37 (.ld .any (.t 36)), .q 38 (.ldn [.int .i64, .int .i64, .any] (.t 12)), .q 39 (.bsl 3 [.int .i64 0, .int .i64 0, .nilsl] 1 [(0, .t 38)]), .q 40 (.app 3 (.t 37) (.t 39)), .q 41 (.fad 1 (.t 9)), .op none none (.st 1 (.t 41) (.t 40)), .q 43 (.ldn [.int .u32, .int .i64] (.t 10)), .q 44 (.ldn [.int .i64, .int .i64, .any] (.t 12)), .q 45 (.bsl 3 [.int .i64 0, .int .i64 0, .nilsl] 1 [(0, .t 44)]), .q 46 (.call 68 [.t 43, .t 45]), .m 42 46, .q 47 (.ext (.t 42) 0), .q 48 (.ext (.t 42) 1), .op none none (.st 2 (.t 10) (.t 47))] []], .q 49 (.bin .add (.t 22) (.c (.int .i64 1))), .m 22 49]], .q 50 (.ldn [.int .u32, .int .i64] (.t 10)), .q 51 (.call 69 [.t 50]), .q 52 (.len false (.t 51)), .q 53 (.mv (.c (.int .i64 0))),
  .blk 2 [.loop [.q 54 (.bin .lss (.t 53) (.t 52)), .cond (.t 54) [] [.exit 2], .blk 3 [.m 55 53, .q 56 (.iad 1 (.t 51) (.t 53)), .q 57 (.ld (.int .i64) (.t 56)), .m 13 55, .m 14 57, .m 58 14, .q 59 (.build [.int .i64 0, .nilsl] [(0, 1, .t 58)]), .q 15 (.alloc [.int .i64 0, .nilsl]), .op none none (.st 2 (.t 15) (.t 59)), .m 60 13, .m 61 3, .q 62 (.len false (.t 61)), .q 63 (.bin .lss (.t 60) (.t 62)), .cond (.t 63) [.m 64 3, .m 65 13, .q 66 (.iad 1 (.t 64) (.t 65)), .q 67 (.ld .any (.t 66)), .q 68 (.call 9 [.t 67]), .q 69 (.fad 1 (.t 15)), .op none none (.st 1 (.t 69) (.t 68))] [], .q 70 (.fad 4 (.t 9)), .q 71 (.ld .any (.t 70)), .q 72 (.ldn [.int .i64, .any] (.t 15)), .q 73 (.bsl 2 [.int .i64 0, .nilsl] 1 [(0, .t 72)]), .q 74 (.app 2 (.t 71) (.t 73)), .q 75 (.fad 4 (.t 9)), .op none none (.st 1 (.t 75) (.t 74))], .q 76 (.bin .add (.t 53) (.c (.int .i64 1))), .m 53 76]], .q 77 (.ldn [.int .i64, .any, .int .i64, .int .i64, .any] (.t 9)), .op none none (.st 5 (.t 8) (.t 77)), .ret]
def r34 : List RV :=
  [.cn 8 5]
theorem c34_ok : cC Try.prog Try.f34.ntmps (Try.f34.body.getD .skip) = some c34 := by kernel_rfl

def c35 : List C :=
  [.q 2 (.box (.t 0)), .q 3 (.box (.t 1)), .q 4 (.alloc [.int .u32 0, .int .i64 0]), .q 5 (.mv (.c (.int .i64 0))), .q 6 (.fad 1 (.t 2)), .q 7 (.ld .any (.t 6)), .q 8 (.len false (.t 7)), .q 9 (.bin .gtr (.t 8) (.c (.int .i64 8))), .cond (.t 9) [.q 10 (.ldn [.int .u32, .int .i64] (.t 3)), .op none none (.st 2 (.t 4) (.t 10)), .q 5 (.mv (.c (.int .i64 8))), .ret] [], .q 11 (.ldn [.int .u32, .int .i64] (.t 3)), .q 12 (.fad 1 (.t 2)), .q 13 (.ld .any (.t 12)), .q 14 (.call 68 [.t 11, .t 13]), .q 15 (.ext (.t 14) 0), .q 16 (.ext (.t 14) 1), .op none none (.st 2 (.t 4) (.t 15)), .m 5 16, .ret]
def r35 : List RV :=
  [.cn 4 2, .t 5]
theorem c35_ok : cC Try.prog Try.f35.ntmps (Try.f35.body.getD .skip) = some c35 := by kernel_rfl

def c36 : List C :=
  [.q 2 (.alloc [.int .i64 0, .nilsl, .int .i64 0, .int .i64 0, .nilsl]), .q 3 (.mv (.c (.int .i64 0))), .m 7 0, .q 8 (.call 70 [.t 7]), .m 4 8, .m 9 4, .q 10 (.call 71 [.t 9]), .q 5 (.alloc [.int .i64 0, .nilsl, .int .i64 0, .int .i64 0, .nilsl]), .op none none (.st 5 (.t 5) (.t 10)), .m 11 4, .q 12 (.call 72 [.t 11]), .m 6 12, .m 13 6, .q 14 (.bin .neq (.t 13) (.c (.int .i64 0))), .cond (.t 14) [.q 15 (.build [.int .i64 0, .nilsl, .int .i64 0, .int .i64 0, .nilsl] []), .m 16 6, .op none none (.st 5 (.t 2) (.t 15)), .m 3 16, .ret] [], .q 17 (.ldn [.int .i64, .any, .int .i64, .int .i64, .any] (.t 5)), .op none none (.st 5 (.t 2) (.t 17)), .q 3 (.mv (.c (.int .i64 0))), .ret]
def r36 : List RV :=
  [.cn 2 5, .t 3]
theorem c36_ok : cC Try.prog Try.f36.ntmps (Try.f36.body.getD .skip) = some c36 := by kernel_rfl

def c37 : List C :=
  [.q 1 (.box (.t 0)), .q 2 (.mv (.c (.str []))), .q 3 (.alloc [.nilsl]), .q 4 (.ldn [.int .i64, .any, .int .i64, .int .i64, .any] (.t 1)), .q 5 (.call 73 [.t 4, .t 3]), .q 6 (.call 74 [.t 3]), .m 2 6, .ret]
def r37 : List RV :=
  [.t 2]
theorem c37_ok : cC Try.prog Try.f37.ntmps (Try.f37.body.getD .skip) = some c37 := by kernel_rfl

def c38 : List C :=
  [.q 3 (.box (.t 0)), .q 5 (.box (.t 2)), .q 6 (.mv (.c (.int .i64 0))), .q 13 (.fad 0 (.t 3)), .q 14 (.ld (.int .i64) (.t 13)), .m 15 1, .q 16 (.bin .neq (.t 14) (.t 15)), .cond (.t 16) [.q 6 (.mv (.c (.int .i64 12))), .ret] [], .q 17 (.fad 2 (.t 3)), .q 18 (.ldn [.int .i64, .int .i64] (.t 17)), .q 19 (.build [.int .i64 0, .int .i64 0] []), .q 20 (.eqa true [.int .i64, .int .i64] (.t 18) (.t 19)), .cond (.t 20) [.q 21 (.fad 2 (.t 3)), .q 22 (.ldn [.int .i64, .int .i64] (.t 21)), .q 23 (.call 75 [.t 22]), .m 7 23, .m 24 7, .q 25 (.bin .neq (.t 24) (.c (.int .i64 0))), .cond (.t 25) [.m 26 7, .m 6 26, .ret] []] [], .q 28 (.ldn [.int .i64, .any, .int .i64, .int .i64, .any] (.t 3)), .q 29 (.ldn [.int .u32, .int .i64] (.t 5)), .q 30 (.call 35 [.t 28, .t 29]), .m 27 30, .q 31 (.ext (.t 27) 0), .q 32 (.ext (.t 27) 1), .q 8 (.alloc [.int .u32 0, .int .i64 0]), .op none none (.st 2 (.t 8) (.t 31)), .m 9 32, .m 33 9, .q 34 (.bin .neq (.t 33) (.c (.int .i64 0))), .cond (.t 34) [.m 35 9, .m 6 35, .ret] [], .q 10 (.mv (.c .nilsl)), .q 36 (.fad 4 (.t 3)), .q 37 (.ld .any (.t 36)), .q 38 (.len false (.t 37)), .q 39 (.mv (.c (.int .i64 0))), .blk 0 [.loop [.q 40 (.bin .lss (.t 39) (.t 38)), .cond (.t 40) [] [.exit 0], .blk 1 [.q 41 (.iad 2 (.t 37) (.t 39)), .q 42 (.ldn [.int .i64, .any] (.t 41)), .q 12 (.alloc [.int .i64 0, .nilsl]), .op none none (.st 2 (.t 12) (.t 42)), .m 43 10, .q 44 (.fad 0 (.t 12)), .q 45 (.ld (.int .i64) (.t 44)), .q 46 (.bsl 1 [.int .i64 0] 1 [(0, .t 45)]), .q 47 (.app 1 (.t 43) (.t 46)), .m 10 47], .q 48 (.bin .add (.t 39) (.c (.int .i64 1))), .m 39 48]], .m 49 10, .q 50 (.ldn [.int .u32, .int .i64] (.t 8)), .q 51 (.call 69 [.t 50]), .q 52 (.call 76 [.t 49, .t 51]), .q 53 (.un .not (.t 52)), .cond (.t 53) [.q 6 (.mv (.c (.int .i64 13))), .ret] [], .q 54 (.fad 4 (.t 3)), .q 55 (.ld .any (.t 54)), .q 56 (.call 77 [.t 55]), .m 6 56, .ret]
def r38 : List RV :=
  [.t 6]
theorem c38_ok : cC Try.prog Try.f38.ntmps (Try.f38.body.getD .skip) = some c38 := by kernel_rfl

def c39 : List C :=
  [.q 2 (.box (.t 0)), .q 4 (.mv (.c (.bool false))), .m 5 1, .q 6 (.bin .geq (.t 5) (.c (.int .i64 0))), .m 7 6, .op (some (7, true)) (some 8) (.mv (.t 1)), .op (some (7, true)) (some 9) (.bin .lss (.t 8) (.c (.int .i64 32))), .q 10 (.pick (.t 7) (.t 9) (.c (.bool false))), .m 11 10, .op (some (11, true)) (some 12) (.fad 0 (.t 2)), .op (some (11, true)) (some 13) (.ld (.int .u32) (.t 12)), .op (some (11, true)) (some 14) (.mv (.t 1)), .op (some (11, true)) (some 15) (.bin .shr (.t 13) (.t 14)), .op (some (11, true)) (some 16) (.bin .and (.t 15) (.c (.int .u32 1))), .op (some (11, true)) (some 17) (.bin .eql (.t 16) (.c (.int .u32 1))), .q 18 (.pick (.t 11) (.t 17) (.c (.bool false))), .m 4 18, .ret]
def r39 : List RV :=
  [.t 4]
theorem c39_ok : cC Try.prog Try.f39.ntmps (Try.f39.body.getD .skip) = some c39 := by kernel_rfl

def c40 : List C :=
  [.q 1 (.box (.t 0)), .q 2 (.mv (.c (.int .i64 0))), .q 3 (.fad 0 (.t 1)), .q 4 (.ld (.int .u32) (.t 3)), .q 5 (.call 78 [.t 4]), .m 2 5, .ret]
def r40 : List RV :=
  [.t 2]
theorem c40_ok : cC Try.prog Try.f40.ntmps (Try.f40.body.getD .skip) = some c40 := by kernel_rfl

def l50_0 : List (Nat × Bool × It) :=
  [(0, false, (none, some 13, .mv (.t 0), [])), (1, false, (none, some 14, .ssl (.t 13) (some (.c (.int .i64 1))) (some (.c (.int .i64 5))), [0])), (2, false, (none, some 15, .mv (.t 0), [])), (3, false, (none, some 16, .ssl (.t 15) none (some (.c (.int .i64 1))), [2])), (4, false, (none, some 17, .mv (.t 0), [])), (5, false, (none, some 18, .ssl (.t 17) (some (.c (.int .i64 5))) none, [4])), (6, false, (none, some 19, .bsl 1 [.str []] 2 [(0, .t 16), (1, .t 18)], [3, 5])), (7, true, (none, some 20, .call 52 [.t 19], [6])), (8, true, (none, some 21, .call 99 [.t 20], [7, 7])), (9, false, (none, some 22, .bin .neq (.t 14) (.t 21), [1, 8])), (10, false, (none, some 12, .mv (.t 22), [9, 8]))]
def d50_0 : List It := pk l50_0
def o50_0 : List (Nat × Bool) := po l50_0
theorem l50_0_ok : okDraw d50_0 o50_0 = true ∧ mkL d50_0 o50_0 = some l50_0 := ⟨by kernel_rfl, by kernel_rfl⟩

def c50 : List C :=
  [.q 2 (.mv (.c (.str []))), .q 3 (.mv (.c (.int .i64 0))), .blk 0 [.m 5 0, .q 6 (.len true (.t 5)), .q 7 (.bin .lss (.t 6) (.c (.int .i64 5))), .m 4 7, .cond (.t 4) [.q 2 (.mv (.c (.str []))), .q 3 (.mv (.c (.int .i64 1))), .ret] [.m 9 0, .q 10 (.ist (.t 9) (.c (.int .i64 0))), .q 11 (.bin .neq (.t 10) (.c (.int .u8 7))), .m 8 11, .cond (.t 8) [.q 2 (.mv (.c (.str []))), .q 3 (.mv (.c (.int .i64 6))), .ret] [.draw d50_0, .cond (.t 12) [.q 2 (.mv (.c (.str []))), .q 3 (.mv (.c (.int .i64 5))), .ret] []]]], .m 23 0, .q 24 (.ssl (.t 23) (some (.c (.int .i64 5))) none), .m 2 24, .q 3 (.mv (.c (.int .i64 0))), .ret]
def r50 : List RV :=
  [.t 2, .t 3]
theorem c50_ok : cC Try.prog Try.f50.ntmps (Try.f50.body.getD .skip) = some c50 := by kernel_rfl

def c51 : List C :=
  [.q 2 (.mv (.c (.str []))), .q 4 (.bsl 1 [.int .u8 0] 1 [(0, .c (.int .u8 7))]), .q 5 (.cvb (.t 4)), .m 3 5, .m 6 3, .m 7 3, .m 8 0, .q 9 (.bsl 1 [.str []] 2 [(0, .t 7), (1, .t 8)]), .q 10 (.call 52 [.t 9]), .q 11 (.call 99 [.t 10]), .q 12 (.bin .add (.t 6) (.t 11)), .m 13 0, .q 14 (.bin .add (.t 12) (.t 13)), .m 2 14, .ret]
def r51 : List RV :=
  [.t 2]
theorem c51_ok : cC Try.prog Try.f51.ntmps (Try.f51.body.getD .skip) = some c51 := by kernel_rfl

def c52 : List C :=
  [.q 2 (.mv (.c (.int .u32 0))), .m 3 0, .q 4 (.call 100 [.c (.int .u32 0), .t 3]), .m 2 4, .ret]
def r52 : List RV :=
  [.t 2]
theorem c52_ok : cC Try.prog Try.f52.ntmps (Try.f52.body.getD .skip) = some c52 := by kernel_rfl

def c53 : List C :=
  [.q 2 (.mv (.c (.str []))), .q 4 (.bsl 1 [.str []] 23 [(0, .c (.str [63])), (1, .c (.str [112, 117, 115, 104])), (2, .c (.str [112, 111, 112])), (3, .c (.str [100, 117, 112])), (4, .c (.str [115, 119, 97, 112])), (5, .c (.str [97, 100, 100])), (6, .c (.str [115, 117, 98])), (7, .c (.str [109, 117, 108])), (8, .c (.str [100, 105, 118])), (9, .c (.str [109, 111, 100])), (10, .c (.str [101, 113])), (11, .c (.str [108, 101, 115, 115])), (12, .c (.str [110, 111, 116])), (13, .c (.str [106, 117, 109, 112])), (14, .c (.str [98, 114, 97, 110, 99, 104])), (15, .c (.str [99, 97, 108, 108])), (16, .c (.str [114, 101, 116])), (17, .c (.str [108, 111, 97, 100])), (18, .c (.str [115, 116, 111, 114, 101])), (19, .c (.str [103, 101, 116])), (20, .c (.str [112, 117, 116])), (21, .c (.str [114, 97, 110, 100])), (22, .c (.str [104, 111, 115, 116]))]), .m 3 4, .m 5 0, .q 6 (.cvi .i64 (.t 5)), .m 7 3, .q 8 (.len false (.t 7)), .q 9 (.bin .geq (.t 6) (.t 8)), .cond (.t 9) [.q 2 (.mv (.c (.str [63]))), .ret] [], .m 10 3, .m 11 0, .q 12 (.iad 1 (.t 10) (.t 11)), .q 13 (.ld .str (.t 12)), .m 2 13, .ret]
def r53 : List RV :=
  [.t 2]
theorem c53_ok : cC Try.prog Try.f53.ntmps (Try.f53.body.getD .skip) = some c53 := by kernel_rfl

def c54 : List C :=
  [.q 2 (.mv (.c (.int .i64 0))), .m 6 0, .q 7 (.len false (.t 6)), .q 8 (.bin .gtr (.t 7) (.c (.int .i64 8))), .cond (.t 8) [.q 2 (.mv (.c (.int .i64 8))), .ret] [], .m 9 0, .q 10 (.len false (.t 9)), .q 11 (.mv (.c (.int .i64 0))), .blk 0 [.loop [.q 12 (.bin .lss (.t 11) (.t 10)), .cond (.t 12) [] [.exit 0], .blk 1 [.q 13 (.iad 4 (.t 9) (.t 11)), .q 14 (.ldn [.int .i64, .int .i64, .int .i64, .int .i64] (.t 13)), .q 4 (.alloc [.int .i64 0, .int .i64 0, .int .i64 0, .int .i64 0]), .op none none (.st 4 (.t 4) (.t 14)), .q 15 (.ldn [.int .i64, .int .i64, .int .i64, .int .i64] (.t 4)), .q 16 (.call 101 [.t 15]), .m 5 16, .m 17 5, .q 18 (.bin .neq (.t 17) (.c (.int .i64 0))), .cond (.t 18) [.m 19 5, .m 2 19, .ret] []], .q 20 (.bin .add (.t 11) (.c (.int .i64 1))), .m 11 20]], .q 2 (.mv (.c (.int .i64 0))), .ret]
def r54 : List RV :=
  [.t 2]
theorem c54_ok : cC Try.prog Try.f54.ntmps (Try.f54.body.getD .skip) = some c54 := by kernel_rfl

def c63 : List C :=
  [.q 4 (.mv (.c (.bool false))), .m 5 0, .q 6 (.nck (.t 5)), .q 7 (.fad 2 (.t 6)), .q 8 (.ld .any (.t 7)), .m 9 1, .q 10 (.look false .any .nilmap false (.t 8) (.t 9)), .q 11 (.eqp 1 true (.t 10) (.c .nilmap)), .m 4 11, .ret]
def r63 : List RV :=
  [.t 4]
theorem c63_ok : cC Try.prog Try.f63.ntmps (Try.f63.body.getD .skip) = some c63 := by kernel_rfl

def c64 : List C :=
  [.q 3 (.box (.t 0)), .q 6 (.mv (.c (.bool false))), .m 9 2, .q 10 (.len false (.t 9)), .q 11 (.mv (.c (.int .i64 0))), .blk 0 [.loop [.q 12 (.bin .lss (.t 11) (.t 10)), .cond (.t 12) [] [.exit 0], .blk 1 [.m 13 11, .q 14 (.iad 1 (.t 9) (.t 11)), .q 15 (.ld (.int .i64) (.t 14)), .m 7 13, .m 8 15, .q 16 (.ldn [.int .u32, .int .i64] (.t 3)), .m 17 8, .q 18 (.call 39 [.t 16, .t 17]), .q 19 (.un .not (.t 18)), .m 20 19, .op (some (20, false)) (some 21) (.mv (.t 8)), .op (some (20, false)) (some 22) (.mv (.t 1)), .op (some (20, false)) (some 23) (.bin .eql (.t 21) (.t 22)), .q 24 (.pick (.t 20) (.c (.bool true)) (.t 23)), .m 25 24, .op (some (25, false)) (some 26) (.mv (.t 7)), .op (some (25, false)) (some 27) (.bin .gtr (.t 26) (.c (.int .i64 0))), .op (some (25, false)) (some 28) (.mv (.t 27)), .op (some (28, true)) (some 29) (.mv (.t 2)), .op (some (28, true)) (some 30) (.mv (.t 7)), .op (some (28, true)) (some 31) (.bin .sub (.t 30) (.c (.int .i64 1))), .op (some (28, true)) (some 32) (.iad 1 (.t 29) (.t 31)), .op (some (28, true)) (some 33) (.ld (.int .i64) (.t 32)), .op (some (28, true)) (some 34) (.mv (.t 8)), .op (some (28, true)) (some 35) (.bin .geq (.t 33) (.t 34)), .op (some (25, false)) (some 36) (.pick (.t 28) (.t 35) (.c (.bool false))), .q 37 (.pick (.t 25) (.c (.bool true)) (.t 36)), .cond (.t 37) [.q 6 (.mv (.c (.bool false))), .ret] []], .q 38 (.bin .add (.t 11) (.c (.int .i64 1))), .m 11 38]], .m 39 2, .q 40 (.len false (.t 39)), .q 41 (.bin .mul (.c (.int .i64 2)) (.t 40)), .q 42 (.ldn [.int .u32, .int .i64] (.t 3)), .q 43 (.call 40 [.t 42]), .q 44 (.bin .gtr (.t 41) (.t 43)), .m 6 44, .ret]
def r64 : List RV :=
  [.t 6]
theorem c64_ok : cC Try.prog Try.f64.ntmps (Try.f64.body.getD .skip) = some c64 := by kernel_rfl

def c65 : List C :=
  [.q 6 (.mv (.c .nilsl)), .q 7 (.mv (.c .nilsl)), .m 10 0, .q 11 (.nck (.t 10)), .q 12 (.fad 2 (.t 11)), .q 13 (.ld .any (.t 12)), .m 14 1, .q 15 (.look false .any .nilmap false (.t 13) (.t 14)), .q 16 (.call 107 [.t 15]), .q 17 (.call 106 [.t 16]), .q 18 (.len false (.t 17)), .q 19 (.mv (.c (.int .i64 0))), .blk 0 [.loop [.q 20 (.bin .lss (.t 19) (.t 18)), .cond (.t 20) [] [.exit 0], .blk 1 [.q 21 (.iad 1 (.t 17) (.t 19)), .q 22 (.ld (.int .i64) (.t 21)), .m 9 22, .m 23 0, .q 24 (.nck (.t 23)), .q 25 (.fad 2 (.t 24)), .q 26 (.ld .any (.t 25)), .m 27 1, .q 28 (.look false .any .nilmap false (.t 26) (.t 27)), .m 29 9, .q 30 (.look false .bool (.bool false) false (.t 28) (.t 29)), .m 31 2, .q 32 (.eqb false (.t 30) (.t 31)), .cond (.t 32) [.m 33 7, .m 34 9, .q 35 (.bsl 1 [.int .i64 0] 1 [(0, .t 34)]), .q 36 (.app 1 (.t 33) (.t 35)), .m 7 36] []], .q 37 (.bin .add (.t 19) (.c (.int .i64 1))), .m 19 37]], .m 38 7, .m 6 38, .ret]
def r65 : List RV :=
  [.t 6]
theorem c65_ok : cC Try.prog Try.f65.ntmps (Try.f65.body.getD .skip) = some c65 := by kernel_rfl

def c66 : List C :=
  [.q 2 (.mv (.c .nilsl)), .q 3 (.mv (.c .nilsl)), .q 4 (.mv (.c (.int .i64 0))), .blk 0 [.loop [.m 6 4, .m 7 0, .q 8 (.len false (.t 7)), .q 9 (.bin .lss (.t 6) (.t 8)), .m 10 9, .op (some (10, true)) (some 11) (.mv (.t 4)), .op (some (10, true)) (some 12) (.bin .lss (.t 11) (.c (.int .i64 10))), .q 13 (.pick (.t 10) (.t 12) (.c (.bool false))), .cond (.t 13) [] [.exit 0], .blk 1 [.m 16 0, .m 17 4, .q 18 (.iad 3 (.t 16) (.t 17)), .q 19 (.ldn [.int .i64, .int .i64, .any] (.t 18)), .q 5 (.alloc [.int .i64 0, .int .i64 0, .nilsl]), .op none none (.st 3 (.t 5) (.t 19)), .q 20 (.fad 2 (.t 5)), .q 21 (.ld .any (.t 20)), .q 22 (.len false (.t 21)), .q 23 (.bin .gtr (.t 22) (.c (.int .i64 34))), .cond (.t 23) [.q 24 (.fad 2 (.t 5)), .q 25 (.ld .any (.t 24)), .q 26 (.lsl 1 (.t 25) none (some (.c (.int .i64 34))) none), .q 27 (.fad 2 (.t 5)), .op none none (.st 1 (.t 27) (.t 26))] [], .m 28 3, .q 29 (.ldn [.int .i64, .int .i64, .any] (.t 5)), .q 30 (.bsl 3 [.int .i64 0, .int .i64 0, .nilsl] 1 [(0, .t 29)]), .q 31 (.app 3 (.t 28) (.t 30)), .m 3 31], .m 14 4, .q 15 (.bin .add (.t 14) (.c (.int .i64 1))), .m 4 15]], .m 32 3, .m 2 32, .ret]
def r66 : List RV :=
  [.t 2]
theorem c66_ok : cC Try.prog Try.f66.ntmps (Try.f66.body.getD .skip) = some c66 := by kernel_rfl

def c67 : List C :=
  [.q 2 (.box (.t 0)), .q 3 (.box (.t 1)), .q 4 (.mv (.c (.int .i64 0))), .blk 0 [.q 6 (.fad 0 (.t 3)), .q 7 (.ld (.int .i64) (.t 6)), .q 8 (.bin .lss (.t 7) (.c (.int .i64 1))), .m 9 8, .op (some (9, false)) (some 10) (.fad 0 (.t 3)), .op (some (9, false)) (some 11) (.ld (.int .i64) (.t 10)), .op (some (9, false)) (some 12) (.bin .gtr (.t 11) (.c (.int .i64 3))), .q 13 (.pick (.t 9) (.c (.bool true)) (.t 12)), .m 5 13, .cond (.t 5) [.q 4 (.mv (.c (.int .i64 7))), .ret] [.q 15 (.fad 1 (.t 3)), .q 16 (.ld (.int .i64) (.t 15)), .q 17 (.bin .lss (.t 16) (.c (.int .i64 0))), .m 18 17, .op (some (18, false)) (some 19) (.fad 1 (.t 3)), .op (some (18, false)) (some 20) (.ld (.int .i64) (.t 19)), .op (some (18, false)) (some 21) (.bin .geq (.t 20) (.c (.int .i64 32))), .q 22 (.pick (.t 18) (.c (.bool true)) (.t 21)), .m 23 22, .op (some (23, false)) (some 24) (.fad 1 (.t 3)), .op (some (23, false)) (some 25) (.ld (.int .i64) (.t 24)), .op (some (23, false)) (some 26) (.bin .eql (.t 25) (.c (.int .i64 0))), .op (some (23, false)) (some 27) (.mv (.t 26)), .op (some (27, true)) (some 28) (.fad 0 (.t 3)), .op (some (27, true)) (some 29) (.ld (.int .i64) (.t 28)), .op (some (27, true)) (some 30) (.bin .neq (.t 29) (.c (.int .i64 1))), .op (some (23, false)) (some 31) (.pick (.t 27) (.t 30) (.c (.bool false))), .q 32 (.pick (.t 23) (.c (.bool true)) (.t 31)), .m 33 32, .op (some (33, false)) (some 34) (.fad 0 (.t 3)), .op (some (33, false)) (some 35) (.ld (.int .i64) (.t 34)), .op (some (33, false)) (some 36) (.bin .neq (.t 35) (.c (.int .i64 3))), .op (some (33, false)) (some 37) (.mv (.t 36)), .op (some (37, true)) (some 38) (.fad 2 (.t 3)), .op (some (37, true)) (some 39) (.ld .any (.t 38)), .op (some (37, true)) (some 40) (.len false (.t 39)), .op (some (37, true)) (some 41) (.bin .gtr (.t 40) (.c (.int .i64 0))), .op (some (33, false)) (some 42) (.pick (.t 37) (.t 41) (.c (.bool false))), .q 43 (.pick (.t 33) (.c (.bool true)) (.t 42)), .m 14 43, .cond (.t 14) [.q 4 (.mv (.c
  (.int .i64 4))), .ret] [.q 45 (.fad 0 (.t 3)), .q 46 (.ld (.int .i64) (.t 45)), .q 47 (.bin .eql (.t 46) (.c (.int .i64 1))), .m 48 47, .op (some (48, true)) (some 49) (.ldn [.int .u32, .int .i64] (.t 2)), .op (some (48, true)) (some 50) (.fad 1 (.t 3)), .op (some (48, true)) (some 51) (.ld (.int .i64) (.t 50)), .op (some (48, true)) (some 52) (.call 39 [.t 49, .t 51]), .q 53 (.pick (.t 48) (.t 52) (.c (.bool false))), .m 44 53, .cond (.t 44) [.q 4 (.mv (.c (.int .i64 10))), .ret] [.q 55 (.fad 0 (.t 3)), .q 56 (.ld (.int .i64) (.t 55)), .q 57 (.bin .neq (.t 56) (.c (.int .i64 1))), .m 58 57, .op (some (58, true)) (some 59) (.ldn [.int .u32, .int .i64] (.t 2)), .op (some (58, true)) (some 60) (.fad 1 (.t 3)), .op (some (58, true)) (some 61) (.ld (.int .i64) (.t 60)), .op (some (58, true)) (some 62) (.call 39 [.t 59, .t 61]), .op (some (58, true)) (some 63) (.un .not (.t 62)), .q 64 (.pick (.t 58) (.t 63) (.c (.bool false))), .m 54 64, .cond (.t 54) [.q 4 (.mv (.c (.int .i64 13))), .ret] [.q 66 (.fad 0 (.t 3)), .q 67 (.ld (.int .i64) (.t 66)), .q 68 (.bin .eql (.t 67) (.c (.int .i64 3))), .m 69 68, .op (some (69, true)) (some 70) (.ldn [.int .u32, .int .i64] (.t 2)), .op (some (69, true)) (some 71) (.fad 1 (.t 3)), .op (some (69, true)) (some 72) (.ld (.int .i64) (.t 71)), .op (some (69, true)) (some 73) (.fad 2 (.t 3)), .op (some (69, true)) (some 74) (.ld .any (.t 73)), .op (some (69, true)) (some 75) (.call 64 [.t 70, .t 72, .t 74]), .op (some (69, true)) (some 76) (.un .not (.t 75)), .q 77 (.pick (.t 69) (.t 76) (.c (.bool false))), .m 65 77, .cond (.t 65) [.q 4 (.mv (.c (.int .i64 15))), .ret] []]]]]], .q 4 (.mv (.c (.int .i64 0))), .ret]
def r67 : List RV :=
  [.t 4]
theorem c67_ok : cC Try.prog Try.f67.ntmps (Try.f67.body.getD .skip) = some c67 := by kernel_rfl

def l68_0 : List (Nat × Bool × It) :=
  [(0, false, (none, some 24, .fad 0 (.t 2), [])), (1, false, (none, some 25, .ld (.int .u32) (.t 24), [0])), (2, false, (none, some 26, .fad 1 (.t 8), [])), (3, false, (none, some 27, .ld (.int .i64) (.t 26), [2])), (4, false, (none, some 28, .bin .shl (.c (.int .u32 1)) (.t 27), [3])), (5, false, (none, some 29, .bin .xor (.t 25) (.t 28), [1, 4])), (6, false, (none, some 30, .fad 0 (.t 2), [0, 1, 2, 3, 4, 5])), (7, true, (none, none, .st 1 (.t 30) (.t 29), [6, 5, 0, 1, 2, 3, 4, 5]))]
def d68_0 : List It := pk l68_0
def o68_0 : List (Nat × Bool) := po l68_0
theorem l68_0_ok : okDraw d68_0 o68_0 = true ∧ mkL d68_0 o68_0 = some l68_0 := ⟨by kernel_rfl, by kernel_rfl⟩

def c68 : List C :=
  [.q 2 (.box (.t 0)), .q 4 (.alloc [.int .u32 0, .int .i64 0]), .q 5 (.mv (.c (.int .i64 0))), .q 10 (.ldn [.int .u32, .int .i64] (.t 2)), .q 6 (.alloc [.int .u32 0, .int .i64 0]), .op none none (.st 2 (.t 6) (.t 10)), .m 11 1, .q 12 (.len false (.t 11)), .q 13 (.mv (.c (.int .i64 0))), .blk 0 [.loop [.q 14 (.bin .lss (.t 13) (.t 12)), .cond (.t 14) [] [.exit 0], .blk 1 [.q 15 (.iad 3 (.t 11) (.t 13)), .q 16 (.ldn [.int .i64, .int .i64, .any] (.t 15)), .q 8 (.alloc [.int .i64 0, .int .i64 0, .nilsl]), .op none none (.st 3 (.t 8) (.t 16)), .q 17 (.ldn [.int .u32, .int .i64] (.t 2)), .q 18 (.ldn [.int .i64, .int .i64, .any] (.t 8)), .q 19 (.call 67 [.t 17, .t 18]), .m 9 19, .m 20 9, .q 21 (.bin .neq (.t 20) (.c (.int .i64 0))), .cond (.t 21) [.q 22 (.ldn [.int .u32, .int .i64] (.t 6)), .m 23 9, .op none none (.st 2 (.t 4) (.t 22)), .m 5 23, .ret] [], .draw d68_0, .q 31 (.fad 1 (.t 2)), .q 32 (.ld (.int .i64) (.t 31)), .q 33 (.bin .add (.t 32) (.c (.int .i64 1))), .q 34 (.fad 1 (.t 2)), .op none none (.st 1 (.t 34) (.t 33))], .q 35 (.bin .add (.t 13) (.c (.int .i64 1))), .m 13 35]], .q 36 (.ldn [.int .u32, .int .i64] (.t 2)), .op none none (.st 2 (.t 4) (.t 36)), .q 5 (.mv (.c (.int .i64 0))), .ret]
def r68 : List RV :=
  [.cn 4 2, .t 5]
theorem c68_ok : cC Try.prog Try.f68.ntmps (Try.f68.body.getD .skip) = some c68 := by kernel_rfl

def c69 : List C :=
  [.q 1 (.box (.t 0)), .q 2 (.mv (.c .nilsl)), .q 3 (.mv (.c .nilsl)), .q 5 (.mv (.c (.int .i64 0))), .blk 0 [.loop [.q 6 (.bin .lss (.t 5) (.c (.int .i64 32))), .cond (.t 6) [] [.exit 0], .blk 1 [.m 7 5, .m 4 7, .q 8 (.ldn [.int .u32, .int .i64] (.t 1)), .m 9 4, .q 10 (.call 39 [.t 8, .t 9]), .cond (.t 10) [.m 11 3, .m 12 4, .q 13 (.bsl 1 [.int .i64 0] 1 [(0, .t 12)]), .q 14 (.app 1 (.t 11) (.t 13)), .m 3 14] []], .q 15 (.bin .add (.t 5) (.c (.int .i64 1))), .m 5 15]], .m 16 3, .m 2 16, .ret]
def r69 : List RV :=
  [.t 2]
theorem c69_ok : cC Try.prog Try.f69.ntmps (Try.f69.body.getD .skip) = some c69 := by kernel_rfl

def c70 : List C :=
  [.q 2 (.mv (.c .nilptr)), .m 3 0, .q 4 (.build [.str [], .int .i64 0] [(0, 1, .t 3)]), .q 5 (.box (.t 4)), .m 2 5, .ret]
def r70 : List RV :=
  [.t 2]
theorem c70_ok : cC Try.prog Try.f70.ntmps (Try.f70.body.getD .skip) = some c70 := by kernel_rfl

def l71_0 : List (Nat × Bool × It) :=
  [(0, false, (none, some 20, .fad 1 (.t 3), [])), (1, false, (none, some 21, .ld .any (.t 20), [0])), (2, false, (none, some 22, .mv (.t 0), [])), (3, true, (none, some 23, .call 108 [.t 22], [2])), (4, false, (none, some 24, .bsl 3 [.int .i64 0, .int .i64 0, .nilsl] 1 [(0, .t 23)], [3])), (5, true, (none, some 25, .app 3 (.t 21) (.t 24), [1, 4, 3])), (6, false, (none, some 26, .fad 1 (.t 3), [0, 1, 2, 3, 4, 5])), (7, true, (none, none, .st 1 (.t 26) (.t 25), [6, 5, 5, 0, 1, 2, 3, 4, 5]))]
def d71_0 : List It := pk l71_0
def o71_0 : List (Nat × Bool) := po l71_0
theorem l71_0_ok : okDraw d71_0 o71_0 = true ∧ mkL d71_0 o71_0 = some l71_0 := ⟨by kernel_rfl, by kernel_rfl⟩

def l71_1 : List (Nat × Bool × It) :=
  [(0, false, (none, some 44, .fad 4 (.t 3), [])), (1, false, (none, some 45, .ld .any (.t 44), [0])), (2, false, (none, some 46, .mv (.t 0), [])), (4, false, (none, some 48, .mv (.t 0), [])), (3, true, (none, some 47, .call 81 [.t 46, .c (.int .i64 31)], [2])), (5, true, (none, some 49, .call 109 [.t 48], [4, 3])), (6, false, (none, some 50, .build [.int .i64 0, .nilsl] [(0, 1, .t 47), (1, 1, .t 49)], [3, 5])), (7, false, (none, some 51, .bsl 2 [.int .i64 0, .nilsl] 1 [(0, .t 50)], [6])), (8, true, (none, some 52, .app 2 (.t 45) (.t 51), [1, 7, 5])), (9, false, (none, some 53, .fad 4 (.t 3), [0, 1, 2, 3, 4, 5, 6, 7, 8])), (10, true, (none, none, .st 1 (.t 53) (.t 52), [9, 8, 8, 0, 1, 2, 3, 4, 5, 6, 7, 8]))]
def d71_1 : List It := pk l71_1
def o71_1 : List (Nat × Bool) := po l71_1
theorem l71_1_ok : okDraw d71_1 o71_1 = true ∧ mkL d71_1 o71_1 = some l71_1 := ⟨by kernel_rfl, by kernel_rfl⟩

def c71 : List C :=
  [.q 2 (.alloc [.int .i64 0, .nilsl, .int .i64 0, .int .i64 0, .nilsl]), .m 6 0, .q 7 (.call 81 [.t 6, .c (.int .i64 1099511627776)]), .q 8 (.build [.int .i64 0, .nilsl, .int .i64 0, .int .i64 0, .nilsl] [(0, 1, .t 7)]), .q 3 (.alloc [.int .i64 0, .nilsl, .int .i64 0, .int .i64 0, .nilsl]), .op none none (.st 5 (.t 3) (.t 8)), .m 9 0, .q 10 (.call 81 [.t 9, .c (.int .i64 8)]), .m 4 10, .blk 0 [.loop [.m 11 4, .q 12 (.bin .gtr (.t 11) (.c (.int .i64 0))), .m 13 12, .op (some (13, true)) (some 14) (.mv (.t 0)), .op (some (13, true)) (some 15) (.call 82 [.t 14]), .op (some (13, true)) (some 16) (.bin .eql (.t 15) (.c (.int .i64 0))), .q 17 (.pick (.t 13) (.t 16) (.c (.bool false))), .cond (.t 17) [] [.exit 0], .blk 1 [.draw d71_0], .m 18 4, .q 19 (.bin .sub (.t 18) (.c (.int .i64 1))), .m 4 19]], .m 27 0, .q 28 (.call 81 [.t 27, .c (.int .i64 64)]), .m 29 0, .q 30 (.call 81 [.t 29, .c (.int .i64 6)]), .q 31 (.build [.int .i64 0, .int .i64 0] [(0, 1, .t 28), (1, 1, .t 30)]), .q 32 (.fad 2 (.t 3)), .op none none (.st 2 (.t 32) (.t 31)), .m 33 0, .q 34 (.call 81 [.t 33, .c (.int .i64 32)]), .m 5 34, .blk 2 [.loop [.m 35 5, .q 36 (.bin .gtr (.t 35) (.c (.int .i64 0))), .m 37 36, .op (some (37, true)) (some 38) (.mv (.t 0)), .op (some (37, true)) (some 39) (.call 82 [.t 38]), .op (some (37, true)) (some 40) (.bin .eql (.t 39) (.c (.int .i64 0))), .q 41 (.pick (.t 37) (.t 40) (.c (.bool false))), .cond (.t 41) [] [.exit 2], .blk 3 [.draw d71_1], .m 42 5, .q 43 (.bin .sub (.t 42) (.c (.int .i64 1))), .m 5 43]], .m 54 0, .q 55 (.call 82 [.t 54]), .q 56 (.bin .neq (.t 55) (.c (.int .i64 0))), .cond (.t 56) [.q 57 (.build [.int .i64 0, .nilsl, .int .i64 0, .int .i64 0, .nilsl] []), .op none none (.st 5 (.t 2) (.t 57)), .ret] [], .q 58 (.ldn [.int .i64, .any, .int .i64, .int .i64, .any] (.t 3)), .op none none (.st 5 (.t 2) (.t 58)), .ret]
def r71 : List RV :=
  [.cn 2 5]
theorem c71_ok : cC Try.prog Try.f71.ntmps (Try.f71.body.getD .skip) = some c71 := by kernel_rfl

def c72 : List C :=
  [.q 2 (.mv (.c (.int .i64 0))), .m 3 0, .q 4 (.nck (.t 3)), .q 5 (.fad 0 (.t 4)), .q 6 (.ld .str (.t 5)), .q 7 (.bin .neq (.t 6) (.c (.str []))), .cond (.t 7) [.m 8 0, .q 9 (.call 110 [.t 8, .c (.int .i64 2)])] [], .m 10 0, .q 11 (.nck (.t 10)), .q 12 (.fad 1 (.t 11)), .q 13 (.ld (.int .i64) (.t 12)), .m 2 13, .ret]
def r72 : List RV :=
  [.t 2]
theorem c72_ok : cC Try.prog Try.f72.ntmps (Try.f72.body.getD .skip) = some c72 := by kernel_rfl

def c73 : List C :=
  [.q 2 (.box (.t 0)), .m 8 1, .q 9 (.fad 0 (.t 2)), .q 10 (.ld (.int .i64) (.t 9)), .q 11 (.fad 1 (.t 2)), .q 12 (.ld .any (.t 11)), .q 13 (.len false (.t 12)), .q 14 (.bsl 1 [.int .i64 0] 2 [(0, .t 10), (1, .t 13)]), .q 15 (.call 84 [.t 8, .t 14]), .q 16 (.fad 1 (.t 2)), .q 17 (.ld .any (.t 16)), .q 18 (.len false (.t 17)), .q 19 (.mv (.c (.int .i64 0))), .blk 0 [.loop [.q 20 (.bin .lss (.t 19) (.t 18)), .cond (.t 20) [] [.exit 0], .blk 1 [.q 21 (.iad 3 (.t 17) (.t 19)), .q 22 (.ldn [.int .i64, .int .i64, .any] (.t 21)), .q 5 (.alloc [.int .i64 0, .int .i64 0, .nilsl]), .op none none (.st 3 (.t 5) (.t 22)), .q 23 (.ldn [.int .i64, .int .i64, .any] (.t 5)), .m 24 1, .q 25 (.call 111 [.t 23, .t 24])], .q 26 (.bin .add (.t 19) (.c (.int .i64 1))), .m 19 26]], .m 27 1, .q 28 (.fad 2 (.t 2)), .q 29 (.fad 0 (.t 28)), .q 30 (.ld (.int .i64) (.t 29)), .q 31 (.fad 2 (.t 2)), .q 32 (.fad 1 (.t 31)), .q 33 (.ld (.int .i64) (.t 32)), .q 34 (.fad 4 (.t 2)), .q 35 (.ld .any (.t 34)), .q 36 (.len false (.t 35)), .q 37 (.bsl 1 [.int .i64 0] 3 [(0, .t 30), (1, .t 33), (2, .t 36)]), .q 38 (.call 84 [.t 27, .t 37]), .q 39 (.fad 4 (.t 2)), .q 40 (.ld .any (.t 39)), .q 41 (.len false (.t 40)), .q 42 (.mv (.c (.int .i64 0))), .blk 2 [.loop [.q 43 (.bin .lss (.t 42) (.t 41)), .cond (.t 43) [] [.exit 2], .blk 3 [.q 44 (.iad 2 (.t 40) (.t 42)), .q 45 (.ldn [.int .i64, .any] (.t 44)), .q 7 (.alloc [.int .i64 0, .nilsl]), .op none none (.st 2 (.t 7) (.t 45)), .m 46 1, .q 47 (.fad 0 (.t 7)), .q 48 (.ld (.int .i64) (.t 47)), .q 49 (.bsl 1 [.int .i64 0] 1 [(0, .t 48)]), .q 50 (.call 84 [.t 46, .t 49]), .q 51 (.fad 1 (.t 7)), .q 52 (.ld .any (.t 51)), .m 53 1, .q 54 (.call 112 [.t 52, .t 53])], .q 55 (.bin .add (.t 42) (.c (.int .i64 1))), .m 42 55]]]
def r73 : List RV :=
  []
theorem c73_ok : cC Try.prog Try.f73.ntmps (Try.f73.body.getD .skip) = some c73 := by kernel_rfl

def c74 : List C :=
  [.q 2 (.mv (.c (.str []))), .m 3 0, .q 4 (.nck (.t 3)), .q 5 (.fad 0 (.t 4)), .q 6 (.ld .any (.t 5)), .q 7 (.cvb (.t 6)), .m 2 7, .ret]
def r74 : List RV :=
  [.t 2]
theorem c74_ok : cC Try.prog Try.f74.ntmps (Try.f74.body.getD .skip) = some c74 := by kernel_rfl

def l76_0 : List (Nat × Bool × It) :=
  [(0, false, (none, some 16, .mv (.t 0), [])), (1, false, (none, some 17, .mv (.t 5), [])), (2, false, (none, some 18, .iad 1 (.t 16) (.t 17), [0, 1])), (3, false, (none, some 19, .ld (.int .i64) (.t 18), [2])), (4, false, (none, some 20, .mv (.t 1), [])), (5, false, (none, some 21, .mv (.t 5), [])), (6, false, (none, some 22, .iad 1 (.t 20) (.t 21), [4, 5])), (7, false, (none, some 23, .ld (.int .i64) (.t 22), [6])), (8, false, (none, some 24, .bin .neq (.t 19) (.t 23), [3, 7]))]
def d76_0 : List It := pk l76_0
def o76_0 : List (Nat × Bool) := po l76_0
theorem l76_0_ok : okDraw d76_0 o76_0 = true ∧ mkL d76_0 o76_0 = some l76_0 := ⟨by kernel_rfl, by kernel_rfl⟩

def c76 : List C :=
  [.q 4 (.mv (.c (.bool false))), .m 6 0, .q 7 (.len false (.t 6)), .m 8 1, .q 9 (.len false (.t 8)), .q 10 (.bin .neq (.t 7) (.t 9)), .cond (.t 10) [.q 4 (.mv (.c (.bool false))), .ret] [], .m 11 0, .q 12 (.len false (.t 11)), .q 13 (.mv (.c (.int .i64 0))), .blk 0 [.loop [.q 14 (.bin .lss (.t 13) (.t 12)), .cond (.t 14) [] [.exit 0], .blk 1 [.m 15 13, .m 5 15, .draw d76_0, .cond (.t 24) [.q 4 (.mv (.c (.bool false))), .ret] []], .q 25 (.bin .add (.t 13) (.c (.int .i64 1))), .m 13 25]], .q 4 (.mv (.c (.bool true))), .ret]
def r76 : List RV :=
  [.t 4]
theorem c76_ok : cC Try.prog Try.f76.ntmps (Try.f76.body.getD .skip) = some c76 := by kernel_rfl

def l77_0 : List (Nat × Bool × It) :=
  [(0, false, (none, some 23, .mv (.t 3), [])), (1, false, (none, some 24, .bin .gtr (.t 23) (.c (.int .i64 0)), [0])), (2, false, (none, some 25, .mv (.t 24), [1])), (3, false, (some (25, true), some 26, .mv (.t 0), [2])), (4, false, (some (25, true), some 27, .mv (.t 3), [2])), (5, false, (some (25, true), some 28, .bin .sub (.t 27) (.c (.int .i64 1)), [4, 2])), (6, false, (some (25, true), some 29, .iad 2 (.t 26) (.t 28), [3, 5, 2])), (7, false, (some (25, true), some 30, .fad 0 (.t 29), [6, 2])), (8, false, (some (25, true), some 31, .ld (.int .i64) (.t 30), [7, 2])), (9, false, (some (25, true), some 32, .fad 0 (.t 4), [2])), (10, false, (some (25, true), some 33, .ld (.int .i64) (.t 32), [9, 2])), (11, false, (some (25, true), some 34, .bin .geq (.t 31) (.t 33), [8, 10, 2])), (12, false, (none, some 35, .pick (.t 25) (.t 34) (.c (.bool false)), [2, 11])), (13, false, (none, some 22, .mv (.t 35), [12, 2]))]
def d77_0 : List It := pk l77_0
def o77_0 : List (Nat × Bool) := po l77_0
theorem l77_0_ok : okDraw d77_0 o77_0 = true ∧ mkL d77_0 o77_0 = some l77_0 := ⟨by kernel_rfl, by kernel_rfl⟩

def c77 : List C :=
  [.q 2 (.mv (.c (.int .i64 0))), .m 6 0, .q 7 (.len false (.t 6)), .q 8 (.mv (.c (.int .i64 0))), .blk 0 [.loop [.q 9 (.bin .lss (.t 8) (.t 7)), .cond (.t 9) [] [.exit 0], .blk 1 [.m 10 8, .q 11 (.iad 2 (.t 6) (.t 8)), .q 12 (.ldn [.int .i64, .any] (.t 11)), .q 4 (.alloc [.int .i64 0, .nilsl]), .m 3 10, .op none none (.st 2 (.t 4) (.t 12)), .blk 2 [.q 14 (.fad 0 (.t 4)), .q 15 (.ld (.int .i64) (.t 14)), .q 16 (.bin .lss (.t 15) (.c (.int .i64 0))), .m 17 16, .op (some (17, false)) (some 18) (.fad 0 (.t 4)), .op (some (17, false)) (some 19) (.ld (.int .i64) (.t 18)), .op (some (17, false)) (some 20) (.bin .geq (.t 19) (.c (.int .i64 32))), .q 21 (.pick (.t 17) (.c (.bool true)) (.t 20)), .m 13 21, .cond (.t 13) [.q 2 (.mv (.c (.int .i64 13))), .ret] [.draw d77_0, .cond (.t 22) [.q 2 (.mv (.c (.int .i64 12))), .ret] []]], .q 36 (.fad 1 (.t 4)), .q 37 (.ld .any (.t 36)), .q 38 (.call 54 [.t 37]), .m 5 38, .m 39 5, .q 40 (.bin .neq (.t 39) (.c (.int .i64 0))), .cond (.t 40) [.m 41 5, .m 2 41, .ret] []], .q 42 (.bin .add (.t 8) (.c (.int .i64 1))), .m 8 42]], .q 2 (.mv (.c (.int .i64 0))), .ret]
def r77 : List RV :=
  [.t 2]
theorem c77_ok : cC Try.prog Try.f77.ntmps (Try.f77.body.getD .skip) = some c77 := by kernel_rfl

def l78_0 : List (Nat × Bool × It) :=
  [(0, false, (none, some 3, .mv (.t 0), [])), (1, false, (none, some 4, .bin .shr (.t 3) (.c (.int .u64 24)), [0])), (2, false, (none, some 5, .ist (.c (.str big0)) (.t 4), [1])), (3, false, (none, some 6, .mv (.t 0), [])), (4, false, (none, some 7, .bin .shr (.t 6) (.c (.int .u64 16)), [3])), (5, false, (none, some 8, .bin .and (.t 7) (.c (.int .u32 255)), [4])), (6, false, (none, some 9, .ist (.c (.str big0)) (.t 8), [5])), (7, false, (none, some 10, .bin .add (.t 5)
  (.t 9), [2, 6])), (8, false, (none, some 11, .mv (.t 0), [])), (9, false, (none, some 12, .bin .shr (.t 11) (.c (.int .u64 8)), [8])), (10, false, (none, some 13, .bin .and (.t 12) (.c (.int .u32 255)), [9])), (11, false, (none, some 14, .ist (.c (.str big0)) (.t 13), [10])), (12, false, (none, some 15, .bin .add (.t 10) (.t 14), [7, 11])), (13, false, (none, some 16, .mv (.t 0), [])), (14, false, (none, some 17, .bin .and (.t 16) (.c (.int .u32 255)), [13])), (15, false, (none, some 18, .ist (.c (.str big1)) (.t 17), [14])), (16, false, (none, some 19, .bin .add (.t 15) (.t 18), [12, 15])), (17, false, (none, some 20, .cvi .i64 (.t 19), [16])), (18, false, (none, some 2, .mv (.t 20), [17, 0, 1, 2, 3, 4, 5, 6, 7, 8, 9, 10, 11, 12, 13, 14, 15, 16, 17]))]
def d78_0 : List It := pk l78_0
def o78_0 : List (Nat × Bool) := po l78_0
theorem l78_0_ok : okDraw d78_0 o78_0 = true ∧ mkL d78_0 o78_0 = some l78_0 := ⟨by kernel_rfl, by kernel_rfl⟩

def c78 : List C :=
  [.q 2 (.mv (.c (.int .i64 0))), .draw d78_0, .ret]
def r78 : List RV :=
  [.t 2]
theorem c78_ok : cC Try.prog Try.f78.ntmps (Try.f78.body.getD .skip) = some c78 := by kernel_rfl

def c81 : List C :=
  [.q 4 (.mv (.c (.int .i64 0))), .m 6 0, .q 7 (.call 117 [.t 6]), .m 5 7, .m 8 5, .m 9 1, .q 10 (.mx [.t 9, .c (.int .i64 0)]), .q 11 (.cvi .u64 (.t 10)), .q 12 (.bin .gtr (.t 8) (.t 11)), .cond (.t 12) [.m 13 0, .q 14 (.call 110 [.t 13, .c (.int .i64 3)]), .q 4 (.mv (.c (.int .i64 0))), .ret] [], .m 15 5, .q 16 (.cvi .i64 (.t 15)), .m 4 16, .ret]
def r81 : List RV :=
  [.t 4]
theorem c81_ok : cC Try.prog Try.f81.ntmps (Try.f81.body.getD .skip) = some c81 := by kernel_rfl

def c82 : List C :=
  [.q 2 (.mv (.c (.int .i64 0))), .m 3 0, .q 4 (.nck (.t 3)), .q 5 (.fad 1 (.t 4)), .q 6 (.ld (.int .i64) (.t 5)), .m 2 6, .ret]
def r82 : List RV :=
  [.t 2]
theorem c82_ok : cC Try.prog Try.f82.ntmps (Try.f82.body.getD .skip) = some c82 := by kernel_rfl

def c84 : List C :=
  [.q 4 (.mv (.c .nilptr)), .m 7 1, .q 8 (.len false (.t 7)), .q 9 (.mv (.c (.int .i64 0))), .blk 0 [.loop [.q 10 (.bin .lss (.t 9) (.t 8)), .cond (.t 10) [] [.exit 0], .blk 1 [.q 11 (.iad 1 (.t 7) (.t 9)), .q 12 (.ld (.int .i64) (.t 11)), .m 6 12, .m 13 0, .m 14 6, .q 15 (.mx [.t 14, .c (.int .i64 0)]), .q 16 (.cvi .u64 (.t 15)), .q 17 (.bsl 1 [.int .u64 0] 1 [(0, .t 16)]), .q 18 (.call 85 [.t 13, .t 17])], .q 19 (.bin .add (.t 9) (.c (.int .i64 1))), .m 9 19]], .m 20 0, .m 4 20, .ret]
def r84 : List RV :=
  [.t 4]
theorem c84_ok : cC Try.prog Try.f84.ntmps (Try.f84.body.getD .skip) = some c84 := by kernel_rfl

def c85 : List C :=
  [.q 4 (.mv (.c .nilptr)), .m 7 1, .q 8 (.len false (.t 7)), .q 9 (.mv (.c (.int .i64 0))), .blk 0 [.loop [.q 10 (.bin .lss (.t 9) (.t 8)), .cond (.t 10) [] [.exit 0], .blk 1 [.q 11 (.iad 1 (.t 7) (.t 9)), .q 12 (.ld (.int .u64) (.t 11)), .m 6 12, .blk 2 [.loop [.m 13 6, .q 14 (.bin .gtr (.t 13) (.c (.int .u64 127))), .cond (.t 14) [] [.exit 2], .blk 3 [.m 15 0, .m 16 0, .q 17 (.nck (.t 16)), .q 18 (.fad 0 (.t 17)), .q 19 (.ld .any (.t 18)), .m 20 6, .q 21 (.cvi .u8 (.t 20)), .q 22 (.bin .or (.t 21) (.c (.int .u8 128))), .q 23 (.bsl 1 [.int .u8 0] 1 [(0, .t 22)]), .q 24 (.app 1 (.t 19) (.t 23)), .q 25 (.nck (.t 15)), .q 26 (.fad 0 (.t 25)), .op none none (.st 1 (.t 26) (.t 24)), .m 27 6, .q 28 (.bin .shr (.t 27) (.c (.int .u64 7))), .m 6 28]]], .m 29 0, .m 30 0, .q 31 (.nck (.t 30)), .q 32 (.fad 0 (.t 31)), .q 33 (.ld .any (.t 32)), .m 34 6, .q 35 (.cvi .u8 (.t 34)), .q 36 (.bsl 1 [.int .u8 0] 1 [(0, .t 35)]), .q 37 (.app 1 (.t 33) (.t 36)), .q 38 (.nck (.t 29)), .q 39 (.fad 0 (.t 38)), .op none none (.st 1 (.t 39) (.t 37))], .q 40 (.bin .add (.t 9) (.c (.int .i64 1))), .m 9 40]], .m 41 0, .m 4 41, .ret]
def r85 : List RV :=
  [.t 4]
theorem c85_ok : cC Try.prog Try.f85.ntmps (Try.f85.body.getD .skip) = some c85 := by kernel_rfl

def c87 : List C :=
  [.q 4 (.mv (.c .nilptr)), .m 7 1, .q 8 (.len false (.t 7)), .q 9 (.mv (.c (.int .i64 0))), .blk 0 [.loop [.q 10 (.bin .lss (.t 9) (.t 8)), .cond (.t 10) [] [.exit 0], .blk 1 [.q 11 (.iad 1 (.t 7) (.t 9)), .q 12 (.ld (.int .i64) (.t 11)), .m 6 12, .m 13 0, .m 14 6, .q 15 (.cvi .u64 (.t 14)), .q 16 (.bin .shl (.t 15) (.c (.int .u64 1))), .m 17 6, .q 18 (.bin .shr (.t 17) (.c (.int .u64 63))), .q 19 (.cvi .u64 (.t 18)), .q 20 (.bin .xor (.t 16) (.t 19)), .q 21 (.bsl 1 [.int .u64 0] 1 [(0, .t 20)]), .q 22 (.call 85 [.t 13, .t 21])], .q 23 (.bin .add (.t 9) (.c (.int .i64 1))), .m 9 23]], .m 24 0, .m 4 24, .ret]
def r87 : List RV :=
  [.t 4]
theorem c87_ok : cC Try.prog Try.f87.ntmps (Try.f87.body.getD .skip) = some c87 := by kernel_rfl

def c99 : List C :=
  [.q 2 (.mv (.c (.str []))), .m 3 0, .q 4 (.cvi .u8 (.t 3)), .m 5 0, .q 6 (.bin .shr (.t 5) (.c (.int .u64 8))), .q 7 (.cvi .u8 (.t 6)), .m 8 0, .q 9 (.bin .shr (.t 8) (.c (.int .u64 16))), .q 10 (.cvi .u8 (.t 9)), .m 11 0, .q 12 (.bin .shr (.t 11) (.c (.int .u64 24))), .q 13 (.cvi .u8 (.t 12)), .q 14 (.bsl 1 [.int .u8 0] 4 [(0, .t 4), (1, .t 7), (2, .t 10), (3, .t 13)]), .q 15 (.cvb (.t 14)), .m 2 15, .ret]
def r99 : List RV :=
  [.t 2]
theorem c99_ok : cC Try.prog Try.f99.ntmps (Try.f99.body.getD .skip) = some c99 := by kernel_rfl

def c100 : List C :=
  [.q 4 (.mv (.c (.int .u32 0))), .m 8 0, .q 9 (.un .xor (.t 8)), .m 0 9, .m 10 1, .q 11 (.len false (.t 10)), .q 12 (.mv (.c (.int .i64 0))), .blk 0 [.loop [.q 13 (.bin .lss (.t 12) (.t 11)), .cond (.t 13) [] [.exit 0], .blk 1 [.q 14 (.iad 1 (.t 10) (.t 12)), .q 15 (.ld .str (.t 14)), .m 6 15, .m 16 6, .q 17 (.len true (.t 16)), .q 18 (.mv (.c (.int .i64 0))), .blk 2 [.loop [.q 19 (.bin .lss (.t 18) (.t 17)), .cond (.t 19) [] [.exit 2], .blk 3 [.m 20 18, .m 7 20, .m 21 0, .q 22 (.bin .shr (.t 21) (.c (.int .u64 8))), .m 23 0, .m 24 6, .m 25 7, .q 26 (.ist (.t 24) (.t 25)), .q 27 (.cvi .u32 (.t 26)), .q 28 (.bin .xor (.t 23) (.t 27)), .q 29 (.bin .and (.t 28) (.c (.int .u32 255))), .q 30 (.call 126 [.t 29]), .q 31 (.bin .xor (.t 22) (.t 30)), .m 0 31], .q 32 (.bin .add (.t 18) (.c (.int .i64 1))), .m 18 32]]], .q 33 (.bin .add (.t 12) (.c (.int .i64 1))), .m 12 33]], .m 34 0, .q 35 (.un .xor (.t 34)), .m 4 35, .ret]
def r100 : List RV :=
  [.t 4]
theorem c100_ok : cC Try.prog Try.f100.ntmps (Try.f100.body.getD .skip) = some c100 := by kernel_rfl

def c101 : List C :=
  [.q 1 (.box (.t 0)), .q 2 (.mv (.c (.int .i64 0))), .blk 0 [.q 4 (.fad 0 (.t 1)), .q 5 (.ld (.int .i64) (.t 4)), .q 6 (.bin .lss (.t 5) (.c (.int .i64 1))), .m 7 6, .op (some (7, false)) (some 8) (.fad 0 (.t 1)), .op (some (7, false)) (some 9) (.ld (.int .i64) (.t 8)), .op (some (7, false)) (some 10) (.bin .gtr (.t 9) (.c (.int .i64 4))), .q 11 (.pick (.t 7) (.c (.bool true)) (.t 10)), .m 3 11, .cond (.t 3) [.q 2 (.mv (.c (.int .i64 7))), .ret] [.q 13 (.fad 1 (.t 1)), .q 14 (.ld (.int .i64) (.t 13)), .q 15 (.bin .lss (.t 14) (.c (.int .i64 0))), .m 16 15, .op (some (16, false)) (some 17) (.fad 1 (.t 1)), .op (some (16, false)) (some 18) (.ld (.int .i64) (.t 17)), .op (some (16, false)) (some 19) (.bin .geq (.t 18) (.c (.int .i64 1099511627776))), .q 20 (.pick (.t 16) (.c (.bool true)) (.t 19)), .m 21 20, .op (some (21, false)) (some 22) (.fad 0 (.t 1)), .op (some (21, false)) (some 23) (.ld (.int .i64) (.t 22)), .op (some (21, false)) (some 24) (.bin .eql (.t 23) (.c (.int .i64 3))), .op (some (21, false)) (some 25) (.fad 1 (.t 1)), .op (some (21, false)) (some 26) (.ld (.int .i64) (.t 25)), .op (some (21, false)) (some 27) (.bin .eql (.t 26) (.c (.int .i64 0))), .op (some (21, false)) (some 28) (.eqb true (.t 24) (.t 27)), .q 29 (.pick (.t 21) (.c (.bool true)) (.t 28)), .m 12 29, .cond (.t 12) [.q 2 (.mv (.c (.int .i64 4))), .ret] [.q 31 (.fad 0 (.t 1)), .q 32 (.ld (.int .i64) (.t 31)), .q 33 (.bin .eql (.t 32) (.c (.int .i64 4))), .m 34 33, .op (some (34, true)) (some 35) (.fad 2 (.t 1)), .op (some (34, true)) (some 36) (.ld (.int .i64) (.t 35)), .op (some (34, true)) (some 37) (.bin .neq (.t 36) (.c (.int .i64 0))), .op (some (34, true)) (some 38) (.mv (.t 37)), .op (some (38, false)) (some 39) (.fad 3 (.t 1)), .op (some (38, false)) (some 40) (.ld (.int .i64) (.t 39)), .op (some (38, false)) (some 41) (.bin .neq (.t 40) (.c (.int .i64 0))), .op (some (34, true)) (some 42) (.pick (.t 38) (.c (.bool true)) (.t 41)), .q 43 (.pick (.t 34) (.t 42) (.c (.bool
  false))), .m 30 43, .cond (.t 30) [] [.q 44 (.fad 0 (.t 1)), .q 45 (.ld (.int .i64) (.t 44)), .q 46 (.bin .eql (.t 45) (.c (.int .i64 2))), .m 47 46, .op (some (47, true)) (some 48) (.fad 2 (.t 1)), .op (some (47, true)) (some 49) (.ld (.int .i64) (.t 48)), .op (some (47, true)) (some 50) (.bin .lss (.t 49) (.c (.int .i64 1))), .op (some (47, true)) (some 51) (.mv (.t 50)), .op (some (51, false)) (some 52) (.fad 2 (.t 1)), .op (some (51, false)) (some 53) (.ld (.int .i64) (.t 52)), .op (some (51, false)) (some 54) (.bin .geq (.t 53) (.c (.int .i64 1099511627776))), .op (some (47, true)) (some 55) (.pick (.t 51) (.c (.bool true)) (.t 54)), .op (some (47, true)) (some 56) (.mv (.t 55)), .op (some (56, false)) (some 57) (.fad 3 (.t 1)), .op (some (56, false)) (some 58) (.ld (.int .i64) (.t 57)), .op (some (56, false)) (some 59) (.bin .neq (.t 58) (.c (.int .i64 0))), .op (some (47, true)) (some 60) (.pick (.t 56) (.c (.bool true)) (.t 59)), .q 61 (.pick (.t 47) (.t 60) (.c (.bool false))), .m 30 61], .cond (.t 30) [.q 2 (.mv (.c (.int .i64 4))), .ret] [.q 63 (.fad 0 (.t 1)), .q 64 (.ld (.int .i64) (.t 63)), .q 65 (.bin .eql (.t 64) (.c (.int .i64 1))), .m 66 65, .op (some (66, true)) (some 67) (.fad 2 (.t 1)), .op (some (66, true)) (some 68) (.ld (.int .i64) (.t 67)), .op (some (66, true)) (some 69) (.call 127 [.t 68]), .op (some (66, true)) (some 70) (.mv (.t 69)), .op (some (70, false)) (some 71) (.fad 3 (.t 1)), .op (some (70, false)) (some 72) (.ld (.int .i64) (.t 71)), .op (some (70, false)) (some 73) (.call 127 [.t 72]), .op (some (66, true)) (some 74) (.pick (.t 70) (.c (.bool true)) (.t 73)), .q 75 (.pick (.t 66) (.t 74) (.c (.bool false))), .m 62 75, .cond (.t 62) [] [.q 76 (.fad 0 (.t 1)), .q 77 (.ld (.int .i64) (.t 76)), .q 78 (.bin .eql (.t 77) (.c (.int .i64 3))), .m 79 78, .op (some (79, true)) (some 80) (.fad 2 (.t 1)), .op (some (79, true)) (some 81) (.ld (.int .i64) (.t 80)), .op (some (79, true)) (some 82) (.bin .lss (.t 81) (.c (.int .i64 0))), .op
  (some (79, true)) (some 83) (.mv (.t 82)), .op (some (83, false)) (some 84) (.fad 2 (.t 1)), .op (some (83, false)) (some 85) (.ld (.int .i64) (.t 84)), .op (some (83, false)) (some 86) (.bin .gtr (.t 85) (.c (.int .i64 255))), .op (some (79, true)) (some 87) (.pick (.t 83) (.c (.bool true)) (.t 86)), .op (some (79, true)) (some 88) (.mv (.t 87)), .op (some (88, false)) (some 89) (.fad 3 (.t 1)), .op (some (88, false)) (some 90) (.ld (.int .i64) (.t 89)), .op (some (88, false)) (some 91) (.call 127 [.t 90]), .op (some (79, true)) (some 92) (.pick (.t 88) (.c (.bool true)) (.t 91)), .q 93 (.pick (.t 79) (.t 92) (.c (.bool false))), .m 62 93], .cond (.t 62) [.q 2 (.mv (.c (.int .i64 4))), .ret] []]]]], .q 2 (.mv (.c (.int .i64 0))), .ret]
def r101 : List RV :=
  [.t 2]
theorem c101_ok : cC Try.prog Try.f101.ntmps (Try.f101.body.getD .skip) = some c101 := by kernel_rfl

def c107 : List C :=
  [.q 1 (.box (.t 0)), .q 2 (.mv (.c .nilfn)), .q 3 (.mkfn 131 [] [.t 1]), .m 2 3, .ret]
def r107 : List RV :=
  [.t 2]
theorem c107_ok : cC Try.prog Try.f107.ntmps (Try.f107.body.getD .skip) = some c107 := by kernel_rfl

def l108_0 : List (Nat × Bool × It) :=
  [(0, false, (none, some 21, .fad 2 (.t 3), [])), (1, false, (none, some 22, .ld .any (.t 21), [0])), (2, false, (none, some 23, .mv (.t 0), [])), (3, true, (none, some 24, .call 81 [.t 23, .c (.int .i64 31)], [2])), (4, false, (none, some 25, .bsl 1 [.int .i64 0] 1 [(0, .t 24)], [3])), (5, true, (none, some 26, .app 1 (.t 22) (.t 25), [1, 4, 3])), (6, false, (none, some 27, .fad 2 (.t 3), [0, 1, 2, 3, 4, 5])), (7, true, (none, none, .st 1 (.t 27) (.t 26), [6, 5, 5, 0, 1, 2, 3, 4, 5]))]
def d108_0 : List It := pk l108_0
def o108_0 : List (Nat × Bool) := po l108_0
theorem l108_0_ok : okDraw d108_0 o108_0 = true ∧ mkL d108_0 o108_0 = some l108_0 := ⟨by kernel_rfl, by kernel_rfl⟩

def c108 : List C :=
  [.q 2 (.alloc [.int .i64 0, .int .i64 0, .nilsl]), .m 5 0, .q 6 (.call 81 [.t 5, .c (.int .i64 3)]), .m 7 0, .q 8 (.call 81 [.t 7, .c (.int .i64 31)]), .q 9 (.build [.int .i64 0, .int .i64 0, .nilsl] [(0, 1, .t 6), (1, 1, .t 8)]), .q 3 (.alloc [.int .i64 0, .int .i64 0, .nilsl]), .op none none (.st 3 (.t 3) (.t 9)), .m 10 0, .q 11 (.call 81 [.t 10, .c (.int .i64 32)]), .m 4 11, .blk 0 [.loop [.m 12 4, .q 13 (.bin .gtr (.t 12) (.c (.int .i64 0))), .m 14 13, .op (some (14, true)) (some 15) (.mv (.t 0)), .op (some (14, true)) (some 16) (.call 82 [.t 15]), .op (some (14, true)) (some 17) (.bin .eql (.t 16) (.c (.int .i64 0))), .q 18 (.pick (.t 14) (.t 17) (.c (.bool false))), .cond (.t 18) [] [.exit 0], .blk 1 [.draw d108_0], .m 19 4, .q 20 (.bin .sub (.t 19) (.c (.int .i64 1))), .m 4 20]], .m 28 0, .q 29 (.call 82 [.t 28]), .q 30 (.bin .neq (.t 29) (.c (.int .i64 0))), .cond (.t 30) [.q 31 (.build [.int .i64 0, .int .i64 0, .nilsl] []), .op none none (.st 3 (.t 2) (.t 31)), .ret] [], .q 32 (.ldn [.int .i64, .int .i64, .any] (.t 3)), .op none none (.st 3 (.t 2) (.t 32)), .ret]
def r108 : List RV :=
  [.cn 2 3]
theorem c108_ok : cC Try.prog Try.f108.ntmps (Try.f108.body.getD .skip) = some c108 := by kernel_rfl

def c109 : List C :=
  [.q 2 (.mv (.c .nilsl)), .q 3 (.mv (.c .nilsl)), .m 6 0, .q 7 (.call 81 [.t 6, .c (.int .i64 8)]), .m 4 7, .blk 0 [.loop [.m 8 4, .q 9 (.bin .gtr (.t 8) (.c (.int .i64 0))), .m 10 9, .op (some (10, true)) (some 11) (.mv (.t 0)), .op (some (10, true)) (some 12) (.call 82 [.t 11]), .op (some (10, true)) (some 13) (.bin .eql (.t 12) (.c (.int .i64 0))), .q 14 (.pick (.t 10) (.t 13) (.c (.bool false))), .cond (.t 14) [] [.exit 0], .blk 1 [.m 17 0, .q 18 (.call 81 [.t 17, .c (.int .i64 4)]), .m 19 0, .q 20 (.call 81 [.t 19, .c (.int .i64 1099511627776)]), .m 21 0, .q 22 (.call 118 [.t 21]), .m 23 0, .q 24 (.call 118 [.t 23]), .q 25 (.build [.int .i64 0, .int .i64 0, .int .i64 0, .int .i64 0] [(0, 1, .t 18), (1, 1, .t 20), (2, 1, .t 22), (3, 1, .t 24)]), .q 5 (.alloc [.int .i64 0, .int .i64 0, .int .i64 0, .int .i64 0]), .op none none (.st 4 (.t 5) (.t 25)), .m 26 0, .q 27 (.ldn [.int .i64, .int .i64, .int .i64, .int .i64] (.t 5)), .q 28 (.call 101 [.t 27]), .q 29 (.call 110 [.t 26, .t 28]), .m 30 3, .q 31 (.ldn [.int .i64, .int .i64, .int .i64, .int .i64] (.t 5)), .q 32 (.bsl 4 [.int .i64 0, .int .i64 0, .int .i64 0, .int .i64 0] 1 [(0, .t 31)]), .q 33 (.app 4 (.t 30) (.t 32)), .m 3 33], .m 15 4, .q 16 (.bin .sub (.t 15) (.c (.int .i64 1))), .m 4 16]], .m 34 0, .q 35 (.call 82 [.t 34]), .q 36 (.bin .neq (.t 35) (.c (.int .i64 0))), .cond (.t 36) [.q 2 (.mv (.c .nilsl)), .ret] [], .m 37 3, .m 2 37, .ret]
def r109 : List RV :=
  [.t 2]
theorem c109_ok : cC Try.prog Try.f109.ntmps (Try.f109.body.getD .skip) = some c109 := by kernel_rfl

def c110 : List C :=
  [.m 4 0, .q 5 (.nck (.t 4)), .q 6 (.fad 1 (.t 5)), .q 7 (.ld (.int .i64) (.t 6)), .q 8 (.bin .eql (.t 7) (.c (.int .i64 0))), .m 9 8, .op (some (9, true)) (some 10) (.mv (.t 1)), .op (some (9, true)) (some 11) (.bin .neq (.t 10) (.c (.int .i64 0))), .q 12 (.pick (.t 9) (.t 11) (.c (.bool false))), .cond (.t 12) [.m 13 0, .m 14 0, .m 15 1, .q 16 (.nck (.t 13)), .q 17 (.fad 1 (.t 16)), .op none none (.st 1 (.t 17) (.t 15)), .q 18 (.nck (.t 14)), .q 19 (.fad 0 (.t 18)), .op none none (.st 1 (.t 19) (.c (.str [])))] []]
def r110 : List RV :=
  []
theorem c110_ok : cC Try.prog Try.f110.ntmps (Try.f110.body.getD .skip) = some c110 := by kernel_rfl

def l111_0 : List (Nat × Bool × It) :=
  [(0, false, (none, some 4, .mv (.t 1), [])), (1, false, (none, some 5, .fad 0 (.t 2), [])), (2, false, (none, some 6, .ld (.int .i64) (.t 5), [1])), (3, false, (none, some 7, .fad 1 (.t 2), [])), (4, false, (none, some 8, .ld (.int .i64) (.t 7), [3])), (5, false, (none, some 9, .fad 2 (.t 2), [])), (6, false, (none, some 10, .ld .any (.t 9), [5])), (7, false, (none, some 11, .len false (.t 10), [6])), (8, false, (none, some 12, .bsl 1 [.int .i64 0] 3 [(0, .t 6), (1, .t 8), (2, .t 11)], [2, 4, 7])), (10, false, (none, some 14, .fad 2 (.t 2), [])), (11, false, (none, some 15, .ld .any (.t 14), [10])), (9, true, (none, some 13, .call 84 [.t 4, .t 12], [0, 8])), (12, true, (none, some 16, .call 84 [.t 13, .t 15], [9, 11, 9]))]
def d111_0 : List It := pk l111_0
def o111_0 : List (Nat × Bool) := po l111_0
theorem l111_0_ok : okDraw d111_0 o111_0 = true ∧ mkL d111_0 o111_0 = some l111_0 := ⟨by kernel_rfl, by kernel_rfl⟩

def c111 : List C :=
  [.q 2 (.box (.t 0)), .draw d111_0]
def r111 : List RV :=
  []
theorem c111_ok : cC Try.prog Try.f111.ntmps (Try.f111.body.getD .skip) = some c111 := by kernel_rfl

def l112_0 : List (Nat × Bool × It) :=
  [(0, false, (none, some 17, .mv (.t 1), [])), (1, false, (none, some 18, .fad 0 (.t 5), [])), (2, false, (none, some 19, .ld (.int .i64) (.t 18), [1])), (3, false, (none, some 20, .bsl 1 [.int .i64 0] 1 [(0, .t 19)], [2])), (5, false, (none, some 22, .fad 1 (.t 5), [])), (6, false, (none, some 23, .ld (.int .i64) (.t 22), [5])), (7, false, (none, some 24, .cvi .u64 (.t 23), [6])), (8, false, (none, some 25, .bsl 1 [.int .u64 0] 1 [(0, .t 24)], [7])), (10, false, (none, some 27, .fad 2 (.t 5), [])), (11, false, (none, some 28, .ld (.int .i64) (.t 27), [10])), (12, false, (none, some 29, .fad 3 (.t 5), [])), (13, false, (none, some 30, .ld (.int .i64) (.t 29), [12])), (14, false, (none, some 31, .bsl 1 [.int .i64 0] 2 [(0, .t 28), (1, .t 30)], [11, 13])), (4, true, (none, some 21, .call 84 [.t 17, .t 20], [0, 3])), (9, true, (none, some 26, .call 85 [.t 21, .t 25], [4, 8, 4])), (15, true, (none, some 32, .call 87 [.t 26, .t 31], [9, 14, 9]))]
def d112_0 : List It := pk l112_0
def o112_0 : List (Nat × Bool) := po l112_0
theorem l112_0_ok : okDraw d112_0 o112_0 = true ∧ mkL d112_0 o112_0 = some l112_0 := ⟨by kernel_rfl, by kernel_rfl⟩

def c112 : List C :=
  [.m 6 1, .m 7 0, .q 8 (.len false (.t 7)), .q 9 (.bsl 1 [.int .i64 0] 1 [(0, .t 8)]), .q 10 (.call 84 [.t 6, .t 9]), .m 11 0, .q 12 (.len false (.t 11)), .q 13 (.mv (.c (.int .i64 0))), .blk 0 [.loop [.q 14 (.bin .lss (.t 13) (.t 12)), .cond (.t 14) [] [.exit 0], .blk 1 [.q 15 (.iad 4 (.t 11) (.t 13)), .q 16 (.ldn [.int .i64, .int .i64, .int .i64, .int .i64] (.t 15)), .q 5 (.alloc [.int .i64 0, .int .i64 0, .int .i64 0, .int .i64 0]), .op none none (.st 4 (.t 5) (.t 16)), .draw d112_0], .q 33 (.bin .add (.t 13) (.c (.int .i64 1))), .m 13 33]]]
def r112 : List RV :=
  []
theorem c112_ok : cC Try.prog Try.f112.ntmps (Try.f112.body.getD .skip) = some c112 := by kernel_rfl

def c117 : List C :=
  [.q 2 (.mv (.c (.int .u64 0))), .q 3 (.mv (.c (.int .u64 0))), .q 4 (.mv (.c (.int .i64 0))), .blk 0 [.loop [.blk 1 [.m 9 0, .q 10 (.call 133 [.t 9, .c (.int .i64 1)]), .m 5 10, .m 11 0, .q 12 (.nck (.t 11)), .q 13 (.fad 1 (.t 12)), .q 14 (.ld (.int .i64) (.t 13)), .q 15 (.bin .neq (.t 14) (.c (.int .i64 0))), .cond (.t 15) [.q 2 (.mv (.c (.int .u64 0))), .ret] [], .m 16 5, .q 17 (.ist (.t 16) (.c (.int .i64 0))), .m 6 17, .m 18 6, .q 19 (.bin .eql (.t 18) (.c (.int .u8 0))), .m 20 19, .op (some (20, true)) (some 21) (.mv (.t 4)), .op (some (20, true)) (some 22) (.bin .gtr (.t 21) (.c (.int .i64 0))), .q 23 (.pick (.t 20) (.t 22) (.c (.bool false))), .m 24 23, .op (some (24, false)) (some 25) (.mv (.t 4)), .op (some (24, false)) (some 26) (.bin .eql (.t 25) (.c (.int .i64 63))), .op (some (24, false)) (some 27) (.mv (.t 26)), .op (some (27, true)) (some 28) (.mv (.t 6)), .op (some (27, true)) (some 29) (.bin .gtr (.t 28) (.c (.int .u8 1))), .op (some (24, false)) (some 30) (.pick (.t 27) (.t 29) (.c (.bool false))), .q 31 (.pick (.t 24) (.c (.bool true)) (.t 30)), .cond (.t 31) [.m 32 0, .q 33 (.call 110 [.t 32, .c (.int .i64 2)]), .q 2 (.mv (.c (.int .u64 0))), .ret] [], .m 34 3, .m 35 6, .q 36 (.bin .and (.t 35) (.c (.int .u8 127))), .q 37 (.cvi .u64 (.t 36)), .m 38 4, .q 39 (.bin .shl (.t 37) (.t 38)), .q 40 (.bin .or (.t 34) (.t 39)), .m 3 40, .m 41 6, .q 42 (.bin .lss (.t 41) (.c (.int .u8 128))), .cond (.t 42) [.m 43 3, .m 2 43, .ret] []], .m 7 4, .q 8 (.bin .add (.t 7) (.c (.int .i64 7))), .m 4 8]]]
def r117 : List RV :=
  [.t 2]
theorem c117_ok : cC Try.prog Try.f117.ntmps (Try.f117.body.getD .skip) = some c117 := by kernel_rfl

def c118 : List C :=
  [.q 2 (.mv (.c (.int .i64 0))), .m 4 0, .q 5 (.call 117 [.t 4]), .m 3 5, .m 6 3, .q 7 (.bin .shr (.t 6) (.c (.int .u64 1))), .q 8 (.cvi .i64 (.t 7)), .m 9 3, .q 10 (.bin .and (.t 9) (.c (.int .u64 1))), .q 11 (.cvi .i64 (.t 10)), .q 12 (.un .neg (.t 11)), .q 13 (.bin .xor (.t 8) (.t 12)), .m 2 13, .ret]
def r118 : List RV :=
  [.t 2]
theorem c118_ok : cC Try.prog Try.f118.ntmps (Try.f118.body.getD .skip) = some c118 := by kernel_rfl

def c126 : List C :=
  [.q 2 (.mv (.c (.int .u32 0))), .q 3 (.mv (.c (.int .i64 0))), .blk 0 [.loop [.q 4 (.bin .lss (.t 3) (.c (.int .i64 8))), .cond (.t 4) [] [.exit 0], .blk 1 [.m 5 0, .q 6 (.bin .and (.t 5) (.c (.int .u32 1))), .q 7 (.bin .eql (.t 6) (.c (.int .u32 1))), .cond (.t 7) [.m 8 0, .q 9 (.bin .shr (.t 8) (.c (.int .u64 1))), .q 10 (.bin .xor (.t 9) (.c (.int .u32 3988292384))), .m 0 10] [.m 11 0, .q 12 (.bin .shr (.t 11) (.c (.int .u64 1))), .m 0 12]], .q 13 (.bin .add (.t 3) (.c (.int .i64 1))), .m 3 13]], .m 14 0, .m 2 14, .ret]
def r126 : List RV :=
  [.t 2]
theorem c126_ok : cC Try.prog Try.f126.ntmps (Try.f126.body.getD .skip) = some c126 := by kernel_rfl

def c127 : List C :=
  [.q 2 (.mv (.c (.bool false))), .m 3 0, .q 4 (.bin .lss (.t 3) (.c (.int .i64 (-1000)))), .m 5 4, .op (some (5, false)) (some 6) (.mv (.t 0)), .op (some (5, false)) (some 7) (.bin .gtr (.t 6) (.c (.int .i64 1000))), .q 8 (.pick (.t 5) (.c (.bool true)) (.t 7)), .m 2 8, .ret]
def r127 : List RV :=
  [.t 2]
theorem c127_ok : cC Try.prog Try.f127.ntmps (Try.f127.body.getD .skip) = some c127 := by kernel_rfl

def c133 : List C :=
  [.q 4 (.mv (.c (.str []))), .blk 0 [.m 7 0, .q 8 (.nck (.t 7)), .q 9 (.fad 1 (.t 8)), .q 10 (.ld (.int .i64) (.t 9)), .q 11 (.bin .neq (.t 10) (.c (.int .i64 0))), .m 12 11, .op (some (12, false)) (some 13) (.mv (.t 1)), .op (some (12, false)) (some 14) (.bin .leq (.t 13) (.c (.int .i64 0))), .q 15 (.pick (.t 12) (.c (.bool true)) (.t 14)), .m 6 15, .cond (.t 6) [.q 4 (.mv (.c (.str []))), .ret] [.m 17 1, .m 18 0, .q 19 (.nck (.t 18)), .q 20 (.fad 0 (.t 19)), .q 21 (.ld .str (.t 20)), .q 22 (.len true (.t 21)), .q 23 (.bin .gtr (.t 17) (.t 22)), .m 16 23, .cond (.t 16) [.m 24 0, .q 25 (.call 110 [.t 24, .c (.int .i64 1)]), .q 4 (.mv (.c (.str []))), .ret] []]], .m 26 0, .q 27 (.nck (.t 26)), .q 28 (.fad 0 (.t 27)), .q 29 (.ld .str (.t 28)), .m 30 1, .q 31 (.ssl (.t 29) none (some (.t 30))), .m 5 31, .m 32 0, .m 33 0, .q 34 (.nck (.t 33)), .q 35 (.fad 0 (.t 34)), .q 36 (.ld .str (.t 35)), .m 37 1, .q 38 (.ssl (.t 36) (some (.t 37)) none), .q 39 (.nck (.t 32)), .q 40 (.fad 0 (.t 39)), .op none none (.st 1 (.t 40) (.t 38)), .m 41 5, .m 4 41, .ret]
def r133 : List RV :=
  [.t 4]
theorem c133_ok : cC Try.prog Try.f133.ntmps (Try.f133.body.getD .skip) = some c133 := by kernel_rfl

end Go.AEX
