/- Compact codes, printed by gen.py from the given form; each is checked by its theorem. -/
import Derived.Test.YtpbmlaolpfaicaaAEzh
import Derived.Test.YtpbmlaolpfaicaaProg
import Derived.KernelRfl
namespace Go.AE
abbrev C.q (d : Nat) (o : O) : C := .op none (some d) o
abbrev C.m (d i : Nat) : C := .op none (some d) (.mv (.t i))
def pk (l : List (Nat × Bool × It)) : List It := (List.range l.length).filterMap fun i => (l.find? fun x => x.1 == i).map (·.2.2)
def po (l : List (Nat × Bool × It)) : List (Nat × Bool) := l.map fun x => (x.1, x.2.1)
end Go.AE
namespace Go.AEX
open Go Go.AE Go.Proofs
set_option maxRecDepth 100000
attribute [go_sem] C.q C.m

def l3_0 : List (Nat × Bool × It) :=
  [(0, false, (none, some 109, .fad 1 (.t 16), [])), (1, false, (none, some 110, .ld .any (.t 109), [0])), (2, false, (none, some 111, .fad 0 (.t 16), [])), (3, false, (none, some 112, .ld (.int .i64) (.t 111), [2])), (4, false, (none, some 113, .iaa 3 (.t 6) (.t 112), [3])), (5, false, (none, some 114, .ld .any (.t 113), [4])), (6, false, (none, some 115, .mv (.t 7), [])), (7, false, (none, some 116, .iad 1 (.t 114) (.t 115), [5, 6])), (8, false, (none, some 117, .ld .any (.t 116), [7])), (9, true, (none, some 118, .call 14 [.t 117], [8])), (10, true, (none, some 119, .call 13 [.t 110, .t 118], [1, 9, 9])), (11, false, (none, some 120, .bin .neq (.t 119) (.c (.int .i64 0)), [10]))]
def d3_0 : List It := pk l3_0
def o3_0 : List (Nat × Bool) := po l3_0
theorem l3_0_ok : okDraw d3_0 o3_0 = true ∧ mkL d3_0 o3_0 = some l3_0 := ⟨by kernel_rfl, by kernel_rfl⟩

def c3 : List C :=
  [.q 4 (.mv (.c (.bool false))), .q 17 (.call 7 []), .q 18 (.un .not (.t 17)), .cond (.t 18) [.q 4 (.mv (.c (.bool false))), .ret] [], .q 19 (.call 8 [.c (.int .i64 0)]), .m 5 19, .q 20 (.build [.nilsl, .nilsl, .nilsl] []), .q 6 (.alloc [.nilsl, .nilsl, .nilsl]), .op none none (.st 3 (.t 6) (.t 20)), .q 7 (.mv (.c (.int .i64 0))), .q 8 (.mv (.c (.int .i64 0))), .blk 0 [.loop [.m 21 8, .m 22 0, .q 23 (.len false (.t 22)), .q 24 (.bin .lss (.t 21) (.t 23)), .m 25 24, .op (some (25, true)) (some 26) (.mv (.t 8)), .op (some (25, true)) (some 27) (.mv (.t 1)), .op (some (25, true)) (some 28) (.len false (.t 27)), .op (some (25, true)) (some 29) (.bin .lss (.t 26) (.t 28)), .q 30 (.pick (.t 25) (.t 29) (.c (.bool false))), .m 31 30, .op (some (31, true)) (some 32) (.mv (.t 8)), .op (some (31, true)) (some 33) (.bin .lss (.t 32) (.c (.int .i64 60))), .q 34 (.pick (.t 31) (.t 33) (.c (.bool false))), .cond (.t 34) [] [.exit 0], .blk 1 [.m 37 1, .m 38 8, .q 39 (.iad 1 (.t 37) (.t 38)), .q 40 (.ld (.int .i64) (.t 39)), .q 41 (.bin .and (.t 40) (.c (.int .i64 255))), .q 42 (.bin .rem (.t 41) (.c (.int .i64 3))), .m 9 42, .m 43 0, .m 44 8, .q 45 (.iad 1 (.t 43) (.t 44)), .q 46 (.ld .any (.t 45)), .q 47 (.call 9 [.t 46]), .m 10 47, .m 48 5, .m 49 9, .m 50 5, .m 51 9, .q 52 (.call 11 [.t 50, .t 51]), .m 53 10, .q 54 (.call 10 [.t 48, .t 49, .t 52, .t 53]), .m 11 54, .m 55 9, .q 56 (.iaa 3 (.t 6) (.t 55)), .q 57 (.ld .any (.t 56)), .q 58 (.len false (.t 57)), .m 59 7, .q 60 (.bin .add (.t 59) (.c (.int .i64 8))), .q 61 (.bin .geq (.t 58) (.t 60)), .m 12 61, .m 62 11, .q 63 (.bin .eql (.t 62) (.c (.int .i64 0))), .m 64 12, .q 65 (.eqb false (.t 63) (.t 64)), .cond (.t 65) [.q 4 (.mv (.c (.bool false))), .ret] [], .m 66 11, .q 67 (.bin .eql (.t 66) (.c (.int .i64 0))), .cond (.t 67) [.m 68 9, .m 69 9, .q 70 (.iaa 3 (.t 6) (.t 69)), .q 71 (.ld .any (.t 70)), .m 72 10, .q 73 (.bsl 1 [.nilsl] 1 [(0, .t 72)]), .q 74 (.app 1 (.t 71) (.t 73)), .q 75 (.iaa 3 (.t 6) (.t 68)), .op none none
  (.st 1 (.t 75) (.t 74))] [], .m 77 5, .q 78 (.bsl 1 [.int .i64 0] 3 [(0, .c (.int .i64 0)), (1, .c (.int .i64 1)), (2, .c (.int .i64 2))]), .q 79 (.call 12 [.t 77, .t 78]), .m 76 79, .q 80 (.ext (.t 76) 0), .q 81 (.ext (.t 76) 1), .m 13 80, .m 14 81, .m 82 14, .q 83 (.iaa 3 (.t 6) (.c (.int .i64 0))), .q 84 (.ld .any (.t 83)), .q 85 (.len false (.t 84)), .m 86 7, .q 87 (.bin .gtr (.t 85) (.t 86)), .m 88 87, .op (some (88, true)) (some 89) (.iaa 3 (.t 6) (.c (.int .i64 1))), .op (some (88, true)) (some 90) (.ld .any (.t 89)), .op (some (88, true)) (some 91) (.len false (.t 90)), .op (some (88, true)) (some 92) (.mv (.t 7)), .op (some (88, true)) (some 93) (.bin .gtr (.t 91) (.t 92)), .q 94 (.pick (.t 88) (.t 93) (.c (.bool false))), .m 95 94, .op (some (95, true)) (some 96) (.iaa 3 (.t 6) (.c (.int .i64 2))), .op (some (95, true)) (some 97) (.ld .any (.t 96)), .op (some (95, true)) (some 98) (.len false (.t 97)), .op (some (95, true)) (some 99) (.mv (.t 7)), .op (some (95, true)) (some 100) (.bin .gtr (.t 98) (.t 99)), .q 101 (.pick (.t 95) (.t 100) (.c (.bool false))), .q 102 (.eqb true (.t 82) (.t 101)), .cond (.t 102) [.q 4 (.mv (.c (.bool false))), .ret] [], .m 103 13, .q 104 (.len false (.t 103)), .q 105 (.mv (.c (.int .i64 0))), .blk 2 [.loop [.q 106 (.bin .lss (.t 105) (.t 104)), .cond (.t 106) [] [.exit 2], .blk 3 [.q 107 (.iad 2 (.t 103) (.t 105)), .q 108 (.ldn [.int .i64, .any] (.t 107)), .q 16 (.alloc [.int .i64 0, .nilsl]), .op none none (.st 2 (.t 16) (.t 108)), .draw d3_0, .cond (.t 120) [.q 4 (.mv (.c (.bool false))), .ret] []], .q 121 (.bin .add (.t 105) (.c (.int .i64 1))), .m 105 121]], .m 122 14, .cond (.t 122) [.m 123 7, .q 124 (.bin .add (.t 123) (.c (.int .i64 1))), .m 7 124] []], .m 35 8, .q 36 (.bin .add (.t 35) (.c (.int .i64 1))), .m 8 36]], .m 125 5, .q 126 (.call 15 [.t 125]), .m 127 7, .q 128 (.bin .eql (.t 126) (.t 127)), .m 4 128, .ret]
def r3 : List RV :=
  [.t 4]
theorem c3_ok : cC Try.prog Try.f3.ntmps (Try.f3.body.getD .skip) = some c3 := by kernel_rfl

def r4 : List RV :=
  [.t 4]
def l5_0 : List (Nat × Bool × It) :=
  [(0, false, (none, some 62, .mv (.t 12), [])), (1, false, (none, some 63, .mv (.t 2), [])), (2, false, (none, some 64, .mv (.t 13), [])), (3, false, (none, some 65, .iad 1 (.t 63) (.t 64), [1, 2])), (4, false, (none, some 66, .ld (.int .i64) (.t 65), [3])), (5, false, (none, some 67, .bin .and (.t 66) (.c (.int .i64 255)), [4])), (6, false, (none, some 68, .mv (.t 0), [])), (7, false, (none, some 69, .bin .rem (.t 67) (.t 68), [5, 6])), (8, false, (none, some 70, .mv (.t 1), [])), (9, false, (none, some 71, .mv (.t 2), [])), (10, false, (none, some 72, .mv (.t 13), [])), (11, false, (none, some 73, .iad 1 (.t 71) (.t 72), [9, 10])), (12, false, (none, some 74, .ld (.int .i64) (.t 73), [11])), (13, false, (none, some 75, .bin .and (.t 74) (.c (.int .i64 256)), [12])), (14, false, (none, some 76, .bin .eql (.t 75) (.c (.int .i64 0)), [13])), (15, true, (none, some 77, .call 31 [.t 62, .t 69, .t 70, .t 76], [0, 7, 8, 14]))]
def d5_0 : List It := pk l5_0
def c5 : List C :=
  [.q 8 (.mv (.c (.bool false))), .q 21 (.call 7 []), .q 22 (.un .not (.t 21)), .cond (.t 22) [.q 8 (.mv (.c (.bool false))), .ret] [], .m 23 0, .q 24 (.bin .and (.t 23) (.c (.int .i64 7))), .q 25 (.bin .add (.c (.int .i64 3)) (.t 24)), .m 0 25, .m 26 3, .q 27 (.bin .and (.t 26) (.c (.int .i64 65535))), .m 3 27, .m 28 1, .q 29 (.bin .and (.t 28) (.c (.int .i64 255))), .m 30 0, .q 31 (.bin .sub (.t 30) (.c (.int .i64 1))), .q 32 (.bin .rem (.t 29) (.t 31)), .q 33 (.bin .add (.c (.int .i64 1)) (.t 32)), .m 1 33, .q 34 (.bsl 1 [.int .i64 0] 0 []), .m 9 34, .m 35 0, .q 36 (.mv (.c (.int .i64 0))), .blk 0 [.loop [.q 37 (.bin .lss (.t 36) (.t 35)), .cond (.t 37) [] [.exit 0], .blk 1 [.m 38 36, .m 10 38, .m 39 9, .m 40 10, .q 41 (.bsl 1 [.int .i64 0] 1 [(0, .t 40)]), .q 42 (.app 1 (.t 39) (.t 41)), .m 9 42], .q 43 (.bin .add (.t 36) (.c (.int .i64 1))), .m 36 43]], .m 44 9, .q 45 (.call 28 [.t 44]), .q 11 (.alloc [.int .u32 0, .int .i64 0]), .op none none (.st 2 (.t 11) (.t 45)), .q 46 (.ldn [.int .u32, .int .i64] (.t 11)), .q 47 (.call 29 [.t 46]), .m 12 47, .m 48 12, .m 49 1, .q 50 (.call 30 [.t 48, .t 49]), .q 51 (.bin .neq (.t 50) (.c (.int .i64 0))), .cond (.t 51) [.q 8 (.mv (.c (.bool false))), .ret] [], .q 13 (.mv (.c (.int .i64 0))), .blk 2 [.loop [.m 52 13, .m 53 2, .q 54 (.len false (.t 53)), .q 55 (.bin .lss (.t 52) (.t 54)), .m 56 55, .op (some (56, true)) (some 57) (.mv (.t 13)), .op (some (56, true)) (some 58) (.bin .lss (.t 57) (.c (.int .i64 30))), .q 59 (.pick (.t 56) (.t 58) (.c (.bool false))), .cond (.t 59) [] [.exit 2], .blk 3 [.draw d5_0], .m 60 13, .q 61 (.bin .add (.t 60) (.c (.int .i64 1))), .m 13 61]], .m 79 12, .m 80 1, .q 81 (.call 32 [.t 79, .t 80]), .m 78 81, .q 82 (.ext (.t 78) 0), .q 83 (.ext (.t 78) 1), .q 14 (.alloc [.int .i64 0, .int .i64 0, .nilsl]), .op none none (.st 3 (.t 14) (.t 82)), .m 15 83, .m 84 15, .q 85 (.un .not (.t 84)), .cond (.t 85) [.m 86 12, .m 87 1, .q 88 (.call 33 [.t 86, .t 87]), .q 89 (.len false (.t 88)), .q 90 (.bin
  .mul (.c (.int .i64 2)) (.t 89)), .m 91 0, .q 92 (.bin .leq (.t 90) (.t 91)), .m 8 92, .ret] [], .m 93 3, .q 94 (.ldn [.int .u32, .int .i64] (.t 11)), .q 95 (.ldn [.int .i64, .int .i64, .any] (.t 14)), .q 96 (.bsl 3 [.int .i64 0, .int .i64 0, .nilsl] 1 [(0, .t 95)]), .q 97 (.call 34 [.t 93, .t 94, .t 96, .c .nilsl]), .q 16 (.alloc [.int .i64 0, .nilsl, .int .i64 0, .int .i64 0, .nilsl]), .op none none (.st 5 (.t 16) (.t 97)), .q 99 (.ldn [.int .i64, .any, .int .i64, .int .i64, .any] (.t 16)), .q 100 (.ldn [.int .u32, .int .i64] (.t 11)), .q 101 (.call 35 [.t 99, .t 100]), .m 98 101, .q 102 (.ext (.t 98) 0), .q 103 (.ext (.t 98) 1), .q 17 (.alloc [.int .u32 0, .int .i64 0]), .op none none (.st 2 (.t 17) (.t 102)), .m 18 103, .q 105 (.ldn [.int .i64, .any, .int .i64, .int .i64, .any] (.t 16)), .q 106 (.call 37 [.t 105]), .q 107 (.call 36 [.t 106]), .m 104 107, .q 108 (.ext (.t 104) 0), .q 109 (.ext (.t 104) 1), .q 19 (.alloc [.int .i64 0, .nilsl, .int .i64 0, .int .i64 0, .nilsl]), .op none none (.st 5 (.t 19) (.t 108)), .m 20 109, .m 110 18, .q 111 (.bin .eql (.t 110) (.c (.int .i64 0))), .m 112 111, .op (some (112, true)) (some 113) (.ldn [.int .i64, .any, .int .i64, .int .i64, .any] (.t 16)), .op (some (112, true)) (some 114) (.mv (.t 3)), .op (some (112, true)) (some 115) (.ldn [.int .u32, .int .i64] (.t 11)), .op (some (112, true)) (some 116) (.call 38 [.t 113, .t 114, .t 115]), .op (some (112, true)) (some 117) (.bin .eql (.t 116) (.c (.int .i64 0))), .q 118 (.pick (.t 112) (.t 117) (.c (.bool false))), .m 119 118, .op (some (119, true)) (some 120) (.ldn [.int .u32, .int .i64] (.t 17)), .op (some (119, true)) (some 121) (.mv (.t 1)), .op (some (119, true)) (some 122) (.call 39 [.t 120, .t 121]), .op (some (119, true)) (some 123) (.un .not (.t 122)), .q 124 (.pick (.t 119) (.t 123) (.c (.bool false))), .m 125 124, .op (some (125, true)) (some 126) (.ldn [.int .u32, .int .i64] (.t 17)), .op (some (125, true)) (some 127) (.call 40 [.t 126]), .op (some (125, true))
  (some 128) (.mv (.t 0)), .op (some (125, true)) (some 129) (.bin .sub (.t 128) (.c (.int .i64 1))), .op (some (125, true)) (some 130) (.bin .eql (.t 127) (.t 129)), .q 131 (.pick (.t 125) (.t 130) (.c (.bool false))), .m 132 131, .op (some (132, true)) (some 133) (.fad 4 (.t 16)), .op (some (132, true)) (some 134) (.ld .any (.t 133)), .op (some (132, true)) (some 135) (.len false (.t 134)), .op (some (132, true)) (some 136) (.mv (.t 0)), .op (some (132, true)) (some 137) (.bin .sub (.t 136) (.c (.int .i64 1))), .op (some (132, true)) (some 138) (.bin .eql (.t 135) (.t 137)), .q 139 (.pick (.t 132) (.t 138) (.c (.bool false))), .m 140 139, .op (some (140, true)) (some 141) (.mv (.t 20)), .op (some (140, true)) (some 142) (.bin .eql (.t 141) (.c (.int .i64 0))), .q 143 (.pick (.t 140) (.t 142) (.c (.bool false))), .m 144 143, .op (some (144, true)) (some 145) (.ldn [.int .i64, .any, .int .i64, .int .i64, .any] (.t 19)), .op (some (144, true)) (some 146) (.mv (.t 3)), .op (some (144, true)) (some 147) (.ldn [.int .u32, .int .i64] (.t 11)), .op (some (144, true)) (some 148) (.call 38 [.t 145, .t 146, .t 147]), .op (some (144, true)) (some 149) (.bin .eql (.t 148) (.c (.int .i64 0))), .q 150 (.pick (.t 144) (.t 149) (.c (.bool false))), .m 151 150, .op (some (151, true)) (some 152) (.fad 1 (.t 19)), .op (some (151, true)) (some 153) (.ld .any (.t 152)), .op (some (151, true)) (some 154) (.len false (.t 153)), .op (some (151, true)) (some 155) (.bin .eql (.t 154) (.c (.int .i64 1))), .q 156 (.pick (.t 151) (.t 155) (.c (.bool false))), .m 157 156, .op (some (157, true)) (some 158) (.fad 1 (.t 19)), .op (some (157, true)) (some 159) (.ld .any (.t 158)), .op (some (157, true)) (some 160) (.iad 3 (.t 159) (.c (.int .i64 0))), .op (some (157, true)) (some 161) (.fad 1 (.t 160)), .op (some (157, true)) (some 162) (.ld (.int .i64) (.t 161)), .op (some (157, true)) (some 163) (.mv (.t 1)), .op (some (157, true)) (some 164) (.bin .eql (.t 162) (.t 163)), .q 165 (.pick (.t 157)
  (.t 164) (.c (.bool false))), .m 8 165, .ret]
def r5 : List RV :=
  [.t 8]
def l6_0 : List (Nat × Bool × It) :=
  [(0, false, (none, some 32, .mv (.t 8), [])), (1, false, (none, some 33, .bin .neq (.t 32) (.c (.int .i64 0)), [0])), (2, false, (none, some 34, .mv (.t 33), [1])), (3, false, (some (34, false), some 35, .mv (.t 10), [2])), (4, false, (some (34, false), some 36, .bin .neq (.t 35) (.c (.int .i64 0)), [3, 2])), (5, false, (none, some 37, .pick (.t 34) (.c (.bool true)) (.t 36), [2, 4])), (6, false, (none, some 38, .mv (.t 37), [5, 2])), (7, false, (some (38, false), some 39, .ldn [.any] (.t 7), [6])), (9, false, (some (38, false), some 41, .ldn [.any] (.t 3), [6])), (8, true, (some (38, false), some 40, .call 43 [.t 39], [7, 6, 6])), (10, true, (some (38, false), some 42, .call 43 [.t 41], [9, 8, 6])), (11, false, (some (38, false), some 43, .bin .neq (.t 40) (.t 42), [8, 10, 6])), (12, false, (none, some 44, .pick (.t 38) (.c (.bool true)) (.t 43), [6, 11]))]
def d6_0 : List It := pk l6_0
def c6 : List C :=
  [.q 3 (.box (.t 0)), .q 6 (.mv (.c (.bool false))), .q 17 (.call 7 []), .q 18 (.un .not (.t 17)), .cond (.t 18) [.q 6 (.mv (.c (.bool false))), .ret] [], .q 19 (.ldn [.any] (.t 3)), .q 20 (.call 41 [.t 19]), .op none none (.st 1 (.t 3) (.t 20)), .q 22 (.ldn [.any] (.t 3)), .q 23 (.call 43 [.t 22]), .q 24 (.call 42 [.t 23]), .m 21 24, .q 25 (.ext (.t 21) 0), .q 26 (.ext (.t 21) 1), .q 7 (.alloc [.nilsl]), .op none none (.st 1 (.t 7) (.t 25)), .m 8 26, .q 28 (.ldn [.any] (.t 7)), .q 29 (.call 44 [.t 28]), .m 27 29, .q 30 (.ext (.t 27) 0), .q 31 (.ext (.t 27) 1), .q 9 (.alloc [.int .i64 0, .int .i64 0]), .op none none (.st 2 (.t 9) (.t 30)), .m 10 31, .draw d6_0, .cond (.t 44) [.q 6 (.mv (.c (.bool false))), .ret] [], .q 46 (.ldn [.any] (.t 3)), .m 47 1, .q 48 (.call 45 [.t 46, .t 47]), .m 45 48, .q 49 (.ext (.t 45) 0), .q 50 (.ext (.t 45) 1), .m 11 49, .m 12 50, .q 52 (.ldn [.any] (.t 7)), .m 53 1, .q 54 (.call 45 [.t 52, .t 53]), .m 51 54, .q 55 (.ext (.t 51) 0), .q 56 (.ext (.t 51) 1), .m 13 55, .m 14 56, .m 57 12, .q 58 (.bin .neq (.t 57) (.c (.int .i64 0))), .m 59 58, .op (some (59, false)) (some 60) (.mv (.t 14)), .op (some (59, false)) (some 61) (.bin .neq (.t 60) (.c (.int .i64 0))), .q 62 (.pick (.t 59) (.c (.bool true)) (.t 61)), .cond (.t 62) [.q 6 (.mv (.c (.bool false))), .ret] [], .q 15 (.mv (.c (.int .i64 0))), .blk 0 [.loop [.m 63 15, .m 64 2, .q 65 (.len false (.t 64)), .q 66 (.bin .lss (.t 63) (.t 65)), .m 67 66, .op (some (67, true)) (some 68) (.mv (.t 15)), .op (some (67, true)) (some 69) (.bin .lss (.t 68) (.c (.int .i64 8))), .q 70 (.pick (.t 67) (.t 69) (.c (.bool false))), .cond (.t 70) [] [.exit 0], .blk 1 [.m 73 2, .m 74 15, .q 75 (.iad 1 (.t 73) (.t 74)), .q 76 (.ld .any (.t 75)), .q 77 (.call 46 [.t 76]), .m 16 77, .m 78 11, .m 79 16, .q 80 (.call 47 [.t 78, .t 79]), .m 81 13, .m 82 16, .q 83 (.call 47 [.t 81, .t 82]), .q 84 (.bin .neq (.t 80) (.t 83)), .m 85 84, .op (some (85, false)) (some 86) (.mv (.t 11)), .op (some (85, false)) (some 87)
  (.call 48 [.t 86]), .op (some (85, false)) (some 88) (.mv (.t 13)), .op (some (85, false)) (some 89) (.call 48 [.t 88]), .op (some (85, false)) (some 90) (.bin .neq (.t 87) (.t 89)), .q 91 (.pick (.t 85) (.c (.bool true)) (.t 90)), .cond (.t 91) [.q 6 (.mv (.c (.bool false))), .ret] []], .m 71 15, .q 72 (.bin .add (.t 71) (.c (.int .i64 1))), .m 15 72]], .m 92 11, .q 93 (.call 49 [.t 92]), .m 94 13, .q 95 (.call 49 [.t 94]), .q 96 (.bin .eql (.t 93) (.t 95)), .m 6 96, .ret]
def c7 : List C :=
  [.q 0 (.mv (.c (.bool false))), .q 4 (.call 51 [.c (.str [120])]), .q 5 (.call 50 [.t 4]), .m 3 5, .q 6 (.ext (.t 3) 0), .q 7 (.ext (.t 3) 1), .m 1 6, .m 2 7, .q 8 (.bsl 1 [.str []] 1 [(0, .c (.str [49, 50, 51, 52, 53, 54, 55, 56, 57]))]), .q 9 (.call 52 [.t 8]), .q 10 (.bin .eql (.t 9) (.c (.int .u32 3421780262))), .m 11 10, .op (some (11, true)) (some 12) (.mv (.t 1)), .op (some (11, true)) (some 13) (.bin .eql (.t 12) (.c (.str [120]))), .q 14 (.pick (.t 11) (.t 13) (.c (.bool false))), .m 15 14, .op (some (15, true)) (some 16) (.mv (.t 2)), .op (some (15, true)) (some 17) (.bin .eql (.t 16) (.c (.int .i64 0))), .q 18 (.pick (.t 15) (.t 17) (.c (.bool false))), .m 19 18, .op (some (19, true)) (some 20) (.call 53 [.c (.int .u8 1)]), .op (some (19, true)) (some 21) (.bin .eql (.t 20) (.c (.str [112, 117, 115, 104]))), .q 22 (.pick (.t 19) (.t 21) (.c (.bool false))), .m 0 22, .ret]
def r7 : List RV :=
  [.t 0]
theorem c7_ok : cC Try.prog Try.f7.ntmps (Try.f7.body.getD .skip) = some c7 := by kernel_rfl

def c8 : List C :=
  [.q 2 (.mv (.c .nilptr)), .m 3 0, .q 4 .mkmap, .q 5 (.build [.int .i64 0, .nilmap] [(0, 1, .t 3), (1, 1, .t 4)]), .q 6 (.box (.t 5)), .m 2 6, .ret]
def r8 : List RV :=
  [.t 2]
theorem c8_ok : cC Try.prog Try.f8.ntmps (Try.f8.body.getD .skip) = some c8 := by kernel_rfl

def c9 : List C :=
  [.q 2 (.mv (.c .nilsl)), .q 3 (.mv (.c .nilsl)), .q 4 (.mv (.c (.int .i64 0))), .blk 0 [.loop [.m 6 4, .m 7 0, .q 8 (.len false (.t 7)), .q 9 (.bin .lss (.t 6) (.t 8)), .m 10 9, .op (some (10, true)) (some 11) (.mv (.t 4)), .op (some (10, true)) (some 12) (.bin .lss (.t 11) (.c (.int .i64 8))), .q 13 (.pick (.t 10) (.t 12) (.c (.bool false))), .cond (.t 13) [] [.exit 0], .blk 1 [.m 16 0, .m 17 4, .q 18 (.iad 4 (.t 16) (.t 17)), .q 19 (.ldn [.int .i64, .int .i64, .int .i64, .int .i64] (.t 18)), .q 5 (.alloc [.int .i64 0, .int .i64 0, .int .i64 0, .int .i64 0]), .op none none (.st 4 (.t 5) (.t 19)), .q 20 (.fad 0 (.t 5)), .q 21 (.ld (.int .i64) (.t 20)), .q 22 (.bin .and (.t 21) (.c (.int .i64 255))), .q 23 (.bin .rem (.t 22) (.c (.int .i64 4))), .q 24 (.bin .add (.c (.int .i64 1)) (.t 23)), .q 25 (.fad 0 (.t 5)), .op none none (.st 1 (.t 25) (.t 24)), .q 26 (.fad 1 (.t 5)), .q 27 (.ld (.int .i64) (.t 26)), .q 28 (.bin .and (.t 27) (.c (.int .i64 63))), .q 29 (.bin .add (.c (.int .i64 1)) (.t 28)), .q 30 (.fad 2 (.t 5)), .q 31 (.ld (.int .i64) (.t 30)), .q 32 (.bin .and (.t 31) (.c (.int .i64 127))), .q 33 (.bin .add (.c (.int .i64 1)) (.t 32)), .q 34 (.fad 3 (.t 5)), .q 35 (.ld (.int .i64) (.t 34)), .q 36 (.bin .and (.t 35) (.c (.int .i64 127))), .q 37 (.fad 1 (.t 5)), .op none none (.st 1 (.t 37) (.t 29)), .q 38 (.fad 2 (.t 5)), .op none none (.st 1 (.t 38) (.t 33)), .q 39 (.fad 3 (.t 5)), .op none none (.st 1 (.t 39) (.t 36)), .q 40 (.fad 0 (.t 5)), .q 41 (.ld (.int .i64) (.t 40)), .blk 2 [.q 43 (.bin .eql (.t 41) (.c (.int .i64 2))), .m 42 43, .cond (.t 42) [.q 44 (.fad 3 (.t 5)), .op none none (.st 1 (.t 44) (.c (.int .i64 0)))] [.q 46 (.bin .eql (.t 41) (.c (.int .i64 3))), .m 45 46, .cond (.t 45) [.q 47 (.fad 1 (.t 5)), .op none none (.st 1 (.t 47) (.c (.int .i64 0)))] [.q 49 (.bin .eql (.t 41) (.c (.int .i64 4))), .m 48 49, .cond (.t 48) [.q 50 (.fad 2 (.t 5)), .op none none (.st 1 (.t 50) (.c (.int .i64 0))), .q 51 (.fad 3 (.t 5)), .op none none (.st 1 (.t 51)
  (.c (.int .i64 0)))] []]]], .m 52 3, .q 53 (.ldn [.int .i64, .int .i64, .int .i64, .int .i64] (.t 5)), .q 54 (.bsl 4 [.int .i64 0, .int .i64 0, .int .i64 0, .int .i64 0] 1 [(0, .t 53)]), .q 55 (.app 4 (.t 52) (.t 54)), .m 3 55], .m 14 4, .q 15 (.bin .add (.t 14) (.c (.int .i64 1))), .m 4 15]], .m 56 3, .m 2 56, .ret]
def r9 : List RV :=
  [.t 2]
theorem c9_ok : cC Try.prog Try.f9.ntmps (Try.f9.body.getD .skip) = some c9 := by kernel_rfl

def l10_0 : List (Nat × Bool × It) :=
  [(0, false, (none, some 55, .mv (.t 0), [])), (1, false, (none, some 56, .nck (.t 55), [0])), (2, false, (none, some 57, .fad 1 (.t 56), [1])), (3, false, (none, some 58, .ld .any (.t 57), [2])), (4, false, (none, some 59, .mv (.t 1), [])), (5, false, (none, some 60, .look false .any .nilmap false (.t 58) (.t 59), [3, 4])), (6, false, (none, some 61, .mv (.t 2), [])), (7, false, (none, some 62, .mv (.t 3), [])), (8, true, (none, some 63, .call 55 [.t 62], [7])), (9, true, (none, none, .mput false (.t 60) (.t 61) (.t 63), [5, 6, 8, 8, 0, 1, 2, 3, 4, 5, 6, 7, 8]))]
def d10_0 : List It := pk l10_0
def o10_0 : List (Nat × Bool) := po l10_0
theorem l10_0_ok : okDraw d10_0 o10_0 = true ∧ mkL d10_0 o10_0 = some l10_0 := ⟨by kernel_rfl, by kernel_rfl⟩

def c10 : List C :=
  [.q 8 (.mv (.c (.int .i64 0))), .blk 0 [.m 11 1, .q 12 (.bin .lss (.t 11) (.c (.int .i64 0))), .m 13 12, .op (some (13, false)) (some 14) (.mv (.t 1)), .op (some (13, false)) (some 15) (.bin .geq (.t 14) (.c (.int .i64 32))), .q 16 (.pick (.t 13) (.c (.bool true)) (.t 15)), .m 10 16, .cond (.t 10) [.q 8 (.mv (.c (.int .i64 13))), .ret] [.m 18 2, .m 19 0, .m 20 1, .q 21 (.call 11 [.t 19, .t 20]), .q 22 (.bin .lss (.t 18) (.t 21)), .m 17 22, .cond (.t 17) [.q 8 (.mv (.c (.int .i64 11))), .ret] [.m 24 2, .m 25 0, .m 26 1, .q 27 (.call 11 [.t 25, .t 26]), .q 28 (.bin .gtr (.t 24) (.t 27)), .m 23 28, .cond (.t 23) [.q 8 (.mv (.c (.int .i64 12))), .ret] [.m 30 2, .m 31 0, .q 32 (.nck (.t 31)), .q 33 (.fad 0 (.t 32)), .q 34 (.ld (.int .i64) (.t 33)), .q 35 (.bin .add (.t 34) (.c (.int .i64 8))), .q 36 (.bin .geq (.t 30) (.t 35)), .m 29 36, .cond (.t 29) [.q 8 (.mv (.c (.int .i64 8))), .ret] []]]]], .m 37 3, .q 38 (.call 54 [.t 37]), .m 9 38, .m 39 9, .q 40 (.bin .neq (.t 39) (.c (.int .i64 0))), .cond (.t 40) [.m 41 9, .m 8 41, .ret] [], .m 42 0, .q 43 (.nck (.t 42)), .q 44 (.fad 1 (.t 43)), .q 45 (.ld .any (.t 44)), .m 46 1, .q 47 (.look false .any .nilmap false (.t 45) (.t 46)), .q 48 (.eqp 1 false (.t 47) (.c .nilmap)), .cond (.t 48) [.m 49 0, .q 50 (.nck (.t 49)), .q 51 (.fad 1 (.t 50)), .q 52 (.ld .any (.t 51)), .m 53 1, .q 54 .mkmap, .op none none (.mput false (.t 52) (.t 53) (.t 54))] [], .draw d10_0, .q 8 (.mv (.c (.int .i64 0))), .ret]
def r10 : List RV :=
  [.t 8]
theorem c10_ok : cC Try.prog Try.f10.ntmps (Try.f10.body.getD .skip) = some c10 := by kernel_rfl

def l11_0 : List (Nat × Bool × It) :=
  [(0, false, (none, some 5, .mv (.t 0), [])), (1, false, (none, some 6, .nck (.t 5), [0])), (2, false, (none, some 7, .fad 0 (.t 6), [1])), (3, false, (none, some 8, .ld (.int .i64) (.t 7), [2])), (4, false, (none, some 9, .mv (.t 0), [])), (5, false, (none, some 10, .nck (.t 9), [4])), (6, false, (none, some 11, .fad 1 (.t 10), [5])), (7, false, (none, some 12, .ld .any (.t 11), [6])), (8, false, (none, some 13, .mv (.t 1), [])), (9, false, (none, some 14, .look false .any .nilmap false (.t 12) (.t 13), [7, 8])), (10, false, (none, some 15, .lenm (.t 14), [9])), (11, false, (none, some 16, .bin .add (.t 8) (.t 15), [3, 10])), (12, false, (none, some 4, .mv (.t 16), [11, 10, 0, 1, 2, 3, 4, 5, 6, 7, 8, 9, 10, 11]))]
def d11_0 : List It := pk l11_0
def o11_0 : List (Nat × Bool) := po l11_0
theorem l11_0_ok : okDraw d11_0 o11_0 = true ∧ mkL d11_0 o11_0 = some l11_0 := ⟨by kernel_rfl, by kernel_rfl⟩

def c11 : List C :=
  [.q 4 (.mv (.c (.int .i64 0))), .draw d11_0, .ret]
def r11 : List RV :=
  [.t 4]
theorem c11_ok : cC Try.prog Try.f11.ntmps (Try.f11.body.getD .skip) = some c11 := by kernel_rfl

def l12_0 : List (Nat × Bool × It) :=
  [(0, false, (none, some 22, .mv (.t 6), [])), (1, false, (none, some 23, .mv (.t 8), [])), (2, false, (none, some 24, .mv (.t 0), [])), (3, false, (none, some 25, .nck (.t 24), [2])), (4, false, (none, some 26, .fad 1 (.t 25), [3])), (5, false, (none, some 27, .ld .any (.t 26), [4])), (6, false, (none, some 28, .mv (.t 8), [])), (7, false, (none, some 29, .look false .any .nilmap false (.t 27) (.t 28), [5, 6])), (8, false, (none, some 30, .mv (.t 0), [])), (9, false, (none, some 31, .nck (.t 30), [8])), (10, false, (none, some 32, .fad 0 (.t 31), [9])), (11, false, (none, some 33, .ld (.int .i64) (.t 32), [10])), (12, false, (none, some 34, .look false .any .nilsl false (.t 29) (.t 33), [7, 11])), (13, false, (none, some 35, .build [.int .i64 0, .nilsl] [(0, 1, .t 23), (1, 1, .t 34)], [1, 12])), (14, false, (none, some 36, .bsl 2 [.int .i64 0, .nilsl] 1 [(0, .t 35)], [13])), (15, true, (none, some 37, .app 2 (.t 22) (.t 36), [0, 14])), (16, true, (none, some 6, .mv (.t 37), [15, 15, 0, 1, 2, 3, 4, 5, 6, 7, 8, 9, 10, 11, 12, 13, 14, 15]))]
def d12_0 : List It := pk l12_0
def o12_0 : List (Nat × Bool) := po l12_0
theorem l12_0_ok : okDraw d12_0 o12_0 = true ∧ mkL d12_0 o12_0 = some l12_0 := ⟨by kernel_rfl, by kernel_rfl⟩

def c12 : List C :=
  [.q 4 (.mv (.c .nilsl)), .q 5 (.mv (.c (.bool false))), .m 11 0, .m 12 1, .q 13 (.call 56 [.t 11, .t 12]), .q 14 (.len false (.t 13)), .q 15 (.bin .gtr (.t 14) (.c (.int .i64 0))), .cond (.t 15) [.q 4 (.mv (.c .nilsl)), .q 5 (.mv (.c (.bool false))), .ret] [], .q 6 (.mv (.c .nilsl)), .m 16 1, .q 17 (.len false (.t 16)), .q 18 (.mv (.c (.int .i64 0))), .blk 0 [.loop [.q 19 (.bin .lss (.t 18) (.t 17)), .cond (.t 19) [] [.exit 0], .blk 1 [.q 20 (.iad 1 (.t 16) (.t 18)), .q 21 (.ld (.int .i64) (.t 20)), .m 8 21, .draw d12_0], .q 38 (.bin .add (.t 18) (.c (.int .i64 1))), .m 18 38]], .m 39 0, .q 40 (.nck (.t 39)), .q 41 (.fad 1 (.t 40)), .q 42 (.ld .any (.t 41)), .q 43 (.rng (.t 42)), .blk 2 [.loop [.q 44 (.nxt (.t 43)), .q 45 (.ext (.t 44) 0), .cond (.t 45) [] [.exit 2], .blk 3 [.q 46 (.ent (.t 43)), .q 47 (.ext (.t 46) 0), .q 48 (.ext (.t 46) 1), .m 9 47, .m 10 48, .m 49 10, .m 50 0, .q 51 (.nck (.t 50)), .q 52 (.fad 0 (.t 51)), .q 53 (.ld (.int .i64) (.t 52)), .op none none (.mdel false (.t 49) (.t 53)), .m 54 10, .q 55 (.lenm (.t 54)), .q 56 (.bin .eql (.t 55) (.c (.int .i64 0))), .cond (.t 56) [.m 57 0, .q 58 (.nck (.t 57)), .q 59 (.fad 1 (.t 58)), .q 60 (.ld .any (.t 59)), .m 61 9, .op none none (.mdel false (.t 60) (.t 61))] []]]], .m 62 0, .q 63 (.nck (.t 62)), .q 64 (.fad 0 (.t 63)), .q 65 (.ld (.int .i64) (.t 64)), .q 66 (.bin .add (.t 65) (.c (.int .i64 1))), .q 67 (.nck (.t 62)), .q 68 (.fad 0 (.t 67)), .op none none (.st 1 (.t 68) (.t 66)), .m 69 6, .m 4 69, .q 5 (.mv (.c (.bool true))), .ret]
def r12 : List RV :=
  [.t 4, .t 5]
theorem c12_ok : cC Try.prog Try.f12.ntmps (Try.f12.body.getD .skip) = some c12 := by kernel_rfl

def l13_0 : List (Nat × Bool × It) :=
  [(0, false, (none, some 16, .mv (.t 0), [])), (1, false, (none, some 17, .mv (.t 5), [])), (2, false, (none, some 18, .iad 4 (.t 16) (.t 17), [0, 1])), (3, false, (none, some 19, .ldn [.int .i64, .int .i64, .int .i64, .int .i64] (.t 18), [2])), (4, false, (none, some 20, .mv (.t 1), [])), (5, false, (none, some 21, .mv (.t 5), [])), (6, false, (none, some 22, .iad 4 (.t 20) (.t 21), [4, 5])), (7, false, (none, some 23, .ldn [.int .i64, .int .i64, .int .i64, .int .i64] (.t 22), [6])), (8, false, (none, some 24, .eqa true [.int .i64, .int .i64, .int .i64, .int .i64] (.t 19) (.t 23), [3, 7]))]
def d13_0 : List It := pk l13_0
def o13_0 : List (Nat × Bool) := po l13_0
theorem l13_0_ok : okDraw d13_0 o13_0 = true ∧ mkL d13_0 o13_0 = some l13_0 := ⟨by kernel_rfl, by kernel_rfl⟩

def c13 : List C :=
  [.q 4 (.mv (.c (.int .i64 0))), .m 6 0, .q 7 (.len false (.t 6)), .m 8 1, .q 9 (.len false (.t 8)), .q 10 (.bin .neq (.t 7) (.t 9)), .cond (.t 10) [.q 4 (.mv (.c (.int .i64 (-1)))), .ret] [], .m 11 1, .q 12 (.len false (.t 11)), .q 13 (.mv (.c (.int .i64 0))), .blk 0 [.loop [.q 14 (.bin .lss (.t 13) (.t 12)), .cond (.t 14) [] [.exit 0], .blk 1 [.m 15 13, .m 5 15, .draw d13_0, .cond (.t 24) [.q 4 (.mv (.c (.int .i64 (-1)))), .ret] []], .q 25 (.bin .add (.t 13) (.c (.int .i64 1))), .m 13 25]], .q 4 (.mv (.c (.int .i64 0))), .ret]
def r13 : List RV :=
  [.t 4]
theorem c13_ok : cC Try.prog Try.f13.ntmps (Try.f13.body.getD .skip) = some c13 := by kernel_rfl

def c14 : List C :=
  [.q 2 (.mv (.c .nilsl)), .q 6 (.bsl 4 [.int .i64 0, .int .i64 0, .int .i64 0, .int .i64 0] 0 []), .m 3 6, .m 7 0, .q 8 (.len false (.t 7)), .q 9 (.mv (.c (.int .i64 0))), .blk 0 [.loop [.q 10 (.bin .lss (.t 9) (.t 8)), .cond (.t 10) [] [.exit 0], .blk 1 [.q 11 (.iad 4 (.t 7) (.t 9)), .q 12 (.ldn [.int .i64, .int .i64, .int .i64, .int .i64] (.t 11)), .q 5 (.alloc [.int .i64 0, .int .i64 0, .int .i64 0, .int .i64 0]), .op none none (.st 4 (.t 5) (.t 12)), .m 13 3, .q 14 (.ldn [.int .i64, .int .i64, .int .i64, .int .i64] (.t 5)), .q 15 (.bsl 4 [.int .i64 0, .int .i64 0, .int .i64 0, .int .i64 0] 1 [(0, .t 14)]), .q 16 (.app 4 (.t 13) (.t 15)), .m 3 16], .q 17 (.bin .add (.t 9) (.c (.int .i64 1))), .m 9 17]], .m 18 3, .m 2 18, .ret]
def r14 : List RV :=
  [.t 2]
theorem c14_ok : cC Try.prog Try.f14.ntmps (Try.f14.body.getD .skip) = some c14 := by kernel_rfl

def c15 : List C :=
  [.q 2 (.mv (.c (.int .i64 0))), .m 3 0, .q 4 (.nck (.t 3)), .q 5 (.fad 0 (.t 4)), .q 6 (.ld (.int .i64) (.t 5)), .m 2 6, .ret]
def r15 : List RV :=
  [.t 2]
theorem c15_ok : cC Try.prog Try.f15.ntmps (Try.f15.body.getD .skip) = some c15 := by kernel_rfl

def l50_0 : List (Nat × Bool × It) :=
  [(0, false, (none, some 13, .mv (.t 0), [])), (1, false, (none, some 14, .ssl (.t 13) (some (.c (.int .i64 1))) (some (.c (.int .i64 5))), [0])), (2, false, (none, some 15, .mv (.t 0), [])), (3, false, (none, some 16, .ssl (.t 15) none (some (.c (.int .i64 1))), [2])), (4, false, (none, some 17, .mv (.t 0), [])), (5, false, (none, some 18, .ssl (.t 17) (some (.c (.int .i64 5))) none, [4])), (6, false, (none, some 19, .bsl 1 [.str []] 2 [(0, .t 16), (1, .t 18)], [3, 5])), (7, true, (none, some 20, .call 52 [.t 19], [6])), (8, true, (none, some 21, .call 99 [.t 20], [7, 7])), (9, false, (none, some 22, .bin .neq (.t 14) (.t 21), [1, 8])), (10, false, (none, some 12, .mv (.t 22), [9, 8]))]
def d50_0 : List It := pk l50_0
def o50_0 : List (Nat × Bool) := po l50_0
theorem l50_0_ok : okDraw d50_0 o50_0 = true ∧ mkL d50_0 o50_0 = some l50_0 := ⟨by kernel_rfl, by kernel_rfl⟩

def c50 : List C :=
  [.q 2 (.mv (.c (.str []))), .q 3 (.mv (.c (.int .i64 0))), .blk 0 [.m 5 0, .q 6 (.len true (.t 5)), .q 7 (.bin .lss (.t 6) (.c (.int .i64 5))), .m 4 7, .cond (.t 4) [.q 2 (.mv (.c (.str []))), .q 3 (.mv (.c (.int .i64 1))), .ret] [.m 9 0, .q 10 (.ist (.t 9) (.c (.int .i64 0))), .q 11 (.bin .neq (.t 10) (.c (.int .u8 7))), .m 8 11, .cond (.t 8) [.q 2 (.mv (.c (.str []))), .q 3 (.mv (.c (.int .i64 6))), .ret] [.draw d50_0, .cond (.t 12) [.q 2 (.mv (.c (.str []))), .q 3 (.mv (.c (.int .i64 5))), .ret] []]]], .m 23 0, .q 24 (.ssl (.t 23) (some (.c (.int .i64 5))) none), .m 2 24, .q 3 (.mv (.c (.int .i64 0))), .ret]
def r50 : List RV :=
  [.t 2, .t 3]
theorem c50_ok : cC Try.prog Try.f50.ntmps (Try.f50.body.getD .skip) = some c50 := by kernel_rfl

def c51 : List C :=
  [.q 2 (.mv (.c (.str []))), .q 4 (.bsl 1 [.int .u8 0] 1 [(0, .c (.int .u8 7))]), .q 5 (.cvb (.t 4)), .m 3 5, .m 6 3, .m 7 3, .m 8 0, .q 9 (.bsl 1 [.str []] 2 [(0, .t 7), (1, .t 8)]), .q 10 (.call 52 [.t 9]), .q 11 (.call 99 [.t 10]), .q 12 (.bin .add (.t 6) (.t 11)), .m 13 0, .q 14 (.bin .add (.t 12) (.t 13)), .m 2 14, .ret]
def r51 : List RV :=
  [.t 2]
theorem c51_ok : cC Try.prog Try.f51.ntmps (Try.f51.body.getD .skip) = some c51 := by kernel_rfl

def c52 : List C :=
  [.q 2 (.mv (.c (.int .u32 0))), .m 3 0, .q 4 (.call 100 [.c (.int .u32 0), .t 3]), .m 2 4, .ret]
def r52 : List RV :=
  [.t 2]
theorem c52_ok : cC Try.prog Try.f52.ntmps (Try.f52.body.getD .skip) = some c52 := by kernel_rfl

def c53 : List C :=
  [.q 2 (.mv (.c (.str []))), .q 4 (.bsl 1 [.str []] 23 [(0, .c (.str [63])), (1, .c (.str [112, 117, 115, 104])), (2, .c (.str [112, 111, 112])), (3, .c (.str [100, 117, 112])), (4, .c (.str [115, 119, 97, 112])), (5, .c (.str [97, 100, 100])), (6, .c (.str [115, 117, 98])), (7, .c (.str [109, 117, 108])), (8, .c (.str [100, 105, 118])), (9, .c (.str [109, 111, 100])), (10, .c (.str [101, 113])), (11, .c (.str [108, 101, 115, 115])), (12, .c (.str [110, 111, 116])), (13, .c (.str [106, 117, 109, 112])), (14, .c (.str [98, 114, 97, 110, 99, 104])), (15, .c (.str [99, 97, 108, 108])), (16, .c (.str [114, 101, 116])), (17, .c (.str [108, 111, 97, 100])), (18, .c (.str [115, 116, 111, 114, 101])), (19, .c (.str [103, 101, 116])), (20, .c (.str [112, 117, 116])), (21, .c (.str [114, 97, 110, 100])), (22, .c (.str [104, 111, 115, 116]))]), .m 3 4, .m 5 0, .q 6 (.cvi .i64 (.t 5)), .m 7 3, .q 8 (.len false (.t 7)), .q 9 (.bin .geq (.t 6) (.t 8)), .cond (.t 9) [.q 2 (.mv (.c (.str [63]))), .ret] [], .m 10 3, .m 11 0, .q 12 (.iad 1 (.t 10) (.t 11)), .q 13 (.ld .str (.t 12)), .m 2 13, .ret]
def r53 : List RV :=
  [.t 2]
theorem c53_ok : cC Try.prog Try.f53.ntmps (Try.f53.body.getD .skip) = some c53 := by kernel_rfl

def c54 : List C :=
  [.q 2 (.mv (.c (.int .i64 0))), .m 6 0, .q 7 (.len false (.t 6)), .q 8 (.bin .gtr (.t 7) (.c (.int .i64 8))), .cond (.t 8) [.q 2 (.mv (.c (.int .i64 8))), .ret] [], .m 9 0, .q 10 (.len false (.t 9)), .q 11 (.mv (.c (.int .i64 0))), .blk 0 [.loop [.q 12 (.bin .lss (.t 11) (.t 10)), .cond (.t 12) [] [.exit 0], .blk 1 [.q 13 (.iad 4 (.t 9) (.t 11)), .q 14 (.ldn [.int .i64, .int .i64, .int .i64, .int .i64] (.t 13)), .q 4 (.alloc [.int .i64 0, .int .i64 0, .int .i64 0, .int .i64 0]), .op none none (.st 4 (.t 4) (.t 14)), .q 15 (.ldn [.int .i64, .int .i64, .int .i64, .int .i64] (.t 4)), .q 16 (.call 101 [.t 15]), .m 5 16, .m 17 5, .q 18 (.bin .neq (.t 17) (.c (.int .i64 0))), .cond (.t 18) [.m 19 5, .m 2 19, .ret] []], .q 20 (.bin .add (.t 11) (.c (.int .i64 1))), .m 11 20]], .q 2 (.mv (.c (.int .i64 0))), .ret]
def r54 : List RV :=
  [.t 2]
theorem c54_ok : cC Try.prog Try.f54.ntmps (Try.f54.body.getD .skip) = some c54 := by kernel_rfl

def c55 : List C :=
  [.q 2 (.mv (.c .nilsl)), .m 3 0, .q 4 (.eqn false (.t 3)), .cond (.t 4) [.q 2 (.mv (.c .nilsl)), .ret] [], .q 5 (.bsl 4 [.int .i64 0, .int .i64 0, .int .i64 0, .int .i64 0] 0 []), .m 6 0, .q 7 (.app 4 (.t 5) (.t 6)), .m 2 7, .ret]
def r55 : List RV :=
  [.t 2]
theorem c55_ok : cC Try.prog Try.f55.ntmps (Try.f55.body.getD .skip) = some c55 := by kernel_rfl

def c56 : List C :=
  [.q 4 (.mv (.c .nilsl)), .m 5 1, .q 6 (.call 103 [.t 5]), .m 7 0, .q 8 (.mkfn 104 [.t 7] []), .q 9 (.call 102 [.t 6, .t 8]), .m 4 9, .ret]
def r56 : List RV :=
  [.t 4]
theorem c56_ok : cC Try.prog Try.f56.ntmps (Try.f56.body.getD .skip) = some c56 := by kernel_rfl

def c99 : List C :=
  [.q 2 (.mv (.c (.str []))), .m 3 0, .q 4 (.cvi .u8 (.t 3)), .m 5 0, .q 6 (.bin .shr (.t 5) (.c (.int .u64 8))), .q 7 (.cvi .u8 (.t 6)), .m 8 0, .q 9 (.bin .shr (.t 8) (.c (.int .u64 16))), .q 10 (.cvi .u8 (.t 9)), .m 11 0, .q 12 (.bin .shr (.t 11) (.c (.int .u64 24))), .q 13 (.cvi .u8 (.t 12)), .q 14 (.bsl 1 [.int .u8 0] 4 [(0, .t 4), (1, .t 7), (2, .t 10), (3, .t 13)]), .q 15 (.cvb (.t 14)), .m 2 15, .ret]
def r99 : List RV :=
  [.t 2]
theorem c99_ok : cC Try.prog Try.f99.ntmps (Try.f99.body.getD .skip) = some c99 := by kernel_rfl

def c100 : List C :=
  [.q 4 (.mv (.c (.int .u32 0))), .m 8 0, .q 9 (.un .xor (.t 8)), .m 0 9, .m 10 1, .q 11 (.len false (.t 10)), .q 12 (.mv (.c (.int .i64 0))), .blk 0 [.loop [.q 13 (.bin .lss (.t 12) (.t 11)), .cond (.t 13) [] [.exit 0], .blk 1 [.q 14 (.iad 1 (.t 10) (.t 12)), .q 15 (.ld .str (.t 14)), .m 6 15, .m 16 6, .q 17 (.len true (.t 16)), .q 18 (.mv (.c (.int .i64 0))), .blk 2 [.loop [.q 19 (.bin .lss (.t 18) (.t 17)), .cond (.t 19) [] [.exit 2], .blk 3 [.m 20 18, .m 7 20, .m 21 0, .q 22 (.bin .shr (.t 21) (.c (.int .u64 8))), .m 23 0, .m 24 6, .m 25 7, .q 26 (.ist (.t 24) (.t 25)), .q 27 (.cvi .u32 (.t 26)), .q 28 (.bin .xor (.t 23) (.t 27)), .q 29 (.bin .and (.t 28) (.c (.int .u32 255))), .q 30 (.call 126 [.t 29]), .q 31 (.bin .xor (.t 22) (.t 30)), .m 0 31], .q 32 (.bin .add (.t 18) (.c (.int .i64 1))), .m 18 32]]], .q 33 (.bin .add (.t 12) (.c (.int .i64 1))), .m 12 33]], .m 34 0, .q 35 (.un .xor (.t 34)), .m 4 35, .ret]
def r100 : List RV :=
  [.t 4]
theorem c100_ok : cC Try.prog Try.f100.ntmps (Try.f100.body.getD .skip) = some c100 := by kernel_rfl

def c101 : List C :=
  [.q 1 (.box (.t 0)), .q 2 (.mv (.c (.int .i64 0))), .blk 0 [.q 4 (.fad 0 (.t 1)), .q 5 (.ld (.int .i64) (.t 4)), .q 6 (.bin .lss (.t 5) (.c (.int .i64 1))), .m 7 6, .op (some (7, false)) (some 8) (.fad 0 (.t 1)), .op (some (7, false)) (some 9) (.ld (.int .i64) (.t 8)), .op (some (7, false)) (some 10) (.bin .gtr (.t 9) (.c (.int .i64 4))), .q 11 (.pick (.t 7) (.c (.bool true)) (.t 10)), .m 3 11, .cond (.t 3) [.q 2 (.mv (.c (.int .i64 7))), .ret] [.q 13 (.fad 1 (.t 1)), .q 14 (.ld (.int .i64) (.t 13)), .q 15 (.bin .lss (.t 14) (.c (.int .i64 0))), .m 16 15, .op (some (16, false)) (some 17) (.fad 1 (.t 1)), .op (some (16, false)) (some 18) (.ld (.int .i64) (.t 17)), .op (some (16, false)) (some 19) (.bin .geq (.t 18) (.c (.int .i64 1099511627776))), .q 20 (.pick (.t 16) (.c (.bool true)) (.t 19)), .m 21 20, .op (some (21, false)) (some 22) (.fad 0 (.t 1)), .op (some (21, false)) (some 23) (.ld (.int .i64) (.t 22)), .op (some (21, false)) (some 24) (.bin .eql (.t 23) (.c (.int .i64 3))), .op (some (21, false)) (some 25) (.fad 1 (.t 1)), .op (some (21, false)) (some 26) (.ld (.int .i64) (.t 25)), .op (some (21, false)) (some 27) (.bin .eql (.t 26) (.c (.int .i64 0))), .op (some (21, false)) (some 28) (.eqb true (.t 24) (.t 27)), .q 29 (.pick (.t 21) (.c (.bool true)) (.t 28)), .m 12 29, .cond (.t 12) [.q 2 (.mv (.c (.int .i64 4))), .ret] [.q 31 (.fad 0 (.t 1)), .q 32 (.ld (.int .i64) (.t 31)), .q 33 (.bin .eql (.t 32) (.c (.int .i64 4))), .m 34 33, .op (some (34, true)) (some 35) (.fad 2 (.t 1)), .op (some (34, true)) (some 36) (.ld (.int .i64) (.t 35)), .op (some (34, true)) (some 37) (.bin .neq (.t 36) (.c (.int .i64 0))), .op (some (34, true)) (some 38) (.mv (.t 37)), .op (some (38, false)) (some 39) (.fad 3 (.t 1)), .op (some (38, false)) (some 40) (.ld (.int .i64) (.t 39)), .op (some (38, false)) (some 41) (.bin .neq (.t 40) (.c (.int .i64 0))), .op (some (34, true)) (some 42) (.pick (.t 38) (.c (.bool true)) (.t 41)), .q 43 (.pick (.t 34) (.t 42) (.c (.bool
  false))), .m 30 43, .cond (.t 30) [] [.q 44 (.fad 0 (.t 1)), .q 45 (.ld (.int .i64) (.t 44)), .q 46 (.bin .eql (.t 45) (.c (.int .i64 2))), .m 47 46, .op (some (47, true)) (some 48) (.fad 2 (.t 1)), .op (some (47, true)) (some 49) (.ld (.int .i64) (.t 48)), .op (some (47, true)) (some 50) (.bin .lss (.t 49) (.c (.int .i64 1))), .op (some (47, true)) (some 51) (.mv (.t 50)), .op (some (51, false)) (some 52) (.fad 2 (.t 1)), .op (some (51, false)) (some 53) (.ld (.int .i64) (.t 52)), .op (some (51, false)) (some 54) (.bin .geq (.t 53) (.c (.int .i64 1099511627776))), .op (some (47, true)) (some 55) (.pick (.t 51) (.c (.bool true)) (.t 54)), .op (some (47, true)) (some 56) (.mv (.t 55)), .op (some (56, false)) (some 57) (.fad 3 (.t 1)), .op (some (56, false)) (some 58) (.ld (.int .i64) (.t 57)), .op (some (56, false)) (some 59) (.bin .neq (.t 58) (.c (.int .i64 0))), .op (some (47, true)) (some 60) (.pick (.t 56) (.c (.bool true)) (.t 59)), .q 61 (.pick (.t 47) (.t 60) (.c (.bool false))), .m 30 61], .cond (.t 30) [.q 2 (.mv (.c (.int .i64 4))), .ret] [.q 63 (.fad 0 (.t 1)), .q 64 (.ld (.int .i64) (.t 63)), .q 65 (.bin .eql (.t 64) (.c (.int .i64 1))), .m 66 65, .op (some (66, true)) (some 67) (.fad 2 (.t 1)), .op (some (66, true)) (some 68) (.ld (.int .i64) (.t 67)), .op (some (66, true)) (some 69) (.call 127 [.t 68]), .op (some (66, true)) (some 70) (.mv (.t 69)), .op (some (70, false)) (some 71) (.fad 3 (.t 1)), .op (some (70, false)) (some 72) (.ld (.int .i64) (.t 71)), .op (some (70, false)) (some 73) (.call 127 [.t 72]), .op (some (66, true)) (some 74) (.pick (.t 70) (.c (.bool true)) (.t 73)), .q 75 (.pick (.t 66) (.t 74) (.c (.bool false))), .m 62 75, .cond (.t 62) [] [.q 76 (.fad 0 (.t 1)), .q 77 (.ld (.int .i64) (.t 76)), .q 78 (.bin .eql (.t 77) (.c (.int .i64 3))), .m 79 78, .op (some (79, true)) (some 80) (.fad 2 (.t 1)), .op (some (79, true)) (some 81) (.ld (.int .i64) (.t 80)), .op (some (79, true)) (some 82) (.bin .lss (.t 81) (.c (.int .i64 0))), .op
  (some (79, true)) (some 83) (.mv (.t 82)), .op (some (83, false)) (some 84) (.fad 2 (.t 1)), .op (some (83, false)) (some 85) (.ld (.int .i64) (.t 84)), .op (some (83, false)) (some 86) (.bin .gtr (.t 85) (.c (.int .i64 255))), .op (some (79, true)) (some 87) (.pick (.t 83) (.c (.bool true)) (.t 86)), .op (some (79, true)) (some 88) (.mv (.t 87)), .op (some (88, false)) (some 89) (.fad 3 (.t 1)), .op (some (88, false)) (some 90) (.ld (.int .i64) (.t 89)), .op (some (88, false)) (some 91) (.call 127 [.t 90]), .op (some (79, true)) (some 92) (.pick (.t 88) (.c (.bool true)) (.t 91)), .q 93 (.pick (.t 79) (.t 92) (.c (.bool false))), .m 62 93], .cond (.t 62) [.q 2 (.mv (.c (.int .i64 4))), .ret] []]]]], .q 2 (.mv (.c (.int .i64 0))), .ret]
def r101 : List RV :=
  [.t 2]
theorem c101_ok : cC Try.prog Try.f101.ntmps (Try.f101.body.getD .skip) = some c101 := by kernel_rfl

def c102 : List C :=
  [.q 4 (.mv (.c .nilsl)), .m 8 0, .m 9 1, .q 10 (.call 128 [.t 8, .t 9]), .m 5 10, .m 11 5, .q 12 (.bin .eql (.t 11) (.c (.int .i64 (-1)))), .cond (.t 12) [.m 13 0, .m 4 13, .ret] [], .m 14 5, .q 15 (.bin .add (.t 14) (.c (.int .i64 1))), .m 6 15, .blk 0 [.loop [.m 16 6, .m 17 0, .q 18 (.len false (.t 17)), .q 19 (.bin .lss (.t 16) (.t 18)), .cond (.t 19) [] [.exit 0], .blk 1 [.m 22 0, .m 23 6, .q 24 (.iad 1 (.t 22) (.t 23)), .q 25 (.ld (.int .i64) (.t 24)), .m 7 25, .m 26 1, .m 27 7, .q 28 (.callv (.t 26) [.t 27]), .q 29 (.un .not (.t 28)), .cond (.t 29) [.m 30 0, .m 31 5, .m 32 7, .q 33 (.iad 1 (.t 30) (.t 31)), .op none none (.st 1 (.t 33) (.t 32)), .m 34 5, .q 35 (.bin .add (.t 34) (.c (.int .i64 1))), .m 5 35] []], .m 20 6, .q 21 (.bin .add (.t 20) (.c (.int .i64 1))), .m 6 21]], .m 36 0, .m 37 5, .q 38 (.lsl 1 (.t 36) (some (.t 37)) none none), .op none none (.clr 1 [.int .i64 0] (.t 38)), .m 39 0, .m 40 5, .q 41 (.lsl 1 (.t 39) none (some (.t 40)) none), .m 4 41, .ret]
def r102 : List RV :=
  [.t 4]
theorem c102_ok : cC Try.prog Try.f102.ntmps (Try.f102.body.getD .skip) = some c102 := by kernel_rfl

def c103 : List C :=
  [.q 2 (.mv (.c .nilsl)), .m 3 0, .q 4 (.eqn false (.t 3)), .cond (.t 4) [.q 2 (.mv (.c .nilsl)), .ret] [], .q 5 (.bsl 1 [.int .i64 0] 0 []), .m 6 0, .q 7 (.app 1 (.t 5) (.t 6)), .m 2 7, .ret]
def r103 : List RV :=
  [.t 2]
theorem c103_ok : cC Try.prog Try.f103.ntmps (Try.f103.body.getD .skip) = some c103 := by kernel_rfl

def l104_0 : List (Nat × Bool × It) :=
  [(0, false, (none, some 8, .mv (.t 0), [])), (1, false, (none, some 9, .nck (.t 8), [0])), (2, false, (none, some 10, .fad 1 (.t 9), [1])), (3, false, (none, some 11, .ld .any (.t 10), [2])), (4, false, (none, some 12, .mv (.t 1), [])), (5, false, (none, some 13, .look false .any .nilmap false (.t 11) (.t 12), [3, 4])), (6, false, (none, some 14, .mv (.t 0), [])), (7, false, (none, some 15, .nck (.t 14), [6])), (8, false, (none, some 16, .fad 0 (.t 15), [7])), (9, false, (none, some 17, .ld (.int .i64) (.t 16), [8])), (10, false, (none, some 18, .look false .any .nilsl true (.t 13) (.t 17), [5, 9])), (11, false, (none, some 7, .mv (.t 18), [10])), (12, false, (none, some 19, .ext (.t 7) 0, [11])), (13, false, (none, some 20, .ext (.t 7) 1, [11])), (14, false, (none, some 5, .mv (.t 19), [12, 0, 1, 2, 3, 4, 5, 6, 7, 8, 9, 10, 11, 12])), (15, false, (none, some 6, .mv (.t 20), [13, 14, 0, 1, 2, 3, 4, 5, 6, 7, 8, 9, 10, 11, 12, 13, 14]))]
def d104_0 : List It := pk l104_0
def o104_0 : List (Nat × Bool) := po l104_0
theorem l104_0_ok : okDraw d104_0 o104_0 = true ∧ mkL d104_0 o104_0 = some l104_0 := ⟨by kernel_rfl, by kernel_rfl⟩

def c104 : List C :=
  [.q 4 (.mv (.c (.bool false))), .draw d104_0, .m 21 6, .m 4 21, .ret]
def r104 : List RV :=
  [.t 4]
theorem c104_ok : cC Try.prog Try.f104.ntmps (Try.f104.body.getD .skip) = some c104 := by kernel_rfl

def c126 : List C :=
  [.q 2 (.mv (.c (.int .u32 0))), .q 3 (.mv (.c (.int .i64 0))), .blk 0 [.loop [.q 4 (.bin .lss (.t 3) (.c (.int .i64 8))), .cond (.t 4) [] [.exit 0], .blk 1 [.m 5 0, .q 6 (.bin .and (.t 5) (.c (.int .u32 1))), .q 7 (.bin .eql (.t 6) (.c (.int .u32 1))), .cond (.t 7) [.m 8 0, .q 9 (.bin .shr (.t 8) (.c (.int .u64 1))), .q 10 (.bin .xor (.t 9) (.c (.int .u32 3988292384))), .m 0 10] [.m 11 0, .q 12 (.bin .shr (.t 11) (.c (.int .u64 1))), .m 0 12]], .q 13 (.bin .add (.t 3) (.c (.int .i64 1))), .m 3 13]], .m 14 0, .m 2 14, .ret]
def r126 : List RV :=
  [.t 2]
theorem c126_ok : cC Try.prog Try.f126.ntmps (Try.f126.body.getD .skip) = some c126 := by kernel_rfl

def c127 : List C :=
  [.q 2 (.mv (.c (.bool false))), .m 3 0, .q 4 (.bin .lss (.t 3) (.c (.int .i64 (-1000)))), .m 5 4, .op (some (5, false)) (some 6) (.mv (.t 0)), .op (some (5, false)) (some 7) (.bin .gtr (.t 6) (.c (.int .i64 1000))), .q 8 (.pick (.t 5) (.c (.bool true)) (.t 7)), .m 2 8, .ret]
def r127 : List RV :=
  [.t 2]
theorem c127_ok : cC Try.prog Try.f127.ntmps (Try.f127.body.getD .skip) = some c127 := by kernel_rfl

def c128 : List C :=
  [.q 4 (.mv (.c (.int .i64 0))), .m 6 0, .q 7 (.len false (.t 6)), .q 8 (.mv (.c (.int .i64 0))), .blk 0 [.loop [.q 9 (.bin .lss (.t 8) (.t 7)), .cond (.t 9) [] [.exit 0], .blk 1 [.m 10 8, .m 5 10, .m 11 1, .m 12 0, .m 13 5, .q 14 (.iad 1 (.t 12) (.t 13)), .q 15 (.ld (.int .i64) (.t 14)), .q 16 (.callv (.t 11) [.t 15]), .cond (.t 16) [.m 17 5, .m 4 17, .ret] []], .q 18 (.bin .add (.t 8) (.c (.int .i64 1))), .m 8 18]], .q 4 (.mv (.c (.int .i64 (-1)))), .ret]
def r128 : List RV :=
  [.t 4]
theorem c128_ok : cC Try.prog Try.f128.ntmps (Try.f128.body.getD .skip) = some c128 := by kernel_rfl

end Go.AEX
