/- Compact codes, printed by gen.py from the given form; each is checked by its theorem. -/
import Derived.Test.YthdkobfafncpcaaAEzh
import Derived.Test.YthdkobfafncpcaaProg
import Derived.KernelRfl
namespace Go.AE
abbrev C.q (d : Nat) (o : O) : C := .op none (some d) o
abbrev C.m (d i : Nat) : C := .op none (some d) (.mv (.t i))
def pk (l : List (Nat × Bool × It)) : List It := (List.range l.length).filterMap fun i => (l.find? fun x => x.1 == i).map (·.2.2)
def po (l : List (Nat × Bool × It)) : List (Nat × Bool) := l.map fun x => (x.1, x.2.1)
end Go.AE
namespace Go.AEX
open Go Go.AE Go.Proofs
set_option maxRecDepth 100000
attribute [go_sem] C.q C.m

def big0 : List UInt8 := [0, 1, 1, 2, 1, 2, 2, 3, 1, 2, 2, 3, 2, 3, 3, 4, 1, 2, 2, 3, 2, 3, 3, 4, 2, 3, 3, 4, 3, 4, 4, 5, 1, 2, 2, 3, 2, 3, 3, 4, 2, 3, 3, 4, 3, 4, 4, 5, 2, 3, 3, 4, 3, 4, 4, 5, 3, 4, 4, 5, 4, 5, 5, 6, 1, 2, 2, 3, 2, 3, 3, 4, 2, 3, 3, 4, 3, 4, 4, 5, 2, 3, 3, 4, 3, 4, 4, 5, 3, 4, 4, 5, 4, 5, 5, 6, 2, 3, 3, 4, 3, 4, 4, 5, 3, 4, 4, 5, 4, 5, 5, 6, 3, 4, 4, 5, 4, 5, 5, 6, 4, 5, 5, 6, 5, 6, 6, 7, 1, 2, 2, 3, 2, 3, 3, 4, 2, 3, 3, 4, 3, 4, 4, 5, 2, 3, 3, 4, 3, 4, 4, 5, 3, 4, 4, 5, 4, 5, 5, 6, 2, 3, 3, 4, 3, 4, 4, 5, 3, 4, 4, 5, 4, 5, 5, 6, 3, 4, 4, 5, 4, 5, 5, 6, 4, 5, 5, 6, 5, 6, 6, 7, 2, 3, 3, 4, 3, 4, 4, 5, 3, 4, 4, 5, 4, 5, 5, 6, 3, 4, 4, 5, 4, 5, 5, 6, 4, 5, 5, 6, 5, 6, 6, 7, 3, 4, 4, 5, 4, 5, 5, 6, 4, 5, 5, 6, 5, 6, 6, 7, 4, 5, 5, 6, 5, 6, 6, 7, 5, 6, 6, 7, 6, 7, 7, 8]
abbrev big1 := big0

def r3 : List RV :=
  [.t 6]
def r4 : List RV :=
  [.t 2]
def r5 : List RV :=
  [.t 6]
def l8_0 : List (Nat × Bool × It) :=
  [(0, false, (none, some 58, .mv (.t 9), [])), (1, false, (none, some 59, .mv (.t 12), [])), (2, false, (none, some 60, .mv (.t 0), [])), (3, false, (none, some 61, .bin .sub (.t 60) (.c (.int .i64 1)), [2])), (6, false, (none, some 64, .mv (.t 10), [])), (7, false, (none, some 65, .mv (.t 12), [])), (8, false, (none, some 66, .look false (.int .i64) (.int .i64 0) false (.t 64) (.t 65), [6, 7])), (9, false, (none, some 67, .bin .eql (.t 66) (.c (.int .i64 0)), [8])), (4, true, (none, some 62, .call 24 [.t 58, .t 59, .t 61, .c (.bool true)], [0, 1, 3])), (5, false, (none, some 63, .bin .eql (.t 62) (.c (.int .i64 0)), [4])), (10, false, (none, some 68, .eqb true (.t 63) (.t 67), [5, 9]))]
def d8_0 : List It := pk l8_0
def o8_0 : List (Nat × Bool) := po l8_0
theorem l8_0_ok : okDraw d8_0 o8_0 = true ∧ mkL d8_0 o8_0 = some l8_0 := ⟨by kernel_rfl, by kernel_rfl⟩

def c8 : List C :=
  [.q 6 (.mv (.c (.bool false))), .q 17 (.call 20 []), .q 18 (.un .not (.t 17)), .cond (.t 18) [.q 6 (.mv (.c (.bool false))), .ret] [], .m 19 0, .q 20 (.bin .and (.t 19) (.c (.int .i64 7))), .q 21 (.bin .add (.c (.int .i64 4)) (.t 20)), .m 0 21, .q 22 (.bsl 1 [.int .i64 0] 0 []), .m 7 22, .m 23 0, .q 24 (.mv (.c (.int .i64 0))), .blk 0 [.loop [.q 25 (.bin .lss (.t 24) (.t 23)), .cond (.t 25) [] [.exit 0], .blk 1 [.m 26 24, .m 8 26, .m 27 7, .m 28 8, .q 29 (.bsl 1 [.int .i64 0] 1 [(0, .t 28)]), .q 30 (.app 1 (.t 27) (.t 29)), .m 7 30], .q 31 (.bin .add (.t 24) (.c (.int .i64 1))), .m 24 31]], .m 32 7, .q 33 (.call 22 [.t 32]), .q 34 (.call 21 [.t 33]), .m 9 34, .m 35 9, .m 36 0, .q 37 (.bin .sub (.t 36) (.c (.int .i64 1))), .q 38 (.call 23 [.t 35, .t 37]), .q 39 .mkmap, .m 10 39, .q 11 (.mv (.c (.int .i64 0))), .blk 2 [.loop [.m 40 11, .m 41 1, .q 42 (.len false (.t 41)), .q 43 (.bin .lss (.t 40) (.t 42)), .m 44 43, .op (some (44, true)) (some 45) (.mv (.t 11)), .op (some (44, true)) (some 46) (.bin .lss (.t 45) (.c (.int .i64 20))), .q 47 (.pick (.t 44) (.t 46) (.c (.bool false))), .cond (.t 47) [] [.exit 2], .blk 3 [.m 50 1, .m 51 11, .q 52 (.iad 1 (.t 50) (.t 51)), .q 53 (.ld (.int .i64) (.t 52)), .q 54 (.bin .and (.t 53) (.c (.int .i64 255))), .m 55 0, .q 56 (.bin .sub (.t 55) (.c (.int .i64 1))), .q 57 (.bin .rem (.t 54) (.t 56)), .m 12 57, .draw d8_0, .cond (.t 68) [.q 6 (.mv (.c (.bool false))), .ret] [], .m 69 10, .m 70 12, .q 71 (.look false (.int .i64) (.int .i64 0) false (.t 69) (.t 70)), .q 72 (.bin .add (.t 71) (.c (.int .i64 1))), .op none none (.mput false (.t 69) (.t 70) (.t 72))], .m 48 11, .q 49 (.bin .add (.t 48) (.c (.int .i64 1))), .m 11 49]], .m 73 2, .q 74 (.bin .and (.t 73) (.c (.int .i64 255))), .m 75 0, .q 76 (.bin .sub (.t 75) (.c (.int .i64 2))), .q 77 (.bin .rem (.t 74) (.t 76)), .q 78 (.bin .add (.c (.int .i64 1)) (.t 77)), .m 2 78, .m 80 9, .q 81 (.call 31 [.t 80]), .m 82 2, .q 83 (.build [.int .i64 0, .int .i64 0, .nilsl] [(0, 1, .c
  (.int .i64 2)), (1, 1, .t 82)]), .q 84 (.bsl 3 [.int .i64 0, .int .i64 0, .nilsl] 1 [(0, .t 83)]), .q 85 (.call 32 [.t 81, .t 84]), .m 79 85, .q 86 (.ext (.t 79) 0), .q 87 (.ext (.t 79) 1), .q 13 (.alloc [.int .u32 0, .int .i64 0]), .op none none (.st 2 (.t 13) (.t 86)), .m 14 87, .m 88 9, .q 89 (.ldn [.int .u32, .int .i64] (.t 13)), .q 90 (.call 33 [.t 88, .t 89]), .m 91 10, .m 92 2, .op none none (.mdel false (.t 91) (.t 92)), .m 94 9, .m 95 0, .q 96 (.bin .sub (.t 95) (.c (.int .i64 1))), .q 97 (.call 26 [.t 94, .t 96]), .m 93 97, .q 98 (.ext (.t 93) 0), .q 99 (.ext (.t 93) 1), .q 15 (.alloc [.int .i64 0, .int .i64 0, .nilsl]), .op none none (.st 3 (.t 15) (.t 98)), .m 16 99, .m 100 14, .q 101 (.bin .neq (.t 100) (.c (.int .i64 0))), .m 102 101, .op (some (102, false)) (some 103) (.mv (.t 9)), .op (some (102, false)) (some 104) (.mv (.t 0)), .op (some (102, false)) (some 105) (.bin .sub (.t 104) (.c (.int .i64 1))), .op (some (102, false)) (some 106) (.call 34 [.t 103, .t 105]), .op (some (102, false)) (some 107) (.un .not (.t 106)), .q 108 (.pick (.t 102) (.c (.bool true)) (.t 107)), .m 109 108, .op (some (109, false)) (some 110) (.mv (.t 9)), .op (some (109, false)) (some 111) (.mv (.t 0)), .op (some (109, false)) (some 112) (.bin .sub (.t 111) (.c (.int .i64 1))), .op (some (109, false)) (some 113) (.call 25 [.t 110, .t 112]), .op (some (109, false)) (some 114) (.len false (.t 113)), .op (some (109, false)) (some 115) (.mv (.t 10)), .op (some (109, false)) (some 116) (.lenm (.t 115)), .op (some (109, false)) (some 117) (.bin .neq (.t 114) (.t 116)), .q 118 (.pick (.t 109) (.c (.bool true)) (.t 117)), .m 119 118, .op (some (119, false)) (some 120) (.mv (.t 16)), .op (some (119, false)) (some 121) (.mv (.t 10)), .op (some (119, false)) (some 122) (.lenm (.t 121)), .op (some (119, false)) (some 123) (.bin .mul (.c (.int .i64 2)) (.t 122)), .op (some (119, false)) (some 124) (.mv (.t 0)), .op (some (119, false)) (some 125) (.bin .sub (.t 124) (.c (.int .i64 1))),
  .op (some (119, false)) (some 126) (.bin .gtr (.t 123) (.t 125)), .op (some (119, false)) (some 127) (.eqb true (.t 120) (.t 126)), .q 128 (.pick (.t 119) (.c (.bool true)) (.t 127)), .cond (.t 128) [.q 6 (.mv (.c (.bool false))), .ret] [], .q 130 (.ldn [.int .u32, .int .i64] (.t 13)), .m 131 0, .q 132 (.bin .sub (.t 131) (.c (.int .i64 1))), .q 133 (.build [.int .i64 0, .int .i64 0, .nilsl] [(0, 1, .c (.int .i64 2)), (1, 1, .t 132)]), .q 134 (.bsl 3 [.int .i64 0, .int .i64 0, .nilsl] 1 [(0, .t 133)]), .q 135 (.call 32 [.t 130, .t 134]), .m 129 135, .q 136 (.ext (.t 129) 0), .q 137 (.ext (.t 129) 1), .op none none (.st 2 (.t 13) (.t 136)), .m 14 137, .m 138 9, .q 139 (.ldn [.int .u32, .int .i64] (.t 13)), .q 140 (.call 33 [.t 138, .t 139]), .m 141 14, .q 142 (.bin .eql (.t 141) (.c (.int .i64 0))), .m 143 142, .op (some (143, true)) (some 144) (.mv (.t 9)), .op (some (143, true)) (some 145) (.mv (.t 0)), .op (some (143, true)) (some 146) (.bin .sub (.t 145) (.c (.int .i64 1))), .op (some (143, true)) (some 147) (.call 34 [.t 144, .t 146]), .op (some (143, true)) (some 148) (.un .not (.t 147)), .q 149 (.pick (.t 143) (.t 148) (.c (.bool false))), .m 150 149, .op (some (150, true)) (some 151) (.mv (.t 9)), .op (some (150, true)) (some 152) (.call 35 [.t 151]), .op (some (150, true)) (some 153) (.len false (.t 152)), .op (some (150, true)) (some 154) (.bin .eql (.t 153) (.c (.int .i64 0))), .q 155 (.pick (.t 150) (.t 154) (.c (.bool false))), .m 156 155, .op (some (156, true)) (some 157) (.mv (.t 9)), .op (some (156, true)) (some 158) (.mv (.t 0)), .op (some (156, true)) (some 159) (.bin .sub (.t 158) (.c (.int .i64 1))), .op (some (156, true)) (some 160) (.call 23 [.t 157, .t 159]), .op (some (156, true)) (some 161) (.bin .eql (.t 160) (.c (.int .i64 13))), .q 162 (.pick (.t 156) (.t 161) (.c (.bool false))), .m 6 162, .ret]
def r8 : List RV :=
  [.t 6]
theorem c8_ok : cC Try.prog Try.f8.ntmps (Try.f8.body.getD .skip) = some c8 := by kernel_rfl

def c20 : List C :=
  [.q 0 (.mv (.c (.bool false))), .q 4 (.bsl 1 [.int .i64 0] 3 [(0, .c (.int .i64 0)), (1, .c (.int .i64 1)), (2, .c (.int .i64 2))]), .q 5 (.call 22 [.t 4]), .q 6 (.call 21 [.t 5]), .m 1 6, .m 7 1, .q 8 (.eqp 0 false (.t 7) (.c .nilptr)), .m 9 8, .op (some (9, false)) (some 10) (.mv (.t 1)), .op (some (9, false)) (some 11) (.call 23 [.t 10, .c (.int .i64 2)]), .op (some (9, false)) (some 12) (.bin .neq (.t 11) (.c (.int .i64 0))), .q 13 (.pick (.t 9) (.c (.bool true)) (.t 12)), .m 14 13, .op (some (14, false)) (some 15) (.mv (.t 1)), .op (some (14, false)) (some 16) (.call 24 [.t 15, .c (.int .i64 0), .c (.int .i64 2), .c (.bool true)]), .op (some (14, false)) (some 17) (.bin .neq (.t 16) (.c (.int .i64 0))), .q 18 (.pick (.t 14) (.c (.bool true)) (.t 17)), .m 19 18, .op (some (19, false)) (some 20) (.mv (.t 1)), .op (some (19, false)) (some 21) (.call 24 [.t 20, .c (.int .i64 1), .c (.int .i64 2), .c (.bool true)]), .op (some (19, false)) (some 22) (.bin .neq (.t 21) (.c (.int .i64 0))), .q 23 (.pick (.t 19) (.c (.bool true)) (.t 22)), .cond (.t 23) [.q 0 (.mv (.c (.bool false))), .ret] [], .m 25 1, .q 26 (.call 26 [.t 25, .c (.int .i64 2)]), .m 24 26, .q 27 (.ext (.t 24) 0), .q 28 (.ext (.t 24) 1), .q 2 (.alloc [.int .i64 0, .int .i64 0, .nilsl]), .op none none (.st 3 (.t 2) (.t 27)), .m 3 28, .m 29 3, .m 30 29, .op (some (30, true)) (some 31) (.fad 0 (.t 2)), .op (some (30, true)) (some 32) (.ld (.int .i64) (.t 31)), .op (some (30, true)) (some 33) (.bin .eql (.t 32) (.c (.int .i64 3))), .q 34 (.pick (.t 30) (.t 33) (.c (.bool false))), .m 35 34, .op (some (35, true)) (some 36) (.fad 1 (.t 2)), .op (some (35, true)) (some 37) (.ld (.int .i64) (.t 36)), .op (some (35, true)) (some 38) (.bin .eql (.t 37) (.c (.int .i64 2))), .q 39 (.pick (.t 35) (.t 38) (.c (.bool false))), .m 40 39, .op (some (40, true)) (some 41) (.fad 2 (.t 2)), .op (some (40, true)) (some 42) (.ld .any (.t 41)), .op (some (40, true)) (some 43) (.len false (.t 42)), .op (some (40, true)) (some 44)
  (.bin .eql (.t 43) (.c (.int .i64 2))), .q 45 (.pick (.t 40) (.t 44) (.c (.bool false))), .m 0 45, .ret]
def r20 : List RV :=
  [.t 0]
theorem c20_ok : cC Try.prog Try.f20.ntmps (Try.f20.body.getD .skip) = some c20 := by kernel_rfl

def c21 : List C :=
  [.q 1 (.box (.t 0)), .q 2 (.mv (.c .nilptr)), .q 3 (.ldn [.int .u32, .int .i64] (.t 1)), .q 4 .mkmap, .q 5 (.build [.int .u32 0, .int .i64 0, .nilmap] [(0, 2, .t 3), (2, 1, .t 4)]), .q 6 (.box (.t 5)), .m 2 6, .ret]
def r21 : List RV :=
  [.t 2]
theorem c21_ok : cC Try.prog Try.f21.ntmps (Try.f21.body.getD .skip) = some c21 := by kernel_rfl

def l22_0 : List (Nat × Bool × It) :=
  [(0, false, (none, some 18, .fad 0 (.t 3), [])), (1, false, (none, some 19, .ld (.int .u32) (.t 18), [0])), (2, false, (none, some 20, .mv (.t 5), [])), (3, false, (none, some 21, .bin .shl (.c (.int .u32 1)) (.t 20), [2])), (4, false, (none, some 22, .bin .or (.t 19) (.t 21), [1, 3])), (5, false, (none, some 23, .fad 0 (.t 3), [0, 1, 2, 3, 4])), (6, true, (none, none, .st 1 (.t 23) (.t 22), [5, 4, 0, 1, 2, 3, 4]))]
def d22_0 : List It := pk l22_0
def o22_0 : List (Nat × Bool) := po l22_0
theorem l22_0_ok : okDraw d22_0 o22_0 = true ∧ mkL d22_0 o22_0 = some l22_0 := ⟨by kernel_rfl, by kernel_rfl⟩

def c22 : List C :=
  [.q 2 (.alloc [.int .u32 0, .int .i64 0]), .q 3 (.alloc [.int .u32 0, .int .i64 0]), .m 6 0, .q 7 (.len false (.t 6)), .q 8 (.mv (.c (.int .i64 0))), .blk 0 [.loop [.q 9 (.bin .lss (.t 8) (.t 7)), .cond (.t 9) [] [.exit 0], .blk 1 [.q 10 (.iad 1 (.t 6) (.t 8)), .q 11 (.ld (.int .i64) (.t 10)), .m 5 11, .m 12 5, .q 13 (.bin .geq (.t 12) (.c (.int .i64 0))), .m 14 13, .op (some (14, true)) (some 15) (.mv (.t 5)), .op (some (14, true)) (some 16) (.bin .lss (.t 15) (.c (.int .i64 32))), .q 17 (.pick (.t 14) (.t 16) (.c (.bool false))), .cond (.t 17) [.draw d22_0] []], .q 24 (.bin .add (.t 8) (.c (.int .i64 1))), .m 8 24]], .q 25 (.ldn [.int .u32, .int .i64] (.t 3)), .op none none (.st 2 (.t 2) (.t 25)), .ret]
def r22 : List RV :=
  [.cn 2 2]
theorem c22_ok : cC Try.prog Try.f22.ntmps (Try.f22.body.getD .skip) = some c22 := by kernel_rfl

def c23 : List C :=
  [.q 4 (.mv (.c (.int .i64 0))), .blk 0 [.m 6 1, .q 7 (.bin .eql (.t 6) (.c (.int .i64 0))), .m 5 7, .cond (.t 5) [.q 4 (.mv (.c (.int .i64 4))), .ret] [.m 9 0, .q 10 (.nck (.t 9)), .q 11 (.fad 0 (.t 10)), .q 12 (.ldn [.int .u32, .int .i64] (.t 11)), .m 13 1, .q 14 (.call 38 [.t 12, .t 13]), .q 15 (.un .not (.t 14)), .m 8 15, .cond (.t 8) [.q 4 (.mv (.c (.int .i64 13))), .ret] [.m 17 0, .m 18 1, .q 19 (.call 34 [.t 17, .t 18]), .m 16 19, .cond (.t 16) [.q 4 (.mv (.c (.int .i64 10))), .ret] []]]], .m 20 0, .q 21 (.nck (.t 20)), .q 22 (.fad 2 (.t 21)), .q 23 (.ld .any (.t 22)), .m 24 1, .q 25 .mkmap, .op none none (.mput false (.t 23) (.t 24) (.t 25)), .q 4 (.mv (.c (.int .i64 0))), .ret]
def r23 : List RV :=
  [.t 4]
theorem c23_ok : cC Try.prog Try.f23.ntmps (Try.f23.body.getD .skip) = some c23 := by kernel_rfl

def c24 : List C :=
  [.q 8 (.mv (.c (.int .i64 0))), .blk 0 [.m 12 0, .m 13 2, .q 14 (.call 34 [.t 12, .t 13]), .q 15 (.un .not (.t 14)), .m 11 15, .cond (.t 11) [.q 8 (.mv (.c (.int .i64 9))), .ret] [.m 17 0, .q 18 (.nck (.t 17)), .q 19 (.fad 0 (.t 18)), .q 20 (.ldn [.int .u32, .int .i64] (.t 19)), .m 21 1, .q 22 (.call 38 [.t 20, .t 21]), .q 23 (.un .not (.t 22)), .m 24 23, .op (some (24, false)) (some 25) (.mv (.t 1)), .op (some (24, false)) (some 26) (.mv (.t 2)), .op (some (24, false)) (some 27) (.bin .eql (.t 25) (.t 26)), .q 28 (.pick (.t 24) (.c (.bool true)) (.t 27)), .m 16 28, .cond (.t 16) [.q 8 (.mv (.c (.int .i64 13))), .ret] []]], .m 30 0, .q 31 (.nck (.t 30)), .q 32 (.fad 2 (.t 31)), .q 33 (.ld .any (.t 32)), .m 34 2, .q 35 (.look false .any .nilmap false (.t 33) (.t 34)), .m 36 1, .q 37 (.look false .bool (.bool false) true (.t 35) (.t 36)), .m 29 37, .q 38 (.ext (.t 29) 0), .q 39 (.ext (.t 29) 1), .m 9 38, .m 10 39, .m 40 10, .cond (.t 40) [.q 8 (.mv (.c (.int .i64 10))), .ret] [], .m 41 0, .q 42 (.nck (.t 41)), .q 43 (.fad 2 (.t 42)), .q 44 (.ld .any (.t 43)), .m 45 2, .q 46 (.look false .any .nilmap false (.t 44) (.t 45)), .m 47 1, .m 48 3, .op none none (.mput false (.t 46) (.t 47) (.t 48)), .q 8 (.mv (.c (.int .i64 0))), .ret]
def r24 : List RV :=
  [.t 8]
theorem c24_ok : cC Try.prog Try.f24.ntmps (Try.f24.body.getD .skip) = some c24 := by kernel_rfl

def c25 : List C :=
  [.q 4 (.mv (.c .nilsl)), .m 5 0, .m 6 1, .q 7 (.call 39 [.t 5, .t 6, .c (.bool true)]), .m 4 7, .ret]
def r25 : List RV :=
  [.t 4]
theorem c25_ok : cC Try.prog Try.f25.ntmps (Try.f25.body.getD .skip) = some c25 := by kernel_rfl

def c26 : List C :=
  [.q 4 (.alloc [.int .i64 0, .int .i64 0, .nilsl]), .q 5 (.mv (.c (.bool false))), .m 7 0, .m 8 1, .q 9 (.call 25 [.t 7, .t 8]), .m 6 9, .m 10 0, .m 11 1, .q 12 (.call 34 [.t 10, .t 11]), .q 13 (.un .not (.t 12)), .m 14 13, .op (some (14, false)) (some 15) (.mv (.t 0)), .op (some (14, false)) (some 16) (.nck (.t 15)), .op (some (14, false)) (some 17) (.fad 0 (.t 16)), .op (some (14, false)) (some 18) (.ldn [.int .u32, .int .i64] (.t 17)), .op (some (14, false)) (some 19) (.mv (.t 1)), .op (some (14, false)) (some 20) (.mv (.t 6)), .op (some (14, false)) (some 21) (.call 40 [.t 18, .t 19, .t 20]), .op (some (14, false)) (some 22) (.un .not (.t 21)), .q 23 (.pick (.t 14) (.c (.bool true)) (.t 22)), .cond (.t 23) [.q 24 (.build [.int .i64 0, .int .i64 0, .nilsl] []), .op none none (.st 3 (.t 4) (.t 24)), .q 5 (.mv (.c (.bool false))), .ret] [], .m 25 1, .m 26 6, .q 27 (.build [.int .i64 0, .int .i64 0, .nilsl] [(0, 1, .c (.int .i64 3)), (1, 1, .t 25), (2, 1, .t 26)]), .op none none (.st 3 (.t 4) (.t 27)), .q 5 (.mv (.c (.bool true))), .ret]
def r26 : List RV :=
  [.cn 4 3, .t 5]
theorem c26_ok : cC Try.prog Try.f26.ntmps (Try.f26.body.getD .skip) = some c26 := by kernel_rfl

def c31 : List C :=
  [.q 2 (.alloc [.int .u32 0, .int .i64 0]), .m 3 0, .q 4 (.nck (.t 3)), .q 5 (.fad 0 (.t 4)), .q 6 (.ldn [.int .u32, .int .i64] (.t 5)), .op none none (.st 2 (.t 2) (.t 6)), .ret]
def r31 : List RV :=
  [.cn 2 2]
theorem c31_ok : cC Try.prog Try.f31.ntmps (Try.f31.body.getD .skip) = some c31 := by kernel_rfl

def l32_0 : List (Nat × Bool × It) :=
  [(0, false, (none, some 24, .fad 0 (.t 2), [])), (1, false, (none, some 25, .ld (.int .u32) (.t 24), [0])), (2, false, (none, some 26, .fad 1 (.t 8), [])), (3, false, (none, some 27, .ld (.int .i64) (.t 26), [2])), (4, false, (none, some 28, .bin .shl (.c (.int .u32 1)) (.t 27), [3])), (5, false, (none, some 29, .bin .xor (.t 25) (.t 28), [1, 4])), (6, false, (none, some 30, .fad 0 (.t 2), [0, 1, 2, 3, 4, 5])), (7, true, (none, none, .st 1 (.t 30) (.t 29), [6, 5, 0, 1, 2, 3, 4, 5]))]
def d32_0 : List It := pk l32_0
def o32_0 : List (Nat × Bool) := po l32_0
theorem l32_0_ok : okDraw d32_0 o32_0 = true ∧ mkL d32_0 o32_0 = some l32_0 := ⟨by kernel_rfl, by kernel_rfl⟩

def c32 : List C :=
  [.q 2 (.box (.t 0)), .q 4 (.alloc [.int .u32 0, .int .i64 0]), .q 5 (.mv (.c (.int .i64 0))), .q 10 (.ldn [.int .u32, .int .i64] (.t 2)), .q 6 (.alloc [.int .u32 0, .int .i64 0]), .op none none (.st 2 (.t 6) (.t 10)), .m 11 1, .q 12 (.len false (.t 11)), .q 13 (.mv (.c (.int .i64 0))), .blk 0 [.loop [.q 14 (.bin .lss (.t 13) (.t 12)), .cond (.t 14) [] [.exit 0], .blk 1 [.q 15 (.iad 3 (.t 11) (.t 13)), .q 16 (.ldn [.int .i64, .int .i64, .any] (.t 15)), .q 8 (.alloc [.int .i64 0, .int .i64 0, .nilsl]), .op none none (.st 3 (.t 8) (.t 16)), .q 17 (.ldn [.int .u32, .int .i64] (.t 2)), .q 18 (.ldn [.int .i64, .int .i64, .any] (.t 8)), .q 19 (.call 46 [.t 17, .t 18]), .m 9 19, .m 20 9, .q 21 (.bin .neq (.t 20) (.c (.int .i64 0))), .cond (.t 21) [.q 22 (.ldn [.int .u32, .int .i64] (.t 6)), .m 23 9, .op none none (.st 2 (.t 4) (.t 22)), .m 5 23, .ret] [], .draw d32_0, .q 31 (.fad 1 (.t 2)), .q 32 (.ld (.int .i64) (.t 31)), .q 33 (.bin .add (.t 32) (.c (.int .i64 1))), .q 34 (.fad 1 (.t 2)), .op none none (.st 1 (.t 34) (.t 33))], .q 35 (.bin .add (.t 13) (.c (.int .i64 1))), .m 13 35]], .q 36 (.ldn [.int .u32, .int .i64] (.t 2)), .op none none (.st 2 (.t 4) (.t 36)), .q 5 (.mv (.c (.int .i64 0))), .ret]
def r32 : List RV :=
  [.cn 4 2, .t 5]
theorem c32_ok : cC Try.prog Try.f32.ntmps (Try.f32.body.getD .skip) = some c32 := by kernel_rfl

def c33 : List C :=
  [.q 3 (.box (.t 1)), .m 6 0, .q 7 (.ldn [.int .u32, .int .i64] (.t 3)), .q 8 (.nck (.t 6)), .q 9 (.fad 0 (.t 8)), .op none none (.st 2 (.t 9) (.t 7)), .m 10 0, .q 11 (.nck (.t 10)), .q 12 (.fad 2 (.t 11)), .q 13 (.ld .any (.t 12)), .q 14 (.mkfn 48 [] [.t 3]), .q 15 (.call 47 [.t 13, .t 14]), .m 16 0, .q 17 (.nck (.t 16)), .q 18 (.fad 2 (.t 17)), .q 19 (.ld .any (.t 18)), .q 20 (.rng (.t 19)), .blk 0 [.loop [.q 21 (.nxt (.t 20)), .q 22 (.ext (.t 21) 0), .cond (.t 22) [] [.exit 0], .blk 1 [.q 23 (.ent (.t 20)), .q 24 (.ext (.t 23) 1), .m 5 24, .m 25 5, .q 26 (.mkfn 50 [] [.t 3]), .q 27 (.call 49 [.t 25, .t 26])]]]]
def r33 : List RV :=
  []
theorem c33_ok : cC Try.prog Try.f33.ntmps (Try.f33.body.getD .skip) = some c33 := by kernel_rfl

def c34 : List C :=
  [.q 4 (.mv (.c (.bool false))), .m 5 0, .q 6 (.nck (.t 5)), .q 7 (.fad 2 (.t 6)), .q 8 (.ld .any (.t 7)), .m 9 1, .q 10 (.look false .any .nilmap false (.t 8) (.t 9)), .q 11 (.eqp 1 true (.t 10) (.c .nilmap)), .m 4 11, .ret]
def r34 : List RV :=
  [.t 4]
theorem c34_ok : cC Try.prog Try.f34.ntmps (Try.f34.body.getD .skip) = some c34 := by kernel_rfl

def c35 : List C :=
  [.q 2 (.mv (.c .nilsl)), .m 3 0, .q 4 (.nck (.t 3)), .q 5 (.fad 2 (.t 4)), .q 6 (.ld .any (.t 5)), .q 7 (.call 51 [.t 6]), .q 8 (.call 44 [.t 7]), .m 2 8, .ret]
def r35 : List RV :=
  [.t 2]
theorem c35_ok : cC Try.prog Try.f35.ntmps (Try.f35.body.getD .skip) = some c35 := by kernel_rfl

def c38 : List C :=
  [.q 2 (.box (.t 0)), .q 4 (.mv (.c (.bool false))), .m 5 1, .q 6 (.bin .geq (.t 5) (.c (.int .i64 0))), .m 7 6, .op (some (7, true)) (some 8) (.mv (.t 1)), .op (some (7, true)) (some 9) (.bin .lss (.t 8) (.c (.int .i64 32))), .q 10 (.pick (.t 7) (.t 9) (.c (.bool false))), .m 11 10, .op (some (11, true)) (some 12) (.fad 0 (.t 2)), .op (some (11, true)) (some 13) (.ld (.int .u32) (.t 12)), .op (some (11, true)) (some 14) (.mv (.t 1)), .op (some (11, true)) (some 15) (.bin .shr (.t 13) (.t 14)), .op (some (11, true)) (some 16) (.bin .and (.t 15) (.c (.int .u32 1))), .op (some (11, true)) (some 17) (.bin .eql (.t 16) (.c (.int .u32 1))), .q 18 (.pick (.t 11) (.t 17) (.c (.bool false))), .m 4 18, .ret]
def r38 : List RV :=
  [.t 4]
theorem c38_ok : cC Try.prog Try.f38.ntmps (Try.f38.body.getD .skip) = some c38 := by kernel_rfl

def c39 : List C :=
  [.q 6 (.mv (.c .nilsl)), .q 7 (.mv (.c .nilsl)), .m 10 0, .q 11 (.nck (.t 10)), .q 12 (.fad 2 (.t 11)), .q 13 (.ld .any (.t 12)), .m 14 1, .q 15 (.look false .any .nilmap false (.t 13) (.t 14)), .q 16 (.call 53 [.t 15]), .q 17 (.call 44 [.t 16]), .q 18 (.len false (.t 17)), .q 19 (.mv (.c (.int .i64 0))), .blk 0 [.loop [.q 20 (.bin .lss (.t 19) (.t 18)), .cond (.t 20) [] [.exit 0], .blk 1 [.q 21 (.iad 1 (.t 17) (.t 19)), .q 22 (.ld (.int .i64) (.t 21)), .m 9 22, .m 23 0, .q 24 (.nck (.t 23)), .q 25 (.fad 2 (.t 24)), .q 26 (.ld .any (.t 25)), .m 27 1, .q 28 (.look false .any .nilmap false (.t 26) (.t 27)), .m 29 9, .q 30 (.look false .bool (.bool false) false (.t 28) (.t 29)), .m 31 2, .q 32 (.eqb false (.t 30) (.t 31)), .cond (.t 32) [.m 33 7, .m 34 9, .q 35 (.bsl 1 [.int .i64 0] 1 [(0, .t 34)]), .q 36 (.app 1 (.t 33) (.t 35)), .m 7 36] []], .q 37 (.bin .add (.t 19) (.c (.int .i64 1))), .m 19 37]], .m 38 7, .m 6 38, .ret]
def r39 : List RV :=
  [.t 6]
theorem c39_ok : cC Try.prog Try.f39.ntmps (Try.f39.body.getD .skip) = some c39 := by kernel_rfl

def c40 : List C :=
  [.q 3 (.box (.t 0)), .q 6 (.mv (.c (.bool false))), .m 9 2, .q 10 (.len false (.t 9)), .q 11 (.mv (.c (.int .i64 0))), .blk 0 [.loop [.q 12 (.bin .lss (.t 11) (.t 10)), .cond (.t 12) [] [.exit 0], .blk 1 [.m 13 11, .q 14 (.iad 1 (.t 9) (.t 11)), .q 15 (.ld (.int .i64) (.t 14)), .m 7 13, .m 8 15, .q 16 (.ldn [.int .u32, .int .i64] (.t 3)), .m 17 8, .q 18 (.call 38 [.t 16, .t 17]), .q 19 (.un .not (.t 18)), .m 20 19, .op (some (20, false)) (some 21) (.mv (.t 8)), .op (some (20, false)) (some 22) (.mv (.t 1)), .op (some (20, false)) (some 23) (.bin .eql (.t 21) (.t 22)), .q 24 (.pick (.t 20) (.c (.bool true)) (.t 23)), .m 25 24, .op (some (25, false)) (some 26) (.mv (.t 7)), .op (some (25, false)) (some 27) (.bin .gtr (.t 26) (.c (.int .i64 0))), .op (some (25, false)) (some 28) (.mv (.t 27)), .op (some (28, true)) (some 29) (.mv (.t 2)), .op (some (28, true)) (some 30) (.mv (.t 7)), .op (some (28, true)) (some 31) (.bin .sub (.t 30) (.c (.int .i64 1))), .op (some (28, true)) (some 32) (.iad 1 (.t 29) (.t 31)), .op (some (28, true)) (some 33) (.ld (.int .i64) (.t 32)), .op (some (28, true)) (some 34) (.mv (.t 8)), .op (some (28, true)) (some 35) (.bin .geq (.t 33) (.t 34)), .op (some (25, false)) (some 36) (.pick (.t 28) (.t 35) (.c (.bool false))), .q 37 (.pick (.t 25) (.c (.bool true)) (.t 36)), .cond (.t 37) [.q 6 (.mv (.c (.bool false))), .ret] []], .q 38 (.bin .add (.t 11) (.c (.int .i64 1))), .m 11 38]], .m 39 2, .q 40 (.len false (.t 39)), .q 41 (.bin .mul (.c (.int .i64 2)) (.t 40)), .q 42 (.ldn [.int .u32, .int .i64] (.t 3)), .q 43 (.call 41 [.t 42]), .q 44 (.bin .gtr (.t 41) (.t 43)), .m 6 44, .ret]
def r40 : List RV :=
  [.t 6]
theorem c40_ok : cC Try.prog Try.f40.ntmps (Try.f40.body.getD .skip) = some c40 := by kernel_rfl

def c41 : List C :=
  [.q 1 (.box (.t 0)), .q 2 (.mv (.c (.int .i64 0))), .q 3 (.fad 0 (.t 1)), .q 4 (.ld (.int .u32) (.t 3)), .q 5 (.call 54 [.t 4]), .m 2 5, .ret]
def r41 : List RV :=
  [.t 2]
theorem c41_ok : cC Try.prog Try.f41.ntmps (Try.f41.body.getD .skip) = some c41 := by kernel_rfl

def c46 : List C :=
  [.q 2 (.box (.t 0)), .q 3 (.box (.t 1)), .q 4 (.mv (.c (.int .i64 0))), .blk 0 [.q 6 (.fad 0 (.t 3)), .q 7 (.ld (.int .i64) (.t 6)), .q 8 (.bin .lss (.t 7) (.c (.int .i64 1))), .m 9 8, .op (some (9, false)) (some 10) (.fad 0 (.t 3)), .op (some (9, false)) (some 11) (.ld (.int .i64) (.t 10)), .op (some (9, false)) (some 12) (.bin .gtr (.t 11) (.c (.int .i64 3))), .q 13 (.pick (.t 9) (.c (.bool true)) (.t 12)), .m 5 13, .cond (.t 5) [.q 4 (.mv (.c (.int .i64 7))), .ret] [.q 15 (.fad 1 (.t 3)), .q 16 (.ld (.int .i64) (.t 15)), .q 17 (.bin .lss (.t 16) (.c (.int .i64 0))), .m 18 17, .op (some (18, false)) (some 19) (.fad 1 (.t 3)), .op (some (18, false)) (some 20) (.ld (.int .i64) (.t 19)), .op (some (18, false)) (some 21) (.bin .geq (.t 20) (.c (.int .i64 32))), .q 22 (.pick (.t 18) (.c (.bool true)) (.t 21)), .m 23 22, .op (some (23, false)) (some 24) (.fad 1 (.t 3)), .op (some (23, false)) (some 25) (.ld (.int .i64) (.t 24)), .op (some (23, false)) (some 26) (.bin .eql (.t 25) (.c (.int .i64 0))), .op (some (23, false)) (some 27) (.mv (.t 26)), .op (some (27, true)) (some 28) (.fad 0 (.t 3)), .op (some (27, true)) (some 29) (.ld (.int .i64) (.t 28)), .op (some (27, true)) (some 30) (.bin .neq (.t 29) (.c (.int .i64 1))), .op (some (23, false)) (some 31) (.pick (.t 27) (.t 30) (.c (.bool false))), .q 32 (.pick (.t 23) (.c (.bool true)) (.t 31)), .m 33 32, .op (some (33, false)) (some 34) (.fad 0 (.t 3)), .op (some (33, false)) (some 35) (.ld (.int .i64) (.t 34)), .op (some (33, false)) (some 36) (.bin .neq (.t 35) (.c (.int .i64 3))), .op (some (33, false)) (some 37) (.mv (.t 36)), .op (some (37, true)) (some 38) (.fad 2 (.t 3)), .op (some (37, true)) (some 39) (.ld .any (.t 38)), .op (some (37, true)) (some 40) (.len false (.t 39)), .op (some (37, true)) (some 41) (.bin .gtr (.t 40) (.c (.int .i64 0))), .op (some (33, false)) (some 42) (.pick (.t 37) (.t 41) (.c (.bool false))), .q 43 (.pick (.t 33) (.c (.bool true)) (.t 42)), .m 14 43, .cond (.t 14) [.q 4 (.mv (.c
  (.int .i64 4))), .ret] [.q 45 (.fad 0 (.t 3)), .q 46 (.ld (.int .i64) (.t 45)), .q 47 (.bin .eql (.t 46) (.c (.int .i64 1))), .m 48 47, .op (some (48, true)) (some 49) (.ldn [.int .u32, .int .i64] (.t 2)), .op (some (48, true)) (some 50) (.fad 1 (.t 3)), .op (some (48, true)) (some 51) (.ld (.int .i64) (.t 50)), .op (some (48, true)) (some 52) (.call 38 [.t 49, .t 51]), .q 53 (.pick (.t 48) (.t 52) (.c (.bool false))), .m 44 53, .cond (.t 44) [.q 4 (.mv (.c (.int .i64 10))), .ret] [.q 55 (.fad 0 (.t 3)), .q 56 (.ld (.int .i64) (.t 55)), .q 57 (.bin .neq (.t 56) (.c (.int .i64 1))), .m 58 57, .op (some (58, true)) (some 59) (.ldn [.int .u32, .int .i64] (.t 2)), .op (some (58, true)) (some 60) (.fad 1 (.t 3)), .op (some (58, true)) (some 61) (.ld (.int .i64) (.t 60)), .op (some (58, true)) (some 62) (.call 38 [.t 59, .t 61]), .op (some (58, true)) (some 63) (.un .not (.t 62)), .q 64 (.pick (.t 58) (.t 63) (.c (.bool false))), .m 54 64, .cond (.t 54) [.q 4 (.mv (.c (.int .i64 13))), .ret] [.q 66 (.fad 0 (.t 3)), .q 67 (.ld (.int .i64) (.t 66)), .q 68 (.bin .eql (.t 67) (.c (.int .i64 3))), .m 69 68, .op (some (69, true)) (some 70) (.ldn [.int .u32, .int .i64] (.t 2)), .op (some (69, true)) (some 71) (.fad 1 (.t 3)), .op (some (69, true)) (some 72) (.ld (.int .i64) (.t 71)), .op (some (69, true)) (some 73) (.fad 2 (.t 3)), .op (some (69, true)) (some 74) (.ld .any (.t 73)), .op (some (69, true)) (some 75) (.call 40 [.t 70, .t 72, .t 74]), .op (some (69, true)) (some 76) (.un .not (.t 75)), .q 77 (.pick (.t 69) (.t 76) (.c (.bool false))), .m 65 77, .cond (.t 65) [.q 4 (.mv (.c (.int .i64 15))), .ret] []]]]]], .q 4 (.mv (.c (.int .i64 0))), .ret]
def r46 : List RV :=
  [.t 4]
theorem c46_ok : cC Try.prog Try.f46.ntmps (Try.f46.body.getD .skip) = some c46 := by kernel_rfl

def c47 : List C :=
  [.m 6 0, .q 7 (.rng (.t 6)), .blk 0 [.loop [.q 8 (.nxt (.t 7)), .q 9 (.ext (.t 8) 0), .cond (.t 9) [] [.exit 0], .blk 1 [.q 10 (.ent (.t 7)), .q 11 (.ext (.t 10) 0), .q 12 (.ext (.t 10) 1), .m 4 11, .m 5 12, .m 13 1, .m 14 4, .m 15 5, .q 16 (.callv (.t 13) [.t 14, .t 15]), .cond (.t 16) [.m 17 0, .m 18 4, .op none none (.mdel false (.t 17) (.t 18))] []]]]]
def r47 : List RV :=
  []
theorem c47_ok : cC Try.prog Try.f47.ntmps (Try.f47.body.getD .skip) = some c47 := by kernel_rfl

def c48 : List C :=
  [.q 5 (.mv (.c (.bool false))), .q 6 (.ldn [.int .u32, .int .i64] (.t 2)), .m 7 0, .q 8 (.call 38 [.t 6, .t 7]), .q 9 (.un .not (.t 8)), .m 5 9, .ret]
def r48 : List RV :=
  [.t 5]
theorem c48_ok : cC Try.prog Try.f48.ntmps (Try.f48.body.getD .skip) = some c48 := by kernel_rfl

def c49 : List C :=
  [.m 6 0, .q 7 (.rng (.t 6)), .blk 0 [.loop [.q 8 (.nxt (.t 7)), .q 9 (.ext (.t 8) 0), .cond (.t 9) [] [.exit 0], .blk 1 [.q 10 (.ent (.t 7)), .q 11 (.ext (.t 10) 0), .q 12 (.ext (.t 10) 1), .m 4 11, .m 5 12, .m 13 1, .m 14 4, .m 15 5, .q 16 (.callv (.t 13) [.t 14, .t 15]), .cond (.t 16) [.m 17 0, .m 18 4, .op none none (.mdel false (.t 17) (.t 18))] []]]]]
def r49 : List RV :=
  []
theorem c49_ok : cC Try.prog Try.f49.ntmps (Try.f49.body.getD .skip) = some c49 := by kernel_rfl

def c50 : List C :=
  [.q 5 (.mv (.c (.bool false))), .q 6 (.ldn [.int .u32, .int .i64] (.t 2)), .m 7 0, .q 8 (.call 38 [.t 6, .t 7]), .q 9 (.un .not (.t 8)), .m 5 9, .ret]
def r50 : List RV :=
  [.t 5]
theorem c50_ok : cC Try.prog Try.f50.ntmps (Try.f50.body.getD .skip) = some c50 := by kernel_rfl

def c51 : List C :=
  [.q 1 (.box (.t 0)), .q 2 (.mv (.c .nilfn)), .q 3 (.mkfn 59 [] [.t 1]), .m 2 3, .ret]
def r51 : List RV :=
  [.t 2]
theorem c51_ok : cC Try.prog Try.f51.ntmps (Try.f51.body.getD .skip) = some c51 := by kernel_rfl

def c53 : List C :=
  [.q 1 (.box (.t 0)), .q 2 (.mv (.c .nilfn)), .q 3 (.mkfn 61 [] [.t 1]), .m 2 3, .ret]
def r53 : List RV :=
  [.t 2]
theorem c53_ok : cC Try.prog Try.f53.ntmps (Try.f53.body.getD .skip) = some c53 := by kernel_rfl

def l54_0 : List (Nat × Bool × It) :=
  [(0, false, (none, some 3, .mv (.t 0), [])), (1, false, (none, some 4, .bin .shr (.t 3) (.c (.int .u64 24)), [0])), (2, false, (none, some 5, .ist (.c (.str big0)) (.t 4), [1])), (3, false, (none, some 6, .mv (.t 0), [])), (4, false, (none, some 7, .bin .shr (.t 6) (.c (.int .u64 16)), [3])), (5, false, (none, some 8, .bin .and (.t 7) (.c (.int .u32 255)), [4])), (6, false, (none, some 9, .ist (.c (.str big0)) (.t 8), [5])), (7, false, (none, some 10, .bin .add (.t 5)
  (.t 9), [2, 6])), (8, false, (none, some 11, .mv (.t 0), [])), (9, false, (none, some 12, .bin .shr (.t 11) (.c (.int .u64 8)), [8])), (10, false, (none, some 13, .bin .and (.t 12) (.c (.int .u32 255)), [9])), (11, false, (none, some 14, .ist (.c (.str big0)) (.t 13), [10])), (12, false, (none, some 15, .bin .add (.t 10) (.t 14), [7, 11])), (13, false, (none, some 16, .mv (.t 0), [])), (14, false, (none, some 17, .bin .and (.t 16) (.c (.int .u32 255)), [13])), (15, false, (none, some 18, .ist (.c (.str big1)) (.t 17), [14])), (16, false, (none, some 19, .bin .add (.t 15) (.t 18), [12, 15])), (17, false, (none, some 20, .cvi .i64 (.t 19), [16])), (18, false, (none, some 2, .mv (.t 20), [17, 0, 1, 2, 3, 4, 5, 6, 7, 8, 9, 10, 11, 12, 13, 14, 15, 16, 17]))]
def d54_0 : List It := pk l54_0
def o54_0 : List (Nat × Bool) := po l54_0
theorem l54_0_ok : okDraw d54_0 o54_0 = true ∧ mkL d54_0 o54_0 = some l54_0 := ⟨by kernel_rfl, by kernel_rfl⟩

def c54 : List C :=
  [.q 2 (.mv (.c (.int .i64 0))), .draw d54_0, .ret]
def r54 : List RV :=
  [.t 2]
theorem c54_ok : cC Try.prog Try.f54.ntmps (Try.f54.body.getD .skip) = some c54 := by kernel_rfl

end Go.AEX
