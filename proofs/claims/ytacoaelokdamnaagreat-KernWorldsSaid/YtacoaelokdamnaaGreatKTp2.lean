import Derived.Test.YtacoaelokdamnaaGreatTab
set_option linter.all false
set_option maxRecDepth 100000
namespace Go.Mini.KT

/-- bailey/flow.Enters -/
def F200 : FnIR := ⟨40,
 .seq (
 .reg [
 ⟨some 3, none, .bxl (.t 0)⟩,
 ⟨some 4, none, .bxl (.t 1)⟩,
 ⟨some 5, none, .bxl (.t 2)⟩,
 ⟨some 6, none, .mov (.k (.s (.bool false)))⟩] [3, 4, 5]) (
 .seq (
 .drw [
 ⟨some 8, none, .fad (.t 3) 0⟩,
 ⟨some 9, none, .load (.t 8) 2 true⟩,
 ⟨some 10, none, .call false 199 0 [.t 9]⟩,
 ⟨some 11, none, .fad (.t 4) 0⟩,
 ⟨some 12, none, .load (.t 11) 2 true⟩,
 ⟨some 13, none, .call false 199 0 [.t 12]⟩,
 ⟨some 14, none, .call false 198 0 [.t 10, .t 13]⟩,
 ⟨some 15, none, .call false 231 0 [.t 14]⟩,
 ⟨some 7, none, .alloc [.s (.int .i64 0), .lit .nil []]⟩,
 ⟨none, none, .store (.t 7) (.t 15) 2⟩] [] [] [3, 4, 5, 7]) (
 .seq (
 .drw [
 ⟨some 16, none, .load (.t 5) 4 true⟩,
 ⟨some 17, none, .call false 192 0 [.t 16]⟩,
 ⟨some 18, none, .mov (.t 17)⟩,
 ⟨some 19, some (18, true), .fad (.t 3) 0⟩,
 ⟨some 20, some (18, true), .load (.t 19) 2 true⟩,
 ⟨some 21, some (18, true), .fad (.t 4) 2⟩,
 ⟨some 22, some (18, true), .load (.t 21) 2 true⟩,
 ⟨some 23, some (18, true), .bsl true 2 true [.s (.int .i64 0), .lit .nil []] 2 [(0, .t 20), (1, .t 22)]⟩,
 ⟨some 24, some (18, true), .call false 193 0 [.t 23]⟩,
 ⟨some 25, none, .pick (.t 18) (.t 24) (.k (.s (.bool false)))⟩,
 ⟨some 26, none, .mov (.t 25)⟩,
 ⟨some 27, some (26, true), .load (.t 7) 2 true⟩,
 ⟨some 28, some (26, true), .fad (.t 5) 0⟩,
 ⟨some 29, some (26, true), .load (.t 28) 2 true⟩,
 ⟨some 30, some (26, true), .fad (.t 5) 2⟩,
 ⟨some 31, some (26, true), .load (.t 30) 2 true⟩,
 ⟨some 32, some (26, true), .fad (.t 3) 2⟩,
 ⟨some 33, some (26, true), .load (.t 32) 2 true⟩,
 ⟨some 34, some (26, true), .fad (.t 4) 2⟩,
 ⟨some 35, some (26, true), .load (.t 34) 2 true⟩,
 ⟨some 36, some (26, true), .call false 198 0 [.t 33, .t 35]⟩,
 ⟨some 37, some (26, true), .bsl true 2 true [.s (.int .i64 0), .lit .nil []] 4 [(0, .t 27), (1, .t 29), (2, .t 31), (3, .t 36)]⟩,
 ⟨some 38, some (26, true), .call false 193 0 [.t 37]⟩,
 ⟨some 39, none, .pick (.t 26) (.t 38) (.k (.s (.bool false)))⟩,
 ⟨some 6, none, .mov (.t 39)⟩] [1, 8, 22] [] [6]) (
 .ret))),
 [.t 6], none⟩

/-- bailey/label.Set -/
def F201 : FnIR := ⟨17,
 .seq (
 .reg [
 ⟨some 3, none, .bxl (.t 0)⟩,
 ⟨some 6, none, .alloc [.s (.int .i64 0), .lit .nil []]⟩] [1, 2, 3, 6]) (
 .seq (
 .drw [
 ⟨some 7, none, .fad (.t 3) 0⟩,
 ⟨some 8, none, .load (.t 7) 1 false⟩,
 ⟨some 9, none, .mov (.t 1)⟩,
 ⟨some 10, none, .mov (.t 2)⟩,
 ⟨some 11, none, .build [.s (.int .u64 0), .s (.int .i64 0)] [(0, 1, .t 9), (1, 1, .t 10)]⟩,
 ⟨some 12, none, .bsl true 2 true [.s (.int .u64 0), .s (.int .i64 0)] 1 [(0, .t 11)]⟩,
 ⟨some 13, none, .fad (.t 3) 1⟩,
 ⟨some 14, none, .load (.t 13) 1 false⟩,
 ⟨some 15, none, .app false (.t 12) (.t 14) 2 16 true⟩,
 ⟨some 16, none, .call false 113 0 [.t 8, .t 15]⟩,
 ⟨none, none, .store (.t 6) (.t 16) 2⟩] [9] [(1, 8)] [6]) (
 .ret)),
 [.c 6 2 true], none⟩

/-- bailey/num.Less -/
def F202 : FnIR := ⟨10,
 .seq (
 .reg [
 ⟨some 4, none, .mov (.k (.s (.bool false)))⟩] [0, 1]) (
 .seq (
 .reg [
 ⟨some 5, none, .mov (.t 0)⟩,
 ⟨some 6, none, .call false 232 0 [.t 5]⟩,
 ⟨some 7, none, .mov (.t 1)⟩,
 ⟨some 8, none, .call false 232 0 [.t 7]⟩,
 ⟨some 9, none, .bin .lss (.t 6) (.t 8)⟩,
 ⟨some 4, none, .mov (.t 9)⟩] [4]) (
 .ret)),
 [.t 4], none⟩

/-- bailey/codec.caught -/
def F204 : FnIR := ⟨10,
 .seq (
 .reg [
 ⟨some 4, none, .mov (.t 2)⟩,
 ⟨some 5, none, .eqk .nili true (.t 4) (.k (.s .nilIface))⟩] [0, 2, 5]) (
 .cond (.t 5) (
 .reg [
 ⟨some 6, none, .mov (.t 0)⟩,
 ⟨some 7, none, .mov (.t 2)⟩,
 ⟨some 8, none, .tas 27 (.t 7)⟩,
 ⟨some 9, none, .nck (.t 6)⟩,
 ⟨none, none, .store (.t 9) (.t 8) 1⟩] []) (
 .skip)),
 [], some (3, 2)⟩

/-- bailey/codec.pack -/
def F205 : FnIR := ⟨54,
 .seq (
 .reg [
 ⟨some 4, none, .mov (.k (.lit .nil []))⟩] [0, 1]) (
 .seq (
 .reg [
 ⟨some 9, none, .mov (.t 0)⟩,
 ⟨some 10, none, .sln (.t 9)⟩,
 ⟨some 11, none, .bin .gtr (.t 10) (.k (.s (.int .i64 200)))⟩,
 ⟨some 12, none, .mov (.t 11)⟩,
 ⟨some 13, some (12, false), .mov (.t 0)⟩,
 ⟨some 14, some (12, false), .sln (.t 13)⟩,
 ⟨some 15, some (12, false), .mov (.t 1)⟩,
 ⟨some 16, some (12, false), .len (.t 15)⟩,
 ⟨some 17, some (12, false), .bin .neq (.t 14) (.t 16)⟩,
 ⟨some 18, none, .pick (.t 12) (.k (.s (.bool true))) (.t 17)⟩,
 ⟨some 19, none, .call false 233 0 [.t 18]⟩] [0, 1]) (
 .seq (
 .reg [
 ⟨some 5, none, .mov (.k (.lit .nil []))⟩] [0, 1, 5]) (
 .seq (
 .seq (
 .reg [
 ⟨some 20, none, .mov (.t 1)⟩,
 ⟨some 21, none, .len (.t 20)⟩,
 ⟨some 22, none, .mov (.k (.s (.int .i64 0)))⟩] [0, 5, 20, 21, 22]) (
 .block 0 (
 .loop (
 .seq (
 .reg [
 ⟨some 23, none, .bin .lss (.t 22) (.t 21)⟩] [0, 5, 20, 21, 22, 23]) (
 .seq (
 .cond (.t 23) (
 .skip) (
 .exit 0)) (
 .seq (
 .block 1 (
 .seq (
 .reg [
 ⟨some 24, none, .mov (.t 22)⟩,
 ⟨some 25, none, .ixa (.t 20) (.t 22) 2 none⟩,
 ⟨some 26, none, .load (.t 25) 2 true⟩,
 ⟨some 7, none, .alloc [.s (.int .u64 0), .lit .nil []]⟩,
 ⟨some 6, none, .mov (.t 24)⟩,
 ⟨none, none, .store (.t 7) (.t 26) 2⟩] [0, 5, 6, 7, 20, 21, 22]) (
 .seq (
 .reg [
 ⟨some 27, none, .mov (.t 0)⟩,
 ⟨some 28, none, .mov (.t 6)⟩,
 ⟨some 29, none, .ids (.t 27) (.t 28)⟩,
 ⟨some 30, none, .call false 234 0 [.t 29]⟩,
 ⟨some 8, none, .mov (.t 30)⟩] [0, 5, 7, 8, 20, 21, 22]) (
 .seq (
 .seq (
 .reg [
 ⟨some 31, none, .mov (.t 8)⟩,
 ⟨some 32, none, .bin .gtr (.t 31) (.k (.s (.int .i64 0)))⟩] [0, 5, 7, 8, 20, 21, 22, 32]) (
 .cond (.t 32) (
 .seq (
 .reg [
 ⟨some 33, none, .mov (.t 5)⟩,
 ⟨some 34, none, .fad (.t 7) 0⟩,
 ⟨some 35, none, .load (.t 34) 1 false⟩,
 ⟨some 36, none, .mov (.t 8)⟩,
 ⟨some 37, none, .call false 235 0 [.t 33, .t 35, .t 36]⟩,
 ⟨some 5, none, .mov (.t 37)⟩] [0, 5, 20, 21, 22]) (
 .exit 1)) (
 .skip))) (
 .seq (
 .reg [
 ⟨some 38, none, .fad (.t 7) 1⟩,
 ⟨some 39, none, .load (.t 38) 1 false⟩,
 ⟨some 40, none, .len (.t 39)⟩,
 ⟨some 41, none, .bin .gtr (.t 40) (.k (.s (.int .i64 1024)))⟩,
 ⟨some 42, none, .call false 233 0 [.t 41]⟩] [0, 5, 7, 20, 21, 22]) (
 .drw [
 ⟨some 43, none, .mov (.t 5)⟩,
 ⟨some 44, none, .fad (.t 7) 1⟩,
 ⟨some 45, none, .load (.t 44) 1 false⟩,
 ⟨some 46, none, .len (.t 45)⟩,
 ⟨some 47, none, .cvi .u64 (.t 46)⟩,
 ⟨some 48, none, .call false 235 0 [.t 43, .t 47, .k (.s (.int .i64 2))]⟩,
 ⟨some 49, none, .fad (.t 7) 1⟩,
 ⟨some 50, none, .load (.t 49) 1 false⟩,
 ⟨some 51, none, .app false (.t 48) (.t 50) 1 1 false⟩,
 ⟨some 5, none, .mov (.t 51)⟩] [] [] [0, 5, 20, 21, 22])))))) (
 .reg [
 ⟨some 52, none, .bin .add (.t 22) (.k (.s (.int .i64 1)))⟩,
 ⟨some 22, none, .mov (.t 52)⟩] [0, 5, 20, 21, 22]))))))) (
 .seq (
 .reg [
 ⟨some 53, none, .mov (.t 5)⟩,
 ⟨some 4, none, .mov (.t 53)⟩] [4]) (
 .ret))))),
 [.t 4], none⟩

/-- bailey/codec.unpack -/
def F206 : FnIR := ⟨59,
 .seq (
 .reg [
 ⟨some 4, none, .mov (.k (.lit .nil []))⟩] [0, 1]) (
 .seq (
 .reg [
 ⟨some 10, none, .mov (.t 0)⟩,
 ⟨some 11, none, .sln (.t 10)⟩,
 ⟨some 12, none, .bin .gtr (.t 11) (.k (.s (.int .i64 200)))⟩,
 ⟨some 13, none, .call false 233 0 [.t 12]⟩] [0, 1]) (
 .seq (
 .reg [
 ⟨some 14, none, .mov (.t 1)⟩,
 ⟨some 15, none, .build [.lit .nil []] [(0, 1, .t 14)]⟩,
 ⟨some 16, none, .box (.t 15)⟩,
 ⟨some 5, none, .mov (.t 16)⟩] [0, 5]) (
 .seq (
 .reg [
 ⟨some 6, none, .mov (.k (.lit .nil []))⟩] [0, 5, 6]) (
 .seq (
 .seq (
 .reg [
 ⟨some 17, none, .mov (.t 0)⟩,
 ⟨some 18, none, .sln (.t 17)⟩,
 ⟨some 19, none, .mov (.k (.s (.int .i64 0)))⟩] [0, 5, 6, 18, 19]) (
 .block 0 (
 .loop (
 .seq (
 .reg [
 ⟨some 20, none, .bin .lss (.t 19) (.t 18)⟩] [0, 5, 6, 18, 19, 20]) (
 .seq (
 .cond (.t 20) (
 .skip) (
 .exit 0)) (
 .seq (
 .block 1 (
 .seq (
 .reg [
 ⟨some 21, none, .mov (.t 19)⟩,
 ⟨some 7, none, .mov (.t 21)⟩] [0, 5, 6, 7, 18, 19]) (
 .seq (
 .reg [
 ⟨some 22, none, .mov (.t 0)⟩,
 ⟨some 23, none, .mov (.t 7)⟩,
 ⟨some 24, none, .ids (.t 22) (.t 23)⟩,
 ⟨some 25, none, .call false 234 0 [.t 24]⟩,
 ⟨some 8, none, .mov (.t 25)⟩] [0, 5, 6, 8, 18, 19]) (
 .seq (
 .seq (
 .reg [
 ⟨some 26, none, .mov (.t 8)⟩,
 ⟨some 27, none, .bin .gtr (.t 26) (.k (.s (.int .i64 0)))⟩] [0, 5, 6, 8, 18, 19, 27]) (
 .cond (.t 27) (
 .seq (
 .reg [
 ⟨some 28, none, .mov (.t 6)⟩,
 ⟨some 29, none, .mov (.t 5)⟩,
 ⟨some 30, none, .mov (.t 8)⟩,
 ⟨some 31, none, .call true 236 0 [.t 29, .t 30]⟩,
 ⟨some 32, none, .build [.s (.int .u64 0), .lit .nil []] [(0, 1, .t 31)]⟩,
 ⟨some 33, none, .bsl true 2 true [.s (.int .u64 0), .lit .nil []] 1 [(0, .t 32)]⟩,
 ⟨some 34, none, .app false (.t 28) (.t 33) 2 32 true⟩,
 ⟨some 6, none, .mov (.t 34)⟩] [0, 5, 6, 18, 19]) (
 .exit 1)) (
 .skip))) (
 .seq (
 .reg [
 ⟨some 35, none, .mov (.t 5)⟩,
 ⟨some 36, none, .call true 236 0 [.t 35, .k (.s (.int .i64 2))]⟩,
 ⟨some 37, none, .cvi .i64 (.t 36)⟩,
 ⟨some 9, none, .mov (.t 37)⟩] [0, 5, 6, 9, 18, 19]) (
 .seq (
 .reg [
 ⟨some 38, none, .mov (.t 9)⟩,
 ⟨some 39, none, .bin .gtr (.t 38) (.k (.s (.int .i64 1024)))⟩,
 ⟨some 40, none, .call false 233 0 [.t 39]⟩] [0, 5, 6, 9, 18, 19]) (
 .reg [
 ⟨some 41, none, .mov (.t 6)⟩,
 ⟨some 42, none, .bsl true 1 false [.s (.int .u8 0)] 0 []⟩,
 ⟨some 43, none, .mov (.t 5)⟩,
 ⟨some 44, none, .mov (.t 9)⟩,
 ⟨some 45, none, .call true 237 0 [.t 43, .t 44]⟩,
 ⟨some 46, none, .app false (.t 42) (.t 45) 1 1 false⟩,
 ⟨some 47, none, .build [.s (.int .u64 0), .lit .nil []] [(1, 1, .t 46)]⟩,
 ⟨some 48, none, .bsl true 2 true [.s (.int .u64 0), .lit .nil []] 1 [(0, .t 47)]⟩,
 ⟨some 49, none, .app false (.t 41) (.t 48) 2 32 true⟩,
 ⟨some 6, none, .mov (.t 49)⟩] [0, 5, 6, 18, 19]))))))) (
 .reg [
 ⟨some 50, none, .bin .add (.t 19) (.k (.s (.int .i64 1)))⟩,
 ⟨some 19, none, .mov (.t 50)⟩] [0, 5, 6, 18, 19]))))))) (
 .seq (
 .reg [
 ⟨some 51, none, .mov (.t 5)⟩,
 ⟨some 52, none, .nck (.t 51)⟩,
 ⟨some 53, none, .fad (.t 52) 0⟩,
 ⟨some 54, none, .load (.t 53) 1 false⟩,
 ⟨some 55, none, .len (.t 54)⟩,
 ⟨some 56, none, .bin .gtr (.t 55) (.k (.s (.int .i64 0)))⟩,
 ⟨some 57, none, .call false 233 0 [.t 56]⟩] [6]) (
 .seq (
 .reg [
 ⟨some 58, none, .mov (.t 6)⟩,
 ⟨some 4, none, .mov (.t 58)⟩] [4]) (
 .ret))))))),
 [.t 4], none⟩

/-- bailey/baileyref09.Leq -/
def F207 : FnIR := ⟨29,
 .seq (
 .reg [
 ⟨some 2, none, .bxl (.t 0)⟩,
 ⟨some 3, none, .bxl (.t 1)⟩,
 ⟨some 4, none, .mov (.k (.s (.bool false)))⟩] [2, 3]) (
 .seq (
 .seq (
 .reg [
 ⟨some 7, none, .fad (.t 2) 0⟩,
 ⟨some 8, none, .load (.t 7) 1 false⟩,
 ⟨some 9, none, .fad (.t 3) 0⟩,
 ⟨some 10, none, .load (.t 9) 1 false⟩,
 ⟨some 11, none, .bin .gtr (.t 8) (.t 10)⟩] [2, 3, 11]) (
 .cond (.t 11) (
 .seq (
 .reg [
 ⟨some 4, none, .mov (.k (.s (.bool false)))⟩] [4]) (
 .ret)) (
 .skip))) (
 .seq (
 .seq (
 .reg [
 ⟨some 12, none, .load (.t 2) 2 true⟩,
 ⟨some 13, none, .load (.t 3) 2 true⟩,
 ⟨some 14, none, .build [.s (.int .i64 0), .lit .nil [], .s (.int .i64 0), .lit .nil []] [(0, 2, .t 12), (2, 2, .t 13)]⟩,
 ⟨some 15, none, .call false 178 0 [.t 14]⟩,
 ⟨some 16, none, .len (.t 15)⟩,
 ⟨some 17, none, .mov (.k (.s (.int .i64 0)))⟩] [2, 3, 15, 16, 17]) (
 .block 0 (
 .loop (
 .seq (
 .reg [
 ⟨some 18, none, .bin .lss (.t 17) (.t 16)⟩] [2, 3, 15, 16, 17, 18]) (
 .seq (
 .cond (.t 18) (
 .skip) (
 .exit 0)) (
 .seq (
 .block 1 (
 .seq (
 .reg [
 ⟨some 19, none, .ixa (.t 15) (.t 17) 1 none⟩,
 ⟨some 20, none, .load (.t 19) 1 false⟩,
 ⟨some 6, none, .mov (.t 20)⟩] [2, 3, 6, 15, 16, 17]) (
 .seq (
 .drw [
 ⟨some 21, none, .load (.t 2) 2 true⟩,
 ⟨some 22, none, .mov (.t 6)⟩,
 ⟨some 23, none, .call false 179 0 [.t 21, .t 22]⟩,
 ⟨some 24, none, .load (.t 3) 2 true⟩,
 ⟨some 25, none, .mov (.t 6)⟩,
 ⟨some 26, none, .call false 179 0 [.t 24, .t 25]⟩,
 ⟨some 27, none, .bin .gtr (.t 23) (.t 26)⟩] [5] [] [2, 3, 15, 16, 17, 27]) (
 .cond (.t 27) (
 .seq (
 .reg [
 ⟨some 4, none, .mov (.k (.s (.bool false)))⟩] [4]) (
 .ret)) (
 .skip))))) (
 .reg [
 ⟨some 28, none, .bin .add (.t 17) (.k (.s (.int .i64 1)))⟩,
 ⟨some 17, none, .mov (.t 28)⟩] [2, 3, 15, 16, 17]))))))) (
 .seq (
 .reg [
 ⟨some 4, none, .mov (.k (.s (.bool true)))⟩] [4]) (
 .ret)))),
 [.t 4], none⟩

/-- bailey/baileyref12.Fresh -/
def F208 : FnIR := ⟨20,
 .seq (
 .reg [
 ⟨some 1, none, .bxl (.t 0)⟩,
 ⟨some 2, none, .mov (.k (.s (.int .u64 0)))⟩,
 ⟨some 3, none, .mov (.k (.s (.int .i64 0)))⟩] [1]) (
 .seq (
 .seq (
 .reg [
 ⟨some 4, none, .fad (.t 1) 7⟩,
 ⟨some 5, none, .load (.t 4) 1 false⟩,
 ⟨some 6, none, .bin .eql (.t 5) (.k (.s (.int .i64 63)))⟩,
 ⟨some 7, none, .mov (.t 6)⟩,
 ⟨some 8, some (7, false), .fad (.t 1) 0⟩,
 ⟨some 9, some (7, false), .load (.t 8) 1 false⟩,
 ⟨some 10, some (7, false), .bin .gtr (.t 9) (.k (.s (.int .u64 4398046511103)))⟩,
 ⟨some 11, none, .pick (.t 7) (.k (.s (.bool true))) (.t 10)⟩] [1, 11]) (
 .cond (.t 11) (
 .seq (
 .reg [
 ⟨some 2, none, .mov (.k (.s (.int .u64 0)))⟩,
 ⟨some 3, none, .mov (.k (.s (.int .i64 125)))⟩] [2, 3]) (
 .ret)) (
 .skip))) (
 .seq (
 .reg [
 ⟨some 12, none, .fad (.t 1) 0⟩,
 ⟨some 13, none, .load (.t 12) 1 false⟩,
 ⟨some 14, none, .bin .mul (.k (.s (.int .u64 64))) (.t 13)⟩,
 ⟨some 15, none, .fad (.t 1) 7⟩,
 ⟨some 16, none, .load (.t 15) 1 false⟩,
 ⟨some 17, none, .bin .add (.t 16) (.k (.s (.int .i64 1)))⟩,
 ⟨some 18, none, .cvi .u64 (.t 17)⟩,
 ⟨some 19, none, .bin .add (.t 14) (.t 18)⟩,
 ⟨some 2, none, .mov (.t 19)⟩,
 ⟨some 3, none, .mov (.k (.s (.int .i64 0)))⟩] [2, 3]) (
 .ret))),
 [.t 2, .t 3], none⟩

/-- bailey/baileyref10.raise -/
def F209 : FnIR := ⟨5,
 .seq (
 .reg [
 ⟨some 1, none, .bxl (.t 0)⟩,
 ⟨some 2, none, .alloc [.s (.int .i64 0), .lit .nil []]⟩] [1, 2]) (
 .seq (
 .reg [
 ⟨some 3, none, .load (.t 1) 2 true⟩,
 ⟨some 4, none, .call false 238 0 [.t 3, .k (.s (.int .i64 0)), .k (.s (.int .i64 5))]⟩,
 ⟨none, none, .store (.t 2) (.t 4) 2⟩] [2]) (
 .ret)),
 [.c 2 2 true], none⟩

/-- bailey/baileyref12.Drop -/
def F210 : FnIR := ⟨34,
 .seq (
 .reg [
 ⟨some 2, none, .box (.t 0)⟩,
 ⟨some 4, none, .alloc [.s (.int .u64 0), .s (.int .i64 0), .s (.int .i64 0), .lit .nil [], .s (.int .i64 0), .lit .nil [], .s (.int .i64 0), .s (.int .i64 0), .lit .nil [], .lit .nil [], .s (.int .u64 0), .s (.int .u64 0), .s (.int .u64 0), .s (.int .u64 0), .s (.int .i64 0), .s (.int .i64 0), .s (.bool false), .s (.int .u64 0), .s (.int .u64 0), .s (.int .u64 0), .s (.int .u64 0), .s (.int .u64 0), .s (.int .u64 0), .s (.int .u64 0), .s (.int .u64 0), .s (.int .u64 0)]⟩,
 ⟨some 5, none, .mov (.k (.s (.int .i64 0)))⟩] [1, 2, 4]) (
 .seq (
 .seq (
 .reg [
 ⟨some 9, none, .load (.t 2) 26 true⟩,
 ⟨some 10, none, .mov (.t 1)⟩,
 ⟨some 11, none, .call false 44 0 [.t 9, .t 10]⟩,
 ⟨some 12, none, .un .not (.t 11)⟩] [1, 2, 4, 12]) (
 .cond (.t 12) (
 .seq (
 .reg [
 ⟨some 13, none, .load (.t 2) 26 true⟩,
 ⟨none, none, .store (.t 4) (.t 13) 26⟩,
 ⟨some 5, none, .mov (.k (.s (.int .i64 124)))⟩] [4, 5]) (
 .ret)) (
 .skip))) (
 .seq (
 .reg [
 ⟨some 14, none, .bsl true 2 true [.s (.int .u64 0), .s (.int .i64 0)] 0 []⟩,
 ⟨some 6, none, .mov (.t 14)⟩] [1, 2, 4, 6]) (
 .seq (
 .seq (
 .reg [
 ⟨some 15, none, .fad (.t 2) 8⟩,
 ⟨some 16, none, .load (.t 15) 1 false⟩,
 ⟨some 17, none, .len (.t 16)⟩,
 ⟨some 18, none, .mov (.k (.s (.int .i64 0)))⟩] [1, 2, 4, 6, 16, 17, 18]) (
 .block 0 (
 .loop (
 .seq (
 .reg [
 ⟨some 19, none, .bin .lss (.t 18) (.t 17)⟩] [1, 2, 4, 6, 16, 17, 18, 19]) (
 .seq (
 .cond (.t 19) (
 .skip) (
 .exit 0)) (
 .seq (
 .block 1 (
 .seq (
 .reg [
 ⟨some 20, none, .ixa (.t 16) (.t 18) 2 none⟩,
 ⟨some 21, none, .load (.t 20) 2 true⟩,
 ⟨some 8, none, .alloc [.s (.int .u64 0), .s (.int .i64 0)]⟩,
 ⟨none, none, .store (.t 8) (.t 21) 2⟩] [1, 2, 4, 6, 8, 16, 17, 18]) (
 .seq (
 .reg [
 ⟨some 22, none, .fad (.t 8) 0⟩,
 ⟨some 23, none, .load (.t 22) 1 false⟩,
 ⟨some 24, none, .mov (.t 1)⟩,
 ⟨some 25, none, .bin .neq (.t 23) (.t 24)⟩] [1, 2, 4, 6, 8, 16, 17, 18, 25]) (
 .cond (.t 25) (
 .reg [
 ⟨some 26, none, .mov (.t 6)⟩,
 ⟨some 27, none, .load (.t 8) 2 true⟩,
 ⟨some 28, none, .bsl true 2 true [.s (.int .u64 0), .s (.int .i64 0)] 1 [(0, .t 27)]⟩,
 ⟨some 29, none, .app false (.t 26) (.t 28) 2 16 true⟩,
 ⟨some 6, none, .mov (.t 29)⟩] [1, 2, 4, 6, 16, 17, 18]) (
 .skip))))) (
 .reg [
 ⟨some 30, none, .bin .add (.t 18) (.k (.s (.int .i64 1)))⟩,
 ⟨some 18, none, .mov (.t 30)⟩] [1, 2, 4, 6, 16, 17, 18]))))))) (
 .seq (
 .reg [
 ⟨some 31, none, .mov (.t 6)⟩,
 ⟨some 32, none, .fad (.t 2) 8⟩,
 ⟨none, none, .store (.t 32) (.t 31) 1⟩] [2, 4]) (
 .seq (
 .reg [
 ⟨some 33, none, .load (.t 2) 26 true⟩,
 ⟨none, none, .store (.t 4) (.t 33) 26⟩,
 ⟨some 5, none, .mov (.k (.s (.int .i64 0)))⟩] [4, 5]) (
 .ret)))))),
 [.c 4 26 true, .t 5], none⟩

/-- bailey/baileyref12.Used -/
def F211 : FnIR := ⟨19,
 .seq (
 .reg [
 ⟨some 1, none, .bxl (.t 0)⟩,
 ⟨some 2, none, .mov (.k (.s (.int .i64 0)))⟩] [1]) (
 .seq (
 .reg [
 ⟨some 3, none, .mov (.k (.s (.int .i64 1)))⟩] [1, 3]) (
 .seq (
 .seq (
 .reg [
 ⟨some 6, none, .fad (.t 1) 8⟩,
 ⟨some 7, none, .load (.t 6) 1 false⟩,
 ⟨some 8, none, .len (.t 7)⟩,
 ⟨some 9, none, .mov (.k (.s (.int .i64 0)))⟩] [3, 7, 8, 9]) (
 .block 0 (
 .loop (
 .seq (
 .reg [
 ⟨some 10, none, .bin .lss (.t 9) (.t 8)⟩] [3, 7, 8, 9, 10]) (
 .seq (
 .cond (.t 10) (
 .skip) (
 .exit 0)) (
 .seq (
 .block 1 (
 .seq (
 .reg [
 ⟨some 11, none, .ixa (.t 7) (.t 9) 2 none⟩,
 ⟨some 12, none, .load (.t 11) 2 true⟩,
 ⟨some 5, none, .alloc [.s (.int .u64 0), .s (.int .i64 0)]⟩,
 ⟨none, none, .store (.t 5) (.t 12) 2⟩] [3, 5, 7, 8, 9]) (
 .reg [
 ⟨some 13, none, .mov (.t 3)⟩,
 ⟨some 14, none, .fad (.t 5) 1⟩,
 ⟨some 15, none, .load (.t 14) 1 false⟩,
 ⟨some 16, none, .bin .add (.t 13) (.t 15)⟩,
 ⟨some 3, none, .mov (.t 16)⟩] [3, 7, 8, 9]))) (
 .reg [
 ⟨some 17, none, .bin .add (.t 9) (.k (.s (.int .i64 1)))⟩,
 ⟨some 9, none, .mov (.t 17)⟩] [3, 7, 8, 9]))))))) (
 .seq (
 .reg [
 ⟨some 18, none, .mov (.t 3)⟩,
 ⟨some 2, none, .mov (.t 18)⟩] [2]) (
 .ret)))),
 [.t 2], none⟩

/-- bailey/baileyref09.Merge -/
def F212 : FnIR := ⟨44,
 .seq (
 .reg [
 ⟨some 3, none, .bxl (.t 0)⟩,
 ⟨some 4, none, .bxl (.t 1)⟩,
 ⟨some 6, none, .alloc [.s (.int .i64 0), .lit .nil []]⟩] [2, 3, 4, 6]) (
 .seq (
 .reg [
 ⟨some 10, none, .fad (.t 3) 0⟩,
 ⟨some 11, none, .load (.t 10) 1 false⟩,
 ⟨some 12, none, .fad (.t 4) 0⟩,
 ⟨some 13, none, .load (.t 12) 1 false⟩,
 ⟨some 14, none, .mov (.t 2)⟩,
 ⟨some 15, none, .call false 239 0 [.t 11, .t 13, .t 14]⟩,
 ⟨some 16, none, .build [.s (.int .i64 0), .lit .nil []] [(0, 1, .t 15)]⟩,
 ⟨some 7, none, .alloc [.s (.int .i64 0), .lit .nil []]⟩,
 ⟨none, none, .store (.t 7) (.t 16) 2⟩] [2, 3, 4, 6, 7]) (
 .seq (
 .seq (
 .reg [
 ⟨some 17, none, .load (.t 3) 2 true⟩,
 ⟨some 18, none, .load (.t 4) 2 true⟩,
 ⟨some 19, none, .build [.s (.int .i64 0), .lit .nil [], .s (.int .i64 0), .lit .nil []] [(0, 2, .t 17), (2, 2, .t 18)]⟩,
 ⟨some 20, none, .call false 178 0 [.t 19]⟩,
 ⟨some 21, none, .len (.t 20)⟩,
 ⟨some 22, none, .mov (.k (.s (.int .i64 0)))⟩] [2, 3, 4, 6, 7, 20, 21, 22]) (
 .block 0 (
 .loop (
 .seq (
 .reg [
 ⟨some 23, none, .bin .lss (.t 22) (.t 21)⟩] [2, 3, 4, 6, 7, 20, 21, 22, 23]) (
 .seq (
 .cond (.t 23) (
 .skip) (
 .exit 0)) (
 .seq (
 .block 1 (
 .seq (
 .reg [
 ⟨some 24, none, .ixa (.t 20) (.t 22) 1 none⟩,
 ⟨some 25, none, .load (.t 24) 1 false⟩,
 ⟨some 9, none, .mov (.t 25)⟩] [2, 3, 4, 6, 7, 9, 20, 21, 22]) (
 .drw [
 ⟨some 26, none, .fad (.t 7) 1⟩,
 ⟨some 27, none, .load (.t 26) 1 false⟩,
 ⟨some 28, none, .mov (.t 9)⟩,
 ⟨some 29, none, .load (.t 3) 2 true⟩,
 ⟨some 30, none, .mov (.t 9)⟩,
 ⟨some 31, none, .call false 179 0 [.t 29, .t 30]⟩,
 ⟨some 32, none, .load (.t 4) 2 true⟩,
 ⟨some 33, none, .mov (.t 9)⟩,
 ⟨some 34, none, .call false 179 0 [.t 32, .t 33]⟩,
 ⟨some 35, none, .mov (.t 2)⟩,
 ⟨some 36, none, .call false 239 0 [.t 31, .t 34, .t 35]⟩,
 ⟨some 37, none, .build [.s (.int .u64 0), .s (.int .i64 0)] [(0, 1, .t 28), (1, 1, .t 36)]⟩,
 ⟨some 38, none, .bsl true 2 true [.s (.int .u64 0), .s (.int .i64 0)] 1 [(0, .t 37)]⟩,
 ⟨some 39, none, .app false (.t 27) (.t 38) 2 16 true⟩,
 ⟨some 40, none, .fad (.t 7) 1⟩,
 ⟨none, none, .store (.t 40) (.t 39) 1⟩] [] [] [2, 3, 4, 6, 7, 20, 21, 22]))) (
 .reg [
 ⟨some 41, none, .bin .add (.t 22) (.k (.s (.int .i64 1)))⟩,
 ⟨some 22, none, .mov (.t 41)⟩] [2, 3, 4, 6, 7, 20, 21, 22]))))))) (
 .seq (
 .reg [
 ⟨some 42, none, .load (.t 7) 2 true⟩,
 ⟨some 43, none, .call false 110 0 [.t 42]⟩,
 ⟨none, none, .store (.t 6) (.t 43) 2⟩] [6]) (
 .ret)))),
 [.c 6 2 true], none⟩

/-- bailey/baileyref10.Enters -/
def F213 : FnIR := ⟨54,
 .seq (
 .reg [
 ⟨some 6, none, .bxl (.t 0)⟩,
 ⟨some 7, none, .bxl (.t 1)⟩,
 ⟨some 8, none, .bxl (.t 2)⟩,
 ⟨some 9, none, .bxl (.t 3)⟩,
 ⟨some 10, none, .bxl (.t 4)⟩,
 ⟨some 11, none, .bxl (.t 5)⟩,
 ⟨some 12, none, .mov (.k (.s (.bool false)))⟩] [6, 7, 8, 9, 10, 11]) (
 .seq (
 .seq (
 .reg [
 ⟨some 14, none, .load (.t 10) 2 true⟩,
 ⟨some 15, none, .call false 64 0 [.t 14]⟩,
 ⟨some 16, none, .un .not (.t 15)⟩,
 ⟨some 17, none, .mov (.t 16)⟩,
 ⟨some 18, some (17, false), .load (.t 11) 2 true⟩,
 ⟨some 19, some (17, false), .call false 64 0 [.t 18]⟩,
 ⟨some 20, some (17, false), .un .not (.t 19)⟩,
 ⟨some 21, none, .pick (.t 17) (.k (.s (.bool true))) (.t 20)⟩,
 ⟨some 22, none, .mov (.t 21)⟩,
 ⟨some 23, some (22, false), .load (.t 11) 2 true⟩,
 ⟨some 24, some (22, false), .call false 65 0 [.t 23]⟩,
 ⟨some 25, some (22, false), .un .not (.t 24)⟩,
 ⟨some 26, none, .pick (.t 22) (.k (.s (.bool true))) (.t 25)⟩,
 ⟨some 27, none, .mov (.t 26)⟩,
 ⟨some 28, some (27, false), .load (.t 6) 2 true⟩,
 ⟨some 29, some (27, false), .load (.t 9) 2 true⟩,
 ⟨some 30, some (27, false), .call false 207 0 [.t 28, .t 29]⟩,
 ⟨some 31, some (27, false), .un .not (.t 30)⟩,
 ⟨some 32, none, .pick (.t 27) (.k (.s (.bool true))) (.t 31)⟩] [6, 7, 8, 9, 10, 11, 32]) (
 .cond (.t 32) (
 .seq (
 .reg [
 ⟨some 12, none, .mov (.k (.s (.bool false)))⟩] [12]) (
 .ret)) (
 .skip))) (
 .seq (
 .drw [
 ⟨some 33, none, .load (.t 6) 2 true⟩,
 ⟨some 34, none, .call false 209 0 [.t 33]⟩,
 ⟨some 35, none, .load (.t 8) 2 true⟩,
 ⟨some 36, none, .call false 209 0 [.t 35]⟩,
 ⟨some 37, none, .call false 212 0 [.t 34, .t 36, .k (.s (.bool true))]⟩,
 ⟨some 38, none, .call false 238 0 [.t 37, .k (.s (.int .i64 5)), .k (.s (.int .i64 0))]⟩,
 ⟨some 13, none, .alloc [.s (.int .i64 0), .lit .nil []]⟩,
 ⟨none, none, .store (.t 13) (.t 38) 2⟩] [] [] [7, 9, 10, 11, 13]) (
 .seq (
 .drw [
 ⟨some 39, none, .load (.t 13) 2 true⟩,
 ⟨some 40, none, .load (.t 10) 2 true⟩,
 ⟨some 41, none, .call false 207 0 [.t 39, .t 40]⟩,
 ⟨some 42, none, .mov (.t 41)⟩,
 ⟨some 43, some (42, true), .load (.t 10) 2 true⟩,
 ⟨some 44, some (42, true), .load (.t 11) 2 true⟩,
 ⟨some 45, some (42, true), .call false 207 0 [.t 43, .t 44]⟩,
 ⟨some 46, none, .pick (.t 42) (.t 45) (.k (.s (.bool false)))⟩,
 ⟨some 47, none, .mov (.t 46)⟩,
 ⟨some 48, some (47, true), .load (.t 11) 2 true⟩,
 ⟨some 49, some (47, true), .load (.t 7) 2 true⟩,
 ⟨some 50, some (47, true), .load (.t 9) 2 true⟩,
 ⟨some 51, some (47, true), .call false 212 0 [.t 49, .t 50, .k (.s (.bool true))]⟩,
 ⟨some 52, some (47, true), .call false 207 0 [.t 48, .t 51]⟩,
 ⟨some 53, none, .pick (.t 47) (.t 52) (.k (.s (.bool false)))⟩,
 ⟨some 12, none, .mov (.t 53)⟩] [2, 6, 13] [] [12]) (
 .ret)))),
 [.t 12], none⟩

/-- bailey/baileyref09.Set -/
def F214 : FnIR := ⟨20,
 .seq (
 .reg [
 ⟨some 3, none, .bxl (.t 0)⟩,
 ⟨some 6, none, .alloc [.s (.int .i64 0), .lit .nil []]⟩] [1, 2, 3, 6]) (
 .seq (
 .reg [
 ⟨some 8, none, .mov (.t 1)⟩,
 ⟨some 9, none, .mov (.t 2)⟩,
 ⟨some 10, none, .build [.s (.int .u64 0), .s (.int .i64 0)] [(0, 1, .t 8), (1, 1, .t 9)]⟩,
 ⟨some 11, none, .bsl true 2 true [.s (.int .u64 0), .s (.int .i64 0)] 1 [(0, .t 10)]⟩,
 ⟨some 7, none, .mov (.t 11)⟩] [3, 6, 7]) (
 .seq (
 .drw [
 ⟨some 12, none, .fad (.t 3) 0⟩,
 ⟨some 13, none, .load (.t 12) 1 false⟩,
 ⟨some 14, none, .mov (.t 7)⟩,
 ⟨some 15, none, .fad (.t 3) 1⟩,
 ⟨some 16, none, .load (.t 15) 1 false⟩,
 ⟨some 17, none, .app false (.t 14) (.t 16) 2 16 true⟩,
 ⟨some 18, none, .build [.s (.int .i64 0), .lit .nil []] [(0, 1, .t 13), (1, 1, .t 17)]⟩,
 ⟨some 19, none, .call false 110 0 [.t 18]⟩,
 ⟨none, none, .store (.t 6) (.t 19) 2⟩] [7] [(1, 5)] [6]) (
 .ret))),
 [.c 6 2 true], none⟩

/-- bailey/baileyref01.Less -/
def F215 : FnIR := ⟨10,
 .seq (
 .reg [
 ⟨some 4, none, .mov (.k (.s (.bool false)))⟩] [0, 1]) (
 .seq (
 .reg [
 ⟨some 5, none, .mov (.t 0)⟩,
 ⟨some 6, none, .call false 240 0 [.t 5]⟩,
 ⟨some 7, none, .mov (.t 1)⟩,
 ⟨some 8, none, .call false 240 0 [.t 7]⟩,
 ⟨some 9, none, .bin .lss (.t 6) (.t 8)⟩,
 ⟨some 4, none, .mov (.t 9)⟩] [4]) (
 .ret)),
 [.t 4], none⟩

/-- bailey/baileyref17.named -/
def F216 : FnIR := ⟨9,
 .seq (
 .reg [
 ⟨some 2, none, .mov (.k (.s (.bool false)))⟩] [0]) (
 .seq (
 .reg [
 ⟨some 3, none, .mov (.t 0)⟩,
 ⟨some 4, none, .bin .gtr (.t 3) (.k (.s (.int .u64 0)))⟩,
 ⟨some 5, none, .mov (.t 4)⟩,
 ⟨some 6, some (5, true), .mov (.t 0)⟩,
 ⟨some 7, some (5, true), .bin .lss (.t 6) (.k (.s (.int .u64 281474976710656)))⟩,
 ⟨some 8, none, .pick (.t 5) (.t 7) (.k (.s (.bool false)))⟩,
 ⟨some 2, none, .mov (.t 8)⟩] [2]) (
 .ret)),
 [.t 2], none⟩

/-- slices.rotateLeft[bailey/api.Thing] -/
def F217 : FnIR := ⟨14,
 .seq (
 .reg [
 ⟨some 4, none, .mov (.t 0)⟩,
 ⟨some 5, none, .mov (.t 1)⟩,
 ⟨some 6, none, .slc (.t 4) none (some (.t 5)) none 26 true⟩,
 ⟨some 7, none, .call false 241 0 [.t 6]⟩] [0, 1]) (
 .seq (
 .reg [
 ⟨some 8, none, .mov (.t 0)⟩,
 ⟨some 9, none, .mov (.t 1)⟩,
 ⟨some 10, none, .slc (.t 8) (some (.t 9)) none none 26 true⟩,
 ⟨some 11, none, .call false 241 0 [.t 10]⟩] [0]) (
 .reg [
 ⟨some 12, none, .mov (.t 0)⟩,
 ⟨some 13, none, .call false 241 0 [.t 12]⟩] [])),
 [], none⟩

/-- slices.siftDownOrdered[uint64] -/
def F218 : FnIR := ⟨76,
 .seq (
 .reg [
 ⟨some 10, none, .mov (.t 1)⟩,
 ⟨some 8, none, .mov (.t 10)⟩] [0, 2, 3, 8]) (
 .block 0 (
 .loop (
 .block 1 (
 .seq (
 .reg [
 ⟨some 11, none, .mov (.t 8)⟩,
 ⟨some 12, none, .bin .mul (.k (.s (.int .i64 2))) (.t 11)⟩,
 ⟨some 13, none, .bin .add (.t 12) (.k (.s (.int .i64 1)))⟩,
 ⟨some 9, none, .mov (.t 13)⟩] [0, 2, 3, 8, 9]) (
 .seq (
 .seq (
 .reg [
 ⟨some 14, none, .mov (.t 9)⟩,
 ⟨some 15, none, .mov (.t 2)⟩,
 ⟨some 16, none, .bin .geq (.t 14) (.t 15)⟩] [0, 2, 3, 8, 9, 16]) (
 .cond (.t 16) (
 .exit 0) (
 .skip))) (
 .seq (
 .seq (
 .drw [
 ⟨some 17, none, .mov (.t 9)⟩,
 ⟨some 18, none, .bin .add (.t 17) (.k (.s (.int .i64 1)))⟩,
 ⟨some 19, none, .mov (.t 2)⟩,
 ⟨some 20, none, .bin .lss (.t 18) (.t 19)⟩,
 ⟨some 21, none, .mov (.t 20)⟩,
 ⟨some 22, some (21, true), .mov (.t 0)⟩,
 ⟨some 23, some (21, true), .mov (.t 3)⟩,
 ⟨some 24, some (21, true), .mov (.t 9)⟩,
 ⟨some 25, some (21, true), .bin .add (.t 23) (.t 24)⟩,
 ⟨some 26, some (21, true), .ixa (.t 22) (.t 25) 1 none⟩,
 ⟨some 27, some (21, true), .load (.t 26) 1 false⟩,
 ⟨some 28, some (21, true), .mov (.t 0)⟩,
 ⟨some 29, some (21, true), .mov (.t 3)⟩,
 ⟨some 30, some (21, true), .mov (.t 9)⟩,
 ⟨some 31, some (21, true), .bin .add (.t 29) (.t 30)⟩,
 ⟨some 32, some (21, true), .bin .add (.t 31) (.k (.s (.int .i64 1)))⟩,
 ⟨some 33, some (21, true), .ixa (.t 28) (.t 32) 1 none⟩,
 ⟨some 34, some (21, true), .load (.t 33) 1 false⟩,
 ⟨some 35, some (21, true), .call false 173 0 [.t 27, .t 34]⟩,
 ⟨some 36, none, .pick (.t 21) (.t 35) (.k (.s (.bool false)))⟩] [18] [] [0, 2, 3, 8, 9, 36]) (
 .cond (.t 36) (
 .reg [
 ⟨some 37, none, .mov (.t 9)⟩,
 ⟨some 38, none, .bin .add (.t 37) (.k (.s (.int .i64 1)))⟩,
 ⟨some 9, none, .mov (.t 38)⟩] [0, 2, 3, 8, 9]) (
 .skip))) (
 .seq (
 .seq (
 .drw [
 ⟨some 39, none, .mov (.t 0)⟩,
 ⟨some 40, none, .mov (.t 3)⟩,
 ⟨some 41, none, .mov (.t 8)⟩,
 ⟨some 42, none, .bin .add (.t 40) (.t 41)⟩,
 ⟨some 43, none, .ixa (.t 39) (.t 42) 1 none⟩,
 ⟨some 44, none, .load (.t 43) 1 false⟩,
 ⟨some 45, none, .mov (.t 0)⟩,
 ⟨some 46, none, .mov (.t 3)⟩,
 ⟨some 47, none, .mov (.t 9)⟩,
 ⟨some 48, none, .bin .add (.t 46) (.t 47)⟩,
 ⟨some 49, none, .ixa (.t 45) (.t 48) 1 none⟩,
 ⟨some 50, none, .load (.t 49) 1 false⟩,
 ⟨some 51, none, .call false 173 0 [.t 44, .t 50]⟩,
 ⟨some 52, none, .un .not (.t 51)⟩] [12] [] [0, 2, 3, 8, 9, 52]) (
 .cond (.t 52) (
 .ret) (
 .skip))) (
 .seq (
 .drw [
 ⟨some 53, none, .mov (.t 0)⟩,
 ⟨some 54, none, .mov (.t 3)⟩,
 ⟨some 55, none, .mov (.t 8)⟩,
 ⟨some 56, none, .bin .add (.t 54) (.t 55)⟩,
 ⟨some 57, none, .mov (.t 0)⟩,
 ⟨some 58, none, .mov (.t 3)⟩,
 ⟨some 59, none, .mov (.t 9)⟩,
 ⟨some 60, none, .bin .add (.t 58) (.t 59)⟩,
 ⟨some 61, none, .mov (.t 0)⟩,
 ⟨some 62, none, .mov (.t 3)⟩,
 ⟨some 63, none, .mov (.t 9)⟩,
 ⟨some 64, none, .bin .add (.t 62) (.t 63)⟩,
 ⟨some 65, none, .ixa (.t 61) (.t 64) 1 none⟩,
 ⟨some 66, none, .load (.t 65) 1 false⟩,
 ⟨some 67, none, .mov (.t 0)⟩,
 ⟨some 68, none, .mov (.t 3)⟩,
 ⟨some 69, none, .mov (.t 8)⟩,
 ⟨some 70, none, .bin .add (.t 68) (.t 69)⟩,
 ⟨some 71, none, .ixa (.t 67) (.t 70) 1 none⟩,
 ⟨some 72, none, .load (.t 71) 1 false⟩,
 ⟨some 73, none, .ixa (.t 53) (.t 56) 1 none⟩,
 ⟨none, none, .store (.t 73) (.t 66) 1⟩,
 ⟨some 74, none, .ixa (.t 57) (.t 60) 1 none⟩,
 ⟨none, none, .store (.t 74) (.t 72) 1⟩] [] [] [0, 2, 3, 9]) (
 .reg [
 ⟨some 75, none, .mov (.t 9)⟩,
 ⟨some 8, none, .mov (.t 75)⟩] [0, 2, 3, 8]))))))))),
 [], none⟩

/-- slices.nextPowerOfTwo -/
def F219 : FnIR := ⟨7,
 .seq (
 .reg [
 ⟨some 2, none, .mov (.k (.s (.int .u64 0)))⟩] [0]) (
 .seq (
 .reg [
 ⟨some 3, none, .mov (.t 0)⟩,
 ⟨some 4, none, .cvi .u64 (.t 3)⟩,
 ⟨some 5, none, .call false 109 0 [.t 4]⟩,
 ⟨some 6, none, .bin .shl (.k (.s (.int .u64 1))) (.t 5)⟩,
 ⟨some 2, none, .mov (.t 6)⟩] [2]) (
 .ret)),
 [.t 2], none⟩

/-- (*slices.xorshift).Next -/
def F220 : FnIR := ⟨33,
 .seq (
 .reg [
 ⟨some 2, none, .mov (.k (.s (.int .u64 0)))⟩] [0]) (
 .seq (
 .drw [
 ⟨some 3, none, .mov (.t 0)⟩,
 ⟨some 4, none, .nck (.t 3)⟩,
 ⟨some 5, none, .load (.t 4) 1 false⟩,
 ⟨some 6, none, .mov (.t 0)⟩,
 ⟨some 7, none, .nck (.t 6)⟩,
 ⟨some 8, none, .load (.t 7) 1 false⟩,
 ⟨some 9, none, .bin .shl (.t 8) (.k (.s (.int .u64 13)))⟩,
 ⟨some 10, none, .bin .xor (.t 5) (.t 9)⟩,
 ⟨some 11, none, .nck (.t 3)⟩,
 ⟨none, none, .store (.t 11) (.t 10) 1⟩] [] [] [0]) (
 .seq (
 .drw [
 ⟨some 12, none, .mov (.t 0)⟩,
 ⟨some 13, none, .nck (.t 12)⟩,
 ⟨some 14, none, .load (.t 13) 1 false⟩,
 ⟨some 15, none, .mov (.t 0)⟩,
 ⟨some 16, none, .nck (.t 15)⟩,
 ⟨some 17, none, .load (.t 16) 1 false⟩,
 ⟨some 18, none, .bin .shr (.t 17) (.k (.s (.int .u64 7)))⟩,
 ⟨some 19, none, .bin .xor (.t 14) (.t 18)⟩,
 ⟨some 20, none, .nck (.t 12)⟩,
 ⟨none, none, .store (.t 20) (.t 19) 1⟩] [] [] [0]) (
 .seq (
 .drw [
 ⟨some 21, none, .mov (.t 0)⟩,
 ⟨some 22, none, .nck (.t 21)⟩,
 ⟨some 23, none, .load (.t 22) 1 false⟩,
 ⟨some 24, none, .mov (.t 0)⟩,
 ⟨some 25, none, .nck (.t 24)⟩,
 ⟨some 26, none, .load (.t 25) 1 false⟩,
 ⟨some 27, none, .bin .shl (.t 26) (.k (.s (.int .u64 17)))⟩,
 ⟨some 28, none, .bin .xor (.t 23) (.t 27)⟩,
 ⟨some 29, none, .nck (.t 21)⟩,
 ⟨none, none, .store (.t 29) (.t 28) 1⟩] [] [] [0]) (
 .seq (
 .reg [
 ⟨some 30, none, .mov (.t 0)⟩,
 ⟨some 31, none, .nck (.t 30)⟩,
 ⟨some 32, none, .load (.t 31) 1 false⟩,
 ⟨some 2, none, .mov (.t 32)⟩] [2]) (
 .ret))))),
 [.t 2], none⟩

/-- slices.medianAdjacentOrdered[uint64] -/
def F221 : FnIR := ⟨15,
 .seq (
 .reg [
 ⟨some 6, none, .mov (.k (.s (.int .i64 0)))⟩] [0, 1, 2]) (
 .seq (
 .reg [
 ⟨some 7, none, .mov (.t 0)⟩,
 ⟨some 8, none, .mov (.t 1)⟩,
 ⟨some 9, none, .bin .sub (.t 8) (.k (.s (.int .i64 1)))⟩,
 ⟨some 10, none, .mov (.t 1)⟩,
 ⟨some 11, none, .mov (.t 1)⟩,
 ⟨some 12, none, .bin .add (.t 11) (.k (.s (.int .i64 1)))⟩,
 ⟨some 13, none, .mov (.t 2)⟩,
 ⟨some 14, none, .call false 222 0 [.t 7, .t 9, .t 10, .t 12, .t 13]⟩,
 ⟨some 6, none, .mov (.t 14)⟩] [6]) (
 .ret)),
 [.t 6], none⟩

/-- slices.medianOrdered[uint64] -/
def F222 : FnIR := ⟨36,
 .seq (
 .reg [
 ⟨some 10, none, .mov (.k (.s (.int .i64 0)))⟩] [0, 1, 2, 3, 4]) (
 .seq (
 .reg [
 ⟨some 12, none, .mov (.t 0)⟩,
 ⟨some 13, none, .mov (.t 1)⟩,
 ⟨some 14, none, .mov (.t 2)⟩,
 ⟨some 15, none, .mov (.t 4)⟩,
 ⟨some 16, none, .call false 242 0 [.t 12, .t 13, .t 14, .t 15]⟩,
 ⟨some 11, none, .mov (.t 16)⟩,
 ⟨some 17, none, .ext (.t 11) 0⟩,
 ⟨some 18, none, .ext (.t 11) 1⟩,
 ⟨some 1, none, .mov (.t 17)⟩,
 ⟨some 2, none, .mov (.t 18)⟩] [0, 1, 2, 3, 4]) (
 .seq (
 .reg [
 ⟨some 20, none, .mov (.t 0)⟩,
 ⟨some 21, none, .mov (.t 2)⟩,
 ⟨some 22, none, .mov (.t 3)⟩,
 ⟨some 23, none, .mov (.t 4)⟩,
 ⟨some 24, none, .call false 242 0 [.t 20, .t 21, .t 22, .t 23]⟩,
 ⟨some 19, none, .mov (.t 24)⟩,
 ⟨some 25, none, .ext (.t 19) 0⟩,
 ⟨some 26, none, .ext (.t 19) 1⟩,
 ⟨some 2, none, .mov (.t 25)⟩,
 ⟨some 3, none, .mov (.t 26)⟩] [0, 1, 2, 4]) (
 .seq (
 .reg [
 ⟨some 28, none, .mov (.t 0)⟩,
 ⟨some 29, none, .mov (.t 1)⟩,
 ⟨some 30, none, .mov (.t 2)⟩,
 ⟨some 31, none, .mov (.t 4)⟩,
 ⟨some 32, none, .call false 242 0 [.t 28, .t 29, .t 30, .t 31]⟩,
 ⟨some 27, none, .mov (.t 32)⟩,
 ⟨some 33, none, .ext (.t 27) 0⟩,
 ⟨some 34, none, .ext (.t 27) 1⟩,
 ⟨some 1, none, .mov (.t 33)⟩,
 ⟨some 2, none, .mov (.t 34)⟩] [2]) (
 .seq (
 .reg [
 ⟨some 35, none, .mov (.t 2)⟩,
 ⟨some 10, none, .mov (.t 35)⟩] [10]) (
 .ret))))),
 [.t 10], none⟩

/-- slices.stableCmpFunc[bailey/api.Cat] -/
def F223 : FnIR := ⟨63,
 .seq (
 .reg [
 ⟨some 6, none, .mov (.k (.s (.int .i64 20)))⟩] [0, 1, 2, 6]) (
 .seq (
 .reg [
 ⟨some 10, none, .mov (.t 6)⟩,
 ⟨some 7, none, .mov (.k (.s (.int .i64 0)))⟩,
 ⟨some 8, none, .mov (.t 10)⟩] [0, 1, 2, 6, 7, 8]) (
 .seq (
 .block 0 (
 .loop (
 .seq (
 .seq (
 .reg [
 ⟨some 11, none, .mov (.t 8)⟩,
 ⟨some 12, none, .mov (.t 1)⟩,
 ⟨some 13, none, .bin .leq (.t 11) (.t 12)⟩] [0, 1, 2, 6, 7, 8, 13]) (
 .cond (.t 13) (
 .skip) (
 .exit 0))) (
 .block 1 (
 .seq (
 .reg [
 ⟨some 14, none, .mov (.t 0)⟩,
 ⟨some 15, none, .mov (.t 7)⟩,
 ⟨some 16, none, .mov (.t 8)⟩,
 ⟨some 17, none, .mov (.t 2)⟩,
 ⟨some 18, none, .call true 243 0 [.t 14, .t 15, .t 16, .t 17]⟩] [0, 1, 2, 6, 8]) (
 .seq (
 .reg [
 ⟨some 19, none, .mov (.t 8)⟩,
 ⟨some 7, none, .mov (.t 19)⟩] [0, 1, 2, 6, 7, 8]) (
 .reg [
 ⟨some 20, none, .mov (.t 8)⟩,
 ⟨some 21, none, .mov (.t 6)⟩,
 ⟨some 22, none, .bin .add (.t 20) (.t 21)⟩,
 ⟨some 8, none, .mov (.t 22)⟩] [0, 1, 2, 6, 7, 8]))))))) (
 .seq (
 .reg [
 ⟨some 23, none, .mov (.t 0)⟩,
 ⟨some 24, none, .mov (.t 7)⟩,
 ⟨some 25, none, .mov (.t 1)⟩,
 ⟨some 26, none, .mov (.t 2)⟩,
 ⟨some 27, none, .call true 243 0 [.t 23, .t 24, .t 25, .t 26]⟩] [0, 1, 2, 6]) (
 .block 2 (
 .loop (
 .seq (
 .seq (
 .reg [
 ⟨some 28, none, .mov (.t 6)⟩,
 ⟨some 29, none, .mov (.t 1)⟩,
 ⟨some 30, none, .bin .lss (.t 28) (.t 29)⟩] [0, 1, 2, 6, 30]) (
 .cond (.t 30) (
 .skip) (
 .exit 2))) (
 .block 3 (
 .seq (
 .reg [
 ⟨some 31, none, .mov (.t 6)⟩,
 ⟨some 32, none, .bin .mul (.k (.s (.int .i64 2))) (.t 31)⟩,
 ⟨some 7, none, .mov (.k (.s (.int .i64 0)))⟩,
 ⟨some 8, none, .mov (.t 32)⟩] [0, 1, 2, 6, 7, 8]) (
 .seq (
 .block 4 (
 .loop (
 .seq (
 .seq (
 .reg [
 ⟨some 33, none, .mov (.t 8)⟩,
 ⟨some 34, none, .mov (.t 1)⟩,
 ⟨some 35, none, .bin .leq (.t 33) (.t 34)⟩] [0, 1, 2, 6, 7, 8, 35]) (
 .cond (.t 35) (
 .skip) (
 .exit 4))) (
 .block 5 (
 .seq (
 .reg [
 ⟨some 36, none, .mov (.t 0)⟩,
 ⟨some 37, none, .mov (.t 7)⟩,
 ⟨some 38, none, .mov (.t 7)⟩,
 ⟨some 39, none, .mov (.t 6)⟩,
 ⟨some 40, none, .bin .add (.t 38) (.t 39)⟩,
 ⟨some 41, none, .mov (.t 8)⟩,
 ⟨some 42, none, .mov (.t 2)⟩,
 ⟨some 43, none, .call true 244 0 [.t 36, .t 37, .t 40, .t 41, .t 42]⟩] [0, 1, 2, 6, 8]) (
 .seq (
 .reg [
 ⟨some 44, none, .mov (.t 8)⟩,
 ⟨some 7, none, .mov (.t 44)⟩] [0, 1, 2, 6, 7, 8]) (
 .reg [
 ⟨some 45, none, .mov (.t 8)⟩,
 ⟨some 46, none, .mov (.t 6)⟩,
 ⟨some 47, none, .bin .mul (.k (.s (.int .i64 2))) (.t 46)⟩,
 ⟨some 48, none, .bin .add (.t 45) (.t 47)⟩,
 ⟨some 8, none, .mov (.t 48)⟩] [0, 1, 2, 6, 7, 8]))))))) (
 .seq (
 .seq (
 .reg [
 ⟨some 49, none, .mov (.t 7)⟩,
 ⟨some 50, none, .mov (.t 6)⟩,
 ⟨some 51, none, .bin .add (.t 49) (.t 50)⟩,
 ⟨some 9, none, .mov (.t 51)⟩] [0, 1, 2, 6, 7, 9]) (
 .seq (
 .reg [
 ⟨some 52, none, .mov (.t 9)⟩,
 ⟨some 53, none, .mov (.t 1)⟩,
 ⟨some 54, none, .bin .lss (.t 52) (.t 53)⟩] [0, 1, 2, 6, 7, 9, 54]) (
 .cond (.t 54) (
 .reg [
 ⟨some 55, none, .mov (.t 0)⟩,
 ⟨some 56, none, .mov (.t 7)⟩,
 ⟨some 57, none, .mov (.t 9)⟩,
 ⟨some 58, none, .mov (.t 1)⟩,
 ⟨some 59, none, .mov (.t 2)⟩,
 ⟨some 60, none, .call true 244 0 [.t 55, .t 56, .t 57, .t 58, .t 59]⟩] [0, 1, 2, 6]) (
 .skip)))) (
 .reg [
 ⟨some 61, none, .mov (.t 6)⟩,
 ⟨some 62, none, .bin .mul (.t 61) (.k (.s (.int .i64 2)))⟩,
 ⟨some 6, none, .mov (.t 62)⟩] [0, 1, 2, 6]))))))))))),
 [], none⟩

/-- bailey/label.Leq -/
def F224 : FnIR := ⟨26,
 .seq (
 .reg [
 ⟨some 2, none, .bxl (.t 0)⟩,
 ⟨some 3, none, .bxl (.t 1)⟩,
 ⟨some 4, none, .mov (.k (.s (.bool false)))⟩] [2, 3]) (
 .seq (
 .reg [
 ⟨some 6, none, .mkf 245 [] [.t 2, .t 3]⟩,
 ⟨some 5, none, .mov (.t 6)⟩] [2, 3, 5]) (
 .seq (
 .reg [
 ⟨some 7, none, .fad (.t 2) 0⟩,
 ⟨some 8, none, .load (.t 7) 1 false⟩,
 ⟨some 9, none, .fad (.t 3) 0⟩,
 ⟨some 10, none, .load (.t 9) 1 false⟩,
 ⟨some 11, none, .bin .leq (.t 8) (.t 10)⟩,
 ⟨some 12, none, .mov (.t 11)⟩,
 ⟨some 13, some (12, true), .fad (.t 2) 1⟩,
 ⟨some 14, some (12, true), .load (.t 13) 1 false⟩,
 ⟨some 15, some (12, true), .mov (.t 5)⟩,
 ⟨some 16, some (12, true), .call false 114 0 [.t 14, .t 15]⟩,
 ⟨some 17, some (12, true), .un .not (.t 16)⟩,
 ⟨some 18, none, .pick (.t 12) (.t 17) (.k (.s (.bool false)))⟩,
 ⟨some 19, none, .mov (.t 18)⟩,
 ⟨some 20, some (19, true), .fad (.t 3) 1⟩,
 ⟨some 21, some (19, true), .load (.t 20) 1 false⟩,
 ⟨some 22, some (19, true), .mov (.t 5)⟩,
 ⟨some 23, some (19, true), .call false 114 0 [.t 21, .t 22]⟩,
 ⟨some 24, some (19, true), .un .not (.t 23)⟩,
 ⟨some 25, none, .pick (.t 19) (.t 24) (.k (.s (.bool false)))⟩,
 ⟨some 4, none, .mov (.t 25)⟩] [4]) (
 .ret))),
 [.t 4], none⟩

/-- bailey/flow.pure$1 -/
def F225 : FnIR := ⟨6,
 .seq (
 .reg [
 ⟨some 1, none, .bxl (.t 0)⟩,
 ⟨some 2, none, .mov (.k (.s (.bool false)))⟩] [1]) (
 .seq (
 .reg [
 ⟨some 3, none, .fad (.t 1) 1⟩,
 ⟨some 4, none, .load (.t 3) 1 false⟩,
 ⟨some 5, none, .bin .eql (.t 4) (.k (.s (.int .i64 0)))⟩,
 ⟨some 2, none, .mov (.t 5)⟩] [2]) (
 .ret)),
 [.t 2], none⟩

/-- slices.rotateRight[bailey/api.Link] -/
def F227 : FnIR := ⟨10,
 .reg [
 ⟨some 4, none, .mov (.t 0)⟩,
 ⟨some 5, none, .mov (.t 0)⟩,
 ⟨some 6, none, .len (.t 5)⟩,
 ⟨some 7, none, .mov (.t 1)⟩,
 ⟨some 8, none, .bin .sub (.t 6) (.t 7)⟩,
 ⟨some 9, none, .call false 247 0 [.t 4, .t 8]⟩] [],
 [], none⟩

/-- bailey/label.merge -/
def F228 : FnIR := ⟨46,
 .seq (
 .reg [
 ⟨some 3, none, .bxl (.t 0)⟩,
 ⟨some 4, none, .bxl (.t 1)⟩,
 ⟨some 6, none, .alloc [.s (.int .i64 0), .lit .nil []]⟩] [2, 3, 4, 6]) (
 .seq (
 .reg [
 ⟨some 7, none, .mov (.k (.lit .nil []))⟩] [2, 3, 4, 6, 7]) (
 .seq (
 .seq (
 .reg [
 ⟨some 10, none, .fad (.t 3) 1⟩,
 ⟨some 11, none, .load (.t 10) 1 false⟩,
 ⟨some 12, none, .fad (.t 4) 1⟩,
 ⟨some 13, none, .load (.t 12) 1 false⟩,
 ⟨some 14, none, .bsl true 1 false [.lit .nil []] 2 [(0, .t 11), (1, .t 13)]⟩,
 ⟨some 15, none, .call false 248 0 [.t 14]⟩,
 ⟨some 16, none, .len (.t 15)⟩,
 ⟨some 17, none, .mov (.k (.s (.int .i64 0)))⟩] [2, 3, 4, 6, 7, 15, 16, 17]) (
 .block 0 (
 .loop (
 .seq (
 .reg [
 ⟨some 18, none, .bin .lss (.t 17) (.t 16)⟩] [2, 3, 4, 6, 7, 15, 16, 17, 18]) (
 .seq (
 .cond (.t 18) (
 .skip) (
 .exit 0)) (
 .seq (
 .block 1 (
 .seq (
 .reg [
 ⟨some 19, none, .ixa (.t 15) (.t 17) 2 none⟩,
 ⟨some 20, none, .load (.t 19) 2 true⟩,
 ⟨some 9, none, .alloc [.s (.int .u64 0), .s (.int .i64 0)]⟩,
 ⟨none, none, .store (.t 9) (.t 20) 2⟩] [2, 3, 4, 6, 7, 9, 15, 16, 17]) (
 .drw [
 ⟨some 21, none, .mov (.t 7)⟩,
 ⟨some 22, none, .fad (.t 9) 0⟩,
 ⟨some 23, none, .load (.t 22) 1 false⟩,
 ⟨some 24, none, .mov (.t 2)⟩,
 ⟨some 25, none, .load (.t 3) 2 true⟩,
 ⟨some 26, none, .fad (.t 9) 0⟩,
 ⟨some 27, none, .load (.t 26) 1 false⟩,
 ⟨some 28, none, .call false 246 0 [.t 25, .t 27]⟩,
 ⟨some 29, none, .load (.t 4) 2 true⟩,
 ⟨some 30, none, .fad (.t 9) 0⟩,
 ⟨some 31, none, .load (.t 30) 1 false⟩,
 ⟨some 32, none, .call false 246 0 [.t 29, .t 31]⟩,
 ⟨some 33, none, .clv false (.t 24) [.t 28, .t 32]⟩,
 ⟨some 34, none, .build [.s (.int .u64 0), .s (.int .i64 0)] [(0, 1, .t 23), (1, 1, .t 33)]⟩,
 ⟨some 35, none, .bsl true 2 true [.s (.int .u64 0), .s (.int .i64 0)] 1 [(0, .t 34)]⟩,
 ⟨some 36, none, .app false (.t 21) (.t 35) 2 16 true⟩,
 ⟨some 7, none, .mov (.t 36)⟩] [] [] [2, 3, 4, 6, 7, 15, 16, 17]))) (
 .reg [
 ⟨some 37, none, .bin .add (.t 17) (.k (.s (.int .i64 1)))⟩,
 ⟨some 17, none, .mov (.t 37)⟩] [2, 3, 4, 6, 7, 15, 16, 17]))))))) (
 .seq (
 .reg [
 ⟨some 38, none, .mov (.t 2)⟩,
 ⟨some 39, none, .fad (.t 3) 0⟩,
 ⟨some 40, none, .load (.t 39) 1 false⟩,
 ⟨some 41, none, .fad (.t 4) 0⟩,
 ⟨some 42, none, .load (.t 41) 1 false⟩,
 ⟨some 43, none, .clv false (.t 38) [.t 40, .t 42]⟩,
 ⟨some 44, none, .mov (.t 7)⟩,
 ⟨some 45, none, .call false 113 0 [.t 43, .t 44]⟩,
 ⟨none, none, .store (.t 6) (.t 45) 2⟩] [6]) (
 .ret)))),
 [.c 6 2 true], none⟩

/-- bailey/label.Join$1 -/
def F229 : FnIR := ⟨8,
 .seq (
 .reg [
 ⟨some 4, none, .mov (.k (.s (.int .i64 0)))⟩] [0, 1]) (
 .seq (
 .reg [
 ⟨some 5, none, .mov (.t 0)⟩,
 ⟨some 6, none, .mov (.t 1)⟩,
 ⟨some 7, none, .mx (.t 5) (.t 6)⟩,
 ⟨some 4, none, .mov (.t 7)⟩] [4]) (
 .ret)),
 [.t 4], none⟩

/-- bailey/label.turn -/
def F230 : FnIR := ⟨11,
 .seq (
 .reg [
 ⟨some 3, none, .bxl (.t 0)⟩,
 ⟨some 4, none, .bxl (.t 1)⟩,
 ⟨some 5, none, .bxl (.t 2)⟩,
 ⟨some 6, none, .alloc [.s (.int .i64 0), .lit .nil []]⟩] [3, 4, 5, 6]) (
 .seq (
 .reg [
 ⟨some 7, none, .load (.t 3) 2 true⟩,
 ⟨some 8, none, .load (.t 3) 2 true⟩,
 ⟨some 9, none, .mkf 249 [] [.t 4, .t 5]⟩,
 ⟨some 10, none, .call false 228 0 [.t 7, .t 8, .t 9]⟩,
 ⟨none, none, .store (.t 6) (.t 10) 2⟩] [6]) (
 .ret)),
 [.c 6 2 true], none⟩

/-- bailey/label.Lower -/
def F231 : FnIR := ⟨5,
 .seq (
 .reg [
 ⟨some 1, none, .bxl (.t 0)⟩,
 ⟨some 2, none, .alloc [.s (.int .i64 0), .lit .nil []]⟩] [1, 2]) (
 .seq (
 .reg [
 ⟨some 3, none, .load (.t 1) 2 true⟩,
 ⟨some 4, none, .call false 230 0 [.t 3, .k (.s (.int .i64 5)), .k (.s (.int .i64 0))]⟩,
 ⟨none, none, .store (.t 2) (.t 4) 2⟩] [2]) (
 .ret)),
 [.c 2 2 true], none⟩

/-- bailey/num.Key -/
def F232 : FnIR := ⟨12,
 .seq (
 .reg [
 ⟨some 2, none, .mov (.k (.s (.int .u64 0)))⟩] [0]) (
 .seq (
 .reg [
 ⟨some 3, none, .mov (.t 0)⟩,
 ⟨some 4, none, .call false 118 0 [.t 3]⟩,
 ⟨some 0, none, .mov (.t 4)⟩] [0]) (
 .seq (
 .seq (
 .reg [
 ⟨some 5, none, .mov (.t 0)⟩,
 ⟨some 6, none, .bin .shr (.t 5) (.k (.s (.int .u64 63)))⟩,
 ⟨some 7, none, .bin .eql (.t 6) (.k (.s (.int .u64 1)))⟩] [0, 7]) (
 .cond (.t 7) (
 .seq (
 .reg [
 ⟨some 8, none, .mov (.t 0)⟩,
 ⟨some 9, none, .un .xor (.t 8)⟩,
 ⟨some 2, none, .mov (.t 9)⟩] [2]) (
 .ret)) (
 .skip))) (
 .seq (
 .reg [
 ⟨some 10, none, .mov (.t 0)⟩,
 ⟨some 11, none, .bin .or (.t 10) (.k (.s (.int .u64 9223372036854775808)))⟩,
 ⟨some 2, none, .mov (.t 11)⟩] [2]) (
 .ret)))),
 [.t 2], none⟩

/-- bailey/codec.fail -/
def F233 : FnIR := ⟨4,
 .seq (
 .reg [
 ⟨some 2, none, .mov (.t 0)⟩] [2]) (
 .cond (.t 2) (
 .reg [
 ⟨some 3, none, .mki 27 (.k (.s (.int .i64 21)))⟩,
 ⟨none, none, .pan (.t 3)⟩] []) (
 .skip)),
 [], none⟩

/-- bailey/codec.width -/
def F234 : FnIR := ⟨15,
 .seq (
 .reg [
 ⟨some 2, none, .mov (.k (.s (.int .i64 0)))⟩] [0]) (
 .seq (
 .seq (
 .reg [
 ⟨some 3, none, .mov (.t 0)⟩] [0, 3]) (
 .block 0 (
 .seq (
 .seq (
 .reg [
 ⟨some 5, none, .bin .eql (.t 3) (.k (.s (.int .u8 49)))⟩,
 ⟨some 4, none, .mov (.t 5)⟩] [0, 3, 4]) (
 .cond (.t 4) (
 .skip) (
 .seq (
 .reg [
 ⟨some 6, none, .bin .eql (.t 3) (.k (.s (.int .u8 50)))⟩,
 ⟨some 4, none, .mov (.t 6)⟩] [0, 3, 4]) (
 .cond (.t 4) (
 .skip) (
 .seq (
 .reg [
 ⟨some 7, none, .bin .eql (.t 3) (.k (.s (.int .u8 52)))⟩,
 ⟨some 4, none, .mov (.t 7)⟩] [0, 3, 4]) (
 .cond (.t 4) (
 .skip) (
 .reg [
 ⟨some 8, none, .bin .eql (.t 3) (.k (.s (.int .u8 56)))⟩,
 ⟨some 4, none, .mov (.t 8)⟩] [0, 4]))))))) (
 .cond (.t 4) (
 .seq (
 .reg [
 ⟨some 9, none, .mov (.t 0)⟩,
 ⟨some 10, none, .bin .sub (.t 9) (.k (.s (.int .u8 48)))⟩,
 ⟨some 11, none, .cvi .i64 (.t 10)⟩,
 ⟨some 2, none, .mov (.t 11)⟩] [2]) (
 .ret)) (
 .skip))))) (
 .seq (
 .reg [
 ⟨some 12, none, .mov (.t 0)⟩,
 ⟨some 13, none, .bin .neq (.t 12) (.k (.s (.int .u8 98)))⟩,
 ⟨some 14, none, .call false 233 0 [.t 13]⟩] []) (
 .seq (
 .reg [
 ⟨some 2, none, .mov (.k (.s (.int .i64 0)))⟩] [2]) (
 .ret)))),
 [.t 2], none⟩

/-- bailey/codec.put -/
def F235 : FnIR := ⟨33,
 .seq (
 .reg [
 ⟨some 6, none, .mov (.k (.lit .nil []))⟩] [0, 1, 2]) (
 .seq (
 .reg [
 ⟨some 8, none, .mov (.t 2)⟩,
 ⟨some 9, none, .bin .lss (.t 8) (.k (.s (.int .i64 8)))⟩,
 ⟨some 10, none, .mov (.t 9)⟩,
 ⟨some 11, some (10, true), .mov (.t 1)⟩,
 ⟨some 12, some (10, true), .mov (.t 2)⟩,
 ⟨some 13, some (10, true), .bin .mul (.k (.s (.int .i64 8))) (.t 12)⟩,
 ⟨some 14, some (10, true), .bin .shr (.t 11) (.t 13)⟩,
 ⟨some 15, some (10, true), .bin .neq (.t 14) (.k (.s (.int .u64 0)))⟩,
 ⟨some 16, none, .pick (.t 10) (.t 15) (.k (.s (.bool false)))⟩,
 ⟨some 17, none, .call false 233 0 [.t 16]⟩] [0, 1, 2]) (
 .seq (
 .seq (
 .reg [
 ⟨some 18, none, .mov (.t 2)⟩,
 ⟨some 19, none, .bin .sub (.t 18) (.k (.s (.int .i64 1)))⟩,
 ⟨some 7, none, .mov (.t 19)⟩] [0, 1, 7]) (
 .block 0 (
 .loop (
 .seq (
 .seq (
 .reg [
 ⟨some 20, none, .mov (.t 7)⟩,
 ⟨some 21, none, .bin .geq (.t 20) (.k (.s (.int .i64 0)))⟩] [0, 1, 7, 21]) (
 .cond (.t 21) (
 .skip) (
 .exit 0))) (
 .seq (
 .block 1 (
 .reg [
 ⟨some 24, none, .mov (.t 0)⟩,
 ⟨some 25, none, .mov (.t 1)⟩,
 ⟨some 26, none, .mov (.t 7)⟩,
 ⟨some 27, none, .bin .mul (.k (.s (.int .i64 8))) (.t 26)⟩,
 ⟨some 28, none, .bin .shr (.t 25) (.t 27)⟩,
 ⟨some 29, none, .cvi .u8 (.t 28)⟩,
 ⟨some 30, none, .bsl true 1 false [.s (.int .u8 0)] 1 [(0, .t 29)]⟩,
 ⟨some 31, none, .app false (.t 24) (.t 30) 1 1 false⟩,
 ⟨some 0, none, .mov (.t 31)⟩] [0, 1, 7])) (
 .reg [
 ⟨some 22, none, .mov (.t 7)⟩,
 ⟨some 23, none, .bin .sub (.t 22) (.k (.s (.int .i64 1)))⟩,
 ⟨some 7, none, .mov (.t 23)⟩] [0, 1, 7])))))) (
 .seq (
 .reg [
 ⟨some 32, none, .mov (.t 0)⟩,
 ⟨some 6, none, .mov (.t 32)⟩] [6]) (
 .ret)))),
 [.t 6], none⟩

/-- (*bailey/codec.reader).num -/
def F236 : FnIR := ⟨23,
 .seq (
 .reg [
 ⟨some 4, none, .mov (.k (.s (.int .u64 0)))⟩] [0, 1]) (
 .seq (
 .reg [
 ⟨some 5, none, .mov (.k (.s (.int .u64 0)))⟩] [0, 1, 5]) (
 .seq (
 .seq (
 .reg [
 ⟨some 8, none, .mov (.t 0)⟩,
 ⟨some 9, none, .mov (.t 1)⟩,
 ⟨some 10, none, .call true 237 0 [.t 8, .t 9]⟩,
 ⟨some 11, none, .len (.t 10)⟩,
 ⟨some 12, none, .mov (.k (.s (.int .i64 0)))⟩] [5, 10, 11, 12]) (
 .block 0 (
 .loop (
 .seq (
 .reg [
 ⟨some 13, none, .bin .lss (.t 12) (.t 11)⟩] [5, 10, 11, 12, 13]) (
 .seq (
 .cond (.t 13) (
 .skip) (
 .exit 0)) (
 .seq (
 .block 1 (
 .seq (
 .reg [
 ⟨some 14, none, .ixa (.t 10) (.t 12) 1 none⟩,
 ⟨some 15, none, .load (.t 14) 1 false⟩,
 ⟨some 7, none, .mov (.t 15)⟩] [5, 7, 10, 11, 12]) (
 .reg [
 ⟨some 16, none, .mov (.t 5)⟩,
 ⟨some 17, none, .bin .shl (.t 16) (.k (.s (.int .u64 8)))⟩,
 ⟨some 18, none, .mov (.t 7)⟩,
 ⟨some 19, none, .cvi .u64 (.t 18)⟩,
 ⟨some 20, none, .bin .or (.t 17) (.t 19)⟩,
 ⟨some 5, none, .mov (.t 20)⟩] [5, 10, 11, 12]))) (
 .reg [
 ⟨some 21, none, .bin .add (.t 12) (.k (.s (.int .i64 1)))⟩,
 ⟨some 12, none, .mov (.t 21)⟩] [5, 10, 11, 12]))))))) (
 .seq (
 .reg [
 ⟨some 22, none, .mov (.t 5)⟩,
 ⟨some 4, none, .mov (.t 22)⟩] [4]) (
 .ret)))),
 [.t 4], none⟩

/-- (*bailey/codec.reader).take -/
def F237 : FnIR := ⟨30,
 .seq (
 .reg [
 ⟨some 4, none, .mov (.k (.lit .nil []))⟩] [0, 1]) (
 .seq (
 .reg [
 ⟨some 6, none, .mov (.t 1)⟩,
 ⟨some 7, none, .mov (.t 0)⟩,
 ⟨some 8, none, .nck (.t 7)⟩,
 ⟨some 9, none, .fad (.t 8) 0⟩,
 ⟨some 10, none, .load (.t 9) 1 false⟩,
 ⟨some 11, none, .len (.t 10)⟩,
 ⟨some 12, none, .bin .gtr (.t 6) (.t 11)⟩,
 ⟨some 13, none, .call false 233 0 [.t 12]⟩] [0, 1]) (
 .seq (
 .reg [
 ⟨some 14, none, .mov (.t 0)⟩,
 ⟨some 15, none, .nck (.t 14)⟩,
 ⟨some 16, none, .fad (.t 15) 0⟩,
 ⟨some 17, none, .load (.t 16) 1 false⟩,
 ⟨some 18, none, .mov (.t 1)⟩,
 ⟨some 19, none, .slc (.t 17) none (some (.t 18)) none 1 false⟩,
 ⟨some 5, none, .mov (.t 19)⟩] [0, 1, 5]) (
 .seq (
 .reg [
 ⟨some 20, none, .mov (.t 0)⟩,
 ⟨some 21, none, .mov (.t 0)⟩,
 ⟨some 22, none, .nck (.t 21)⟩,
 ⟨some 23, none, .fad (.t 22) 0⟩,
 ⟨some 24, none, .load (.t 23) 1 false⟩,
 ⟨some 25, none, .mov (.t 1)⟩,
 ⟨some 26, none, .slc (.t 24) (some (.t 25)) none none 1 false⟩,
 ⟨some 27, none, .nck (.t 20)⟩,
 ⟨some 28, none, .fad (.t 27) 0⟩,
 ⟨none, none, .store (.t 28) (.t 26) 1⟩] [5]) (
 .seq (
 .reg [
 ⟨some 29, none, .mov (.t 5)⟩,
 ⟨some 4, none, .mov (.t 29)⟩] [4]) (
 .ret))))),
 [.t 4], none⟩

/-- bailey/baileyref09.Turn -/
def F238 : FnIR := ⟨47,
 .seq (
 .reg [
 ⟨some 3, none, .bxl (.t 0)⟩,
 ⟨some 6, none, .alloc [.s (.int .i64 0), .lit .nil []]⟩] [1, 2, 3, 6]) (
 .seq (
 .reg [
 ⟨some 11, none, .fad (.t 3) 0⟩,
 ⟨some 12, none, .load (.t 11) 1 false⟩,
 ⟨some 13, none, .build [.s (.int .i64 0), .lit .nil []] [(0, 1, .t 12)]⟩,
 ⟨some 7, none, .alloc [.s (.int .i64 0), .lit .nil []]⟩,
 ⟨none, none, .store (.t 7) (.t 13) 2⟩] [1, 2, 3, 6, 7]) (
 .seq (
 .seq (
 .reg [
 ⟨some 14, none, .fad (.t 3) 0⟩,
 ⟨some 15, none, .load (.t 14) 1 false⟩,
 ⟨some 16, none, .mov (.t 1)⟩,
 ⟨some 17, none, .bin .eql (.t 15) (.t 16)⟩] [1, 2, 3, 6, 7, 17]) (
 .cond (.t 17) (
 .reg [
 ⟨some 18, none, .mov (.t 2)⟩,
 ⟨some 19, none, .fad (.t 7) 0⟩,
 ⟨none, none, .store (.t 19) (.t 18) 1⟩] [1, 2, 3, 6, 7]) (
 .skip))) (
 .seq (
 .seq (
 .reg [
 ⟨some 20, none, .load (.t 3) 2 true⟩,
 ⟨some 21, none, .build [.s (.int .i64 0), .lit .nil []] []⟩,
 ⟨some 22, none, .build [.s (.int .i64 0), .lit .nil [], .s (.int .i64 0), .lit .nil []] [(0, 2, .t 20), (2, 2, .t 21)]⟩,
 ⟨some 23, none, .call false 178 0 [.t 22]⟩,
 ⟨some 24, none, .len (.t 23)⟩,
 ⟨some 25, none, .mov (.k (.s (.int .i64 0)))⟩] [1, 2, 3, 6, 7, 23, 24, 25]) (
 .block 0 (
 .loop (
 .seq (
 .reg [
 ⟨some 26, none, .bin .lss (.t 25) (.t 24)⟩] [1, 2, 3, 6, 7, 23, 24, 25, 26]) (
 .seq (
 .cond (.t 26) (
 .skip) (
 .exit 0)) (
 .seq (
 .block 1 (
 .seq (
 .reg [
 ⟨some 27, none, .ixa (.t 23) (.t 25) 1 none⟩,
 ⟨some 28, none, .load (.t 27) 1 false⟩,
 ⟨some 9, none, .mov (.t 28)⟩] [1, 2, 3, 6, 7, 9, 23, 24, 25]) (
 .seq (
 .reg [
 ⟨some 29, none, .load (.t 3) 2 true⟩,
 ⟨some 30, none, .mov (.t 9)⟩,
 ⟨some 31, none, .call false 179 0 [.t 29, .t 30]⟩,
 ⟨some 10, none, .mov (.t 31)⟩] [1, 2, 3, 6, 7, 9, 10, 23, 24, 25]) (
 .seq (
 .seq (
 .reg [
 ⟨some 32, none, .mov (.t 10)⟩,
 ⟨some 33, none, .mov (.t 1)⟩,
 ⟨some 34, none, .bin .eql (.t 32) (.t 33)⟩] [1, 2, 3, 6, 7, 9, 10, 23, 24, 25, 34]) (
 .cond (.t 34) (
 .reg [
 ⟨some 35, none, .mov (.t 2)⟩,
 ⟨some 10, none, .mov (.t 35)⟩] [1, 2, 3, 6, 7, 9, 10, 23, 24, 25]) (
 .skip))) (
 .reg [
 ⟨some 36, none, .fad (.t 7) 1⟩,
 ⟨some 37, none, .load (.t 36) 1 false⟩,
 ⟨some 38, none, .mov (.t 9)⟩,
 ⟨some 39, none, .mov (.t 10)⟩,
 ⟨some 40, none, .build [.s (.int .u64 0), .s (.int .i64 0)] [(0, 1, .t 38), (1, 1, .t 39)]⟩,
 ⟨some 41, none, .bsl true 2 true [.s (.int .u64 0), .s (.int .i64 0)] 1 [(0, .t 40)]⟩,
 ⟨some 42, none, .app false (.t 37) (.t 41) 2 16 true⟩,
 ⟨some 43, none, .fad (.t 7) 1⟩,
 ⟨none, none, .store (.t 43) (.t 42) 1⟩] [1, 2, 3, 6, 7, 23, 24, 25]))))) (
 .reg [
 ⟨some 44, none, .bin .add (.t 25) (.k (.s (.int .i64 1)))⟩,
 ⟨some 25, none, .mov (.t 44)⟩] [1, 2, 3, 6, 7, 23, 24, 25]))))))) (
 .seq (
 .reg [
 ⟨some 45, none, .load (.t 7) 2 true⟩,
 ⟨some 46, none, .call false 110 0 [.t 45]⟩,
 ⟨none, none, .store (.t 6) (.t 46) 2⟩] [6]) (
 .ret))))),
 [.c 6 2 true], none⟩

/-- bailey/baileyref09.pick -/
def F239 : FnIR := ⟨14,
 .seq (
 .reg [
 ⟨some 6, none, .mov (.k (.s (.int .i64 0)))⟩] [0, 1, 2]) (
 .seq (
 .seq (
 .reg [
 ⟨some 7, none, .mov (.t 0)⟩,
 ⟨some 8, none, .mov (.t 1)⟩,
 ⟨some 9, none, .bin .gtr (.t 7) (.t 8)⟩,
 ⟨some 10, none, .mov (.t 2)⟩,
 ⟨some 11, none, .eqk .bools false (.t 9) (.t 10)⟩] [0, 1, 11]) (
 .cond (.t 11) (
 .seq (
 .reg [
 ⟨some 12, none, .mov (.t 0)⟩,
 ⟨some 6, none, .mov (.t 12)⟩] [6]) (
 .ret)) (
 .skip))) (
 .seq (
 .reg [
 ⟨some 13, none, .mov (.t 1)⟩,
 ⟨some 6, none, .mov (.t 13)⟩] [6]) (
 .ret))),
 [.t 6], none⟩

/-- bailey/baileyref01.Key -/
def F240 : FnIR := ⟨11,
 .seq (
 .reg [
 ⟨some 2, none, .mov (.k (.s (.int .u64 0)))⟩] [0]) (
 .seq (
 .reg [
 ⟨some 3, none, .mov (.t 0)⟩,
 ⟨some 4, none, .call false 66 0 [.t 3]⟩,
 ⟨some 0, none, .mov (.t 4)⟩] [0]) (
 .seq (
 .seq (
 .reg [
 ⟨some 5, none, .mov (.t 0)⟩,
 ⟨some 6, none, .bin .lss (.t 5) (.k (.s (.int .u64 9223372036854775808)))⟩] [0, 6]) (
 .cond (.t 6) (
 .seq (
 .reg [
 ⟨some 7, none, .mov (.t 0)⟩,
 ⟨some 8, none, .bin .add (.t 7) (.k (.s (.int .u64 9223372036854775808)))⟩,
 ⟨some 2, none, .mov (.t 8)⟩] [2]) (
 .ret)) (
 .skip))) (
 .seq (
 .reg [
 ⟨some 9, none, .mov (.t 0)⟩,
 ⟨some 10, none, .bin .sub (.k (.s (.int .u64 18446744073709551615))) (.t 9)⟩,
 ⟨some 2, none, .mov (.t 10)⟩] [2]) (
 .ret)))),
 [.t 2], none⟩

/-- slices.Reverse[[]bailey/api.Thing,bailey/api.Thing] -/
def F241 : FnIR := ⟨28,
 .seq (
 .reg [
 ⟨some 4, none, .mov (.t 0)⟩,
 ⟨some 5, none, .len (.t 4)⟩,
 ⟨some 6, none, .bin .sub (.t 5) (.k (.s (.int .i64 1)))⟩,
 ⟨some 2, none, .mov (.k (.s (.int .i64 0)))⟩,
 ⟨some 3, none, .mov (.t 6)⟩] [0, 2, 3]) (
 .block 0 (
 .loop (
 .seq (
 .seq (
 .reg [
 ⟨some 7, none, .mov (.t 2)⟩,
 ⟨some 8, none, .mov (.t 3)⟩,
 ⟨some 9, none, .bin .lss (.t 7) (.t 8)⟩] [0, 2, 3, 9]) (
 .cond (.t 9) (
 .skip) (
 .exit 0))) (
 .seq (
 .block 1 (
 .drw [
 ⟨some 14, none, .mov (.t 0)⟩,
 ⟨some 15, none, .mov (.t 2)⟩,
 ⟨some 16, none, .mov (.t 0)⟩,
 ⟨some 17, none, .mov (.t 3)⟩,
 ⟨some 18, none, .mov (.t 0)⟩,
 ⟨some 19, none, .mov (.t 3)⟩,
 ⟨some 20, none, .ixa (.t 18) (.t 19) 26 none⟩,
 ⟨some 21, none, .load (.t 20) 26 true⟩,
 ⟨some 22, none, .mov (.t 0)⟩,
 ⟨some 23, none, .mov (.t 2)⟩,
 ⟨some 24, none, .ixa (.t 22) (.t 23) 26 none⟩,
 ⟨some 25, none, .load (.t 24) 26 true⟩,
 ⟨some 26, none, .ixa (.t 14) (.t 15) 26 none⟩,
 ⟨none, none, .store (.t 26) (.t 21) 26⟩,
 ⟨some 27, none, .ixa (.t 16) (.t 17) 26 none⟩,
 ⟨none, none, .store (.t 27) (.t 25) 26⟩] [] [] [0, 2, 3])) (
 .reg [
 ⟨some 10, none, .mov (.t 2)⟩,
 ⟨some 11, none, .bin .add (.t 10) (.k (.s (.int .i64 1)))⟩,
 ⟨some 12, none, .mov (.t 3)⟩,
 ⟨some 13, none, .bin .sub (.t 12) (.k (.s (.int .i64 1)))⟩,
 ⟨some 2, none, .mov (.t 11)⟩,
 ⟨some 3, none, .mov (.t 13)⟩] [0, 2, 3]))))),
 [], none⟩

/-- slices.order2Ordered[uint64] -/
def F242 : FnIR := ⟨28,
 .seq (
 .reg [
 ⟨some 8, none, .mov (.k (.s (.int .i64 0)))⟩,
 ⟨some 9, none, .mov (.k (.s (.int .i64 0)))⟩] [0, 1, 2, 3]) (
 .seq (
 .seq (
 .drw [
 ⟨some 10, none, .mov (.t 0)⟩,
 ⟨some 11, none, .mov (.t 2)⟩,
 ⟨some 12, none, .ixa (.t 10) (.t 11) 1 none⟩,
 ⟨some 13, none, .load (.t 12) 1 false⟩,
 ⟨some 14, none, .mov (.t 0)⟩,
 ⟨some 15, none, .mov (.t 1)⟩,
 ⟨some 16, none, .ixa (.t 14) (.t 15) 1 none⟩,
 ⟨some 17, none, .load (.t 16) 1 false⟩,
 ⟨some 18, none, .call false 173 0 [.t 13, .t 17]⟩] [8] [] [1, 2, 3, 18]) (
 .cond (.t 18) (
 .seq (
 .reg [
 ⟨some 19, none, .mov (.t 3)⟩,
 ⟨some 20, none, .nck (.t 19)⟩,
 ⟨some 21, none, .load (.t 20) 1 false⟩,
 ⟨some 22, none, .bin .add (.t 21) (.k (.s (.int .i64 1)))⟩,
 ⟨some 23, none, .nck (.t 19)⟩,
 ⟨none, none, .store (.t 23) (.t 22) 1⟩] [1, 2]) (
 .seq (
 .reg [
 ⟨some 24, none, .mov (.t 2)⟩,
 ⟨some 25, none, .mov (.t 1)⟩,
 ⟨some 8, none, .mov (.t 24)⟩,
 ⟨some 9, none, .mov (.t 25)⟩] [8, 9]) (
 .ret))) (
 .skip))) (
 .seq (
 .reg [
 ⟨some 26, none, .mov (.t 1)⟩,
 ⟨some 27, none, .mov (.t 2)⟩,
 ⟨some 8, none, .mov (.t 26)⟩,
 ⟨some 9, none, .mov (.t 27)⟩] [8, 9]) (
 .ret))),
 [.t 8, .t 9], none⟩

/-- slices.insertionSortCmpFunc[bailey/api.Cat] -/
def F243 : FnIR := ⟨53,
 .seq (
 .reg [
 ⟨some 10, none, .mov (.t 1)⟩,
 ⟨some 11, none, .bin .add (.t 10) (.k (.s (.int .i64 1)))⟩,
 ⟨some 8, none, .mov (.t 11)⟩] [0, 1, 2, 3, 8]) (
 .block 0 (
 .loop (
 .seq (
 .seq (
 .reg [
 ⟨some 12, none, .mov (.t 8)⟩,
 ⟨some 13, none, .mov (.t 2)⟩,
 ⟨some 14, none, .bin .lss (.t 12) (.t 13)⟩] [0, 1, 2, 3, 8, 14]) (
 .cond (.t 14) (
 .skip) (
 .exit 0))) (
 .seq (
 .block 1 (
 .seq (
 .reg [
 ⟨some 17, none, .mov (.t 8)⟩,
 ⟨some 9, none, .mov (.t 17)⟩] [0, 1, 2, 3, 8, 9]) (
 .block 2 (
 .loop (
 .seq (
 .seq (
 .drw [
 ⟨some 18, none, .mov (.t 9)⟩,
 ⟨some 19, none, .mov (.t 1)⟩,
 ⟨some 20, none, .bin .gtr (.t 18) (.t 19)⟩,
 ⟨some 21, none, .mov (.t 20)⟩,
 ⟨some 22, some (21, true), .mov (.t 3)⟩,
 ⟨some 23, some (21, true), .mov (.t 0)⟩,
 ⟨some 24, some (21, true), .mov (.t 9)⟩,
 ⟨some 25, some (21, true), .ixa (.t 23) (.t 24) 2 none⟩,
 ⟨some 26, some (21, true), .load (.t 25) 2 true⟩,
 ⟨some 27, some (21, true), .mov (.t 0)⟩,
 ⟨some 28, some (21, true), .mov (.t 9)⟩,
 ⟨some 29, some (21, true), .bin .sub (.t 28) (.k (.s (.int .i64 1)))⟩,
 ⟨some 30, some (21, true), .ixa (.t 27) (.t 29) 2 none⟩,
 ⟨some 31, some (21, true), .load (.t 30) 2 true⟩,
 ⟨some 32, some (21, true), .clv false (.t 22) [.t 26, .t 31]⟩,
 ⟨some 33, some (21, true), .bin .lss (.t 32) (.k (.s (.int .i64 0)))⟩,
 ⟨some 34, none, .pick (.t 21) (.t 33) (.k (.s (.bool false)))⟩] [14] [] [0, 1, 2, 3, 8, 9, 34]) (
 .cond (.t 34) (
 .skip) (
 .exit 2))) (
 .seq (
 .block 3 (
 .drw [
 ⟨some 37, none, .mov (.t 0)⟩,
 ⟨some 38, none, .mov (.t 9)⟩,
 ⟨some 39, none, .mov (.t 0)⟩,
 ⟨some 40, none, .mov (.t 9)⟩,
 ⟨some 41, none, .bin .sub (.t 40) (.k (.s (.int .i64 1)))⟩,
 ⟨some 42, none, .mov (.t 0)⟩,
 ⟨some 43, none, .mov (.t 9)⟩,
 ⟨some 44, none, .bin .sub (.t 43) (.k (.s (.int .i64 1)))⟩,
 ⟨some 45, none, .ixa (.t 42) (.t 44) 2 none⟩,
 ⟨some 46, none, .load (.t 45) 2 true⟩,
 ⟨some 47, none, .mov (.t 0)⟩,
 ⟨some 48, none, .mov (.t 9)⟩,
 ⟨some 49, none, .ixa (.t 47) (.t 48) 2 none⟩,
 ⟨some 50, none, .load (.t 49) 2 true⟩,
 ⟨some 51, none, .ixa (.t 37) (.t 38) 2 none⟩,
 ⟨none, none, .store (.t 51) (.t 46) 2⟩,
 ⟨some 52, none, .ixa (.t 39) (.t 41) 2 none⟩,
 ⟨none, none, .store (.t 52) (.t 50) 2⟩] [] [] [0, 1, 2, 3, 8, 9])) (
 .reg [
 ⟨some 35, none, .mov (.t 9)⟩,
 ⟨some 36, none, .bin .sub (.t 35) (.k (.s (.int .i64 1)))⟩,
 ⟨some 9, none, .mov (.t 36)⟩] [0, 1, 2, 3, 8, 9]))))))) (
 .reg [
 ⟨some 15, none, .mov (.t 8)⟩,
 ⟨some 16, none, .bin .add (.t 15) (.k (.s (.int .i64 1)))⟩,
 ⟨some 8, none, .mov (.t 16)⟩] [0, 1, 2, 3, 8]))))),
 [], none⟩

/-- slices.symMergeCmpFunc[bailey/api.Cat] -/
def F244 : FnIR := ⟨220,
 .seq (
 .seq (
 .reg [
 ⟨some 25, none, .mov (.t 2)⟩,
 ⟨some 26, none, .mov (.t 1)⟩,
 ⟨some 27, none, .bin .sub (.t 25) (.t 26)⟩,
 ⟨some 28, none, .bin .eql (.t 27) (.k (.s (.int .i64 1)))⟩] [0, 1, 2, 3, 4, 28]) (
 .cond (.t 28) (
 .seq (
 .reg [
 ⟨some 29, none, .mov (.t 2)⟩,
 ⟨some 10, none, .mov (.t 29)⟩] [0, 1, 3, 4, 10]) (
 .seq (
 .reg [
 ⟨some 30, none, .mov (.t 3)⟩,
 ⟨some 11, none, .mov (.t 30)⟩] [0, 1, 4, 10, 11]) (
 .seq (
 .block 0 (
 .loop (
 .seq (
 .seq (
 .reg [
 ⟨some 31, none, .mov (.t 10)⟩,
 ⟨some 32, none, .mov (.t 11)⟩,
 ⟨some 33, none, .bin .lss (.t 31) (.t 32)⟩] [0, 1, 4, 10, 11, 33]) (
 .cond (.t 33) (
 .skip) (
 .exit 0))) (
 .block 1 (
 .seq (
 .reg [
 ⟨some 34, none, .mov (.t 10)⟩,
 ⟨some 35, none, .mov (.t 11)⟩,
 ⟨some 36, none, .bin .add (.t 34) (.t 35)⟩,
 ⟨some 37, none, .cvi .u64 (.t 36)⟩,
 ⟨some 38, none, .bin .shr (.t 37) (.k (.s (.int .u64 1)))⟩,
 ⟨some 39, none, .cvi .i64 (.t 38)⟩,
 ⟨some 12, none, .mov (.t 39)⟩] [0, 1, 4, 10, 11, 12]) (
 .seq (
 .drw [
 ⟨some 40, none, .mov (.t 4)⟩,
 ⟨some 41, none, .mov (.t 0)⟩,
 ⟨some 42, none, .mov (.t 12)⟩,
 ⟨some 43, none, .ixa (.t 41) (.t 42) 2 none⟩,
 ⟨some 44, none, .load (.t 43) 2 true⟩,
 ⟨some 45, none, .mov (.t 0)⟩,
 ⟨some 46, none, .mov (.t 1)⟩,
 ⟨some 47, none, .ixa (.t 45) (.t 46) 2 none⟩,
 ⟨some 48, none, .load (.t 47) 2 true⟩,
 ⟨some 49, none, .clv false (.t 40) [.t 44, .t 48]⟩,
 ⟨some 50, none, .bin .lss (.t 49) (.k (.s (.int .i64 0)))⟩] [9] [] [0, 1, 4, 10, 11, 12, 50]) (
 .cond (.t 50) (
 .reg [
 ⟨some 51, none, .mov (.t 12)⟩,
 ⟨some 52, none, .bin .add (.t 51) (.k (.s (.int .i64 1)))⟩,
 ⟨some 10, none, .mov (.t 52)⟩] [0, 1, 4, 10, 11]) (
 .reg [
 ⟨some 53, none, .mov (.t 12)⟩,
 ⟨some 11, none, .mov (.t 53)⟩] [0, 1, 4, 10, 11])))))))) (
 .seq (
 .seq (
 .reg [
 ⟨some 54, none, .mov (.t 1)⟩,
 ⟨some 13, none, .mov (.t 54)⟩] [0, 10, 13]) (
 .block 2 (
 .loop (
 .seq (
 .seq (
 .reg [
 ⟨some 55, none, .mov (.t 13)⟩,
 ⟨some 56, none, .mov (.t 10)⟩,
 ⟨some 57, none, .bin .sub (.t 56) (.k (.s (.int .i64 1)))⟩,
 ⟨some 58, none, .bin .lss (.t 55) (.t 57)⟩] [0, 10, 13, 58]) (
 .cond (.t 58) (
 .skip) (
 .exit 2))) (
 .seq (
 .block 3 (
 .drw [
 ⟨some 61, none, .mov (.t 0)⟩,
 ⟨some 62, none, .mov (.t 13)⟩,
 ⟨some 63, none, .mov (.t 0)⟩,
 ⟨some 64, none, .mov (.t 13)⟩,
 ⟨some 65, none, .bin .add (.t 64) (.k (.s (.int .i64 1)))⟩,
 ⟨some 66, none, .mov (.t 0)⟩,
 ⟨some 67, none, .mov (.t 13)⟩,
 ⟨some 68, none, .bin .add (.t 67) (.k (.s (.int .i64 1)))⟩,
 ⟨some 69, none, .ixa (.t 66) (.t 68) 2 none⟩,
 ⟨some 70, none, .load (.t 69) 2 true⟩,
 ⟨some 71, none, .mov (.t 0)⟩,
 ⟨some 72, none, .mov (.t 13)⟩,
 ⟨some 73, none, .ixa (.t 71) (.t 72) 2 none⟩,
 ⟨some 74, none, .load (.t 73) 2 true⟩,
 ⟨some 75, none, .ixa (.t 61) (.t 62) 2 none⟩,
 ⟨none, none, .store (.t 75) (.t 70) 2⟩,
 ⟨some 76, none, .ixa (.t 63) (.t 65) 2 none⟩,
 ⟨none, none, .store (.t 76) (.t 74) 2⟩] [] [] [0, 10, 13])) (
 .reg [
 ⟨some 59, none, .mov (.t 13)⟩,
 ⟨some 60, none, .bin .add (.t 59) (.k (.s (.int .i64 1)))⟩,
 ⟨some 13, none, .mov (.t 60)⟩] [0, 10, 13])))))) (
 .ret))))) (
 .skip))) (
 .seq (
 .seq (
 .reg [
 ⟨some 77, none, .mov (.t 3)⟩,
 ⟨some 78, none, .mov (.t 2)⟩,
 ⟨some 79, none, .bin .sub (.t 77) (.t 78)⟩,
 ⟨some 80, none, .bin .eql (.t 79) (.k (.s (.int .i64 1)))⟩] [0, 1, 2, 3, 4, 80]) (
 .cond (.t 80) (
 .seq (
 .reg [
 ⟨some 81, none, .mov (.t 1)⟩,
 ⟨some 14, none, .mov (.t 81)⟩] [0, 2, 4, 14]) (
 .seq (
 .reg [
 ⟨some 82, none, .mov (.t 2)⟩,
 ⟨some 15, none, .mov (.t 82)⟩] [0, 2, 4, 14, 15]) (
 .seq (
 .block 4 (
 .loop (
 .seq (
 .seq (
 .reg [
 ⟨some 83, none, .mov (.t 14)⟩,
 ⟨some 84, none, .mov (.t 15)⟩,
 ⟨some 85, none, .bin .lss (.t 83) (.t 84)⟩] [0, 2, 4, 14, 15, 85]) (
 .cond (.t 85) (
 .skip) (
 .exit 4))) (
 .block 5 (
 .seq (
 .reg [
 ⟨some 86, none, .mov (.t 14)⟩,
 ⟨some 87, none, .mov (.t 15)⟩,
 ⟨some 88, none, .bin .add (.t 86) (.t 87)⟩,
 ⟨some 89, none, .cvi .u64 (.t 88)⟩,
 ⟨some 90, none, .bin .shr (.t 89) (.k (.s (.int .u64 1)))⟩,
 ⟨some 91, none, .cvi .i64 (.t 90)⟩,
 ⟨some 16, none, .mov (.t 91)⟩] [0, 2, 4, 14, 15, 16]) (
 .seq (
 .drw [
 ⟨some 92, none, .mov (.t 4)⟩,
 ⟨some 93, none, .mov (.t 0)⟩,
 ⟨some 94, none, .mov (.t 2)⟩,
 ⟨some 95, none, .ixa (.t 93) (.t 94) 2 none⟩,
 ⟨some 96, none, .load (.t 95) 2 true⟩,
 ⟨some 97, none, .mov (.t 0)⟩,
 ⟨some 98, none, .mov (.t 16)⟩,
 ⟨some 99, none, .ixa (.t 97) (.t 98) 2 none⟩,
 ⟨some 100, none, .load (.t 99) 2 true⟩,
 ⟨some 101, none, .clv false (.t 92) [.t 96, .t 100]⟩,
 ⟨some 102, none, .bin .lss (.t 101) (.k (.s (.int .i64 0)))⟩,
 ⟨some 103, none, .un .not (.t 102)⟩] [9] [] [0, 2, 4, 14, 15, 16, 103]) (
 .cond (.t 103) (
 .reg [
 ⟨some 104, none, .mov (.t 16)⟩,
 ⟨some 105, none, .bin .add (.t 104) (.k (.s (.int .i64 1)))⟩,
 ⟨some 14, none, .mov (.t 105)⟩] [0, 2, 4, 14, 15]) (
 .reg [
 ⟨some 106, none, .mov (.t 16)⟩,
 ⟨some 15, none, .mov (.t 106)⟩] [0, 2, 4, 14, 15])))))))) (
 .seq (
 .seq (
 .reg [
 ⟨some 107, none, .mov (.t 2)⟩,
 ⟨some 17, none, .mov (.t 107)⟩] [0, 14, 17]) (
 .block 6 (
 .loop (
 .seq (
 .seq (
 .reg [
 ⟨some 108, none, .mov (.t 17)⟩,
 ⟨some 109, none, .mov (.t 14)⟩,
 ⟨some 110, none, .bin .gtr (.t 108) (.t 109)⟩] [0, 14, 17, 110]) (
 .cond (.t 110) (
 .skip) (
 .exit 6))) (
 .seq (
 .block 7 (
 .drw [
 ⟨some 113, none, .mov (.t 0)⟩,
 ⟨some 114, none, .mov (.t 17)⟩,
 ⟨some 115, none, .mov (.t 0)⟩,
 ⟨some 116, none, .mov (.t 17)⟩,
 ⟨some 117, none, .bin .sub (.t 116) (.k (.s (.int .i64 1)))⟩,
 ⟨some 118, none, .mov (.t 0)⟩,
 ⟨some 119, none, .mov (.t 17)⟩,
 ⟨some 120, none, .bin .sub (.t 119) (.k (.s (.int .i64 1)))⟩,
 ⟨some 121, none, .ixa (.t 118) (.t 120) 2 none⟩,
 ⟨some 122, none, .load (.t 121) 2 true⟩,
 ⟨some 123, none, .mov (.t 0)⟩,
 ⟨some 124, none, .mov (.t 17)⟩,
 ⟨some 125, none, .ixa (.t 123) (.t 124) 2 none⟩,
 ⟨some 126, none, .load (.t 125) 2 true⟩,
 ⟨some 127, none, .ixa (.t 113) (.t 114) 2 none⟩,
 ⟨none, none, .store (.t 127) (.t 122) 2⟩,
 ⟨some 128, none, .ixa (.t 115) (.t 117) 2 none⟩,
 ⟨none, none, .store (.t 128) (.t 126) 2⟩] [] [] [0, 14, 17])) (
 .reg [
 ⟨some 111, none, .mov (.t 17)⟩,
 ⟨some 112, none, .bin .sub (.t 111) (.k (.s (.int .i64 1)))⟩,
 ⟨some 17, none, .mov (.t 112)⟩] [0, 14, 17])))))) (
 .ret))))) (
 .skip))) (
 .seq (
 .reg [
 ⟨some 129, none, .mov (.t 1)⟩,
 ⟨some 130, none, .mov (.t 3)⟩,
 ⟨some 131, none, .bin .add (.t 129) (.t 130)⟩,
 ⟨some 132, none, .cvi .u64 (.t 131)⟩,
 ⟨some 133, none, .bin .shr (.t 132) (.k (.s (.int .u64 1)))⟩,
 ⟨some 134, none, .cvi .i64 (.t 133)⟩,
 ⟨some 18, none, .mov (.t 134)⟩] [0, 1, 2, 3, 4, 18]) (
 .seq (
 .reg [
 ⟨some 135, none, .mov (.t 18)⟩,
 ⟨some 136, none, .mov (.t 2)⟩,
 ⟨some 137, none, .bin .add (.t 135) (.t 136)⟩,
 ⟨some 19, none, .mov (.t 137)⟩] [0, 1, 2, 3, 4, 18, 19]) (
 .seq (
 .reg [
 ⟨some 20, none, .mov (.k (.s (.int .i64 0)))⟩,
 ⟨some 21, none, .mov (.k (.s (.int .i64 0)))⟩] [0, 1, 2, 3, 4, 18, 19]) (
 .seq (
 .seq (
 .reg [
 ⟨some 138, none, .mov (.t 2)⟩,
 ⟨some 139, none, .mov (.t 18)⟩,
 ⟨some 140, none, .bin .gtr (.t 138) (.t 139)⟩] [0, 1, 2, 3, 4, 18, 19, 140]) (
 .cond (.t 140) (
 .seq (
 .reg [
 ⟨some 141, none, .mov (.t 19)⟩,
 ⟨some 142, none, .mov (.t 3)⟩,
 ⟨some 143, none, .bin .sub (.t 141) (.t 142)⟩,
 ⟨some 20, none, .mov (.t 143)⟩] [0, 1, 2, 3, 4, 18, 19, 20]) (
 .reg [
 ⟨some 144, none, .mov (.t 18)⟩,
 ⟨some 21, none, .mov (.t 144)⟩] [0, 1, 2, 3, 4, 18, 19, 20, 21])) (
 .seq (
 .reg [
 ⟨some 145, none, .mov (.t 1)⟩,
 ⟨some 20, none, .mov (.t 145)⟩] [0, 1, 2, 3, 4, 18, 19, 20]) (
 .reg [
 ⟨some 146, none, .mov (.t 2)⟩,
 ⟨some 21, none, .mov (.t 146)⟩] [0, 1, 2, 3, 4, 18, 19, 20, 21])))) (
 .seq (
 .reg [
 ⟨some 147, none, .mov (.t 19)⟩,
 ⟨some 148, none, .bin .sub (.t 147) (.k (.s (.int .i64 1)))⟩,
 ⟨some 22, none, .mov (.t 148)⟩] [0, 1, 2, 3, 4, 18, 19, 20, 21, 22]) (
 .seq (
 .block 8 (
 .loop (
 .seq (
 .seq (
 .reg [
 ⟨some 149, none, .mov (.t 20)⟩,
 ⟨some 150, none, .mov (.t 21)⟩,
 ⟨some 151, none, .bin .lss (.t 149) (.t 150)⟩] [0, 1, 2, 3, 4, 18, 19, 20, 21, 22, 151]) (
 .cond (.t 151) (
 .skip) (
 .exit 8))) (
 .block 9 (
 .seq (
 .reg [
 ⟨some 152, none, .mov (.t 20)⟩,
 ⟨some 153, none, .mov (.t 21)⟩,
 ⟨some 154, none, .bin .add (.t 152) (.t 153)⟩,
 ⟨some 155, none, .cvi .u64 (.t 154)⟩,
 ⟨some 156, none, .bin .shr (.t 155) (.k (.s (.int .u64 1)))⟩,
 ⟨some 157, none, .cvi .i64 (.t 156)⟩,
 ⟨some 23, none, .mov (.t 157)⟩] [0, 1, 2, 3, 4, 18, 19, 20, 21, 22, 23]) (
 .seq (
 .drw [
 ⟨some 158, none, .mov (.t 4)⟩,
 ⟨some 159, none, .mov (.t 0)⟩,
 ⟨some 160, none, .mov (.t 22)⟩,
 ⟨some 161, none, .mov (.t 23)⟩,
 ⟨some 162, none, .bin .sub (.t 160) (.t 161)⟩,
 ⟨some 163, none, .ixa (.t 159) (.t 162) 2 none⟩,
 ⟨some 164, none, .load (.t 163) 2 true⟩,
 ⟨some 165, none, .mov (.t 0)⟩,
 ⟨some 166, none, .mov (.t 23)⟩,
 ⟨some 167, none, .ixa (.t 165) (.t 166) 2 none⟩,
 ⟨some 168, none, .load (.t 167) 2 true⟩,
 ⟨some 169, none, .clv false (.t 158) [.t 164, .t 168]⟩,
 ⟨some 170, none, .bin .lss (.t 169) (.k (.s (.int .i64 0)))⟩,
 ⟨some 171, none, .un .not (.t 170)⟩] [11] [] [0, 1, 2, 3, 4, 18, 19, 20, 21, 22, 23, 171]) (
 .cond (.t 171) (
 .reg [
 ⟨some 172, none, .mov (.t 23)⟩,
 ⟨some 173, none, .bin .add (.t 172) (.k (.s (.int .i64 1)))⟩,
 ⟨some 20, none, .mov (.t 173)⟩] [0, 1, 2, 3, 4, 18, 19, 20, 21, 22]) (
 .reg [
 ⟨some 174, none, .mov (.t 23)⟩,
 ⟨some 21, none, .mov (.t 174)⟩] [0, 1, 2, 3, 4, 18, 19, 20, 21, 22])))))))) (
 .seq (
 .reg [
 ⟨some 175, none, .mov (.t 19)⟩,
 ⟨some 176, none, .mov (.t 20)⟩,
 ⟨some 177, none, .bin .sub (.t 175) (.t 176)⟩,
 ⟨some 24, none, .mov (.t 177)⟩] [0, 1, 2, 3, 4, 18, 20, 24]) (
 .seq (
 .seq (
 .reg [
 ⟨some 178, none, .mov (.t 20)⟩,
 ⟨some 179, none, .mov (.t 2)⟩,
 ⟨some 180, none, .bin .lss (.t 178) (.t 179)⟩,
 ⟨some 181, none, .mov (.t 180)⟩,
 ⟨some 182, some (181, true), .mov (.t 2)⟩,
 ⟨some 183, some (181, true), .mov (.t 24)⟩,
 ⟨some 184, some (181, true), .bin .lss (.t 182) (.t 183)⟩,
 ⟨some 185, none, .pick (.t 181) (.t 184) (.k (.s (.bool false)))⟩] [0, 1, 2, 3, 4, 18, 20, 24, 185]) (
 .cond (.t 185) (
 .reg [
 ⟨some 186, none, .mov (.t 0)⟩,
 ⟨some 187, none, .mov (.t 20)⟩,
 ⟨some 188, none, .mov (.t 2)⟩,
 ⟨some 189, none, .mov (.t 24)⟩,
 ⟨some 190, none, .mov (.t 4)⟩,
 ⟨some 191, none, .call true 250 0 [.t 186, .t 187, .t 188, .t 189, .t 190]⟩] [0, 1, 3, 4, 18, 20, 24]) (
 .skip))) (
 .seq (
 .seq (
 .reg [
 ⟨some 192, none, .mov (.t 1)⟩,
 ⟨some 193, none, .mov (.t 20)⟩,
 ⟨some 194, none, .bin .lss (.t 192) (.t 193)⟩,
 ⟨some 195, none, .mov (.t 194)⟩,
 ⟨some 196, some (195, true), .mov (.t 20)⟩,
 ⟨some 197, some (195, true), .mov (.t 18)⟩,
 ⟨some 198, some (195, true), .bin .lss (.t 196) (.t 197)⟩,
 ⟨some 199, none, .pick (.t 195) (.t 198) (.k (.s (.bool false)))⟩] [0, 1, 3, 4, 18, 20, 24, 199]) (
 .cond (.t 199) (
 .reg [
 ⟨some 200, none, .mov (.t 0)⟩,
 ⟨some 201, none, .mov (.t 1)⟩,
 ⟨some 202, none, .mov (.t 20)⟩,
 ⟨some 203, none, .mov (.t 18)⟩,
 ⟨some 204, none, .mov (.t 4)⟩,
 ⟨some 205, none, .call true 244 0 [.t 200, .t 201, .t 202, .t 203, .t 204]⟩] [0, 3, 4, 18, 24]) (
 .skip))) (
 .seq (
 .reg [
 ⟨some 206, none, .mov (.t 18)⟩,
 ⟨some 207, none, .mov (.t 24)⟩,
 ⟨some 208, none, .bin .lss (.t 206) (.t 207)⟩,
 ⟨some 209, none, .mov (.t 208)⟩,
 ⟨some 210, some (209, true), .mov (.t 24)⟩,
 ⟨some 211, some (209, true), .mov (.t 3)⟩,
 ⟨some 212, some (209, true), .bin .lss (.t 210) (.t 211)⟩,
 ⟨some 213, none, .pick (.t 209) (.t 212) (.k (.s (.bool false)))⟩] [0, 3, 4, 18, 24, 213]) (
 .cond (.t 213) (
 .reg [
 ⟨some 214, none, .mov (.t 0)⟩,
 ⟨some 215, none, .mov (.t 18)⟩,
 ⟨some 216, none, .mov (.t 24)⟩,
 ⟨some 217, none, .mov (.t 3)⟩,
 ⟨some 218, none, .mov (.t 4)⟩,
 ⟨some 219, none, .call true 244 0 [.t 214, .t 215, .t 216, .t 217, .t 218]⟩] []) (
 .skip))))))))))))),
 [], none⟩

/-- bailey/label.Leq$1 -/
def F245 : FnIR := ⟨14,
 .seq (
 .reg [
 ⟨some 3, none, .bxl (.t 0)⟩,
 ⟨some 4, none, .mov (.k (.s (.bool false)))⟩] [1, 2, 3]) (
 .seq (
 .drw [
 ⟨some 5, none, .load (.t 1) 2 true⟩,
 ⟨some 6, none, .fad (.t 3) 0⟩,
 ⟨some 7, none, .load (.t 6) 1 false⟩,
 ⟨some 8, none, .call false 246 0 [.t 5, .t 7]⟩,
 ⟨some 9, none, .load (.t 2) 2 true⟩,
 ⟨some 10, none, .fad (.t 3) 0⟩,
 ⟨some 11, none, .load (.t 10) 1 false⟩,
 ⟨some 12, none, .call false 246 0 [.t 9, .t 11]⟩,
 ⟨some 13, none, .bin .gtr (.t 8) (.t 12)⟩,
 ⟨some 4, none, .mov (.t 13)⟩] [7] [] [4]) (
 .ret)),
 [.t 4], none⟩

/-- bailey/label.Level -/
def F246 : FnIR := ⟨23,
 .seq (
 .reg [
 ⟨some 2, none, .bxl (.t 0)⟩,
 ⟨some 4, none, .mov (.k (.s (.int .i64 0)))⟩] [1, 2]) (
 .seq (
 .seq (
 .reg [
 ⟨some 7, none, .fad (.t 2) 1⟩,
 ⟨some 8, none, .load (.t 7) 1 false⟩,
 ⟨some 9, none, .len (.t 8)⟩,
 ⟨some 10, none, .mov (.k (.s (.int .i64 0)))⟩] [1, 2, 8, 9, 10]) (
 .block 0 (
 .loop (
 .seq (
 .reg [
 ⟨some 11, none, .bin .lss (.t 10) (.t 9)⟩] [1, 2, 8, 9, 10, 11]) (
 .seq (
 .cond (.t 11) (
 .skip) (
 .exit 0)) (
 .seq (
 .block 1 (
 .seq (
 .reg [
 ⟨some 12, none, .ixa (.t 8) (.t 10) 2 none⟩,
 ⟨some 13, none, .load (.t 12) 2 true⟩,
 ⟨some 6, none, .alloc [.s (.int .u64 0), .s (.int .i64 0)]⟩,
 ⟨none, none, .store (.t 6) (.t 13) 2⟩] [1, 2, 6, 8, 9, 10]) (
 .seq (
 .reg [
 ⟨some 14, none, .fad (.t 6) 0⟩,
 ⟨some 15, none, .load (.t 14) 1 false⟩,
 ⟨some 16, none, .mov (.t 1)⟩,
 ⟨some 17, none, .bin .eql (.t 15) (.t 16)⟩] [1, 2, 6, 8, 9, 10, 17]) (
 .cond (.t 17) (
 .seq (
 .reg [
 ⟨some 18, none, .fad (.t 6) 1⟩,
 ⟨some 19, none, .load (.t 18) 1 false⟩,
 ⟨some 4, none, .mov (.t 19)⟩] [4]) (
 .ret)) (
 .skip))))) (
 .reg [
 ⟨some 20, none, .bin .add (.t 10) (.k (.s (.int .i64 1)))⟩,
 ⟨some 10, none, .mov (.t 20)⟩] [1, 2, 8, 9, 10]))))))) (
 .seq (
 .reg [
 ⟨some 21, none, .fad (.t 2) 0⟩,
 ⟨some 22, none, .load (.t 21) 1 false⟩,
 ⟨some 4, none, .mov (.t 22)⟩] [4]) (
 .ret))),
 [.t 4], none⟩

/-- slices.rotateLeft[bailey/api.Link] -/
def F247 : FnIR := ⟨14,
 .seq (
 .reg [
 ⟨some 4, none, .mov (.t 0)⟩,
 ⟨some 5, none, .mov (.t 1)⟩,
 ⟨some 6, none, .slc (.t 4) none (some (.t 5)) none 2 true⟩,
 ⟨some 7, none, .call false 251 0 [.t 6]⟩] [0, 1]) (
 .seq (
 .reg [
 ⟨some 8, none, .mov (.t 0)⟩,
 ⟨some 9, none, .mov (.t 1)⟩,
 ⟨some 10, none, .slc (.t 8) (some (.t 9)) none none 2 true⟩,
 ⟨some 11, none, .call false 251 0 [.t 10]⟩] [0]) (
 .reg [
 ⟨some 12, none, .mov (.t 0)⟩,
 ⟨some 13, none, .call false 251 0 [.t 12]⟩] [])),
 [], none⟩

/-- slices.Concat[[]bailey/api.Cat,bailey/api.Cat] -/
def F248 : FnIR := ⟨36,
 .seq (
 .reg [
 ⟨some 2, none, .mov (.k (.lit .nil []))⟩] [0]) (
 .seq (
 .reg [
 ⟨some 3, none, .mov (.k (.s (.int .i64 0)))⟩] [0, 3]) (
 .seq (
 .seq (
 .reg [
 ⟨some 9, none, .mov (.t 0)⟩,
 ⟨some 10, none, .len (.t 9)⟩,
 ⟨some 11, none, .mov (.k (.s (.int .i64 0)))⟩] [0, 3, 9, 10, 11]) (
 .block 0 (
 .loop (
 .seq (
 .reg [
 ⟨some 12, none, .bin .lss (.t 11) (.t 10)⟩] [0, 3, 9, 10, 11, 12]) (
 .seq (
 .cond (.t 12) (
 .skip) (
 .exit 0)) (
 .seq (
 .block 1 (
 .seq (
 .reg [
 ⟨some 13, none, .ixa (.t 9) (.t 11) 1 none⟩,
 ⟨some 14, none, .load (.t 13) 1 false⟩,
 ⟨some 5, none, .mov (.t 14)⟩] [0, 3, 5, 9, 10, 11]) (
 .seq (
 .reg [
 ⟨some 15, none, .mov (.t 3)⟩,
 ⟨some 16, none, .mov (.t 5)⟩,
 ⟨some 17, none, .len (.t 16)⟩,
 ⟨some 18, none, .bin .add (.t 15) (.t 17)⟩,
 ⟨some 3, none, .mov (.t 18)⟩] [0, 3, 9, 10, 11]) (
 .seq (
 .reg [
 ⟨some 19, none, .mov (.t 3)⟩,
 ⟨some 20, none, .bin .lss (.t 19) (.k (.s (.int .i64 0)))⟩] [0, 3, 9, 10, 11, 20]) (
 .cond (.t 20) (
 .reg [
 ⟨some 21, none, .mki 9 (.k (.s (.string ⟨#[108, 101, 110, 32, 111, 117, 116, 32, 111, 102, 32, 114, 97, 110, 103, 101]⟩)))⟩,
 ⟨none, none, .pan (.t 21)⟩] [0, 3, 9, 10, 11]) (
 .skip)))))) (
 .reg [
 ⟨some 22, none, .bin .add (.t 11) (.k (.s (.int .i64 1)))⟩,
 ⟨some 11, none, .mov (.t 22)⟩] [0, 3, 9, 10, 11]))))))) (
 .seq (
 .reg [
 ⟨some 23, none, .mov (.t 3)⟩,
 ⟨some 24, none, .call true 252 0 [.k (.lit .nil []), .t 23]⟩,
 ⟨some 6, none, .mov (.t 24)⟩] [0, 6]) (
 .seq (
 .seq (
 .reg [
 ⟨some 25, none, .mov (.t 0)⟩,
 ⟨some 26, none, .len (.t 25)⟩,
 ⟨some 27, none, .mov (.k (.s (.int .i64 0)))⟩] [6, 25, 26, 27]) (
 .block 2 (
 .loop (
 .seq (
 .reg [
 ⟨some 28, none, .bin .lss (.t 27) (.t 26)⟩] [6, 25, 26, 27, 28]) (
 .seq (
 .cond (.t 28) (
 .skip) (
 .exit 2)) (
 .seq (
 .block 3 (
 .seq (
 .reg [
 ⟨some 29, none, .ixa (.t 25) (.t 27) 1 none⟩,
 ⟨some 30, none, .load (.t 29) 1 false⟩,
 ⟨some 8, none, .mov (.t 30)⟩] [6, 8, 25, 26, 27]) (
 .reg [
 ⟨some 31, none, .mov (.t 6)⟩,
 ⟨some 32, none, .mov (.t 8)⟩,
 ⟨some 33, none, .app false (.t 31) (.t 32) 2 16 true⟩,
 ⟨some 6, none, .mov (.t 33)⟩] [6, 25, 26, 27]))) (
 .reg [
 ⟨some 34, none, .bin .add (.t 27) (.k (.s (.int .i64 1)))⟩,
 ⟨some 27, none, .mov (.t 34)⟩] [6, 25, 26, 27]))))))) (
 .seq (
 .reg [
 ⟨some 35, none, .mov (.t 6)⟩,
 ⟨some 2, none, .mov (.t 35)⟩] [2]) (
 .ret)))))),
 [.t 2], none⟩

/-- bailey/label.turn$1 -/
def F249 : FnIR := ⟨12,
 .seq (
 .reg [
 ⟨some 6, none, .mov (.k (.s (.int .i64 0)))⟩] [0, 2, 3]) (
 .seq (
 .seq (
 .reg [
 ⟨some 7, none, .mov (.t 0)⟩,
 ⟨some 8, none, .load (.t 2) 1 false⟩,
 ⟨some 9, none, .bin .eql (.t 7) (.t 8)⟩] [0, 3, 9]) (
 .cond (.t 9) (
 .seq (
 .reg [
 ⟨some 10, none, .load (.t 3) 1 false⟩,
 ⟨some 6, none, .mov (.t 10)⟩] [6]) (
 .ret)) (
 .skip))) (
 .seq (
 .reg [
 ⟨some 11, none, .mov (.t 0)⟩,
 ⟨some 6, none, .mov (.t 11)⟩] [6]) (
 .ret))),
 [.t 6], none⟩

/-- slices.rotateCmpFunc[bailey/api.Cat] -/
def F250 : FnIR := ⟨58,
 .seq (
 .reg [
 ⟨some 12, none, .mov (.t 2)⟩,
 ⟨some 13, none, .mov (.t 1)⟩,
 ⟨some 14, none, .bin .sub (.t 12) (.t 13)⟩,
 ⟨some 10, none, .mov (.t 14)⟩] [0, 2, 3, 4, 10]) (
 .seq (
 .reg [
 ⟨some 15, none, .mov (.t 3)⟩,
 ⟨some 16, none, .mov (.t 2)⟩,
 ⟨some 17, none, .bin .sub (.t 15) (.t 16)⟩,
 ⟨some 11, none, .mov (.t 17)⟩] [0, 2, 4, 10, 11]) (
 .seq (
 .block 0 (
 .loop (
 .seq (
 .seq (
 .reg [
 ⟨some 18, none, .mov (.t 10)⟩,
 ⟨some 19, none, .mov (.t 11)⟩,
 ⟨some 20, none, .bin .neq (.t 18) (.t 19)⟩] [0, 2, 4, 10, 11, 20]) (
 .cond (.t 20) (
 .skip) (
 .exit 0))) (
 .block 1 (
 .seq (
 .reg [
 ⟨some 21, none, .mov (.t 10)⟩,
 ⟨some 22, none, .mov (.t 11)⟩,
 ⟨some 23, none, .bin .gtr (.t 21) (.t 22)⟩] [0, 2, 4, 10, 11, 23]) (
 .cond (.t 23) (
 .seq (
 .reg [
 ⟨some 24, none, .mov (.t 0)⟩,
 ⟨some 25, none, .mov (.t 2)⟩,
 ⟨some 26, none, .mov (.t 10)⟩,
 ⟨some 27, none, .bin .sub (.t 25) (.t 26)⟩,
 ⟨some 28, none, .mov (.t 2)⟩,
 ⟨some 29, none, .mov (.t 11)⟩,
 ⟨some 30, none, .mov (.t 4)⟩,
 ⟨some 31, none, .call true 253 0 [.t 24, .t 27, .t 28, .t 29, .t 30]⟩] [0, 2, 4, 10, 11]) (
 .reg [
 ⟨some 32, none, .mov (.t 10)⟩,
 ⟨some 33, none, .mov (.t 11)⟩,
 ⟨some 34, none, .bin .sub (.t 32) (.t 33)⟩,
 ⟨some 10, none, .mov (.t 34)⟩] [0, 2, 4, 10, 11])) (
 .seq (
 .reg [
 ⟨some 35, none, .mov (.t 0)⟩,
 ⟨some 36, none, .mov (.t 2)⟩,
 ⟨some 37, none, .mov (.t 10)⟩,
 ⟨some 38, none, .bin .sub (.t 36) (.t 37)⟩,
 ⟨some 39, none, .mov (.t 2)⟩,
 ⟨some 40, none, .mov (.t 11)⟩,
 ⟨some 41, none, .bin .add (.t 39) (.t 40)⟩,
 ⟨some 42, none, .mov (.t 10)⟩,
 ⟨some 43, none, .bin .sub (.t 41) (.t 42)⟩,
 ⟨some 44, none, .mov (.t 10)⟩,
 ⟨some 45, none, .mov (.t 4)⟩,
 ⟨some 46, none, .call true 253 0 [.t 35, .t 38, .t 43, .t 44, .t 45]⟩] [0, 2, 4, 10, 11]) (
 .reg [
 ⟨some 47, none, .mov (.t 11)⟩,
 ⟨some 48, none, .mov (.t 10)⟩,
 ⟨some 49, none, .bin .sub (.t 47) (.t 48)⟩,
 ⟨some 11, none, .mov (.t 49)⟩] [0, 2, 4, 10, 11])))))))) (
 .reg [
 ⟨some 50, none, .mov (.t 0)⟩,
 ⟨some 51, none, .mov (.t 2)⟩,
 ⟨some 52, none, .mov (.t 10)⟩,
 ⟨some 53, none, .bin .sub (.t 51) (.t 52)⟩,
 ⟨some 54, none, .mov (.t 2)⟩,
 ⟨some 55, none, .mov (.t 10)⟩,
 ⟨some 56, none, .mov (.t 4)⟩,
 ⟨some 57, none, .call true 253 0 [.t 50, .t 53, .t 54, .t 55, .t 56]⟩] []))),
 [], none⟩

/-- slices.Reverse[[]bailey/api.Link,bailey/api.Link] -/
def F251 : FnIR := ⟨28,
 .seq (
 .reg [
 ⟨some 4, none, .mov (.t 0)⟩,
 ⟨some 5, none, .len (.t 4)⟩,
 ⟨some 6, none, .bin .sub (.t 5) (.k (.s (.int .i64 1)))⟩,
 ⟨some 2, none, .mov (.k (.s (.int .i64 0)))⟩,
 ⟨some 3, none, .mov (.t 6)⟩] [0, 2, 3]) (
 .block 0 (
 .loop (
 .seq (
 .seq (
 .reg [
 ⟨some 7, none, .mov (.t 2)⟩,
 ⟨some 8, none, .mov (.t 3)⟩,
 ⟨some 9, none, .bin .lss (.t 7) (.t 8)⟩] [0, 2, 3, 9]) (
 .cond (.t 9) (
 .skip) (
 .exit 0))) (
 .seq (
 .block 1 (
 .drw [
 ⟨some 14, none, .mov (.t 0)⟩,
 ⟨some 15, none, .mov (.t 2)⟩,
 ⟨some 16, none, .mov (.t 0)⟩,
 ⟨some 17, none, .mov (.t 3)⟩,
 ⟨some 18, none, .mov (.t 0)⟩,
 ⟨some 19, none, .mov (.t 3)⟩,
 ⟨some 20, none, .ixa (.t 18) (.t 19) 2 none⟩,
 ⟨some 21, none, .load (.t 20) 2 true⟩,
 ⟨some 22, none, .mov (.t 0)⟩,
 ⟨some 23, none, .mov (.t 2)⟩,
 ⟨some 24, none, .ixa (.t 22) (.t 23) 2 none⟩,
 ⟨some 25, none, .load (.t 24) 2 true⟩,
 ⟨some 26, none, .ixa (.t 14) (.t 15) 2 none⟩,
 ⟨none, none, .store (.t 26) (.t 21) 2⟩,
 ⟨some 27, none, .ixa (.t 16) (.t 17) 2 none⟩,
 ⟨none, none, .store (.t 27) (.t 25) 2⟩] [] [] [0, 2, 3])) (
 .reg [
 ⟨some 10, none, .mov (.t 2)⟩,
 ⟨some 11, none, .bin .add (.t 10) (.k (.s (.int .i64 1)))⟩,
 ⟨some 12, none, .mov (.t 3)⟩,
 ⟨some 13, none, .bin .sub (.t 12) (.k (.s (.int .i64 1)))⟩,
 ⟨some 2, none, .mov (.t 11)⟩,
 ⟨some 3, none, .mov (.t 13)⟩] [0, 2, 3]))))),
 [], none⟩

/-- slices.Grow[[]bailey/api.Cat,bailey/api.Cat] -/
def F252 : FnIR := ⟨27,
 .seq (
 .reg [
 ⟨some 4, none, .mov (.k (.lit .nil []))⟩] [0, 1]) (
 .seq (
 .seq (
 .reg [
 ⟨some 5, none, .mov (.t 1)⟩,
 ⟨some 6, none, .bin .lss (.t 5) (.k (.s (.int .i64 0)))⟩] [0, 1, 6]) (
 .cond (.t 6) (
 .reg [
 ⟨some 7, none, .mki 9 (.k (.s (.string ⟨#[99, 97, 110, 110, 111, 116, 32, 98, 101, 32, 110, 101, 103, 97, 116, 105, 118, 101]⟩)))⟩,
 ⟨none, none, .pan (.t 7)⟩] [0, 1]) (
 .skip))) (
 .seq (
 .seq (
 .reg [
 ⟨some 8, none, .mov (.t 1)⟩,
 ⟨some 9, none, .mov (.t 0)⟩,
 ⟨some 10, none, .cap (.t 9)⟩,
 ⟨some 11, none, .mov (.t 0)⟩,
 ⟨some 12, none, .len (.t 11)⟩,
 ⟨some 13, none, .bin .sub (.t 10) (.t 12)⟩,
 ⟨some 14, none, .bin .sub (.t 8) (.t 13)⟩,
 ⟨some 1, none, .mov (.t 14)⟩] [0, 1]) (
 .seq (
 .reg [
 ⟨some 15, none, .mov (.t 1)⟩,
 ⟨some 16, none, .bin .gtr (.t 15) (.k (.s (.int .i64 0)))⟩] [0, 1, 16]) (
 .cond (.t 16) (
 .reg [
 ⟨some 17, none, .mov (.t 0)⟩,
 ⟨some 18, none, .mov (.t 0)⟩,
 ⟨some 19, none, .cap (.t 18)⟩,
 ⟨some 20, none, .slc (.t 17) none (some (.t 19)) none 2 true⟩,
 ⟨some 21, none, .mov (.t 1)⟩,
 ⟨some 22, none, .bad⟩,
 ⟨some 23, none, .mov (.t 0)⟩,
 ⟨some 24, none, .len (.t 23)⟩,
 ⟨some 25, none, .slc (.t 22) none (some (.t 24)) none 2 true⟩,
 ⟨some 0, none, .mov (.t 25)⟩] [0]) (
 .skip)))) (
 .seq (
 .reg [
 ⟨some 26, none, .mov (.t 0)⟩,
 ⟨some 4, none, .mov (.t 26)⟩] [4]) (
 .ret)))),
 [.t 4], none⟩

/-- slices.swapRangeCmpFunc[bailey/api.Cat] -/
def F253 : FnIR := ⟨38,
 .seq (
 .reg [
 ⟨some 10, none, .mov (.k (.s (.int .i64 0)))⟩] [0, 1, 2, 3, 10]) (
 .block 0 (
 .loop (
 .seq (
 .seq (
 .reg [
 ⟨some 11, none, .mov (.t 10)⟩,
 ⟨some 12, none, .mov (.t 3)⟩,
 ⟨some 13, none, .bin .lss (.t 11) (.t 12)⟩] [0, 1, 2, 3, 10, 13]) (
 .cond (.t 13) (
 .skip) (
 .exit 0))) (
 .seq (
 .block 1 (
 .drw [
 ⟨some 16, none, .mov (.t 0)⟩,
 ⟨some 17, none, .mov (.t 1)⟩,
 ⟨some 18, none, .mov (.t 10)⟩,
 ⟨some 19, none, .bin .add (.t 17) (.t 18)⟩,
 ⟨some 20, none, .mov (.t 0)⟩,
 ⟨some 21, none, .mov (.t 2)⟩,
 ⟨some 22, none, .mov (.t 10)⟩,
 ⟨some 23, none, .bin .add (.t 21) (.t 22)⟩,
 ⟨some 24, none, .mov (.t 0)⟩,
 ⟨some 25, none, .mov (.t 2)⟩,
 ⟨some 26, none, .mov (.t 10)⟩,
 ⟨some 27, none, .bin .add (.t 25) (.t 26)⟩,
 ⟨some 28, none, .ixa (.t 24) (.t 27) 2 none⟩,
 ⟨some 29, none, .load (.t 28) 2 true⟩,
 ⟨some 30, none, .mov (.t 0)⟩,
 ⟨some 31, none, .mov (.t 1)⟩,
 ⟨some 32, none, .mov (.t 10)⟩,
 ⟨some 33, none, .bin .add (.t 31) (.t 32)⟩,
 ⟨some 34, none, .ixa (.t 30) (.t 33) 2 none⟩,
 ⟨some 35, none, .load (.t 34) 2 true⟩,
 ⟨some 36, none, .ixa (.t 16) (.t 19) 2 none⟩,
 ⟨none, none, .store (.t 36) (.t 29) 2⟩,
 ⟨some 37, none, .ixa (.t 20) (.t 23) 2 none⟩,
 ⟨none, none, .store (.t 37) (.t 35) 2⟩] [] [] [0, 1, 2, 3, 10])) (
 .reg [
 ⟨some 14, none, .mov (.t 10)⟩,
 ⟨some 15, none, .bin .add (.t 14) (.k (.s (.int .i64 1)))⟩,
 ⟨some 10, none, .mov (.t 15)⟩] [0, 1, 2, 3, 10]))))),
 [], none⟩

end Go.Mini.KT
