import Derived.Test.YtacoaelokdamnaaGreatTab
set_option linter.all false
set_option maxRecDepth 100000
namespace Go.Mini.KT

/-- bailey/baileyref20.read -/
def F95 : FnIR := ⟨61,
 .seq (
 .reg [
 ⟨some 7, none, .bxl (.t 1)⟩,
 ⟨some 12, none, .mov (.k (.lit .nil []))⟩,
 ⟨some 13, none, .alloc [.s (.int .i64 0), .s (.int .u64 0), .lit .nil [], .lit .nil [], .s (.int .i64 0)]⟩,
 ⟨some 14, none, .mov (.k (.s (.int .i64 0)))⟩] [0, 2, 3, 4, 5, 7, 13]) (
 .seq (
 .reg [
 ⟨some 18, none, .mov (.t 0)⟩,
 ⟨some 19, none, .load (.t 7) 26 true⟩,
 ⟨some 20, none, .mov (.t 2)⟩,
 ⟨some 21, none, .mov (.t 3)⟩,
 ⟨some 22, none, .call false 100 0 [.t 18, .t 19, .t 20, .t 21]⟩,
 ⟨some 17, none, .mov (.t 22)⟩,
 ⟨some 23, none, .ext (.t 17) 0⟩,
 ⟨some 24, none, .ext (.t 17) 1⟩,
 ⟨some 15, none, .alloc [.s (.int .u64 0), .s (.int .i64 0), .s (.int .i64 0), .lit .nil [], .s (.int .i64 0), .lit .nil [], .s (.int .i64 0), .s (.int .i64 0), .lit .nil [], .lit .nil [], .s (.int .u64 0), .s (.int .u64 0), .s (.int .u64 0), .s (.int .u64 0), .s (.int .i64 0), .s (.int .i64 0), .s (.bool false), .s (.int .u64 0), .s (.int .u64 0), .s (.int .u64 0), .s (.int .u64 0), .s (.int .u64 0), .s (.int .u64 0), .s (.int .u64 0), .s (.int .u64 0), .s (.int .u64 0)]⟩,
 ⟨none, none, .store (.t 15) (.t 23) 26⟩,
 ⟨some 16, none, .mov (.t 24)⟩] [0, 4, 5, 7, 13, 15, 16]) (
 .seq (
 .seq (
 .reg [
 ⟨some 25, none, .mov (.t 16)⟩,
 ⟨some 26, none, .bin .neq (.t 25) (.k (.s (.int .i64 0)))⟩] [0, 4, 5, 7, 13, 15, 16, 26]) (
 .cond (.t 26) (
 .seq (
 .reg [
 ⟨some 27, none, .mov (.t 0)⟩,
 ⟨some 28, none, .build [.s (.int .i64 0), .s (.int .u64 0), .lit .nil [], .lit .nil [], .s (.int .i64 0)] []⟩,
 ⟨some 29, none, .mov (.t 16)⟩,
 ⟨some 12, none, .mov (.t 27)⟩,
 ⟨none, none, .store (.t 13) (.t 28) 5⟩,
 ⟨some 14, none, .mov (.t 29)⟩] [12, 13, 14]) (
 .ret)) (
 .skip))) (
 .seq (
 .seq (
 .reg [
 ⟨some 30, none, .fad (.t 15) 1⟩,
 ⟨some 31, none, .load (.t 30) 1 false⟩,
 ⟨some 32, none, .bin .neq (.t 31) (.k (.s (.int .i64 4)))⟩] [0, 4, 5, 7, 13, 15, 32]) (
 .cond (.t 32) (
 .seq (
 .reg [
 ⟨some 33, none, .mov (.t 0)⟩,
 ⟨some 34, none, .build [.s (.int .i64 0), .s (.int .u64 0), .lit .nil [], .lit .nil [], .s (.int .i64 0)] []⟩,
 ⟨some 12, none, .mov (.t 33)⟩,
 ⟨none, none, .store (.t 13) (.t 34) 5⟩,
 ⟨some 14, none, .mov (.k (.s (.int .i64 203)))⟩] [12, 13, 14]) (
 .ret)) (
 .skip))) (
 .seq (
 .seq (
 .reg [
 ⟨some 35, none, .fad (.t 7) 2⟩,
 ⟨some 36, none, .load (.t 35) 2 true⟩,
 ⟨some 37, none, .fad (.t 15) 2⟩,
 ⟨some 38, none, .load (.t 37) 2 true⟩,
 ⟨some 39, none, .call false 150 0 [.t 36, .t 38]⟩,
 ⟨some 40, none, .un .not (.t 39)⟩] [0, 4, 5, 13, 15, 40]) (
 .cond (.t 40) (
 .seq (
 .reg [
 ⟨some 41, none, .mov (.t 0)⟩,
 ⟨some 42, none, .build [.s (.int .i64 0), .s (.int .u64 0), .lit .nil [], .lit .nil [], .s (.int .i64 0)] []⟩,
 ⟨some 12, none, .mov (.t 41)⟩,
 ⟨none, none, .store (.t 13) (.t 42) 5⟩,
 ⟨some 14, none, .mov (.k (.s (.int .i64 204)))⟩] [12, 13, 14]) (
 .ret)) (
 .skip))) (
 .seq (
 .seq (
 .reg [
 ⟨some 43, none, .load (.t 15) 26 true⟩,
 ⟨some 44, none, .mov (.t 4)⟩,
 ⟨some 45, none, .mov (.t 5)⟩,
 ⟨some 46, none, .call false 151 0 [.t 43, .t 44, .t 45]⟩,
 ⟨some 47, none, .un .not (.t 46)⟩] [0, 4, 5, 13, 15, 47]) (
 .cond (.t 47) (
 .seq (
 .reg [
 ⟨some 48, none, .mov (.t 0)⟩,
 ⟨some 49, none, .build [.s (.int .i64 0), .s (.int .u64 0), .lit .nil [], .lit .nil [], .s (.int .i64 0)] []⟩,
 ⟨some 12, none, .mov (.t 48)⟩,
 ⟨none, none, .store (.t 13) (.t 49) 5⟩,
 ⟨some 14, none, .mov (.k (.s (.int .i64 205)))⟩] [12, 13, 14]) (
 .ret)) (
 .skip))) (
 .seq (
 .reg [
 ⟨some 50, none, .mov (.t 0)⟩,
 ⟨some 51, none, .bsl true 1 false [.s (.int .u8 0)] 0 []⟩,
 ⟨some 52, none, .fad (.t 15) 9⟩,
 ⟨some 53, none, .load (.t 52) 1 false⟩,
 ⟨some 54, none, .mov (.t 4)⟩,
 ⟨some 55, none, .mov (.t 4)⟩,
 ⟨some 56, none, .mov (.t 5)⟩,
 ⟨some 57, none, .bin .add (.t 55) (.t 56)⟩,
 ⟨some 58, none, .slc (.t 53) (some (.t 54)) (some (.t 57)) none 1 false⟩,
 ⟨some 59, none, .app false (.t 51) (.t 58) 1 1 false⟩,
 ⟨some 60, none, .build [.s (.int .i64 0), .s (.int .u64 0), .lit .nil [], .lit .nil [], .s (.int .i64 0)] [(2, 1, .t 59)]⟩,
 ⟨some 12, none, .mov (.t 50)⟩,
 ⟨none, none, .store (.t 13) (.t 60) 5⟩,
 ⟨some 14, none, .mov (.k (.s (.int .i64 0)))⟩] [12, 13, 14]) (
 .ret))))))),
 [.t 12, .c 13 5 true, .t 14], none⟩

/-- bailey/baileyref20.write -/
def F96 : FnIR := ⟨81,
 .seq (
 .reg [
 ⟨some 7, none, .bxl (.t 1)⟩,
 ⟨some 12, none, .mov (.k (.lit .nil []))⟩,
 ⟨some 13, none, .alloc [.s (.int .i64 0), .s (.int .u64 0), .lit .nil [], .lit .nil [], .s (.int .i64 0)]⟩,
 ⟨some 14, none, .mov (.k (.s (.int .i64 0)))⟩] [0, 2, 3, 4, 5, 7, 13]) (
 .seq (
 .reg [
 ⟨some 20, none, .mov (.t 0)⟩,
 ⟨some 21, none, .load (.t 7) 26 true⟩,
 ⟨some 22, none, .mov (.t 2)⟩,
 ⟨some 23, none, .mov (.t 3)⟩,
 ⟨some 24, none, .call false 100 0 [.t 20, .t 21, .t 22, .t 23]⟩,
 ⟨some 19, none, .mov (.t 24)⟩,
 ⟨some 25, none, .ext (.t 19) 0⟩,
 ⟨some 26, none, .ext (.t 19) 1⟩,
 ⟨some 15, none, .alloc [.s (.int .u64 0), .s (.int .i64 0), .s (.int .i64 0), .lit .nil [], .s (.int .i64 0), .lit .nil [], .s (.int .i64 0), .s (.int .i64 0), .lit .nil [], .lit .nil [], .s (.int .u64 0), .s (.int .u64 0), .s (.int .u64 0), .s (.int .u64 0), .s (.int .i64 0), .s (.int .i64 0), .s (.bool false), .s (.int .u64 0), .s (.int .u64 0), .s (.int .u64 0), .s (.int .u64 0), .s (.int .u64 0), .s (.int .u64 0), .s (.int .u64 0), .s (.int .u64 0), .s (.int .u64 0)]⟩,
 ⟨none, none, .store (.t 15) (.t 25) 26⟩,
 ⟨some 16, none, .mov (.t 26)⟩] [0, 4, 5, 7, 13, 15, 16]) (
 .seq (
 .seq (
 .reg [
 ⟨some 27, none, .mov (.t 16)⟩,
 ⟨some 28, none, .bin .neq (.t 27) (.k (.s (.int .i64 0)))⟩] [0, 4, 5, 7, 13, 15, 16, 28]) (
 .cond (.t 28) (
 .seq (
 .reg [
 ⟨some 29, none, .mov (.t 0)⟩,
 ⟨some 30, none, .build [.s (.int .i64 0), .s (.int .u64 0), .lit .nil [], .lit .nil [], .s (.int .i64 0)] []⟩,
 ⟨some 31, none, .mov (.t 16)⟩,
 ⟨some 12, none, .mov (.t 29)⟩,
 ⟨none, none, .store (.t 13) (.t 30) 5⟩,
 ⟨some 14, none, .mov (.t 31)⟩] [12, 13, 14]) (
 .ret)) (
 .skip))) (
 .seq (
 .seq (
 .reg [
 ⟨some 32, none, .fad (.t 15) 1⟩,
 ⟨some 33, none, .load (.t 32) 1 false⟩,
 ⟨some 34, none, .bin .neq (.t 33) (.k (.s (.int .i64 4)))⟩] [0, 4, 5, 7, 13, 15, 34]) (
 .cond (.t 34) (
 .seq (
 .reg [
 ⟨some 35, none, .mov (.t 0)⟩,
 ⟨some 36, none, .build [.s (.int .i64 0), .s (.int .u64 0), .lit .nil [], .lit .nil [], .s (.int .i64 0)] []⟩,
 ⟨some 12, none, .mov (.t 35)⟩,
 ⟨none, none, .store (.t 13) (.t 36) 5⟩,
 ⟨some 14, none, .mov (.k (.s (.int .i64 203)))⟩] [12, 13, 14]) (
 .ret)) (
 .skip))) (
 .seq (
 .seq (
 .reg [
 ⟨some 37, none, .fad (.t 7) 2⟩,
 ⟨some 38, none, .load (.t 37) 2 true⟩,
 ⟨some 39, none, .fad (.t 15) 2⟩,
 ⟨some 40, none, .load (.t 39) 2 true⟩,
 ⟨some 41, none, .call false 145 0 [.t 38, .t 40]⟩,
 ⟨some 42, none, .un .not (.t 41)⟩] [0, 4, 5, 13, 15, 42]) (
 .cond (.t 42) (
 .seq (
 .reg [
 ⟨some 43, none, .mov (.t 0)⟩,
 ⟨some 44, none, .build [.s (.int .i64 0), .s (.int .u64 0), .lit .nil [], .lit .nil [], .s (.int .i64 0)] []⟩,
 ⟨some 12, none, .mov (.t 43)⟩,
 ⟨none, none, .store (.t 13) (.t 44) 5⟩,
 ⟨some 14, none, .mov (.k (.s (.int .i64 204)))⟩] [12, 13, 14]) (
 .ret)) (
 .skip))) (
 .seq (
 .seq (
 .reg [
 ⟨some 45, none, .load (.t 15) 26 true⟩,
 ⟨some 46, none, .mov (.t 4)⟩,
 ⟨some 47, none, .mov (.t 5)⟩,
 ⟨some 48, none, .len (.t 47)⟩,
 ⟨some 49, none, .call false 151 0 [.t 45, .t 46, .t 48]⟩,
 ⟨some 50, none, .un .not (.t 49)⟩] [0, 4, 5, 13, 15, 50]) (
 .cond (.t 50) (
 .seq (
 .reg [
 ⟨some 51, none, .mov (.t 0)⟩,
 ⟨some 52, none, .build [.s (.int .i64 0), .s (.int .u64 0), .lit .nil [], .lit .nil [], .s (.int .i64 0)] []⟩,
 ⟨some 12, none, .mov (.t 51)⟩,
 ⟨none, none, .store (.t 13) (.t 52) 5⟩,
 ⟨some 14, none, .mov (.k (.s (.int .i64 205)))⟩] [12, 13, 14]) (
 .ret)) (
 .skip))) (
 .seq (
 .reg [
 ⟨some 53, none, .bsl true 1 false [.s (.int .u8 0)] 0 []⟩,
 ⟨some 54, none, .fad (.t 15) 9⟩,
 ⟨some 55, none, .load (.t 54) 1 false⟩,
 ⟨some 56, none, .app false (.t 53) (.t 55) 1 1 false⟩,
 ⟨some 17, none, .mov (.t 56)⟩] [0, 4, 5, 13, 15, 17]) (
 .seq (
 .seq (
 .reg [
 ⟨some 57, none, .mov (.t 5)⟩,
 ⟨some 58, none, .len (.t 57)⟩,
 ⟨some 59, none, .mov (.k (.s (.int .i64 0)))⟩] [0, 4, 5, 13, 15, 17, 58, 59]) (
 .block 0 (
 .loop (
 .seq (
 .reg [
 ⟨some 60, none, .bin .lss (.t 59) (.t 58)⟩] [0, 4, 5, 13, 15, 17, 58, 59, 60]) (
 .seq (
 .cond (.t 60) (
 .skip) (
 .exit 0)) (
 .seq (
 .block 1 (
 .seq (
 .reg [
 ⟨some 61, none, .mov (.t 59)⟩,
 ⟨some 18, none, .mov (.t 61)⟩] [0, 4, 5, 13, 15, 17, 18, 58, 59]) (
 .reg [
 ⟨some 62, none, .mov (.t 17)⟩,
 ⟨some 63, none, .mov (.t 4)⟩,
 ⟨some 64, none, .mov (.t 18)⟩,
 ⟨some 65, none, .bin .add (.t 63) (.t 64)⟩,
 ⟨some 66, none, .mov (.t 5)⟩,
 ⟨some 67, none, .mov (.t 18)⟩,
 ⟨some 68, none, .ixa (.t 66) (.t 67) 1 none⟩,
 ⟨some 69, none, .load (.t 68) 1 false⟩,
 ⟨some 70, none, .ixa (.t 62) (.t 65) 1 none⟩,
 ⟨none, none, .store (.t 70) (.t 69) 1⟩] [0, 4, 5, 13, 15, 17, 58, 59]))) (
 .reg [
 ⟨some 71, none, .bin .add (.t 59) (.k (.s (.int .i64 1)))⟩,
 ⟨some 59, none, .mov (.t 71)⟩] [0, 4, 5, 13, 15, 17, 58, 59]))))))) (
 .seq (
 .reg [
 ⟨some 72, none, .mov (.t 17)⟩,
 ⟨some 73, none, .fad (.t 15) 9⟩,
 ⟨none, none, .store (.t 73) (.t 72) 1⟩] [0, 5, 13, 15]) (
 .seq (
 .reg [
 ⟨some 74, none, .mov (.t 0)⟩,
 ⟨some 75, none, .load (.t 15) 26 true⟩,
 ⟨some 76, none, .call false 149 0 [.t 74, .t 75]⟩,
 ⟨some 77, none, .mov (.t 5)⟩,
 ⟨some 78, none, .len (.t 77)⟩,
 ⟨some 79, none, .cvi .u64 (.t 78)⟩,
 ⟨some 80, none, .build [.s (.int .i64 0), .s (.int .u64 0), .lit .nil [], .lit .nil [], .s (.int .i64 0)] [(1, 1, .t 79)]⟩,
 ⟨some 12, none, .mov (.t 76)⟩,
 ⟨none, none, .store (.t 13) (.t 80) 5⟩,
 ⟨some 14, none, .mov (.k (.s (.int .i64 0)))⟩] [12, 13, 14]) (
 .ret)))))))))),
 [.t 12, .c 13 5 true, .t 14], none⟩

/-- bailey/baileyref20.list -/
def F97 : FnIR := ⟨127,
 .seq (
 .reg [
 ⟨some 4, none, .bxl (.t 1)⟩,
 ⟨some 5, none, .bxl (.t 2)⟩,
 ⟨some 6, none, .mov (.k (.lit .nil []))⟩,
 ⟨some 7, none, .alloc [.s (.int .i64 0), .s (.int .u64 0), .lit .nil [], .lit .nil [], .s (.int .i64 0)]⟩,
 ⟨some 8, none, .mov (.k (.s (.int .i64 0)))⟩] [0, 4, 5, 7]) (
 .seq (
 .reg [
 ⟨some 22, none, .mov (.t 0)⟩,
 ⟨some 23, none, .load (.t 4) 26 true⟩,
 ⟨some 24, none, .fad (.t 5) 3⟩,
 ⟨some 25, none, .load (.t 24) 1 false⟩,
 ⟨some 26, none, .call false 144 0 [.t 22, .t 23, .t 25]⟩,
 ⟨some 21, none, .mov (.t 26)⟩,
 ⟨some 27, none, .ext (.t 21) 0⟩,
 ⟨some 28, none, .ext (.t 21) 1⟩,
 ⟨some 9, none, .alloc [.s (.int .u64 0), .s (.int .i64 0), .s (.int .i64 0), .lit .nil [], .s (.int .i64 0), .lit .nil [], .s (.int .i64 0), .s (.int .i64 0), .lit .nil [], .lit .nil [], .s (.int .u64 0), .s (.int .u64 0), .s (.int .u64 0), .s (.int .u64 0), .s (.int .i64 0), .s (.int .i64 0), .s (.bool false), .s (.int .u64 0), .s (.int .u64 0), .s (.int .u64 0), .s (.int .u64 0), .s (.int .u64 0), .s (.int .u64 0), .s (.int .u64 0), .s (.int .u64 0), .s (.int .u64 0)]⟩,
 ⟨none, none, .store (.t 9) (.t 27) 26⟩,
 ⟨some 10, none, .mov (.t 28)⟩] [0, 4, 5, 7, 9, 10]) (
 .seq (
 .seq (
 .reg [
 ⟨some 29, none, .mov (.t 10)⟩,
 ⟨some 30, none, .bin .neq (.t 29) (.k (.s (.int .i64 0)))⟩] [0, 4, 5, 7, 9, 10, 30]) (
 .cond (.t 30) (
 .seq (
 .reg [
 ⟨some 31, none, .mov (.t 0)⟩,
 ⟨some 32, none, .build [.s (.int .i64 0), .s (.int .u64 0), .lit .nil [], .lit .nil [], .s (.int .i64 0)] []⟩,
 ⟨some 33, none, .mov (.t 10)⟩,
 ⟨some 6, none, .mov (.t 31)⟩,
 ⟨none, none, .store (.t 7) (.t 32) 5⟩,
 ⟨some 8, none, .mov (.t 33)⟩] [6, 7, 8]) (
 .ret)) (
 .skip))) (
 .seq (
 .seq (
 .reg [
 ⟨some 34, none, .fad (.t 5) 0⟩,
 ⟨some 35, none, .load (.t 34) 1 false⟩,
 ⟨some 36, none, .bin .eql (.t 35) (.k (.s (.int .i64 8)))⟩] [0, 4, 5, 7, 9, 36]) (
 .cond (.t 36) (
 .seq (
 .reg [
 ⟨some 37, none, .bsl true 1 false [.s (.int .u64 0)] 0 []⟩,
 ⟨some 11, none, .mov (.t 37)⟩] [0, 7, 9, 11]) (
 .seq (
 .seq (
 .reg [
 ⟨some 38, none, .fad (.t 9) 8⟩,
 ⟨some 39, none, .load (.t 38) 1 false⟩,
 ⟨some 40, none, .len (.t 39)⟩,
 ⟨some 41, none, .mov (.k (.s (.int .i64 0)))⟩] [0, 7, 11, 39, 40, 41]) (
 .block 0 (
 .loop (
 .seq (
 .reg [
 ⟨some 42, none, .bin .lss (.t 41) (.t 40)⟩] [0, 7, 11, 39, 40, 41, 42]) (
 .seq (
 .cond (.t 42) (
 .skip) (
 .exit 0)) (
 .seq (
 .block 1 (
 .seq (
 .reg [
 ⟨some 43, none, .ixa (.t 39) (.t 41) 2 none⟩,
 ⟨some 44, none, .load (.t 43) 2 true⟩,
 ⟨some 13, none, .alloc [.s (.int .u64 0), .s (.int .i64 0)]⟩,
 ⟨none, none, .store (.t 13) (.t 44) 2⟩] [0, 7, 11, 13, 39, 40, 41]) (
 .reg [
 ⟨some 45, none, .mov (.t 11)⟩,
 ⟨some 46, none, .fad (.t 13) 0⟩,
 ⟨some 47, none, .load (.t 46) 1 false⟩,
 ⟨some 48, none, .bsl true 1 false [.s (.int .u64 0)] 1 [(0, .t 47)]⟩,
 ⟨some 49, none, .app false (.t 45) (.t 48) 1 8 false⟩,
 ⟨some 11, none, .mov (.t 49)⟩] [0, 7, 11, 39, 40, 41]))) (
 .reg [
 ⟨some 50, none, .bin .add (.t 41) (.k (.s (.int .i64 1)))⟩,
 ⟨some 41, none, .mov (.t 50)⟩] [0, 7, 11, 39, 40, 41]))))))) (
 .seq (
 .reg [
 ⟨some 51, none, .mov (.t 0)⟩,
 ⟨some 52, none, .mov (.t 11)⟩,
 ⟨some 53, none, .build [.s (.int .i64 0), .s (.int .u64 0), .lit .nil [], .lit .nil [], .s (.int .i64 0)] [(3, 1, .t 52)]⟩,
 ⟨some 6, none, .mov (.t 51)⟩,
 ⟨none, none, .store (.t 7) (.t 53) 5⟩,
 ⟨some 8, none, .mov (.k (.s (.int .i64 0)))⟩] [6, 7, 8]) (
 .ret)))) (
 .skip))) (
 .seq (
 .seq (
 .reg [
 ⟨some 54, none, .fad (.t 4) 2⟩,
 ⟨some 55, none, .load (.t 54) 2 true⟩,
 ⟨some 56, none, .fad (.t 9) 2⟩,
 ⟨some 57, none, .load (.t 56) 2 true⟩,
 ⟨some 58, none, .call false 145 0 [.t 55, .t 57]⟩,
 ⟨some 59, none, .un .not (.t 58)⟩] [0, 4, 5, 7, 9, 59]) (
 .cond (.t 59) (
 .seq (
 .reg [
 ⟨some 60, none, .mov (.t 0)⟩,
 ⟨some 61, none, .build [.s (.int .i64 0), .s (.int .u64 0), .lit .nil [], .lit .nil [], .s (.int .i64 0)] []⟩,
 ⟨some 6, none, .mov (.t 60)⟩,
 ⟨none, none, .store (.t 7) (.t 61) 5⟩,
 ⟨some 8, none, .mov (.k (.s (.int .i64 204)))⟩] [6, 7, 8]) (
 .ret)) (
 .skip))) (
 .seq (
 .seq (
 .reg [
 ⟨some 62, none, .fad (.t 5) 0⟩,
 ⟨some 63, none, .load (.t 62) 1 false⟩,
 ⟨some 64, none, .bin .eql (.t 63) (.k (.s (.int .i64 9)))⟩] [0, 4, 5, 7, 9, 64]) (
 .cond (.t 64) (
 .seq (
 .reg [
 ⟨some 66, none, .mov (.t 0)⟩,
 ⟨some 67, none, .fad (.t 5) 3⟩,
 ⟨some 68, none, .load (.t 67) 1 false⟩,
 ⟨some 69, none, .fad (.t 5) 4⟩,
 ⟨some 70, none, .load (.t 69) 1 false⟩,
 ⟨some 71, none, .call false 152 0 [.t 66, .t 68, .t 70]⟩,
 ⟨some 65, none, .mov (.t 71)⟩,
 ⟨some 72, none, .ext (.t 65) 0⟩,
 ⟨some 73, none, .ext (.t 65) 1⟩,
 ⟨some 74, none, .ext (.t 65) 2⟩,
 ⟨some 14, none, .mov (.t 72)⟩,
 ⟨some 15, none, .mov (.t 73)⟩,
 ⟨some 16, none, .mov (.t 74)⟩] [0, 7, 14, 16]) (
 .seq (
 .seq (
 .reg [
 ⟨some 75, none, .mov (.t 16)⟩,
 ⟨some 76, none, .bin .neq (.t 75) (.k (.s (.int .i64 0)))⟩] [0, 7, 14, 76]) (
 .cond (.t 76) (
 .seq (
 .reg [
 ⟨some 77, none, .mov (.t 0)⟩,
 ⟨some 78, none, .build [.s (.int .i64 0), .s (.int .u64 0), .lit .nil [], .lit .nil [], .s (.int .i64 0)] []⟩,
 ⟨some 6, none, .mov (.t 77)⟩,
 ⟨none, none, .store (.t 7) (.t 78) 5⟩,
 ⟨some 8, none, .mov (.k (.s (.int .i64 202)))⟩] [6, 7, 8]) (
 .ret)) (
 .skip))) (
 .seq (
 .reg [
 ⟨some 79, none, .mov (.t 14)⟩,
 ⟨some 80, none, .build [.s (.int .i64 0), .s (.int .u64 0), .lit .nil [], .lit .nil [], .s (.int .i64 0)] []⟩,
 ⟨some 6, none, .mov (.t 79)⟩,
 ⟨none, none, .store (.t 7) (.t 80) 5⟩,
 ⟨some 8, none, .mov (.k (.s (.int .i64 0)))⟩] [6, 7, 8]) (
 .ret)))) (
 .skip))) (
 .seq (
 .reg [
 ⟨some 82, none, .mov (.t 0)⟩,
 ⟨some 83, none, .load (.t 4) 26 true⟩,
 ⟨some 84, none, .fad (.t 5) 5⟩,
 ⟨some 85, none, .load (.t 84) 1 false⟩,
 ⟨some 86, none, .fad (.t 5) 4⟩,
 ⟨some 87, none, .load (.t 86) 1 false⟩,
 ⟨some 88, none, .call false 100 0 [.t 82, .t 83, .t 85, .t 87]⟩,
 ⟨some 81, none, .mov (.t 88)⟩,
 ⟨some 89, none, .ext (.t 81) 0⟩,
 ⟨some 90, none, .ext (.t 81) 1⟩,
 ⟨some 17, none, .alloc [.s (.int .u64 0), .s (.int .i64 0), .s (.int .i64 0), .lit .nil [], .s (.int .i64 0), .lit .nil [], .s (.int .i64 0), .s (.int .i64 0), .lit .nil [], .lit .nil [], .s (.int .u64 0), .s (.int .u64 0), .s (.int .u64 0), .s (.int .u64 0), .s (.int .i64 0), .s (.int .i64 0), .s (.bool false), .s (.int .u64 0), .s (.int .u64 0), .s (.int .u64 0), .s (.int .u64 0), .s (.int .u64 0), .s (.int .u64 0), .s (.int .u64 0), .s (.int .u64 0), .s (.int .u64 0)]⟩,
 ⟨none, none, .store (.t 17) (.t 89) 26⟩,
 ⟨some 18, none, .mov (.t 90)⟩] [0, 4, 7, 9, 17, 18]) (
 .seq (
 .seq (
 .reg [
 ⟨some 91, none, .mov (.t 18)⟩,
 ⟨some 92, none, .bin .neq (.t 91) (.k (.s (.int .i64 0)))⟩] [0, 4, 7, 9, 17, 18, 92]) (
 .cond (.t 92) (
 .seq (
 .reg [
 ⟨some 93, none, .mov (.t 0)⟩,
 ⟨some 94, none, .build [.s (.int .i64 0), .s (.int .u64 0), .lit .nil [], .lit .nil [], .s (.int .i64 0)] []⟩,
 ⟨some 95, none, .mov (.t 18)⟩,
 ⟨some 6, none, .mov (.t 93)⟩,
 ⟨none, none, .store (.t 7) (.t 94) 5⟩,
 ⟨some 8, none, .mov (.t 95)⟩] [6, 7, 8]) (
 .ret)) (
 .skip))) (
 .seq (
 .seq (
 .reg [
 ⟨some 96, none, .fad (.t 17) 1⟩,
 ⟨some 97, none, .load (.t 96) 1 false⟩,
 ⟨some 98, none, .bin .neq (.t 97) (.k (.s (.int .i64 4)))⟩] [0, 4, 7, 9, 17, 98]) (
 .cond (.t 98) (
 .seq (
 .reg [
 ⟨some 99, none, .mov (.t 0)⟩,
 ⟨some 100, none, .build [.s (.int .i64 0), .s (.int .u64 0), .lit .nil [], .lit .nil [], .s (.int .i64 0)] []⟩,
 ⟨some 6, none, .mov (.t 99)⟩,
 ⟨none, none, .store (.t 7) (.t 100) 5⟩,
 ⟨some 8, none, .mov (.k (.s (.int .i64 203)))⟩] [6, 7, 8]) (
 .ret)) (
 .skip))) (
 .seq (
 .seq (
 .reg [
 ⟨some 101, none, .fad (.t 4) 2⟩,
 ⟨some 102, none, .load (.t 101) 2 true⟩,
 ⟨some 103, none, .fad (.t 17) 2⟩,
 ⟨some 104, none, .load (.t 103) 2 true⟩,
 ⟨some 105, none, .call false 145 0 [.t 102, .t 104]⟩,
 ⟨some 106, none, .un .not (.t 105)⟩] [0, 7, 9, 17, 106]) (
 .cond (.t 106) (
 .seq (
 .reg [
 ⟨some 107, none, .mov (.t 0)⟩,
 ⟨some 108, none, .build [.s (.int .i64 0), .s (.int .u64 0), .lit .nil [], .lit .nil [], .s (.int .i64 0)] []⟩,
 ⟨some 6, none, .mov (.t 107)⟩,
 ⟨none, none, .store (.t 7) (.t 108) 5⟩,
 ⟨some 8, none, .mov (.k (.s (.int .i64 204)))⟩] [6, 7, 8]) (
 .ret)) (
 .skip))) (
 .seq (
 .reg [
 ⟨some 110, none, .load (.t 9) 26 true⟩,
 ⟨some 111, none, .fad (.t 17) 0⟩,
 ⟨some 112, none, .load (.t 111) 1 false⟩,
 ⟨some 113, none, .fad (.t 17) 6⟩,
 ⟨some 114, none, .load (.t 113) 1 false⟩,
 ⟨some 115, none, .call false 153 0 [.t 110, .t 112, .t 114]⟩,
 ⟨some 109, none, .mov (.t 115)⟩,
 ⟨some 116, none, .ext (.t 109) 0⟩,
 ⟨some 117, none, .ext (.t 109) 1⟩,
 ⟨some 19, none, .alloc [.s (.int .u64 0), .s (.int .i64 0), .s (.int .i64 0), .lit .nil [], .s (.int .i64 0), .lit .nil [], .s (.int .i64 0), .s (.int .i64 0), .lit .nil [], .lit .nil [], .s (.int .u64 0), .s (.int .u64 0), .s (.int .u64 0), .s (.int .u64 0), .s (.int .i64 0), .s (.int .i64 0), .s (.bool false), .s (.int .u64 0), .s (.int .u64 0), .s (.int .u64 0), .s (.int .u64 0), .s (.int .u64 0), .s (.int .u64 0), .s (.int .u64 0), .s (.int .u64 0), .s (.int .u64 0)]⟩,
 ⟨none, none, .store (.t 19) (.t 116) 26⟩,
 ⟨some 20, none, .mov (.t 117)⟩] [0, 7, 19, 20]) (
 .seq (
 .seq (
 .reg [
 ⟨some 118, none, .mov (.t 20)⟩,
 ⟨some 119, none, .bin .neq (.t 118) (.k (.s (.int .i64 0)))⟩] [0, 7, 19, 20, 119]) (
 .cond (.t 119) (
 .seq (
 .reg [
 ⟨some 120, none, .mov (.t 0)⟩,
 ⟨some 121, none, .build [.s (.int .i64 0), .s (.int .u64 0), .lit .nil [], .lit .nil [], .s (.int .i64 0)] []⟩,
 ⟨some 122, none, .mov (.t 20)⟩,
 ⟨some 6, none, .mov (.t 120)⟩,
 ⟨none, none, .store (.t 7) (.t 121) 5⟩,
 ⟨some 8, none, .mov (.t 122)⟩] [6, 7, 8]) (
 .ret)) (
 .skip))) (
 .seq (
 .reg [
 ⟨some 123, none, .mov (.t 0)⟩,
 ⟨some 124, none, .load (.t 19) 26 true⟩,
 ⟨some 125, none, .call false 149 0 [.t 123, .t 124]⟩,
 ⟨some 126, none, .build [.s (.int .i64 0), .s (.int .u64 0), .lit .nil [], .lit .nil [], .s (.int .i64 0)] []⟩,
 ⟨some 6, none, .mov (.t 125)⟩,
 ⟨none, none, .store (.t 7) (.t 126) 5⟩,
 ⟨some 8, none, .mov (.k (.s (.int .i64 0)))⟩] [6, 7, 8]) (
 .ret))))))))))))),
 [.t 6, .c 7 5 true, .t 8], none⟩

/-- bailey/baileyref20.self -/
def F98 : FnIR := ⟨159,
 .seq (
 .reg [
 ⟨some 6, none, .box (.t 2)⟩,
 ⟨some 7, none, .bxl (.t 3)⟩,
 ⟨some 8, none, .mov (.k (.lit .nil []))⟩,
 ⟨some 9, none, .alloc [.s (.int .i64 0), .s (.int .u64 0), .lit .nil [], .lit .nil [], .s (.int .i64 0)]⟩,
 ⟨some 10, none, .mov (.k (.s (.int .i64 0)))⟩] [0, 1, 6, 7, 9]) (
 .seq (
 .reg [
 ⟨some 19, none, .build [.s (.int .i64 0), .s (.int .u64 0), .lit .nil [], .lit .nil [], .s (.int .i64 0)] []⟩,
 ⟨some 11, none, .alloc [.s (.int .i64 0), .s (.int .u64 0), .lit .nil [], .lit .nil [], .s (.int .i64 0)]⟩,
 ⟨none, none, .store (.t 11) (.t 19) 5⟩] [0, 1, 6, 7, 9, 11]) (
 .seq (
 .seq (
 .reg [
 ⟨some 20, none, .fad (.t 7) 0⟩,
 ⟨some 21, none, .load (.t 20) 1 false⟩] [0, 1, 6, 7, 9, 11, 21]) (
 .block 0 (
 .seq (
 .reg [
 ⟨some 23, none, .bin .eql (.t 21) (.k (.s (.int .i64 11)))⟩,
 ⟨some 22, none, .mov (.t 23)⟩] [0, 1, 6, 7, 9, 11, 21, 22]) (
 .cond (.t 22) (
 .seq (
 .seq (
 .reg [
 ⟨some 24, none, .fad (.t 6) 2⟩,
 ⟨some 25, none, .load (.t 24) 2 true⟩,
 ⟨some 26, none, .fad (.t 6) 4⟩,
 ⟨some 27, none, .load (.t 26) 2 true⟩,
 ⟨some 28, none, .fad (.t 7) 6⟩,
 ⟨some 29, none, .load (.t 28) 2 true⟩,
 ⟨some 30, none, .call false 154 0 [.t 25, .t 27, .t 29]⟩,
 ⟨some 31, none, .un .not (.t 30)⟩] [0, 6, 7, 9, 11, 31]) (
 .cond (.t 31) (
 .seq (
 .drw [
 ⟨some 32, none, .mov (.t 0)⟩,
 ⟨some 33, none, .load (.t 11) 5 true⟩,
 ⟨some 8, none, .mov (.t 32)⟩,
 ⟨none, none, .store (.t 9) (.t 33) 5⟩,
 ⟨some 10, none, .mov (.k (.s (.int .i64 204)))⟩] [] [] [8, 9, 10]) (
 .ret)) (
 .skip))) (
 .reg [
 ⟨some 34, none, .fad (.t 7) 6⟩,
 ⟨some 35, none, .load (.t 34) 2 true⟩,
 ⟨some 36, none, .fad (.t 6) 2⟩,
 ⟨none, none, .store (.t 36) (.t 35) 2⟩] [0, 6, 9, 11])) (
 .seq (
 .reg [
 ⟨some 38, none, .bin .eql (.t 21) (.k (.s (.int .i64 12)))⟩,
 ⟨some 37, none, .mov (.t 38)⟩] [0, 1, 6, 7, 9, 11, 21, 37]) (
 .cond (.t 37) (
 .seq (
 .seq (
 .reg [
 ⟨some 39, none, .fad (.t 6) 2⟩,
 ⟨some 40, none, .load (.t 39) 2 true⟩,
 ⟨some 41, none, .fad (.t 6) 4⟩,
 ⟨some 42, none, .load (.t 41) 2 true⟩,
 ⟨some 43, none, .fad (.t 7) 8⟩,
 ⟨some 44, none, .load (.t 43) 2 true⟩,
 ⟨some 45, none, .call false 155 0 [.t 40, .t 42, .t 44]⟩,
 ⟨some 46, none, .un .not (.t 45)⟩] [0, 6, 7, 9, 11, 46]) (
 .cond (.t 46) (
 .seq (
 .drw [
 ⟨some 47, none, .mov (.t 0)⟩,
 ⟨some 48, none, .load (.t 11) 5 true⟩,
 ⟨some 8, none, .mov (.t 47)⟩,
 ⟨none, none, .store (.t 9) (.t 48) 5⟩,
 ⟨some 10, none, .mov (.k (.s (.int .i64 204)))⟩] [] [] [8, 9, 10]) (
 .ret)) (
 .skip))) (
 .reg [
 ⟨some 49, none, .fad (.t 7) 8⟩,
 ⟨some 50, none, .load (.t 49) 2 true⟩,
 ⟨some 51, none, .fad (.t 6) 4⟩,
 ⟨none, none, .store (.t 51) (.t 50) 2⟩] [0, 6, 9, 11])) (
 .seq (
 .reg [
 ⟨some 53, none, .bin .eql (.t 21) (.k (.s (.int .i64 13)))⟩,
 ⟨some 52, none, .mov (.t 53)⟩] [0, 1, 6, 7, 9, 11, 21, 52]) (
 .cond (.t 52) (
 .seq (
 .reg [
 ⟨some 55, none, .mov (.t 0)⟩,
 ⟨some 56, none, .load (.t 6) 26 true⟩,
 ⟨some 57, none, .fad (.t 7) 3⟩,
 ⟨some 58, none, .load (.t 57) 1 false⟩,
 ⟨some 59, none, .fad (.t 7) 4⟩,
 ⟨some 60, none, .load (.t 59) 1 false⟩,
 ⟨some 61, none, .call false 100 0 [.t 55, .t 56, .t 58, .t 60]⟩,
 ⟨some 54, none, .mov (.t 61)⟩,
 ⟨some 62, none, .ext (.t 54) 0⟩,
 ⟨some 63, none, .ext (.t 54) 1⟩,
 ⟨some 12, none, .alloc [.s (.int .u64 0), .s (.int .i64 0), .s (.int .i64 0), .lit .nil [], .s (.int .i64 0), .lit .nil [], .s (.int .i64 0), .s (.int .i64 0), .lit .nil [], .lit .nil [], .s (.int .u64 0), .s (.int .u64 0), .s (.int .u64 0), .s (.int .u64 0), .s (.int .i64 0), .s (.int .i64 0), .s (.bool false), .s (.int .u64 0), .s (.int .u64 0), .s (.int .u64 0), .s (.int .u64 0), .s (.int .u64 0), .s (.int .u64 0), .s (.int .u64 0), .s (.int .u64 0), .s (.int .u64 0)]⟩,
 ⟨none, none, .store (.t 12) (.t 62) 26⟩,
 ⟨some 13, none, .mov (.t 63)⟩] [0, 6, 7, 9, 11, 12, 13]) (
 .seq (
 .seq (
 .reg [
 ⟨some 64, none, .mov (.t 13)⟩,
 ⟨some 65, none, .bin .neq (.t 64) (.k (.s (.int .i64 0)))⟩] [0, 6, 7, 9, 11, 12, 13, 65]) (
 .cond (.t 65) (
 .seq (
 .drw [
 ⟨some 66, none, .mov (.t 0)⟩,
 ⟨some 67, none, .load (.t 11) 5 true⟩,
 ⟨some 68, none, .mov (.t 13)⟩,
 ⟨some 8, none, .mov (.t 66)⟩,
 ⟨none, none, .store (.t 9) (.t 67) 5⟩,
 ⟨some 10, none, .mov (.t 68)⟩] [] [] [8, 9, 10]) (
 .ret)) (
 .skip))) (
 .seq (
 .seq (
 .reg [
 ⟨some 69, none, .fad (.t 12) 1⟩,
 ⟨some 70, none, .load (.t 69) 1 false⟩,
 ⟨some 71, none, .bin .neq (.t 70) (.k (.s (.int .i64 3)))⟩] [0, 6, 7, 9, 11, 12, 71]) (
 .cond (.t 71) (
 .seq (
 .drw [
 ⟨some 72, none, .mov (.t 0)⟩,
 ⟨some 73, none, .load (.t 11) 5 true⟩,
 ⟨some 8, none, .mov (.t 72)⟩,
 ⟨none, none, .store (.t 9) (.t 73) 5⟩,
 ⟨some 10, none, .mov (.k (.s (.int .i64 203)))⟩] [] [] [8, 9, 10]) (
 .ret)) (
 .skip))) (
 .seq (
 .reg [
 ⟨some 75, none, .load (.t 6) 26 true⟩,
 ⟨some 76, none, .load (.t 12) 26 true⟩,
 ⟨some 77, none, .fad (.t 7) 6⟩,
 ⟨some 78, none, .load (.t 77) 2 true⟩,
 ⟨some 79, none, .fad (.t 7) 8⟩,
 ⟨some 80, none, .load (.t 79) 2 true⟩,
 ⟨some 81, none, .call false 156 0 [.t 75, .t 76, .t 78, .t 80]⟩,
 ⟨some 74, none, .mov (.t 81)⟩,
 ⟨some 82, none, .ext (.t 74) 0⟩,
 ⟨some 83, none, .ext (.t 74) 1⟩,
 ⟨some 14, none, .alloc [.s (.int .u64 0), .s (.int .i64 0), .s (.int .i64 0), .lit .nil [], .s (.int .i64 0), .lit .nil [], .s (.int .i64 0), .s (.int .i64 0), .lit .nil [], .lit .nil [], .s (.int .u64 0), .s (.int .u64 0), .s (.int .u64 0), .s (.int .u64 0), .s (.int .i64 0), .s (.int .i64 0), .s (.bool false), .s (.int .u64 0), .s (.int .u64 0), .s (.int .u64 0), .s (.int .u64 0), .s (.int .u64 0), .s (.int .u64 0), .s (.int .u64 0), .s (.int .u64 0), .s (.int .u64 0)]⟩,
 ⟨none, none, .store (.t 14) (.t 82) 26⟩,
 ⟨some 15, none, .mov (.t 83)⟩] [0, 6, 9, 11, 12, 14, 15]) (
 .seq (
 .seq (
 .reg [
 ⟨some 84, none, .mov (.t 15)⟩,
 ⟨some 85, none, .bin .neq (.t 84) (.k (.s (.int .i64 0)))⟩] [0, 6, 9, 11, 12, 14, 15, 85]) (
 .cond (.t 85) (
 .seq (
 .drw [
 ⟨some 86, none, .mov (.t 0)⟩,
 ⟨some 87, none, .load (.t 11) 5 true⟩,
 ⟨some 88, none, .mov (.t 15)⟩,
 ⟨some 8, none, .mov (.t 86)⟩,
 ⟨none, none, .store (.t 9) (.t 87) 5⟩,
 ⟨some 10, none, .mov (.t 88)⟩] [] [] [8, 9, 10]) (
 .ret)) (
 .skip))) (
 .seq (
 .reg [
 ⟨some 89, none, .load (.t 14) 26 true⟩,
 ⟨none, none, .store (.t 6) (.t 89) 26⟩] [0, 6, 9, 11, 12]) (
 .reg [
 ⟨some 90, none, .fad (.t 12) 17⟩,
 ⟨some 91, none, .load (.t 90) 1 false⟩,
 ⟨some 92, none, .fad (.t 11) 1⟩,
 ⟨none, none, .store (.t 92) (.t 91) 1⟩] [0, 6, 9, 11]))))))) (
 .seq (
 .reg [
 ⟨some 94, none, .bin .eql (.t 21) (.k (.s (.int .i64 14)))⟩,
 ⟨some 93, none, .mov (.t 94)⟩] [0, 1, 6, 7, 9, 11, 21, 93]) (
 .cond (.t 93) (
 .seq (
 .reg [
 ⟨some 96, none, .load (.t 6) 26 true⟩,
 ⟨some 97, none, .mov (.t 1)⟩,
 ⟨some 98, none, .call false 157 0 [.t 96, .t 97]⟩,
 ⟨some 95, none, .mov (.t 98)⟩,
 ⟨some 99, none, .ext (.t 95) 0⟩,
 ⟨some 100, none, .ext (.t 95) 1⟩,
 ⟨some 101, none, .ext (.t 95) 2⟩,
 ⟨some 16, none, .alloc [.s (.int .u64 0), .s (.int .i64 0), .s (.int .i64 0), .lit .nil [], .s (.int .i64 0), .lit .nil [], .s (.int .i64 0), .s (.int .i64 0), .lit .nil [], .lit .nil [], .s (.int .u64 0), .s (.int .u64 0), .s (.int .u64 0), .s (.int .u64 0), .s (.int .i64 0), .s (.int .i64 0), .s (.bool false), .s (.int .u64 0), .s (.int .u64 0), .s (.int .u64 0), .s (.int .u64 0), .s (.int .u64 0), .s (.int .u64 0), .s (.int .u64 0), .s (.int .u64 0), .s (.int .u64 0)]⟩,
 ⟨none, none, .store (.t 16) (.t 99) 26⟩,
 ⟨some 17, none, .mov (.t 100)⟩,
 ⟨some 18, none, .mov (.t 101)⟩] [0, 6, 9, 11, 16, 17, 18]) (
 .seq (
 .seq (
 .reg [
 ⟨some 102, none, .mov (.t 18)⟩,
 ⟨some 103, none, .bin .neq (.t 102) (.k (.s (.int .i64 0)))⟩] [0, 6, 9, 11, 16, 17, 18, 103]) (
 .cond (.t 103) (
 .seq (
 .drw [
 ⟨some 104, none, .mov (.t 0)⟩,
 ⟨some 105, none, .load (.t 11) 5 true⟩,
 ⟨some 106, none, .mov (.t 18)⟩,
 ⟨some 8, none, .mov (.t 104)⟩,
 ⟨none, none, .store (.t 9) (.t 105) 5⟩,
 ⟨some 10, none, .mov (.t 106)⟩] [] [] [8, 9, 10]) (
 .ret)) (
 .skip))) (
 .seq (
 .reg [
 ⟨some 107, none, .load (.t 16) 26 true⟩,
 ⟨none, none, .store (.t 6) (.t 107) 26⟩] [0, 6, 9, 11, 17]) (
 .reg [
 ⟨some 108, none, .mov (.t 17)⟩,
 ⟨some 109, none, .fad (.t 11) 1⟩,
 ⟨none, none, .store (.t 109) (.t 108) 1⟩] [0, 6, 9, 11])))) (
 .seq (
 .reg [
 ⟨some 111, none, .bin .eql (.t 21) (.k (.s (.int .i64 15)))⟩,
 ⟨some 110, none, .mov (.t 111)⟩] [0, 6, 7, 9, 11, 21, 110]) (
 .cond (.t 110) (
 .seq (
 .seq (
 .reg [
 ⟨some 112, none, .fad (.t 7) 1⟩,
 ⟨some 113, none, .load (.t 112) 1 false⟩,
 ⟨some 114, none, .bin .lss (.t 113) (.k (.s (.int .i64 0)))⟩,
 ⟨some 115, none, .mov (.t 114)⟩,
 ⟨some 116, some (115, false), .fad (.t 7) 1⟩,
 ⟨some 117, some (115, false), .load (.t 116) 1 false⟩,
 ⟨some 118, some (115, false), .bin .gtr (.t 117) (.k (.s (.int .i64 3)))⟩,
 ⟨some 119, none, .pick (.t 115) (.k (.s (.bool true))) (.t 118)⟩,
 ⟨some 120, none, .mov (.t 119)⟩,
 ⟨some 121, some (120, false), .fad (.t 7) 2⟩,
 ⟨some 122, some (120, false), .load (.t 121) 1 false⟩,
 ⟨some 123, some (120, false), .bin .lss (.t 122) (.k (.s (.int .i64 1)))⟩,
 ⟨some 124, none, .pick (.t 120) (.k (.s (.bool true))) (.t 123)⟩,
 ⟨some 125, none, .mov (.t 124)⟩,
 ⟨some 126, some (125, false), .fad (.t 7) 2⟩,
 ⟨some 127, some (125, false), .load (.t 126) 1 false⟩,
 ⟨some 128, some (125, false), .bin .gtr (.t 127) (.k (.s (.int .i64 6)))⟩,
 ⟨some 129, none, .pick (.t 125) (.k (.s (.bool true))) (.t 128)⟩] [0, 6, 7, 9, 11, 129]) (
 .cond (.t 129) (
 .seq (
 .drw [
 ⟨some 130, none, .mov (.t 0)⟩,
 ⟨some 131, none, .load (.t 11) 5 true⟩,
 ⟨some 8, none, .mov (.t 130)⟩,
 ⟨none, none, .store (.t 9) (.t 131) 5⟩,
 ⟨some 10, none, .mov (.k (.s (.int .i64 205)))⟩] [] [] [8, 9, 10]) (
 .ret)) (
 .skip))) (
 .seq (
 .drw [
 ⟨some 132, none, .fad (.t 7) 1⟩,
 ⟨some 133, none, .load (.t 132) 1 false⟩,
 ⟨some 134, none, .fad (.t 7) 2⟩,
 ⟨some 135, none, .load (.t 134) 1 false⟩,
 ⟨some 136, none, .fad (.t 7) 1⟩,
 ⟨some 137, none, .load (.t 136) 1 false⟩,
 ⟨some 138, none, .fad (.t 6) 10⟩,
 ⟨some 139, none, .ixa (.t 138) (.t 137) 1 (some 4)⟩,
 ⟨some 140, none, .load (.t 139) 1 false⟩,
 ⟨some 141, none, .fad (.t 7) 11⟩,
 ⟨some 142, none, .load (.t 141) 1 false⟩,
 ⟨some 143, none, .call false 158 0 [.t 135, .t 140, .t 142]⟩,
 ⟨some 144, none, .fad (.t 6) 10⟩,
 ⟨some 145, none, .ixa (.t 144) (.t 133) 1 (some 4)⟩,
 ⟨none, none, .store (.t 145) (.t 143) 1⟩] [] [] [0, 6, 7, 9, 11]) (
 .reg [
 ⟨some 146, none, .fad (.t 7) 1⟩,
 ⟨some 147, none, .load (.t 146) 1 false⟩,
 ⟨some 148, none, .fad (.t 6) 10⟩,
 ⟨some 149, none, .ixa (.t 148) (.t 147) 1 (some 4)⟩,
 ⟨some 150, none, .load (.t 149) 1 false⟩,
 ⟨some 151, none, .fad (.t 11) 1⟩,
 ⟨none, none, .store (.t 151) (.t 150) 1⟩] [0, 6, 9, 11]))) (
 .seq (
 .reg [
 ⟨some 153, none, .bin .eql (.t 21) (.k (.s (.int .i64 22)))⟩,
 ⟨some 152, none, .mov (.t 153)⟩] [0, 6, 9, 11, 152]) (
 .cond (.t 152) (
 .reg [
 ⟨some 154, none, .fad (.t 6) 16⟩,
 ⟨none, none, .store (.t 154) (.k (.s (.bool true))) 1⟩] [0, 6, 9, 11]) (
 .skip))))))))))))))) (
 .seq (
 .drw [
 ⟨some 155, none, .mov (.t 0)⟩,
 ⟨some 156, none, .load (.t 6) 26 true⟩,
 ⟨some 157, none, .call false 149 0 [.t 155, .t 156]⟩,
 ⟨some 158, none, .load (.t 11) 5 true⟩,
 ⟨some 8, none, .mov (.t 157)⟩,
 ⟨none, none, .store (.t 9) (.t 158) 5⟩,
 ⟨some 10, none, .mov (.k (.s (.int .i64 0)))⟩] [] [] [8, 9, 10]) (
 .ret)))),
 [.t 8, .c 9 5 true, .t 10], none⟩

/-- bailey/baileyref20.window -/
def F99 : FnIR := ⟨151,
 .seq (
 .reg [
 ⟨some 4, none, .bxl (.t 1)⟩,
 ⟨some 5, none, .bxl (.t 2)⟩,
 ⟨some 6, none, .mov (.k (.lit .nil []))⟩,
 ⟨some 7, none, .alloc [.s (.int .i64 0), .s (.int .u64 0), .lit .nil [], .lit .nil [], .s (.int .i64 0)]⟩,
 ⟨some 8, none, .mov (.k (.s (.int .i64 0)))⟩] [0, 4, 5, 7]) (
 .seq (
 .reg [
 ⟨some 25, none, .mov (.t 0)⟩,
 ⟨some 26, none, .load (.t 4) 26 true⟩,
 ⟨some 27, none, .fad (.t 5) 3⟩,
 ⟨some 28, none, .load (.t 27) 1 false⟩,
 ⟨some 29, none, .fad (.t 5) 4⟩,
 ⟨some 30, none, .load (.t 29) 1 false⟩,
 ⟨some 31, none, .call false 100 0 [.t 25, .t 26, .t 28, .t 30]⟩,
 ⟨some 24, none, .mov (.t 31)⟩,
 ⟨some 32, none, .ext (.t 24) 0⟩,
 ⟨some 33, none, .ext (.t 24) 1⟩,
 ⟨some 9, none, .alloc [.s (.int .u64 0), .s (.int .i64 0), .s (.int .i64 0), .lit .nil [], .s (.int .i64 0), .lit .nil [], .s (.int .i64 0), .s (.int .i64 0), .lit .nil [], .lit .nil [], .s (.int .u64 0), .s (.int .u64 0), .s (.int .u64 0), .s (.int .u64 0), .s (.int .i64 0), .s (.int .i64 0), .s (.bool false), .s (.int .u64 0), .s (.int .u64 0), .s (.int .u64 0), .s (.int .u64 0), .s (.int .u64 0), .s (.int .u64 0), .s (.int .u64 0), .s (.int .u64 0), .s (.int .u64 0)]⟩,
 ⟨none, none, .store (.t 9) (.t 32) 26⟩,
 ⟨some 10, none, .mov (.t 33)⟩] [0, 4, 5, 7, 9, 10]) (
 .seq (
 .seq (
 .reg [
 ⟨some 34, none, .mov (.t 10)⟩,
 ⟨some 35, none, .bin .neq (.t 34) (.k (.s (.int .i64 0)))⟩] [0, 4, 5, 7, 9, 10, 35]) (
 .cond (.t 35) (
 .seq (
 .reg [
 ⟨some 36, none, .mov (.t 0)⟩,
 ⟨some 37, none, .build [.s (.int .i64 0), .s (.int .u64 0), .lit .nil [], .lit .nil [], .s (.int .i64 0)] []⟩,
 ⟨some 38, none, .mov (.t 10)⟩,
 ⟨some 6, none, .mov (.t 36)⟩,
 ⟨none, none, .store (.t 7) (.t 37) 5⟩,
 ⟨some 8, none, .mov (.t 38)⟩] [6, 7, 8]) (
 .ret)) (
 .skip))) (
 .seq (
 .seq (
 .reg [
 ⟨some 39, none, .fad (.t 9) 1⟩,
 ⟨some 40, none, .load (.t 39) 1 false⟩,
 ⟨some 41, none, .bin .neq (.t 40) (.k (.s (.int .i64 5)))⟩] [0, 4, 5, 7, 9, 41]) (
 .cond (.t 41) (
 .seq (
 .reg [
 ⟨some 42, none, .mov (.t 0)⟩,
 ⟨some 43, none, .build [.s (.int .i64 0), .s (.int .u64 0), .lit .nil [], .lit .nil [], .s (.int .i64 0)] []⟩,
 ⟨some 6, none, .mov (.t 42)⟩,
 ⟨none, none, .store (.t 7) (.t 43) 5⟩,
 ⟨some 8, none, .mov (.k (.s (.int .i64 203)))⟩] [6, 7, 8]) (
 .ret)) (
 .skip))) (
 .seq (
 .seq (
 .reg [
 ⟨some 44, none, .fad (.t 5) 0⟩,
 ⟨some 45, none, .load (.t 44) 1 false⟩,
 ⟨some 46, none, .bin .eql (.t 45) (.k (.s (.int .i64 16)))⟩] [0, 4, 5, 7, 9, 46]) (
 .cond (.t 46) (
 .seq (
 .seq (
 .reg [
 ⟨some 47, none, .fad (.t 4) 2⟩,
 ⟨some 48, none, .load (.t 47) 2 true⟩,
 ⟨some 49, none, .fad (.t 9) 2⟩,
 ⟨some 50, none, .load (.t 49) 2 true⟩,
 ⟨some 51, none, .call false 145 0 [.t 48, .t 50]⟩,
 ⟨some 52, none, .un .not (.t 51)⟩] [0, 5, 7, 9, 52]) (
 .cond (.t 52) (
 .seq (
 .reg [
 ⟨some 53, none, .mov (.t 0)⟩,
 ⟨some 54, none, .build [.s (.int .i64 0), .s (.int .u64 0), .lit .nil [], .lit .nil [], .s (.int .i64 0)] []⟩,
 ⟨some 6, none, .mov (.t 53)⟩,
 ⟨none, none, .store (.t 7) (.t 54) 5⟩,
 ⟨some 8, none, .mov (.k (.s (.int .i64 204)))⟩] [6, 7, 8]) (
 .ret)) (
 .skip))) (
 .seq (
 .reg [
 ⟨some 56, none, .load (.t 9) 26 true⟩,
 ⟨some 57, none, .fad (.t 5) 1⟩,
 ⟨some 58, none, .load (.t 57) 1 false⟩,
 ⟨some 59, none, .fad (.t 5) 5⟩,
 ⟨some 60, none, .load (.t 59) 1 false⟩,
 ⟨some 61, none, .fad (.t 5) 11⟩,
 ⟨some 62, none, .load (.t 61) 1 false⟩,
 ⟨some 63, none, .build [.s (.int .u64 0), .s (.int .u64 0)] [(0, 1, .t 60), (1, 1, .t 62)]⟩,
 ⟨some 64, none, .call false 159 0 [.t 56, .t 58, .t 63]⟩,
 ⟨some 55, none, .mov (.t 64)⟩,
 ⟨some 65, none, .ext (.t 55) 0⟩,
 ⟨some 66, none, .ext (.t 55) 1⟩,
 ⟨some 11, none, .alloc [.s (.int .u64 0), .s (.int .i64 0), .s (.int .i64 0), .lit .nil [], .s (.int .i64 0), .lit .nil [], .s (.int .i64 0), .s (.int .i64 0), .lit .nil [], .lit .nil [], .s (.int .u64 0), .s (.int .u64 0), .s (.int .u64 0), .s (.int .u64 0), .s (.int .i64 0), .s (.int .i64 0), .s (.bool false), .s (.int .u64 0), .s (.int .u64 0), .s (.int .u64 0), .s (.int .u64 0), .s (.int .u64 0), .s (.int .u64 0), .s (.int .u64 0), .s (.int .u64 0), .s (.int .u64 0)]⟩,
 ⟨none, none, .store (.t 11) (.t 65) 26⟩,
 ⟨some 12, none, .mov (.t 66)⟩] [0, 7, 11, 12]) (
 .seq (
 .seq (
 .reg [
 ⟨some 67, none, .mov (.t 12)⟩,
 ⟨some 68, none, .bin .neq (.t 67) (.k (.s (.int .i64 0)))⟩] [0, 7, 11, 12, 68]) (
 .cond (.t 68) (
 .seq (
 .reg [
 ⟨some 69, none, .mov (.t 0)⟩,
 ⟨some 70, none, .build [.s (.int .i64 0), .s (.int .u64 0), .lit .nil [], .lit .nil [], .s (.int .i64 0)] []⟩,
 ⟨some 71, none, .mov (.t 12)⟩,
 ⟨some 6, none, .mov (.t 69)⟩,
 ⟨none, none, .store (.t 7) (.t 70) 5⟩,
 ⟨some 8, none, .mov (.t 71)⟩] [6, 7, 8]) (
 .ret)) (
 .skip))) (
 .seq (
 .reg [
 ⟨some 72, none, .mov (.t 0)⟩,
 ⟨some 73, none, .load (.t 11) 26 true⟩,
 ⟨some 74, none, .call false 149 0 [.t 72, .t 73]⟩,
 ⟨some 75, none, .build [.s (.int .i64 0), .s (.int .u64 0), .lit .nil [], .lit .nil [], .s (.int .i64 0)] []⟩,
 ⟨some 6, none, .mov (.t 74)⟩,
 ⟨none, none, .store (.t 7) (.t 75) 5⟩,
 ⟨some 8, none, .mov (.k (.s (.int .i64 0)))⟩] [6, 7, 8]) (
 .ret))))) (
 .skip))) (
 .seq (
 .seq (
 .reg [
 ⟨some 76, none, .fad (.t 4) 2⟩,
 ⟨some 77, none, .load (.t 76) 2 true⟩,
 ⟨some 78, none, .fad (.t 9) 2⟩,
 ⟨some 79, none, .load (.t 78) 2 true⟩,
 ⟨some 80, none, .call false 150 0 [.t 77, .t 79]⟩,
 ⟨some 81, none, .un .not (.t 80)⟩] [0, 4, 5, 7, 9, 81]) (
 .cond (.t 81) (
 .seq (
 .reg [
 ⟨some 82, none, .mov (.t 0)⟩,
 ⟨some 83, none, .build [.s (.int .i64 0), .s (.int .u64 0), .lit .nil [], .lit .nil [], .s (.int .i64 0)] []⟩,
 ⟨some 6, none, .mov (.t 82)⟩,
 ⟨none, none, .store (.t 7) (.t 83) 5⟩,
 ⟨some 8, none, .mov (.k (.s (.int .i64 204)))⟩] [6, 7, 8]) (
 .ret)) (
 .skip))) (
 .seq (
 .reg [
 ⟨some 85, none, .load (.t 9) 26 true⟩,
 ⟨some 86, none, .fad (.t 5) 1⟩,
 ⟨some 87, none, .load (.t 86) 1 false⟩,
 ⟨some 88, none, .call false 160 0 [.t 85, .t 87]⟩,
 ⟨some 84, none, .mov (.t 88)⟩,
 ⟨some 89, none, .ext (.t 84) 0⟩,
 ⟨some 90, none, .ext (.t 84) 1⟩,
 ⟨some 91, none, .ext (.t 84) 2⟩,
 ⟨some 13, none, .alloc [.s (.int .u64 0), .s (.int .u64 0)]⟩,
 ⟨none, none, .store (.t 13) (.t 89) 2⟩,
 ⟨some 14, none, .mov (.t 90)⟩,
 ⟨some 15, none, .mov (.t 91)⟩] [0, 4, 5, 7, 13, 14, 15]) (
 .seq (
 .seq (
 .reg [
 ⟨some 92, none, .mov (.t 15)⟩,
 ⟨some 93, none, .bin .neq (.t 92) (.k (.s (.int .i64 0)))⟩] [0, 4, 5, 7, 13, 14, 15, 93]) (
 .cond (.t 93) (
 .seq (
 .reg [
 ⟨some 94, none, .mov (.t 0)⟩,
 ⟨some 95, none, .build [.s (.int .i64 0), .s (.int .u64 0), .lit .nil [], .lit .nil [], .s (.int .i64 0)] []⟩,
 ⟨some 96, none, .mov (.t 15)⟩,
 ⟨some 6, none, .mov (.t 94)⟩,
 ⟨none, none, .store (.t 7) (.t 95) 5⟩,
 ⟨some 8, none, .mov (.t 96)⟩] [6, 7, 8]) (
 .ret)) (
 .skip))) (
 .seq (
 .seq (
 .reg [
 ⟨some 97, none, .fad (.t 5) 0⟩,
 ⟨some 98, none, .load (.t 97) 1 false⟩,
 ⟨some 99, none, .bin .eql (.t 98) (.k (.s (.int .i64 18)))⟩] [0, 4, 5, 7, 13, 14, 99]) (
 .cond (.t 99) (
 .seq (
 .reg [
 ⟨some 101, none, .fad (.t 5) 11⟩,
 ⟨some 102, none, .load (.t 101) 1 false⟩,
 ⟨some 103, none, .call false 161 0 [.t 102, .k (.s (.int .i64 8))]⟩,
 ⟨some 100, none, .mov (.t 103)⟩,
 ⟨some 104, none, .ext (.t 100) 0⟩,
 ⟨some 105, none, .ext (.t 100) 1⟩,
 ⟨some 16, none, .mov (.t 104)⟩,
 ⟨some 17, none, .mov (.t 105)⟩] [0, 4, 7, 13, 14, 16]) (
 .seq (
 .reg [
 ⟨some 106, none, .mov (.t 0)⟩,
 ⟨some 107, none, .load (.t 4) 26 true⟩,
 ⟨some 108, none, .fad (.t 13) 0⟩,
 ⟨some 109, none, .load (.t 108) 1 false⟩,
 ⟨some 110, none, .fad (.t 13) 1⟩,
 ⟨some 111, none, .load (.t 110) 1 false⟩,
 ⟨some 112, none, .mov (.t 14)⟩,
 ⟨some 113, none, .mov (.t 16)⟩,
 ⟨some 114, none, .call false 96 0 [.t 106, .t 107, .t 109, .t 111, .t 112, .t 113]⟩,
 ⟨some 115, none, .ext (.t 114) 0⟩,
 ⟨some 116, none, .ext (.t 114) 1⟩,
 ⟨some 117, none, .ext (.t 114) 2⟩,
 ⟨some 6, none, .mov (.t 115)⟩,
 ⟨none, none, .store (.t 7) (.t 116) 5⟩,
 ⟨some 8, none, .mov (.t 117)⟩] [6, 7, 8]) (
 .ret))) (
 .skip))) (
 .seq (
 .reg [
 ⟨some 119, none, .mov (.t 0)⟩,
 ⟨some 120, none, .load (.t 4) 26 true⟩,
 ⟨some 121, none, .fad (.t 13) 0⟩,
 ⟨some 122, none, .load (.t 121) 1 false⟩,
 ⟨some 123, none, .fad (.t 13) 1⟩,
 ⟨some 124, none, .load (.t 123) 1 false⟩,
 ⟨some 125, none, .mov (.t 14)⟩,
 ⟨some 126, none, .call false 95 0 [.t 119, .t 120, .t 122, .t 124, .t 125, .k (.s (.int .i64 8))]⟩,
 ⟨some 118, none, .mov (.t 126)⟩,
 ⟨some 127, none, .ext (.t 118) 0⟩,
 ⟨some 128, none, .ext (.t 118) 1⟩,
 ⟨some 129, none, .ext (.t 118) 2⟩,
 ⟨some 19, none, .alloc [.s (.int .i64 0), .s (.int .u64 0), .lit .nil [], .lit .nil [], .s (.int .i64 0)]⟩,
 ⟨some 18, none, .mov (.t 127)⟩,
 ⟨none, none, .store (.t 19) (.t 128) 5⟩,
 ⟨some 20, none, .mov (.t 129)⟩] [0, 7, 19, 20]) (
 .seq (
 .seq (
 .reg [
 ⟨some 130, none, .mov (.t 20)⟩,
 ⟨some 131, none, .bin .neq (.t 130) (.k (.s (.int .i64 0)))⟩] [0, 7, 19, 20, 131]) (
 .cond (.t 131) (
 .seq (
 .reg [
 ⟨some 132, none, .mov (.t 0)⟩,
 ⟨some 133, none, .build [.s (.int .i64 0), .s (.int .u64 0), .lit .nil [], .lit .nil [], .s (.int .i64 0)] []⟩,
 ⟨some 134, none, .mov (.t 20)⟩,
 ⟨some 6, none, .mov (.t 132)⟩,
 ⟨none, none, .store (.t 7) (.t 133) 5⟩,
 ⟨some 8, none, .mov (.t 134)⟩] [6, 7, 8]) (
 .ret)) (
 .skip))) (
 .seq (
 .reg [
 ⟨some 21, none, .mov (.k (.s (.int .u64 0)))⟩] [0, 7, 19, 21]) (
 .seq (
 .seq (
 .reg [
 ⟨some 135, none, .fad (.t 19) 2⟩,
 ⟨some 136, none, .load (.t 135) 1 false⟩,
 ⟨some 137, none, .len (.t 136)⟩,
 ⟨some 138, none, .mov (.k (.s (.int .i64 0)))⟩] [0, 7, 21, 136, 137, 138]) (
 .block 0 (
 .loop (
 .seq (
 .reg [
 ⟨some 139, none, .bin .lss (.t 138) (.t 137)⟩] [0, 7, 21, 136, 137, 138, 139]) (
 .seq (
 .cond (.t 139) (
 .skip) (
 .exit 0)) (
 .seq (
 .block 1 (
 .seq (
 .reg [
 ⟨some 140, none, .ixa (.t 136) (.t 138) 1 none⟩,
 ⟨some 141, none, .load (.t 140) 1 false⟩,
 ⟨some 23, none, .mov (.t 141)⟩] [0, 7, 21, 23, 136, 137, 138]) (
 .reg [
 ⟨some 142, none, .mov (.t 21)⟩,
 ⟨some 143, none, .bin .mul (.t 142) (.k (.s (.int .u64 256)))⟩,
 ⟨some 144, none, .mov (.t 23)⟩,
 ⟨some 145, none, .cvi .u64 (.t 144)⟩,
 ⟨some 146, none, .bin .add (.t 143) (.t 145)⟩,
 ⟨some 21, none, .mov (.t 146)⟩] [0, 7, 21, 136, 137, 138]))) (
 .reg [
 ⟨some 147, none, .bin .add (.t 138) (.k (.s (.int .i64 1)))⟩,
 ⟨some 138, none, .mov (.t 147)⟩] [0, 7, 21, 136, 137, 138]))))))) (
 .seq (
 .reg [
 ⟨some 148, none, .mov (.t 0)⟩,
 ⟨some 149, none, .mov (.t 21)⟩,
 ⟨some 150, none, .build [.s (.int .i64 0), .s (.int .u64 0), .lit .nil [], .lit .nil [], .s (.int .i64 0)] [(1, 1, .t 149)]⟩,
 ⟨some 6, none, .mov (.t 148)⟩,
 ⟨none, none, .store (.t 7) (.t 150) 5⟩,
 ⟨some 8, none, .mov (.k (.s (.int .i64 0)))⟩] [6, 7, 8]) (
 .ret)))))))))))))),
 [.t 6, .c 7 5 true, .t 8], none⟩

/-- bailey/baileyref20.held -/
def F100 : FnIR := ⟨37,
 .seq (
 .reg [
 ⟨some 5, none, .bxl (.t 1)⟩,
 ⟨some 8, none, .alloc [.s (.int .u64 0), .s (.int .i64 0), .s (.int .i64 0), .lit .nil [], .s (.int .i64 0), .lit .nil [], .s (.int .i64 0), .s (.int .i64 0), .lit .nil [], .lit .nil [], .s (.int .u64 0), .s (.int .u64 0), .s (.int .u64 0), .s (.int .u64 0), .s (.int .i64 0), .s (.int .i64 0), .s (.bool false), .s (.int .u64 0), .s (.int .u64 0), .s (.int .u64 0), .s (.int .u64 0), .s (.int .u64 0), .s (.int .u64 0), .s (.int .u64 0), .s (.int .u64 0), .s (.int .u64 0)]⟩,
 ⟨some 9, none, .mov (.k (.s (.int .i64 0)))⟩] [0, 2, 3, 5, 8]) (
 .seq (
 .reg [
 ⟨some 15, none, .mov (.t 0)⟩,
 ⟨some 16, none, .load (.t 5) 26 true⟩,
 ⟨some 17, none, .mov (.t 2)⟩,
 ⟨some 18, none, .call false 144 0 [.t 15, .t 16, .t 17]⟩,
 ⟨some 14, none, .mov (.t 18)⟩,
 ⟨some 19, none, .ext (.t 14) 0⟩,
 ⟨some 20, none, .ext (.t 14) 1⟩,
 ⟨some 10, none, .alloc [.s (.int .u64 0), .s (.int .i64 0), .s (.int .i64 0), .lit .nil [], .s (.int .i64 0), .lit .nil [], .s (.int .i64 0), .s (.int .i64 0), .lit .nil [], .lit .nil [], .s (.int .u64 0), .s (.int .u64 0), .s (.int .u64 0), .s (.int .u64 0), .s (.int .i64 0), .s (.int .i64 0), .s (.bool false), .s (.int .u64 0), .s (.int .u64 0), .s (.int .u64 0), .s (.int .u64 0), .s (.int .u64 0), .s (.int .u64 0), .s (.int .u64 0), .s (.int .u64 0), .s (.int .u64 0)]⟩,
 ⟨none, none, .store (.t 10) (.t 19) 26⟩,
 ⟨some 11, none, .mov (.t 20)⟩] [0, 3, 8, 10, 11]) (
 .seq (
 .seq (
 .reg [
 ⟨some 21, none, .mov (.t 11)⟩,
 ⟨some 22, none, .bin .neq (.t 21) (.k (.s (.int .i64 0)))⟩] [0, 3, 8, 10, 11, 22]) (
 .cond (.t 22) (
 .seq (
 .reg [
 ⟨some 23, none, .build [.s (.int .u64 0), .s (.int .i64 0), .s (.int .i64 0), .lit .nil [], .s (.int .i64 0), .lit .nil [], .s (.int .i64 0), .s (.int .i64 0), .lit .nil [], .lit .nil [], .s (.int .u64 0), .s (.int .u64 0), .s (.int .u64 0), .s (.int .u64 0), .s (.int .i64 0), .s (.int .i64 0), .s (.bool false), .s (.int .u64 0), .s (.int .u64 0), .s (.int .u64 0), .s (.int .u64 0), .s (.int .u64 0), .s (.int .u64 0), .s (.int .u64 0), .s (.int .u64 0), .s (.int .u64 0)] []⟩,
 ⟨some 24, none, .mov (.t 11)⟩,
 ⟨none, none, .store (.t 8) (.t 23) 26⟩,
 ⟨some 9, none, .mov (.t 24)⟩] [8, 9]) (
 .ret)) (
 .skip))) (
 .seq (
 .seq (
 .reg [
 ⟨some 25, none, .load (.t 10) 26 true⟩,
 ⟨some 26, none, .mov (.t 3)⟩,
 ⟨some 27, none, .call false 44 0 [.t 25, .t 26]⟩,
 ⟨some 28, none, .un .not (.t 27)⟩] [0, 3, 8, 28]) (
 .cond (.t 28) (
 .seq (
 .reg [
 ⟨some 29, none, .build [.s (.int .u64 0), .s (.int .i64 0), .s (.int .i64 0), .lit .nil [], .s (.int .i64 0), .lit .nil [], .s (.int .i64 0), .s (.int .i64 0), .lit .nil [], .lit .nil [], .s (.int .u64 0), .s (.int .u64 0), .s (.int .u64 0), .s (.int .u64 0), .s (.int .i64 0), .s (.int .i64 0), .s (.bool false), .s (.int .u64 0), .s (.int .u64 0), .s (.int .u64 0), .s (.int .u64 0), .s (.int .u64 0), .s (.int .u64 0), .s (.int .u64 0), .s (.int .u64 0), .s (.int .u64 0)] []⟩,
 ⟨none, none, .store (.t 8) (.t 29) 26⟩,
 ⟨some 9, none, .mov (.k (.s (.int .i64 202)))⟩] [8, 9]) (
 .ret)) (
 .skip))) (
 .seq (
 .reg [
 ⟨some 31, none, .mov (.t 0)⟩,
 ⟨some 32, none, .mov (.t 3)⟩,
 ⟨some 33, none, .call false 25 0 [.t 31, .t 32]⟩,
 ⟨some 30, none, .mov (.t 33)⟩,
 ⟨some 34, none, .ext (.t 30) 0⟩,
 ⟨some 35, none, .ext (.t 30) 1⟩,
 ⟨some 12, none, .alloc [.s (.int .u64 0), .s (.int .i64 0), .s (.int .i64 0), .lit .nil [], .s (.int .i64 0), .lit .nil [], .s (.int .i64 0), .s (.int .i64 0), .lit .nil [], .lit .nil [], .s (.int .u64 0), .s (.int .u64 0), .s (.int .u64 0), .s (.int .u64 0), .s (.int .i64 0), .s (.int .i64 0), .s (.bool false), .s (.int .u64 0), .s (.int .u64 0), .s (.int .u64 0), .s (.int .u64 0), .s (.int .u64 0), .s (.int .u64 0), .s (.int .u64 0), .s (.int .u64 0), .s (.int .u64 0)]⟩,
 ⟨none, none, .store (.t 12) (.t 34) 26⟩,
 ⟨some 13, none, .mov (.t 35)⟩] [8, 12]) (
 .seq (
 .reg [
 ⟨some 36, none, .load (.t 12) 26 true⟩,
 ⟨none, none, .store (.t 8) (.t 36) 26⟩,
 ⟨some 9, none, .mov (.k (.s (.int .i64 0)))⟩] [8, 9]) (
 .ret)))))),
 [.c 8 26 true, .t 9], none⟩

/-- bailey/baileyref20.keep -/
def F101 : FnIR := ⟨62,
 .seq (
 .reg [
 ⟨some 4, none, .bxl (.t 1)⟩,
 ⟨some 5, none, .bxl (.t 2)⟩,
 ⟨some 6, none, .mov (.k (.lit .nil []))⟩,
 ⟨some 7, none, .alloc [.s (.int .i64 0), .s (.int .u64 0), .lit .nil [], .lit .nil [], .s (.int .i64 0)]⟩,
 ⟨some 8, none, .mov (.k (.s (.int .i64 0)))⟩] [0, 4, 5, 7]) (
 .seq (
 .reg [
 ⟨some 14, none, .mov (.t 0)⟩,
 ⟨some 15, none, .call false 25 0 [.t 14, .k (.s (.int .u64 65))]⟩,
 ⟨some 13, none, .mov (.t 15)⟩,
 ⟨some 16, none, .ext (.t 13) 0⟩,
 ⟨some 17, none, .ext (.t 13) 1⟩,
 ⟨some 9, none, .alloc [.s (.int .u64 0), .s (.int .i64 0), .s (.int .i64 0), .lit .nil [], .s (.int .i64 0), .lit .nil [], .s (.int .i64 0), .s (.int .i64 0), .lit .nil [], .lit .nil [], .s (.int .u64 0), .s (.int .u64 0), .s (.int .u64 0), .s (.int .u64 0), .s (.int .i64 0), .s (.int .i64 0), .s (.bool false), .s (.int .u64 0), .s (.int .u64 0), .s (.int .u64 0), .s (.int .u64 0), .s (.int .u64 0), .s (.int .u64 0), .s (.int .u64 0), .s (.int .u64 0), .s (.int .u64 0)]⟩,
 ⟨none, none, .store (.t 9) (.t 16) 26⟩,
 ⟨some 10, none, .mov (.t 17)⟩] [0, 4, 5, 7, 9, 10]) (
 .seq (
 .seq (
 .reg [
 ⟨some 18, none, .mov (.t 10)⟩,
 ⟨some 19, none, .un .not (.t 18)⟩,
 ⟨some 20, none, .mov (.t 19)⟩,
 ⟨some 21, some (20, false), .fad (.t 4) 2⟩,
 ⟨some 22, some (20, false), .load (.t 21) 2 true⟩,
 ⟨some 23, some (20, false), .fad (.t 9) 2⟩,
 ⟨some 24, some (20, false), .load (.t 23) 2 true⟩,
 ⟨some 25, some (20, false), .call false 145 0 [.t 22, .t 24]⟩,
 ⟨some 26, some (20, false), .un .not (.t 25)⟩,
 ⟨some 27, none, .pick (.t 20) (.k (.s (.bool true))) (.t 26)⟩] [0, 4, 5, 7, 27]) (
 .cond (.t 27) (
 .seq (
 .reg [
 ⟨some 28, none, .mov (.t 0)⟩,
 ⟨some 29, none, .build [.s (.int .i64 0), .s (.int .u64 0), .lit .nil [], .lit .nil [], .s (.int .i64 0)] []⟩,
 ⟨some 6, none, .mov (.t 28)⟩,
 ⟨none, none, .store (.t 7) (.t 29) 5⟩,
 ⟨some 8, none, .mov (.k (.s (.int .i64 204)))⟩] [6, 7, 8]) (
 .ret)) (
 .skip))) (
 .seq (
 .seq (
 .reg [
 ⟨some 30, none, .fad (.t 5) 0⟩,
 ⟨some 31, none, .load (.t 30) 1 false⟩,
 ⟨some 32, none, .bin .eql (.t 31) (.k (.s (.int .i64 21)))⟩] [0, 4, 5, 7, 32]) (
 .cond (.t 32) (
 .seq (
 .reg [
 ⟨some 33, none, .mov (.t 0)⟩,
 ⟨some 34, none, .build [.s (.int .i64 0), .s (.int .u64 0), .lit .nil [], .lit .nil [], .s (.int .i64 0)] [(4, 1, .k (.s (.int .i64 2)))]⟩,
 ⟨some 6, none, .mov (.t 33)⟩,
 ⟨none, none, .store (.t 7) (.t 34) 5⟩,
 ⟨some 8, none, .mov (.k (.s (.int .i64 0)))⟩] [6, 7, 8]) (
 .ret)) (
 .skip))) (
 .seq (
 .reg [
 ⟨some 36, none, .mov (.t 0)⟩,
 ⟨some 37, none, .load (.t 4) 26 true⟩,
 ⟨some 38, none, .fad (.t 5) 3⟩,
 ⟨some 39, none, .load (.t 38) 1 false⟩,
 ⟨some 40, none, .fad (.t 5) 4⟩,
 ⟨some 41, none, .load (.t 40) 1 false⟩,
 ⟨some 42, none, .call false 100 0 [.t 36, .t 37, .t 39, .t 41]⟩,
 ⟨some 35, none, .mov (.t 42)⟩,
 ⟨some 43, none, .ext (.t 35) 0⟩,
 ⟨some 44, none, .ext (.t 35) 1⟩,
 ⟨some 11, none, .alloc [.s (.int .u64 0), .s (.int .i64 0), .s (.int .i64 0), .lit .nil [], .s (.int .i64 0), .lit .nil [], .s (.int .i64 0), .s (.int .i64 0), .lit .nil [], .lit .nil [], .s (.int .u64 0), .s (.int .u64 0), .s (.int .u64 0), .s (.int .u64 0), .s (.int .i64 0), .s (.int .i64 0), .s (.bool false), .s (.int .u64 0), .s (.int .u64 0), .s (.int .u64 0), .s (.int .u64 0), .s (.int .u64 0), .s (.int .u64 0), .s (.int .u64 0), .s (.int .u64 0), .s (.int .u64 0)]⟩,
 ⟨none, none, .store (.t 11) (.t 43) 26⟩,
 ⟨some 12, none, .mov (.t 44)⟩] [0, 4, 7, 11, 12]) (
 .seq (
 .seq (
 .reg [
 ⟨some 45, none, .mov (.t 12)⟩,
 ⟨some 46, none, .bin .neq (.t 45) (.k (.s (.int .i64 0)))⟩] [0, 4, 7, 11, 12, 46]) (
 .cond (.t 46) (
 .seq (
 .reg [
 ⟨some 47, none, .mov (.t 0)⟩,
 ⟨some 48, none, .build [.s (.int .i64 0), .s (.int .u64 0), .lit .nil [], .lit .nil [], .s (.int .i64 0)] []⟩,
 ⟨some 49, none, .mov (.t 12)⟩,
 ⟨some 6, none, .mov (.t 47)⟩,
 ⟨none, none, .store (.t 7) (.t 48) 5⟩,
 ⟨some 8, none, .mov (.t 49)⟩] [6, 7, 8]) (
 .ret)) (
 .skip))) (
 .seq (
 .seq (
 .reg [
 ⟨some 50, none, .fad (.t 4) 2⟩,
 ⟨some 51, none, .load (.t 50) 2 true⟩,
 ⟨some 52, none, .fad (.t 11) 2⟩,
 ⟨some 53, none, .load (.t 52) 2 true⟩,
 ⟨some 54, none, .call false 150 0 [.t 51, .t 53]⟩,
 ⟨some 55, none, .un .not (.t 54)⟩] [0, 7, 11, 55]) (
 .cond (.t 55) (
 .seq (
 .reg [
 ⟨some 56, none, .mov (.t 0)⟩,
 ⟨some 57, none, .build [.s (.int .i64 0), .s (.int .u64 0), .lit .nil [], .lit .nil [], .s (.int .i64 0)] []⟩,
 ⟨some 6, none, .mov (.t 56)⟩,
 ⟨none, none, .store (.t 7) (.t 57) 5⟩,
 ⟨some 8, none, .mov (.k (.s (.int .i64 204)))⟩] [6, 7, 8]) (
 .ret)) (
 .skip))) (
 .seq (
 .drw [
 ⟨some 58, none, .mov (.t 0)⟩,
 ⟨some 59, none, .fad (.t 11) 0⟩,
 ⟨some 60, none, .load (.t 59) 1 false⟩,
 ⟨some 61, none, .build [.s (.int .i64 0), .s (.int .u64 0), .lit .nil [], .lit .nil [], .s (.int .i64 0)] [(4, 1, .k (.s (.int .i64 1))), (1, 1, .t 60)]⟩,
 ⟨some 6, none, .mov (.t 58)⟩,
 ⟨none, none, .store (.t 7) (.t 61) 5⟩,
 ⟨some 8, none, .mov (.k (.s (.int .i64 0)))⟩] [] [] [6, 7, 8]) (
 .ret)))))))),
 [.t 6, .c 7 5 true, .t 8], none⟩

/-- bailey/dir.place -/
def F102 : FnIR := ⟨12,
 .seq (
 .reg [
 ⟨some 2, none, .bxl (.t 0)⟩,
 ⟨some 4, none, .mov (.k (.s (.int .i64 0)))⟩,
 ⟨some 5, none, .mov (.k (.s (.bool false)))⟩] [1, 2]) (
 .seq (
 .reg [
 ⟨some 6, none, .fad (.t 2) 8⟩,
 ⟨some 7, none, .load (.t 6) 1 false⟩,
 ⟨some 8, none, .mov (.t 1)⟩,
 ⟨some 9, none, .call false 162 0 [.t 7, .t 8, .k (.fn 163 [] [])]⟩,
 ⟨some 10, none, .ext (.t 9) 0⟩,
 ⟨some 11, none, .ext (.t 9) 1⟩,
 ⟨some 4, none, .mov (.t 10)⟩,
 ⟨some 5, none, .mov (.t 11)⟩] [4, 5]) (
 .ret)),
 [.t 4, .t 5], none⟩

/-- slices.Delete[[]bailey/api.Link,bailey/api.Link] -/
def F103 : FnIR := ⟨33,
 .seq (
 .reg [
 ⟨some 6, none, .mov (.k (.lit .nil []))⟩] [0, 1, 2]) (
 .seq (
 .reg [
 ⟨some 8, none, .mov (.t 0)⟩,
 ⟨some 9, none, .mov (.t 1)⟩,
 ⟨some 10, none, .mov (.t 2)⟩,
 ⟨some 11, none, .mov (.t 0)⟩,
 ⟨some 12, none, .len (.t 11)⟩,
 ⟨some 13, none, .slc (.t 8) (some (.t 9)) (some (.t 10)) (some (.t 12)) 2 true⟩] [0, 1, 2]) (
 .seq (
 .seq (
 .reg [
 ⟨some 14, none, .mov (.t 1)⟩,
 ⟨some 15, none, .mov (.t 2)⟩,
 ⟨some 16, none, .bin .eql (.t 14) (.t 15)⟩] [0, 1, 2, 16]) (
 .cond (.t 16) (
 .seq (
 .reg [
 ⟨some 17, none, .mov (.t 0)⟩,
 ⟨some 6, none, .mov (.t 17)⟩] [6]) (
 .ret)) (
 .skip))) (
 .seq (
 .reg [
 ⟨some 18, none, .mov (.t 0)⟩,
 ⟨some 19, none, .len (.t 18)⟩,
 ⟨some 7, none, .mov (.t 19)⟩] [0, 1, 2, 7]) (
 .seq (
 .drw [
 ⟨some 20, none, .mov (.t 0)⟩,
 ⟨some 21, none, .mov (.t 1)⟩,
 ⟨some 22, none, .slc (.t 20) none (some (.t 21)) none 2 true⟩,
 ⟨some 23, none, .mov (.t 0)⟩,
 ⟨some 24, none, .mov (.t 2)⟩,
 ⟨some 25, none, .slc (.t 23) (some (.t 24)) none none 2 true⟩,
 ⟨some 26, none, .app false (.t 22) (.t 25) 2 16 true⟩,
 ⟨some 0, none, .mov (.t 26)⟩] [] [] [0, 7]) (
 .seq (
 .reg [
 ⟨some 27, none, .mov (.t 0)⟩,
 ⟨some 28, none, .mov (.t 0)⟩,
 ⟨some 29, none, .len (.t 28)⟩,
 ⟨some 30, none, .mov (.t 7)⟩,
 ⟨some 31, none, .slc (.t 27) (some (.t 29)) (some (.t 30)) none 2 true⟩,
 ⟨none, none, .clr (.t 31) 2 [.s (.int .u64 0), .s (.int .i64 0)]⟩] [0]) (
 .seq (
 .reg [
 ⟨some 32, none, .mov (.t 0)⟩,
 ⟨some 6, none, .mov (.t 32)⟩] [6]) (
 .ret))))))),
 [.t 6], none⟩

/-- slices.Insert[[]bailey/api.Thing,bailey/api.Thing] -/
def F104 : FnIR := ⟨95,
 .seq (
 .reg [
 ⟨some 6, none, .mov (.k (.lit .nil []))⟩] [0, 1, 2]) (
 .seq (
 .reg [
 ⟨some 10, none, .mov (.t 0)⟩,
 ⟨some 11, none, .mov (.t 1)⟩,
 ⟨some 12, none, .slc (.t 10) (some (.t 11)) none none 26 true⟩] [0, 1, 2]) (
 .seq (
 .reg [
 ⟨some 13, none, .mov (.t 2)⟩,
 ⟨some 14, none, .len (.t 13)⟩,
 ⟨some 7, none, .mov (.t 14)⟩] [0, 1, 2, 7]) (
 .seq (
 .seq (
 .reg [
 ⟨some 15, none, .mov (.t 7)⟩,
 ⟨some 16, none, .bin .eql (.t 15) (.k (.s (.int .i64 0)))⟩] [0, 1, 2, 7, 16]) (
 .cond (.t 16) (
 .seq (
 .reg [
 ⟨some 17, none, .mov (.t 0)⟩,
 ⟨some 6, none, .mov (.t 17)⟩] [6]) (
 .ret)) (
 .skip))) (
 .seq (
 .reg [
 ⟨some 18, none, .mov (.t 0)⟩,
 ⟨some 19, none, .len (.t 18)⟩,
 ⟨some 8, none, .mov (.t 19)⟩] [0, 1, 2, 7, 8]) (
 .seq (
 .seq (
 .reg [
 ⟨some 20, none, .mov (.t 1)⟩,
 ⟨some 21, none, .mov (.t 8)⟩,
 ⟨some 22, none, .bin .eql (.t 20) (.t 21)⟩] [0, 1, 2, 7, 8, 22]) (
 .cond (.t 22) (
 .seq (
 .reg [
 ⟨some 23, none, .mov (.t 0)⟩,
 ⟨some 24, none, .mov (.t 2)⟩,
 ⟨some 25, none, .app false (.t 23) (.t 24) 26 272 true⟩,
 ⟨some 6, none, .mov (.t 25)⟩] [6]) (
 .ret)) (
 .skip))) (
 .seq (
 .seq (
 .reg [
 ⟨some 26, none, .mov (.t 8)⟩,
 ⟨some 27, none, .mov (.t 7)⟩,
 ⟨some 28, none, .bin .add (.t 26) (.t 27)⟩,
 ⟨some 29, none, .mov (.t 0)⟩,
 ⟨some 30, none, .cap (.t 29)⟩,
 ⟨some 31, none, .bin .gtr (.t 28) (.t 30)⟩] [0, 1, 2, 7, 8, 31]) (
 .cond (.t 31) (
 .seq (
 .reg [
 ⟨some 32, none, .mov (.t 0)⟩,
 ⟨some 33, none, .mov (.t 1)⟩,
 ⟨some 34, none, .slc (.t 32) none (some (.t 33)) none 26 true⟩,
 ⟨some 35, none, .mov (.t 8)⟩,
 ⟨some 36, none, .mov (.t 7)⟩,
 ⟨some 37, none, .bin .add (.t 35) (.t 36)⟩,
 ⟨some 38, none, .mov (.t 1)⟩,
 ⟨some 39, none, .bin .sub (.t 37) (.t 38)⟩,
 ⟨some 40, none, .bad⟩,
 ⟨some 9, none, .mov (.t 40)⟩] [0, 1, 2, 7, 9]) (
 .seq (
 .reg [
 ⟨some 41, none, .mov (.t 9)⟩,
 ⟨some 42, none, .mov (.t 1)⟩,
 ⟨some 43, none, .slc (.t 41) (some (.t 42)) none none 26 true⟩,
 ⟨some 44, none, .mov (.t 2)⟩,
 ⟨some 45, none, .cpy (.t 43) (.t 44) 26 true⟩] [0, 1, 7, 9]) (
 .seq (
 .drw [
 ⟨some 46, none, .mov (.t 9)⟩,
 ⟨some 47, none, .mov (.t 1)⟩,
 ⟨some 48, none, .mov (.t 7)⟩,
 ⟨some 49, none, .bin .add (.t 47) (.t 48)⟩,
 ⟨some 50, none, .slc (.t 46) (some (.t 49)) none none 26 true⟩,
 ⟨some 51, none, .mov (.t 0)⟩,
 ⟨some 52, none, .mov (.t 1)⟩,
 ⟨some 53, none, .slc (.t 51) (some (.t 52)) none none 26 true⟩,
 ⟨some 54, none, .cpy (.t 50) (.t 53) 26 true⟩] [] [] [9]) (
 .seq (
 .reg [
 ⟨some 55, none, .mov (.t 9)⟩,
 ⟨some 6, none, .mov (.t 55)⟩] [6]) (
 .ret))))) (
 .skip))) (
 .seq (
 .reg [
 ⟨some 56, none, .mov (.t 0)⟩,
 ⟨some 57, none, .mov (.t 8)⟩,
 ⟨some 58, none, .mov (.t 7)⟩,
 ⟨some 59, none, .bin .add (.t 57) (.t 58)⟩,
 ⟨some 60, none, .slc (.t 56) none (some (.t 59)) none 26 true⟩,
 ⟨some 0, none, .mov (.t 60)⟩] [0, 1, 2, 7, 8]) (
 .seq (
 .seq (
 .reg [
 ⟨some 61, none, .mov (.t 2)⟩,
 ⟨some 62, none, .mov (.t 0)⟩,
 ⟨some 63, none, .mov (.t 1)⟩,
 ⟨some 64, none, .mov (.t 7)⟩,
 ⟨some 65, none, .bin .add (.t 63) (.t 64)⟩,
 ⟨some 66, none, .slc (.t 62) (some (.t 65)) none none 26 true⟩,
 ⟨some 67, none, .call false 164 0 [.t 61, .t 66]⟩,
 ⟨some 68, none, .un .not (.t 67)⟩] [0, 1, 2, 7, 8, 68]) (
 .cond (.t 68) (
 .seq (
 .drw [
 ⟨some 69, none, .mov (.t 0)⟩,
 ⟨some 70, none, .mov (.t 1)⟩,
 ⟨some 71, none, .mov (.t 7)⟩,
 ⟨some 72, none, .bin .add (.t 70) (.t 71)⟩,
 ⟨some 73, none, .slc (.t 69) (some (.t 72)) none none 26 true⟩,
 ⟨some 74, none, .mov (.t 0)⟩,
 ⟨some 75, none, .mov (.t 1)⟩,
 ⟨some 76, none, .slc (.t 74) (some (.t 75)) none none 26 true⟩,
 ⟨some 77, none, .cpy (.t 73) (.t 76) 26 true⟩] [] [] [0, 1, 2]) (
 .seq (
 .reg [
 ⟨some 78, none, .mov (.t 0)⟩,
 ⟨some 79, none, .mov (.t 1)⟩,
 ⟨some 80, none, .slc (.t 78) (some (.t 79)) none none 26 true⟩,
 ⟨some 81, none, .mov (.t 2)⟩,
 ⟨some 82, none, .cpy (.t 80) (.t 81) 26 true⟩] [0]) (
 .seq (
 .reg [
 ⟨some 83, none, .mov (.t 0)⟩,
 ⟨some 6, none, .mov (.t 83)⟩] [6]) (
 .ret)))) (
 .skip))) (
 .seq (
 .reg [
 ⟨some 84, none, .mov (.t 0)⟩,
 ⟨some 85, none, .mov (.t 8)⟩,
 ⟨some 86, none, .slc (.t 84) (some (.t 85)) none none 26 true⟩,
 ⟨some 87, none, .mov (.t 2)⟩,
 ⟨some 88, none, .cpy (.t 86) (.t 87) 26 true⟩] [0, 1, 7]) (
 .seq (
 .reg [
 ⟨some 89, none, .mov (.t 0)⟩,
 ⟨some 90, none, .mov (.t 1)⟩,
 ⟨some 91, none, .slc (.t 89) (some (.t 90)) none none 26 true⟩,
 ⟨some 92, none, .mov (.t 7)⟩,
 ⟨some 93, none, .call false 165 0 [.t 91, .t 92]⟩] [0]) (
 .seq (
 .reg [
 ⟨some 94, none, .mov (.t 0)⟩,
 ⟨some 6, none, .mov (.t 94)⟩] [6]) (
 .ret)))))))))))),
 [.t 6], none⟩

/-- slices.BinarySearchFunc[[]bailey/api.Thing,bailey/api.Thing,uint64] -/
def F105 : FnIR := ⟨49,
 .seq (
 .reg [
 ⟨some 6, none, .mov (.k (.s (.int .i64 0)))⟩,
 ⟨some 7, none, .mov (.k (.s (.bool false)))⟩] [0, 1, 2]) (
 .seq (
 .reg [
 ⟨some 12, none, .mov (.t 0)⟩,
 ⟨some 13, none, .len (.t 12)⟩,
 ⟨some 8, none, .mov (.t 13)⟩] [0, 1, 2, 8]) (
 .seq (
 .reg [
 ⟨some 14, none, .mov (.t 8)⟩,
 ⟨some 9, none, .mov (.k (.s (.int .i64 0)))⟩,
 ⟨some 10, none, .mov (.t 14)⟩] [0, 1, 2, 8, 9, 10]) (
 .seq (
 .block 0 (
 .loop (
 .seq (
 .seq (
 .reg [
 ⟨some 15, none, .mov (.t 9)⟩,
 ⟨some 16, none, .mov (.t 10)⟩,
 ⟨some 17, none, .bin .lss (.t 15) (.t 16)⟩] [0, 1, 2, 8, 9, 10, 17]) (
 .cond (.t 17) (
 .skip) (
 .exit 0))) (
 .block 1 (
 .seq (
 .reg [
 ⟨some 18, none, .mov (.t 9)⟩,
 ⟨some 19, none, .mov (.t 10)⟩,
 ⟨some 20, none, .bin .add (.t 18) (.t 19)⟩,
 ⟨some 21, none, .cvi .u64 (.t 20)⟩,
 ⟨some 22, none, .bin .shr (.t 21) (.k (.s (.int .u64 1)))⟩,
 ⟨some 23, none, .cvi .i64 (.t 22)⟩,
 ⟨some 11, none, .mov (.t 23)⟩] [0, 1, 2, 8, 9, 10, 11]) (
 .seq (
 .reg [
 ⟨some 24, none, .mov (.t 2)⟩,
 ⟨some 25, none, .mov (.t 0)⟩,
 ⟨some 26, none, .mov (.t 11)⟩,
 ⟨some 27, none, .ixa (.t 25) (.t 26) 26 none⟩,
 ⟨some 28, none, .load (.t 27) 26 true⟩,
 ⟨some 29, none, .mov (.t 1)⟩,
 ⟨some 30, none, .clv false (.t 24) [.t 28, .t 29]⟩,
 ⟨some 31, none, .bin .lss (.t 30) (.k (.s (.int .i64 0)))⟩] [0, 1, 2, 8, 9, 10, 11, 31]) (
 .cond (.t 31) (
 .reg [
 ⟨some 32, none, .mov (.t 11)⟩,
 ⟨some 33, none, .bin .add (.t 32) (.k (.s (.int .i64 1)))⟩,
 ⟨some 9, none, .mov (.t 33)⟩] [0, 1, 2, 8, 9, 10]) (
 .reg [
 ⟨some 34, none, .mov (.t 11)⟩,
 ⟨some 10, none, .mov (.t 34)⟩] [0, 1, 2, 8, 9, 10])))))))) (
 .seq (
 .reg [
 ⟨some 35, none, .mov (.t 9)⟩,
 ⟨some 36, none, .mov (.t 9)⟩,
 ⟨some 37, none, .mov (.t 8)⟩,
 ⟨some 38, none, .bin .lss (.t 36) (.t 37)⟩,
 ⟨some 39, none, .mov (.t 38)⟩,
 ⟨some 40, some (39, true), .mov (.t 2)⟩,
 ⟨some 41, some (39, true), .mov (.t 0)⟩,
 ⟨some 42, some (39, true), .mov (.t 9)⟩,
 ⟨some 43, some (39, true), .ixa (.t 41) (.t 42) 26 none⟩,
 ⟨some 44, some (39, true), .load (.t 43) 26 true⟩,
 ⟨some 45, some (39, true), .mov (.t 1)⟩,
 ⟨some 46, some (39, true), .clv false (.t 40) [.t 44, .t 45]⟩,
 ⟨some 47, some (39, true), .bin .eql (.t 46) (.k (.s (.int .i64 0)))⟩,
 ⟨some 48, none, .pick (.t 39) (.t 47) (.k (.s (.bool false)))⟩,
 ⟨some 6, none, .mov (.t 35)⟩,
 ⟨some 7, none, .mov (.t 48)⟩] [6, 7]) (
 .ret))))),
 [.t 6, .t 7], none⟩

/-- bailey/graph.place$1 -/
def F106 : FnIR := ⟨9,
 .seq (
 .reg [
 ⟨some 2, none, .bxl (.t 0)⟩,
 ⟨some 4, none, .mov (.k (.s (.int .i64 0)))⟩] [1, 2]) (
 .seq (
 .reg [
 ⟨some 5, none, .fad (.t 2) 0⟩,
 ⟨some 6, none, .load (.t 5) 1 false⟩,
 ⟨some 7, none, .mov (.t 1)⟩,
 ⟨some 8, none, .call false 107 0 [.t 6, .t 7]⟩,
 ⟨some 4, none, .mov (.t 8)⟩] [4]) (
 .ret)),
 [.t 4], none⟩

/-- cmp.Compare[uint64] -/
def F107 : FnIR := ⟨20,
 .seq (
 .reg [
 ⟨some 4, none, .mov (.k (.s (.int .i64 0)))⟩] [0, 1]) (
 .seq (
 .reg [
 ⟨some 7, none, .mov (.t 0)⟩,
 ⟨some 8, none, .call false 166 0 [.t 7]⟩,
 ⟨some 5, none, .mov (.t 8)⟩] [0, 1, 5]) (
 .seq (
 .reg [
 ⟨some 9, none, .mov (.t 1)⟩,
 ⟨some 10, none, .call false 166 0 [.t 9]⟩,
 ⟨some 6, none, .mov (.t 10)⟩] [0, 1, 5, 6]) (
 .seq (
 .seq (
 .reg [
 ⟨some 11, none, .mov (.t 5)⟩] [0, 1, 6, 11]) (
 .cond (.t 11) (
 .seq (
 .seq (
 .reg [
 ⟨some 12, none, .mov (.t 6)⟩] [12]) (
 .cond (.t 12) (
 .seq (
 .reg [
 ⟨some 4, none, .mov (.k (.s (.int .i64 0)))⟩] [4]) (
 .ret)) (
 .skip))) (
 .seq (
 .reg [
 ⟨some 4, none, .mov (.k (.s (.int .i64 (-1))))⟩] [4]) (
 .ret))) (
 .skip))) (
 .seq (
 .seq (
 .reg [
 ⟨some 13, none, .mov (.t 6)⟩] [0, 1, 13]) (
 .cond (.t 13) (
 .seq (
 .reg [
 ⟨some 4, none, .mov (.k (.s (.int .i64 1)))⟩] [4]) (
 .ret)) (
 .skip))) (
 .seq (
 .seq (
 .reg [
 ⟨some 14, none, .mov (.t 0)⟩,
 ⟨some 15, none, .mov (.t 1)⟩,
 ⟨some 16, none, .bin .lss (.t 14) (.t 15)⟩] [0, 1, 16]) (
 .cond (.t 16) (
 .seq (
 .reg [
 ⟨some 4, none, .mov (.k (.s (.int .i64 (-1))))⟩] [4]) (
 .ret)) (
 .skip))) (
 .seq (
 .seq (
 .reg [
 ⟨some 17, none, .mov (.t 0)⟩,
 ⟨some 18, none, .mov (.t 1)⟩,
 ⟨some 19, none, .bin .gtr (.t 17) (.t 18)⟩] [19]) (
 .cond (.t 19) (
 .seq (
 .reg [
 ⟨some 4, none, .mov (.k (.s (.int .i64 1)))⟩] [4]) (
 .ret)) (
 .skip))) (
 .seq (
 .reg [
 ⟨some 4, none, .mov (.k (.s (.int .i64 0)))⟩] [4]) (
 .ret)))))))),
 [.t 4], none⟩

/-- slices.pdqsortOrdered[uint64] -/
def F108 : FnIR := ⟨134,
 .seq (
 .reg [
 ⟨some 8, none, .mov (.k (.s (.bool true)))⟩] [0, 1, 2, 3, 8]) (
 .seq (
 .reg [
 ⟨some 9, none, .mov (.k (.s (.bool true)))⟩] [0, 1, 2, 3, 8, 9]) (
 .block 0 (
 .loop (
 .block 1 (
 .seq (
 .reg [
 ⟨some 19, none, .mov (.t 2)⟩,
 ⟨some 20, none, .mov (.t 1)⟩,
 ⟨some 21, none, .bin .sub (.t 19) (.t 20)⟩,
 ⟨some 10, none, .mov (.t 21)⟩] [0, 1, 2, 3, 8, 9, 10]) (
 .seq (
 .seq (
 .reg [
 ⟨some 22, none, .mov (.t 10)⟩,
 ⟨some 23, none, .bin .leq (.t 22) (.k (.s (.int .i64 12)))⟩] [0, 1, 2, 3, 8, 9, 10, 23]) (
 .cond (.t 23) (
 .seq (
 .reg [
 ⟨some 24, none, .mov (.t 0)⟩,
 ⟨some 25, none, .mov (.t 1)⟩,
 ⟨some 26, none, .mov (.t 2)⟩,
 ⟨some 27, none, .call true 167 0 [.t 24, .t 25, .t 26]⟩] []) (
 .ret)) (
 .skip))) (
 .seq (
 .seq (
 .reg [
 ⟨some 28, none, .mov (.t 3)⟩,
 ⟨some 29, none, .bin .eql (.t 28) (.k (.s (.int .i64 0)))⟩] [0, 1, 2, 3, 8, 9, 10, 29]) (
 .cond (.t 29) (
 .seq (
 .reg [
 ⟨some 30, none, .mov (.t 0)⟩,
 ⟨some 31, none, .mov (.t 1)⟩,
 ⟨some 32, none, .mov (.t 2)⟩,
 ⟨some 33, none, .call false 168 0 [.t 30, .t 31, .t 32]⟩] []) (
 .ret)) (
 .skip))) (
 .seq (
 .seq (
 .reg [
 ⟨some 34, none, .mov (.t 8)⟩,
 ⟨some 35, none, .un .not (.t 34)⟩] [0, 1, 2, 3, 8, 9, 10, 35]) (
 .cond (.t 35) (
 .seq (
 .reg [
 ⟨some 36, none, .mov (.t 0)⟩,
 ⟨some 37, none, .mov (.t 1)⟩,
 ⟨some 38, none, .mov (.t 2)⟩,
 ⟨some 39, none, .call false 169 0 [.t 36, .t 37, .t 38]⟩] [0, 1, 2, 3, 8, 9, 10]) (
 .reg [
 ⟨some 40, none, .mov (.t 3)⟩,
 ⟨some 41, none, .bin .sub (.t 40) (.k (.s (.int .i64 1)))⟩,
 ⟨some 3, none, .mov (.t 41)⟩] [0, 1, 2, 3, 8, 9, 10])) (
 .skip))) (
 .seq (
 .reg [
 ⟨some 43, none, .mov (.t 0)⟩,
 ⟨some 44, none, .mov (.t 1)⟩,
 ⟨some 45, none, .mov (.t 2)⟩,
 ⟨some 46, none, .call false 170 0 [.t 43, .t 44, .t 45]⟩,
 ⟨some 42, none, .mov (.t 46)⟩,
 ⟨some 47, none, .ext (.t 42) 0⟩,
 ⟨some 48, none, .ext (.t 42) 1⟩,
 ⟨some 11, none, .mov (.t 47)⟩,
 ⟨some 12, none, .mov (.t 48)⟩] [0, 1, 2, 3, 8, 9, 10, 11, 12]) (
 .seq (
 .seq (
 .reg [
 ⟨some 49, none, .mov (.t 12)⟩,
 ⟨some 50, none, .bin .eql (.t 49) (.k (.s (.int .i64 2)))⟩] [0, 1, 2, 3, 8, 9, 10, 11, 12, 50]) (
 .cond (.t 50) (
 .seq (
 .reg [
 ⟨some 51, none, .mov (.t 0)⟩,
 ⟨some 52, none, .mov (.t 1)⟩,
 ⟨some 53, none, .mov (.t 2)⟩,
 ⟨some 54, none, .call false 171 0 [.t 51, .t 52, .t 53]⟩] [0, 1, 2, 3, 8, 9, 10, 11]) (
 .seq (
 .reg [
 ⟨some 55, none, .mov (.t 2)⟩,
 ⟨some 56, none, .bin .sub (.t 55) (.k (.s (.int .i64 1)))⟩,
 ⟨some 57, none, .mov (.t 11)⟩,
 ⟨some 58, none, .mov (.t 1)⟩,
 ⟨some 59, none, .bin .sub (.t 57) (.t 58)⟩,
 ⟨some 60, none, .bin .sub (.t 56) (.t 59)⟩,
 ⟨some 11, none, .mov (.t 60)⟩] [0, 1, 2, 3, 8, 9, 10, 11]) (
 .reg [
 ⟨some 12, none, .mov (.k (.s (.int .i64 1)))⟩] [0, 1, 2, 3, 8, 9, 10, 11, 12]))) (
 .skip))) (
 .seq (
 .seq (
 .reg [
 ⟨some 61, none, .mov (.t 8)⟩,
 ⟨some 62, none, .mov (.t 61)⟩,
 ⟨some 63, some (62, true), .mov (.t 9)⟩,
 ⟨some 64, none, .pick (.t 62) (.t 63) (.k (.s (.bool false)))⟩,
 ⟨some 65, none, .mov (.t 64)⟩,
 ⟨some 66, some (65, true), .mov (.t 12)⟩,
 ⟨some 67, some (65, true), .bin .eql (.t 66) (.k (.s (.int .i64 1)))⟩,
 ⟨some 68, none, .pick (.t 65) (.t 67) (.k (.s (.bool false)))⟩] [0, 1, 2, 3, 8, 9, 10, 11, 68]) (
 .cond (.t 68) (
 .seq (
 .reg [
 ⟨some 69, none, .mov (.t 0)⟩,
 ⟨some 70, none, .mov (.t 1)⟩,
 ⟨some 71, none, .mov (.t 2)⟩,
 ⟨some 72, none, .call false 172 0 [.t 69, .t 70, .t 71]⟩] [0, 1, 2, 3, 8, 9, 10, 11, 72]) (
 .cond (.t 72) (
 .ret) (
 .skip))) (
 .skip))) (
 .seq (
 .seq (
 .drw [
 ⟨some 73, none, .mov (.t 1)⟩,
 ⟨some 74, none, .bin .gtr (.t 73) (.k (.s (.int .i64 0)))⟩,
 ⟨some 75, none, .mov (.t 74)⟩,
 ⟨some 76, some (75, true), .mov (.t 0)⟩,
 ⟨some 77, some (75, true), .mov (.t 1)⟩,
 ⟨some 78, some (75, true), .bin .sub (.t 77) (.k (.s (.int .i64 1)))⟩,
 ⟨some 79, some (75, true), .ixa (.t 76) (.t 78) 1 none⟩,
 ⟨some 80, some (75, true), .load (.t 79) 1 false⟩,
 ⟨some 81, some (75, true), .mov (.t 0)⟩,
 ⟨some 82, some (75, true), .mov (.t 11)⟩,
 ⟨some 83, some (75, true), .ixa (.t 81) (.t 82) 1 none⟩,
 ⟨some 84, some (75, true), .load (.t 83) 1 false⟩,
 ⟨some 85, some (75, true), .call false 173 0 [.t 80, .t 84]⟩,
 ⟨some 86, some (75, true), .un .not (.t 85)⟩,
 ⟨some 87, none, .pick (.t 75) (.t 86) (.k (.s (.bool false)))⟩] [12] [] [0, 1, 2, 3, 8, 9, 10, 11, 87]) (
 .cond (.t 87) (
 .seq (
 .reg [
 ⟨some 88, none, .mov (.t 0)⟩,
 ⟨some 89, none, .mov (.t 1)⟩,
 ⟨some 90, none, .mov (.t 2)⟩,
 ⟨some 91, none, .mov (.t 11)⟩,
 ⟨some 92, none, .call false 174 0 [.t 88, .t 89, .t 90, .t 91]⟩,
 ⟨some 13, none, .mov (.t 92)⟩] [0, 2, 3, 8, 9, 13]) (
 .seq (
 .reg [
 ⟨some 93, none, .mov (.t 13)⟩,
 ⟨some 1, none, .mov (.t 93)⟩] [0, 1, 2, 3, 8, 9]) (
 .exit 1))) (
 .skip))) (
 .seq (
 .reg [
 ⟨some 95, none, .mov (.t 0)⟩,
 ⟨some 96, none, .mov (.t 1)⟩,
 ⟨some 97, none, .mov (.t 2)⟩,
 ⟨some 98, none, .mov (.t 11)⟩,
 ⟨some 99, none, .call false 175 0 [.t 95, .t 96, .t 97, .t 98]⟩,
 ⟨some 94, none, .mov (.t 99)⟩,
 ⟨some 100, none, .ext (.t 94) 0⟩,
 ⟨some 101, none, .ext (.t 94) 1⟩,
 ⟨some 14, none, .mov (.t 100)⟩,
 ⟨some 15, none, .mov (.t 101)⟩] [0, 1, 2, 3, 10, 14, 15]) (
 .seq (
 .reg [
 ⟨some 102, none, .mov (.t 15)⟩,
 ⟨some 9, none, .mov (.t 102)⟩] [0, 1, 2, 3, 9, 10, 14]) (
 .seq (
 .reg [
 ⟨some 103, none, .mov (.t 14)⟩,
 ⟨some 104, none, .mov (.t 1)⟩,
 ⟨some 105, none, .bin .sub (.t 103) (.t 104)⟩,
 ⟨some 106, none, .mov (.t 2)⟩,
 ⟨some 107, none, .mov (.t 14)⟩,
 ⟨some 108, none, .bin .sub (.t 106) (.t 107)⟩,
 ⟨some 16, none, .mov (.t 105)⟩,
 ⟨some 17, none, .mov (.t 108)⟩] [0, 1, 2, 3, 9, 10, 14, 16, 17]) (
 .seq (
 .reg [
 ⟨some 109, none, .mov (.t 10)⟩,
 ⟨some 110, none, .bin .quo (.t 109) (.k (.s (.int .i64 8)))⟩,
 ⟨some 18, none, .mov (.t 110)⟩] [0, 1, 2, 3, 9, 14, 16, 17, 18]) (
 .seq (
 .reg [
 ⟨some 111, none, .mov (.t 16)⟩,
 ⟨some 112, none, .mov (.t 17)⟩,
 ⟨some 113, none, .bin .lss (.t 111) (.t 112)⟩] [0, 1, 2, 3, 9, 14, 16, 17, 18, 113]) (
 .cond (.t 113) (
 .seq (
 .reg [
 ⟨some 114, none, .mov (.t 16)⟩,
 ⟨some 115, none, .mov (.t 18)⟩,
 ⟨some 116, none, .bin .geq (.t 114) (.t 115)⟩,
 ⟨some 8, none, .mov (.t 116)⟩] [0, 1, 2, 3, 8, 9, 14]) (
 .seq (
 .reg [
 ⟨some 117, none, .mov (.t 0)⟩,
 ⟨some 118, none, .mov (.t 1)⟩,
 ⟨some 119, none, .mov (.t 14)⟩,
 ⟨some 120, none, .mov (.t 3)⟩,
 ⟨some 121, none, .call true 108 0 [.t 117, .t 118, .t 119, .t 120]⟩] [0, 2, 3, 8, 9, 14]) (
 .reg [
 ⟨some 122, none, .mov (.t 14)⟩,
 ⟨some 123, none, .bin .add (.t 122) (.k (.s (.int .i64 1)))⟩,
 ⟨some 1, none, .mov (.t 123)⟩] [0, 1, 2, 3, 8, 9]))) (
 .seq (
 .reg [
 ⟨some 124, none, .mov (.t 17)⟩,
 ⟨some 125, none, .mov (.t 18)⟩,
 ⟨some 126, none, .bin .geq (.t 124) (.t 125)⟩,
 ⟨some 8, none, .mov (.t 126)⟩] [0, 1, 2, 3, 8, 9, 14]) (
 .seq (
 .reg [
 ⟨some 127, none, .mov (.t 0)⟩,
 ⟨some 128, none, .mov (.t 14)⟩,
 ⟨some 129, none, .bin .add (.t 128) (.k (.s (.int .i64 1)))⟩,
 ⟨some 130, none, .mov (.t 2)⟩,
 ⟨some 131, none, .mov (.t 3)⟩,
 ⟨some 132, none, .call true 108 0 [.t 127, .t 129, .t 130, .t 131]⟩] [0, 1, 3, 8, 9, 14]) (
 .reg [
 ⟨some 133, none, .mov (.t 14)⟩,
 ⟨some 2, none, .mov (.t 133)⟩] [0, 1, 2, 3, 8, 9]))))))))))))))))))))),
 [], none⟩

/-- math/bits.Len -/
def F109 : FnIR := ⟨8,
 .seq (
 .reg [
 ⟨some 2, none, .mov (.k (.s (.int .i64 0)))⟩] [0]) (
 .seq (
 .cond (.k (.s (.bool false))) (
 .seq (
 .reg [
 ⟨some 3, none, .mov (.t 0)⟩,
 ⟨some 4, none, .cvi .u32 (.t 3)⟩,
 ⟨some 5, none, .call false 176 0 [.t 4]⟩,
 ⟨some 2, none, .mov (.t 5)⟩] [2]) (
 .ret)) (
 .skip)) (
 .seq (
 .reg [
 ⟨some 6, none, .mov (.t 0)⟩,
 ⟨some 7, none, .call false 177 0 [.t 6]⟩,
 ⟨some 2, none, .mov (.t 7)⟩] [2]) (
 .ret))),
 [.t 2], none⟩

/-- bailey/baileyref09.Form -/
def F110 : FnIR := ⟨36,
 .seq (
 .reg [
 ⟨some 1, none, .bxl (.t 0)⟩,
 ⟨some 2, none, .alloc [.s (.int .i64 0), .lit .nil []]⟩] [1, 2]) (
 .seq (
 .reg [
 ⟨some 6, none, .fad (.t 1) 0⟩,
 ⟨some 7, none, .load (.t 6) 1 false⟩,
 ⟨some 8, none, .build [.s (.int .i64 0), .lit .nil []] [(0, 1, .t 7)]⟩,
 ⟨some 3, none, .alloc [.s (.int .i64 0), .lit .nil []]⟩,
 ⟨none, none, .store (.t 3) (.t 8) 2⟩] [1, 2, 3]) (
 .seq (
 .seq (
 .reg [
 ⟨some 9, none, .load (.t 1) 2 true⟩,
 ⟨some 10, none, .build [.s (.int .i64 0), .lit .nil []] []⟩,
 ⟨some 11, none, .build [.s (.int .i64 0), .lit .nil [], .s (.int .i64 0), .lit .nil []] [(0, 2, .t 9), (2, 2, .t 10)]⟩,
 ⟨some 12, none, .call false 178 0 [.t 11]⟩,
 ⟨some 13, none, .len (.t 12)⟩,
 ⟨some 14, none, .mov (.k (.s (.int .i64 0)))⟩] [1, 2, 3, 12, 13, 14]) (
 .block 0 (
 .loop (
 .seq (
 .reg [
 ⟨some 15, none, .bin .lss (.t 14) (.t 13)⟩] [1, 2, 3, 12, 13, 14, 15]) (
 .seq (
 .cond (.t 15) (
 .skip) (
 .exit 0)) (
 .seq (
 .block 1 (
 .seq (
 .reg [
 ⟨some 16, none, .ixa (.t 12) (.t 14) 1 none⟩,
 ⟨some 17, none, .load (.t 16) 1 false⟩,
 ⟨some 5, none, .mov (.t 17)⟩] [1, 2, 3, 5, 12, 13, 14]) (
 .seq (
 .drw [
 ⟨some 18, none, .load (.t 1) 2 true⟩,
 ⟨some 19, none, .mov (.t 5)⟩,
 ⟨some 20, none, .call false 179 0 [.t 18, .t 19]⟩,
 ⟨some 21, none, .fad (.t 1) 0⟩,
 ⟨some 22, none, .load (.t 21) 1 false⟩,
 ⟨some 23, none, .bin .neq (.t 20) (.t 22)⟩] [] [] [1, 2, 3, 5, 12, 13, 14, 23]) (
 .cond (.t 23) (
 .drw [
 ⟨some 24, none, .fad (.t 3) 1⟩,
 ⟨some 25, none, .load (.t 24) 1 false⟩,
 ⟨some 26, none, .mov (.t 5)⟩,
 ⟨some 27, none, .load (.t 1) 2 true⟩,
 ⟨some 28, none, .mov (.t 5)⟩,
 ⟨some 29, none, .call false 179 0 [.t 27, .t 28]⟩,
 ⟨some 30, none, .build [.s (.int .u64 0), .s (.int .i64 0)] [(0, 1, .t 26), (1, 1, .t 29)]⟩,
 ⟨some 31, none, .bsl true 2 true [.s (.int .u64 0), .s (.int .i64 0)] 1 [(0, .t 30)]⟩,
 ⟨some 32, none, .app false (.t 25) (.t 31) 2 16 true⟩,
 ⟨some 33, none, .fad (.t 3) 1⟩,
 ⟨none, none, .store (.t 33) (.t 32) 1⟩] [] [] [1, 2, 3, 12, 13, 14]) (
 .skip))))) (
 .reg [
 ⟨some 34, none, .bin .add (.t 14) (.k (.s (.int .i64 1)))⟩,
 ⟨some 14, none, .mov (.t 34)⟩] [1, 2, 3, 12, 13, 14]))))))) (
 .seq (
 .reg [
 ⟨some 35, none, .load (.t 3) 2 true⟩,
 ⟨none, none, .store (.t 2) (.t 35) 2⟩] [2]) (
 .ret)))),
 [.c 2 2 true], none⟩

/-- bailey/baileyref01.parts -/
def F111 : FnIR := ⟨12,
 .seq (
 .reg [
 ⟨some 2, none, .mov (.k (.s (.int .u64 0)))⟩,
 ⟨some 3, none, .mov (.k (.s (.int .u64 0)))⟩,
 ⟨some 4, none, .mov (.k (.s (.int .u64 0)))⟩] [0]) (
 .seq (
 .reg [
 ⟨some 5, none, .mov (.t 0)⟩,
 ⟨some 6, none, .bin .shr (.t 5) (.k (.s (.int .u64 63)))⟩,
 ⟨some 7, none, .mov (.t 0)⟩,
 ⟨some 8, none, .bin .shr (.t 7) (.k (.s (.int .u64 52)))⟩,
 ⟨some 9, none, .bin .and (.t 8) (.k (.s (.int .u64 2047)))⟩,
 ⟨some 10, none, .mov (.t 0)⟩,
 ⟨some 11, none, .bin .and (.t 10) (.k (.s (.int .u64 4503599627370495)))⟩,
 ⟨some 2, none, .mov (.t 6)⟩,
 ⟨some 3, none, .mov (.t 9)⟩,
 ⟨some 4, none, .mov (.t 11)⟩] [2, 3, 4]) (
 .ret)),
 [.t 2, .t 3, .t 4], none⟩

/-- slices.Equal[[]bailey/api.Cat,bailey/api.Cat] -/
def F112 : FnIR := ⟨26,
 .seq (
 .reg [
 ⟨some 4, none, .mov (.k (.s (.bool false)))⟩] [0, 1]) (
 .seq (
 .seq (
 .reg [
 ⟨some 6, none, .mov (.t 0)⟩,
 ⟨some 7, none, .len (.t 6)⟩,
 ⟨some 8, none, .mov (.t 1)⟩,
 ⟨some 9, none, .len (.t 8)⟩,
 ⟨some 10, none, .bin .neq (.t 7) (.t 9)⟩] [0, 1, 10]) (
 .cond (.t 10) (
 .seq (
 .reg [
 ⟨some 4, none, .mov (.k (.s (.bool false)))⟩] [4]) (
 .ret)) (
 .skip))) (
 .seq (
 .seq (
 .reg [
 ⟨some 11, none, .mov (.t 0)⟩,
 ⟨some 12, none, .len (.t 11)⟩,
 ⟨some 13, none, .mov (.k (.s (.int .i64 0)))⟩] [0, 1, 12, 13]) (
 .block 0 (
 .loop (
 .seq (
 .reg [
 ⟨some 14, none, .bin .lss (.t 13) (.t 12)⟩] [0, 1, 12, 13, 14]) (
 .seq (
 .cond (.t 14) (
 .skip) (
 .exit 0)) (
 .seq (
 .block 1 (
 .seq (
 .reg [
 ⟨some 15, none, .mov (.t 13)⟩,
 ⟨some 5, none, .mov (.t 15)⟩] [0, 1, 5, 12, 13]) (
 .seq (
 .drw [
 ⟨some 16, none, .mov (.t 0)⟩,
 ⟨some 17, none, .mov (.t 5)⟩,
 ⟨some 18, none, .ixa (.t 16) (.t 17) 2 none⟩,
 ⟨some 19, none, .load (.t 18) 2 true⟩,
 ⟨some 20, none, .mov (.t 1)⟩,
 ⟨some 21, none, .mov (.t 5)⟩,
 ⟨some 22, none, .ixa (.t 20) (.t 21) 2 none⟩,
 ⟨some 23, none, .load (.t 22) 2 true⟩,
 ⟨some 24, none, .eqk (.cells [.i, .i]) true (.t 19) (.t 23)⟩] [] [] [0, 1, 12, 13, 24]) (
 .cond (.t 24) (
 .seq (
 .reg [
 ⟨some 4, none, .mov (.k (.s (.bool false)))⟩] [4]) (
 .ret)) (
 .skip))))) (
 .reg [
 ⟨some 25, none, .bin .add (.t 13) (.k (.s (.int .i64 1)))⟩,
 ⟨some 13, none, .mov (.t 25)⟩] [0, 1, 12, 13]))))))) (
 .seq (
 .reg [
 ⟨some 4, none, .mov (.k (.s (.bool true)))⟩] [4]) (
 .ret)))),
 [.t 4], none⟩

/-- bailey/label.Make -/
def F113 : FnIR := ⟨17,
 .seq (
 .reg [
 ⟨some 2, none, .bxl (.t 0)⟩,
 ⟨some 4, none, .alloc [.s (.int .i64 0), .lit .nil []]⟩] [1, 2, 4]) (
 .seq (
 .reg [
 ⟨some 6, none, .mov (.t 1)⟩,
 ⟨some 7, none, .nwc 84 [.t 6]⟩,
 ⟨some 5, none, .mov (.t 7)⟩] [2, 4, 5]) (
 .seq (
 .reg [
 ⟨some 8, none, .mov (.t 5)⟩,
 ⟨some 9, none, .call true 180 0 [.t 8, .k (.fn 181 [] [])]⟩] [2, 4, 5]) (
 .seq (
 .reg [
 ⟨some 10, none, .mov (.t 5)⟩,
 ⟨some 11, none, .call true 182 0 [.t 10, .k (.fn 183 [] [])]⟩,
 ⟨some 5, none, .mov (.t 11)⟩] [2, 4, 5]) (
 .seq (
 .drw [
 ⟨some 12, none, .load (.t 2) 1 false⟩,
 ⟨some 13, none, .mov (.t 5)⟩,
 ⟨some 14, none, .mkf 185 [] [.t 2]⟩,
 ⟨some 15, none, .call true 184 0 [.t 13, .t 14]⟩,
 ⟨some 16, none, .build [.s (.int .i64 0), .lit .nil []] [(0, 1, .t 12), (1, 1, .t 15)]⟩,
 ⟨none, none, .store (.t 4) (.t 16) 2⟩] [] [(0, 3)] [4]) (
 .ret))))),
 [.c 4 2 true], none⟩

/-- slices.ContainsFunc[[]bailey/api.Cat,bailey/api.Cat] -/
def F114 : FnIR := ⟨9,
 .seq (
 .reg [
 ⟨some 4, none, .mov (.k (.s (.bool false)))⟩] [0, 1]) (
 .seq (
 .reg [
 ⟨some 5, none, .mov (.t 0)⟩,
 ⟨some 6, none, .mov (.t 1)⟩,
 ⟨some 7, none, .call false 186 0 [.t 5, .t 6]⟩,
 ⟨some 8, none, .bin .geq (.t 7) (.k (.s (.int .i64 0)))⟩,
 ⟨some 4, none, .mov (.t 8)⟩] [4]) (
 .ret)),
 [.t 4], none⟩

/-- bailey/label.Right$1 -/
def F115 : FnIR := ⟨21,
 .seq (
 .reg [
 ⟨some 1, none, .bxl (.t 0)⟩,
 ⟨some 2, none, .mov (.k (.s (.bool false)))⟩] [1]) (
 .seq (
 .reg [
 ⟨some 3, none, .fad (.t 1) 0⟩,
 ⟨some 4, none, .load (.t 3) 1 false⟩,
 ⟨some 5, none, .bin .lss (.t 4) (.k (.s (.int .u64 1)))⟩,
 ⟨some 6, none, .mov (.t 5)⟩,
 ⟨some 7, some (6, false), .fad (.t 1) 0⟩,
 ⟨some 8, some (6, false), .load (.t 7) 1 false⟩,
 ⟨some 9, some (6, false), .bin .gtr (.t 8) (.k (.s (.int .u64 2305843009213693951)))⟩,
 ⟨some 10, none, .pick (.t 6) (.k (.s (.bool true))) (.t 9)⟩,
 ⟨some 11, none, .mov (.t 10)⟩,
 ⟨some 12, some (11, false), .fad (.t 1) 1⟩,
 ⟨some 13, some (11, false), .load (.t 12) 1 false⟩,
 ⟨some 14, some (11, false), .bin .lss (.t 13) (.k (.s (.int .i64 0)))⟩,
 ⟨some 15, none, .pick (.t 11) (.k (.s (.bool true))) (.t 14)⟩,
 ⟨some 16, none, .mov (.t 15)⟩,
 ⟨some 17, some (16, false), .fad (.t 1) 1⟩,
 ⟨some 18, some (16, false), .load (.t 17) 1 false⟩,
 ⟨some 19, some (16, false), .bin .gtr (.t 18) (.k (.s (.int .i64 4)))⟩,
 ⟨some 20, none, .pick (.t 16) (.k (.s (.bool true))) (.t 19)⟩,
 ⟨some 2, none, .mov (.t 20)⟩] [2]) (
 .ret)),
 [.t 2], none⟩

/-- bailey/thing.pure$1 -/
def F116 : FnIR := ⟨6,
 .seq (
 .reg [
 ⟨some 1, none, .bxl (.t 0)⟩,
 ⟨some 2, none, .mov (.k (.s (.bool false)))⟩] [1]) (
 .seq (
 .reg [
 ⟨some 3, none, .fad (.t 1) 1⟩,
 ⟨some 4, none, .load (.t 3) 1 false⟩,
 ⟨some 5, none, .bin .eql (.t 4) (.k (.s (.int .i64 0)))⟩,
 ⟨some 2, none, .mov (.t 5)⟩] [2]) (
 .ret)),
 [.t 2], none⟩

/-- bailey/thing.inside$1 -/
def F117 : FnIR := ⟨7,
 .seq (
 .reg [
 ⟨some 2, none, .mov (.k (.s (.bool false)))⟩] [0]) (
 .seq (
 .reg [
 ⟨some 3, none, .mov (.t 0)⟩,
 ⟨some 4, none, .call false 118 0 [.t 3]⟩,
 ⟨some 5, none, .mov (.t 0)⟩,
 ⟨some 6, none, .bin .neq (.t 4) (.t 5)⟩,
 ⟨some 2, none, .mov (.t 6)⟩] [2]) (
 .ret)),
 [.t 2], none⟩

/-- bailey/num.Canon -/
def F118 : FnIR := ⟨10,
 .seq (
 .reg [
 ⟨some 2, none, .mov (.k (.s (.int .u64 0)))⟩] [0]) (
 .seq (
 .seq (
 .reg [
 ⟨some 4, none, .mov (.t 0)⟩,
 ⟨some 5, none, .fof 187 (.t 4)⟩,
 ⟨some 3, none, .mov (.t 5)⟩] [0, 3]) (
 .seq (
 .reg [
 ⟨some 6, none, .mov (.t 3)⟩,
 ⟨some 7, none, .mov (.t 3)⟩,
 ⟨some 8, none, .flt .neq (.t 6) (.t 7)⟩] [0, 8]) (
 .cond (.t 8) (
 .seq (
 .reg [
 ⟨some 2, none, .mov (.k (.s (.int .u64 9221120237041090561)))⟩] [2]) (
 .ret)) (
 .skip)))) (
 .seq (
 .reg [
 ⟨some 9, none, .mov (.t 0)⟩,
 ⟨some 2, none, .mov (.t 9)⟩] [2]) (
 .ret))),
 [.t 2], none⟩

/-- slices.ContainsFunc[[]uint64,uint64] -/
def F119 : FnIR := ⟨9,
 .seq (
 .reg [
 ⟨some 4, none, .mov (.k (.s (.bool false)))⟩] [0, 1]) (
 .seq (
 .reg [
 ⟨some 5, none, .mov (.t 0)⟩,
 ⟨some 6, none, .mov (.t 1)⟩,
 ⟨some 7, none, .call false 188 0 [.t 5, .t 6]⟩,
 ⟨some 8, none, .bin .geq (.t 7) (.k (.s (.int .i64 0)))⟩,
 ⟨some 4, none, .mov (.t 8)⟩] [4]) (
 .ret)),
 [.t 4], none⟩

/-- slices.ContainsFunc[[]bailey/api.Slot,bailey/api.Slot] -/
def F120 : FnIR := ⟨9,
 .seq (
 .reg [
 ⟨some 4, none, .mov (.k (.s (.bool false)))⟩] [0, 1]) (
 .seq (
 .reg [
 ⟨some 5, none, .mov (.t 0)⟩,
 ⟨some 6, none, .mov (.t 1)⟩,
 ⟨some 7, none, .call false 189 0 [.t 5, .t 6]⟩,
 ⟨some 8, none, .bin .geq (.t 7) (.k (.s (.int .i64 0)))⟩,
 ⟨some 4, none, .mov (.t 8)⟩] [4]) (
 .ret)),
 [.t 4], none⟩

/-- bailey/thing.inside$2 -/
def F121 : FnIR := ⟨18,
 .seq (
 .reg [
 ⟨some 1, none, .bxl (.t 0)⟩,
 ⟨some 2, none, .mov (.k (.s (.bool false)))⟩] [1]) (
 .seq (
 .reg [
 ⟨some 3, none, .load (.t 1) 2 true⟩,
 ⟨some 4, none, .build [.s (.int .u64 0), .s (.int .u64 0)] []⟩,
 ⟨some 5, none, .eqk (.cells [.i, .i]) true (.t 3) (.t 4)⟩,
 ⟨some 6, none, .mov (.t 5)⟩,
 ⟨some 7, some (6, true), .fad (.t 1) 0⟩,
 ⟨some 8, some (6, true), .load (.t 7) 1 false⟩,
 ⟨some 9, some (6, true), .call false 73 0 [.t 8]⟩,
 ⟨some 10, some (6, true), .un .not (.t 9)⟩,
 ⟨some 11, some (6, true), .mov (.t 10)⟩,
 ⟨some 12, some (11, false), .fad (.t 1) 1⟩,
 ⟨some 13, some (11, false), .load (.t 12) 1 false⟩,
 ⟨some 14, some (11, false), .call false 73 0 [.t 13]⟩,
 ⟨some 15, some (11, false), .un .not (.t 14)⟩,
 ⟨some 16, some (6, true), .pick (.t 11) (.k (.s (.bool true))) (.t 15)⟩,
 ⟨some 17, none, .pick (.t 6) (.t 16) (.k (.s (.bool false)))⟩,
 ⟨some 2, none, .mov (.t 17)⟩] [2]) (
 .ret)),
 [.t 2], none⟩

/-- (*bailey/kern.act).open -/
def F122 : FnIR := ⟨24,
 .seq (
 .reg [
 ⟨some 4, none, .alloc [.s (.int .u64 0), .s (.int .i64 0), .s (.int .i64 0), .lit .nil [], .s (.int .i64 0), .lit .nil [], .s (.int .i64 0), .s (.int .i64 0), .lit .nil [], .lit .nil [], .s (.int .u64 0), .s (.int .u64 0), .s (.int .u64 0), .s (.int .u64 0), .s (.int .i64 0), .s (.int .i64 0), .s (.bool false), .s (.int .u64 0), .s (.int .u64 0), .s (.int .u64 0), .s (.int .u64 0), .s (.int .u64 0), .s (.int .u64 0), .s (.int .u64 0), .s (.int .u64 0), .s (.int .u64 0)]⟩] [0, 1, 4]) (
 .seq (
 .reg [
 ⟨some 6, none, .mov (.t 0)⟩,
 ⟨some 7, none, .mov (.t 1)⟩,
 ⟨some 8, none, .call true 143 0 [.t 6, .t 7]⟩,
 ⟨some 5, none, .alloc [.s (.int .u64 0), .s (.int .i64 0), .s (.int .i64 0), .lit .nil [], .s (.int .i64 0), .lit .nil [], .s (.int .i64 0), .s (.int .i64 0), .lit .nil [], .lit .nil [], .s (.int .u64 0), .s (.int .u64 0), .s (.int .u64 0), .s (.int .u64 0), .s (.int .i64 0), .s (.int .i64 0), .s (.bool false), .s (.int .u64 0), .s (.int .u64 0), .s (.int .u64 0), .s (.int .u64 0), .s (.int .u64 0), .s (.int .u64 0), .s (.int .u64 0), .s (.int .u64 0), .s (.int .u64 0)]⟩,
 ⟨none, none, .store (.t 5) (.t 8) 26⟩] [0, 4, 5]) (
 .seq (
 .drw [
 ⟨some 9, none, .fad (.t 5) 1⟩,
 ⟨some 10, none, .load (.t 9) 1 false⟩,
 ⟨some 11, none, .bin .eql (.t 10) (.k (.s (.int .i64 1)))⟩,
 ⟨some 12, none, .mov (.t 11)⟩,
 ⟨some 13, some (12, true), .mov (.t 0)⟩,
 ⟨some 14, some (12, true), .nck (.t 13)⟩,
 ⟨some 15, some (12, true), .fad (.t 14) 14⟩,
 ⟨some 16, some (12, true), .load (.t 15) 26 true⟩,
 ⟨some 17, some (12, true), .call false 124 0 [.t 16]⟩,
 ⟨some 18, some (12, true), .fad (.t 5) 2⟩,
 ⟨some 19, some (12, true), .load (.t 18) 2 true⟩,
 ⟨some 20, some (12, true), .call false 190 0 [.t 17, .t 19]⟩,
 ⟨some 21, none, .pick (.t 12) (.t 20) (.k (.s (.bool false)))⟩,
 ⟨some 22, none, .call false 86 0 [.t 21, .k (.s (.int .i64 201))]⟩] [11, 13] [] [4, 5]) (
 .seq (
 .reg [
 ⟨some 23, none, .load (.t 5) 26 true⟩,
 ⟨none, none, .store (.t 4) (.t 23) 26⟩] [4]) (
 .ret)))),
 [.c 4 26 true], none⟩

/-- (*bailey/kern.act).writes -/
def F123 : FnIR := ⟨13,
 .seq (
 .reg [
 ⟨some 3, none, .bxl (.t 1)⟩] [0, 3]) (
 .drw [
 ⟨some 4, none, .mov (.t 0)⟩,
 ⟨some 5, none, .nck (.t 4)⟩,
 ⟨some 6, none, .fad (.t 5) 14⟩,
 ⟨some 7, none, .load (.t 6) 26 true⟩,
 ⟨some 8, none, .call false 124 0 [.t 7]⟩,
 ⟨some 9, none, .fad (.t 3) 2⟩,
 ⟨some 10, none, .load (.t 9) 2 true⟩,
 ⟨some 11, none, .call false 191 0 [.t 8, .t 10]⟩,
 ⟨some 12, none, .call false 86 0 [.t 11, .k (.s (.int .i64 204))]⟩] [7, 8] [] []),
 [], none⟩

/-- bailey/gate.Who -/
def F124 : FnIR := ⟨8,
 .seq (
 .reg [
 ⟨some 1, none, .bxl (.t 0)⟩,
 ⟨some 2, none, .alloc [.s (.int .i64 0), .lit .nil [], .s (.int .i64 0), .lit .nil []]⟩] [1, 2]) (
 .seq (
 .reg [
 ⟨some 3, none, .fad (.t 1) 2⟩,
 ⟨some 4, none, .load (.t 3) 2 true⟩,
 ⟨some 5, none, .fad (.t 1) 4⟩,
 ⟨some 6, none, .load (.t 5) 2 true⟩,
 ⟨some 7, none, .build [.s (.int .i64 0), .lit .nil [], .s (.int .i64 0), .lit .nil []] [(0, 2, .t 4), (2, 2, .t 6)]⟩,
 ⟨none, none, .store (.t 2) (.t 7) 4⟩] [2]) (
 .ret)),
 [.c 2 4 true], none⟩

/-- bailey/flow.Spawns -/
def F125 : FnIR := ⟨21,
 .seq (
 .reg [
 ⟨some 3, none, .bxl (.t 0)⟩,
 ⟨some 4, none, .bxl (.t 1)⟩,
 ⟨some 5, none, .bxl (.t 2)⟩,
 ⟨some 6, none, .mov (.k (.s (.bool false)))⟩] [3, 4, 5]) (
 .seq (
 .reg [
 ⟨some 7, none, .load (.t 4) 2 true⟩,
 ⟨some 8, none, .load (.t 5) 2 true⟩,
 ⟨some 9, none, .build [.s (.int .i64 0), .lit .nil [], .s (.int .i64 0), .lit .nil []] [(0, 2, .t 7), (2, 2, .t 8)]⟩,
 ⟨some 10, none, .call false 192 0 [.t 9]⟩,
 ⟨some 11, none, .mov (.t 10)⟩,
 ⟨some 12, some (11, true), .fad (.t 3) 0⟩,
 ⟨some 13, some (11, true), .load (.t 12) 2 true⟩,
 ⟨some 14, some (11, true), .load (.t 4) 2 true⟩,
 ⟨some 15, some (11, true), .load (.t 5) 2 true⟩,
 ⟨some 16, some (11, true), .fad (.t 3) 2⟩,
 ⟨some 17, some (11, true), .load (.t 16) 2 true⟩,
 ⟨some 18, some (11, true), .bsl true 2 true [.s (.int .i64 0), .lit .nil []] 4 [(0, .t 13), (1, .t 14), (2, .t 15), (3, .t 17)]⟩,
 ⟨some 19, some (11, true), .call false 193 0 [.t 18]⟩,
 ⟨some 20, none, .pick (.t 11) (.t 19) (.k (.s (.bool false)))⟩,
 ⟨some 6, none, .mov (.t 20)⟩] [6]) (
 .ret)),
 [.t 6], none⟩

/-- bailey/flow.Makes -/
def F126 : FnIR := ⟨16,
 .seq (
 .reg [
 ⟨some 2, none, .bxl (.t 0)⟩,
 ⟨some 3, none, .bxl (.t 1)⟩,
 ⟨some 4, none, .mov (.k (.s (.bool false)))⟩] [2, 3]) (
 .seq (
 .reg [
 ⟨some 5, none, .load (.t 3) 2 true⟩,
 ⟨some 6, none, .call false 194 0 [.t 5]⟩,
 ⟨some 7, none, .mov (.t 6)⟩,
 ⟨some 8, some (7, true), .fad (.t 2) 0⟩,
 ⟨some 9, some (7, true), .load (.t 8) 2 true⟩,
 ⟨some 10, some (7, true), .load (.t 3) 2 true⟩,
 ⟨some 11, some (7, true), .fad (.t 2) 2⟩,
 ⟨some 12, some (7, true), .load (.t 11) 2 true⟩,
 ⟨some 13, some (7, true), .bsl true 2 true [.s (.int .i64 0), .lit .nil []] 3 [(0, .t 9), (1, .t 10), (2, .t 12)]⟩,
 ⟨some 14, some (7, true), .call false 193 0 [.t 13]⟩,
 ⟨some 15, none, .pick (.t 7) (.t 14) (.k (.s (.bool false)))⟩,
 ⟨some 4, none, .mov (.t 15)⟩] [4]) (
 .ret)),
 [.t 4], none⟩

/-- bailey/dir.Born -/
def F127 : FnIR := ⟨36,
 .seq (
 .reg [
 ⟨some 2, none, .bxl (.t 0)⟩,
 ⟨some 4, none, .alloc [.s (.int .u64 0), .s (.int .i64 0), .s (.int .i64 0), .lit .nil [], .s (.int .i64 0), .lit .nil [], .s (.int .i64 0), .s (.int .i64 0), .lit .nil [], .lit .nil [], .s (.int .u64 0), .s (.int .u64 0), .s (.int .u64 0), .s (.int .u64 0), .s (.int .i64 0), .s (.int .i64 0), .s (.bool false), .s (.int .u64 0), .s (.int .u64 0), .s (.int .u64 0), .s (.int .u64 0), .s (.int .u64 0), .s (.int .u64 0), .s (.int .u64 0), .s (.int .u64 0), .s (.int .u64 0)]⟩,
 ⟨some 5, none, .mov (.k (.s (.int .u64 0)))⟩,
 ⟨some 6, none, .mov (.k (.s (.int .i64 0)))⟩] [1, 2, 4]) (
 .seq (
 .reg [
 ⟨some 11, none, .load (.t 2) 26 true⟩,
 ⟨some 12, none, .call false 195 0 [.t 11]⟩,
 ⟨some 10, none, .mov (.t 12)⟩,
 ⟨some 13, none, .ext (.t 10) 0⟩,
 ⟨some 14, none, .ext (.t 10) 1⟩,
 ⟨some 7, none, .mov (.t 13)⟩,
 ⟨some 8, none, .mov (.t 14)⟩] [1, 2, 4, 7, 8]) (
 .seq (
 .seq (
 .reg [
 ⟨some 15, none, .mov (.t 8)⟩,
 ⟨some 16, none, .bin .neq (.t 15) (.k (.s (.int .i64 0)))⟩] [1, 2, 4, 7, 8, 16]) (
 .cond (.t 16) (
 .seq (
 .reg [
 ⟨some 17, none, .load (.t 2) 26 true⟩,
 ⟨some 18, none, .mov (.t 8)⟩,
 ⟨none, none, .store (.t 4) (.t 17) 26⟩,
 ⟨some 5, none, .mov (.k (.s (.int .u64 0)))⟩,
 ⟨some 6, none, .mov (.t 18)⟩] [4, 5, 6]) (
 .ret)) (
 .skip))) (
 .seq (
 .reg [
 ⟨some 20, none, .load (.t 2) 26 true⟩,
 ⟨some 21, none, .mov (.t 7)⟩,
 ⟨some 22, none, .mov (.t 1)⟩,
 ⟨some 23, none, .call false 133 0 [.t 20, .t 21, .t 22]⟩,
 ⟨some 19, none, .mov (.t 23)⟩,
 ⟨some 24, none, .ext (.t 19) 0⟩,
 ⟨some 25, none, .ext (.t 19) 1⟩,
 ⟨some 9, none, .alloc [.s (.int .u64 0), .s (.int .i64 0), .s (.int .i64 0), .lit .nil [], .s (.int .i64 0), .lit .nil [], .s (.int .i64 0), .s (.int .i64 0), .lit .nil [], .lit .nil [], .s (.int .u64 0), .s (.int .u64 0), .s (.int .u64 0), .s (.int .u64 0), .s (.int .i64 0), .s (.int .i64 0), .s (.bool false), .s (.int .u64 0), .s (.int .u64 0), .s (.int .u64 0), .s (.int .u64 0), .s (.int .u64 0), .s (.int .u64 0), .s (.int .u64 0), .s (.int .u64 0), .s (.int .u64 0)]⟩,
 ⟨none, none, .store (.t 9) (.t 24) 26⟩,
 ⟨some 8, none, .mov (.t 25)⟩] [2, 4, 7, 8, 9]) (
 .seq (
 .seq (
 .reg [
 ⟨some 26, none, .mov (.t 8)⟩,
 ⟨some 27, none, .bin .neq (.t 26) (.k (.s (.int .i64 0)))⟩] [2, 4, 7, 8, 9, 27]) (
 .cond (.t 27) (
 .seq (
 .reg [
 ⟨some 28, none, .load (.t 2) 26 true⟩,
 ⟨some 29, none, .mov (.t 8)⟩,
 ⟨none, none, .store (.t 4) (.t 28) 26⟩,
 ⟨some 5, none, .mov (.k (.s (.int .u64 0)))⟩,
 ⟨some 6, none, .mov (.t 29)⟩] [4, 5, 6]) (
 .ret)) (
 .skip))) (
 .seq (
 .reg [
 ⟨some 30, none, .fad (.t 9) 7⟩,
 ⟨some 31, none, .load (.t 30) 1 false⟩,
 ⟨some 32, none, .bin .add (.t 31) (.k (.s (.int .i64 1)))⟩,
 ⟨some 33, none, .fad (.t 9) 7⟩,
 ⟨none, none, .store (.t 33) (.t 32) 1⟩] [4, 7, 9]) (
 .seq (
 .reg [
 ⟨some 34, none, .load (.t 9) 26 true⟩,
 ⟨some 35, none, .mov (.t 7)⟩,
 ⟨none, none, .store (.t 4) (.t 34) 26⟩,
 ⟨some 5, none, .mov (.t 35)⟩,
 ⟨some 6, none, .mov (.k (.s (.int .i64 0)))⟩] [4, 5, 6]) (
 .ret))))))),
 [.c 4 26 true, .t 5, .t 6], none⟩

/-- bailey/kern.done -/
def F128 : FnIR := ⟨6,
 .reg [
 ⟨some 2, none, .mov (.t 0)⟩,
 ⟨some 3, none, .bin .eql (.t 2) (.k (.s (.int .i64 0)))⟩,
 ⟨some 4, none, .mov (.t 0)⟩,
 ⟨some 5, none, .call false 86 0 [.t 3, .t 4]⟩] [],
 [], none⟩

/-- (*bailey/kern.act).put -/
def F129 : FnIR := ⟨13,
 .seq (
 .reg [
 ⟨some 3, none, .bxl (.t 1)⟩] [0, 3]) (
 .drw [
 ⟨some 4, none, .mov (.t 0)⟩,
 ⟨some 5, none, .mov (.t 0)⟩,
 ⟨some 6, none, .nck (.t 5)⟩,
 ⟨some 7, none, .fad (.t 6) 12⟩,
 ⟨some 8, none, .load (.t 7) 1 false⟩,
 ⟨some 9, none, .load (.t 3) 26 true⟩,
 ⟨some 10, none, .call false 59 0 [.t 8, .t 9]⟩,
 ⟨some 11, none, .nck (.t 4)⟩,
 ⟨some 12, none, .fad (.t 11) 12⟩,
 ⟨none, none, .store (.t 12) (.t 10) 1⟩] [6] [] []),
 [], none⟩

/-- (*bailey/kern.act).of -/
def F130 : FnIR := ⟨24,
 .seq (
 .reg [
 ⟨some 4, none, .alloc [.s (.int .u64 0), .s (.int .i64 0), .s (.int .i64 0), .lit .nil [], .s (.int .i64 0), .lit .nil [], .s (.int .i64 0), .s (.int .i64 0), .lit .nil [], .lit .nil [], .s (.int .u64 0), .s (.int .u64 0), .s (.int .u64 0), .s (.int .u64 0), .s (.int .i64 0), .s (.int .i64 0), .s (.bool false), .s (.int .u64 0), .s (.int .u64 0), .s (.int .u64 0), .s (.int .u64 0), .s (.int .u64 0), .s (.int .u64 0), .s (.int .u64 0), .s (.int .u64 0), .s (.int .u64 0)]⟩] [0, 1, 4]) (
 .seq (
 .drw [
 ⟨some 6, none, .mov (.t 0)⟩,
 ⟨some 7, none, .mov (.t 0)⟩,
 ⟨some 8, none, .nck (.t 7)⟩,
 ⟨some 9, none, .fad (.t 8) 0⟩,
 ⟨some 10, none, .fad (.t 9) 3⟩,
 ⟨some 11, none, .load (.t 10) 1 false⟩,
 ⟨some 12, none, .mov (.t 0)⟩,
 ⟨some 13, none, .nck (.t 12)⟩,
 ⟨some 14, none, .fad (.t 13) 0⟩,
 ⟨some 15, none, .fad (.t 14) 4⟩,
 ⟨some 16, none, .load (.t 15) 1 false⟩,
 ⟨some 17, none, .call true 92 0 [.t 6, .t 11, .t 16]⟩,
 ⟨some 5, none, .alloc [.s (.int .u64 0), .s (.int .i64 0), .s (.int .i64 0), .lit .nil [], .s (.int .i64 0), .lit .nil [], .s (.int .i64 0), .s (.int .i64 0), .lit .nil [], .lit .nil [], .s (.int .u64 0), .s (.int .u64 0), .s (.int .u64 0), .s (.int .u64 0), .s (.int .i64 0), .s (.int .i64 0), .s (.bool false), .s (.int .u64 0), .s (.int .u64 0), .s (.int .u64 0), .s (.int .u64 0), .s (.int .u64 0), .s (.int .u64 0), .s (.int .u64 0), .s (.int .u64 0), .s (.int .u64 0)]⟩,
 ⟨none, none, .store (.t 5) (.t 17) 26⟩] [] [] [1, 4, 5]) (
 .seq (
 .reg [
 ⟨some 18, none, .fad (.t 5) 1⟩,
 ⟨some 19, none, .load (.t 18) 1 false⟩,
 ⟨some 20, none, .mov (.t 1)⟩,
 ⟨some 21, none, .bin .eql (.t 19) (.t 20)⟩,
 ⟨some 22, none, .call false 86 0 [.t 21, .k (.s (.int .i64 203))]⟩] [4, 5]) (
 .seq (
 .reg [
 ⟨some 23, none, .load (.t 5) 26 true⟩,
 ⟨none, none, .store (.t 4) (.t 23) 26⟩] [4]) (
 .ret)))),
 [.c 4 26 true], none⟩

/-- (*bailey/kern.act).reads -/
def F131 : FnIR := ⟨13,
 .seq (
 .reg [
 ⟨some 3, none, .bxl (.t 1)⟩] [0, 3]) (
 .drw [
 ⟨some 4, none, .mov (.t 0)⟩,
 ⟨some 5, none, .nck (.t 4)⟩,
 ⟨some 6, none, .fad (.t 5) 14⟩,
 ⟨some 7, none, .load (.t 6) 26 true⟩,
 ⟨some 8, none, .call false 124 0 [.t 7]⟩,
 ⟨some 9, none, .fad (.t 3) 2⟩,
 ⟨some 10, none, .load (.t 9) 2 true⟩,
 ⟨some 11, none, .call false 190 0 [.t 8, .t 10]⟩,
 ⟨some 12, none, .call false 86 0 [.t 11, .k (.s (.int .i64 204))]⟩] [7, 8] [] []),
 [], none⟩

/-- bailey/kern.within -/
def F132 : FnIR := ⟨29,
 .seq (
 .reg [
 ⟨some 3, none, .bxl (.t 0)⟩] [1, 2, 3]) (
 .reg [
 ⟨some 6, none, .mov (.t 1)⟩,
 ⟨some 7, none, .bin .geq (.t 6) (.k (.s (.int .i64 0)))⟩,
 ⟨some 8, none, .mov (.t 7)⟩,
 ⟨some 9, some (8, true), .mov (.t 2)⟩,
 ⟨some 10, some (8, true), .bin .geq (.t 9) (.k (.s (.int .i64 0)))⟩,
 ⟨some 11, none, .pick (.t 8) (.t 10) (.k (.s (.bool false)))⟩,
 ⟨some 12, none, .mov (.t 11)⟩,
 ⟨some 13, some (12, true), .mov (.t 1)⟩,
 ⟨some 14, some (12, true), .fad (.t 3) 9⟩,
 ⟨some 15, some (12, true), .load (.t 14) 1 false⟩,
 ⟨some 16, some (12, true), .len (.t 15)⟩,
 ⟨some 17, some (12, true), .bin .leq (.t 13) (.t 16)⟩,
 ⟨some 18, none, .pick (.t 12) (.t 17) (.k (.s (.bool false)))⟩,
 ⟨some 19, none, .mov (.t 18)⟩,
 ⟨some 20, some (19, true), .mov (.t 2)⟩,
 ⟨some 21, some (19, true), .fad (.t 3) 9⟩,
 ⟨some 22, some (19, true), .load (.t 21) 1 false⟩,
 ⟨some 23, some (19, true), .len (.t 22)⟩,
 ⟨some 24, some (19, true), .mov (.t 1)⟩,
 ⟨some 25, some (19, true), .bin .sub (.t 23) (.t 24)⟩,
 ⟨some 26, some (19, true), .bin .leq (.t 20) (.t 25)⟩,
 ⟨some 27, none, .pick (.t 19) (.t 26) (.k (.s (.bool false)))⟩,
 ⟨some 28, none, .call false 86 0 [.t 27, .k (.s (.int .i64 205))]⟩] []),
 [], none⟩

/-- bailey/dir.Add -/
def F133 : FnIR := ⟨50,
 .seq (
 .reg [
 ⟨some 3, none, .box (.t 0)⟩,
 ⟨some 6, none, .alloc [.s (.int .u64 0), .s (.int .i64 0), .s (.int .i64 0), .lit .nil [], .s (.int .i64 0), .lit .nil [], .s (.int .i64 0), .s (.int .i64 0), .lit .nil [], .lit .nil [], .s (.int .u64 0), .s (.int .u64 0), .s (.int .u64 0), .s (.int .u64 0), .s (.int .i64 0), .s (.int .i64 0), .s (.bool false), .s (.int .u64 0), .s (.int .u64 0), .s (.int .u64 0), .s (.int .u64 0), .s (.int .u64 0), .s (.int .u64 0), .s (.int .u64 0), .s (.int .u64 0), .s (.int .u64 0)]⟩,
 ⟨some 7, none, .mov (.k (.s (.int .i64 0)))⟩] [1, 2, 3, 6]) (
 .seq (
 .reg [
 ⟨some 11, none, .load (.t 3) 26 true⟩,
 ⟨some 12, none, .mov (.t 1)⟩,
 ⟨some 13, none, .call false 102 0 [.t 11, .t 12]⟩,
 ⟨some 10, none, .mov (.t 13)⟩,
 ⟨some 14, none, .ext (.t 10) 0⟩,
 ⟨some 15, none, .ext (.t 10) 1⟩,
 ⟨some 8, none, .mov (.t 14)⟩,
 ⟨some 9, none, .mov (.t 15)⟩] [1, 2, 3, 6, 8, 9]) (
 .seq (
 .block 0 (
 .seq (
 .reg [
 ⟨some 17, none, .mov (.t 9)⟩,
 ⟨some 16, none, .mov (.t 17)⟩] [1, 2, 3, 6, 8, 16]) (
 .cond (.t 16) (
 .seq (
 .reg [
 ⟨some 18, none, .load (.t 3) 26 true⟩,
 ⟨none, none, .store (.t 6) (.t 18) 26⟩,
 ⟨some 7, none, .mov (.k (.s (.int .i64 123)))⟩] [6, 7]) (
 .ret)) (
 .seq (
 .reg [
 ⟨some 20, none, .fad (.t 3) 8⟩,
 ⟨some 21, none, .load (.t 20) 1 false⟩,
 ⟨some 22, none, .len (.t 21)⟩,
 ⟨some 23, none, .bin .geq (.t 22) (.k (.s (.int .i64 16)))⟩,
 ⟨some 19, none, .mov (.t 23)⟩] [1, 2, 3, 6, 8, 19]) (
 .cond (.t 19) (
 .seq (
 .reg [
 ⟨some 24, none, .load (.t 3) 26 true⟩,
 ⟨none, none, .store (.t 6) (.t 24) 26⟩,
 ⟨some 7, none, .mov (.k (.s (.int .i64 122)))⟩] [6, 7]) (
 .ret)) (
 .seq (
 .drw [
 ⟨some 26, none, .mov (.t 2)⟩,
 ⟨some 27, none, .bin .lss (.t 26) (.k (.s (.int .i64 1)))⟩,
 ⟨some 28, none, .mov (.t 27)⟩,
 ⟨some 29, some (28, false), .mov (.t 2)⟩,
 ⟨some 30, some (28, false), .fad (.t 3) 6⟩,
 ⟨some 31, some (28, false), .load (.t 30) 1 false⟩,
 ⟨some 32, some (28, false), .load (.t 3) 26 true⟩,
 ⟨some 33, some (28, false), .call false 196 0 [.t 32]⟩,
 ⟨some 34, some (28, false), .bin .sub (.t 31) (.t 33)⟩,
 ⟨some 35, some (28, false), .bin .gtr (.t 29) (.t 34)⟩,
 ⟨some 36, none, .pick (.t 28) (.k (.s (.bool true))) (.t 35)⟩,
 ⟨some 25, none, .mov (.t 36)⟩] [] [] [1, 2, 3, 6, 8, 25]) (
 .cond (.t 25) (
 .seq (
 .reg [
 ⟨some 37, none, .load (.t 3) 26 true⟩,
 ⟨none, none, .store (.t 6) (.t 37) 26⟩,
 ⟨some 7, none, .mov (.k (.s (.int .i64 121)))⟩] [6, 7]) (
 .ret)) (
 .skip)))))))) (
 .seq (
 .reg [
 ⟨some 38, none, .load (.t 3) 26 true⟩,
 ⟨some 39, none, .call true 55 0 [.t 38]⟩,
 ⟨none, none, .store (.t 3) (.t 39) 26⟩] [1, 2, 3, 6, 8]) (
 .seq (
 .reg [
 ⟨some 40, none, .fad (.t 3) 8⟩,
 ⟨some 41, none, .load (.t 40) 1 false⟩,
 ⟨some 42, none, .mov (.t 8)⟩,
 ⟨some 43, none, .mov (.t 1)⟩,
 ⟨some 44, none, .mov (.t 2)⟩,
 ⟨some 45, none, .build [.s (.int .u64 0), .s (.int .i64 0)] [(0, 1, .t 43), (1, 1, .t 44)]⟩,
 ⟨some 46, none, .bsl true 2 true [.s (.int .u64 0), .s (.int .i64 0)] 1 [(0, .t 45)]⟩,
 ⟨some 47, none, .call true 197 0 [.t 41, .t 42, .t 46]⟩,
 ⟨some 48, none, .fad (.t 3) 8⟩,
 ⟨none, none, .store (.t 48) (.t 47) 1⟩] [3, 6]) (
 .seq (
 .reg [
 ⟨some 49, none, .load (.t 3) 26 true⟩,
 ⟨none, none, .store (.t 6) (.t 49) 26⟩,
 ⟨some 7, none, .mov (.k (.s (.int .i64 0)))⟩] [6, 7]) (
 .ret)))))),
 [.c 6 26 true, .t 7], none⟩

/-- bailey/flow.Taints -/
def F134 : FnIR := ⟨16,
 .seq (
 .reg [
 ⟨some 2, none, .bxl (.t 0)⟩,
 ⟨some 3, none, .bxl (.t 1)⟩,
 ⟨some 4, none, .mov (.k (.s (.bool false)))⟩] [2, 3]) (
 .seq (
 .reg [
 ⟨some 5, none, .load (.t 3) 2 true⟩,
 ⟨some 6, none, .call false 74 0 [.t 5]⟩,
 ⟨some 7, none, .mov (.t 6)⟩,
 ⟨some 8, some (7, true), .fad (.t 2) 0⟩,
 ⟨some 9, some (7, true), .load (.t 8) 2 true⟩,
 ⟨some 10, some (7, true), .load (.t 3) 2 true⟩,
 ⟨some 11, some (7, true), .fad (.t 2) 2⟩,
 ⟨some 12, some (7, true), .load (.t 11) 2 true⟩,
 ⟨some 13, some (7, true), .bsl true 2 true [.s (.int .i64 0), .lit .nil []] 3 [(0, .t 9), (1, .t 10), (2, .t 12)]⟩,
 ⟨some 14, some (7, true), .call false 193 0 [.t 13]⟩,
 ⟨some 15, none, .pick (.t 7) (.t 14) (.k (.s (.bool false)))⟩,
 ⟨some 4, none, .mov (.t 15)⟩] [4]) (
 .ret)),
 [.t 4], none⟩

/-- bailey/flow.Clears -/
def F135 : FnIR := ⟨20,
 .seq (
 .reg [
 ⟨some 2, none, .bxl (.t 0)⟩,
 ⟨some 3, none, .bxl (.t 1)⟩,
 ⟨some 4, none, .mov (.k (.s (.bool false)))⟩] [2, 3]) (
 .seq (
 .drw [
 ⟨some 5, none, .load (.t 3) 2 true⟩,
 ⟨some 6, none, .call false 194 0 [.t 5]⟩,
 ⟨some 7, none, .mov (.t 6)⟩,
 ⟨some 8, some (7, true), .fad (.t 2) 0⟩,
 ⟨some 9, some (7, true), .load (.t 8) 2 true⟩,
 ⟨some 10, some (7, true), .load (.t 3) 2 true⟩,
 ⟨some 11, some (7, true), .fad (.t 2) 2⟩,
 ⟨some 12, some (7, true), .load (.t 11) 2 true⟩,
 ⟨some 13, some (7, true), .fad (.t 2) 0⟩,
 ⟨some 14, some (7, true), .load (.t 13) 2 true⟩,
 ⟨some 15, some (7, true), .call false 199 0 [.t 14]⟩,
 ⟨some 16, some (7, true), .call false 198 0 [.t 12, .t 15]⟩,
 ⟨some 17, some (7, true), .bsl true 2 true [.s (.int .i64 0), .lit .nil []] 3 [(0, .t 9), (1, .t 10), (2, .t 16)]⟩,
 ⟨some 18, some (7, true), .call false 193 0 [.t 17]⟩,
 ⟨some 19, none, .pick (.t 7) (.t 18) (.k (.s (.bool false)))⟩,
 ⟨some 4, none, .mov (.t 19)⟩] [1, 13] [] [4]) (
 .ret)),
 [.t 4], none⟩

/-- bailey/gate.Through -/
def F136 : FnIR := ⟨30,
 .seq (
 .reg [
 ⟨some 3, none, .bxl (.t 0)⟩,
 ⟨some 4, none, .bxl (.t 1)⟩,
 ⟨some 5, none, .bxl (.t 2)⟩,
 ⟨some 6, none, .alloc [.s (.int .u64 0), .s (.int .i64 0), .s (.int .i64 0), .lit .nil [], .s (.int .i64 0), .lit .nil [], .s (.int .i64 0), .s (.int .i64 0), .lit .nil [], .lit .nil [], .s (.int .u64 0), .s (.int .u64 0), .s (.int .u64 0), .s (.int .u64 0), .s (.int .i64 0), .s (.int .i64 0), .s (.bool false), .s (.int .u64 0), .s (.int .u64 0), .s (.int .u64 0), .s (.int .u64 0), .s (.int .u64 0), .s (.int .u64 0), .s (.int .u64 0), .s (.int .u64 0), .s (.int .u64 0)]⟩,
 ⟨some 7, none, .mov (.k (.s (.int .i64 0)))⟩] [3, 4, 5, 6]) (
 .seq (
 .seq (
 .drw [
 ⟨some 9, none, .load (.t 3) 26 true⟩,
 ⟨some 10, none, .call false 124 0 [.t 9]⟩,
 ⟨some 11, none, .load (.t 4) 26 true⟩,
 ⟨some 12, none, .call false 124 0 [.t 11]⟩,
 ⟨some 13, none, .load (.t 5) 4 true⟩,
 ⟨some 14, none, .call false 200 0 [.t 10, .t 12, .t 13]⟩,
 ⟨some 15, none, .un .not (.t 14)⟩] [5] [] [3, 4, 5, 6, 15]) (
 .cond (.t 15) (
 .seq (
 .reg [
 ⟨some 16, none, .load (.t 3) 26 true⟩,
 ⟨none, none, .store (.t 6) (.t 16) 26⟩,
 ⟨some 7, none, .mov (.k (.s (.int .i64 181)))⟩] [6, 7]) (
 .ret)) (
 .skip))) (
 .seq (
 .reg [
 ⟨some 17, none, .load (.t 3) 26 true⟩,
 ⟨some 8, none, .alloc [.s (.int .u64 0), .s (.int .i64 0), .s (.int .i64 0), .lit .nil [], .s (.int .i64 0), .lit .nil [], .s (.int .i64 0), .s (.int .i64 0), .lit .nil [], .lit .nil [], .s (.int .u64 0), .s (.int .u64 0), .s (.int .u64 0), .s (.int .u64 0), .s (.int .i64 0), .s (.int .i64 0), .s (.bool false), .s (.int .u64 0), .s (.int .u64 0), .s (.int .u64 0), .s (.int .u64 0), .s (.int .u64 0), .s (.int .u64 0), .s (.int .u64 0), .s (.int .u64 0), .s (.int .u64 0)]⟩,
 ⟨none, none, .store (.t 8) (.t 17) 26⟩] [4, 5, 6, 8]) (
 .seq (
 .drw [
 ⟨some 18, none, .fad (.t 5) 0⟩,
 ⟨some 19, none, .load (.t 18) 2 true⟩,
 ⟨some 20, none, .fad (.t 5) 2⟩,
 ⟨some 21, none, .load (.t 20) 2 true⟩,
 ⟨some 22, none, .fad (.t 8) 2⟩,
 ⟨none, none, .store (.t 22) (.t 19) 2⟩,
 ⟨some 23, none, .fad (.t 8) 4⟩,
 ⟨none, none, .store (.t 23) (.t 21) 2⟩] [] [(3, 5)] [4, 6, 8]) (
 .seq (
 .reg [
 ⟨some 24, none, .fad (.t 4) 17⟩,
 ⟨some 25, none, .load (.t 24) 1 false⟩,
 ⟨some 26, none, .fad (.t 8) 10⟩,
 ⟨some 27, none, .ixa (.t 26) (.k (.s (.int .i64 0))) 1 (some 4)⟩,
 ⟨none, none, .store (.t 27) (.t 25) 1⟩] [6, 8]) (
 .seq (
 .reg [
 ⟨some 28, none, .load (.t 8) 26 true⟩,
 ⟨some 29, none, .call true 55 0 [.t 28]⟩,
 ⟨none, none, .store (.t 6) (.t 29) 26⟩,
 ⟨some 7, none, .mov (.k (.s (.int .i64 0)))⟩] [6, 7]) (
 .ret)))))),
 [.c 6 26 true, .t 7], none⟩

/-- bailey/gate.Mint -/
def F137 : FnIR := ⟨60,
 .seq (
 .reg [
 ⟨some 2, none, .bxl (.t 0)⟩,
 ⟨some 4, none, .alloc [.s (.int .u64 0), .s (.int .i64 0), .s (.int .i64 0), .lit .nil [], .s (.int .i64 0), .lit .nil [], .s (.int .i64 0), .s (.int .i64 0), .lit .nil [], .lit .nil [], .s (.int .u64 0), .s (.int .u64 0), .s (.int .u64 0), .s (.int .u64 0), .s (.int .i64 0), .s (.int .i64 0), .s (.bool false), .s (.int .u64 0), .s (.int .u64 0), .s (.int .u64 0), .s (.int .u64 0), .s (.int .u64 0), .s (.int .u64 0), .s (.int .u64 0), .s (.int .u64 0), .s (.int .u64 0)]⟩,
 ⟨some 5, none, .mov (.k (.s (.int .u64 0)))⟩,
 ⟨some 6, none, .mov (.k (.s (.int .i64 0)))⟩] [1, 2, 4]) (
 .seq (
 .reg [
 ⟨some 9, none, .load (.t 2) 26 true⟩,
 ⟨some 10, none, .call true 55 0 [.t 9]⟩,
 ⟨some 7, none, .alloc [.s (.int .u64 0), .s (.int .i64 0), .s (.int .i64 0), .lit .nil [], .s (.int .i64 0), .lit .nil [], .s (.int .i64 0), .s (.int .i64 0), .lit .nil [], .lit .nil [], .s (.int .u64 0), .s (.int .u64 0), .s (.int .u64 0), .s (.int .u64 0), .s (.int .i64 0), .s (.int .i64 0), .s (.bool false), .s (.int .u64 0), .s (.int .u64 0), .s (.int .u64 0), .s (.int .u64 0), .s (.int .u64 0), .s (.int .u64 0), .s (.int .u64 0), .s (.int .u64 0), .s (.int .u64 0)]⟩,
 ⟨none, none, .store (.t 7) (.t 10) 26⟩] [1, 2, 4, 7]) (
 .seq (
 .seq (
 .reg [
 ⟨some 11, none, .fad (.t 7) 15⟩,
 ⟨some 12, none, .load (.t 11) 1 false⟩,
 ⟨some 13, none, .mov (.t 1)⟩,
 ⟨some 14, none, .bin .neq (.t 12) (.t 13)⟩] [1, 2, 4, 7, 14]) (
 .cond (.t 14) (
 .reg [
 ⟨some 15, none, .mov (.t 1)⟩,
 ⟨some 16, none, .fad (.t 7) 14⟩,
 ⟨none, none, .store (.t 16) (.k (.s (.int .i64 0))) 1⟩,
 ⟨some 17, none, .fad (.t 7) 15⟩,
 ⟨none, none, .store (.t 17) (.t 15) 1⟩] [1, 2, 4, 7]) (
 .skip))) (
 .seq (
 .seq (
 .reg [
 ⟨some 18, none, .fad (.t 7) 14⟩,
 ⟨some 19, none, .load (.t 18) 1 false⟩,
 ⟨some 20, none, .bin .geq (.t 19) (.k (.s (.int .i64 31)))⟩] [1, 2, 4, 7, 20]) (
 .cond (.t 20) (
 .seq (
 .reg [
 ⟨some 21, none, .load (.t 2) 26 true⟩,
 ⟨none, none, .store (.t 4) (.t 21) 26⟩,
 ⟨some 5, none, .mov (.k (.s (.int .u64 0)))⟩,
 ⟨some 6, none, .mov (.k (.s (.int .i64 182)))⟩] [4, 5, 6]) (
 .ret)) (
 .skip))) (
 .seq (
 .reg [
 ⟨some 22, none, .fad (.t 7) 14⟩,
 ⟨some 23, none, .load (.t 22) 1 false⟩,
 ⟨some 24, none, .bin .add (.t 23) (.k (.s (.int .i64 1)))⟩,
 ⟨some 25, none, .fad (.t 7) 14⟩,
 ⟨none, none, .store (.t 25) (.t 24) 1⟩] [1, 2, 4, 7]) (
 .seq (
 .reg [
 ⟨some 26, none, .fad (.t 7) 0⟩,
 ⟨some 27, none, .load (.t 26) 1 false⟩,
 ⟨some 28, none, .bin .shl (.t 27) (.k (.s (.int .u64 13)))⟩,
 ⟨some 29, none, .mov (.t 1)⟩,
 ⟨some 30, none, .cvi .u64 (.t 29)⟩,
 ⟨some 31, none, .bin .shl (.t 30) (.k (.s (.int .u64 5)))⟩,
 ⟨some 32, none, .bin .or (.t 28) (.t 31)⟩,
 ⟨some 33, none, .fad (.t 7) 14⟩,
 ⟨some 34, none, .load (.t 33) 1 false⟩,
 ⟨some 35, none, .cvi .u64 (.t 34)⟩,
 ⟨some 36, none, .bin .or (.t 32) (.t 35)⟩,
 ⟨some 8, none, .mov (.t 36)⟩] [2, 4, 7, 8]) (
 .seq (
 .drw [
 ⟨some 37, none, .fad (.t 7) 2⟩,
 ⟨some 38, none, .load (.t 37) 2 true⟩,
 ⟨some 39, none, .mov (.t 8)⟩,
 ⟨some 40, none, .call false 201 0 [.t 38, .t 39, .k (.s (.int .i64 0))]⟩,
 ⟨some 41, none, .fad (.t 7) 4⟩,
 ⟨some 42, none, .load (.t 41) 2 true⟩,
 ⟨some 43, none, .mov (.t 8)⟩,
 ⟨some 44, none, .call false 201 0 [.t 42, .t 43, .k (.s (.int .i64 4))]⟩,
 ⟨some 45, none, .fad (.t 7) 2⟩,
 ⟨none, none, .store (.t 45) (.t 40) 2⟩,
 ⟨some 46, none, .fad (.t 7) 4⟩,
 ⟨none, none, .store (.t 46) (.t 44) 2⟩] [] [] [2, 4, 7, 8]) (
 .seq (
 .seq (
 .reg [
 ⟨some 47, none, .fad (.t 7) 2⟩,
 ⟨some 48, none, .load (.t 47) 2 true⟩,
 ⟨some 49, none, .call false 74 0 [.t 48]⟩,
 ⟨some 50, none, .un .not (.t 49)⟩,
 ⟨some 51, none, .mov (.t 50)⟩,
 ⟨some 52, some (51, false), .fad (.t 7) 4⟩,
 ⟨some 53, some (51, false), .load (.t 52) 2 true⟩,
 ⟨some 54, some (51, false), .call false 74 0 [.t 53]⟩,
 ⟨some 55, some (51, false), .un .not (.t 54)⟩,
 ⟨some 56, none, .pick (.t 51) (.k (.s (.bool true))) (.t 55)⟩] [2, 4, 7, 8, 56]) (
 .cond (.t 56) (
 .seq (
 .reg [
 ⟨some 57, none, .load (.t 2) 26 true⟩,
 ⟨none, none, .store (.t 4) (.t 57) 26⟩,
 ⟨some 5, none, .mov (.k (.s (.int .u64 0)))⟩,
 ⟨some 6, none, .mov (.k (.s (.int .i64 91)))⟩] [4, 5, 6]) (
 .ret)) (
 .skip))) (
 .seq (
 .reg [
 ⟨some 58, none, .load (.t 7) 26 true⟩,
 ⟨some 59, none, .mov (.t 8)⟩,
 ⟨none, none, .store (.t 4) (.t 58) 26⟩,
 ⟨some 5, none, .mov (.t 59)⟩,
 ⟨some 6, none, .mov (.k (.s (.int .i64 0)))⟩] [4, 5, 6]) (
 .ret))))))))),
 [.c 4 26 true, .t 5, .t 6], none⟩

/-- bailey/num.Do -/
def F138 : FnIR := ⟨48,
 .seq (
 .reg [
 ⟨some 6, none, .mov (.k (.s (.int .u64 0)))⟩] [0, 1, 2]) (
 .seq (
 .reg [
 ⟨some 9, none, .mov (.t 1)⟩,
 ⟨some 10, none, .fof 187 (.t 9)⟩,
 ⟨some 11, none, .mov (.t 2)⟩,
 ⟨some 12, none, .fof 187 (.t 11)⟩,
 ⟨some 7, none, .mov (.t 10)⟩,
 ⟨some 8, none, .mov (.t 12)⟩] [0, 1, 2, 7, 8]) (
 .seq (
 .seq (
 .reg [
 ⟨some 13, none, .mov (.t 0)⟩] [1, 2, 7, 8, 13]) (
 .block 0 (
 .seq (
 .reg [
 ⟨some 17, none, .bin .eql (.t 13) (.k (.s (.int .i64 1)))⟩,
 ⟨some 16, none, .mov (.t 17)⟩] [1, 2, 7, 8, 13, 16]) (
 .cond (.t 16) (
 .seq (
 .reg [
 ⟨some 18, none, .mov (.t 2)⟩,
 ⟨some 19, none, .call false 118 0 [.t 18]⟩,
 ⟨some 6, none, .mov (.t 19)⟩] [6]) (
 .ret)) (
 .seq (
 .reg [
 ⟨some 21, none, .bin .eql (.t 13) (.k (.s (.int .i64 2)))⟩,
 ⟨some 20, none, .mov (.t 21)⟩] [1, 2, 7, 8, 13, 20]) (
 .cond (.t 20) (
 .reg [
 ⟨some 22, none, .mov (.t 7)⟩,
 ⟨some 23, none, .mov (.t 8)⟩,
 ⟨some 24, none, .flt .add (.t 22) (.t 23)⟩,
 ⟨some 7, none, .mov (.t 24)⟩] [7]) (
 .seq (
 .reg [
 ⟨some 26, none, .bin .eql (.t 13) (.k (.s (.int .i64 3)))⟩,
 ⟨some 25, none, .mov (.t 26)⟩] [1, 2, 7, 8, 13, 25]) (
 .cond (.t 25) (
 .reg [
 ⟨some 27, none, .mov (.t 7)⟩,
 ⟨some 28, none, .mov (.t 8)⟩,
 ⟨some 29, none, .flt .sub (.t 27) (.t 28)⟩,
 ⟨some 7, none, .mov (.t 29)⟩] [7]) (
 .seq (
 .reg [
 ⟨some 31, none, .bin .eql (.t 13) (.k (.s (.int .i64 4)))⟩,
 ⟨some 30, none, .mov (.t 31)⟩] [1, 2, 7, 8, 13, 30]) (
 .cond (.t 30) (
 .reg [
 ⟨some 32, none, .mov (.t 7)⟩,
 ⟨some 33, none, .mov (.t 8)⟩,
 ⟨some 34, none, .flt .mul (.t 32) (.t 33)⟩,
 ⟨some 7, none, .mov (.t 34)⟩] [7]) (
 .seq (
 .reg [
 ⟨some 36, none, .bin .eql (.t 13) (.k (.s (.int .i64 5)))⟩,
 ⟨some 35, none, .mov (.t 36)⟩] [1, 2, 7, 8, 13, 35]) (
 .cond (.t 35) (
 .reg [
 ⟨some 37, none, .mov (.t 7)⟩,
 ⟨some 38, none, .mov (.t 8)⟩,
 ⟨some 39, none, .flt .quo (.t 37) (.t 38)⟩,
 ⟨some 7, none, .mov (.t 39)⟩] [7]) (
 .seq (
 .reg [
 ⟨some 41, none, .bin .eql (.t 13) (.k (.s (.int .i64 6)))⟩,
 ⟨some 40, none, .mov (.t 41)⟩] [1, 2, 40]) (
 .cond (.t 40) (
 .seq (
 .reg [
 ⟨some 7, none, .mov (.k (.s (.float .f64 0)))⟩] [1, 2, 7]) (
 .seq (
 .reg [
 ⟨some 42, none, .mov (.t 1)⟩,
 ⟨some 43, none, .mov (.t 2)⟩,
 ⟨some 44, none, .call false 202 0 [.t 42, .t 43]⟩] [7, 44]) (
 .cond (.t 44) (
 .reg [
 ⟨some 7, none, .mov (.k (.s (.float .f64 4607182418800017408)))⟩] [7]) (
 .skip)))) (
 .seq (
 .reg [
 ⟨some 14, none, .mov (.t 1)⟩,
 ⟨some 15, none, .call false 118 0 [.t 14]⟩,
 ⟨some 6, none, .mov (.t 15)⟩] [6]) (
 .ret)))))))))))))))) (
 .seq (
 .reg [
 ⟨some 45, none, .mov (.t 7)⟩,
 ⟨some 46, none, .off 203 (.t 45)⟩,
 ⟨some 47, none, .call false 118 0 [.t 46]⟩,
 ⟨some 6, none, .mov (.t 47)⟩] [6]) (
 .ret)))),
 [.t 6], none⟩

/-- bailey/space.Map -/
def F139 : FnIR := ⟨27,
 .seq (
 .reg [
 ⟨some 3, none, .bxl (.t 0)⟩,
 ⟨some 5, none, .bxl (.t 2)⟩,
 ⟨some 6, none, .alloc [.s (.int .u64 0), .s (.int .i64 0), .s (.int .i64 0), .lit .nil [], .s (.int .i64 0), .lit .nil [], .s (.int .i64 0), .s (.int .i64 0), .lit .nil [], .lit .nil [], .s (.int .u64 0), .s (.int .u64 0), .s (.int .u64 0), .s (.int .u64 0), .s (.int .i64 0), .s (.int .i64 0), .s (.bool false), .s (.int .u64 0), .s (.int .u64 0), .s (.int .u64 0), .s (.int .u64 0), .s (.int .u64 0), .s (.int .u64 0), .s (.int .u64 0), .s (.int .u64 0), .s (.int .u64 0)]⟩,
 ⟨some 7, none, .mov (.k (.s (.int .i64 0)))⟩] [1, 3, 5, 6]) (
 .seq (
 .reg [
 ⟨some 9, none, .load (.t 3) 26 true⟩,
 ⟨some 10, none, .call true 55 0 [.t 9]⟩,
 ⟨some 8, none, .alloc [.s (.int .u64 0), .s (.int .i64 0), .s (.int .i64 0), .lit .nil [], .s (.int .i64 0), .lit .nil [], .s (.int .i64 0), .s (.int .i64 0), .lit .nil [], .lit .nil [], .s (.int .u64 0), .s (.int .u64 0), .s (.int .u64 0), .s (.int .u64 0), .s (.int .i64 0), .s (.int .i64 0), .s (.bool false), .s (.int .u64 0), .s (.int .u64 0), .s (.int .u64 0), .s (.int .u64 0), .s (.int .u64 0), .s (.int .u64 0), .s (.int .u64 0), .s (.int .u64 0), .s (.int .u64 0)]⟩,
 ⟨none, none, .store (.t 8) (.t 10) 26⟩] [1, 3, 5, 6, 8]) (
 .seq (
 .seq (
 .reg [
 ⟨some 11, none, .mov (.t 1)⟩,
 ⟨some 12, none, .bin .lss (.t 11) (.k (.s (.int .i64 0)))⟩,
 ⟨some 13, none, .mov (.t 12)⟩,
 ⟨some 14, some (13, false), .mov (.t 1)⟩,
 ⟨some 15, some (13, false), .bin .geq (.t 14) (.k (.s (.int .i64 4)))⟩,
 ⟨some 16, none, .pick (.t 13) (.k (.s (.bool true))) (.t 15)⟩] [1, 3, 5, 6, 8, 16]) (
 .cond (.t 16) (
 .seq (
 .reg [
 ⟨some 17, none, .load (.t 3) 26 true⟩,
 ⟨none, none, .store (.t 6) (.t 17) 26⟩,
 ⟨some 7, none, .mov (.k (.s (.int .i64 171)))⟩] [6, 7]) (
 .ret)) (
 .skip))) (
 .seq (
 .reg [
 ⟨some 18, none, .mov (.t 1)⟩,
 ⟨some 19, none, .load (.t 5) 2 true⟩,
 ⟨some 20, none, .fad (.t 8) 18⟩,
 ⟨some 21, none, .ixa (.t 20) (.t 18) 2 (some 4)⟩,
 ⟨none, none, .store (.t 21) (.t 19) 2⟩] [3, 6, 8]) (
 .seq (
 .seq (
 .reg [
 ⟨some 22, none, .load (.t 8) 26 true⟩,
 ⟨some 23, none, .call false 48 0 [.t 22]⟩,
 ⟨some 24, none, .un .not (.t 23)⟩] [3, 6, 8, 24]) (
 .cond (.t 24) (
 .seq (
 .reg [
 ⟨some 25, none, .load (.t 3) 26 true⟩,
 ⟨none, none, .store (.t 6) (.t 25) 26⟩,
 ⟨some 7, none, .mov (.k (.s (.int .i64 171)))⟩] [6, 7]) (
 .ret)) (
 .skip))) (
 .seq (
 .reg [
 ⟨some 26, none, .load (.t 8) 26 true⟩,
 ⟨none, none, .store (.t 6) (.t 26) 26⟩,
 ⟨some 7, none, .mov (.k (.s (.int .i64 0)))⟩] [6, 7]) (
 .ret)))))),
 [.c 6 26 true, .t 7], none⟩

/-- bailey/space.Where -/
def F140 : FnIR := ⟨30,
 .seq (
 .reg [
 ⟨some 2, none, .bxl (.t 0)⟩,
 ⟨some 4, none, .alloc [.s (.int .u64 0), .s (.int .u64 0)]⟩,
 ⟨some 5, none, .mov (.k (.s (.int .i64 0)))⟩,
 ⟨some 6, none, .mov (.k (.s (.int .i64 0)))⟩] [1, 2, 4]) (
 .seq (
 .seq (
 .reg [
 ⟨some 7, none, .mov (.t 1)⟩,
 ⟨some 8, none, .bin .lss (.t 7) (.k (.s (.int .i64 0)))⟩,
 ⟨some 9, none, .mov (.t 8)⟩,
 ⟨some 10, some (9, false), .mov (.t 1)⟩,
 ⟨some 11, some (9, false), .bin .geq (.t 10) (.k (.s (.int .i64 512)))⟩,
 ⟨some 12, none, .pick (.t 9) (.k (.s (.bool true))) (.t 11)⟩,
 ⟨some 13, none, .mov (.t 12)⟩,
 ⟨some 14, some (13, false), .mov (.t 1)⟩,
 ⟨some 15, some (13, false), .bin .quo (.t 14) (.k (.s (.int .i64 128)))⟩,
 ⟨some 16, some (13, false), .fad (.t 2) 18⟩,
 ⟨some 17, some (13, false), .ixa (.t 16) (.t 15) 2 (some 4)⟩,
 ⟨some 18, some (13, false), .load (.t 17) 2 true⟩,
 ⟨some 19, some (13, false), .build [.s (.int .u64 0), .s (.int .u64 0)] []⟩,
 ⟨some 20, some (13, false), .eqk (.cells [.i, .i]) false (.t 18) (.t 19)⟩,
 ⟨some 21, none, .pick (.t 13) (.k (.s (.bool true))) (.t 20)⟩] [1, 2, 4, 21]) (
 .cond (.t 21) (
 .seq (
 .reg [
 ⟨some 22, none, .build [.s (.int .u64 0), .s (.int .u64 0)] []⟩,
 ⟨none, none, .store (.t 4) (.t 22) 2⟩,
 ⟨some 5, none, .mov (.k (.s (.int .i64 0)))⟩,
 ⟨some 6, none, .mov (.k (.s (.int .i64 172)))⟩] [4, 5, 6]) (
 .ret)) (
 .skip))) (
 .seq (
 .reg [
 ⟨some 23, none, .mov (.t 1)⟩,
 ⟨some 24, none, .bin .quo (.t 23) (.k (.s (.int .i64 128)))⟩,
 ⟨some 25, none, .fad (.t 2) 18⟩,
 ⟨some 26, none, .ixa (.t 25) (.t 24) 2 (some 4)⟩,
 ⟨some 27, none, .load (.t 26) 2 true⟩,
 ⟨some 28, none, .mov (.t 1)⟩,
 ⟨some 29, none, .bin .rem (.t 28) (.k (.s (.int .i64 128)))⟩,
 ⟨none, none, .store (.t 4) (.t 27) 2⟩,
 ⟨some 5, none, .mov (.t 29)⟩,
 ⟨some 6, none, .mov (.k (.s (.int .i64 0)))⟩] [4, 5, 6]) (
 .ret))),
 [.c 4 2 true, .t 5, .t 6], none⟩

/-- bailey/codec.Pack -/
def F141 : FnIR := ⟨9,
 .seq (
 .reg [
 ⟨some 4, none, .mov (.k (.lit .nil []))⟩,
 ⟨some 5, none, .alloc [.s (.int .i64 0)]⟩] [0, 1, 4, 5]) (
 .seq (
 .dfr [
] (.k (.fn 204 [] [])) [.t 5] [0, 1, 4, 5]) (
 .seq (
 .reg [
 ⟨some 6, none, .mov (.t 0)⟩,
 ⟨some 7, none, .mov (.t 1)⟩,
 ⟨some 8, none, .call false 205 0 [.t 6, .t 7]⟩,
 ⟨some 4, none, .mov (.t 8)⟩,
 ⟨none, none, .store (.t 5) (.k (.s (.int .i64 0))) 1⟩] [4, 5]) (
 .ret))),
 [.t 4, .c 5 1 false], none⟩

/-- bailey/codec.Unpack -/
def F142 : FnIR := ⟨9,
 .seq (
 .reg [
 ⟨some 4, none, .mov (.k (.lit .nil []))⟩,
 ⟨some 5, none, .alloc [.s (.int .i64 0)]⟩] [0, 1, 4, 5]) (
 .seq (
 .dfr [
] (.k (.fn 204 [] [])) [.t 5] [0, 1, 4, 5]) (
 .seq (
 .reg [
 ⟨some 6, none, .mov (.t 0)⟩,
 ⟨some 7, none, .mov (.t 1)⟩,
 ⟨some 8, none, .call false 206 0 [.t 6, .t 7]⟩,
 ⟨some 4, none, .mov (.t 8)⟩,
 ⟨none, none, .store (.t 5) (.k (.s (.int .i64 0))) 1⟩] [4, 5]) (
 .ret))),
 [.t 4, .c 5 1 false], none⟩

/-- (*bailey/kern.act).find -/
def F143 : FnIR := ⟨17,
 .seq (
 .reg [
 ⟨some 4, none, .alloc [.s (.int .u64 0), .s (.int .i64 0), .s (.int .i64 0), .lit .nil [], .s (.int .i64 0), .lit .nil [], .s (.int .i64 0), .s (.int .i64 0), .lit .nil [], .lit .nil [], .s (.int .u64 0), .s (.int .u64 0), .s (.int .u64 0), .s (.int .u64 0), .s (.int .i64 0), .s (.int .i64 0), .s (.bool false), .s (.int .u64 0), .s (.int .u64 0), .s (.int .u64 0), .s (.int .u64 0), .s (.int .u64 0), .s (.int .u64 0), .s (.int .u64 0), .s (.int .u64 0), .s (.int .u64 0)]⟩] [0, 1, 4]) (
 .seq (
 .reg [
 ⟨some 8, none, .mov (.t 0)⟩,
 ⟨some 9, none, .nck (.t 8)⟩,
 ⟨some 10, none, .fad (.t 9) 12⟩,
 ⟨some 11, none, .load (.t 10) 1 false⟩,
 ⟨some 12, none, .mov (.t 1)⟩,
 ⟨some 13, none, .call false 39 0 [.t 11, .t 12]⟩,
 ⟨some 7, none, .mov (.t 13)⟩,
 ⟨some 14, none, .ext (.t 7) 0⟩,
 ⟨some 15, none, .ext (.t 7) 1⟩,
 ⟨some 5, none, .alloc [.s (.int .u64 0), .s (.int .i64 0), .s (.int .i64 0), .lit .nil [], .s (.int .i64 0), .lit .nil [], .s (.int .i64 0), .s (.int .i64 0), .lit .nil [], .lit .nil [], .s (.int .u64 0), .s (.int .u64 0), .s (.int .u64 0), .s (.int .u64 0), .s (.int .i64 0), .s (.int .i64 0), .s (.bool false), .s (.int .u64 0), .s (.int .u64 0), .s (.int .u64 0), .s (.int .u64 0), .s (.int .u64 0), .s (.int .u64 0), .s (.int .u64 0), .s (.int .u64 0), .s (.int .u64 0)]⟩,
 ⟨none, none, .store (.t 5) (.t 14) 26⟩,
 ⟨some 6, none, .mov (.t 15)⟩] [4, 5]) (
 .seq (
 .reg [
 ⟨some 16, none, .load (.t 5) 26 true⟩,
 ⟨none, none, .store (.t 4) (.t 16) 26⟩] [4]) (
 .ret))),
 [.c 4 26 true], none⟩

/-- bailey/baileyref20.open -/
def F144 : FnIR := ⟨33,
 .seq (
 .reg [
 ⟨some 4, none, .bxl (.t 1)⟩,
 ⟨some 6, none, .alloc [.s (.int .u64 0), .s (.int .i64 0), .s (.int .i64 0), .lit .nil [], .s (.int .i64 0), .lit .nil [], .s (.int .i64 0), .s (.int .i64 0), .lit .nil [], .lit .nil [], .s (.int .u64 0), .s (.int .u64 0), .s (.int .u64 0), .s (.int .u64 0), .s (.int .i64 0), .s (.int .i64 0), .s (.bool false), .s (.int .u64 0), .s (.int .u64 0), .s (.int .u64 0), .s (.int .u64 0), .s (.int .u64 0), .s (.int .u64 0), .s (.int .u64 0), .s (.int .u64 0), .s (.int .u64 0)]⟩,
 ⟨some 7, none, .mov (.k (.s (.int .i64 0)))⟩] [0, 2, 4, 6]) (
 .seq (
 .reg [
 ⟨some 11, none, .mov (.t 0)⟩,
 ⟨some 12, none, .mov (.t 2)⟩,
 ⟨some 13, none, .call false 25 0 [.t 11, .t 12]⟩,
 ⟨some 10, none, .mov (.t 13)⟩,
 ⟨some 14, none, .ext (.t 10) 0⟩,
 ⟨some 15, none, .ext (.t 10) 1⟩,
 ⟨some 8, none, .alloc [.s (.int .u64 0), .s (.int .i64 0), .s (.int .i64 0), .lit .nil [], .s (.int .i64 0), .lit .nil [], .s (.int .i64 0), .s (.int .i64 0), .lit .nil [], .lit .nil [], .s (.int .u64 0), .s (.int .u64 0), .s (.int .u64 0), .s (.int .u64 0), .s (.int .i64 0), .s (.int .i64 0), .s (.bool false), .s (.int .u64 0), .s (.int .u64 0), .s (.int .u64 0), .s (.int .u64 0), .s (.int .u64 0), .s (.int .u64 0), .s (.int .u64 0), .s (.int .u64 0), .s (.int .u64 0)]⟩,
 ⟨none, none, .store (.t 8) (.t 14) 26⟩,
 ⟨some 9, none, .mov (.t 15)⟩] [4, 6, 8, 9]) (
 .seq (
 .seq (
 .reg [
 ⟨some 16, none, .mov (.t 9)⟩,
 ⟨some 17, none, .un .not (.t 16)⟩,
 ⟨some 18, none, .mov (.t 17)⟩,
 ⟨some 19, some (18, false), .fad (.t 8) 1⟩,
 ⟨some 20, some (18, false), .load (.t 19) 1 false⟩,
 ⟨some 21, some (18, false), .bin .neq (.t 20) (.k (.s (.int .i64 1)))⟩,
 ⟨some 22, none, .pick (.t 18) (.k (.s (.bool true))) (.t 21)⟩,
 ⟨some 23, none, .mov (.t 22)⟩,
 ⟨some 24, some (23, false), .fad (.t 4) 2⟩,
 ⟨some 25, some (23, false), .load (.t 24) 2 true⟩,
 ⟨some 26, some (23, false), .fad (.t 8) 2⟩,
 ⟨some 27, some (23, false), .load (.t 26) 2 true⟩,
 ⟨some 28, some (23, false), .call false 150 0 [.t 25, .t 27]⟩,
 ⟨some 29, some (23, false), .un .not (.t 28)⟩,
 ⟨some 30, none, .pick (.t 23) (.k (.s (.bool true))) (.t 29)⟩] [6, 8, 30]) (
 .cond (.t 30) (
 .seq (
 .reg [
 ⟨some 31, none, .load (.t 8) 26 true⟩,
 ⟨none, none, .store (.t 6) (.t 31) 26⟩,
 ⟨some 7, none, .mov (.k (.s (.int .i64 201)))⟩] [6, 7]) (
 .ret)) (
 .skip))) (
 .seq (
 .reg [
 ⟨some 32, none, .load (.t 8) 26 true⟩,
 ⟨none, none, .store (.t 6) (.t 32) 26⟩,
 ⟨some 7, none, .mov (.k (.s (.int .i64 0)))⟩] [6, 7]) (
 .ret)))),
 [.c 6 26 true, .t 7], none⟩

/-- bailey/baileyref10.Writes -/
def F145 : FnIR := ⟨13,
 .seq (
 .reg [
 ⟨some 2, none, .bxl (.t 0)⟩,
 ⟨some 3, none, .bxl (.t 1)⟩,
 ⟨some 4, none, .mov (.k (.s (.bool false)))⟩] [2, 3]) (
 .seq (
 .reg [
 ⟨some 5, none, .load (.t 2) 2 true⟩,
 ⟨some 6, none, .load (.t 3) 2 true⟩,
 ⟨some 7, none, .call false 150 0 [.t 5, .t 6]⟩,
 ⟨some 8, none, .mov (.t 7)⟩,
 ⟨some 9, some (8, true), .load (.t 2) 2 true⟩,
 ⟨some 10, some (8, true), .load (.t 3) 2 true⟩,
 ⟨some 11, some (8, true), .call false 207 0 [.t 9, .t 10]⟩,
 ⟨some 12, none, .pick (.t 8) (.t 11) (.k (.s (.bool false)))⟩,
 ⟨some 4, none, .mov (.t 12)⟩] [4]) (
 .ret)),
 [.t 4], none⟩

/-- bailey/baileyref10.Makes -/
def F146 : FnIR := ⟨23,
 .seq (
 .reg [
 ⟨some 3, none, .bxl (.t 0)⟩,
 ⟨some 4, none, .bxl (.t 1)⟩,
 ⟨some 5, none, .bxl (.t 2)⟩,
 ⟨some 6, none, .mov (.k (.s (.bool false)))⟩] [3, 4, 5]) (
 .seq (
 .reg [
 ⟨some 7, none, .load (.t 5) 2 true⟩,
 ⟨some 8, none, .call false 64 0 [.t 7]⟩,
 ⟨some 9, none, .mov (.t 8)⟩,
 ⟨some 10, some (9, true), .load (.t 5) 2 true⟩,
 ⟨some 11, some (9, true), .call false 65 0 [.t 10]⟩,
 ⟨some 12, none, .pick (.t 9) (.t 11) (.k (.s (.bool false)))⟩,
 ⟨some 13, none, .mov (.t 12)⟩,
 ⟨some 14, some (13, true), .load (.t 3) 2 true⟩,
 ⟨some 15, some (13, true), .load (.t 5) 2 true⟩,
 ⟨some 16, some (13, true), .call false 207 0 [.t 14, .t 15]⟩,
 ⟨some 17, none, .pick (.t 13) (.t 16) (.k (.s (.bool false)))⟩,
 ⟨some 18, none, .mov (.t 17)⟩,
 ⟨some 19, some (18, true), .load (.t 5) 2 true⟩,
 ⟨some 20, some (18, true), .load (.t 4) 2 true⟩,
 ⟨some 21, some (18, true), .call false 207 0 [.t 19, .t 20]⟩,
 ⟨some 22, none, .pick (.t 18) (.t 21) (.k (.s (.bool false)))⟩,
 ⟨some 6, none, .mov (.t 22)⟩] [6]) (
 .ret)),
 [.t 6], none⟩

/-- bailey/baileyref10.Spawns -/
def F147 : FnIR := ⟨34,
 .seq (
 .reg [
 ⟨some 4, none, .bxl (.t 0)⟩,
 ⟨some 5, none, .bxl (.t 1)⟩,
 ⟨some 6, none, .bxl (.t 2)⟩,
 ⟨some 7, none, .bxl (.t 3)⟩,
 ⟨some 8, none, .mov (.k (.s (.bool false)))⟩] [4, 5, 6, 7]) (
 .seq (
 .reg [
 ⟨some 9, none, .load (.t 6) 2 true⟩,
 ⟨some 10, none, .call false 64 0 [.t 9]⟩,
 ⟨some 11, none, .mov (.t 10)⟩,
 ⟨some 12, some (11, true), .load (.t 7) 2 true⟩,
 ⟨some 13, some (11, true), .call false 64 0 [.t 12]⟩,
 ⟨some 14, none, .pick (.t 11) (.t 13) (.k (.s (.bool false)))⟩,
 ⟨some 15, none, .mov (.t 14)⟩,
 ⟨some 16, some (15, true), .load (.t 7) 2 true⟩,
 ⟨some 17, some (15, true), .call false 65 0 [.t 16]⟩,
 ⟨some 18, none, .pick (.t 15) (.t 17) (.k (.s (.bool false)))⟩,
 ⟨some 19, none, .mov (.t 18)⟩,
 ⟨some 20, some (19, true), .load (.t 4) 2 true⟩,
 ⟨some 21, some (19, true), .load (.t 6) 2 true⟩,
 ⟨some 22, some (19, true), .call false 207 0 [.t 20, .t 21]⟩,
 ⟨some 23, none, .pick (.t 19) (.t 22) (.k (.s (.bool false)))⟩,
 ⟨some 24, none, .mov (.t 23)⟩,
 ⟨some 25, some (24, true), .load (.t 6) 2 true⟩,
 ⟨some 26, some (24, true), .load (.t 7) 2 true⟩,
 ⟨some 27, some (24, true), .call false 207 0 [.t 25, .t 26]⟩,
 ⟨some 28, none, .pick (.t 24) (.t 27) (.k (.s (.bool false)))⟩,
 ⟨some 29, none, .mov (.t 28)⟩,
 ⟨some 30, some (29, true), .load (.t 7) 2 true⟩,
 ⟨some 31, some (29, true), .load (.t 5) 2 true⟩,
 ⟨some 32, some (29, true), .call false 207 0 [.t 30, .t 31]⟩,
 ⟨some 33, none, .pick (.t 29) (.t 32) (.k (.s (.bool false)))⟩,
 ⟨some 8, none, .mov (.t 33)⟩] [8]) (
 .ret)),
 [.t 8], none⟩

/-- bailey/baileyref12.Born -/
def F148 : FnIR := ⟨37,
 .seq (
 .reg [
 ⟨some 2, none, .bxl (.t 0)⟩,
 ⟨some 4, none, .alloc [.s (.int .u64 0), .s (.int .i64 0), .s (.int .i64 0), .lit .nil [], .s (.int .i64 0), .lit .nil [], .s (.int .i64 0), .s (.int .i64 0), .lit .nil [], .lit .nil [], .s (.int .u64 0), .s (.int .u64 0), .s (.int .u64 0), .s (.int .u64 0), .s (.int .i64 0), .s (.int .i64 0), .s (.bool false), .s (.int .u64 0), .s (.int .u64 0), .s (.int .u64 0), .s (.int .u64 0), .s (.int .u64 0), .s (.int .u64 0), .s (.int .u64 0), .s (.int .u64 0), .s (.int .u64 0)]⟩,
 ⟨some 5, none, .mov (.k (.s (.int .u64 0)))⟩,
 ⟨some 6, none, .mov (.k (.s (.int .i64 0)))⟩] [1, 2, 4]) (
 .seq (
 .reg [
 ⟨some 12, none, .load (.t 2) 26 true⟩,
 ⟨some 13, none, .call false 208 0 [.t 12]⟩,
 ⟨some 11, none, .mov (.t 13)⟩,
 ⟨some 14, none, .ext (.t 11) 0⟩,
 ⟨some 15, none, .ext (.t 11) 1⟩,
 ⟨some 7, none, .mov (.t 14)⟩,
 ⟨some 8, none, .mov (.t 15)⟩] [1, 2, 4, 7, 8]) (
 .seq (
 .seq (
 .reg [
 ⟨some 16, none, .mov (.t 8)⟩,
 ⟨some 17, none, .bin .neq (.t 16) (.k (.s (.int .i64 0)))⟩] [1, 2, 4, 7, 8, 17]) (
 .cond (.t 17) (
 .seq (
 .reg [
 ⟨some 18, none, .load (.t 2) 26 true⟩,
 ⟨some 19, none, .mov (.t 8)⟩,
 ⟨none, none, .store (.t 4) (.t 18) 26⟩,
 ⟨some 5, none, .mov (.k (.s (.int .u64 0)))⟩,
 ⟨some 6, none, .mov (.t 19)⟩] [4, 5, 6]) (
 .ret)) (
 .skip))) (
 .seq (
 .reg [
 ⟨some 21, none, .load (.t 2) 26 true⟩,
 ⟨some 22, none, .mov (.t 7)⟩,
 ⟨some 23, none, .mov (.t 1)⟩,
 ⟨some 24, none, .call false 153 0 [.t 21, .t 22, .t 23]⟩,
 ⟨some 20, none, .mov (.t 24)⟩,
 ⟨some 25, none, .ext (.t 20) 0⟩,
 ⟨some 26, none, .ext (.t 20) 1⟩,
 ⟨some 9, none, .alloc [.s (.int .u64 0), .s (.int .i64 0), .s (.int .i64 0), .lit .nil [], .s (.int .i64 0), .lit .nil [], .s (.int .i64 0), .s (.int .i64 0), .lit .nil [], .lit .nil [], .s (.int .u64 0), .s (.int .u64 0), .s (.int .u64 0), .s (.int .u64 0), .s (.int .i64 0), .s (.int .i64 0), .s (.bool false), .s (.int .u64 0), .s (.int .u64 0), .s (.int .u64 0), .s (.int .u64 0), .s (.int .u64 0), .s (.int .u64 0), .s (.int .u64 0), .s (.int .u64 0), .s (.int .u64 0)]⟩,
 ⟨none, none, .store (.t 9) (.t 25) 26⟩,
 ⟨some 10, none, .mov (.t 26)⟩] [2, 4, 7, 9, 10]) (
 .seq (
 .seq (
 .reg [
 ⟨some 27, none, .mov (.t 10)⟩,
 ⟨some 28, none, .bin .neq (.t 27) (.k (.s (.int .i64 0)))⟩] [2, 4, 7, 9, 10, 28]) (
 .cond (.t 28) (
 .seq (
 .reg [
 ⟨some 29, none, .load (.t 2) 26 true⟩,
 ⟨some 30, none, .mov (.t 10)⟩,
 ⟨none, none, .store (.t 4) (.t 29) 26⟩,
 ⟨some 5, none, .mov (.k (.s (.int .u64 0)))⟩,
 ⟨some 6, none, .mov (.t 30)⟩] [4, 5, 6]) (
 .ret)) (
 .skip))) (
 .seq (
 .reg [
 ⟨some 31, none, .fad (.t 9) 7⟩,
 ⟨some 32, none, .load (.t 31) 1 false⟩,
 ⟨some 33, none, .bin .add (.t 32) (.k (.s (.int .i64 1)))⟩,
 ⟨some 34, none, .fad (.t 9) 7⟩,
 ⟨none, none, .store (.t 34) (.t 33) 1⟩] [4, 7, 9]) (
 .seq (
 .reg [
 ⟨some 35, none, .load (.t 9) 26 true⟩,
 ⟨some 36, none, .mov (.t 7)⟩,
 ⟨none, none, .store (.t 4) (.t 35) 26⟩,
 ⟨some 5, none, .mov (.t 36)⟩,
 ⟨some 6, none, .mov (.k (.s (.int .i64 0)))⟩] [4, 5, 6]) (
 .ret))))))),
 [.c 4 26 true, .t 5, .t 6], none⟩

/-- bailey/baileyref13.Put -/
def F149 : FnIR := ⟨46,
 .seq (
 .reg [
 ⟨some 3, none, .bxl (.t 1)⟩,
 ⟨some 4, none, .mov (.k (.lit .nil []))⟩] [0, 3]) (
 .seq (
 .reg [
 ⟨some 9, none, .bsl true 26 true [.s (.int .u64 0), .s (.int .i64 0), .s (.int .i64 0), .lit .nil [], .s (.int .i64 0), .lit .nil [], .s (.int .i64 0), .s (.int .i64 0), .lit .nil [], .lit .nil [], .s (.int .u64 0), .s (.int .u64 0), .s (.int .u64 0), .s (.int .u64 0), .s (.int .i64 0), .s (.int .i64 0), .s (.bool false), .s (.int .u64 0), .s (.int .u64 0), .s (.int .u64 0), .s (.int .u64 0), .s (.int .u64 0), .s (.int .u64 0), .s (.int .u64 0), .s (.int .u64 0), .s (.int .u64 0)] 0 []⟩,
 ⟨some 5, none, .mov (.t 9)⟩] [0, 3, 5]) (
 .seq (
 .reg [
 ⟨some 6, none, .mov (.k (.s (.bool false)))⟩] [0, 3, 5, 6]) (
 .seq (
 .seq (
 .reg [
 ⟨some 10, none, .mov (.t 0)⟩,
 ⟨some 11, none, .len (.t 10)⟩,
 ⟨some 12, none, .mov (.k (.s (.int .i64 0)))⟩] [3, 5, 6, 10, 11, 12]) (
 .block 0 (
 .loop (
 .seq (
 .reg [
 ⟨some 13, none, .bin .lss (.t 12) (.t 11)⟩] [3, 5, 6, 10, 11, 12, 13]) (
 .seq (
 .cond (.t 13) (
 .skip) (
 .exit 0)) (
 .seq (
 .block 1 (
 .seq (
 .reg [
 ⟨some 14, none, .ixa (.t 10) (.t 12) 26 none⟩,
 ⟨some 15, none, .load (.t 14) 26 true⟩,
 ⟨some 8, none, .alloc [.s (.int .u64 0), .s (.int .i64 0), .s (.int .i64 0), .lit .nil [], .s (.int .i64 0), .lit .nil [], .s (.int .i64 0), .s (.int .i64 0), .lit .nil [], .lit .nil [], .s (.int .u64 0), .s (.int .u64 0), .s (.int .u64 0), .s (.int .u64 0), .s (.int .i64 0), .s (.int .i64 0), .s (.bool false), .s (.int .u64 0), .s (.int .u64 0), .s (.int .u64 0), .s (.int .u64 0), .s (.int .u64 0), .s (.int .u64 0), .s (.int .u64 0), .s (.int .u64 0), .s (.int .u64 0)]⟩,
 ⟨none, none, .store (.t 8) (.t 15) 26⟩] [3, 5, 6, 8, 10, 11, 12]) (
 .seq (
 .seq (
 .reg [
 ⟨some 16, none, .mov (.t 6)⟩,
 ⟨some 17, none, .un .not (.t 16)⟩,
 ⟨some 18, none, .mov (.t 17)⟩,
 ⟨some 19, some (18, true), .fad (.t 8) 0⟩,
 ⟨some 20, some (18, true), .load (.t 19) 1 false⟩,
 ⟨some 21, some (18, true), .fad (.t 3) 0⟩,
 ⟨some 22, some (18, true), .load (.t 21) 1 false⟩,
 ⟨some 23, some (18, true), .bin .geq (.t 20) (.t 22)⟩,
 ⟨some 24, none, .pick (.t 18) (.t 23) (.k (.s (.bool false)))⟩] [3, 5, 6, 8, 10, 11, 12, 24]) (
 .cond (.t 24) (
 .seq (
 .reg [
 ⟨some 25, none, .mov (.t 5)⟩,
 ⟨some 26, none, .load (.t 3) 26 true⟩,
 ⟨some 27, none, .bsl true 26 true [.s (.int .u64 0), .s (.int .i64 0), .s (.int .i64 0), .lit .nil [], .s (.int .i64 0), .lit .nil [], .s (.int .i64 0), .s (.int .i64 0), .lit .nil [], .lit .nil [], .s (.int .u64 0), .s (.int .u64 0), .s (.int .u64 0), .s (.int .u64 0), .s (.int .i64 0), .s (.int .i64 0), .s (.bool false), .s (.int .u64 0), .s (.int .u64 0), .s (.int .u64 0), .s (.int .u64 0), .s (.int .u64 0), .s (.int .u64 0), .s (.int .u64 0), .s (.int .u64 0), .s (.int .u64 0)] 1 [(0, .t 26)]⟩,
 ⟨some 28, none, .app false (.t 25) (.t 27) 26 272 true⟩,
 ⟨some 5, none, .mov (.t 28)⟩] [3, 5, 8, 10, 11, 12]) (
 .reg [
 ⟨some 6, none, .mov (.k (.s (.bool true)))⟩] [3, 5, 6, 8, 10, 11, 12])) (
 .skip))) (
 .seq (
 .reg [
 ⟨some 29, none, .fad (.t 8) 0⟩,
 ⟨some 30, none, .load (.t 29) 1 false⟩,
 ⟨some 31, none, .fad (.t 3) 0⟩,
 ⟨some 32, none, .load (.t 31) 1 false⟩,
 ⟨some 33, none, .bin .neq (.t 30) (.t 32)⟩] [3, 5, 6, 8, 10, 11, 12, 33]) (
 .cond (.t 33) (
 .reg [
 ⟨some 34, none, .mov (.t 5)⟩,
 ⟨some 35, none, .load (.t 8) 26 true⟩,
 ⟨some 36, none, .bsl true 26 true [.s (.int .u64 0), .s (.int .i64 0), .s (.int .i64 0), .lit .nil [], .s (.int .i64 0), .lit .nil [], .s (.int .i64 0), .s (.int .i64 0), .lit .nil [], .lit .nil [], .s (.int .u64 0), .s (.int .u64 0), .s (.int .u64 0), .s (.int .u64 0), .s (.int .i64 0), .s (.int .i64 0), .s (.bool false), .s (.int .u64 0), .s (.int .u64 0), .s (.int .u64 0), .s (.int .u64 0), .s (.int .u64 0), .s (.int .u64 0), .s (.int .u64 0), .s (.int .u64 0), .s (.int .u64 0)] 1 [(0, .t 35)]⟩,
 ⟨some 37, none, .app false (.t 34) (.t 36) 26 272 true⟩,
 ⟨some 5, none, .mov (.t 37)⟩] [3, 5, 6, 10, 11, 12]) (
 .skip)))))) (
 .reg [
 ⟨some 38, none, .bin .add (.t 12) (.k (.s (.int .i64 1)))⟩,
 ⟨some 12, none, .mov (.t 38)⟩] [3, 5, 6, 10, 11, 12]))))))) (
 .seq (
 .seq (
 .reg [
 ⟨some 39, none, .mov (.t 6)⟩,
 ⟨some 40, none, .un .not (.t 39)⟩] [3, 5, 40]) (
 .cond (.t 40) (
 .reg [
 ⟨some 41, none, .mov (.t 5)⟩,
 ⟨some 42, none, .load (.t 3) 26 true⟩,
 ⟨some 43, none, .bsl true 26 true [.s (.int .u64 0), .s (.int .i64 0), .s (.int .i64 0), .lit .nil [], .s (.int .i64 0), .lit .nil [], .s (.int .i64 0), .s (.int .i64 0), .lit .nil [], .lit .nil [], .s (.int .u64 0), .s (.int .u64 0), .s (.int .u64 0), .s (.int .u64 0), .s (.int .i64 0), .s (.int .i64 0), .s (.bool false), .s (.int .u64 0), .s (.int .u64 0), .s (.int .u64 0), .s (.int .u64 0), .s (.int .u64 0), .s (.int .u64 0), .s (.int .u64 0), .s (.int .u64 0), .s (.int .u64 0)] 1 [(0, .t 42)]⟩,
 ⟨some 44, none, .app false (.t 41) (.t 43) 26 272 true⟩,
 ⟨some 5, none, .mov (.t 44)⟩] [5]) (
 .skip))) (
 .seq (
 .reg [
 ⟨some 45, none, .mov (.t 5)⟩,
 ⟨some 4, none, .mov (.t 45)⟩] [4]) (
 .ret)))))),
 [.t 4], none⟩

/-- bailey/baileyref10.Reads -/
def F150 : FnIR := ⟨9,
 .seq (
 .reg [
 ⟨some 2, none, .bxl (.t 0)⟩,
 ⟨some 3, none, .bxl (.t 1)⟩,
 ⟨some 4, none, .mov (.k (.s (.bool false)))⟩] [2, 3]) (
 .seq (
 .drw [
 ⟨some 5, none, .load (.t 3) 2 true⟩,
 ⟨some 6, none, .load (.t 2) 2 true⟩,
 ⟨some 7, none, .call false 209 0 [.t 6]⟩,
 ⟨some 8, none, .call false 207 0 [.t 5, .t 7]⟩,
 ⟨some 4, none, .mov (.t 8)⟩] [3] [] [4]) (
 .ret)),
 [.t 4], none⟩

/-- bailey/baileyref20.inside -/
def F151 : FnIR := ⟨29,
 .seq (
 .reg [
 ⟨some 3, none, .bxl (.t 0)⟩,
 ⟨some 6, none, .mov (.k (.s (.bool false)))⟩] [1, 2, 3]) (
 .seq (
 .reg [
 ⟨some 7, none, .mov (.t 1)⟩,
 ⟨some 8, none, .bin .geq (.t 7) (.k (.s (.int .i64 0)))⟩,
 ⟨some 9, none, .mov (.t 8)⟩,
 ⟨some 10, some (9, true), .mov (.t 2)⟩,
 ⟨some 11, some (9, true), .bin .geq (.t 10) (.k (.s (.int .i64 0)))⟩,
 ⟨some 12, none, .pick (.t 9) (.t 11) (.k (.s (.bool false)))⟩,
 ⟨some 13, none, .mov (.t 12)⟩,
 ⟨some 14, some (13, true), .mov (.t 1)⟩,
 ⟨some 15, some (13, true), .fad (.t 3) 9⟩,
 ⟨some 16, some (13, true), .load (.t 15) 1 false⟩,
 ⟨some 17, some (13, true), .len (.t 16)⟩,
 ⟨some 18, some (13, true), .bin .leq (.t 14) (.t 17)⟩,
 ⟨some 19, none, .pick (.t 13) (.t 18) (.k (.s (.bool false)))⟩,
 ⟨some 20, none, .mov (.t 19)⟩,
 ⟨some 21, some (20, true), .mov (.t 2)⟩,
 ⟨some 22, some (20, true), .fad (.t 3) 9⟩,
 ⟨some 23, some (20, true), .load (.t 22) 1 false⟩,
 ⟨some 24, some (20, true), .len (.t 23)⟩,
 ⟨some 25, some (20, true), .mov (.t 1)⟩,
 ⟨some 26, some (20, true), .bin .sub (.t 24) (.t 25)⟩,
 ⟨some 27, some (20, true), .bin .leq (.t 21) (.t 26)⟩,
 ⟨some 28, none, .pick (.t 20) (.t 27) (.k (.s (.bool false)))⟩,
 ⟨some 6, none, .mov (.t 28)⟩] [6]) (
 .ret)),
 [.t 6], none⟩

/-- bailey/baileyref13.Unlink -/
def F152 : FnIR := ⟨100,
 .seq (
 .reg [
 ⟨some 6, none, .mov (.k (.lit .nil []))⟩,
 ⟨some 7, none, .mov (.k (.lit .nil []))⟩,
 ⟨some 8, none, .mov (.k (.s (.int .i64 0)))⟩] [0, 1, 2]) (
 .seq (
 .reg [
 ⟨some 22, none, .mov (.t 0)⟩,
 ⟨some 23, none, .mov (.t 1)⟩,
 ⟨some 24, none, .call false 25 0 [.t 22, .t 23]⟩,
 ⟨some 21, none, .mov (.t 24)⟩,
 ⟨some 25, none, .ext (.t 21) 0⟩,
 ⟨some 26, none, .ext (.t 21) 1⟩,
 ⟨some 9, none, .alloc [.s (.int .u64 0), .s (.int .i64 0), .s (.int .i64 0), .lit .nil [], .s (.int .i64 0), .lit .nil [], .s (.int .i64 0), .s (.int .i64 0), .lit .nil [], .lit .nil [], .s (.int .u64 0), .s (.int .u64 0), .s (.int .u64 0), .s (.int .u64 0), .s (.int .i64 0), .s (.int .i64 0), .s (.bool false), .s (.int .u64 0), .s (.int .u64 0), .s (.int .u64 0), .s (.int .u64 0), .s (.int .u64 0), .s (.int .u64 0), .s (.int .u64 0), .s (.int .u64 0), .s (.int .u64 0)]⟩,
 ⟨none, none, .store (.t 9) (.t 25) 26⟩,
 ⟨some 10, none, .mov (.t 26)⟩] [0, 2, 9, 10]) (
 .seq (
 .seq (
 .reg [
 ⟨some 27, none, .mov (.t 10)⟩,
 ⟨some 28, none, .un .not (.t 27)⟩,
 ⟨some 29, none, .mov (.t 28)⟩,
 ⟨some 30, some (29, false), .fad (.t 9) 1⟩,
 ⟨some 31, some (29, false), .load (.t 30) 1 false⟩,
 ⟨some 32, some (29, false), .bin .neq (.t 31) (.k (.s (.int .i64 1)))⟩,
 ⟨some 33, none, .pick (.t 29) (.k (.s (.bool true))) (.t 32)⟩] [0, 2, 9, 33]) (
 .cond (.t 33) (
 .seq (
 .reg [
 ⟨some 34, none, .mov (.t 0)⟩,
 ⟨some 6, none, .mov (.t 34)⟩,
 ⟨some 7, none, .mov (.k (.lit .nil []))⟩,
 ⟨some 8, none, .mov (.k (.s (.int .i64 131)))⟩] [6, 7, 8]) (
 .ret)) (
 .skip))) (
 .seq (
 .reg [
 ⟨some 36, none, .load (.t 9) 26 true⟩,
 ⟨some 37, none, .mov (.t 2)⟩,
 ⟨some 38, none, .call false 210 0 [.t 36, .t 37]⟩,
 ⟨some 35, none, .mov (.t 38)⟩,
 ⟨some 39, none, .ext (.t 35) 0⟩,
 ⟨some 40, none, .ext (.t 35) 1⟩,
 ⟨none, none, .store (.t 9) (.t 39) 26⟩,
 ⟨some 11, none, .mov (.t 40)⟩] [0, 9, 11]) (
 .seq (
 .seq (
 .reg [
 ⟨some 41, none, .mov (.t 11)⟩,
 ⟨some 42, none, .bin .neq (.t 41) (.k (.s (.int .i64 0)))⟩] [0, 9, 11, 42]) (
 .cond (.t 42) (
 .seq (
 .reg [
 ⟨some 43, none, .mov (.t 0)⟩,
 ⟨some 44, none, .mov (.t 11)⟩,
 ⟨some 6, none, .mov (.t 43)⟩,
 ⟨some 7, none, .mov (.k (.lit .nil []))⟩,
 ⟨some 8, none, .mov (.t 44)⟩] [6, 7, 8]) (
 .ret)) (
 .skip))) (
 .seq (
 .reg [
 ⟨some 45, none, .mov (.t 0)⟩,
 ⟨some 46, none, .load (.t 9) 26 true⟩,
 ⟨some 47, none, .call false 149 0 [.t 45, .t 46]⟩,
 ⟨some 12, none, .mov (.t 47)⟩] [0, 12]) (
 .seq (
 .block 0 (
 .loop (
 .block 1 (
 .seq (
 .reg [
 ⟨some 48, none, .bsl true 26 true [.s (.int .u64 0), .s (.int .i64 0), .s (.int .i64 0), .lit .nil [], .s (.int .i64 0), .lit .nil [], .s (.int .i64 0), .s (.int .i64 0), .lit .nil [], .lit .nil [], .s (.int .u64 0), .s (.int .u64 0), .s (.int .u64 0), .s (.int .u64 0), .s (.int .i64 0), .s (.int .i64 0), .s (.bool false), .s (.int .u64 0), .s (.int .u64 0), .s (.int .u64 0), .s (.int .u64 0), .s (.int .u64 0), .s (.int .u64 0), .s (.int .u64 0), .s (.int .u64 0), .s (.int .u64 0)] 0 []⟩,
 ⟨some 13, none, .mov (.t 48)⟩] [0, 12, 13]) (
 .seq (
 .seq (
 .reg [
 ⟨some 49, none, .mov (.t 12)⟩,
 ⟨some 50, none, .len (.t 49)⟩,
 ⟨some 51, none, .mov (.k (.s (.int .i64 0)))⟩] [0, 12, 13, 49, 50, 51]) (
 .block 2 (
 .loop (
 .seq (
 .reg [
 ⟨some 52, none, .bin .lss (.t 51) (.t 50)⟩] [0, 12, 13, 49, 50, 51, 52]) (
 .seq (
 .cond (.t 52) (
 .skip) (
 .exit 2)) (
 .seq (
 .block 3 (
 .seq (
 .reg [
 ⟨some 53, none, .mov (.t 51)⟩,
 ⟨some 54, none, .ixa (.t 49) (.t 51) 26 none⟩,
 ⟨some 55, none, .load (.t 54) 26 true⟩,
 ⟨some 15, none, .alloc [.s (.int .u64 0), .s (.int .i64 0), .s (.int .i64 0), .lit .nil [], .s (.int .i64 0), .lit .nil [], .s (.int .i64 0), .s (.int .i64 0), .lit .nil [], .lit .nil [], .s (.int .u64 0), .s (.int .u64 0), .s (.int .u64 0), .s (.int .u64 0), .s (.int .i64 0), .s (.int .i64 0), .s (.bool false), .s (.int .u64 0), .s (.int .u64 0), .s (.int .u64 0), .s (.int .u64 0), .s (.int .u64 0), .s (.int .u64 0), .s (.int .u64 0), .s (.int .u64 0), .s (.int .u64 0)]⟩,
 ⟨some 14, none, .mov (.t 53)⟩,
 ⟨none, none, .store (.t 15) (.t 55) 26⟩] [0, 12, 13, 14, 15, 49, 50, 51]) (
 .seq (
 .reg [
 ⟨some 56, none, .mov (.t 14)⟩,
 ⟨some 57, none, .bin .eql (.t 56) (.k (.s (.int .i64 0)))⟩,
 ⟨some 58, none, .mov (.t 57)⟩,
 ⟨some 59, some (58, false), .mov (.t 12)⟩,
 ⟨some 60, some (58, false), .fad (.t 15) 0⟩,
 ⟨some 61, some (58, false), .load (.t 60) 1 false⟩,
 ⟨some 62, some (58, false), .call false 53 0 [.t 59, .t 61]⟩,
 ⟨some 63, some (58, false), .bin .gtr (.t 62) (.k (.s (.int .i64 0)))⟩,
 ⟨some 64, none, .pick (.t 58) (.k (.s (.bool true))) (.t 63)⟩] [0, 12, 13, 15, 49, 50, 51, 64]) (
 .cond (.t 64) (
 .reg [
 ⟨some 65, none, .mov (.t 13)⟩,
 ⟨some 66, none, .load (.t 15) 26 true⟩,
 ⟨some 67, none, .bsl true 26 true [.s (.int .u64 0), .s (.int .i64 0), .s (.int .i64 0), .lit .nil [], .s (.int .i64 0), .lit .nil [], .s (.int .i64 0), .s (.int .i64 0), .lit .nil [], .lit .nil [], .s (.int .u64 0), .s (.int .u64 0), .s (.int .u64 0), .s (.int .u64 0), .s (.int .i64 0), .s (.int .i64 0), .s (.bool false), .s (.int .u64 0), .s (.int .u64 0), .s (.int .u64 0), .s (.int .u64 0), .s (.int .u64 0), .s (.int .u64 0), .s (.int .u64 0), .s (.int .u64 0), .s (.int .u64 0)] 1 [(0, .t 66)]⟩,
 ⟨some 68, none, .app false (.t 65) (.t 67) 26 272 true⟩,
 ⟨some 13, none, .mov (.t 68)⟩] [0, 12, 13, 49, 50, 51]) (
 .skip))))) (
 .reg [
 ⟨some 69, none, .bin .add (.t 51) (.k (.s (.int .i64 1)))⟩,
 ⟨some 51, none, .mov (.t 69)⟩] [0, 12, 13, 49, 50, 51]))))))) (
 .seq (
 .seq (
 .reg [
 ⟨some 70, none, .mov (.t 13)⟩,
 ⟨some 71, none, .len (.t 70)⟩,
 ⟨some 72, none, .mov (.t 12)⟩,
 ⟨some 73, none, .len (.t 72)⟩,
 ⟨some 74, none, .bin .eql (.t 71) (.t 73)⟩] [0, 12, 13, 74]) (
 .cond (.t 74) (
 .exit 0) (
 .skip))) (
 .reg [
 ⟨some 75, none, .mov (.t 13)⟩,
 ⟨some 12, none, .mov (.t 75)⟩] [0, 12]))))))) (
 .seq (
 .reg [
 ⟨some 76, none, .bsl true 1 false [.s (.int .u64 0)] 0 []⟩,
 ⟨some 16, none, .mov (.t 76)⟩] [0, 12, 16]) (
 .seq (
 .seq (
 .reg [
 ⟨some 77, none, .mov (.t 0)⟩,
 ⟨some 78, none, .len (.t 77)⟩,
 ⟨some 79, none, .mov (.k (.s (.int .i64 0)))⟩] [12, 16, 77, 78, 79]) (
 .block 4 (
 .loop (
 .seq (
 .reg [
 ⟨some 80, none, .bin .lss (.t 79) (.t 78)⟩] [12, 16, 77, 78, 79, 80]) (
 .seq (
 .cond (.t 80) (
 .skip) (
 .exit 4)) (
 .seq (
 .block 5 (
 .seq (
 .reg [
 ⟨some 81, none, .ixa (.t 77) (.t 79) 26 none⟩,
 ⟨some 82, none, .load (.t 81) 26 true⟩,
 ⟨some 18, none, .alloc [.s (.int .u64 0), .s (.int .i64 0), .s (.int .i64 0), .lit .nil [], .s (.int .i64 0), .lit .nil [], .s (.int .i64 0), .s (.int .i64 0), .lit .nil [], .lit .nil [], .s (.int .u64 0), .s (.int .u64 0), .s (.int .u64 0), .s (.int .u64 0), .s (.int .i64 0), .s (.int .i64 0), .s (.bool false), .s (.int .u64 0), .s (.int .u64 0), .s (.int .u64 0), .s (.int .u64 0), .s (.int .u64 0), .s (.int .u64 0), .s (.int .u64 0), .s (.int .u64 0), .s (.int .u64 0)]⟩,
 ⟨none, none, .store (.t 18) (.t 82) 26⟩] [12, 16, 18, 77, 78, 79]) (
 .seq (
 .reg [
 ⟨some 84, none, .mov (.t 12)⟩,
 ⟨some 85, none, .fad (.t 18) 0⟩,
 ⟨some 86, none, .load (.t 85) 1 false⟩,
 ⟨some 87, none, .call false 25 0 [.t 84, .t 86]⟩,
 ⟨some 83, none, .mov (.t 87)⟩,
 ⟨some 88, none, .ext (.t 83) 0⟩,
 ⟨some 89, none, .ext (.t 83) 1⟩,
 ⟨some 19, none, .alloc [.s (.int .u64 0), .s (.int .i64 0), .s (.int .i64 0), .lit .nil [], .s (.int .i64 0), .lit .nil [], .s (.int .i64 0), .s (.int .i64 0), .lit .nil [], .lit .nil [], .s (.int .u64 0), .s (.int .u64 0), .s (.int .u64 0), .s (.int .u64 0), .s (.int .i64 0), .s (.int .i64 0), .s (.bool false), .s (.int .u64 0), .s (.int .u64 0), .s (.int .u64 0), .s (.int .u64 0), .s (.int .u64 0), .s (.int .u64 0), .s (.int .u64 0), .s (.int .u64 0), .s (.int .u64 0)]⟩,
 ⟨none, none, .store (.t 19) (.t 88) 26⟩,
 ⟨some 20, none, .mov (.t 89)⟩] [12, 16, 18, 20, 77, 78, 79]) (
 .seq (
 .reg [
 ⟨some 90, none, .mov (.t 20)⟩,
 ⟨some 91, none, .un .not (.t 90)⟩] [12, 16, 18, 77, 78, 79, 91]) (
 .cond (.t 91) (
 .reg [
 ⟨some 92, none, .mov (.t 16)⟩,
 ⟨some 93, none, .fad (.t 18) 0⟩,
 ⟨some 94, none, .load (.t 93) 1 false⟩,
 ⟨some 95, none, .bsl true 1 false [.s (.int .u64 0)] 1 [(0, .t 94)]⟩,
 ⟨some 96, none, .app false (.t 92) (.t 95) 1 8 false⟩,
 ⟨some 16, none, .mov (.t 96)⟩] [12, 16, 77, 78, 79]) (
 .skip)))))) (
 .reg [
 ⟨some 97, none, .bin .add (.t 79) (.k (.s (.int .i64 1)))⟩,
 ⟨some 79, none, .mov (.t 97)⟩] [12, 16, 77, 78, 79]))))))) (
 .seq (
 .reg [
 ⟨some 98, none, .mov (.t 12)⟩,
 ⟨some 99, none, .mov (.t 16)⟩,
 ⟨some 6, none, .mov (.t 98)⟩,
 ⟨some 7, none, .mov (.t 99)⟩,
 ⟨some 8, none, .mov (.k (.s (.int .i64 0)))⟩] [6, 7, 8]) (
 .ret)))))))))),
 [.t 6, .t 7, .t 8], none⟩

/-- bailey/baileyref12.Add -/
def F153 : FnIR := ⟨71,
 .seq (
 .reg [
 ⟨some 3, none, .box (.t 0)⟩,
 ⟨some 6, none, .alloc [.s (.int .u64 0), .s (.int .i64 0), .s (.int .i64 0), .lit .nil [], .s (.int .i64 0), .lit .nil [], .s (.int .i64 0), .s (.int .i64 0), .lit .nil [], .lit .nil [], .s (.int .u64 0), .s (.int .u64 0), .s (.int .u64 0), .s (.int .u64 0), .s (.int .i64 0), .s (.int .i64 0), .s (.bool false), .s (.int .u64 0), .s (.int .u64 0), .s (.int .u64 0), .s (.int .u64 0), .s (.int .u64 0), .s (.int .u64 0), .s (.int .u64 0), .s (.int .u64 0), .s (.int .u64 0)]⟩,
 ⟨some 7, none, .mov (.k (.s (.int .i64 0)))⟩] [1, 2, 3, 6]) (
 .seq (
 .seq (
 .reg [
 ⟨some 12, none, .load (.t 3) 26 true⟩,
 ⟨some 13, none, .mov (.t 1)⟩,
 ⟨some 14, none, .call false 44 0 [.t 12, .t 13]⟩] [1, 2, 3, 6, 14]) (
 .cond (.t 14) (
 .seq (
 .reg [
 ⟨some 15, none, .load (.t 3) 26 true⟩,
 ⟨none, none, .store (.t 6) (.t 15) 26⟩,
 ⟨some 7, none, .mov (.k (.s (.int .i64 123)))⟩] [6, 7]) (
 .ret)) (
 .skip))) (
 .seq (
 .seq (
 .reg [
 ⟨some 16, none, .fad (.t 3) 8⟩,
 ⟨some 17, none, .load (.t 16) 1 false⟩,
 ⟨some 18, none, .len (.t 17)⟩,
 ⟨some 19, none, .bin .geq (.t 18) (.k (.s (.int .i64 16)))⟩] [1, 2, 3, 6, 19]) (
 .cond (.t 19) (
 .seq (
 .reg [
 ⟨some 20, none, .load (.t 3) 26 true⟩,
 ⟨none, none, .store (.t 6) (.t 20) 26⟩,
 ⟨some 7, none, .mov (.k (.s (.int .i64 122)))⟩] [6, 7]) (
 .ret)) (
 .skip))) (
 .seq (
 .seq (
 .drw [
 ⟨some 21, none, .mov (.t 2)⟩,
 ⟨some 22, none, .bin .lss (.t 21) (.k (.s (.int .i64 1)))⟩,
 ⟨some 23, none, .mov (.t 22)⟩,
 ⟨some 24, some (23, false), .mov (.t 2)⟩,
 ⟨some 25, some (23, false), .fad (.t 3) 6⟩,
 ⟨some 26, some (23, false), .load (.t 25) 1 false⟩,
 ⟨some 27, some (23, false), .load (.t 3) 26 true⟩,
 ⟨some 28, some (23, false), .call false 211 0 [.t 27]⟩,
 ⟨some 29, some (23, false), .bin .sub (.t 26) (.t 28)⟩,
 ⟨some 30, some (23, false), .bin .gtr (.t 24) (.t 29)⟩,
 ⟨some 31, none, .pick (.t 23) (.k (.s (.bool true))) (.t 30)⟩] [] [] [1, 2, 3, 6, 31]) (
 .cond (.t 31) (
 .seq (
 .reg [
 ⟨some 32, none, .load (.t 3) 26 true⟩,
 ⟨none, none, .store (.t 6) (.t 32) 26⟩,
 ⟨some 7, none, .mov (.k (.s (.int .i64 121)))⟩] [6, 7]) (
 .ret)) (
 .skip))) (
 .seq (
 .reg [
 ⟨some 33, none, .bsl true 2 true [.s (.int .u64 0), .s (.int .i64 0)] 0 []⟩,
 ⟨some 8, none, .mov (.t 33)⟩] [1, 2, 3, 6, 8]) (
 .seq (
 .reg [
 ⟨some 9, none, .mov (.k (.s (.bool false)))⟩] [1, 2, 3, 6, 8, 9]) (
 .seq (
 .seq (
 .reg [
 ⟨some 34, none, .fad (.t 3) 8⟩,
 ⟨some 35, none, .load (.t 34) 1 false⟩,
 ⟨some 36, none, .len (.t 35)⟩,
 ⟨some 37, none, .mov (.k (.s (.int .i64 0)))⟩] [1, 2, 3, 6, 8, 9, 35, 36, 37]) (
 .block 0 (
 .loop (
 .seq (
 .reg [
 ⟨some 38, none, .bin .lss (.t 37) (.t 36)⟩] [1, 2, 3, 6, 8, 9, 35, 36, 37, 38]) (
 .seq (
 .cond (.t 38) (
 .skip) (
 .exit 0)) (
 .seq (
 .block 1 (
 .seq (
 .reg [
 ⟨some 39, none, .ixa (.t 35) (.t 37) 2 none⟩,
 ⟨some 40, none, .load (.t 39) 2 true⟩,
 ⟨some 11, none, .alloc [.s (.int .u64 0), .s (.int .i64 0)]⟩,
 ⟨none, none, .store (.t 11) (.t 40) 2⟩] [1, 2, 3, 6, 8, 9, 11, 35, 36, 37]) (
 .seq (
 .seq (
 .reg [
 ⟨some 41, none, .mov (.t 9)⟩,
 ⟨some 42, none, .un .not (.t 41)⟩,
 ⟨some 43, none, .mov (.t 42)⟩,
 ⟨some 44, some (43, true), .fad (.t 11) 0⟩,
 ⟨some 45, some (43, true), .load (.t 44) 1 false⟩,
 ⟨some 46, some (43, true), .mov (.t 1)⟩,
 ⟨some 47, some (43, true), .bin .gtr (.t 45) (.t 46)⟩,
 ⟨some 48, none, .pick (.t 43) (.t 47) (.k (.s (.bool false)))⟩] [1, 2, 3, 6, 8, 9, 11, 35, 36, 37, 48]) (
 .cond (.t 48) (
 .seq (
 .reg [
 ⟨some 49, none, .mov (.t 8)⟩,
 ⟨some 50, none, .mov (.t 1)⟩,
 ⟨some 51, none, .mov (.t 2)⟩,
 ⟨some 52, none, .build [.s (.int .u64 0), .s (.int .i64 0)] [(0, 1, .t 50), (1, 1, .t 51)]⟩,
 ⟨some 53, none, .bsl true 2 true [.s (.int .u64 0), .s (.int .i64 0)] 1 [(0, .t 52)]⟩,
 ⟨some 54, none, .app false (.t 49) (.t 53) 2 16 true⟩,
 ⟨some 8, none, .mov (.t 54)⟩] [1, 2, 3, 6, 8, 11, 35, 36, 37]) (
 .reg [
 ⟨some 9, none, .mov (.k (.s (.bool true)))⟩] [1, 2, 3, 6, 8, 9, 11, 35, 36, 37])) (
 .skip))) (
 .reg [
 ⟨some 55, none, .mov (.t 8)⟩,
 ⟨some 56, none, .load (.t 11) 2 true⟩,
 ⟨some 57, none, .bsl true 2 true [.s (.int .u64 0), .s (.int .i64 0)] 1 [(0, .t 56)]⟩,
 ⟨some 58, none, .app false (.t 55) (.t 57) 2 16 true⟩,
 ⟨some 8, none, .mov (.t 58)⟩] [1, 2, 3, 6, 8, 9, 35, 36, 37])))) (
 .reg [
 ⟨some 59, none, .bin .add (.t 37) (.k (.s (.int .i64 1)))⟩,
 ⟨some 37, none, .mov (.t 59)⟩] [1, 2, 3, 6, 8, 9, 35, 36, 37]))))))) (
 .seq (
 .seq (
 .reg [
 ⟨some 60, none, .mov (.t 9)⟩,
 ⟨some 61, none, .un .not (.t 60)⟩] [1, 2, 3, 6, 8, 61]) (
 .cond (.t 61) (
 .reg [
 ⟨some 62, none, .mov (.t 8)⟩,
 ⟨some 63, none, .mov (.t 1)⟩,
 ⟨some 64, none, .mov (.t 2)⟩,
 ⟨some 65, none, .build [.s (.int .u64 0), .s (.int .i64 0)] [(0, 1, .t 63), (1, 1, .t 64)]⟩,
 ⟨some 66, none, .bsl true 2 true [.s (.int .u64 0), .s (.int .i64 0)] 1 [(0, .t 65)]⟩,
 ⟨some 67, none, .app false (.t 62) (.t 66) 2 16 true⟩,
 ⟨some 8, none, .mov (.t 67)⟩] [3, 6, 8]) (
 .skip))) (
 .seq (
 .reg [
 ⟨some 68, none, .mov (.t 8)⟩,
 ⟨some 69, none, .fad (.t 3) 8⟩,
 ⟨none, none, .store (.t 69) (.t 68) 1⟩] [3, 6]) (
 .seq (
 .reg [
 ⟨some 70, none, .load (.t 3) 26 true⟩,
 ⟨none, none, .store (.t 6) (.t 70) 26⟩,
 ⟨some 7, none, .mov (.k (.s (.int .i64 0)))⟩] [6, 7]) (
 .ret)))))))))),
 [.c 6 26 true, .t 7], none⟩

/-- bailey/baileyref10.Taints -/
def F154 : FnIR := ⟨19,
 .seq (
 .reg [
 ⟨some 3, none, .bxl (.t 0)⟩,
 ⟨some 4, none, .bxl (.t 1)⟩,
 ⟨some 5, none, .bxl (.t 2)⟩,
 ⟨some 6, none, .mov (.k (.s (.bool false)))⟩] [3, 4, 5]) (
 .seq (
 .reg [
 ⟨some 7, none, .load (.t 5) 2 true⟩,
 ⟨some 8, none, .call false 64 0 [.t 7]⟩,
 ⟨some 9, none, .mov (.t 8)⟩,
 ⟨some 10, some (9, true), .load (.t 3) 2 true⟩,
 ⟨some 11, some (9, true), .load (.t 5) 2 true⟩,
 ⟨some 12, some (9, true), .call false 207 0 [.t 10, .t 11]⟩,
 ⟨some 13, none, .pick (.t 9) (.t 12) (.k (.s (.bool false)))⟩,
 ⟨some 14, none, .mov (.t 13)⟩,
 ⟨some 15, some (14, true), .load (.t 5) 2 true⟩,
 ⟨some 16, some (14, true), .load (.t 4) 2 true⟩,
 ⟨some 17, some (14, true), .call false 207 0 [.t 15, .t 16]⟩,
 ⟨some 18, none, .pick (.t 14) (.t 17) (.k (.s (.bool false)))⟩,
 ⟨some 6, none, .mov (.t 18)⟩] [6]) (
 .ret)),
 [.t 6], none⟩

/-- bailey/baileyref10.Clears -/
def F155 : FnIR := ⟨26,
 .seq (
 .reg [
 ⟨some 3, none, .bxl (.t 0)⟩,
 ⟨some 4, none, .bxl (.t 1)⟩,
 ⟨some 5, none, .bxl (.t 2)⟩,
 ⟨some 6, none, .mov (.k (.s (.bool false)))⟩] [3, 4, 5]) (
 .seq (
 .drw [
 ⟨some 7, none, .load (.t 5) 2 true⟩,
 ⟨some 8, none, .call false 64 0 [.t 7]⟩,
 ⟨some 9, none, .mov (.t 8)⟩,
 ⟨some 10, some (9, true), .load (.t 5) 2 true⟩,
 ⟨some 11, some (9, true), .call false 65 0 [.t 10]⟩,
 ⟨some 12, none, .pick (.t 9) (.t 11) (.k (.s (.bool false)))⟩,
 ⟨some 13, none, .mov (.t 12)⟩,
 ⟨some 14, some (13, true), .load (.t 3) 2 true⟩,
 ⟨some 15, some (13, true), .load (.t 5) 2 true⟩,
 ⟨some 16, some (13, true), .call false 207 0 [.t 14, .t 15]⟩,
 ⟨some 17, none, .pick (.t 13) (.t 16) (.k (.s (.bool false)))⟩,
 ⟨some 18, none, .mov (.t 17)⟩,
 ⟨some 19, some (18, true), .load (.t 5) 2 true⟩,
 ⟨some 20, some (18, true), .load (.t 4) 2 true⟩,
 ⟨some 21, some (18, true), .load (.t 3) 2 true⟩,
 ⟨some 22, some (18, true), .call false 209 0 [.t 21]⟩,
 ⟨some 23, some (18, true), .call false 212 0 [.t 20, .t 22, .k (.s (.bool true))]⟩,
 ⟨some 24, some (18, true), .call false 207 0 [.t 19, .t 23]⟩,
 ⟨some 25, none, .pick (.t 18) (.t 24) (.k (.s (.bool false)))⟩,
 ⟨some 6, none, .mov (.t 25)⟩] [1, 4, 9, 17] [] [6]) (
 .ret)),
 [.t 6], none⟩

/-- bailey/baileyref18.Through -/
def F156 : FnIR := ⟨32,
 .seq (
 .reg [
 ⟨some 4, none, .box (.t 0)⟩,
 ⟨some 5, none, .bxl (.t 1)⟩,
 ⟨some 6, none, .bxl (.t 2)⟩,
 ⟨some 7, none, .bxl (.t 3)⟩,
 ⟨some 8, none, .alloc [.s (.int .u64 0), .s (.int .i64 0), .s (.int .i64 0), .lit .nil [], .s (.int .i64 0), .lit .nil [], .s (.int .i64 0), .s (.int .i64 0), .lit .nil [], .lit .nil [], .s (.int .u64 0), .s (.int .u64 0), .s (.int .u64 0), .s (.int .u64 0), .s (.int .i64 0), .s (.int .i64 0), .s (.bool false), .s (.int .u64 0), .s (.int .u64 0), .s (.int .u64 0), .s (.int .u64 0), .s (.int .u64 0), .s (.int .u64 0), .s (.int .u64 0), .s (.int .u64 0), .s (.int .u64 0)]⟩,
 ⟨some 9, none, .mov (.k (.s (.int .i64 0)))⟩] [4, 5, 6, 7, 8]) (
 .seq (
 .seq (
 .reg [
 ⟨some 10, none, .fad (.t 4) 2⟩,
 ⟨some 11, none, .load (.t 10) 2 true⟩,
 ⟨some 12, none, .fad (.t 4) 4⟩,
 ⟨some 13, none, .load (.t 12) 2 true⟩,
 ⟨some 14, none, .fad (.t 5) 2⟩,
 ⟨some 15, none, .load (.t 14) 2 true⟩,
 ⟨some 16, none, .fad (.t 5) 4⟩,
 ⟨some 17, none, .load (.t 16) 2 true⟩,
 ⟨some 18, none, .load (.t 6) 2 true⟩,
 ⟨some 19, none, .load (.t 7) 2 true⟩,
 ⟨some 20, none, .call false 213 0 [.t 11, .t 13, .t 15, .t 17, .t 18, .t 19]⟩,
 ⟨some 21, none, .un .not (.t 20)⟩] [4, 5, 6, 7, 8, 21]) (
 .cond (.t 21) (
 .seq (
 .reg [
 ⟨some 22, none, .load (.t 4) 26 true⟩,
 ⟨none, none, .store (.t 8) (.t 22) 26⟩,
 ⟨some 9, none, .mov (.k (.s (.int .i64 181)))⟩] [8, 9]) (
 .ret)) (
 .skip))) (
 .seq (
 .reg [
 ⟨some 23, none, .load (.t 6) 2 true⟩,
 ⟨some 24, none, .fad (.t 4) 2⟩,
 ⟨none, none, .store (.t 24) (.t 23) 2⟩] [4, 5, 7, 8]) (
 .seq (
 .reg [
 ⟨some 25, none, .load (.t 7) 2 true⟩,
 ⟨some 26, none, .fad (.t 4) 4⟩,
 ⟨none, none, .store (.t 26) (.t 25) 2⟩] [4, 5, 8]) (
 .seq (
 .reg [
 ⟨some 27, none, .fad (.t 5) 17⟩,
 ⟨some 28, none, .load (.t 27) 1 false⟩,
 ⟨some 29, none, .fad (.t 4) 10⟩,
 ⟨some 30, none, .ixa (.t 29) (.k (.s (.int .i64 0))) 1 (some 4)⟩,
 ⟨none, none, .store (.t 30) (.t 28) 1⟩] [4, 8]) (
 .seq (
 .reg [
 ⟨some 31, none, .load (.t 4) 26 true⟩,
 ⟨none, none, .store (.t 8) (.t 31) 26⟩,
 ⟨some 9, none, .mov (.k (.s (.int .i64 0)))⟩] [8, 9]) (
 .ret)))))),
 [.c 8 26 true, .t 9], none⟩

/-- bailey/baileyref18.Mint -/
def F157 : FnIR := ⟨59,
 .seq (
 .reg [
 ⟨some 2, none, .box (.t 0)⟩,
 ⟨some 4, none, .alloc [.s (.int .u64 0), .s (.int .i64 0), .s (.int .i64 0), .lit .nil [], .s (.int .i64 0), .lit .nil [], .s (.int .i64 0), .s (.int .i64 0), .lit .nil [], .lit .nil [], .s (.int .u64 0), .s (.int .u64 0), .s (.int .u64 0), .s (.int .u64 0), .s (.int .i64 0), .s (.int .i64 0), .s (.bool false), .s (.int .u64 0), .s (.int .u64 0), .s (.int .u64 0), .s (.int .u64 0), .s (.int .u64 0), .s (.int .u64 0), .s (.int .u64 0), .s (.int .u64 0), .s (.int .u64 0)]⟩,
 ⟨some 5, none, .mov (.k (.s (.int .u64 0)))⟩,
 ⟨some 6, none, .mov (.k (.s (.int .i64 0)))⟩] [1, 2, 4]) (
 .seq (
 .reg [
 ⟨some 11, none, .fad (.t 2) 14⟩,
 ⟨some 12, none, .load (.t 11) 1 false⟩,
 ⟨some 7, none, .mov (.t 12)⟩] [1, 2, 4, 7]) (
 .seq (
 .seq (
 .reg [
 ⟨some 13, none, .fad (.t 2) 15⟩,
 ⟨some 14, none, .load (.t 13) 1 false⟩,
 ⟨some 15, none, .mov (.t 1)⟩,
 ⟨some 16, none, .bin .neq (.t 14) (.t 15)⟩] [1, 2, 4, 7, 16]) (
 .cond (.t 16) (
 .reg [
 ⟨some 7, none, .mov (.k (.s (.int .i64 0)))⟩] [1, 2, 4, 7]) (
 .skip))) (
 .seq (
 .seq (
 .reg [
 ⟨some 17, none, .mov (.t 7)⟩,
 ⟨some 18, none, .bin .eql (.t 17) (.k (.s (.int .i64 31)))⟩] [1, 2, 4, 7, 18]) (
 .cond (.t 18) (
 .seq (
 .reg [
 ⟨some 19, none, .load (.t 2) 26 true⟩,
 ⟨none, none, .store (.t 4) (.t 19) 26⟩,
 ⟨some 5, none, .mov (.k (.s (.int .u64 0)))⟩,
 ⟨some 6, none, .mov (.k (.s (.int .i64 182)))⟩] [4, 5, 6]) (
 .ret)) (
 .skip))) (
 .seq (
 .reg [
 ⟨some 20, none, .fad (.t 2) 0⟩,
 ⟨some 21, none, .load (.t 20) 1 false⟩,
 ⟨some 22, none, .bin .mul (.t 21) (.k (.s (.int .u64 8192)))⟩,
 ⟨some 23, none, .mov (.t 1)⟩,
 ⟨some 24, none, .cvi .u64 (.t 23)⟩,
 ⟨some 25, none, .bin .mul (.t 24) (.k (.s (.int .u64 32)))⟩,
 ⟨some 26, none, .bin .add (.t 22) (.t 25)⟩,
 ⟨some 27, none, .mov (.t 7)⟩,
 ⟨some 28, none, .bin .add (.t 27) (.k (.s (.int .i64 1)))⟩,
 ⟨some 29, none, .cvi .u64 (.t 28)⟩,
 ⟨some 30, none, .bin .add (.t 26) (.t 29)⟩,
 ⟨some 8, none, .mov (.t 30)⟩] [1, 2, 4, 7, 8]) (
 .seq (
 .reg [
 ⟨some 31, none, .fad (.t 2) 2⟩,
 ⟨some 32, none, .load (.t 31) 2 true⟩,
 ⟨some 33, none, .mov (.t 8)⟩,
 ⟨some 34, none, .call false 214 0 [.t 32, .t 33, .k (.s (.int .i64 0))]⟩,
 ⟨some 9, none, .alloc [.s (.int .i64 0), .lit .nil []]⟩,
 ⟨none, none, .store (.t 9) (.t 34) 2⟩] [1, 2, 4, 7, 8, 9]) (
 .seq (
 .reg [
 ⟨some 35, none, .fad (.t 2) 4⟩,
 ⟨some 36, none, .load (.t 35) 2 true⟩,
 ⟨some 37, none, .mov (.t 8)⟩,
 ⟨some 38, none, .call false 214 0 [.t 36, .t 37, .k (.s (.int .i64 4))]⟩,
 ⟨some 10, none, .alloc [.s (.int .i64 0), .lit .nil []]⟩,
 ⟨none, none, .store (.t 10) (.t 38) 2⟩] [1, 2, 4, 7, 8, 9, 10]) (
 .seq (
 .seq (
 .reg [
 ⟨some 39, none, .load (.t 9) 2 true⟩,
 ⟨some 40, none, .call false 64 0 [.t 39]⟩,
 ⟨some 41, none, .un .not (.t 40)⟩,
 ⟨some 42, none, .mov (.t 41)⟩,
 ⟨some 43, some (42, false), .load (.t 10) 2 true⟩,
 ⟨some 44, some (42, false), .call false 64 0 [.t 43]⟩,
 ⟨some 45, some (42, false), .un .not (.t 44)⟩,
 ⟨some 46, none, .pick (.t 42) (.k (.s (.bool true))) (.t 45)⟩] [1, 2, 4, 7, 8, 9, 10, 46]) (
 .cond (.t 46) (
 .seq (
 .reg [
 ⟨some 47, none, .load (.t 2) 26 true⟩,
 ⟨none, none, .store (.t 4) (.t 47) 26⟩,
 ⟨some 5, none, .mov (.k (.s (.int .u64 0)))⟩,
 ⟨some 6, none, .mov (.k (.s (.int .i64 91)))⟩] [4, 5, 6]) (
 .ret)) (
 .skip))) (
 .seq (
 .reg [
 ⟨some 48, none, .mov (.t 1)⟩,
 ⟨some 49, none, .fad (.t 2) 15⟩,
 ⟨none, none, .store (.t 49) (.t 48) 1⟩] [2, 4, 7, 8, 9, 10]) (
 .seq (
 .reg [
 ⟨some 50, none, .mov (.t 7)⟩,
 ⟨some 51, none, .bin .add (.t 50) (.k (.s (.int .i64 1)))⟩,
 ⟨some 52, none, .fad (.t 2) 14⟩,
 ⟨none, none, .store (.t 52) (.t 51) 1⟩] [2, 4, 8, 9, 10]) (
 .seq (
 .reg [
 ⟨some 53, none, .load (.t 9) 2 true⟩,
 ⟨some 54, none, .fad (.t 2) 2⟩,
 ⟨none, none, .store (.t 54) (.t 53) 2⟩] [2, 4, 8, 10]) (
 .seq (
 .reg [
 ⟨some 55, none, .load (.t 10) 2 true⟩,
 ⟨some 56, none, .fad (.t 2) 4⟩,
 ⟨none, none, .store (.t 56) (.t 55) 2⟩] [2, 4, 8]) (
 .seq (
 .reg [
 ⟨some 57, none, .load (.t 2) 26 true⟩,
 ⟨some 58, none, .mov (.t 8)⟩,
 ⟨none, none, .store (.t 4) (.t 57) 26⟩,
 ⟨some 5, none, .mov (.t 58)⟩,
 ⟨some 6, none, .mov (.k (.s (.int .i64 0)))⟩] [4, 5, 6]) (
 .ret))))))))))))),
 [.c 4 26 true, .t 5, .t 6], none⟩

/-- bailey/baileyref01.Do -/
def F158 : FnIR := ⟨56,
 .seq (
 .reg [
 ⟨some 6, none, .mov (.k (.s (.int .u64 0)))⟩] [0, 1, 2]) (
 .seq (
 .reg [
 ⟨some 9, none, .mov (.t 1)⟩,
 ⟨some 10, none, .fof 187 (.t 9)⟩,
 ⟨some 7, none, .mov (.t 10)⟩] [0, 1, 2, 7]) (
 .seq (
 .reg [
 ⟨some 11, none, .mov (.t 2)⟩,
 ⟨some 12, none, .fof 187 (.t 11)⟩,
 ⟨some 8, none, .mov (.t 12)⟩] [0, 1, 2, 7, 8]) (
 .seq (
 .seq (
 .reg [
 ⟨some 13, none, .mov (.t 0)⟩,
 ⟨some 14, none, .bin .eql (.t 13) (.k (.s (.int .i64 1)))⟩] [0, 1, 2, 7, 8, 14]) (
 .cond (.t 14) (
 .seq (
 .reg [
 ⟨some 15, none, .mov (.t 2)⟩,
 ⟨some 16, none, .call false 66 0 [.t 15]⟩,
 ⟨some 6, none, .mov (.t 16)⟩] [6]) (
 .ret)) (
 .skip))) (
 .seq (
 .seq (
 .reg [
 ⟨some 17, none, .mov (.t 0)⟩,
 ⟨some 18, none, .bin .eql (.t 17) (.k (.s (.int .i64 2)))⟩] [0, 1, 2, 7, 8, 18]) (
 .cond (.t 18) (
 .seq (
 .reg [
 ⟨some 19, none, .mov (.t 7)⟩,
 ⟨some 20, none, .mov (.t 8)⟩,
 ⟨some 21, none, .flt .add (.t 19) (.t 20)⟩,
 ⟨some 22, none, .off 203 (.t 21)⟩,
 ⟨some 23, none, .call false 66 0 [.t 22]⟩,
 ⟨some 6, none, .mov (.t 23)⟩] [6]) (
 .ret)) (
 .skip))) (
 .seq (
 .seq (
 .reg [
 ⟨some 24, none, .mov (.t 0)⟩,
 ⟨some 25, none, .bin .eql (.t 24) (.k (.s (.int .i64 3)))⟩] [0, 1, 2, 7, 8, 25]) (
 .cond (.t 25) (
 .seq (
 .reg [
 ⟨some 26, none, .mov (.t 7)⟩,
 ⟨some 27, none, .mov (.t 8)⟩,
 ⟨some 28, none, .flt .sub (.t 26) (.t 27)⟩,
 ⟨some 29, none, .off 203 (.t 28)⟩,
 ⟨some 30, none, .call false 66 0 [.t 29]⟩,
 ⟨some 6, none, .mov (.t 30)⟩] [6]) (
 .ret)) (
 .skip))) (
 .seq (
 .seq (
 .reg [
 ⟨some 31, none, .mov (.t 0)⟩,
 ⟨some 32, none, .bin .eql (.t 31) (.k (.s (.int .i64 4)))⟩] [0, 1, 2, 7, 8, 32]) (
 .cond (.t 32) (
 .seq (
 .reg [
 ⟨some 33, none, .mov (.t 7)⟩,
 ⟨some 34, none, .mov (.t 8)⟩,
 ⟨some 35, none, .flt .mul (.t 33) (.t 34)⟩,
 ⟨some 36, none, .off 203 (.t 35)⟩,
 ⟨some 37, none, .call false 66 0 [.t 36]⟩,
 ⟨some 6, none, .mov (.t 37)⟩] [6]) (
 .ret)) (
 .skip))) (
 .seq (
 .seq (
 .reg [
 ⟨some 38, none, .mov (.t 0)⟩,
 ⟨some 39, none, .bin .eql (.t 38) (.k (.s (.int .i64 5)))⟩] [0, 1, 2, 7, 8, 39]) (
 .cond (.t 39) (
 .seq (
 .reg [
 ⟨some 40, none, .mov (.t 7)⟩,
 ⟨some 41, none, .mov (.t 8)⟩,
 ⟨some 42, none, .flt .quo (.t 40) (.t 41)⟩,
 ⟨some 43, none, .off 203 (.t 42)⟩,
 ⟨some 44, none, .call false 66 0 [.t 43]⟩,
 ⟨some 6, none, .mov (.t 44)⟩] [6]) (
 .ret)) (
 .skip))) (
 .seq (
 .seq (
 .reg [
 ⟨some 45, none, .mov (.t 0)⟩,
 ⟨some 46, none, .bin .eql (.t 45) (.k (.s (.int .i64 6)))⟩,
 ⟨some 47, none, .mov (.t 46)⟩,
 ⟨some 48, some (47, true), .mov (.t 1)⟩,
 ⟨some 49, some (47, true), .mov (.t 2)⟩,
 ⟨some 50, some (47, true), .call false 215 0 [.t 48, .t 49]⟩,
 ⟨some 51, none, .pick (.t 47) (.t 50) (.k (.s (.bool false)))⟩] [0, 1, 51]) (
 .cond (.t 51) (
 .seq (
 .reg [
 ⟨some 6, none, .mov (.k (.s (.int .u64 4607182418800017408)))⟩] [6]) (
 .ret)) (
 .skip))) (
 .seq (
 .seq (
 .reg [
 ⟨some 52, none, .mov (.t 0)⟩,
 ⟨some 53, none, .bin .eql (.t 52) (.k (.s (.int .i64 6)))⟩] [1, 53]) (
 .cond (.t 53) (
 .seq (
 .reg [
 ⟨some 6, none, .mov (.k (.s (.int .u64 0)))⟩] [6]) (
 .ret)) (
 .skip))) (
 .seq (
 .reg [
 ⟨some 54, none, .mov (.t 1)⟩,
 ⟨some 55, none, .call false 66 0 [.t 54]⟩,
 ⟨some 6, none, .mov (.t 55)⟩] [6]) (
 .ret))))))))))),
 [.t 6], none⟩

/-- bailey/baileyref17.Map -/
def F159 : FnIR := ⟨37,
 .seq (
 .reg [
 ⟨some 3, none, .box (.t 0)⟩,
 ⟨some 5, none, .bxl (.t 2)⟩,
 ⟨some 6, none, .alloc [.s (.int .u64 0), .s (.int .i64 0), .s (.int .i64 0), .lit .nil [], .s (.int .i64 0), .lit .nil [], .s (.int .i64 0), .s (.int .i64 0), .lit .nil [], .lit .nil [], .s (.int .u64 0), .s (.int .u64 0), .s (.int .u64 0), .s (.int .u64 0), .s (.int .i64 0), .s (.int .i64 0), .s (.bool false), .s (.int .u64 0), .s (.int .u64 0), .s (.int .u64 0), .s (.int .u64 0), .s (.int .u64 0), .s (.int .u64 0), .s (.int .u64 0), .s (.int .u64 0), .s (.int .u64 0)]⟩,
 ⟨some 7, none, .mov (.k (.s (.int .i64 0)))⟩] [1, 3, 5, 6]) (
 .seq (
 .seq (
 .reg [
 ⟨some 8, none, .mov (.t 1)⟩,
 ⟨some 9, none, .bin .lss (.t 8) (.k (.s (.int .i64 0)))⟩,
 ⟨some 10, none, .mov (.t 9)⟩,
 ⟨some 11, some (10, false), .mov (.t 1)⟩,
 ⟨some 12, some (10, false), .bin .gtr (.t 11) (.k (.s (.int .i64 3)))⟩,
 ⟨some 13, none, .pick (.t 10) (.k (.s (.bool true))) (.t 12)⟩,
 ⟨some 14, none, .mov (.t 13)⟩,
 ⟨some 15, some (14, false), .load (.t 5) 2 true⟩,
 ⟨some 16, some (14, false), .build [.s (.int .u64 0), .s (.int .u64 0)] []⟩,
 ⟨some 17, some (14, false), .eqk (.cells [.i, .i]) true (.t 15) (.t 16)⟩,
 ⟨some 18, some (14, false), .mov (.t 17)⟩,
 ⟨some 19, some (18, true), .fad (.t 5) 0⟩,
 ⟨some 20, some (18, true), .load (.t 19) 1 false⟩,
 ⟨some 21, some (18, true), .call false 216 0 [.t 20]⟩,
 ⟨some 22, some (18, true), .un .not (.t 21)⟩,
 ⟨some 23, some (18, true), .mov (.t 22)⟩,
 ⟨some 24, some (23, false), .fad (.t 5) 1⟩,
 ⟨some 25, some (23, false), .load (.t 24) 1 false⟩,
 ⟨some 26, some (23, false), .call false 216 0 [.t 25]⟩,
 ⟨some 27, some (23, false), .un .not (.t 26)⟩,
 ⟨some 28, some (18, true), .pick (.t 23) (.k (.s (.bool true))) (.t 27)⟩,
 ⟨some 29, some (14, false), .pick (.t 18) (.t 28) (.k (.s (.bool false)))⟩,
 ⟨some 30, none, .pick (.t 14) (.k (.s (.bool true))) (.t 29)⟩] [1, 3, 5, 6, 30]) (
 .cond (.t 30) (
 .seq (
 .reg [
 ⟨some 31, none, .load (.t 3) 26 true⟩,
 ⟨none, none, .store (.t 6) (.t 31) 26⟩,
 ⟨some 7, none, .mov (.k (.s (.int .i64 171)))⟩] [6, 7]) (
 .ret)) (
 .skip))) (
 .seq (
 .reg [
 ⟨some 32, none, .mov (.t 1)⟩,
 ⟨some 33, none, .load (.t 5) 2 true⟩,
 ⟨some 34, none, .fad (.t 3) 18⟩,
 ⟨some 35, none, .ixa (.t 34) (.t 32) 2 (some 4)⟩,
 ⟨none, none, .store (.t 35) (.t 33) 2⟩] [3, 6]) (
 .seq (
 .reg [
 ⟨some 36, none, .load (.t 3) 26 true⟩,
 ⟨none, none, .store (.t 6) (.t 36) 26⟩,
 ⟨some 7, none, .mov (.k (.s (.int .i64 0)))⟩] [6, 7]) (
 .ret)))),
 [.c 6 26 true, .t 7], none⟩

/-- bailey/baileyref17.Where -/
def F160 : FnIR := ⟨40,
 .seq (
 .reg [
 ⟨some 2, none, .bxl (.t 0)⟩,
 ⟨some 4, none, .alloc [.s (.int .u64 0), .s (.int .u64 0)]⟩,
 ⟨some 5, none, .mov (.k (.s (.int .i64 0)))⟩,
 ⟨some 6, none, .mov (.k (.s (.int .i64 0)))⟩] [1, 2, 4]) (
 .seq (
 .seq (
 .reg [
 ⟨some 7, none, .mov (.k (.s (.int .i64 0)))⟩] [1, 2, 4, 7]) (
 .block 0 (
 .loop (
 .seq (
 .seq (
 .reg [
 ⟨some 8, none, .mov (.t 7)⟩,
 ⟨some 9, none, .bin .lss (.t 8) (.k (.s (.int .i64 4)))⟩] [1, 2, 4, 7, 9]) (
 .cond (.t 9) (
 .skip) (
 .exit 0))) (
 .seq (
 .block 1 (
 .seq (
 .reg [
 ⟨some 12, none, .mov (.t 1)⟩,
 ⟨some 13, none, .mov (.t 7)⟩,
 ⟨some 14, none, .bin .mul (.k (.s (.int .i64 128))) (.t 13)⟩,
 ⟨some 15, none, .bin .geq (.t 12) (.t 14)⟩,
 ⟨some 16, none, .mov (.t 15)⟩,
 ⟨some 17, some (16, true), .mov (.t 1)⟩,
 ⟨some 18, some (16, true), .mov (.t 7)⟩,
 ⟨some 19, some (16, true), .bin .mul (.k (.s (.int .i64 128))) (.t 18)⟩,
 ⟨some 20, some (16, true), .bin .add (.t 19) (.k (.s (.int .i64 128)))⟩,
 ⟨some 21, some (16, true), .bin .lss (.t 17) (.t 20)⟩,
 ⟨some 22, none, .pick (.t 16) (.t 21) (.k (.s (.bool false)))⟩,
 ⟨some 23, none, .mov (.t 22)⟩,
 ⟨some 24, some (23, true), .mov (.t 7)⟩,
 ⟨some 25, some (23, true), .fad (.t 2) 18⟩,
 ⟨some 26, some (23, true), .ixa (.t 25) (.t 24) 2 (some 4)⟩,
 ⟨some 27, some (23, true), .load (.t 26) 2 true⟩,
 ⟨some 28, some (23, true), .build [.s (.int .u64 0), .s (.int .u64 0)] []⟩,
 ⟨some 29, some (23, true), .eqk (.cells [.i, .i]) true (.t 27) (.t 28)⟩,
 ⟨some 30, none, .pick (.t 23) (.t 29) (.k (.s (.bool false)))⟩] [1, 2, 4, 7, 30]) (
 .cond (.t 30) (
 .seq (
 .reg [
 ⟨some 31, none, .mov (.t 7)⟩,
 ⟨some 32, none, .fad (.t 2) 18⟩,
 ⟨some 33, none, .ixa (.t 32) (.t 31) 2 (some 4)⟩,
 ⟨some 34, none, .load (.t 33) 2 true⟩,
 ⟨some 35, none, .mov (.t 1)⟩,
 ⟨some 36, none, .mov (.t 7)⟩,
 ⟨some 37, none, .bin .mul (.k (.s (.int .i64 128))) (.t 36)⟩,
 ⟨some 38, none, .bin .sub (.t 35) (.t 37)⟩,
 ⟨none, none, .store (.t 4) (.t 34) 2⟩,
 ⟨some 5, none, .mov (.t 38)⟩,
 ⟨some 6, none, .mov (.k (.s (.int .i64 0)))⟩] [4, 5, 6]) (
 .ret)) (
 .skip)))) (
 .reg [
 ⟨some 10, none, .mov (.t 7)⟩,
 ⟨some 11, none, .bin .add (.t 10) (.k (.s (.int .i64 1)))⟩,
 ⟨some 7, none, .mov (.t 11)⟩] [1, 2, 4, 7])))))) (
 .seq (
 .reg [
 ⟨some 39, none, .build [.s (.int .u64 0), .s (.int .u64 0)] []⟩,
 ⟨none, none, .store (.t 4) (.t 39) 2⟩,
 ⟨some 5, none, .mov (.k (.s (.int .i64 0)))⟩,
 ⟨some 6, none, .mov (.k (.s (.int .i64 172)))⟩] [4, 5, 6]) (
 .ret))),
 [.c 4 2 true, .t 5, .t 6], none⟩

/-- bailey/baileyref02.Number -/
def F161 : FnIR := ⟨27,
 .seq (
 .reg [
 ⟨some 4, none, .mov (.k (.lit .nil []))⟩,
 ⟨some 5, none, .mov (.k (.s (.bool false)))⟩] [0, 1]) (
 .seq (
 .reg [
 ⟨some 8, none, .mov (.t 1)⟩,
 ⟨some 9, none, .msl false (.t 8) (.t 8) 1 1 false [.s (.int .u8 0)]⟩,
 ⟨some 6, none, .mov (.t 9)⟩] [0, 1, 6]) (
 .seq (
 .seq (
 .reg [
 ⟨some 10, none, .mov (.t 1)⟩,
 ⟨some 11, none, .bin .sub (.t 10) (.k (.s (.int .i64 1)))⟩,
 ⟨some 7, none, .mov (.t 11)⟩] [0, 6, 7]) (
 .block 0 (
 .loop (
 .seq (
 .seq (
 .reg [
 ⟨some 12, none, .mov (.t 7)⟩,
 ⟨some 13, none, .bin .geq (.t 12) (.k (.s (.int .i64 0)))⟩] [0, 6, 7, 13]) (
 .cond (.t 13) (
 .skip) (
 .exit 0))) (
 .seq (
 .block 1 (
 .seq (
 .reg [
 ⟨some 16, none, .mov (.t 6)⟩,
 ⟨some 17, none, .mov (.t 7)⟩,
 ⟨some 18, none, .mov (.t 0)⟩,
 ⟨some 19, none, .bin .rem (.t 18) (.k (.s (.int .u64 256)))⟩,
 ⟨some 20, none, .cvi .u8 (.t 19)⟩,
 ⟨some 21, none, .ixa (.t 16) (.t 17) 1 none⟩,
 ⟨none, none, .store (.t 21) (.t 20) 1⟩] [0, 6, 7]) (
 .reg [
 ⟨some 22, none, .mov (.t 0)⟩,
 ⟨some 23, none, .bin .quo (.t 22) (.k (.s (.int .u64 256)))⟩,
 ⟨some 0, none, .mov (.t 23)⟩] [0, 6, 7]))) (
 .reg [
 ⟨some 14, none, .mov (.t 7)⟩,
 ⟨some 15, none, .bin .sub (.t 14) (.k (.s (.int .i64 1)))⟩,
 ⟨some 7, none, .mov (.t 15)⟩] [0, 6, 7])))))) (
 .seq (
 .reg [
 ⟨some 24, none, .mov (.t 6)⟩,
 ⟨some 25, none, .mov (.t 0)⟩,
 ⟨some 26, none, .bin .eql (.t 25) (.k (.s (.int .u64 0)))⟩,
 ⟨some 4, none, .mov (.t 24)⟩,
 ⟨some 5, none, .mov (.t 26)⟩] [4, 5]) (
 .ret)))),
 [.t 4, .t 5], none⟩

/-- slices.BinarySearchFunc[[]bailey/api.Link,bailey/api.Link,uint64] -/
def F162 : FnIR := ⟨49,
 .seq (
 .reg [
 ⟨some 6, none, .mov (.k (.s (.int .i64 0)))⟩,
 ⟨some 7, none, .mov (.k (.s (.bool false)))⟩] [0, 1, 2]) (
 .seq (
 .reg [
 ⟨some 12, none, .mov (.t 0)⟩,
 ⟨some 13, none, .len (.t 12)⟩,
 ⟨some 8, none, .mov (.t 13)⟩] [0, 1, 2, 8]) (
 .seq (
 .reg [
 ⟨some 14, none, .mov (.t 8)⟩,
 ⟨some 9, none, .mov (.k (.s (.int .i64 0)))⟩,
 ⟨some 10, none, .mov (.t 14)⟩] [0, 1, 2, 8, 9, 10]) (
 .seq (
 .block 0 (
 .loop (
 .seq (
 .seq (
 .reg [
 ⟨some 15, none, .mov (.t 9)⟩,
 ⟨some 16, none, .mov (.t 10)⟩,
 ⟨some 17, none, .bin .lss (.t 15) (.t 16)⟩] [0, 1, 2, 8, 9, 10, 17]) (
 .cond (.t 17) (
 .skip) (
 .exit 0))) (
 .block 1 (
 .seq (
 .reg [
 ⟨some 18, none, .mov (.t 9)⟩,
 ⟨some 19, none, .mov (.t 10)⟩,
 ⟨some 20, none, .bin .add (.t 18) (.t 19)⟩,
 ⟨some 21, none, .cvi .u64 (.t 20)⟩,
 ⟨some 22, none, .bin .shr (.t 21) (.k (.s (.int .u64 1)))⟩,
 ⟨some 23, none, .cvi .i64 (.t 22)⟩,
 ⟨some 11, none, .mov (.t 23)⟩] [0, 1, 2, 8, 9, 10, 11]) (
 .seq (
 .reg [
 ⟨some 24, none, .mov (.t 2)⟩,
 ⟨some 25, none, .mov (.t 0)⟩,
 ⟨some 26, none, .mov (.t 11)⟩,
 ⟨some 27, none, .ixa (.t 25) (.t 26) 2 none⟩,
 ⟨some 28, none, .load (.t 27) 2 true⟩,
 ⟨some 29, none, .mov (.t 1)⟩,
 ⟨some 30, none, .clv false (.t 24) [.t 28, .t 29]⟩,
 ⟨some 31, none, .bin .lss (.t 30) (.k (.s (.int .i64 0)))⟩] [0, 1, 2, 8, 9, 10, 11, 31]) (
 .cond (.t 31) (
 .reg [
 ⟨some 32, none, .mov (.t 11)⟩,
 ⟨some 33, none, .bin .add (.t 32) (.k (.s (.int .i64 1)))⟩,
 ⟨some 9, none, .mov (.t 33)⟩] [0, 1, 2, 8, 9, 10]) (
 .reg [
 ⟨some 34, none, .mov (.t 11)⟩,
 ⟨some 10, none, .mov (.t 34)⟩] [0, 1, 2, 8, 9, 10])))))))) (
 .seq (
 .reg [
 ⟨some 35, none, .mov (.t 9)⟩,
 ⟨some 36, none, .mov (.t 9)⟩,
 ⟨some 37, none, .mov (.t 8)⟩,
 ⟨some 38, none, .bin .lss (.t 36) (.t 37)⟩,
 ⟨some 39, none, .mov (.t 38)⟩,
 ⟨some 40, some (39, true), .mov (.t 2)⟩,
 ⟨some 41, some (39, true), .mov (.t 0)⟩,
 ⟨some 42, some (39, true), .mov (.t 9)⟩,
 ⟨some 43, some (39, true), .ixa (.t 41) (.t 42) 2 none⟩,
 ⟨some 44, some (39, true), .load (.t 43) 2 true⟩,
 ⟨some 45, some (39, true), .mov (.t 1)⟩,
 ⟨some 46, some (39, true), .clv false (.t 40) [.t 44, .t 45]⟩,
 ⟨some 47, some (39, true), .bin .eql (.t 46) (.k (.s (.int .i64 0)))⟩,
 ⟨some 48, none, .pick (.t 39) (.t 47) (.k (.s (.bool false)))⟩,
 ⟨some 6, none, .mov (.t 35)⟩,
 ⟨some 7, none, .mov (.t 48)⟩] [6, 7]) (
 .ret))))),
 [.t 6, .t 7], none⟩

/-- bailey/dir.place$1 -/
def F163 : FnIR := ⟨9,
 .seq (
 .reg [
 ⟨some 2, none, .bxl (.t 0)⟩,
 ⟨some 4, none, .mov (.k (.s (.int .i64 0)))⟩] [1, 2]) (
 .seq (
 .reg [
 ⟨some 5, none, .fad (.t 2) 0⟩,
 ⟨some 6, none, .load (.t 5) 1 false⟩,
 ⟨some 7, none, .mov (.t 1)⟩,
 ⟨some 8, none, .call false 107 0 [.t 6, .t 7]⟩,
 ⟨some 4, none, .mov (.t 8)⟩] [4]) (
 .ret)),
 [.t 4], none⟩

/-- slices.rotateRight[bailey/api.Thing] -/
def F165 : FnIR := ⟨10,
 .reg [
 ⟨some 4, none, .mov (.t 0)⟩,
 ⟨some 5, none, .mov (.t 0)⟩,
 ⟨some 6, none, .len (.t 5)⟩,
 ⟨some 7, none, .mov (.t 1)⟩,
 ⟨some 8, none, .bin .sub (.t 6) (.t 7)⟩,
 ⟨some 9, none, .call false 217 0 [.t 4, .t 8]⟩] [],
 [], none⟩

/-- cmp.isNaN[uint64] -/
def F166 : FnIR := ⟨6,
 .seq (
 .reg [
 ⟨some 2, none, .mov (.k (.s (.bool false)))⟩] [0]) (
 .seq (
 .reg [
 ⟨some 3, none, .mov (.t 0)⟩,
 ⟨some 4, none, .mov (.t 0)⟩,
 ⟨some 5, none, .bin .neq (.t 3) (.t 4)⟩,
 ⟨some 2, none, .mov (.t 5)⟩] [2]) (
 .ret)),
 [.t 2], none⟩

/-- slices.insertionSortOrdered[uint64] -/
def F167 : FnIR := ⟨49,
 .seq (
 .reg [
 ⟨some 8, none, .mov (.t 1)⟩,
 ⟨some 9, none, .bin .add (.t 8) (.k (.s (.int .i64 1)))⟩,
 ⟨some 6, none, .mov (.t 9)⟩] [0, 1, 2, 6]) (
 .block 0 (
 .loop (
 .seq (
 .seq (
 .reg [
 ⟨some 10, none, .mov (.t 6)⟩,
 ⟨some 11, none, .mov (.t 2)⟩,
 ⟨some 12, none, .bin .lss (.t 10) (.t 11)⟩] [0, 1, 2, 6, 12]) (
 .cond (.t 12) (
 .skip) (
 .exit 0))) (
 .seq (
 .block 1 (
 .seq (
 .reg [
 ⟨some 15, none, .mov (.t 6)⟩,
 ⟨some 7, none, .mov (.t 15)⟩] [0, 1, 2, 6, 7]) (
 .block 2 (
 .loop (
 .seq (
 .seq (
 .drw [
 ⟨some 16, none, .mov (.t 7)⟩,
 ⟨some 17, none, .mov (.t 1)⟩,
 ⟨some 18, none, .bin .gtr (.t 16) (.t 17)⟩,
 ⟨some 19, none, .mov (.t 18)⟩,
 ⟨some 20, some (19, true), .mov (.t 0)⟩,
 ⟨some 21, some (19, true), .mov (.t 7)⟩,
 ⟨some 22, some (19, true), .ixa (.t 20) (.t 21) 1 none⟩,
 ⟨some 23, some (19, true), .load (.t 22) 1 false⟩,
 ⟨some 24, some (19, true), .mov (.t 0)⟩,
 ⟨some 25, some (19, true), .mov (.t 7)⟩,
 ⟨some 26, some (19, true), .bin .sub (.t 25) (.k (.s (.int .i64 1)))⟩,
 ⟨some 27, some (19, true), .ixa (.t 24) (.t 26) 1 none⟩,
 ⟨some 28, some (19, true), .load (.t 27) 1 false⟩,
 ⟨some 29, some (19, true), .call false 173 0 [.t 23, .t 28]⟩,
 ⟨some 30, none, .pick (.t 19) (.t 29) (.k (.s (.bool false)))⟩] [13] [] [0, 1, 2, 6, 7, 30]) (
 .cond (.t 30) (
 .skip) (
 .exit 2))) (
 .seq (
 .block 3 (
 .drw [
 ⟨some 33, none, .mov (.t 0)⟩,
 ⟨some 34, none, .mov (.t 7)⟩,
 ⟨some 35, none, .mov (.t 0)⟩,
 ⟨some 36, none, .mov (.t 7)⟩,
 ⟨some 37, none, .bin .sub (.t 36) (.k (.s (.int .i64 1)))⟩,
 ⟨some 38, none, .mov (.t 0)⟩,
 ⟨some 39, none, .mov (.t 7)⟩,
 ⟨some 40, none, .bin .sub (.t 39) (.k (.s (.int .i64 1)))⟩,
 ⟨some 41, none, .ixa (.t 38) (.t 40) 1 none⟩,
 ⟨some 42, none, .load (.t 41) 1 false⟩,
 ⟨some 43, none, .mov (.t 0)⟩,
 ⟨some 44, none, .mov (.t 7)⟩,
 ⟨some 45, none, .ixa (.t 43) (.t 44) 1 none⟩,
 ⟨some 46, none, .load (.t 45) 1 false⟩,
 ⟨some 47, none, .ixa (.t 33) (.t 34) 1 none⟩,
 ⟨none, none, .store (.t 47) (.t 42) 1⟩,
 ⟨some 48, none, .ixa (.t 35) (.t 37) 1 none⟩,
 ⟨none, none, .store (.t 48) (.t 46) 1⟩] [] [] [0, 1, 2, 6, 7])) (
 .reg [
 ⟨some 31, none, .mov (.t 7)⟩,
 ⟨some 32, none, .bin .sub (.t 31) (.k (.s (.int .i64 1)))⟩,
 ⟨some 7, none, .mov (.t 32)⟩] [0, 1, 2, 6, 7]))))))) (
 .reg [
 ⟨some 13, none, .mov (.t 6)⟩,
 ⟨some 14, none, .bin .add (.t 13) (.k (.s (.int .i64 1)))⟩,
 ⟨some 6, none, .mov (.t 14)⟩] [0, 1, 2, 6]))))),
 [], none⟩

/-- slices.heapSortOrdered[uint64] -/
def F168 : FnIR := ⟨56,
 .seq (
 .reg [
 ⟨some 11, none, .mov (.t 1)⟩,
 ⟨some 6, none, .mov (.t 11)⟩] [0, 1, 2, 6]) (
 .seq (
 .reg [
 ⟨some 7, none, .mov (.k (.s (.int .i64 0)))⟩] [0, 1, 2, 6, 7]) (
 .seq (
 .reg [
 ⟨some 12, none, .mov (.t 2)⟩,
 ⟨some 13, none, .mov (.t 1)⟩,
 ⟨some 14, none, .bin .sub (.t 12) (.t 13)⟩,
 ⟨some 8, none, .mov (.t 14)⟩] [0, 6, 7, 8]) (
 .seq (
 .seq (
 .reg [
 ⟨some 15, none, .mov (.t 8)⟩,
 ⟨some 16, none, .bin .sub (.t 15) (.k (.s (.int .i64 1)))⟩,
 ⟨some 17, none, .bin .quo (.t 16) (.k (.s (.int .i64 2)))⟩,
 ⟨some 9, none, .mov (.t 17)⟩] [0, 6, 7, 8, 9]) (
 .block 0 (
 .loop (
 .seq (
 .seq (
 .reg [
 ⟨some 18, none, .mov (.t 9)⟩,
 ⟨some 19, none, .bin .geq (.t 18) (.k (.s (.int .i64 0)))⟩] [0, 6, 7, 8, 9, 19]) (
 .cond (.t 19) (
 .skip) (
 .exit 0))) (
 .seq (
 .block 1 (
 .reg [
 ⟨some 22, none, .mov (.t 0)⟩,
 ⟨some 23, none, .mov (.t 9)⟩,
 ⟨some 24, none, .mov (.t 8)⟩,
 ⟨some 25, none, .mov (.t 6)⟩,
 ⟨some 26, none, .call false 218 0 [.t 22, .t 23, .t 24, .t 25]⟩] [0, 6, 7, 8, 9])) (
 .reg [
 ⟨some 20, none, .mov (.t 9)⟩,
 ⟨some 21, none, .bin .sub (.t 20) (.k (.s (.int .i64 1)))⟩,
 ⟨some 9, none, .mov (.t 21)⟩] [0, 6, 7, 8, 9])))))) (
 .seq (
 .reg [
 ⟨some 27, none, .mov (.t 8)⟩,
 ⟨some 28, none, .bin .sub (.t 27) (.k (.s (.int .i64 1)))⟩,
 ⟨some 10, none, .mov (.t 28)⟩] [0, 6, 7, 10]) (
 .block 2 (
 .loop (
 .seq (
 .seq (
 .reg [
 ⟨some 29, none, .mov (.t 10)⟩,
 ⟨some 30, none, .bin .geq (.t 29) (.k (.s (.int .i64 0)))⟩] [0, 6, 7, 10, 30]) (
 .cond (.t 30) (
 .skip) (
 .exit 2))) (
 .seq (
 .block 3 (
 .seq (
 .drw [
 ⟨some 33, none, .mov (.t 0)⟩,
 ⟨some 34, none, .mov (.t 6)⟩,
 ⟨some 35, none, .mov (.t 0)⟩,
 ⟨some 36, none, .mov (.t 6)⟩,
 ⟨some 37, none, .mov (.t 10)⟩,
 ⟨some 38, none, .bin .add (.t 36) (.t 37)⟩,
 ⟨some 39, none, .mov (.t 0)⟩,
 ⟨some 40, none, .mov (.t 6)⟩,
 ⟨some 41, none, .mov (.t 10)⟩,
 ⟨some 42, none, .bin .add (.t 40) (.t 41)⟩,
 ⟨some 43, none, .ixa (.t 39) (.t 42) 1 none⟩,
 ⟨some 44, none, .load (.t 43) 1 false⟩,
 ⟨some 45, none, .mov (.t 0)⟩,
 ⟨some 46, none, .mov (.t 6)⟩,
 ⟨some 47, none, .ixa (.t 45) (.t 46) 1 none⟩,
 ⟨some 48, none, .load (.t 47) 1 false⟩,
 ⟨some 49, none, .ixa (.t 33) (.t 34) 1 none⟩,
 ⟨none, none, .store (.t 49) (.t 44) 1⟩,
 ⟨some 50, none, .ixa (.t 35) (.t 38) 1 none⟩,
 ⟨none, none, .store (.t 50) (.t 48) 1⟩] [] [] [0, 6, 7, 10]) (
 .reg [
 ⟨some 51, none, .mov (.t 0)⟩,
 ⟨some 52, none, .mov (.t 7)⟩,
 ⟨some 53, none, .mov (.t 10)⟩,
 ⟨some 54, none, .mov (.t 6)⟩,
 ⟨some 55, none, .call false 218 0 [.t 51, .t 52, .t 53, .t 54]⟩] [0, 6, 7, 10]))) (
 .reg [
 ⟨some 31, none, .mov (.t 10)⟩,
 ⟨some 32, none, .bin .sub (.t 31) (.k (.s (.int .i64 1)))⟩,
 ⟨some 10, none, .mov (.t 32)⟩] [0, 6, 7, 10]))))))))),
 [], none⟩

/-- slices.breakPatternsOrdered[uint64] -/
def F169 : FnIR := ⟨65,
 .seq (
 .reg [
 ⟨some 11, none, .mov (.t 2)⟩,
 ⟨some 12, none, .mov (.t 1)⟩,
 ⟨some 13, none, .bin .sub (.t 11) (.t 12)⟩,
 ⟨some 6, none, .mov (.t 13)⟩] [0, 1, 6]) (
 .seq (
 .reg [
 ⟨some 14, none, .mov (.t 6)⟩,
 ⟨some 15, none, .bin .geq (.t 14) (.k (.s (.int .i64 8)))⟩] [0, 1, 6, 15]) (
 .cond (.t 15) (
 .seq (
 .reg [
 ⟨some 16, none, .mov (.t 6)⟩,
 ⟨some 17, none, .cvi .u64 (.t 16)⟩,
 ⟨some 7, none, .alloc [.s (.int .u64 0)]⟩,
 ⟨none, none, .store (.t 7) (.t 17) 1⟩] [0, 1, 6, 7]) (
 .seq (
 .reg [
 ⟨some 18, none, .mov (.t 6)⟩,
 ⟨some 19, none, .call false 219 0 [.t 18]⟩,
 ⟨some 8, none, .mov (.t 19)⟩] [0, 1, 6, 7, 8]) (
 .seq (
 .reg [
 ⟨some 20, none, .mov (.t 1)⟩,
 ⟨some 21, none, .mov (.t 6)⟩,
 ⟨some 22, none, .bin .quo (.t 21) (.k (.s (.int .i64 4)))⟩,
 ⟨some 23, none, .bin .mul (.t 22) (.k (.s (.int .i64 2)))⟩,
 ⟨some 24, none, .bin .add (.t 20) (.t 23)⟩,
 ⟨some 25, none, .bin .sub (.t 24) (.k (.s (.int .i64 1)))⟩,
 ⟨some 9, none, .mov (.t 25)⟩] [0, 1, 6, 7, 8, 9]) (
 .block 0 (
 .loop (
 .seq (
 .seq (
 .reg [
 ⟨some 26, none, .mov (.t 9)⟩,
 ⟨some 27, none, .mov (.t 1)⟩,
 ⟨some 28, none, .mov (.t 6)⟩,
 ⟨some 29, none, .bin .quo (.t 28) (.k (.s (.int .i64 4)))⟩,
 ⟨some 30, none, .bin .mul (.t 29) (.k (.s (.int .i64 2)))⟩,
 ⟨some 31, none, .bin .add (.t 27) (.t 30)⟩,
 ⟨some 32, none, .bin .add (.t 31) (.k (.s (.int .i64 1)))⟩,
 ⟨some 33, none, .bin .leq (.t 26) (.t 32)⟩] [0, 1, 6, 7, 8, 9, 33]) (
 .cond (.t 33) (
 .skip) (
 .exit 0))) (
 .seq (
 .block 1 (
 .seq (
 .reg [
 ⟨some 36, none, .call false 220 0 [.t 7]⟩,
 ⟨some 37, none, .mov (.t 8)⟩,
 ⟨some 38, none, .bin .sub (.t 37) (.k (.s (.int .u64 1)))⟩,
 ⟨some 39, none, .bin .and (.t 36) (.t 38)⟩,
 ⟨some 40, none, .cvi .i64 (.t 39)⟩,
 ⟨some 10, none, .mov (.t 40)⟩] [0, 1, 6, 7, 8, 9, 10]) (
 .seq (
 .seq (
 .reg [
 ⟨some 41, none, .mov (.t 10)⟩,
 ⟨some 42, none, .mov (.t 6)⟩,
 ⟨some 43, none, .bin .geq (.t 41) (.t 42)⟩] [0, 1, 6, 7, 8, 9, 10, 43]) (
 .cond (.t 43) (
 .reg [
 ⟨some 44, none, .mov (.t 10)⟩,
 ⟨some 45, none, .mov (.t 6)⟩,
 ⟨some 46, none, .bin .sub (.t 44) (.t 45)⟩,
 ⟨some 10, none, .mov (.t 46)⟩] [0, 1, 6, 7, 8, 9, 10]) (
 .skip))) (
 .drw [
 ⟨some 47, none, .mov (.t 0)⟩,
 ⟨some 48, none, .mov (.t 9)⟩,
 ⟨some 49, none, .mov (.t 0)⟩,
 ⟨some 50, none, .mov (.t 1)⟩,
 ⟨some 51, none, .mov (.t 10)⟩,
 ⟨some 52, none, .bin .add (.t 50) (.t 51)⟩,
 ⟨some 53, none, .mov (.t 0)⟩,
 ⟨some 54, none, .mov (.t 1)⟩,
 ⟨some 55, none, .mov (.t 10)⟩,
 ⟨some 56, none, .bin .add (.t 54) (.t 55)⟩,
 ⟨some 57, none, .ixa (.t 53) (.t 56) 1 none⟩,
 ⟨some 58, none, .load (.t 57) 1 false⟩,
 ⟨some 59, none, .mov (.t 0)⟩,
 ⟨some 60, none, .mov (.t 9)⟩,
 ⟨some 61, none, .ixa (.t 59) (.t 60) 1 none⟩,
 ⟨some 62, none, .load (.t 61) 1 false⟩,
 ⟨some 63, none, .ixa (.t 47) (.t 48) 1 none⟩,
 ⟨none, none, .store (.t 63) (.t 58) 1⟩,
 ⟨some 64, none, .ixa (.t 49) (.t 52) 1 none⟩,
 ⟨none, none, .store (.t 64) (.t 62) 1⟩] [] [] [0, 1, 6, 7, 8, 9])))) (
 .reg [
 ⟨some 34, none, .mov (.t 9)⟩,
 ⟨some 35, none, .bin .add (.t 34) (.k (.s (.int .i64 1)))⟩,
 ⟨some 9, none, .mov (.t 35)⟩] [0, 1, 6, 7, 8, 9])))))))) (
 .skip))),
 [], none⟩

/-- slices.choosePivotOrdered[uint64] -/
def F170 : FnIR := ⟨57,
 .seq (
 .reg [
 ⟨some 6, none, .mov (.k (.s (.int .i64 0)))⟩,
 ⟨some 7, none, .mov (.k (.s (.int .i64 0)))⟩] [0, 1, 2]) (
 .seq (
 .reg [
 ⟨some 13, none, .mov (.t 2)⟩,
 ⟨some 14, none, .mov (.t 1)⟩,
 ⟨some 15, none, .bin .sub (.t 13) (.t 14)⟩,
 ⟨some 8, none, .mov (.t 15)⟩] [0, 1, 8]) (
 .seq (
 .reg [
 ⟨some 9, none, .alloc [.s (.int .i64 0)]⟩] [0, 1, 8, 9]) (
 .seq (
 .reg [
 ⟨some 16, none, .mov (.t 1)⟩,
 ⟨some 17, none, .mov (.t 8)⟩,
 ⟨some 18, none, .bin .quo (.t 17) (.k (.s (.int .i64 4)))⟩,
 ⟨some 19, none, .bin .mul (.t 18) (.k (.s (.int .i64 1)))⟩,
 ⟨some 20, none, .bin .add (.t 16) (.t 19)⟩,
 ⟨some 10, none, .mov (.t 20)⟩] [0, 1, 8, 9, 10]) (
 .seq (
 .reg [
 ⟨some 21, none, .mov (.t 1)⟩,
 ⟨some 22, none, .mov (.t 8)⟩,
 ⟨some 23, none, .bin .quo (.t 22) (.k (.s (.int .i64 4)))⟩,
 ⟨some 24, none, .bin .mul (.t 23) (.k (.s (.int .i64 2)))⟩,
 ⟨some 25, none, .bin .add (.t 21) (.t 24)⟩,
 ⟨some 11, none, .mov (.t 25)⟩] [0, 1, 8, 9, 10, 11]) (
 .seq (
 .reg [
 ⟨some 26, none, .mov (.t 1)⟩,
 ⟨some 27, none, .mov (.t 8)⟩,
 ⟨some 28, none, .bin .quo (.t 27) (.k (.s (.int .i64 4)))⟩,
 ⟨some 29, none, .bin .mul (.t 28) (.k (.s (.int .i64 3)))⟩,
 ⟨some 30, none, .bin .add (.t 26) (.t 29)⟩,
 ⟨some 12, none, .mov (.t 30)⟩] [0, 8, 9, 10, 11, 12]) (
 .seq (
 .seq (
 .reg [
 ⟨some 31, none, .mov (.t 8)⟩,
 ⟨some 32, none, .bin .geq (.t 31) (.k (.s (.int .i64 8)))⟩] [0, 8, 9, 10, 11, 12, 32]) (
 .cond (.t 32) (
 .seq (
 .seq (
 .reg [
 ⟨some 33, none, .mov (.t 8)⟩,
 ⟨some 34, none, .bin .geq (.t 33) (.k (.s (.int .i64 50)))⟩] [0, 9, 10, 11, 12, 34]) (
 .cond (.t 34) (
 .seq (
 .reg [
 ⟨some 35, none, .mov (.t 0)⟩,
 ⟨some 36, none, .mov (.t 10)⟩,
 ⟨some 37, none, .call false 221 0 [.t 35, .t 36, .t 9]⟩,
 ⟨some 10, none, .mov (.t 37)⟩] [0, 9, 10, 11, 12]) (
 .seq (
 .reg [
 ⟨some 38, none, .mov (.t 0)⟩,
 ⟨some 39, none, .mov (.t 11)⟩,
 ⟨some 40, none, .call false 221 0 [.t 38, .t 39, .t 9]⟩,
 ⟨some 11, none, .mov (.t 40)⟩] [0, 9, 10, 11, 12]) (
 .reg [
 ⟨some 41, none, .mov (.t 0)⟩,
 ⟨some 42, none, .mov (.t 12)⟩,
 ⟨some 43, none, .call false 221 0 [.t 41, .t 42, .t 9]⟩,
 ⟨some 12, none, .mov (.t 43)⟩] [0, 9, 10, 11, 12]))) (
 .skip))) (
 .reg [
 ⟨some 44, none, .mov (.t 0)⟩,
 ⟨some 45, none, .mov (.t 10)⟩,
 ⟨some 46, none, .mov (.t 11)⟩,
 ⟨some 47, none, .mov (.t 12)⟩,
 ⟨some 48, none, .call false 222 0 [.t 44, .t 45, .t 46, .t 47, .t 9]⟩,
 ⟨some 11, none, .mov (.t 48)⟩] [9, 11])) (
 .skip))) (
 .seq (
 .reg [
 ⟨some 49, none, .load (.t 9) 1 false⟩] [11, 49]) (
 .block 0 (
 .seq (
 .reg [
 ⟨some 52, none, .bin .eql (.t 49) (.k (.s (.int .i64 0)))⟩,
 ⟨some 51, none, .mov (.t 52)⟩] [11, 49, 51]) (
 .cond (.t 51) (
 .seq (
 .reg [
 ⟨some 53, none, .mov (.t 11)⟩,
 ⟨some 6, none, .mov (.t 53)⟩,
 ⟨some 7, none, .mov (.k (.s (.int .i64 1)))⟩] [6, 7]) (
 .ret)) (
 .seq (
 .reg [
 ⟨some 55, none, .bin .eql (.t 49) (.k (.s (.int .i64 12)))⟩,
 ⟨some 54, none, .mov (.t 55)⟩] [11, 54]) (
 .cond (.t 54) (
 .seq (
 .reg [
 ⟨some 56, none, .mov (.t 11)⟩,
 ⟨some 6, none, .mov (.t 56)⟩,
 ⟨some 7, none, .mov (.k (.s (.int .i64 2)))⟩] [6, 7]) (
 .ret)) (
 .seq (
 .reg [
 ⟨some 50, none, .mov (.t 11)⟩,
 ⟨some 6, none, .mov (.t 50)⟩,
 ⟨some 7, none, .mov (.k (.s (.int .i64 0)))⟩] [6, 7]) (
 .ret)))))))))))))),
 [.t 6, .t 7], none⟩

/-- slices.reverseRangeOrdered[uint64] -/
def F171 : FnIR := ⟨32,
 .seq (
 .reg [
 ⟨some 8, none, .mov (.t 1)⟩,
 ⟨some 6, none, .mov (.t 8)⟩] [0, 2, 6]) (
 .seq (
 .reg [
 ⟨some 9, none, .mov (.t 2)⟩,
 ⟨some 10, none, .bin .sub (.t 9) (.k (.s (.int .i64 1)))⟩,
 ⟨some 7, none, .mov (.t 10)⟩] [0, 6, 7]) (
 .block 0 (
 .loop (
 .seq (
 .seq (
 .reg [
 ⟨some 11, none, .mov (.t 6)⟩,
 ⟨some 12, none, .mov (.t 7)⟩,
 ⟨some 13, none, .bin .lss (.t 11) (.t 12)⟩] [0, 6, 7, 13]) (
 .cond (.t 13) (
 .skip) (
 .exit 0))) (
 .block 1 (
 .seq (
 .drw [
 ⟨some 14, none, .mov (.t 0)⟩,
 ⟨some 15, none, .mov (.t 6)⟩,
 ⟨some 16, none, .mov (.t 0)⟩,
 ⟨some 17, none, .mov (.t 7)⟩,
 ⟨some 18, none, .mov (.t 0)⟩,
 ⟨some 19, none, .mov (.t 7)⟩,
 ⟨some 20, none, .ixa (.t 18) (.t 19) 1 none⟩,
 ⟨some 21, none, .load (.t 20) 1 false⟩,
 ⟨some 22, none, .mov (.t 0)⟩,
 ⟨some 23, none, .mov (.t 6)⟩,
 ⟨some 24, none, .ixa (.t 22) (.t 23) 1 none⟩,
 ⟨some 25, none, .load (.t 24) 1 false⟩,
 ⟨some 26, none, .ixa (.t 14) (.t 15) 1 none⟩,
 ⟨none, none, .store (.t 26) (.t 21) 1⟩,
 ⟨some 27, none, .ixa (.t 16) (.t 17) 1 none⟩,
 ⟨none, none, .store (.t 27) (.t 25) 1⟩] [] [] [0, 6, 7]) (
 .seq (
 .reg [
 ⟨some 28, none, .mov (.t 6)⟩,
 ⟨some 29, none, .bin .add (.t 28) (.k (.s (.int .i64 1)))⟩,
 ⟨some 6, none, .mov (.t 29)⟩] [0, 6, 7]) (
 .reg [
 ⟨some 30, none, .mov (.t 7)⟩,
 ⟨some 31, none, .bin .sub (.t 30) (.k (.s (.int .i64 1)))⟩,
 ⟨some 7, none, .mov (.t 31)⟩] [0, 6, 7])))))))),
 [], none⟩

/-- slices.partialInsertionSortOrdered[uint64] -/
def F172 : FnIR := ⟨133,
 .seq (
 .reg [
 ⟨some 6, none, .mov (.k (.s (.bool false)))⟩] [0, 1, 2]) (
 .seq (
 .reg [
 ⟨some 11, none, .mov (.t 1)⟩,
 ⟨some 12, none, .bin .add (.t 11) (.k (.s (.int .i64 1)))⟩,
 ⟨some 7, none, .mov (.t 12)⟩] [0, 1, 2, 7]) (
 .seq (
 .seq (
 .reg [
 ⟨some 8, none, .mov (.k (.s (.int .i64 0)))⟩] [0, 1, 2, 7, 8]) (
 .block 0 (
 .loop (
 .seq (
 .seq (
 .reg [
 ⟨some 13, none, .mov (.t 8)⟩,
 ⟨some 14, none, .bin .lss (.t 13) (.k (.s (.int .i64 5)))⟩] [0, 1, 2, 7, 8, 14]) (
 .cond (.t 14) (
 .skip) (
 .exit 0))) (
 .seq (
 .block 1 (
 .seq (
 .block 2 (
 .loop (
 .seq (
 .seq (
 .drw [
 ⟨some 17, none, .mov (.t 7)⟩,
 ⟨some 18, none, .mov (.t 2)⟩,
 ⟨some 19, none, .bin .lss (.t 17) (.t 18)⟩,
 ⟨some 20, none, .mov (.t 19)⟩,
 ⟨some 21, some (20, true), .mov (.t 0)⟩,
 ⟨some 22, some (20, true), .mov (.t 7)⟩,
 ⟨some 23, some (20, true), .ixa (.t 21) (.t 22) 1 none⟩,
 ⟨some 24, some (20, true), .load (.t 23) 1 false⟩,
 ⟨some 25, some (20, true), .mov (.t 0)⟩,
 ⟨some 26, some (20, true), .mov (.t 7)⟩,
 ⟨some 27, some (20, true), .bin .sub (.t 26) (.k (.s (.int .i64 1)))⟩,
 ⟨some 28, some (20, true), .ixa (.t 25) (.t 27) 1 none⟩,
 ⟨some 29, some (20, true), .load (.t 28) 1 false⟩,
 ⟨some 30, some (20, true), .call false 173 0 [.t 24, .t 29]⟩,
 ⟨some 31, some (20, true), .un .not (.t 30)⟩,
 ⟨some 32, none, .pick (.t 20) (.t 31) (.k (.s (.bool false)))⟩] [13] [] [0, 1, 2, 7, 8, 32]) (
 .cond (.t 32) (
 .skip) (
 .exit 2))) (
 .block 3 (
 .reg [
 ⟨some 33, none, .mov (.t 7)⟩,
 ⟨some 34, none, .bin .add (.t 33) (.k (.s (.int .i64 1)))⟩,
 ⟨some 7, none, .mov (.t 34)⟩] [0, 1, 2, 7, 8]))))) (
 .seq (
 .seq (
 .reg [
 ⟨some 35, none, .mov (.t 7)⟩,
 ⟨some 36, none, .mov (.t 2)⟩,
 ⟨some 37, none, .bin .eql (.t 35) (.t 36)⟩] [0, 1, 2, 7, 8, 37]) (
 .cond (.t 37) (
 .seq (
 .reg [
 ⟨some 6, none, .mov (.k (.s (.bool true)))⟩] [6]) (
 .ret)) (
 .skip))) (
 .seq (
 .seq (
 .reg [
 ⟨some 38, none, .mov (.t 2)⟩,
 ⟨some 39, none, .mov (.t 1)⟩,
 ⟨some 40, none, .bin .sub (.t 38) (.t 39)⟩,
 ⟨some 41, none, .bin .lss (.t 40) (.k (.s (.int .i64 50)))⟩] [0, 1, 2, 7, 8, 41]) (
 .cond (.t 41) (
 .seq (
 .reg [
 ⟨some 6, none, .mov (.k (.s (.bool false)))⟩] [6]) (
 .ret)) (
 .skip))) (
 .seq (
 .drw [
 ⟨some 42, none, .mov (.t 0)⟩,
 ⟨some 43, none, .mov (.t 7)⟩,
 ⟨some 44, none, .mov (.t 0)⟩,
 ⟨some 45, none, .mov (.t 7)⟩,
 ⟨some 46, none, .bin .sub (.t 45) (.k (.s (.int .i64 1)))⟩,
 ⟨some 47, none, .mov (.t 0)⟩,
 ⟨some 48, none, .mov (.t 7)⟩,
 ⟨some 49, none, .bin .sub (.t 48) (.k (.s (.int .i64 1)))⟩,
 ⟨some 50, none, .ixa (.t 47) (.t 49) 1 none⟩,
 ⟨some 51, none, .load (.t 50) 1 false⟩,
 ⟨some 52, none, .mov (.t 0)⟩,
 ⟨some 53, none, .mov (.t 7)⟩,
 ⟨some 54, none, .ixa (.t 52) (.t 53) 1 none⟩,
 ⟨some 55, none, .load (.t 54) 1 false⟩,
 ⟨some 56, none, .ixa (.t 42) (.t 43) 1 none⟩,
 ⟨none, none, .store (.t 56) (.t 51) 1⟩,
 ⟨some 57, none, .ixa (.t 44) (.t 46) 1 none⟩,
 ⟨none, none, .store (.t 57) (.t 55) 1⟩] [] [] [0, 1, 2, 7, 8]) (
 .seq (
 .seq (
 .reg [
 ⟨some 58, none, .mov (.t 7)⟩,
 ⟨some 59, none, .mov (.t 1)⟩,
 ⟨some 60, none, .bin .sub (.t 58) (.t 59)⟩,
 ⟨some 61, none, .bin .geq (.t 60) (.k (.s (.int .i64 2)))⟩] [0, 1, 2, 7, 8, 61]) (
 .cond (.t 61) (
 .seq (
 .reg [
 ⟨some 62, none, .mov (.t 7)⟩,
 ⟨some 63, none, .bin .sub (.t 62) (.k (.s (.int .i64 1)))⟩,
 ⟨some 9, none, .mov (.t 63)⟩] [0, 1, 2, 7, 8, 9]) (
 .block 4 (
 .loop (
 .seq (
 .seq (
 .reg [
 ⟨some 64, none, .mov (.t 9)⟩,
 ⟨some 65, none, .bin .geq (.t 64) (.k (.s (.int .i64 1)))⟩] [0, 1, 2, 7, 8, 9, 65]) (
 .cond (.t 65) (
 .skip) (
 .exit 4))) (
 .seq (
 .block 5 (
 .seq (
 .seq (
 .drw [
 ⟨some 68, none, .mov (.t 0)⟩,
 ⟨some 69, none, .mov (.t 9)⟩,
 ⟨some 70, none, .ixa (.t 68) (.t 69) 1 none⟩,
 ⟨some 71, none, .load (.t 70) 1 false⟩,
 ⟨some 72, none, .mov (.t 0)⟩,
 ⟨some 73, none, .mov (.t 9)⟩,
 ⟨some 74, none, .bin .sub (.t 73) (.k (.s (.int .i64 1)))⟩,
 ⟨some 75, none, .ixa (.t 72) (.t 74) 1 none⟩,
 ⟨some 76, none, .load (.t 75) 1 false⟩,
 ⟨some 77, none, .call false 173 0 [.t 71, .t 76]⟩,
 ⟨some 78, none, .un .not (.t 77)⟩] [9] [] [0, 1, 2, 7, 8, 9, 78]) (
 .cond (.t 78) (
 .exit 4) (
 .skip))) (
 .drw [
 ⟨some 79, none, .mov (.t 0)⟩,
 ⟨some 80, none, .mov (.t 9)⟩,
 ⟨some 81, none, .mov (.t 0)⟩,
 ⟨some 82, none, .mov (.t 9)⟩,
 ⟨some 83, none, .bin .sub (.t 82) (.k (.s (.int .i64 1)))⟩,
 ⟨some 84, none, .mov (.t 0)⟩,
 ⟨some 85, none, .mov (.t 9)⟩,
 ⟨some 86, none, .bin .sub (.t 85) (.k (.s (.int .i64 1)))⟩,
 ⟨some 87, none, .ixa (.t 84) (.t 86) 1 none⟩,
 ⟨some 88, none, .load (.t 87) 1 false⟩,
 ⟨some 89, none, .mov (.t 0)⟩,
 ⟨some 90, none, .mov (.t 9)⟩,
 ⟨some 91, none, .ixa (.t 89) (.t 90) 1 none⟩,
 ⟨some 92, none, .load (.t 91) 1 false⟩,
 ⟨some 93, none, .ixa (.t 79) (.t 80) 1 none⟩,
 ⟨none, none, .store (.t 93) (.t 88) 1⟩,
 ⟨some 94, none, .ixa (.t 81) (.t 83) 1 none⟩,
 ⟨none, none, .store (.t 94) (.t 92) 1⟩] [] [] [0, 1, 2, 7, 8, 9]))) (
 .reg [
 ⟨some 66, none, .mov (.t 9)⟩,
 ⟨some 67, none, .bin .sub (.t 66) (.k (.s (.int .i64 1)))⟩,
 ⟨some 9, none, .mov (.t 67)⟩] [0, 1, 2, 7, 8, 9])))))) (
 .skip))) (
 .seq (
 .reg [
 ⟨some 95, none, .mov (.t 2)⟩,
 ⟨some 96, none, .mov (.t 7)⟩,
 ⟨some 97, none, .bin .sub (.t 95) (.t 96)⟩,
 ⟨some 98, none, .bin .geq (.t 97) (.k (.s (.int .i64 2)))⟩] [0, 1, 2, 7, 8, 98]) (
 .cond (.t 98) (
 .seq (
 .reg [
 ⟨some 99, none, .mov (.t 7)⟩,
 ⟨some 100, none, .bin .add (.t 99) (.k (.s (.int .i64 1)))⟩,
 ⟨some 10, none, .mov (.t 100)⟩] [0, 1, 2, 7, 8, 10]) (
 .block 6 (
 .loop (
 .seq (
 .seq (
 .reg [
 ⟨some 101, none, .mov (.t 10)⟩,
 ⟨some 102, none, .mov (.t 2)⟩,
 ⟨some 103, none, .bin .lss (.t 101) (.t 102)⟩] [0, 1, 2, 7, 8, 10, 103]) (
 .cond (.t 103) (
 .skip) (
 .exit 6))) (
 .seq (
 .block 7 (
 .seq (
 .seq (
 .drw [
 ⟨some 106, none, .mov (.t 0)⟩,
 ⟨some 107, none, .mov (.t 10)⟩,
 ⟨some 108, none, .ixa (.t 106) (.t 107) 1 none⟩,
 ⟨some 109, none, .load (.t 108) 1 false⟩,
 ⟨some 110, none, .mov (.t 0)⟩,
 ⟨some 111, none, .mov (.t 10)⟩,
 ⟨some 112, none, .bin .sub (.t 111) (.k (.s (.int .i64 1)))⟩,
 ⟨some 113, none, .ixa (.t 110) (.t 112) 1 none⟩,
 ⟨some 114, none, .load (.t 113) 1 false⟩,
 ⟨some 115, none, .call false 173 0 [.t 109, .t 114]⟩,
 ⟨some 116, none, .un .not (.t 115)⟩] [9] [] [0, 1, 2, 7, 8, 10, 116]) (
 .cond (.t 116) (
 .exit 6) (
 .skip))) (
 .drw [
 ⟨some 117, none, .mov (.t 0)⟩,
 ⟨some 118, none, .mov (.t 10)⟩,
 ⟨some 119, none, .mov (.t 0)⟩,
 ⟨some 120, none, .mov (.t 10)⟩,
 ⟨some 121, none, .bin .sub (.t 120) (.k (.s (.int .i64 1)))⟩,
 ⟨some 122, none, .mov (.t 0)⟩,
 ⟨some 123, none, .mov (.t 10)⟩,
 ⟨some 124, none, .bin .sub (.t 123) (.k (.s (.int .i64 1)))⟩,
 ⟨some 125, none, .ixa (.t 122) (.t 124) 1 none⟩,
 ⟨some 126, none, .load (.t 125) 1 false⟩,
 ⟨some 127, none, .mov (.t 0)⟩,
 ⟨some 128, none, .mov (.t 10)⟩,
 ⟨some 129, none, .ixa (.t 127) (.t 128) 1 none⟩,
 ⟨some 130, none, .load (.t 129) 1 false⟩,
 ⟨some 131, none, .ixa (.t 117) (.t 118) 1 none⟩,
 ⟨none, none, .store (.t 131) (.t 126) 1⟩,
 ⟨some 132, none, .ixa (.t 119) (.t 121) 1 none⟩,
 ⟨none, none, .store (.t 132) (.t 130) 1⟩] [] [] [0, 1, 2, 7, 8, 10]))) (
 .reg [
 ⟨some 104, none, .mov (.t 10)⟩,
 ⟨some 105, none, .bin .add (.t 104) (.k (.s (.int .i64 1)))⟩,
 ⟨some 10, none, .mov (.t 105)⟩] [0, 1, 2, 7, 8, 10])))))) (
 .skip))))))))) (
 .reg [
 ⟨some 15, none, .mov (.t 8)⟩,
 ⟨some 16, none, .bin .add (.t 15) (.k (.s (.int .i64 1)))⟩,
 ⟨some 8, none, .mov (.t 16)⟩] [0, 1, 2, 7, 8])))))) (
 .seq (
 .reg [
 ⟨some 6, none, .mov (.k (.s (.bool false)))⟩] [6]) (
 .ret)))),
 [.t 6], none⟩

/-- cmp.Less[uint64] -/
def F173 : FnIR := ⟨17,
 .seq (
 .reg [
 ⟨some 4, none, .mov (.k (.s (.bool false)))⟩] [0, 1]) (
 .seq (
 .reg [
 ⟨some 5, none, .mov (.t 0)⟩,
 ⟨some 6, none, .call false 166 0 [.t 5]⟩,
 ⟨some 7, none, .mov (.t 6)⟩,
 ⟨some 8, some (7, true), .mov (.t 1)⟩,
 ⟨some 9, some (7, true), .call false 166 0 [.t 8]⟩,
 ⟨some 10, some (7, true), .un .not (.t 9)⟩,
 ⟨some 11, none, .pick (.t 7) (.t 10) (.k (.s (.bool false)))⟩,
 ⟨some 12, none, .mov (.t 11)⟩,
 ⟨some 13, some (12, false), .mov (.t 0)⟩,
 ⟨some 14, some (12, false), .mov (.t 1)⟩,
 ⟨some 15, some (12, false), .bin .lss (.t 13) (.t 14)⟩,
 ⟨some 16, none, .pick (.t 12) (.k (.s (.bool true))) (.t 15)⟩,
 ⟨some 4, none, .mov (.t 16)⟩] [4]) (
 .ret)),
 [.t 4], none⟩

/-- slices.partitionEqualOrdered[uint64] -/
def F174 : FnIR := ⟨84,
 .seq (
 .reg [
 ⟨some 8, none, .mov (.k (.s (.int .i64 0)))⟩] [0, 1, 2, 3]) (
 .seq (
 .drw [
 ⟨some 11, none, .mov (.t 0)⟩,
 ⟨some 12, none, .mov (.t 1)⟩,
 ⟨some 13, none, .mov (.t 0)⟩,
 ⟨some 14, none, .mov (.t 3)⟩,
 ⟨some 15, none, .mov (.t 0)⟩,
 ⟨some 16, none, .mov (.t 3)⟩,
 ⟨some 17, none, .ixa (.t 15) (.t 16) 1 none⟩,
 ⟨some 18, none, .load (.t 17) 1 false⟩,
 ⟨some 19, none, .mov (.t 0)⟩,
 ⟨some 20, none, .mov (.t 1)⟩,
 ⟨some 21, none, .ixa (.t 19) (.t 20) 1 none⟩,
 ⟨some 22, none, .load (.t 21) 1 false⟩,
 ⟨some 23, none, .ixa (.t 11) (.t 12) 1 none⟩,
 ⟨none, none, .store (.t 23) (.t 18) 1⟩,
 ⟨some 24, none, .ixa (.t 13) (.t 14) 1 none⟩,
 ⟨none, none, .store (.t 24) (.t 22) 1⟩] [] [] [0, 1, 2]) (
 .seq (
 .reg [
 ⟨some 25, none, .mov (.t 1)⟩,
 ⟨some 26, none, .bin .add (.t 25) (.k (.s (.int .i64 1)))⟩,
 ⟨some 27, none, .mov (.t 2)⟩,
 ⟨some 28, none, .bin .sub (.t 27) (.k (.s (.int .i64 1)))⟩,
 ⟨some 9, none, .mov (.t 26)⟩,
 ⟨some 10, none, .mov (.t 28)⟩] [0, 1, 9, 10]) (
 .seq (
 .block 0 (
 .loop (
 .block 1 (
 .seq (
 .block 2 (
 .loop (
 .seq (
 .seq (
 .drw [
 ⟨some 29, none, .mov (.t 9)⟩,
 ⟨some 30, none, .mov (.t 10)⟩,
 ⟨some 31, none, .bin .leq (.t 29) (.t 30)⟩,
 ⟨some 32, none, .mov (.t 31)⟩,
 ⟨some 33, some (32, true), .mov (.t 0)⟩,
 ⟨some 34, some (32, true), .mov (.t 1)⟩,
 ⟨some 35, some (32, true), .ixa (.t 33) (.t 34) 1 none⟩,
 ⟨some 36, some (32, true), .load (.t 35) 1 false⟩,
 ⟨some 37, some (32, true), .mov (.t 0)⟩,
 ⟨some 38, some (32, true), .mov (.t 9)⟩,
 ⟨some 39, some (32, true), .ixa (.t 37) (.t 38) 1 none⟩,
 ⟨some 40, some (32, true), .load (.t 39) 1 false⟩,
 ⟨some 41, some (32, true), .call false 173 0 [.t 36, .t 40]⟩,
 ⟨some 42, some (32, true), .un .not (.t 41)⟩,
 ⟨some 43, none, .pick (.t 32) (.t 42) (.k (.s (.bool false)))⟩] [12] [] [0, 1, 9, 10, 43]) (
 .cond (.t 43) (
 .skip) (
 .exit 2))) (
 .block 3 (
 .reg [
 ⟨some 44, none, .mov (.t 9)⟩,
 ⟨some 45, none, .bin .add (.t 44) (.k (.s (.int .i64 1)))⟩,
 ⟨some 9, none, .mov (.t 45)⟩] [0, 1, 9, 10]))))) (
 .seq (
 .block 4 (
 .loop (
 .seq (
 .seq (
 .drw [
 ⟨some 46, none, .mov (.t 9)⟩,
 ⟨some 47, none, .mov (.t 10)⟩,
 ⟨some 48, none, .bin .leq (.t 46) (.t 47)⟩,
 ⟨some 49, none, .mov (.t 48)⟩,
 ⟨some 50, some (49, true), .mov (.t 0)⟩,
 ⟨some 51, some (49, true), .mov (.t 1)⟩,
 ⟨some 52, some (49, true), .ixa (.t 50) (.t 51) 1 none⟩,
 ⟨some 53, some (49, true), .load (.t 52) 1 false⟩,
 ⟨some 54, some (49, true), .mov (.t 0)⟩,
 ⟨some 55, some (49, true), .mov (.t 10)⟩,
 ⟨some 56, some (49, true), .ixa (.t 54) (.t 55) 1 none⟩,
 ⟨some 57, some (49, true), .load (.t 56) 1 false⟩,
 ⟨some 58, some (49, true), .call false 173 0 [.t 53, .t 57]⟩,
 ⟨some 59, none, .pick (.t 49) (.t 58) (.k (.s (.bool false)))⟩] [12] [] [0, 1, 9, 10, 59]) (
 .cond (.t 59) (
 .skip) (
 .exit 4))) (
 .block 5 (
 .reg [
 ⟨some 60, none, .mov (.t 10)⟩,
 ⟨some 61, none, .bin .sub (.t 60) (.k (.s (.int .i64 1)))⟩,
 ⟨some 10, none, .mov (.t 61)⟩] [0, 1, 9, 10]))))) (
 .seq (
 .seq (
 .reg [
 ⟨some 62, none, .mov (.t 9)⟩,
 ⟨some 63, none, .mov (.t 10)⟩,
 ⟨some 64, none, .bin .gtr (.t 62) (.t 63)⟩] [0, 1, 9, 10, 64]) (
 .cond (.t 64) (
 .exit 0) (
 .skip))) (
 .seq (
 .drw [
 ⟨some 65, none, .mov (.t 0)⟩,
 ⟨some 66, none, .mov (.t 9)⟩,
 ⟨some 67, none, .mov (.t 0)⟩,
 ⟨some 68, none, .mov (.t 10)⟩,
 ⟨some 69, none, .mov (.t 0)⟩,
 ⟨some 70, none, .mov (.t 10)⟩,
 ⟨some 71, none, .ixa (.t 69) (.t 70) 1 none⟩,
 ⟨some 72, none, .load (.t 71) 1 false⟩,
 ⟨some 73, none, .mov (.t 0)⟩,
 ⟨some 74, none, .mov (.t 9)⟩,
 ⟨some 75, none, .ixa (.t 73) (.t 74) 1 none⟩,
 ⟨some 76, none, .load (.t 75) 1 false⟩,
 ⟨some 77, none, .ixa (.t 65) (.t 66) 1 none⟩,
 ⟨none, none, .store (.t 77) (.t 72) 1⟩,
 ⟨some 78, none, .ixa (.t 67) (.t 68) 1 none⟩,
 ⟨none, none, .store (.t 78) (.t 76) 1⟩] [] [] [0, 1, 9, 10]) (
 .seq (
 .reg [
 ⟨some 79, none, .mov (.t 9)⟩,
 ⟨some 80, none, .bin .add (.t 79) (.k (.s (.int .i64 1)))⟩,
 ⟨some 9, none, .mov (.t 80)⟩] [0, 1, 9, 10]) (
 .reg [
 ⟨some 81, none, .mov (.t 10)⟩,
 ⟨some 82, none, .bin .sub (.t 81) (.k (.s (.int .i64 1)))⟩,
 ⟨some 10, none, .mov (.t 82)⟩] [0, 1, 9, 10]))))))))) (
 .seq (
 .reg [
 ⟨some 83, none, .mov (.t 9)⟩,
 ⟨some 8, none, .mov (.t 83)⟩] [8]) (
 .ret))))),
 [.t 8], none⟩

/-- slices.partitionOrdered[uint64] -/
def F175 : FnIR := ⟨168,
 .seq (
 .reg [
 ⟨some 8, none, .mov (.k (.s (.int .i64 0)))⟩,
 ⟨some 9, none, .mov (.k (.s (.bool false)))⟩] [0, 1, 2, 3]) (
 .seq (
 .drw [
 ⟨some 12, none, .mov (.t 0)⟩,
 ⟨some 13, none, .mov (.t 1)⟩,
 ⟨some 14, none, .mov (.t 0)⟩,
 ⟨some 15, none, .mov (.t 3)⟩,
 ⟨some 16, none, .mov (.t 0)⟩,
 ⟨some 17, none, .mov (.t 3)⟩,
 ⟨some 18, none, .ixa (.t 16) (.t 17) 1 none⟩,
 ⟨some 19, none, .load (.t 18) 1 false⟩,
 ⟨some 20, none, .mov (.t 0)⟩,
 ⟨some 21, none, .mov (.t 1)⟩,
 ⟨some 22, none, .ixa (.t 20) (.t 21) 1 none⟩,
 ⟨some 23, none, .load (.t 22) 1 false⟩,
 ⟨some 24, none, .ixa (.t 12) (.t 13) 1 none⟩,
 ⟨none, none, .store (.t 24) (.t 19) 1⟩,
 ⟨some 25, none, .ixa (.t 14) (.t 15) 1 none⟩,
 ⟨none, none, .store (.t 25) (.t 23) 1⟩] [] [] [0, 1, 2]) (
 .seq (
 .reg [
 ⟨some 26, none, .mov (.t 1)⟩,
 ⟨some 27, none, .bin .add (.t 26) (.k (.s (.int .i64 1)))⟩,
 ⟨some 28, none, .mov (.t 2)⟩,
 ⟨some 29, none, .bin .sub (.t 28) (.k (.s (.int .i64 1)))⟩,
 ⟨some 10, none, .mov (.t 27)⟩,
 ⟨some 11, none, .mov (.t 29)⟩] [0, 1, 10, 11]) (
 .seq (
 .block 0 (
 .loop (
 .seq (
 .seq (
 .drw [
 ⟨some 30, none, .mov (.t 10)⟩,
 ⟨some 31, none, .mov (.t 11)⟩,
 ⟨some 32, none, .bin .leq (.t 30) (.t 31)⟩,
 ⟨some 33, none, .mov (.t 32)⟩,
 ⟨some 34, some (33, true), .mov (.t 0)⟩,
 ⟨some 35, some (33, true), .mov (.t 10)⟩,
 ⟨some 36, some (33, true), .ixa (.t 34) (.t 35) 1 none⟩,
 ⟨some 37, some (33, true), .load (.t 36) 1 false⟩,
 ⟨some 38, some (33, true), .mov (.t 0)⟩,
 ⟨some 39, some (33, true), .mov (.t 1)⟩,
 ⟨some 40, some (33, true), .ixa (.t 38) (.t 39) 1 none⟩,
 ⟨some 41, some (33, true), .load (.t 40) 1 false⟩,
 ⟨some 42, some (33, true), .call false 173 0 [.t 37, .t 41]⟩,
 ⟨some 43, none, .pick (.t 33) (.t 42) (.k (.s (.bool false)))⟩] [12] [] [0, 1, 10, 11, 43]) (
 .cond (.t 43) (
 .skip) (
 .exit 0))) (
 .block 1 (
 .reg [
 ⟨some 44, none, .mov (.t 10)⟩,
 ⟨some 45, none, .bin .add (.t 44) (.k (.s (.int .i64 1)))⟩,
 ⟨some 10, none, .mov (.t 45)⟩] [0, 1, 10, 11]))))) (
 .seq (
 .block 2 (
 .loop (
 .seq (
 .seq (
 .drw [
 ⟨some 46, none, .mov (.t 10)⟩,
 ⟨some 47, none, .mov (.t 11)⟩,
 ⟨some 48, none, .bin .leq (.t 46) (.t 47)⟩,
 ⟨some 49, none, .mov (.t 48)⟩,
 ⟨some 50, some (49, true), .mov (.t 0)⟩,
 ⟨some 51, some (49, true), .mov (.t 11)⟩,
 ⟨some 52, some (49, true), .ixa (.t 50) (.t 51) 1 none⟩,
 ⟨some 53, some (49, true), .load (.t 52) 1 false⟩,
 ⟨some 54, some (49, true), .mov (.t 0)⟩,
 ⟨some 55, some (49, true), .mov (.t 1)⟩,
 ⟨some 56, some (49, true), .ixa (.t 54) (.t 55) 1 none⟩,
 ⟨some 57, some (49, true), .load (.t 56) 1 false⟩,
 ⟨some 58, some (49, true), .call false 173 0 [.t 53, .t 57]⟩,
 ⟨some 59, some (49, true), .un .not (.t 58)⟩,
 ⟨some 60, none, .pick (.t 49) (.t 59) (.k (.s (.bool false)))⟩] [12] [] [0, 1, 10, 11, 60]) (
 .cond (.t 60) (
 .skip) (
 .exit 2))) (
 .block 3 (
 .reg [
 ⟨some 61, none, .mov (.t 11)⟩,
 ⟨some 62, none, .bin .sub (.t 61) (.k (.s (.int .i64 1)))⟩,
 ⟨some 11, none, .mov (.t 62)⟩] [0, 1, 10, 11]))))) (
 .seq (
 .seq (
 .reg [
 ⟨some 63, none, .mov (.t 10)⟩,
 ⟨some 64, none, .mov (.t 11)⟩,
 ⟨some 65, none, .bin .gtr (.t 63) (.t 64)⟩] [0, 1, 10, 11, 65]) (
 .cond (.t 65) (
 .seq (
 .drw [
 ⟨some 66, none, .mov (.t 0)⟩,
 ⟨some 67, none, .mov (.t 11)⟩,
 ⟨some 68, none, .mov (.t 0)⟩,
 ⟨some 69, none, .mov (.t 1)⟩,
 ⟨some 70, none, .mov (.t 0)⟩,
 ⟨some 71, none, .mov (.t 1)⟩,
 ⟨some 72, none, .ixa (.t 70) (.t 71) 1 none⟩,
 ⟨some 73, none, .load (.t 72) 1 false⟩,
 ⟨some 74, none, .mov (.t 0)⟩,
 ⟨some 75, none, .mov (.t 11)⟩,
 ⟨some 76, none, .ixa (.t 74) (.t 75) 1 none⟩,
 ⟨some 77, none, .load (.t 76) 1 false⟩,
 ⟨some 78, none, .ixa (.t 66) (.t 67) 1 none⟩,
 ⟨none, none, .store (.t 78) (.t 73) 1⟩,
 ⟨some 79, none, .ixa (.t 68) (.t 69) 1 none⟩,
 ⟨none, none, .store (.t 79) (.t 77) 1⟩] [] [] [11]) (
 .seq (
 .reg [
 ⟨some 80, none, .mov (.t 11)⟩,
 ⟨some 8, none, .mov (.t 80)⟩,
 ⟨some 9, none, .mov (.k (.s (.bool true)))⟩] [8, 9]) (
 .ret))) (
 .skip))) (
 .seq (
 .drw [
 ⟨some 81, none, .mov (.t 0)⟩,
 ⟨some 82, none, .mov (.t 10)⟩,
 ⟨some 83, none, .mov (.t 0)⟩,
 ⟨some 84, none, .mov (.t 11)⟩,
 ⟨some 85, none, .mov (.t 0)⟩,
 ⟨some 86, none, .mov (.t 11)⟩,
 ⟨some 87, none, .ixa (.t 85) (.t 86) 1 none⟩,
 ⟨some 88, none, .load (.t 87) 1 false⟩,
 ⟨some 89, none, .mov (.t 0)⟩,
 ⟨some 90, none, .mov (.t 10)⟩,
 ⟨some 91, none, .ixa (.t 89) (.t 90) 1 none⟩,
 ⟨some 92, none, .load (.t 91) 1 false⟩,
 ⟨some 93, none, .ixa (.t 81) (.t 82) 1 none⟩,
 ⟨none, none, .store (.t 93) (.t 88) 1⟩,
 ⟨some 94, none, .ixa (.t 83) (.t 84) 1 none⟩,
 ⟨none, none, .store (.t 94) (.t 92) 1⟩] [] [] [0, 1, 10, 11]) (
 .seq (
 .reg [
 ⟨some 95, none, .mov (.t 10)⟩,
 ⟨some 96, none, .bin .add (.t 95) (.k (.s (.int .i64 1)))⟩,
 ⟨some 10, none, .mov (.t 96)⟩] [0, 1, 10, 11]) (
 .seq (
 .reg [
 ⟨some 97, none, .mov (.t 11)⟩,
 ⟨some 98, none, .bin .sub (.t 97) (.k (.s (.int .i64 1)))⟩,
 ⟨some 11, none, .mov (.t 98)⟩] [0, 1, 10, 11]) (
 .seq (
 .block 4 (
 .loop (
 .block 5 (
 .seq (
 .block 6 (
 .loop (
 .seq (
 .seq (
 .drw [
 ⟨some 99, none, .mov (.t 10)⟩,
 ⟨some 100, none, .mov (.t 11)⟩,
 ⟨some 101, none, .bin .leq (.t 99) (.t 100)⟩,
 ⟨some 102, none, .mov (.t 101)⟩,
 ⟨some 103, some (102, true), .mov (.t 0)⟩,
 ⟨some 104, some (102, true), .mov (.t 10)⟩,
 ⟨some 105, some (102, true), .ixa (.t 103) (.t 104) 1 none⟩,
 ⟨some 106, some (102, true), .load (.t 105) 1 false⟩,
 ⟨some 107, some (102, true), .mov (.t 0)⟩,
 ⟨some 108, some (102, true), .mov (.t 1)⟩,
 ⟨some 109, some (102, true), .ixa (.t 107) (.t 108) 1 none⟩,
 ⟨some 110, some (102, true), .load (.t 109) 1 false⟩,
 ⟨some 111, some (102, true), .call false 173 0 [.t 106, .t 110]⟩,
 ⟨some 112, none, .pick (.t 102) (.t 111) (.k (.s (.bool false)))⟩] [12] [] [0, 1, 10, 11, 112]) (
 .cond (.t 112) (
 .skip) (
 .exit 6))) (
 .block 7 (
 .reg [
 ⟨some 113, none, .mov (.t 10)⟩,
 ⟨some 114, none, .bin .add (.t 113) (.k (.s (.int .i64 1)))⟩,
 ⟨some 10, none, .mov (.t 114)⟩] [0, 1, 10, 11]))))) (
 .seq (
 .block 8 (
 .loop (
 .seq (
 .seq (
 .drw [
 ⟨some 115, none, .mov (.t 10)⟩,
 ⟨some 116, none, .mov (.t 11)⟩,
 ⟨some 117, none, .bin .leq (.t 115) (.t 116)⟩,
 ⟨some 118, none, .mov (.t 117)⟩,
 ⟨some 119, some (118, true), .mov (.t 0)⟩,
 ⟨some 120, some (118, true), .mov (.t 11)⟩,
 ⟨some 121, some (118, true), .ixa (.t 119) (.t 120) 1 none⟩,
 ⟨some 122, some (118, true), .load (.t 121) 1 false⟩,
 ⟨some 123, some (118, true), .mov (.t 0)⟩,
 ⟨some 124, some (118, true), .mov (.t 1)⟩,
 ⟨some 125, some (118, true), .ixa (.t 123) (.t 124) 1 none⟩,
 ⟨some 126, some (118, true), .load (.t 125) 1 false⟩,
 ⟨some 127, some (118, true), .call false 173 0 [.t 122, .t 126]⟩,
 ⟨some 128, some (118, true), .un .not (.t 127)⟩,
 ⟨some 129, none, .pick (.t 118) (.t 128) (.k (.s (.bool false)))⟩] [12] [] [0, 1, 10, 11, 129]) (
 .cond (.t 129) (
 .skip) (
 .exit 8))) (
 .block 9 (
 .reg [
 ⟨some 130, none, .mov (.t 11)⟩,
 ⟨some 131, none, .bin .sub (.t 130) (.k (.s (.int .i64 1)))⟩,
 ⟨some 11, none, .mov (.t 131)⟩] [0, 1, 10, 11]))))) (
 .seq (
 .seq (
 .reg [
 ⟨some 132, none, .mov (.t 10)⟩,
 ⟨some 133, none, .mov (.t 11)⟩,
 ⟨some 134, none, .bin .gtr (.t 132) (.t 133)⟩] [0, 1, 10, 11, 134]) (
 .cond (.t 134) (
 .exit 4) (
 .skip))) (
 .seq (
 .drw [
 ⟨some 135, none, .mov (.t 0)⟩,
 ⟨some 136, none, .mov (.t 10)⟩,
 ⟨some 137, none, .mov (.t 0)⟩,
 ⟨some 138, none, .mov (.t 11)⟩,
 ⟨some 139, none, .mov (.t 0)⟩,
 ⟨some 140, none, .mov (.t 11)⟩,
 ⟨some 141, none, .ixa (.t 139) (.t 140) 1 none⟩,
 ⟨some 142, none, .load (.t 141) 1 false⟩,
 ⟨some 143, none, .mov (.t 0)⟩,
 ⟨some 144, none, .mov (.t 10)⟩,
 ⟨some 145, none, .ixa (.t 143) (.t 144) 1 none⟩,
 ⟨some 146, none, .load (.t 145) 1 false⟩,
 ⟨some 147, none, .ixa (.t 135) (.t 136) 1 none⟩,
 ⟨none, none, .store (.t 147) (.t 142) 1⟩,
 ⟨some 148, none, .ixa (.t 137) (.t 138) 1 none⟩,
 ⟨none, none, .store (.t 148) (.t 146) 1⟩] [] [] [0, 1, 10, 11]) (
 .seq (
 .reg [
 ⟨some 149, none, .mov (.t 10)⟩,
 ⟨some 150, none, .bin .add (.t 149) (.k (.s (.int .i64 1)))⟩,
 ⟨some 10, none, .mov (.t 150)⟩] [0, 1, 10, 11]) (
 .reg [
 ⟨some 151, none, .mov (.t 11)⟩,
 ⟨some 152, none, .bin .sub (.t 151) (.k (.s (.int .i64 1)))⟩,
 ⟨some 11, none, .mov (.t 152)⟩] [0, 1, 10, 11]))))))))) (
 .seq (
 .drw [
 ⟨some 153, none, .mov (.t 0)⟩,
 ⟨some 154, none, .mov (.t 11)⟩,
 ⟨some 155, none, .mov (.t 0)⟩,
 ⟨some 156, none, .mov (.t 1)⟩,
 ⟨some 157, none, .mov (.t 0)⟩,
 ⟨some 158, none, .mov (.t 1)⟩,
 ⟨some 159, none, .ixa (.t 157) (.t 158) 1 none⟩,
 ⟨some 160, none, .load (.t 159) 1 false⟩,
 ⟨some 161, none, .mov (.t 0)⟩,
 ⟨some 162, none, .mov (.t 11)⟩,
 ⟨some 163, none, .ixa (.t 161) (.t 162) 1 none⟩,
 ⟨some 164, none, .load (.t 163) 1 false⟩,
 ⟨some 165, none, .ixa (.t 153) (.t 154) 1 none⟩,
 ⟨none, none, .store (.t 165) (.t 160) 1⟩,
 ⟨some 166, none, .ixa (.t 155) (.t 156) 1 none⟩,
 ⟨none, none, .store (.t 166) (.t 164) 1⟩] [] [] [11]) (
 .seq (
 .reg [
 ⟨some 167, none, .mov (.t 11)⟩,
 ⟨some 8, none, .mov (.t 167)⟩,
 ⟨some 9, none, .mov (.k (.s (.bool false)))⟩] [8, 9]) (
 .ret)))))))))))),
 [.t 8, .t 9], none⟩

/-- math/bits.Len32 -/
def F176 : FnIR := ⟨19,
 .seq (
 .reg [
 ⟨some 2, none, .mov (.k (.s (.int .i64 0)))⟩] [0, 2]) (
 .seq (
 .seq (
 .reg [
 ⟨some 3, none, .mov (.t 0)⟩,
 ⟨some 4, none, .bin .geq (.t 3) (.k (.s (.int .u32 65536)))⟩] [0, 2, 4]) (
 .cond (.t 4) (
 .seq (
 .reg [
 ⟨some 5, none, .mov (.t 0)⟩,
 ⟨some 6, none, .bin .shr (.t 5) (.k (.s (.int .u64 16)))⟩,
 ⟨some 0, none, .mov (.t 6)⟩] [0]) (
 .reg [
 ⟨some 2, none, .mov (.k (.s (.int .i64 16)))⟩] [0, 2])) (
 .skip))) (
 .seq (
 .seq (
 .reg [
 ⟨some 7, none, .mov (.t 0)⟩,
 ⟨some 8, none, .bin .geq (.t 7) (.k (.s (.int .u32 256)))⟩] [0, 2, 8]) (
 .cond (.t 8) (
 .seq (
 .reg [
 ⟨some 9, none, .mov (.t 0)⟩,
 ⟨some 10, none, .bin .shr (.t 9) (.k (.s (.int .u64 8)))⟩,
 ⟨some 0, none, .mov (.t 10)⟩] [0, 2]) (
 .reg [
 ⟨some 11, none, .mov (.t 2)⟩,
 ⟨some 12, none, .bin .add (.t 11) (.k (.s (.int .i64 8)))⟩,
 ⟨some 2, none, .mov (.t 12)⟩] [0, 2])) (
 .skip))) (
 .seq (
 .reg [
 ⟨some 13, none, .mov (.t 2)⟩,
 ⟨some 14, none, .mov (.t 0)⟩,
 ⟨some 15, none, .cvi .u8 (.t 14)⟩,
 ⟨some 16, none, .bad⟩,
 ⟨some 17, none, .cvi .i64 (.t 16)⟩,
 ⟨some 18, none, .bin .add (.t 13) (.t 17)⟩,
 ⟨some 2, none, .mov (.t 18)⟩] [2]) (
 .ret)))),
 [.t 2], none⟩

/-- math/bits.Len64 -/
def F177 : FnIR := ⟨25,
 .seq (
 .reg [
 ⟨some 2, none, .mov (.k (.s (.int .i64 0)))⟩] [0, 2]) (
 .seq (
 .seq (
 .reg [
 ⟨some 3, none, .mov (.t 0)⟩,
 ⟨some 4, none, .bin .geq (.t 3) (.k (.s (.int .u64 4294967296)))⟩] [0, 2, 4]) (
 .cond (.t 4) (
 .seq (
 .reg [
 ⟨some 5, none, .mov (.t 0)⟩,
 ⟨some 6, none, .bin .shr (.t 5) (.k (.s (.int .u64 32)))⟩,
 ⟨some 0, none, .mov (.t 6)⟩] [0]) (
 .reg [
 ⟨some 2, none, .mov (.k (.s (.int .i64 32)))⟩] [0, 2])) (
 .skip))) (
 .seq (
 .seq (
 .reg [
 ⟨some 7, none, .mov (.t 0)⟩,
 ⟨some 8, none, .bin .geq (.t 7) (.k (.s (.int .u64 65536)))⟩] [0, 2, 8]) (
 .cond (.t 8) (
 .seq (
 .reg [
 ⟨some 9, none, .mov (.t 0)⟩,
 ⟨some 10, none, .bin .shr (.t 9) (.k (.s (.int .u64 16)))⟩,
 ⟨some 0, none, .mov (.t 10)⟩] [0, 2]) (
 .reg [
 ⟨some 11, none, .mov (.t 2)⟩,
 ⟨some 12, none, .bin .add (.t 11) (.k (.s (.int .i64 16)))⟩,
 ⟨some 2, none, .mov (.t 12)⟩] [0, 2])) (
 .skip))) (
 .seq (
 .seq (
 .reg [
 ⟨some 13, none, .mov (.t 0)⟩,
 ⟨some 14, none, .bin .geq (.t 13) (.k (.s (.int .u64 256)))⟩] [0, 2, 14]) (
 .cond (.t 14) (
 .seq (
 .reg [
 ⟨some 15, none, .mov (.t 0)⟩,
 ⟨some 16, none, .bin .shr (.t 15) (.k (.s (.int .u64 8)))⟩,
 ⟨some 0, none, .mov (.t 16)⟩] [0, 2]) (
 .reg [
 ⟨some 17, none, .mov (.t 2)⟩,
 ⟨some 18, none, .bin .add (.t 17) (.k (.s (.int .i64 8)))⟩,
 ⟨some 2, none, .mov (.t 18)⟩] [0, 2])) (
 .skip))) (
 .seq (
 .reg [
 ⟨some 19, none, .mov (.t 2)⟩,
 ⟨some 20, none, .mov (.t 0)⟩,
 ⟨some 21, none, .cvi .u8 (.t 20)⟩,
 ⟨some 22, none, .bad⟩,
 ⟨some 23, none, .cvi .i64 (.t 22)⟩,
 ⟨some 24, none, .bin .add (.t 19) (.t 23)⟩,
 ⟨some 2, none, .mov (.t 24)⟩] [2]) (
 .ret))))),
 [.t 2], none⟩

/-- bailey/baileyref09.IDs -/
def F178 : FnIR := ⟨64,
 .seq (
 .reg [
 ⟨some 1, none, .bxl (.t 0)⟩,
 ⟨some 2, none, .mov (.k (.lit .nil []))⟩] [1]) (
 .seq (
 .reg [
 ⟨some 12, none, .bsl true 1 false [.s (.int .u64 0)] 0 []⟩,
 ⟨some 3, none, .mov (.t 12)⟩] [1, 3]) (
 .seq (
 .seq (
 .reg [
 ⟨some 13, none, .load (.t 1) 4 true⟩,
 ⟨some 14, none, .mov (.k (.s (.int .i64 0)))⟩] [3, 13, 14]) (
 .block 0 (
 .loop (
 .seq (
 .reg [
 ⟨some 15, none, .bin .lss (.t 14) (.k (.s (.int .i64 2)))⟩] [3, 13, 14, 15]) (
 .seq (
 .cond (.t 15) (
 .skip) (
 .exit 0)) (
 .seq (
 .block 1 (
 .seq (
 .reg [
 ⟨some 16, none, .idx (.t 13) (.t 14) 2 2 true⟩,
 ⟨some 5, none, .alloc [.s (.int .i64 0), .lit .nil []]⟩,
 ⟨none, none, .store (.t 5) (.t 16) 2⟩] [3, 5, 13, 14]) (
 .seq (
 .reg [
 ⟨some 17, none, .fad (.t 5) 1⟩,
 ⟨some 18, none, .load (.t 17) 1 false⟩,
 ⟨some 19, none, .len (.t 18)⟩,
 ⟨some 20, none, .mov (.k (.s (.int .i64 0)))⟩] [3, 13, 14, 18, 19, 20]) (
 .block 2 (
 .loop (
 .seq (
 .reg [
 ⟨some 21, none, .bin .lss (.t 20) (.t 19)⟩] [3, 13, 14, 18, 19, 20, 21]) (
 .seq (
 .cond (.t 21) (
 .skip) (
 .exit 2)) (
 .seq (
 .block 3 (
 .seq (
 .reg [
 ⟨some 22, none, .ixa (.t 18) (.t 20) 2 none⟩,
 ⟨some 23, none, .load (.t 22) 2 true⟩,
 ⟨some 7, none, .alloc [.s (.int .u64 0), .s (.int .i64 0)]⟩,
 ⟨none, none, .store (.t 7) (.t 23) 2⟩] [3, 7, 13, 14, 18, 19, 20]) (
 .seq (
 .reg [
 ⟨some 24, none, .bsl true 1 false [.s (.int .u64 0)] 0 []⟩,
 ⟨some 8, none, .mov (.t 24)⟩] [3, 7, 8, 13, 14, 18, 19, 20]) (
 .seq (
 .reg [
 ⟨some 9, none, .mov (.k (.s (.bool false)))⟩] [3, 7, 8, 9, 13, 14, 18, 19, 20]) (
 .seq (
 .seq (
 .reg [
 ⟨some 25, none, .mov (.t 3)⟩,
 ⟨some 26, none, .len (.t 25)⟩,
 ⟨some 27, none, .mov (.k (.s (.int .i64 0)))⟩] [7, 8, 9, 13, 14, 18, 19, 20, 25, 26, 27]) (
 .block 4 (
 .loop (
 .seq (
 .reg [
 ⟨some 28, none, .bin .lss (.t 27) (.t 26)⟩] [7, 8, 9, 13, 14, 18, 19, 20, 25, 26, 27, 28]) (
 .seq (
 .cond (.t 28) (
 .skip) (
 .exit 4)) (
 .seq (
 .block 5 (
 .seq (
 .reg [
 ⟨some 29, none, .ixa (.t 25) (.t 27) 1 none⟩,
 ⟨some 30, none, .load (.t 29) 1 false⟩,
 ⟨some 11, none, .mov (.t 30)⟩] [7, 8, 9, 11, 13, 14, 18, 19, 20, 25, 26, 27]) (
 .seq (
 .seq (
 .reg [
 ⟨some 31, none, .mov (.t 9)⟩,
 ⟨some 32, none, .un .not (.t 31)⟩,
 ⟨some 33, none, .mov (.t 32)⟩,
 ⟨some 34, some (33, true), .mov (.t 11)⟩,
 ⟨some 35, some (33, true), .fad (.t 7) 0⟩,
 ⟨some 36, some (33, true), .load (.t 35) 1 false⟩,
 ⟨some 37, some (33, true), .bin .geq (.t 34) (.t 36)⟩,
 ⟨some 38, none, .pick (.t 33) (.t 37) (.k (.s (.bool false)))⟩] [7, 8, 9, 11, 13, 14, 18, 19, 20, 25, 26, 27, 38]) (
 .cond (.t 38) (
 .seq (
 .reg [
 ⟨some 39, none, .mov (.t 8)⟩,
 ⟨some 40, none, .fad (.t 7) 0⟩,
 ⟨some 41, none, .load (.t 40) 1 false⟩,
 ⟨some 42, none, .bsl true 1 false [.s (.int .u64 0)] 1 [(0, .t 41)]⟩,
 ⟨some 43, none, .app false (.t 39) (.t 42) 1 8 false⟩,
 ⟨some 8, none, .mov (.t 43)⟩] [7, 8, 11, 13, 14, 18, 19, 20, 25, 26, 27]) (
 .reg [
 ⟨some 9, none, .mov (.k (.s (.bool true)))⟩] [7, 8, 9, 11, 13, 14, 18, 19, 20, 25, 26, 27])) (
 .skip))) (
 .seq (
 .reg [
 ⟨some 44, none, .mov (.t 11)⟩,
 ⟨some 45, none, .fad (.t 7) 0⟩,
 ⟨some 46, none, .load (.t 45) 1 false⟩,
 ⟨some 47, none, .bin .neq (.t 44) (.t 46)⟩] [7, 8, 9, 11, 13, 14, 18, 19, 20, 25, 26, 27, 47]) (
 .cond (.t 47) (
 .reg [
 ⟨some 48, none, .mov (.t 8)⟩,
 ⟨some 49, none, .mov (.t 11)⟩,
 ⟨some 50, none, .bsl true 1 false [.s (.int .u64 0)] 1 [(0, .t 49)]⟩,
 ⟨some 51, none, .app false (.t 48) (.t 50) 1 8 false⟩,
 ⟨some 8, none, .mov (.t 51)⟩] [7, 8, 9, 13, 14, 18, 19, 20, 25, 26, 27]) (
 .skip)))))) (
 .reg [
 ⟨some 52, none, .bin .add (.t 27) (.k (.s (.int .i64 1)))⟩,
 ⟨some 27, none, .mov (.t 52)⟩] [7, 8, 9, 13, 14, 18, 19, 20, 25, 26, 27]))))))) (
 .seq (
 .seq (
 .reg [
 ⟨some 53, none, .mov (.t 9)⟩,
 ⟨some 54, none, .un .not (.t 53)⟩] [7, 8, 13, 14, 18, 19, 20, 54]) (
 .cond (.t 54) (
 .reg [
 ⟨some 55, none, .mov (.t 8)⟩,
 ⟨some 56, none, .fad (.t 7) 0⟩,
 ⟨some 57, none, .load (.t 56) 1 false⟩,
 ⟨some 58, none, .bsl true 1 false [.s (.int .u64 0)] 1 [(0, .t 57)]⟩,
 ⟨some 59, none, .app false (.t 55) (.t 58) 1 8 false⟩,
 ⟨some 8, none, .mov (.t 59)⟩] [8, 13, 14, 18, 19, 20]) (
 .skip))) (
 .reg [
 ⟨some 60, none, .mov (.t 8)⟩,
 ⟨some 3, none, .mov (.t 60)⟩] [3, 13, 14, 18, 19, 20]))))))) (
 .reg [
 ⟨some 61, none, .bin .add (.t 20) (.k (.s (.int .i64 1)))⟩,
 ⟨some 20, none, .mov (.t 61)⟩] [3, 13, 14, 18, 19, 20]))))))))) (
 .reg [
 ⟨some 62, none, .bin .add (.t 14) (.k (.s (.int .i64 1)))⟩,
 ⟨some 14, none, .mov (.t 62)⟩] [3, 13, 14]))))))) (
 .seq (
 .reg [
 ⟨some 63, none, .mov (.t 3)⟩,
 ⟨some 2, none, .mov (.t 63)⟩] [2]) (
 .ret)))),
 [.t 2], none⟩

/-- bailey/baileyref09.Level -/
def F179 : FnIR := ⟨23,
 .seq (
 .reg [
 ⟨some 2, none, .bxl (.t 0)⟩,
 ⟨some 4, none, .mov (.k (.s (.int .i64 0)))⟩] [1, 2]) (
 .seq (
 .seq (
 .reg [
 ⟨some 7, none, .fad (.t 2) 1⟩,
 ⟨some 8, none, .load (.t 7) 1 false⟩,
 ⟨some 9, none, .len (.t 8)⟩,
 ⟨some 10, none, .mov (.k (.s (.int .i64 0)))⟩] [1, 2, 8, 9, 10]) (
 .block 0 (
 .loop (
 .seq (
 .reg [
 ⟨some 11, none, .bin .lss (.t 10) (.t 9)⟩] [1, 2, 8, 9, 10, 11]) (
 .seq (
 .cond (.t 11) (
 .skip) (
 .exit 0)) (
 .seq (
 .block 1 (
 .seq (
 .reg [
 ⟨some 12, none, .ixa (.t 8) (.t 10) 2 none⟩,
 ⟨some 13, none, .load (.t 12) 2 true⟩,
 ⟨some 6, none, .alloc [.s (.int .u64 0), .s (.int .i64 0)]⟩,
 ⟨none, none, .store (.t 6) (.t 13) 2⟩] [1, 2, 6, 8, 9, 10]) (
 .seq (
 .reg [
 ⟨some 14, none, .fad (.t 6) 0⟩,
 ⟨some 15, none, .load (.t 14) 1 false⟩,
 ⟨some 16, none, .mov (.t 1)⟩,
 ⟨some 17, none, .bin .eql (.t 15) (.t 16)⟩] [1, 2, 6, 8, 9, 10, 17]) (
 .cond (.t 17) (
 .seq (
 .reg [
 ⟨some 18, none, .fad (.t 6) 1⟩,
 ⟨some 19, none, .load (.t 18) 1 false⟩,
 ⟨some 4, none, .mov (.t 19)⟩] [4]) (
 .ret)) (
 .skip))))) (
 .reg [
 ⟨some 20, none, .bin .add (.t 10) (.k (.s (.int .i64 1)))⟩,
 ⟨some 10, none, .mov (.t 20)⟩] [1, 2, 8, 9, 10]))))))) (
 .seq (
 .reg [
 ⟨some 21, none, .fad (.t 2) 0⟩,
 ⟨some 22, none, .load (.t 21) 1 false⟩,
 ⟨some 4, none, .mov (.t 22)⟩] [4]) (
 .ret))),
 [.t 4], none⟩

/-- slices.SortStableFunc[[]bailey/api.Cat,bailey/api.Cat] -/
def F180 : FnIR := ⟨9,
 .reg [
 ⟨some 4, none, .mov (.t 0)⟩,
 ⟨some 5, none, .mov (.t 0)⟩,
 ⟨some 6, none, .len (.t 5)⟩,
 ⟨some 7, none, .mov (.t 1)⟩,
 ⟨some 8, none, .call true 223 0 [.t 4, .t 6, .t 7]⟩] [],
 [], none⟩

/-- bailey/label.Make$1 -/
def F181 : FnIR := ⟨10,
 .seq (
 .reg [
 ⟨some 2, none, .bxl (.t 0)⟩,
 ⟨some 3, none, .bxl (.t 1)⟩,
 ⟨some 4, none, .mov (.k (.s (.int .i64 0)))⟩] [2, 3]) (
 .seq (
 .reg [
 ⟨some 5, none, .fad (.t 2) 0⟩,
 ⟨some 6, none, .load (.t 5) 1 false⟩,
 ⟨some 7, none, .fad (.t 3) 0⟩,
 ⟨some 8, none, .load (.t 7) 1 false⟩,
 ⟨some 9, none, .call false 107 0 [.t 6, .t 8]⟩,
 ⟨some 4, none, .mov (.t 9)⟩] [4]) (
 .ret)),
 [.t 4], none⟩

/-- slices.CompactFunc[[]bailey/api.Cat,bailey/api.Cat] -/
def F182 : FnIR := ⟨66,
 .seq (
 .reg [
 ⟨some 4, none, .mov (.k (.lit .nil []))⟩] [0, 1]) (
 .seq (
 .seq (
 .reg [
 ⟨some 8, none, .mov (.t 0)⟩,
 ⟨some 9, none, .len (.t 8)⟩,
 ⟨some 10, none, .bin .lss (.t 9) (.k (.s (.int .i64 2)))⟩] [0, 1, 10]) (
 .cond (.t 10) (
 .seq (
 .reg [
 ⟨some 11, none, .mov (.t 0)⟩,
 ⟨some 4, none, .mov (.t 11)⟩] [4]) (
 .ret)) (
 .skip))) (
 .seq (
 .seq (
 .reg [
 ⟨some 5, none, .mov (.k (.s (.int .i64 1)))⟩] [0, 1, 5]) (
 .block 0 (
 .loop (
 .seq (
 .seq (
 .reg [
 ⟨some 12, none, .mov (.t 5)⟩,
 ⟨some 13, none, .mov (.t 0)⟩,
 ⟨some 14, none, .len (.t 13)⟩,
 ⟨some 15, none, .bin .lss (.t 12) (.t 14)⟩] [0, 1, 5, 15]) (
 .cond (.t 15) (
 .skip) (
 .exit 0))) (
 .seq (
 .block 1 (
 .seq (
 .drw [
 ⟨some 18, none, .mov (.t 1)⟩,
 ⟨some 19, none, .mov (.t 0)⟩,
 ⟨some 20, none, .mov (.t 5)⟩,
 ⟨some 21, none, .ixa (.t 19) (.t 20) 2 none⟩,
 ⟨some 22, none, .load (.t 21) 2 true⟩,
 ⟨some 23, none, .mov (.t 0)⟩,
 ⟨some 24, none, .mov (.t 5)⟩,
 ⟨some 25, none, .bin .sub (.t 24) (.k (.s (.int .i64 1)))⟩,
 ⟨some 26, none, .ixa (.t 23) (.t 25) 2 none⟩,
 ⟨some 27, none, .load (.t 26) 2 true⟩,
 ⟨some 28, none, .clv false (.t 18) [.t 22, .t 27]⟩] [10] [] [0, 1, 5, 28]) (
 .cond (.t 28) (
 .seq (
 .reg [
 ⟨some 29, none, .mov (.t 0)⟩,
 ⟨some 30, none, .mov (.t 5)⟩,
 ⟨some 31, none, .slc (.t 29) (some (.t 30)) none none 2 true⟩,
 ⟨some 6, none, .mov (.t 31)⟩] [0, 1, 5, 6]) (
 .seq (
 .seq (
 .reg [
 ⟨some 7, none, .mov (.k (.s (.int .i64 1)))⟩] [0, 1, 5, 6, 7]) (
 .block 2 (
 .loop (
 .seq (
 .seq (
 .reg [
 ⟨some 32, none, .mov (.t 7)⟩,
 ⟨some 33, none, .mov (.t 6)⟩,
 ⟨some 34, none, .len (.t 33)⟩,
 ⟨some 35, none, .bin .lss (.t 32) (.t 34)⟩] [0, 1, 5, 6, 7, 35]) (
 .cond (.t 35) (
 .skip) (
 .exit 2))) (
 .seq (
 .block 3 (
 .seq (
 .drw [
 ⟨some 38, none, .mov (.t 1)⟩,
 ⟨some 39, none, .mov (.t 6)⟩,
 ⟨some 40, none, .mov (.t 7)⟩,
 ⟨some 41, none, .ixa (.t 39) (.t 40) 2 none⟩,
 ⟨some 42, none, .load (.t 41) 2 true⟩,
 ⟨some 43, none, .mov (.t 6)⟩,
 ⟨some 44, none, .mov (.t 7)⟩,
 ⟨some 45, none, .bin .sub (.t 44) (.k (.s (.int .i64 1)))⟩,
 ⟨some 46, none, .ixa (.t 43) (.t 45) 2 none⟩,
 ⟨some 47, none, .load (.t 46) 2 true⟩,
 ⟨some 48, none, .clv false (.t 38) [.t 42, .t 47]⟩,
 ⟨some 49, none, .un .not (.t 48)⟩] [10] [] [0, 1, 5, 6, 7, 49]) (
 .cond (.t 49) (
 .seq (
 .reg [
 ⟨some 50, none, .mov (.t 0)⟩,
 ⟨some 51, none, .mov (.t 5)⟩,
 ⟨some 52, none, .mov (.t 6)⟩,
 ⟨some 53, none, .mov (.t 7)⟩,
 ⟨some 54, none, .ixa (.t 52) (.t 53) 2 none⟩,
 ⟨some 55, none, .load (.t 54) 2 true⟩,
 ⟨some 56, none, .ixa (.t 50) (.t 51) 2 none⟩,
 ⟨none, none, .store (.t 56) (.t 55) 2⟩] [0, 1, 5, 6, 7]) (
 .reg [
 ⟨some 57, none, .mov (.t 5)⟩,
 ⟨some 58, none, .bin .add (.t 57) (.k (.s (.int .i64 1)))⟩,
 ⟨some 5, none, .mov (.t 58)⟩] [0, 1, 5, 6, 7])) (
 .skip)))) (
 .reg [
 ⟨some 36, none, .mov (.t 7)⟩,
 ⟨some 37, none, .bin .add (.t 36) (.k (.s (.int .i64 1)))⟩,
 ⟨some 7, none, .mov (.t 37)⟩] [0, 1, 5, 6, 7])))))) (
 .seq (
 .reg [
 ⟨some 59, none, .mov (.t 0)⟩,
 ⟨some 60, none, .mov (.t 5)⟩,
 ⟨some 61, none, .slc (.t 59) (some (.t 60)) none none 2 true⟩,
 ⟨none, none, .clr (.t 61) 2 [.s (.int .u64 0), .s (.int .i64 0)]⟩] [0, 5]) (
 .seq (
 .reg [
 ⟨some 62, none, .mov (.t 0)⟩,
 ⟨some 63, none, .mov (.t 5)⟩,
 ⟨some 64, none, .slc (.t 62) none (some (.t 63)) none 2 true⟩,
 ⟨some 4, none, .mov (.t 64)⟩] [4]) (
 .ret))))) (
 .skip)))) (
 .reg [
 ⟨some 16, none, .mov (.t 5)⟩,
 ⟨some 17, none, .bin .add (.t 16) (.k (.s (.int .i64 1)))⟩,
 ⟨some 5, none, .mov (.t 17)⟩] [0, 1, 5])))))) (
 .seq (
 .reg [
 ⟨some 65, none, .mov (.t 0)⟩,
 ⟨some 4, none, .mov (.t 65)⟩] [4]) (
 .ret)))),
 [.t 4], none⟩

/-- bailey/label.Make$2 -/
def F183 : FnIR := ⟨10,
 .seq (
 .reg [
 ⟨some 2, none, .bxl (.t 0)⟩,
 ⟨some 3, none, .bxl (.t 1)⟩,
 ⟨some 4, none, .mov (.k (.s (.bool false)))⟩] [2, 3]) (
 .seq (
 .reg [
 ⟨some 5, none, .fad (.t 2) 0⟩,
 ⟨some 6, none, .load (.t 5) 1 false⟩,
 ⟨some 7, none, .fad (.t 3) 0⟩,
 ⟨some 8, none, .load (.t 7) 1 false⟩,
 ⟨some 9, none, .bin .eql (.t 6) (.t 8)⟩,
 ⟨some 4, none, .mov (.t 9)⟩] [4]) (
 .ret)),
 [.t 4], none⟩

/-- slices.DeleteFunc[[]bailey/api.Cat,bailey/api.Cat] -/
def F184 : FnIR := ⟨42,
 .seq (
 .reg [
 ⟨some 4, none, .mov (.k (.lit .nil []))⟩] [0, 1]) (
 .seq (
 .reg [
 ⟨some 8, none, .mov (.t 0)⟩,
 ⟨some 9, none, .mov (.t 1)⟩,
 ⟨some 10, none, .call false 186 0 [.t 8, .t 9]⟩,
 ⟨some 5, none, .mov (.t 10)⟩] [0, 1, 5]) (
 .seq (
 .seq (
 .reg [
 ⟨some 11, none, .mov (.t 5)⟩,
 ⟨some 12, none, .bin .eql (.t 11) (.k (.s (.int .i64 (-1))))⟩] [0, 1, 5, 12]) (
 .cond (.t 12) (
 .seq (
 .reg [
 ⟨some 13, none, .mov (.t 0)⟩,
 ⟨some 4, none, .mov (.t 13)⟩] [4]) (
 .ret)) (
 .skip))) (
 .seq (
 .seq (
 .reg [
 ⟨some 14, none, .mov (.t 5)⟩,
 ⟨some 15, none, .bin .add (.t 14) (.k (.s (.int .i64 1)))⟩,
 ⟨some 6, none, .mov (.t 15)⟩] [0, 1, 5, 6]) (
 .block 0 (
 .loop (
 .seq (
 .seq (
 .reg [
 ⟨some 16, none, .mov (.t 6)⟩,
 ⟨some 17, none, .mov (.t 0)⟩,
 ⟨some 18, none, .len (.t 17)⟩,
 ⟨some 19, none, .bin .lss (.t 16) (.t 18)⟩] [0, 1, 5, 6, 19]) (
 .cond (.t 19) (
 .skip) (
 .exit 0))) (
 .seq (
 .block 1 (
 .seq (
 .reg [
 ⟨some 22, none, .mov (.t 0)⟩,
 ⟨some 23, none, .mov (.t 6)⟩,
 ⟨some 24, none, .ixa (.t 22) (.t 23) 2 none⟩,
 ⟨some 25, none, .load (.t 24) 2 true⟩,
 ⟨some 7, none, .alloc [.s (.int .u64 0), .s (.int .i64 0)]⟩,
 ⟨none, none, .store (.t 7) (.t 25) 2⟩] [0, 1, 5, 6, 7]) (
 .seq (
 .reg [
 ⟨some 26, none, .mov (.t 1)⟩,
 ⟨some 27, none, .load (.t 7) 2 true⟩,
 ⟨some 28, none, .clv false (.t 26) [.t 27]⟩,
 ⟨some 29, none, .un .not (.t 28)⟩] [0, 1, 5, 6, 7, 29]) (
 .cond (.t 29) (
 .seq (
 .reg [
 ⟨some 30, none, .mov (.t 0)⟩,
 ⟨some 31, none, .mov (.t 5)⟩,
 ⟨some 32, none, .load (.t 7) 2 true⟩,
 ⟨some 33, none, .ixa (.t 30) (.t 31) 2 none⟩,
 ⟨none, none, .store (.t 33) (.t 32) 2⟩] [0, 1, 5, 6]) (
 .reg [
 ⟨some 34, none, .mov (.t 5)⟩,
 ⟨some 35, none, .bin .add (.t 34) (.k (.s (.int .i64 1)))⟩,
 ⟨some 5, none, .mov (.t 35)⟩] [0, 1, 5, 6])) (
 .skip))))) (
 .reg [
 ⟨some 20, none, .mov (.t 6)⟩,
 ⟨some 21, none, .bin .add (.t 20) (.k (.s (.int .i64 1)))⟩,
 ⟨some 6, none, .mov (.t 21)⟩] [0, 1, 5, 6])))))) (
 .seq (
 .reg [
 ⟨some 36, none, .mov (.t 0)⟩,
 ⟨some 37, none, .mov (.t 5)⟩,
 ⟨some 38, none, .slc (.t 36) (some (.t 37)) none none 2 true⟩,
 ⟨none, none, .clr (.t 38) 2 [.s (.int .u64 0), .s (.int .i64 0)]⟩] [0, 5]) (
 .seq (
 .reg [
 ⟨some 39, none, .mov (.t 0)⟩,
 ⟨some 40, none, .mov (.t 5)⟩,
 ⟨some 41, none, .slc (.t 39) none (some (.t 40)) none 2 true⟩,
 ⟨some 4, none, .mov (.t 41)⟩] [4]) (
 .ret)))))),
 [.t 4], none⟩

/-- bailey/label.Make$3 -/
def F185 : FnIR := ⟨8,
 .seq (
 .reg [
 ⟨some 2, none, .bxl (.t 0)⟩,
 ⟨some 3, none, .mov (.k (.s (.bool false)))⟩] [1, 2]) (
 .seq (
 .reg [
 ⟨some 4, none, .fad (.t 2) 1⟩,
 ⟨some 5, none, .load (.t 4) 1 false⟩,
 ⟨some 6, none, .load (.t 1) 1 false⟩,
 ⟨some 7, none, .bin .eql (.t 5) (.t 6)⟩,
 ⟨some 3, none, .mov (.t 7)⟩] [3]) (
 .ret)),
 [.t 3], none⟩

/-- slices.IndexFunc[[]bailey/api.Cat,bailey/api.Cat] -/
def F186 : FnIR := ⟨19,
 .seq (
 .reg [
 ⟨some 4, none, .mov (.k (.s (.int .i64 0)))⟩] [0, 1]) (
 .seq (
 .seq (
 .reg [
 ⟨some 6, none, .mov (.t 0)⟩,
 ⟨some 7, none, .len (.t 6)⟩,
 ⟨some 8, none, .mov (.k (.s (.int .i64 0)))⟩] [0, 1, 7, 8]) (
 .block 0 (
 .loop (
 .seq (
 .reg [
 ⟨some 9, none, .bin .lss (.t 8) (.t 7)⟩] [0, 1, 7, 8, 9]) (
 .seq (
 .cond (.t 9) (
 .skip) (
 .exit 0)) (
 .seq (
 .block 1 (
 .seq (
 .reg [
 ⟨some 10, none, .mov (.t 8)⟩,
 ⟨some 5, none, .mov (.t 10)⟩] [0, 1, 5, 7, 8]) (
 .seq (
 .reg [
 ⟨some 11, none, .mov (.t 1)⟩,
 ⟨some 12, none, .mov (.t 0)⟩,
 ⟨some 13, none, .mov (.t 5)⟩,
 ⟨some 14, none, .ixa (.t 12) (.t 13) 2 none⟩,
 ⟨some 15, none, .load (.t 14) 2 true⟩,
 ⟨some 16, none, .clv false (.t 11) [.t 15]⟩] [0, 1, 5, 7, 8, 16]) (
 .cond (.t 16) (
 .seq (
 .reg [
 ⟨some 17, none, .mov (.t 5)⟩,
 ⟨some 4, none, .mov (.t 17)⟩] [4]) (
 .ret)) (
 .skip))))) (
 .reg [
 ⟨some 18, none, .bin .add (.t 8) (.k (.s (.int .i64 1)))⟩,
 ⟨some 8, none, .mov (.t 18)⟩] [0, 1, 7, 8]))))))) (
 .seq (
 .reg [
 ⟨some 4, none, .mov (.k (.s (.int .i64 (-1))))⟩] [4]) (
 .ret))),
 [.t 4], none⟩

/-- slices.IndexFunc[[]uint64,uint64] -/
def F188 : FnIR := ⟨19,
 .seq (
 .reg [
 ⟨some 4, none, .mov (.k (.s (.int .i64 0)))⟩] [0, 1]) (
 .seq (
 .seq (
 .reg [
 ⟨some 6, none, .mov (.t 0)⟩,
 ⟨some 7, none, .len (.t 6)⟩,
 ⟨some 8, none, .mov (.k (.s (.int .i64 0)))⟩] [0, 1, 7, 8]) (
 .block 0 (
 .loop (
 .seq (
 .reg [
 ⟨some 9, none, .bin .lss (.t 8) (.t 7)⟩] [0, 1, 7, 8, 9]) (
 .seq (
 .cond (.t 9) (
 .skip) (
 .exit 0)) (
 .seq (
 .block 1 (
 .seq (
 .reg [
 ⟨some 10, none, .mov (.t 8)⟩,
 ⟨some 5, none, .mov (.t 10)⟩] [0, 1, 5, 7, 8]) (
 .seq (
 .reg [
 ⟨some 11, none, .mov (.t 1)⟩,
 ⟨some 12, none, .mov (.t 0)⟩,
 ⟨some 13, none, .mov (.t 5)⟩,
 ⟨some 14, none, .ixa (.t 12) (.t 13) 1 none⟩,
 ⟨some 15, none, .load (.t 14) 1 false⟩,
 ⟨some 16, none, .clv false (.t 11) [.t 15]⟩] [0, 1, 5, 7, 8, 16]) (
 .cond (.t 16) (
 .seq (
 .reg [
 ⟨some 17, none, .mov (.t 5)⟩,
 ⟨some 4, none, .mov (.t 17)⟩] [4]) (
 .ret)) (
 .skip))))) (
 .reg [
 ⟨some 18, none, .bin .add (.t 8) (.k (.s (.int .i64 1)))⟩,
 ⟨some 8, none, .mov (.t 18)⟩] [0, 1, 7, 8]))))))) (
 .seq (
 .reg [
 ⟨some 4, none, .mov (.k (.s (.int .i64 (-1))))⟩] [4]) (
 .ret))),
 [.t 4], none⟩

/-- slices.IndexFunc[[]bailey/api.Slot,bailey/api.Slot] -/
def F189 : FnIR := ⟨19,
 .seq (
 .reg [
 ⟨some 4, none, .mov (.k (.s (.int .i64 0)))⟩] [0, 1]) (
 .seq (
 .seq (
 .reg [
 ⟨some 6, none, .mov (.t 0)⟩,
 ⟨some 7, none, .len (.t 6)⟩,
 ⟨some 8, none, .mov (.k (.s (.int .i64 0)))⟩] [0, 1, 7, 8]) (
 .block 0 (
 .loop (
 .seq (
 .reg [
 ⟨some 9, none, .bin .lss (.t 8) (.t 7)⟩] [0, 1, 7, 8, 9]) (
 .seq (
 .cond (.t 9) (
 .skip) (
 .exit 0)) (
 .seq (
 .block 1 (
 .seq (
 .reg [
 ⟨some 10, none, .mov (.t 8)⟩,
 ⟨some 5, none, .mov (.t 10)⟩] [0, 1, 5, 7, 8]) (
 .seq (
 .reg [
 ⟨some 11, none, .mov (.t 1)⟩,
 ⟨some 12, none, .mov (.t 0)⟩,
 ⟨some 13, none, .mov (.t 5)⟩,
 ⟨some 14, none, .ixa (.t 12) (.t 13) 2 none⟩,
 ⟨some 15, none, .load (.t 14) 2 true⟩,
 ⟨some 16, none, .clv false (.t 11) [.t 15]⟩] [0, 1, 5, 7, 8, 16]) (
 .cond (.t 16) (
 .seq (
 .reg [
 ⟨some 17, none, .mov (.t 5)⟩,
 ⟨some 4, none, .mov (.t 17)⟩] [4]) (
 .ret)) (
 .skip))))) (
 .reg [
 ⟨some 18, none, .bin .add (.t 8) (.k (.s (.int .i64 1)))⟩,
 ⟨some 8, none, .mov (.t 18)⟩] [0, 1, 7, 8]))))))) (
 .seq (
 .reg [
 ⟨some 4, none, .mov (.k (.s (.int .i64 (-1))))⟩] [4]) (
 .ret))),
 [.t 4], none⟩

/-- bailey/flow.Reads -/
def F190 : FnIR := ⟨11,
 .seq (
 .reg [
 ⟨some 2, none, .bxl (.t 0)⟩,
 ⟨some 3, none, .bxl (.t 1)⟩,
 ⟨some 4, none, .mov (.k (.s (.bool false)))⟩] [2, 3]) (
 .seq (
 .drw [
 ⟨some 5, none, .load (.t 3) 2 true⟩,
 ⟨some 6, none, .fad (.t 2) 0⟩,
 ⟨some 7, none, .load (.t 6) 2 true⟩,
 ⟨some 8, none, .call false 199 0 [.t 7]⟩,
 ⟨some 9, none, .bsl true 2 true [.s (.int .i64 0), .lit .nil []] 2 [(0, .t 5), (1, .t 8)]⟩,
 ⟨some 10, none, .call false 193 0 [.t 9]⟩,
 ⟨some 4, none, .mov (.t 10)⟩] [5] [] [4]) (
 .ret)),
 [.t 4], none⟩

/-- bailey/flow.Writes -/
def F191 : FnIR := ⟨13,
 .seq (
 .reg [
 ⟨some 2, none, .bxl (.t 0)⟩,
 ⟨some 3, none, .bxl (.t 1)⟩,
 ⟨some 4, none, .mov (.k (.s (.bool false)))⟩] [2, 3]) (
 .seq (
 .drw [
 ⟨some 5, none, .fad (.t 2) 0⟩,
 ⟨some 6, none, .load (.t 5) 2 true⟩,
 ⟨some 7, none, .load (.t 3) 2 true⟩,
 ⟨some 8, none, .fad (.t 2) 0⟩,
 ⟨some 9, none, .load (.t 8) 2 true⟩,
 ⟨some 10, none, .call false 199 0 [.t 9]⟩,
 ⟨some 11, none, .bsl true 2 true [.s (.int .i64 0), .lit .nil []] 3 [(0, .t 6), (1, .t 7), (2, .t 10)]⟩,
 ⟨some 12, none, .call false 193 0 [.t 11]⟩,
 ⟨some 4, none, .mov (.t 12)⟩] [7] [] [4]) (
 .ret)),
 [.t 4], none⟩

/-- (bailey/flow.Who).right -/
def F192 : FnIR := ⟨11,
 .seq (
 .reg [
 ⟨some 1, none, .bxl (.t 0)⟩,
 ⟨some 2, none, .mov (.k (.s (.bool false)))⟩] [1]) (
 .seq (
 .reg [
 ⟨some 3, none, .fad (.t 1) 0⟩,
 ⟨some 4, none, .load (.t 3) 2 true⟩,
 ⟨some 5, none, .call false 74 0 [.t 4]⟩,
 ⟨some 6, none, .mov (.t 5)⟩,
 ⟨some 7, some (6, true), .fad (.t 1) 2⟩,
 ⟨some 8, some (6, true), .load (.t 7) 2 true⟩,
 ⟨some 9, some (6, true), .call false 194 0 [.t 8]⟩,
 ⟨some 10, none, .pick (.t 6) (.t 9) (.k (.s (.bool false)))⟩,
 ⟨some 2, none, .mov (.t 10)⟩] [2]) (
 .ret)),
 [.t 2], none⟩

/-- bailey/flow.rises -/
def F193 : FnIR := ⟨21,
 .seq (
 .reg [
 ⟨some 2, none, .mov (.k (.s (.bool false)))⟩] [0]) (
 .seq (
 .seq (
 .reg [
 ⟨some 3, none, .mov (.k (.s (.int .i64 1)))⟩] [0, 3]) (
 .block 0 (
 .loop (
 .seq (
 .seq (
 .reg [
 ⟨some 4, none, .mov (.t 3)⟩,
 ⟨some 5, none, .mov (.t 0)⟩,
 ⟨some 6, none, .len (.t 5)⟩,
 ⟨some 7, none, .bin .lss (.t 4) (.t 6)⟩] [0, 3, 7]) (
 .cond (.t 7) (
 .skip) (
 .exit 0))) (
 .seq (
 .block 1 (
 .seq (
 .drw [
 ⟨some 10, none, .mov (.t 0)⟩,
 ⟨some 11, none, .mov (.t 3)⟩,
 ⟨some 12, none, .bin .sub (.t 11) (.k (.s (.int .i64 1)))⟩,
 ⟨some 13, none, .ixa (.t 10) (.t 12) 2 none⟩,
 ⟨some 14, none, .load (.t 13) 2 true⟩,
 ⟨some 15, none, .mov (.t 0)⟩,
 ⟨some 16, none, .mov (.t 3)⟩,
 ⟨some 17, none, .ixa (.t 15) (.t 16) 2 none⟩,
 ⟨some 18, none, .load (.t 17) 2 true⟩,
 ⟨some 19, none, .call false 224 0 [.t 14, .t 18]⟩,
 ⟨some 20, none, .un .not (.t 19)⟩] [9] [] [0, 3, 20]) (
 .cond (.t 20) (
 .seq (
 .reg [
 ⟨some 2, none, .mov (.k (.s (.bool false)))⟩] [2]) (
 .ret)) (
 .skip)))) (
 .reg [
 ⟨some 8, none, .mov (.t 3)⟩,
 ⟨some 9, none, .bin .add (.t 8) (.k (.s (.int .i64 1)))⟩,
 ⟨some 3, none, .mov (.t 9)⟩] [0, 3])))))) (
 .seq (
 .reg [
 ⟨some 2, none, .mov (.k (.s (.bool true)))⟩] [2]) (
 .ret))),
 [.t 2], none⟩

/-- bailey/flow.pure -/
def F194 : FnIR := ⟨11,
 .seq (
 .reg [
 ⟨some 1, none, .bxl (.t 0)⟩,
 ⟨some 2, none, .mov (.k (.s (.bool false)))⟩] [1]) (
 .seq (
 .reg [
 ⟨some 3, none, .load (.t 1) 2 true⟩,
 ⟨some 4, none, .call false 74 0 [.t 3]⟩,
 ⟨some 5, none, .mov (.t 4)⟩,
 ⟨some 6, some (5, true), .fad (.t 1) 1⟩,
 ⟨some 7, some (5, true), .load (.t 6) 1 false⟩,
 ⟨some 8, some (5, true), .call false 114 0 [.t 7, .k (.fn 225 [] [])]⟩,
 ⟨some 9, some (5, true), .un .not (.t 8)⟩,
 ⟨some 10, none, .pick (.t 5) (.t 9) (.k (.s (.bool false)))⟩,
 ⟨some 2, none, .mov (.t 10)⟩] [2]) (
 .ret)),
 [.t 2], none⟩

/-- bailey/dir.Fresh -/
def F195 : FnIR := ⟨20,
 .seq (
 .reg [
 ⟨some 1, none, .bxl (.t 0)⟩,
 ⟨some 2, none, .mov (.k (.s (.int .u64 0)))⟩,
 ⟨some 3, none, .mov (.k (.s (.int .i64 0)))⟩] [1]) (
 .seq (
 .seq (
 .reg [
 ⟨some 4, none, .fad (.t 1) 7⟩,
 ⟨some 5, none, .load (.t 4) 1 false⟩,
 ⟨some 6, none, .bin .geq (.t 5) (.k (.s (.int .i64 63)))⟩,
 ⟨some 7, none, .mov (.t 6)⟩,
 ⟨some 8, some (7, false), .fad (.t 1) 0⟩,
 ⟨some 9, some (7, false), .load (.t 8) 1 false⟩,
 ⟨some 10, some (7, false), .bin .geq (.t 9) (.k (.s (.int .u64 4398046511104)))⟩,
 ⟨some 11, none, .pick (.t 7) (.k (.s (.bool true))) (.t 10)⟩] [1, 11]) (
 .cond (.t 11) (
 .seq (
 .reg [
 ⟨some 2, none, .mov (.k (.s (.int .u64 0)))⟩,
 ⟨some 3, none, .mov (.k (.s (.int .i64 125)))⟩] [2, 3]) (
 .ret)) (
 .skip))) (
 .seq (
 .reg [
 ⟨some 12, none, .fad (.t 1) 0⟩,
 ⟨some 13, none, .load (.t 12) 1 false⟩,
 ⟨some 14, none, .bin .mul (.t 13) (.k (.s (.int .u64 64)))⟩,
 ⟨some 15, none, .fad (.t 1) 7⟩,
 ⟨some 16, none, .load (.t 15) 1 false⟩,
 ⟨some 17, none, .cvi .u64 (.t 16)⟩,
 ⟨some 18, none, .bin .add (.t 14) (.t 17)⟩,
 ⟨some 19, none, .bin .add (.t 18) (.k (.s (.int .u64 1)))⟩,
 ⟨some 2, none, .mov (.t 19)⟩,
 ⟨some 3, none, .mov (.k (.s (.int .i64 0)))⟩] [2, 3]) (
 .ret))),
 [.t 2, .t 3], none⟩

/-- bailey/dir.Used -/
def F196 : FnIR := ⟨19,
 .seq (
 .reg [
 ⟨some 1, none, .bxl (.t 0)⟩,
 ⟨some 2, none, .mov (.k (.s (.int .i64 0)))⟩] [1]) (
 .seq (
 .reg [
 ⟨some 3, none, .mov (.k (.s (.int .i64 1)))⟩] [1, 3]) (
 .seq (
 .seq (
 .reg [
 ⟨some 6, none, .fad (.t 1) 8⟩,
 ⟨some 7, none, .load (.t 6) 1 false⟩,
 ⟨some 8, none, .len (.t 7)⟩,
 ⟨some 9, none, .mov (.k (.s (.int .i64 0)))⟩] [3, 7, 8, 9]) (
 .block 0 (
 .loop (
 .seq (
 .reg [
 ⟨some 10, none, .bin .lss (.t 9) (.t 8)⟩] [3, 7, 8, 9, 10]) (
 .seq (
 .cond (.t 10) (
 .skip) (
 .exit 0)) (
 .seq (
 .block 1 (
 .seq (
 .reg [
 ⟨some 11, none, .ixa (.t 7) (.t 9) 2 none⟩,
 ⟨some 12, none, .load (.t 11) 2 true⟩,
 ⟨some 5, none, .alloc [.s (.int .u64 0), .s (.int .i64 0)]⟩,
 ⟨none, none, .store (.t 5) (.t 12) 2⟩] [3, 5, 7, 8, 9]) (
 .reg [
 ⟨some 13, none, .mov (.t 3)⟩,
 ⟨some 14, none, .fad (.t 5) 1⟩,
 ⟨some 15, none, .load (.t 14) 1 false⟩,
 ⟨some 16, none, .bin .add (.t 13) (.t 15)⟩,
 ⟨some 3, none, .mov (.t 16)⟩] [3, 7, 8, 9]))) (
 .reg [
 ⟨some 17, none, .bin .add (.t 9) (.k (.s (.int .i64 1)))⟩,
 ⟨some 9, none, .mov (.t 17)⟩] [3, 7, 8, 9]))))))) (
 .seq (
 .reg [
 ⟨some 18, none, .mov (.t 3)⟩,
 ⟨some 2, none, .mov (.t 18)⟩] [2]) (
 .ret)))),
 [.t 2], none⟩

/-- slices.Insert[[]bailey/api.Link,bailey/api.Link] -/
def F197 : FnIR := ⟨95,
 .seq (
 .reg [
 ⟨some 6, none, .mov (.k (.lit .nil []))⟩] [0, 1, 2]) (
 .seq (
 .reg [
 ⟨some 10, none, .mov (.t 0)⟩,
 ⟨some 11, none, .mov (.t 1)⟩,
 ⟨some 12, none, .slc (.t 10) (some (.t 11)) none none 2 true⟩] [0, 1, 2]) (
 .seq (
 .reg [
 ⟨some 13, none, .mov (.t 2)⟩,
 ⟨some 14, none, .len (.t 13)⟩,
 ⟨some 7, none, .mov (.t 14)⟩] [0, 1, 2, 7]) (
 .seq (
 .seq (
 .reg [
 ⟨some 15, none, .mov (.t 7)⟩,
 ⟨some 16, none, .bin .eql (.t 15) (.k (.s (.int .i64 0)))⟩] [0, 1, 2, 7, 16]) (
 .cond (.t 16) (
 .seq (
 .reg [
 ⟨some 17, none, .mov (.t 0)⟩,
 ⟨some 6, none, .mov (.t 17)⟩] [6]) (
 .ret)) (
 .skip))) (
 .seq (
 .reg [
 ⟨some 18, none, .mov (.t 0)⟩,
 ⟨some 19, none, .len (.t 18)⟩,
 ⟨some 8, none, .mov (.t 19)⟩] [0, 1, 2, 7, 8]) (
 .seq (
 .seq (
 .reg [
 ⟨some 20, none, .mov (.t 1)⟩,
 ⟨some 21, none, .mov (.t 8)⟩,
 ⟨some 22, none, .bin .eql (.t 20) (.t 21)⟩] [0, 1, 2, 7, 8, 22]) (
 .cond (.t 22) (
 .seq (
 .reg [
 ⟨some 23, none, .mov (.t 0)⟩,
 ⟨some 24, none, .mov (.t 2)⟩,
 ⟨some 25, none, .app false (.t 23) (.t 24) 2 16 true⟩,
 ⟨some 6, none, .mov (.t 25)⟩] [6]) (
 .ret)) (
 .skip))) (
 .seq (
 .seq (
 .reg [
 ⟨some 26, none, .mov (.t 8)⟩,
 ⟨some 27, none, .mov (.t 7)⟩,
 ⟨some 28, none, .bin .add (.t 26) (.t 27)⟩,
 ⟨some 29, none, .mov (.t 0)⟩,
 ⟨some 30, none, .cap (.t 29)⟩,
 ⟨some 31, none, .bin .gtr (.t 28) (.t 30)⟩] [0, 1, 2, 7, 8, 31]) (
 .cond (.t 31) (
 .seq (
 .reg [
 ⟨some 32, none, .mov (.t 0)⟩,
 ⟨some 33, none, .mov (.t 1)⟩,
 ⟨some 34, none, .slc (.t 32) none (some (.t 33)) none 2 true⟩,
 ⟨some 35, none, .mov (.t 8)⟩,
 ⟨some 36, none, .mov (.t 7)⟩,
 ⟨some 37, none, .bin .add (.t 35) (.t 36)⟩,
 ⟨some 38, none, .mov (.t 1)⟩,
 ⟨some 39, none, .bin .sub (.t 37) (.t 38)⟩,
 ⟨some 40, none, .bad⟩,
 ⟨some 9, none, .mov (.t 40)⟩] [0, 1, 2, 7, 9]) (
 .seq (
 .reg [
 ⟨some 41, none, .mov (.t 9)⟩,
 ⟨some 42, none, .mov (.t 1)⟩,
 ⟨some 43, none, .slc (.t 41) (some (.t 42)) none none 2 true⟩,
 ⟨some 44, none, .mov (.t 2)⟩,
 ⟨some 45, none, .cpy (.t 43) (.t 44) 2 true⟩] [0, 1, 7, 9]) (
 .seq (
 .drw [
 ⟨some 46, none, .mov (.t 9)⟩,
 ⟨some 47, none, .mov (.t 1)⟩,
 ⟨some 48, none, .mov (.t 7)⟩,
 ⟨some 49, none, .bin .add (.t 47) (.t 48)⟩,
 ⟨some 50, none, .slc (.t 46) (some (.t 49)) none none 2 true⟩,
 ⟨some 51, none, .mov (.t 0)⟩,
 ⟨some 52, none, .mov (.t 1)⟩,
 ⟨some 53, none, .slc (.t 51) (some (.t 52)) none none 2 true⟩,
 ⟨some 54, none, .cpy (.t 50) (.t 53) 2 true⟩] [] [] [9]) (
 .seq (
 .reg [
 ⟨some 55, none, .mov (.t 9)⟩,
 ⟨some 6, none, .mov (.t 55)⟩] [6]) (
 .ret))))) (
 .skip))) (
 .seq (
 .reg [
 ⟨some 56, none, .mov (.t 0)⟩,
 ⟨some 57, none, .mov (.t 8)⟩,
 ⟨some 58, none, .mov (.t 7)⟩,
 ⟨some 59, none, .bin .add (.t 57) (.t 58)⟩,
 ⟨some 60, none, .slc (.t 56) none (some (.t 59)) none 2 true⟩,
 ⟨some 0, none, .mov (.t 60)⟩] [0, 1, 2, 7, 8]) (
 .seq (
 .seq (
 .reg [
 ⟨some 61, none, .mov (.t 2)⟩,
 ⟨some 62, none, .mov (.t 0)⟩,
 ⟨some 63, none, .mov (.t 1)⟩,
 ⟨some 64, none, .mov (.t 7)⟩,
 ⟨some 65, none, .bin .add (.t 63) (.t 64)⟩,
 ⟨some 66, none, .slc (.t 62) (some (.t 65)) none none 2 true⟩,
 ⟨some 67, none, .call false 226 0 [.t 61, .t 66]⟩,
 ⟨some 68, none, .un .not (.t 67)⟩] [0, 1, 2, 7, 8, 68]) (
 .cond (.t 68) (
 .seq (
 .drw [
 ⟨some 69, none, .mov (.t 0)⟩,
 ⟨some 70, none, .mov (.t 1)⟩,
 ⟨some 71, none, .mov (.t 7)⟩,
 ⟨some 72, none, .bin .add (.t 70) (.t 71)⟩,
 ⟨some 73, none, .slc (.t 69) (some (.t 72)) none none 2 true⟩,
 ⟨some 74, none, .mov (.t 0)⟩,
 ⟨some 75, none, .mov (.t 1)⟩,
 ⟨some 76, none, .slc (.t 74) (some (.t 75)) none none 2 true⟩,
 ⟨some 77, none, .cpy (.t 73) (.t 76) 2 true⟩] [] [] [0, 1, 2]) (
 .seq (
 .reg [
 ⟨some 78, none, .mov (.t 0)⟩,
 ⟨some 79, none, .mov (.t 1)⟩,
 ⟨some 80, none, .slc (.t 78) (some (.t 79)) none none 2 true⟩,
 ⟨some 81, none, .mov (.t 2)⟩,
 ⟨some 82, none, .cpy (.t 80) (.t 81) 2 true⟩] [0]) (
 .seq (
 .reg [
 ⟨some 83, none, .mov (.t 0)⟩,
 ⟨some 6, none, .mov (.t 83)⟩] [6]) (
 .ret)))) (
 .skip))) (
 .seq (
 .reg [
 ⟨some 84, none, .mov (.t 0)⟩,
 ⟨some 85, none, .mov (.t 8)⟩,
 ⟨some 86, none, .slc (.t 84) (some (.t 85)) none none 2 true⟩,
 ⟨some 87, none, .mov (.t 2)⟩,
 ⟨some 88, none, .cpy (.t 86) (.t 87) 2 true⟩] [0, 1, 7]) (
 .seq (
 .reg [
 ⟨some 89, none, .mov (.t 0)⟩,
 ⟨some 90, none, .mov (.t 1)⟩,
 ⟨some 91, none, .slc (.t 89) (some (.t 90)) none none 2 true⟩,
 ⟨some 92, none, .mov (.t 7)⟩,
 ⟨some 93, none, .call false 227 0 [.t 91, .t 92]⟩] [0]) (
 .seq (
 .reg [
 ⟨some 94, none, .mov (.t 0)⟩,
 ⟨some 6, none, .mov (.t 94)⟩] [6]) (
 .ret)))))))))))),
 [.t 6], none⟩

/-- bailey/label.Join -/
def F198 : FnIR := ⟨8,
 .seq (
 .reg [
 ⟨some 2, none, .bxl (.t 0)⟩,
 ⟨some 3, none, .bxl (.t 1)⟩,
 ⟨some 4, none, .alloc [.s (.int .i64 0), .lit .nil []]⟩] [2, 3, 4]) (
 .seq (
 .reg [
 ⟨some 5, none, .load (.t 2) 2 true⟩,
 ⟨some 6, none, .load (.t 3) 2 true⟩,
 ⟨some 7, none, .call false 228 0 [.t 5, .t 6, .k (.fn 229 [] [])]⟩,
 ⟨none, none, .store (.t 4) (.t 7) 2⟩] [4]) (
 .ret)),
 [.c 4 2 true], none⟩

/-- bailey/label.Raise -/
def F199 : FnIR := ⟨5,
 .seq (
 .reg [
 ⟨some 1, none, .bxl (.t 0)⟩,
 ⟨some 2, none, .alloc [.s (.int .i64 0), .lit .nil []]⟩] [1, 2]) (
 .seq (
 .reg [
 ⟨some 3, none, .load (.t 1) 2 true⟩,
 ⟨some 4, none, .call false 230 0 [.t 3, .k (.s (.int .i64 0)), .k (.s (.int .i64 5))]⟩,
 ⟨none, none, .store (.t 2) (.t 4) 2⟩] [2]) (
 .ret)),
 [.c 2 2 true], none⟩

end Go.Mini.KT
